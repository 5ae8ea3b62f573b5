/- Contracts: is it a value (value.Check)? -/
import Derived.Test.YtemkcbopbinfmaaGreatDoorVE8
set_option linter.all false
namespace Go.VK
open Go Go.Proofs
set_option maxRecDepth 100000
set_option linter.unusedVariables false
set_option linter.unusedSimpArgs false

theorem unc1o_i {K : Cur (flat [.one .oq]) (Heap → Prop)} {a : Value} {h : Heap} (k : K a h) : unc (flat [.one .oq]) K (a, ()) h := k

theorem STN1 {h : Heap} {b t : Nat} {old v : Value} {bs : List Nat} {K : Heap → Prop} (hb : h[b]? = some (.cells #[old] t (0, 0))) (hv : oneC v = true) (hbs : ∀ x ∈ bs, b ≠ x)
    (k : ∀ h1, h1.size = h.size → (∀ c, c ≠ b → h1[c]? = h[c]?) → h1[b]? = some (.cells #[v] t (0, 0)) → K h1) : STN ⟨b, 0, none⟩ [v] 0 h bs K := by
  have hc : cell h ⟨b, 0, none⟩ = some old := by unfold cell; simp only [hb]; rfl
  have hf : frz h ⟨b, 0, none⟩ = false := by unfold frz; simp only [hb]; rfl
  refine ⟨hv, by show (cell h ⟨b, 0, none⟩).isSome = true; rw [hc]; rfl, hf, OFF_of fun x hx => hbs x hx, ?_⟩
  show K (put h ⟨b, 0, none⟩ v)
  have hk := put_known (cs := [old]) hb 0 v
  exact k _ (put_size _ _ _) (fun c hcb => put_ne fun e => hcb e.symm) (by simpa using hk)

theorem LEAVE1 {Z : List PanicEntry → Heap → Prop} {K : Heap → Prop} {h : Heap} {d : Nat} (h1 : h[d]? = some (.deferred (some []))) (k : ∀ h', h'.size = h.size → (∀ b, b ≠ d → h'[b]? = h[b]?) → K h') : LEAVE P Z K [.mk d] .returning h :=
  ⟨h1, k _ (by simp) fun b hb => setB_ne hb⟩
theorem LEAVE2 {Z : List PanicEntry → Heap → Prop} {K : Heap → Prop} {h : Heap} {d e : Nat} (h1 : h[d]? = some (.deferred (some []))) (h2 : h[e]? = some (.deferred (some []))) (hne : e ≠ d) (k : ∀ h', h'.size = h.size → (∀ b, b ≠ d → b ≠ e → h'[b]? = h[b]?) → K h') :
    LEAVE P Z K [.mk d, .mk e] .returning h :=
  ⟨h1, by rw [setB_ne hne]; exact h2, k _ (by simp) fun b hb hb2 => by rw [setB_ne hb2, setB_ne hb]⟩

theorem PUT1 {h : Heap} {b t : Nat} {old v : Value} {K : Heap → Prop} (hb : h[b]? = some (.cells #[old] t (0, 0))) (hv : oneC v = true)
    (k : ∀ h1, h1.size = h.size → (∀ c, c ≠ b → h1[c]? = h[c]?) → h1[b]? = some (.cells #[v] t (0, 0)) → K h1) : PUTN b [v] 0 h K := by
  refine ⟨hv, ?_⟩
  have hk := put_known (cs := [old]) hb 0 v
  exact k _ (put_size _ _ _) (fun c hcb => put_ne fun e => hcb e.symm) (by simpa using hk)

/-- The first thing that is wrong. -/
def firstBad : List V → Nat
  | [] => 0
  | x :: r => if ownE x ≠ 0 then ownE x else firstBad r

theorem firstBad_ok : ∀ {l : List V}, (∀ x ∈ l, ownE x = 0) → firstBad l = 0
  | [], _ => rfl
  | x :: r, h => by simp only [firstBad]; rw [if_neg (by simp [h x (by simp)])]; exact firstBad_ok fun y hy => h y (by simp [hy])
theorem firstBad_at : ∀ {l : List V} {x : V} {A : List V}, (∀ x ∈ l, ownE x = 0) → ownE x ≠ 0 → l ++ [x] <+: A → firstBad A = ownE x
  | [], x, A, _, hx, ⟨r, hr⟩ => by subst hr; simp [firstBad, hx]
  | y :: l, x, A, h, hx, ⟨r, hr⟩ => by
    subst hr
    simp only [List.cons_append, firstBad]
    rw [if_neg (by simp [h y (by simp)])]
    exact firstBad_at (l := l) (fun z hz => h z (by simp [hz])) hx ⟨r, by simp⟩

/-- What is wrong with a value. -/
def chk (v : V) : Nat := if deepB 8 v then 31 else if 512 < (pre v).length then 32 else firstBad (pre v)

theorem wt_pos (v : V) : 1 ≤ wt v := by obtain ⟨k, b, i, t, bs, l, f⟩ := v; simp only [wt]; omega

mutual
theorem wt_pre : ∀ (v : V), (pre v).length ≤ wt v ∧ ∀ x ∈ pre v, wt x ≤ wt v
  | .mk k b i t bs l f => by
    have h1 := wt_preL l
    have h2 := wt_preF f
    simp only [pre, wt, List.length_cons, List.length_append]
    refine ⟨by omega, fun x hx => ?_⟩
    rcases List.mem_cons.1 hx with rfl | hx
    · simp only [wt]; omega
    · rcases List.mem_append.1 hx with hx | hx
      · have := h1.2 x hx; omega
      · have := h2.2 x hx; omega
theorem wt_preL : ∀ (l : List V), (preL l).length ≤ wtL l ∧ ∀ x ∈ preL l, wt x ≤ wtL l
  | [] => by simp [preL]
  | v :: r => by
    have h1 := wt_pre v
    have h2 := wt_preL r
    simp only [preL, wtL, List.length_append]
    refine ⟨by omega, fun x hx => ?_⟩
    rcases List.mem_append.1 hx with hx | hx
    · have := h1.2 x hx; omega
    · have := h2.2 x hx; omega
theorem wt_preF : ∀ (l : List (List UInt8 × V)), (preF l).length ≤ wtF l ∧ ∀ x ∈ preF l, wt x ≤ wtF l
  | [] => by simp [preF]
  | (n, v) :: r => by
    have h1 := wt_pre v
    have h2 := wt_preF r
    simp only [preF, wtF, List.length_append]
    refine ⟨by omega, fun x hx => ?_⟩
    rcases List.mem_append.1 hx with hx | hx
    · have := h1.2 x hx; omega
    · have := h2.2 x hx; omega
end

theorem ownE_lt (v : V) : ownE v < 65536 := by
  obtain ⟨k, b, i, t, bs, l, f⟩ := v
  simp only [ownE]
  repeat' split
  all_goals decide

/-- Check -/
theorem spec84 {n : Nat} {h : Heap} {v : V} {c : Cv} (hn : n ≤ h.size) (h2 : 2 ≤ h.size) (hT : Tabs h) (rv : RV n h v c) (hw : wt v ≤ 2 ^ 50) :
    SPEC P 84 [c.v] [.one (.nt .u16)] h h.size fun x _ => x.1 = ((chk v : Nat) : Int) := by
  refine SPEC_of noNG Tryz.func84 (pl := pl84) (ps := [.agg [.nt .u8, .bl, .nt .i64, .tx, .sl, .sl, .sl]]) (c.k, c.b, c.i, c.t, c.bs, c.ls, c.fs, ()) (by kernel_rfl)
    (q84 (fun _ _ => False) c.k c.b c.i c.t c.bs c.ls c.fs h) (fun Q h => by rw [q84_eq] at h; exact h) ?_
  unfold q84
  refine ALLOC_r (.refl h.size h) (Nat.le_refl _) fun b1 h1 hb1 hs1 g1 _ _ => ?_
  refine ALLOC_r g1 (by omega) fun b2 h2' hb2 hs2 g2 _ hc2 => ?_
  refine CALL_r (spec129 v c 8 h2' (by omega) (RV.pre g2 hn _ _ rv) (by omega)) (kb2 (by omega) (by omega)) ?_
  rintro ⟨x, ⟨⟩⟩ h3 hs3 g3 hx
  simp only at hx
  subst hx
  have g03 : Pre h.size h h3 := g2.then g3 (by omega)
  have hb2c : h3[b2]? = some (.cells #[.int .u16 0] 34 (0, 0)) := by rw [g3.same _ (by omega)]; exact hc2
  refine COND_r (fun hc => ?_) (fun hc => ?_)
  · refine PUTN_r g03 (by omega) (by simp [oneC]) fun h4 hs4 g4 _ => ⟨g4, ?_⟩
    have hc : deepB 8 v = true := hc
    simp [chk, hc]
  have hD : deepB 8 v = false := hc
  refine ALLOC_r g03 (by omega) fun b3 h5 hb3 hs5 g5 g35 hc5 => ?_
  refine PUT1 hc5 (by simp [oneC]) fun h6 hs6 k6 hc6 => ?_
  have g6 : Pre h.size h h6 := ⟨by omega, fun i hi => by rw [k6 i (by omega)]; exact g5.same i hi⟩
  refine CALL_r (spec130 (h := h6)) (kb3 (by omega) (by omega) (by omega)) ?_
  rintro ⟨y, ⟨⟩⟩ h7 hs7 g7 ⟨b4, hb4, hs7', rfl, hc7⟩
  have g07 : Pre h.size h h7 := g6.then g7 (by omega)
  have rv7 : RV n h7 v c := RV.pre g07 hn _ _ rv
  have b2_7 : h7[b2]? = some (.cells #[.int .u16 0] 34 (0, 0)) := by rw [g7.same _ (by omega), k6 _ (by omega), g35.same _ (by omega)]; exact hb2c
  have b3_7 : h7[b3]? = some (.cells #[.int .i64 0] 3 (0, 0)) := by rw [g7.same _ (by omega)]; exact hc6
  have hlen := (wt_pre v).1
  refine unc1o_i ?_
  refine RANGEV_r (A := pre v) (O := fun i => i = b2 ∨ i = b3) (kb1 (by omega)) (fun i hi => by omega) (EACH_g (n := n) (b0 := b4) (by omega) rv7 hc7 (by omega) (fun i hi => by omega))
    (I := fun dn h' => dn.length ≤ 512 ∧ h'[b2]? = some (.cells #[.int .u16 0] 34 (0, 0)) ∧ h'[b3]? = some (.cells #[.int .i64 dn.length] 3 (0, 0)))
    (F := fun h' => 512 < (pre v).length ∧ h'[b2]? = some (.cells #[.int .u16 32] 34 (0, 0)))
    (fun dn X Y hX i1 hXY k => ⟨i1.1, by rw [k _ (by omega)]; exact i1.2.1, by rw [k _ (by omega)]; exact i1.2.2⟩)
    (fun X Y hX i1 hXY k => ⟨i1.1, by rw [k _ (by omega)]; exact i1.2⟩)
    (fun X hX k => ⟨by simp, by rw [k _ (by omega)]; exact b2_7, by rw [k _ (by omega)]; exact b3_7⟩) ?_ ?_ ?_
  · -- a round
    intro ready busy done R dn x cx d X hX hr hK hnc i1 rx hdn kT kF
    obtain ⟨i1, i2, i3⟩ := i1
    show BEGIN _ ready busy X _
    refine ⟨hr, ?_⟩
    have yb : (X.setIfInBounds (h7.size + 1) busy)[h7.size + 1]? = some busy := setB_eq hr
    have y2 : (X.setIfInBounds (h7.size + 1) busy)[b2]? = some (.cells #[.int .u16 0] 34 (0, 0)) := by rw [setB_ne (by omega)]; exact i2
    have y3 : (X.setIfInBounds (h7.size + 1) busy)[b3]? = some (.cells #[.int .i64 dn.length] 3 (0, 0)) := by rw [setB_ne (by omega)]; exact i3
    have ys : (X.setIfInBounds (h7.size + 1) busy).size = X.size := by simp
    have yo : ∀ b, b ≠ h7.size + 1 → (X.setIfInBounds (h7.size + 1) busy)[b]? = X[b]? := fun b hb => setB_ne hb
    generalize X.setIfInBounds (h7.size + 1) busy = Y at yb y2 y3 ys yo
    refine LD1 (s := .nt .i64) y3 (fun _ e => by rw [e]) ?_
    have ew : IntKind.wrap .i64 ((dn.length : Int) + 1) = ((dn.length + 1 : Nat) : Int) := by rw [wrap_small (by omega) (by omega)]; omega
    rw [ew]
    refine STN1 y3 (by simp [oneC]) (kb1 (by omega)) fun Z zs zo z3 => ?_
    refine LD1 (s := .nt .i64) z3 (fun _ e => by rw [e]) ?_
    refine COND_r (fun hc => ?_) (fun hc => ?_)
    · have hc : ((dn.length + 1 : Nat) : Int) > 512 := by simpa using hc
      refine STN1 (h := Z) (old := .int .u16 0) (t := 34) (by rw [zo _ (by omega)]; exact y2) (by simp [oneC]) (kb1 (by omega)) fun W ws wo w2 => ?_
      have wl : W[h7.size + 1]? = some busy := by rw [wo _ (by omega), zo _ (by omega)]; exact yb
      refine ⟨wl, kF _ ⟨by simp; omega, fun b hb ho => ?_⟩ (setB_eq wl) ⟨?_, ?_⟩⟩
      · rw [setB_ne (fun e => ho (.inr e)), wo _ (fun e => ho (.inl (.inl e))), zo _ (fun e => ho (.inl (.inr e))), yo _ (fun e => ho (.inr e))]
      · have := hdn.length_le
        simp at this
        omega
      · rw [setB_ne (by omega)]; exact w2
    · have hc : ¬ ((dn.length + 1 : Nat) : Int) > 512 := by simpa using hc
      have zl : Z[h7.size + 1]? = some busy := by rw [zo _ (by omega)]; exact yb
      refine ⟨zl, kT _ ⟨by simp; omega, fun b hb ho => ?_⟩ (setB_eq zl) ⟨?_, ?_, ?_⟩⟩
      · rw [setB_ne (fun e => ho (.inr e)), zo _ (fun e => ho (.inl (.inr e))), yo _ (fun e => ho (.inr e))]
      · simp; omega
      · rw [setB_ne (by omega), zo _ (by omega)]; exact y2
      · rw [setB_ne (by omega), z3]; simp
  · -- behind all rounds
    intro X Y xo xd xs ⟨i1, i2, i3⟩ ys yo
    have gY : Pre h.size h Y := ⟨by omega, fun b hb => by rw [yo _ (by omega), xo _ (by omega) (by omega)]; exact g07.same _ hb⟩
    have y2 : Y[b2]? = some (.cells #[.int .u16 0] 34 (0, 0)) := by rw [yo _ (by omega)]; exact i2
    have yd : Y[h7.size]? = some (.deferred (some [])) := by rw [yo _ (by omega)]; exact xd
    have hP : ¬ 512 < (pre v).length := by omega
    refine CALL_r (spec130 (h := Y)) (kb1 (by omega)) ?_
    rintro ⟨y, ⟨⟩⟩ h8 hs8 g8 ⟨b5, hb5, hs8', rfl, hc8⟩
    have g08 : Pre h.size h h8 := gY.then g8 (by omega)
    have b2_8 : h8[b2]? = some (.cells #[.int .u16 0] 34 (0, 0)) := by rw [g8.same _ (by omega)]; exact y2
    have d_8 : h8[h7.size]? = some (.deferred (some [])) := by rw [g8.same _ (by omega)]; exact yd
    refine unc1o_i ?_
    refine RANGEV_r (A := pre v) (O := fun i => i = b2) (kb1 (by omega)) (fun i hi => by omega) (EACH_g (n := n) (b0 := b5) (by omega) (RV.pre g08 hn _ _ rv) hc8 (by omega) (fun i hi => by omega))
      (I := fun dn h' => (∀ x ∈ dn, ownE x = 0) ∧ h'[b2]? = some (.cells #[.int .u16 0] 34 (0, 0)) ∧ Pre h.size h h')
      (F := fun h' => h'[b2]? = some (.cells #[.int .u16 (firstBad (pre v))] 34 (0, 0)))
      (fun dn X Y hX i1 hXY k => ⟨i1.1, by rw [k _ (by omega)]; exact i1.2.1, ⟨by have := i1.2.2.sz; omega, fun b hb => by rw [k _ (by omega)]; exact i1.2.2.same b hb⟩⟩)
      (fun X Y hX i1 hXY k => by rw [k _ (by omega)]; exact i1)
      (fun X hX k => ⟨by simp, by rw [k _ (by omega)]; exact b2_8, ⟨by omega, fun b hb => by rw [k _ (by omega)]; exact g08.same b hb⟩⟩) ?_ ?_ ?_
    · intro ready busy done R dn x cx d X hX hr hK hnc i1 rx hdn kT kF
      obtain ⟨i1, i2, i3⟩ := i1
      show ALLOC _ _ X _
      refine ALLOC_r (.refl X.size X) (Nat.le_refl _) fun b6 X1 hb6 xs1 p1 _ _ => ?_
      refine PUTN_r p1 (by omega) (by simp [oneC, Sl.v]) fun X2 xs2 p2 _ => ?_
      have hr2 : X2[h8.size + 1]? = some ready := by rw [p2.same _ (by omega)]; exact hr
      refine ⟨hr2, ?_⟩
      have rx2 : RV X.size X2 x cx := RV.pre p2 (Nat.le_refl _) _ _ rx
      have rxY : RV X.size (X2.setIfInBounds (h8.size + 1) busy) x cx := RV.sub (fun a v hc => cell_set hr2 hnc hc) _ _ rx2
      have yb : (X2.setIfInBounds (h8.size + 1) busy)[h8.size + 1]? = some busy := setB_eq hr2
      have ys : (X2.setIfInBounds (h8.size + 1) busy).size = X2.size := by simp
      have yo : ∀ b, b ≠ h8.size + 1 → (X2.setIfInBounds (h8.size + 1) busy)[b]? = X2[b]? := fun b hb => setB_ne hb
      generalize X2.setIfInBounds (h8.size + 1) busy = Y1 at yb ys yo rxY
      
      have gY1 : Pre h.size h Y1 := ⟨by omega, fun b hb => by rw [yo _ (by omega), p2.same _ (by omega)]; exact i3.same b hb⟩
      have hxw : wt x ≤ 2 ^ 50 := Nat.le_trans ((wt_pre v).2 x (hdn.subset (by simp))) hw
      refine CALL_r (spec131 (n := X.size) (by omega) (by omega) (hT.pre gY1 (by omega)) rxY hxw) (kb2 (by omega) (by omega)) ?_
      rintro ⟨e, ⟨⟩⟩ X3 xs3 g3' hx
      simp only at hx
      subst hx
      have z2 : X3[b2]? = some (.cells #[.int .u16 0] 34 (0, 0)) := by rw [g3'.same _ (by omega), yo _ (by omega), p2.same _ (by omega)]; exact i2
      have zl : X3[h8.size + 1]? = some busy := by rw [g3'.same _ (by omega)]; exact yb
      refine COND_r (fun hc => ?_) (fun hc => ?_)
      · have hc : ownE x ≠ 0 := by
          have : ¬ ((ownE x : Nat) : Int) = 0 := by simpa using hc
          omega
        refine STN1 z2 (by simp [oneC]) (kb2 (by omega) (by omega)) fun W ws wo w2 => ?_
        have wl : W[h8.size + 1]? = some busy := by rw [wo _ (by omega)]; exact zl
        refine ⟨wl, kF _ ⟨by simp; omega, fun b hb ho => ?_⟩ (setB_eq wl) ?_⟩
        · rw [setB_ne (fun e => ho (.inr e)), wo _ (fun e => ho (.inl e)), g3'.same _ (by omega), yo _ (fun e => ho (.inr e)), p2.same _ (by omega)]
        · rw [setB_ne (by omega), firstBad_at i1 hc hdn]; exact w2
      · have hc : ownE x = 0 := by
          have : ((ownE x : Nat) : Int) = 0 := by simpa using hc
          omega
        refine ⟨zl, kT _ ⟨by simp; omega, fun b hb ho => ?_⟩ (setB_eq zl) ⟨?_, ?_, ?_⟩⟩
        · rw [setB_ne (fun e => ho (.inr e)), g3'.same _ (by omega), yo _ (fun e => ho (.inr e)), p2.same _ (by omega)]
        · intro z hz
          rcases List.mem_append.1 hz with hz | hz
          · exact i1 z hz
          · rw [List.mem_singleton.1 hz]; exact hc
        · rw [setB_ne (by omega)]; exact z2
        · exact ⟨by simp; omega, fun b hb => by rw [setB_ne (by omega), g3'.same _ (by omega)]; exact gY1.same b hb⟩
    · intro X Y' xo xd xs ⟨i1, i2, i3⟩ ys yo
      refine STN1 (h := Y') (old := .int .u16 0) (t := 34) (by rw [yo _ (by omega)]; exact i2) (by simp [oneC]) (kb1 (by omega)) fun W ws wo w2 => ?_
      have w0 : W[h8.size]? = some (.deferred (some [])) := by rw [wo _ (by omega), yo _ (by omega)]; exact xd
      have w1 : W[h7.size]? = some (.deferred (some [])) := by rw [wo _ (by omega), yo _ (by omega), xo _ (by omega) (by omega)]; exact d_8
      refine LEAVE2 w0 w1 (by omega) fun U us uo => ?_
      refine LD1 (s := .nt .u16) (x := (0 : Int)) (t := 34) (f := (0, 0)) (by rw [uo _ (by omega) (by omega)]; exact w2) (fun _ e => by rw [e]) ⟨⟨by omega, fun b hb => ?_⟩, ?_⟩
      · rw [uo _ (by omega) (by omega), wo _ (by omega), yo _ (by omega)]; exact i3.same b hb
      · simp only [chk, hD, if_neg hP, firstBad_ok i1]; rfl
    · intro X Y' xo xd xs i2 ys yo
      have w0 : Y'[h8.size]? = some (.deferred (some [])) := by rw [yo _ (by omega)]; exact xd
      have w1 : Y'[h7.size]? = some (.deferred (some [])) := by rw [yo _ (by omega), xo _ (by omega) (by omega)]; exact d_8
      refine LEAVE2 w0 w1 (by omega) fun U us uo => ?_
      refine LD1 (s := .nt .u16) (x := ((firstBad (pre v) : Nat) : Int)) (t := 34) (f := (0, 0)) (by rw [uo _ (by omega) (by omega), yo _ (by omega)]; exact i2) (fun _ e => by rw [e]) ⟨⟨by omega, fun b hb => ?_⟩, ?_⟩
      · rw [uo _ (by omega) (by omega), yo _ (by omega), xo _ (by omega) (by omega)]; exact g08.same b hb
      · simp only [chk, hD, if_neg hP]; rfl
  · intro X Y xo xd xs ⟨i1, i2⟩ ys yo
    refine LEAVE1 (d := h7.size) (by rw [yo _ (by omega)]; exact xd) fun U us uo => ?_
    refine LD1 (s := .nt .u16) (x := (32 : Int)) (t := 34) (f := (0, 0)) (by rw [uo _ (by omega), yo _ (by omega)]; exact i2) (fun _ e => by rw [e]) ⟨⟨by omega, fun b hb => ?_⟩, ?_⟩
    · rw [uo _ (by omega), yo _ (by omega), xo _ (by omega) (by omega)]; exact g07.same _ hb
    · simp only [chk, hD, if_pos i1]; rfl

end Go.VK

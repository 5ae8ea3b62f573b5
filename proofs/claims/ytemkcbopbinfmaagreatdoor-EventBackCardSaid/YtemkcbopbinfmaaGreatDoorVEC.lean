/- Contracts: all values with copies (value.All); no document among them (key.keyed). -/
import Derived.Test.YtemkcbopbinfmaaGreatDoorVEB
set_option linter.all false
namespace Go.VK
open Go Go.Proofs
set_option maxRecDepth 100000
set_option linter.unusedSimpArgs false
set_option linter.unusedVariables false

mutual
theorem OV.rvs {lo hi : Nat} {h : Heap} {S : Nat → Prop} (hS : ∀ b, lo ≤ b → b < hi → S b) : ∀ (v : V) (c : Cv), OV lo hi h v c → RVS S hi h v c
  | .mk k b i t bs l f, c, ⟨h1, h2, m1, m2, m3, m4, ⟨_, _, _, _, _⟩, ⟨h0, h3⟩, ⟨h4, h5⟩, h6, h7⟩ =>
    ⟨h1, h2, ⟨h3, fun a ha _ => by have := h0.blk a ha; exact hS _ (by omega) (by omega)⟩, ⟨h4.sh.mono (by omega), OL.rls (n := hi) (fun b x y => hS b (by omega) (by omega)) (by omega) (fun a ha => by have := h4.blk a ha; exact ⟨by omega, hS _ (by omega) (by omega)⟩) l () _ h5⟩,
      h6.sh.mono (by omega), OF.rfs (n := hi) (fun b x y => hS b (by omega) (by omega)) (by omega) (fun a ha => by have := h6.blk a ha; exact ⟨by omega, hS _ (by omega) (by omega)⟩) f () _ h7⟩
theorem OL.rls {lo hi n : Nat} {h : Heap} {S : Nat → Prop} (hS : ∀ b, lo ≤ b → b < hi → S b) (hn : hi ≤ n) : {a : Option Addr} → (hb : ∀ a0, a = some a0 → a0.block < n ∧ S a0.block) → ∀ (l : List V) (_ : Unit) (i : Nat), OL lo hi h l a i → RLS S n h l a i
  | _, _, [], _, _, _ => trivial
  | a, hb, v :: r, _, i, ⟨m, _, _, ⟨a0, c, h1, h2, h3⟩, h4⟩ => ⟨⟨a0, c, h1, (hb a0 h1).1, (hb a0 h1).2, h2, RVS.mono (by omega) _ _ (OV.rvs (fun b x y => hS b x (by omega)) v c h3)⟩, OL.rls (fun b x y => hS b (by omega) y) hn hb r () (i + 1) h4⟩
theorem OF.rfs {lo hi n : Nat} {h : Heap} {S : Nat → Prop} (hS : ∀ b, lo ≤ b → b < hi → S b) (hn : hi ≤ n) : {a : Option Addr} → (hb : ∀ a0, a = some a0 → a0.block < n ∧ S a0.block) → ∀ (l : List (List UInt8 × V)) (_ : Unit) (i : Nat), OF lo hi h l a i → RFS S n h l a i
  | _, _, [], _, _, _ => trivial
  | a, hb, (nm, v) :: r, _, i, ⟨m, _, _, ⟨a0, s, c, h1, h2, h3, h4, h5⟩, h6⟩ => ⟨⟨a0, s, c, h1, (hb a0 h1).1, (hb a0 h1).2, h2, h3, h4, RVS.mono (by omega) _ _ (OV.rvs (fun b x y => hS b x (by omega)) v c h5)⟩, OF.rfs (fun b x y => hS b (by omega) y) hn hb r () (i + 1) h6⟩
end

/-- A range over All's function. -/
theorem ALL_g {S : Nat → Prop} {n : Nat} {h : Heap} {v : V} {c : Cv} {p : Addr} {O : Nat → Prop} (hn : n ≤ h.size) (rv : RVS S n h v c) (hc : CELLS h p c.cells) (hb0 : p.block < h.size) (hO : ∀ i, O i → ¬ S i ∧ i < h.size) (hS : ∀ i, S i → i < h.size) (hw : wt v ≤ 2 ^ 40)
    (ready : Obj) (y : Value) (I' : List V → Heap → Prop) (F' : Heap → Prop)
      (hI : ∀ dn h1 h', h.size + 2 ≤ h1.size → I' dn h1 → h1.size ≤ h'.size → (∀ b, b < h.size + 2 → h'[b]? = h1[b]?) → I' dn h')
      (hF : ∀ h1 h', h.size + 2 ≤ h1.size → F' h1 → h1.size ≤ h'.size → (∀ b, b < h.size + 2 → h'[b]? = h1[b]?) → F' h') (hone : oneC y = true)
      (hy : YLD (h.size + 2) y (fun i => O i ∨ i = h.size + 1) I' F' (pre v)) (h0 : I' [] ((h.push (.deferred (some []))).push ready)) :
      HF P (.func (.func 176) #[] #[.pointer (some p)]) [y] ((h.push (.deferred (some []))).push ready) fun e h2 => (∃ v, e = .returned v) ∧ Chg (fun i => O i ∨ i = h.size + 1) ((h.push (.deferred (some []))).push ready) h2 ∧ (I' (pre v) h2 ∨ F' h2) := by
  have g : Pre h.size h ((h.push (.deferred (some []))).push ready) := ((Pre.refl _ _).push (Nat.le_refl _) _).push (by simp) _
  refine ⟨176, #[], #[.pointer (some p)], rfl, by kernel_rfl, ?_⟩
  have hsz : ((h.push (.deferred (some []))).push ready).size = h.size + 2 := by simp
  generalize ((h.push (.deferred (some []))).push ready) = H at g hsz h0 ⊢
  have main : SPECO P 176 [y, .pointer (some p)] [] H (fun i => O i ∨ i = h.size + 1) fun _ h' => I' (pre v) h' ∨ F' h' := by
    refine SPECO_of noNG Tryz.func176 (pl := pl176) (ps := [.one .oq, .one .ad]) (y, p, ()) (by kernel_rfl)
      (q176 (fun _ _ => False) y p H) (fun Q h => by rw [q176_eq] at h; exact h) ?_
    unfold q176
    refine ⟨hone, ?_⟩
    refine ALLOC_r (.refl H.size H) (Nat.le_refl _) fun b2 h1 hb2 hs1 g1 _ _ => ?_
    have hc1 : CELLS h1 p c.cells := fun i hi => by rw [g1.cell (by rw [add_block]; omega), g.cell (by rw [add_block]; omega)]; exact hc i hi
    have rv1 : RVS S n h1 v c := RVS.sel (fun b hb => by have := hS b hb; rw [g1.same _ (by omega), g.same _ this]) _ _ rv
    refine LDN_V (n := h1.size) hc1 (by omega) (fun h' e => by rw [e]; exact .refl _ _) ?_
    refine CALL_r (spec130 (h := h1)) (kb1 (by omega)) ?_
    rintro ⟨q, ⟨⟩⟩ h2 hs2 g2 ⟨b3, hb3, hs2', rfl, hc2⟩
    refine unc1o_i ?_
    have g12 : Pre H.size H h2 := g1.then g2 (by omega)
    refine RANGEV_r (A := pre v) (O := fun i => O i ∨ i = h.size + 1) (I := I') (F := F') (kb1 ⟨by omega, fun e => e.elim (fun e => by have := (hO _ e).2; omega) (fun e => by omega)⟩) (fun i hi => hi.elim (fun e => by have := (hO _ e).2; omega) (fun e => by omega))
      (EACH_gS (S := S) (n := n) (p := ⟨b3, 0, none⟩) (by omega) (RVS.sel (fun b hb => g2.same b (by have := hS b hb; omega)) _ _ rv1) hc2 (by show b3 < _; omega) (fun i hi => hi.elim (fun e => ⟨(hO _ e).1, by have := (hO _ e).2; omega⟩) (fun e => ⟨fun hs => by have := hS _ hs; omega, by omega⟩)) (fun i hi => by have := hS i hi; omega))
      (fun dn X Y hX i1 hXY k => hI dn X Y (by omega) i1 hXY fun b hb => k b (by omega))
      (fun X Y hX i1 hXY k => hF X Y (by omega) i1 hXY fun b hb => k b (by omega))
      (fun X hX k => hI [] H X (by omega) h0 (by omega) fun b hb => by rw [k _ (by omega), g12.same _ (by omega)]) ?_ ?_ ?_
    · intro ready busy done R dn x cx d X hX hr hK hnc i1 rx hdn kT kF
      show ALLOC _ _ X _
      refine ALLOC_r (.refl X.size X) (Nat.le_refl _) fun b4 X1 hb4 xs1 p1 _ _ => ?_
      refine PUTN_r p1 (by omega) (by simp [oneC, Sl.v]) fun X2 xs2 p2 _ => ?_
      have hr2 : X2[h2.size + 1]? = some ready := by rw [p2.same _ (by omega)]; exact hr
      refine ⟨hr2, ?_⟩
      have rx2 : RV X.size X2 x cx := RV.pre p2 (Nat.le_refl _) _ _ rx
      have rxY : RV X.size (X2.setIfInBounds (h2.size + 1) busy) x cx := RV.sub (fun a v hc => cell_set hr2 hnc hc) _ _ rx2
      have yb : (X2.setIfInBounds (h2.size + 1) busy)[h2.size + 1]? = some busy := setB_eq hr2
      have ys : (X2.setIfInBounds (h2.size + 1) busy).size = X2.size := by simp
      have yo : ∀ b, b ≠ h2.size + 1 → (X2.setIfInBounds (h2.size + 1) busy)[b]? = X2[b]? := fun b hb => setB_ne hb
      generalize X2.setIfInBounds (h2.size + 1) busy = Y1 at yb ys yo rxY
      refine ⟨fun X => KEEP Y1 X [b2, b4], KEEP_of fun _ _ => rfl, fun _ h => h, ?_⟩
      have hxw : wt x ≤ 2 ^ 40 := Nat.le_trans ((wt_pre v).2 x (hdn.subset (by simp))) hw
      refine CALL_r (spec128 x cx Y1 (by omega) rxY hxw) (kb2 (by omega) (by omega)) ?_
      rintro ⟨y1, y2, y3, y4, y5, y6, y7, ⟨⟩⟩ Z hsZ gZ ov
      refine unc7_i ?_
      refine SS_r (gZ.keep (kb2 (by omega) (by omega))) ?_
      generalize hcv : Cv.of (y1, y2, y3, y4, y5, y6, y7, ()) = cv at ov
      have hcv2 : (Value.agg #[Value.int .u8 y1, .bool y2, .int .i64 y3, .string y4, y5.v, y6.v, y7.v]) = cv.v := by rw [← hcv]; rfl
      rw [hcv2]
      have oOb : ∀ b, h.size + 2 ≤ b → ¬ (O b ∨ b = h.size + 1) := fun b hb e => e.elim (fun e => by have := (hO _ e).2; omega) (fun e => by omega)
      have iZ : I' dn Z := hI dn X Z (by omega) i1 (by omega) fun b hb => by rw [gZ.same _ (by omega), yo _ (by omega), p2.same _ (by omega)]
      refine CALLV_h (hy dn x cv d Z (by omega) iZ (OV.rv _ _ ov) hdn) (kb2 ⟨by omega, oOb _ (by omega)⟩ ⟨by omega, oOb _ (by omega)⟩) ?_
      intro b W gW q1 q2
      have sW : ∀ b, h.size + 2 ≤ b → b < Z.size → W[b]? = Z[b]? := fun b x y => gW.same b y (oOb b x)
      have hsW := gW.sz
      refine SS_r (KEEP_of (kb2 ?_ ?_)) ?_
      · rw [sW _ (by omega) (by omega), gZ.same _ (by omega)]
      · rw [sW _ (by omega) (by omega), gZ.same _ (by omega)]
      have wl : W[h2.size + 1]? = some busy := by rw [sW _ (by omega) (by omega), gZ.same _ (by omega)]; exact yb
      have gXW : ∀ (o : Obj), Chg (fun i => (O i ∨ i = h.size + 1) ∨ i = h2.size + 1) X (W.setIfInBounds (h2.size + 1) o) := fun o => ⟨by simp; omega, fun b hb ho => by
        rw [setB_ne (fun e => ho (.inr e)), gW.same b (by omega) (fun e => ho (.inl e)), gZ.same _ (by omega), yo _ (fun e => ho (.inr e)), p2.same _ (by omega)]⟩
      have stab : ∀ (o : Obj), ∀ b, b < h.size + 2 → (W.setIfInBounds (h2.size + 1) o)[b]? = W[b]? := fun o b hb => setB_ne (by omega)
      refine COND_r (fun hc => ⟨wl, kF _ (gXW _) (setB_eq wl) ?_⟩) (fun hc => ⟨wl, kT _ (gXW _) (setB_eq wl) ?_⟩)
      · exact hF W _ (by omega) (q2 (by simpa using hc)) (by simp) (stab _)
      · exact hI _ W _ (by omega) (q1 (by simpa using hc)) (by simp) (stab _)
    · intro X Y xo xd xs i1 ys yo
      have yd : Y[h2.size]? = some (.deferred (some [])) := by rw [yo _ (by omega)]; exact xd
      refine LEAVE1 yd fun U us uo => ⟨⟨by omega, fun b hb ho => ?_⟩, .inl (hI _ X U (by omega) i1 (by omega) fun b hb => by rw [uo _ (by omega), yo _ (by omega)])⟩
      rw [uo _ (by omega), yo _ (by omega), xo _ (by omega) ho, g12.same _ hb]
    · intro X Y xo xd xs i1 ys yo
      have yd : Y[h2.size]? = some (.deferred (some [])) := by rw [yo _ (by omega)]; exact xd
      refine LEAVE1 yd fun U us uo => ⟨⟨by omega, fun b hb ho => ?_⟩, .inr (hF X U (by omega) i1 (by omega) fun b hb => by rw [uo _ (by omega), yo _ (by omega)])⟩
      rw [uo _ (by omega), yo _ (by omega), xo _ (by omega) ho, g12.same _ hb]
  unfold SPECO CALL at main
  refine HC.mono main ?_
  intro e h' hh
  cases e with
  | returned v =>
    obtain ⟨x, rfl, _, hx⟩ := hh
    exact ⟨⟨_, rfl⟩, hx⟩
  | panicked c => exact hh.elim
  | outgrown => exact hh.elim

/-- All -/
theorem spec147 {n : Nat} {h : Heap} {v : V} {c : Cv} (hn : n ≤ h.size) (rv : RV n h v c) (hw : wt v ≤ 2 ^ 40) : SPEC P 147 [c.v] [.one .oq] h h.size fun x h' =>
    ∃ b c', h.size ≤ b ∧ b < h'.size ∧ x.1 = .func (.func 176) #[] #[.pointer (some ⟨b, 0, none⟩)] ∧ CELLS h' ⟨b, 0, none⟩ (Cv.cells c') ∧ RVS (fun b => h.size ≤ b ∧ b < h'.size) h'.size h' v c' := by
  refine SPEC_of_k noNG Tryz.func147 (pl := pl147) (ps := VT) (c.k, c.b, c.i, c.t, c.bs, c.ls, c.fs, ()) (by kernel_rfl)
    (q147 (fun _ _ => False) c.k c.b c.i c.t c.bs c.ls c.fs h) (by kernel_rfl) ?_
  unfold q147
  refine ALLOC_r (.refl h.size h) (Nat.le_refl _) fun b3 h1 hb3 hs1 g1 _ hc => ?_
  refine CALL_r (spec128 v c h1 (by omega) (RV.pre g1 hn _ _ rv) hw) (kb1 (by omega)) ?_
  rintro ⟨y1, y2, y3, y4, y5, y6, y7, ⟨⟩⟩ h2 hs2 g2 ov
  refine unc7_i ?_
  generalize hcv : Cv.of (y1, y2, y3, y4, y5, y6, y7, ()) = cv at ov
  have hcv2 : [Value.int .u8 y1, .bool y2, .int .i64 y3, .string y4, y5.v, y6.v, y7.v] = cv.cells := by rw [← hcv]; rfl
  rw [hcv2]
  have hc2 := (g2.same b3 (by omega)).trans hc
  refine PUTN_k (g1.then g2 (by omega)) (by omega) hc2 (by simp) (by simp [oneC, Sl.v]) fun h3 hs3 g3 k3 hc3 => ?_
  refine ⟨g3, b3, cv, by omega, by omega, rfl, LDN_known (t := 27) (by rw [hc3]; simp [splice]), ?_⟩
  refine RVS.mono (n := h2.size) (by omega) _ _ (OV.rvs (fun b x y => ⟨by omega, by omega⟩) _ _ (OV.keep (fun b x y => k3 _ (by omega)) _ _ ov))

/-- No document is among them. -/
def keyedB (v : V) : Bool := (pre v).all fun | .mk k _ _ _ _ _ _ => k != 7

/-- keyed -/
theorem spec116 {n : Nat} {h : Heap} {v : V} {c : Cv} (hn : n ≤ h.size) (rv : RV n h v c) (hw : wt v ≤ 2 ^ 40) : SPEC P 116 [c.v] [.one .bl] h h.size fun x _ => x.1 = keyedB v := by
  refine SPEC_of noNG Tryz.func116 (pl := pl116) (ps := VT) (c.k, c.b, c.i, c.t, c.bs, c.ls, c.fs, ()) (by kernel_rfl)
    (q116 (fun _ _ => False) c.k c.b c.i c.t c.bs c.ls c.fs h) (fun Q h => by rw [q116_eq] at h; exact h) ?_
  unfold q116
  refine ALLOC_r (.refl h.size h) (Nat.le_refl _) fun b1 h1 hb1 hs1 g1 _ _ => ?_
  refine ALLOC_r g1 (by omega) fun b2 h2 hb2 hs2 g2 _ hc2 => ?_
  refine CALL_r (spec147 (n := n) (by omega) (RV.pre g2 hn _ _ rv) hw) (kb2 (by omega) (by omega)) ?_
  rintro ⟨q, ⟨⟩⟩ h3 hs3 g3 ⟨b0, c', hb0, hb0', rfl, hc3, rs⟩
  refine unc1o_i ?_
  have g03 : Pre h.size h h3 := g2.then g3 (by omega)
  have b2_3 : h3[b2]? = some (.cells #[.bool false] 4 (0, 0)) := by rw [g3.same _ (by omega)]; exact hc2
  refine RANGEV_r (A := pre v) (O := fun i => i = b2) (kb1 ⟨by omega, by omega⟩) (fun i hi => by omega)
    (ALL_g (O := fun i => i = b2) (Nat.le_refl _) rs hc3 hb0' (fun i hi => ⟨by omega, by omega⟩) (fun i hi => hi.2) hw)
    (I := fun dn h' => (∀ x ∈ dn, (match x with | .mk k _ _ _ _ _ _ => k != 7) = true) ∧ h'[b2]? = some (.cells #[.bool false] 4 (0, 0)))
    (F := fun h' => keyedB v = false ∧ h'[b2]? = some (.cells #[.bool false] 4 (0, 0)))
    (fun dn X Y hX i1 hXY k => ⟨i1.1, by rw [k _ (by omega)]; exact i1.2⟩)
    (fun X Y hX i1 hXY k => ⟨i1.1, by rw [k _ (by omega)]; exact i1.2⟩)
    (fun X hX k => ⟨by simp, by rw [k _ (by omega)]; exact b2_3⟩) ?_ ?_ ?_
  · intro ready busy done R dn x cx d X hX hr hK hnc i1 rx hdn kT kF
    obtain ⟨i1, i2⟩ := i1
    show ALLOC _ _ X _
    refine ALLOC_r (.refl X.size X) (Nat.le_refl _) fun b4 X1 hb4 xs1 p1 _ _ => ?_
    refine PUTN_r p1 (by omega) (by simp [oneC, Sl.v]) fun X2 xs2 p2 _ => ?_
    have hr2 : X2[h3.size + 1]? = some ready := by rw [p2.same _ (by omega)]; exact hr
    refine ⟨hr2, ?_⟩
    have yb : (X2.setIfInBounds (h3.size + 1) busy)[h3.size + 1]? = some busy := setB_eq hr2
    have ys : (X2.setIfInBounds (h3.size + 1) busy).size = X2.size := by simp
    have yo : ∀ b, b ≠ h3.size + 1 → (X2.setIfInBounds (h3.size + 1) busy)[b]? = X2[b]? := fun b hb => setB_ne hb
    generalize X2.setIfInBounds (h3.size + 1) busy = Y1 at yb ys yo
    have y2 : Y1[b2]? = some (.cells #[.bool false] 4 (0, 0)) := by rw [yo _ (by omega), p2.same _ (by omega)]; exact i2
    obtain ⟨k, b, i, t, bs, l, f⟩ := x
    have ek : cx.k = (k : Int) := rx.1.1
    have ek7 : (cx.k == 7) = (k == 7) := by rw [ek]; exact ckN k 7
    refine COND_r (fun hc => ?_) (fun hc => ?_)
    · have hc : (k == 7) = true := by rw [← ek7]; exact hc
      refine STN1 y2 (by simp [oneC]) (kb2 (by omega) (by omega)) fun W ws wo w2 => ?_
      have wl : W[h3.size + 1]? = some busy := by rw [wo _ (by omega)]; exact yb
      refine ⟨wl, kF _ ⟨by simp; omega, fun b hb ho => ?_⟩ (setB_eq wl) ⟨?_, ?_⟩⟩
      · rw [setB_ne (fun e => ho (.inr e)), wo _ (fun e => ho (.inl e)), yo _ (fun e => ho (.inr e)), p2.same _ (by omega)]
      · have hm : (V.mk k b i t bs l f) ∈ pre v := hdn.subset (by simp)
        unfold keyedB
        rw [List.all_eq_false]
        exact ⟨_, hm, by simpa using hc⟩
      · rw [setB_ne (by omega)]; exact w2
    · have hc : (k == 7) = false := by rw [← ek7]; exact hc
      refine ⟨yb, kT _ ⟨by simp; omega, fun b hb ho => ?_⟩ (setB_eq yb) ⟨?_, ?_⟩⟩
      · rw [setB_ne (fun e => ho (.inr e)), yo _ (fun e => ho (.inr e)), p2.same _ (by omega)]
      · intro z hz
        rcases List.mem_append.1 hz with hz | hz
        · exact i1 z hz
        · rw [List.mem_singleton.1 hz]; simpa using hc
      · rw [setB_ne (by omega)]; exact y2
  · intro X Y xo xd xs ⟨i1, i2⟩ ys yo
    refine STN1 (h := Y) (old := .bool false) (t := 4) (by rw [yo _ (by omega)]; exact i2) (by simp [oneC]) (kb1 (by omega)) fun W ws wo w2 => ?_
    refine LEAVE1 (d := h3.size) (by rw [wo _ (by omega), yo _ (by omega)]; exact xd) fun U us uo => ?_
    refine LD1 (s := .bl) (x := true) (t := 4) (f := (0, 0)) (by rw [uo _ (by omega)]; exact w2) (fun _ e => by rw [e]) ⟨⟨by omega, fun b hb => ?_⟩, ?_⟩
    · rw [uo _ (by omega), wo _ (by omega), yo _ (by omega), xo _ (by omega) (by omega)]; exact g03.same _ hb
    · exact (List.all_eq_true.2 i1).symm
  · intro X Y xo xd xs ⟨i1, i2⟩ ys yo
    refine LEAVE1 (d := h3.size) (by rw [yo _ (by omega)]; exact xd) fun U us uo => ?_
    refine LD1 (s := .bl) (x := false) (t := 4) (f := (0, 0)) (by rw [uo _ (by omega), yo _ (by omega)]; exact i2) (fun _ e => by rw [e]) ⟨⟨by omega, fun b hb => ?_⟩, i1.symm⟩
    rw [uo _ (by omega), yo _ (by omega), xo _ (by omega) (by omega)]; exact g03.same _ hb

end Go.VK

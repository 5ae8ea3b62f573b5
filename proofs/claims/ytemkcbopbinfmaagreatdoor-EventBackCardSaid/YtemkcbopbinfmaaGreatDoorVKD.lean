/- The walk is sound for operations that leave memory as it is, one by one. -/
import Derived.Test.YtemkcbopbinfmaaGreatDoorVKC
import Derived.Laws.BytesString
set_option linter.all false
namespace Go.VK
open Go

variable {P : Program}

/-- What is shown of an operation that leaves memory as it is: one value, in every memory of the class. -/
def Yv (P : Program) (S : Heap → Prop) (a : Act) (o : Oper) (loc : List (Nat × LocI)) (K : Ent → Prop) : Prop :=
  ∃ v e, (∀ w : World, S w.heap → (execOp a.eval o).run P w = .ok (.value v) w) ∧ EntOk loc e v ∧ K e

theorem Yv.of {S : Heap → Prop} {a : Act} {o : Oper} {loc : List (Nat × LocI)} {K : Ent → Prop} {s : Sem Value} (hs : execOp a.eval o = (do pure (.value (← s)))) {v : Value} {e : Ent}
    (hr : ∀ w : World, S w.heap → s.run P w = .ok v w) (he : EntOk loc e v) (hK : K e) : Yv P S a o loc K :=
  ⟨v, e, fun w hw => by rw [hs]; simp [hr w hw], he, hK⟩

section
variable {S : Heap → Prop} {st : St} {K : Ent → Prop} {a : Act} {o : Oper}

theorem givV_ok {r : Option Value} (h : givV r K) : ∃ v, r = some v ∧ K (.val v) := by
  unfold givV at h
  split at h
  · exact ⟨_, rfl, h⟩
  · exact h.elim

theorem run_sliceBound (k : IntKind) (i : Int) (y : Nat) (c : BoundsCode) (h0 : 0 ≤ i) (h1 : i ≤ y) (w : World) : (Instr.sliceBound (.int k i) y c).run P w = .ok i.toNat w := by
  simp [Instr.sliceBound, asIntOf, h0, h1]

/-- An operand that may be missing, and its number. -/
def Opt (x : Option Value) (o : Option Int) : Prop := (o = none ∧ x = none) ∨ ∃ k i, o = some i ∧ x = some (.int k i)

theorem intO_ok (hE : EnvOk st a) {x : Option Operand} {o : Option Int} (h : intO st x = some o) : Opt (x.map a.eval) o := by
  unfold intO at h
  split at h
  · cases h; exact .inl ⟨rfl, rfl⟩
  · rename_i y
    split at h
    · rename_i n hn
      cases h
      obtain ⟨k, hk⟩ := hE.int hn
      exact .inr ⟨k, n, rfl, by simp [hk]⟩
    · cases h

theorem sliceBounds_ok {isS : Bool} {len cap : Nat} {lo hi mx : Option Value} {lo' hi' mx' : Option Int} (hl : Opt lo lo') (hh : Opt hi hi') (hm : Opt mx mx') (hbad : hi' = none → mx' = none)
    {K : Nat → Nat → Nat → Prop} (h : SLBo mx' cap cap fun m => SLBo hi' m len fun h => SLBo lo' h 0 fun l => K l h m) :
    ∃ l h m, (∀ w : World, (Instr.sliceBounds isS len cap lo hi mx).run P w = .ok (l, h, m) w) ∧ K l h m := by
  rcases hm with ⟨rfl, rfl⟩ | ⟨km, m, rfl, rfl⟩ <;> rcases hh with ⟨rfl, rfl⟩ | ⟨kh, hi, rfl, rfl⟩ <;> rcases hl with ⟨rfl, rfl⟩ | ⟨kl, lo, rfl, rfl⟩ <;> simp only [SLBo] at h
  · exact ⟨_, _, _, fun w => by simp [Instr.sliceBounds], h⟩
  · obtain ⟨a1, a2, h⟩ := h
    exact ⟨_, _, _, fun w => by simp [Instr.sliceBounds, run_sliceBound _ _ _ _ a1 a2], h⟩
  · obtain ⟨b1, b2, h⟩ := h
    exact ⟨_, _, _, fun w => by simp [Instr.sliceBounds, run_sliceBound _ _ _ _ b1 b2], h⟩
  · obtain ⟨b1, b2, a1, a2, h⟩ := h
    exact ⟨_, _, _, fun w => by simp [Instr.sliceBounds, run_sliceBound _ _ _ _ b1 b2, run_sliceBound _ _ _ _ a1 a2], h⟩
  · cases hbad rfl
  · cases hbad rfl
  · obtain ⟨c1, c2, b1, b2, h⟩ := h
    exact ⟨_, _, _, fun w => by simp [Instr.sliceBounds, run_sliceBound _ _ _ _ c1 c2, run_sliceBound _ _ _ _ b1 b2], h⟩
  · obtain ⟨c1, c2, b1, b2, a1, a2, h⟩ := h
    exact ⟨_, _, _, fun w => by simp [Instr.sliceBounds, run_sliceBound _ _ _ _ c1 c2, run_sliceBound _ _ _ _ b1 b2, run_sliceBound _ _ _ _ a1 a2], h⟩

theorem run_sliceAt {t : TypeId} {d : TypeDesc} (hd : P.underlying t = some d) (hn : ∀ n e, d ≠ .array n e) (x : Value) (lo hi mx : Option Value) (w : World) :
    (Instr.sliceAt t x lo hi mx).run P w = (Instr.slice t x lo hi mx).run P w := by
  simp only [Instr.sliceAt, Sem.run_bind, run_underlying' hd, Result.andThen_ok]

theorem slW_ok {t : TypeId} {x : Operand} {lo hi mx : Option Operand} (hE : EnvOk st a) (h : slW P t x lo hi mx st K) :
    ∃ v e, (∀ w : World, (Instr.sliceAt t (a.eval x) (lo.map a.eval) (hi.map a.eval) (mx.map a.eval)).run P w = .ok v w) ∧ EntOk st.loc e v ∧ K e := by
  unfold slW at h
  split at h
  case h_2 => exact h.elim
  rename_i l0 h0 m0 hl hh hm
  have hl := intO_ok hE hl
  have hh := intO_ok hE hh
  have hm := intO_ok hE hm
  split at h
  · rename_i s hd hx
    have hx' := hE.value hx
    split at h
    case h_2 => exact h.elim
    have hmx : mx.map a.eval = none := by rcases hm with ⟨_, h⟩ | ⟨_, _, h, _⟩; exact h; cases h
    rw [hx', hmx]
    rw [hmx] at hm
    obtain ⟨l, hN, m, hr, h⟩ := sliceBounds_ok (P := P) (isS := false) (len := s.size) (cap := s.size) hl hh hm (fun _ => rfl) (K := fun l h _ => K (.val (.string (s.extract l h)))) (by simpa only [SLBo, SLS] using h)
    refine ⟨.string (s.extract l hN), .val (.string (s.extract l hN)), fun w => ?_, rfl, h⟩
    rw [run_sliceAt hd (fun _ _ => by simp)]
    simp [Instr.slice, run_underlying' hd, hr w]
  · rename_i e n0 n c hd hx
    have hx' := hE.value hx
    split at h
    · exact h.elim
    · rename_i hi0 mx0 _ _ _ _ hbad hsz _ _
      obtain ⟨l, hN, m, hr, h⟩ := sliceBounds_ok (P := P) (isS := true) hl hh hm (fun e => by
        cases mx0 with
        | none => rfl
        | some z => exact (hbad z e rfl).elim) h
      rw [hx']
      refine ⟨_, .val _, fun w => ?_, rfl, h⟩
      rw [run_sliceAt hd (fun _ _ => by simp)]
      simp [Instr.slice, run_underlying' hd, hr w, run_sizeO hsz w]
    · exact h.elim
  · exact h.elim

theorem nilK_const {y : Operand} {k : Nat} (h : nilK y = k) : (k = 1 → y = .const (.pointer none)) ∧ (k = 2 → ∃ n c, y = .const (.slice none n c)) ∧ (k = 3 → y = .const (.map none)) ∧
    (k = 4 → y = .const .nilIface) ∧ (k = 5 → y = .const .nilFunc) := by
  subst h
  unfold nilK
  split <;> simp

theorem bind_guard {g : Sem Unit} {s : Sem Value} {v : Value} {w : World} (hg : g.run P w = .ok () w) (hs : s.run P w = .ok v w) : (do g; s : Sem Value).run P w = .ok v w := by
  simp [hg, hs]

theorem binOp_nil_of {op : BinOp} {t : TypeId} {x y : Operand} {b : Bool} {v u : Value} (hv : eqB op b = some v) (hx : a.eval x = u)
    (h1 : ∀ k n, u ≠ .int k n) (h2 : ∀ s, u ≠ .string s) (h3 : ∀ k s, u ≠ .float k s) (h4 : ∀ k s r, u ≠ .complex k s r) (h5 : ∀ cs, u ≠ .agg cs) (h6 : u = .nilIface → ∃ c, y = .const c) (w : World)
    (h : (Op.equal t u (a.eval y)).run P w = .ok b w) : (do eqGuard op t x y (a.eval x) (a.eval y); binOp op t (a.eval x) (a.eval y) : Sem Value).run P w = .ok v w := by
  rw [hx]
  have hg : (eqGuard op t x y u (a.eval y)).run P w = .ok () w := by
    by_cases hn : u = .nilIface
    · obtain ⟨c, rfl⟩ := h6 hn
      subst hn
      exact eqGuard_nil ..
    · exact eqGuard_plain _ _ _ _ _ _ _ hn h5
  exact bind_guard hg (binOp_eq hv w h1 h2 h3 h4 h)

theorem equal_step (t : TypeId) (x y : Value) : Op.equal t x y = Op.equalIn (9999 + 1) t x y := rfl

theorem equal_pointer {t e : TypeId} (hd : P.underlying t = some (.pointer e)) (q : Option Addr) (w : World) : (Op.equal t (.pointer q) (.pointer none)).run P w = .ok q.isNone w := by
  rw [equal_step, Op.equalIn]
  cases q <;> simp [run_underlying' hd]
theorem equal_slice {t e : TypeId} (hd : P.underlying t = some (.slice e)) (q : Option Addr) (n c n' c' : Nat) (w : World) : (Op.equal t (.slice q n c) (.slice none n' c')).run P w = .ok q.isNone w := by
  rw [equal_step, Op.equalIn]
  cases q <;> simp [run_underlying' hd]
theorem equal_map {t e e' : TypeId} (hd : P.underlying t = some (.map e e')) (q : Option Nat) (w : World) : (Op.equal t (.map q) (.map none)).run P w = .ok q.isNone w := by
  rw [equal_step, Op.equalIn]
  cases q <;> simp [run_underlying' hd]
theorem equal_iface0 {t : TypeId} {ms} (hd : P.underlying t = some (.interface ms)) (w : World) : (Op.equal t .nilIface .nilIface).run P w = .ok true w := by
  rw [equal_step, Op.equalIn]; simp [run_underlying' hd]
theorem equal_iface1 {t : TypeId} {ms} (hd : P.underlying t = some (.interface ms)) (u : TypeId) (v : Value) (w : World) : (Op.equal t (.iface u v) .nilIface).run P w = .ok false w := by
  rw [equal_step, Op.equalIn]; simp [run_underlying' hd]
theorem equal_func0 {t : TypeId} {ps rs vr} (hd : P.underlying t = some (.func ps rs vr)) (w : World) : (Op.equal t .nilFunc .nilFunc).run P w = .ok true w := by
  rw [equal_step, Op.equalIn]; simp [run_underlying' hd]
theorem equal_func1 {t : TypeId} {ps rs vr} (hd : P.underlying t = some (.func ps rs vr)) (f : Fn) (x y : Array Value) (w : World) : (Op.equal t (.func f x y) .nilFunc).run P w = .ok false w := by
  rw [equal_step, Op.equalIn]; simp [run_underlying' hd]
theorem equal_bool {t : TypeId} (hd : P.underlying t = some .bool) (x y : Bool) (w : World) : (Op.equal t (.bool x) (.bool y)).run P w = .ok (x == y) w := by
  rw [equal_step, Op.equalIn]; simp [run_underlying' hd]

theorem binW_ok {op : BinOp} {xt yt : TypeId} {x y : Operand} (hE : EnvOk st a) (h : binW P op xt x y st K) (ho : o.op = .binOp op xt x y yt) : Yv P S a o st.loc K := by
  have hs : execOp a.eval o = (do pure (.value (← (do eqGuard op xt x y (a.eval x) (a.eval y); binOp op xt (a.eval x) (a.eval y))))) := by
    simp only [execOp, ho]
  unfold binW at h
  split at h
  · rename_i k hk
    obtain ⟨c1, c2, c3, c4, c5⟩ := nilK_const hk
    have fin : ∀ (u : Value) (b : Bool), a.eval x = u → givV (eqB op b) K → (∀ k n, u ≠ .int k n) → (∀ s, u ≠ .string s) → (∀ k s, u ≠ .float k s) → (∀ k s r, u ≠ .complex k s r) → (∀ cs, u ≠ .agg cs) →
        (u = .nilIface → ∃ c, y = .const c) → (∀ w : World, (Op.equal xt u (a.eval y)).run P w = .ok b w) → Yv P S a o st.loc K := by
      intro u b hu hg h1 h2 h3 h4 h5 h6 hr
      obtain ⟨v, hv, hK⟩ := givV_ok hg
      exact Yv.of hs (v := v) (e := .val v) (fun w _ => binOp_nil_of hv hu h1 h2 h3 h4 h5 h6 w (hr w)) rfl hK
    have known : ∀ (u : Value), a.eval x = u → nilW (P.underlying xt) (k + 1) op u K → Yv P S a o st.loc K := by
      intro u hu h
      unfold nilW at h
      split at h
      · rename_i e hd hk
        split at h
        · rename_i q
          have hy := c1 hk
          refine fin _ _ hu h (by simp) (by simp) (by simp) (by simp) (by simp) (by simp) fun w => ?_
          subst hy
          first | exact equal_pointer hd _ w | exact equal_slice hd _ _ _ _ _ w | exact equal_map hd _ w
        · exact h.elim
      · rename_i e hd hk
        split at h
        · rename_i q n' c'
          obtain ⟨n, c, hy⟩ := c2 hk
          refine fin _ _ hu h (by simp) (by simp) (by simp) (by simp) (by simp) (by simp) fun w => ?_
          subst hy
          first | exact equal_pointer hd _ w | exact equal_slice hd _ _ _ _ _ w | exact equal_map hd _ w
        · exact h.elim
      · rename_i e e' hd hk
        split at h
        · rename_i q
          have hy := c3 hk
          refine fin _ _ hu h (by simp) (by simp) (by simp) (by simp) (by simp) (by simp) fun w => ?_
          subst hy
          first | exact equal_pointer hd _ w | exact equal_slice hd _ _ _ _ _ w | exact equal_map hd _ w
        · exact h.elim
      · rename_i ms hd hk
        obtain ⟨hok, h⟩ := h
        have hy := c4 hk
        subst hy
        unfold ifaceV at hok
        split at hok
        · refine fin _ _ hu h (by simp) (by simp) (by simp) (by simp) (by simp) (fun _ => ⟨_, rfl⟩) fun w => ?_
          first | exact equal_iface0 hd w | exact equal_iface1 hd _ _ w | exact equal_func0 hd w | exact equal_func1 hd _ _ _ w
        · refine fin _ _ hu h (by simp) (by simp) (by simp) (by simp) (by simp) (fun _ => ⟨_, rfl⟩) fun w => ?_
          first | exact equal_iface0 hd w | exact equal_iface1 hd _ _ w | exact equal_func0 hd w | exact equal_func1 hd _ _ _ w
        · cases hok
      · rename_i ps rs vr hd hk
        obtain ⟨hok, h⟩ := h
        have hy := c5 hk
        subst hy
        unfold funcV at hok
        split at hok
        · refine fin _ _ hu h (by simp) (by simp) (by simp) (by simp) (by simp) (fun _ => ⟨_, rfl⟩) fun w => ?_
          first | exact equal_iface0 hd w | exact equal_iface1 hd _ _ w | exact equal_func0 hd w | exact equal_func1 hd _ _ _ w
        · refine fin _ _ hu h (by simp) (by simp) (by simp) (by simp) (by simp) (fun _ => ⟨_, rfl⟩) fun w => ?_
          first | exact equal_iface0 hd w | exact equal_iface1 hd _ _ w | exact equal_func0 hd w | exact equal_func1 hd _ _ _ w
        · cases hok
      · exact h.elim
    split at h
    · rename_i p hp
      have hx : a.eval x = .pointer (some p) := by have := hE.ent x; rw [hp] at this; exact this
      split at h
      · rename_i e hd hk0
        have hy := c1 rfl
        have heq : ∀ w : World, (Op.equal xt (.pointer (some p)) (a.eval y)).run P w = .ok false w := fun w => by
          rw [hy]; exact equal_pointer hk0 _ w
        split at h
        · exact Yv.of hs (v := .bool false) (e := .kb false) (fun w _ => binOp_nil_of (b := false) rfl hx (by simp) (by simp) (by simp) (by simp) (by simp) (by simp) w (heq w)) rfl h
        · exact Yv.of hs (v := .bool true) (e := .kb true) (fun w _ => binOp_nil_of (b := false) rfl hx (by simp) (by simp) (by simp) (by simp) (by simp) (by simp) w (heq w)) rfl h
        · exact h.elim
      · exact h.elim
    · split at h
      · rename_i u hu
        exact known u ((hE.ent x).value hu) h
      · exact h.elim
  · split at h
    · rename_i k x' k' y' hx hy'
      have hx := hE.value hx
      have hy' := hE.value hy'
      have hgd : ∀ w : World, (eqGuard op xt x y (a.eval x) (a.eval y)).run P w = .ok () w := fun w => by rw [hx]; exact eqGuard_plain _ _ _ _ _ _ _ (by simp) (by simp)
      split at h
      · obtain ⟨h0, hK⟩ := h
        exact Yv.of hs (e := .val _) (fun w _ => bind_guard (hgd w) (by rw [hx, hy']; exact binOp_shl _ _ _ _ _ h0 w)) rfl hK
      · obtain ⟨h0, hK⟩ := h
        exact Yv.of hs (e := .val _) (fun w _ => bind_guard (hgd w) (by rw [hx, hy']; exact binOp_shr _ _ _ _ _ h0 w)) rfl hK
      · split at h
        · rename_i hk
          obtain rfl := of_decide_eq_true hk
          obtain ⟨h0, hK⟩ := h
          exact Yv.of hs (e := .val _) (fun w _ => bind_guard (hgd w) (by rw [hx, hy']; exact binOp_quo _ _ _ _ h0 w)) rfl hK
        · exact h.elim
      · split at h
        · rename_i hk
          obtain rfl := of_decide_eq_true hk
          obtain ⟨h0, hK⟩ := h
          exact Yv.of hs (e := .val _) (fun w _ => bind_guard (hgd w) (by rw [hx, hy']; exact binOp_rem _ _ _ _ h0 w)) rfl hK
        · exact h.elim
      · split at h
        · rename_i hk
          obtain rfl := of_decide_eq_true hk
          obtain ⟨v, hv, hK⟩ := givV_ok h
          exact Yv.of hs (e := .val v) (fun w _ => bind_guard (hgd w) (by rw [hx, hy']; exact binOp_int hv w)) rfl hK
        · exact h.elim
    · rename_i x' y' hx hy'
      have hx := hE.value hx
      have hy' := hE.value hy'
      have hgd : ∀ w : World, (eqGuard op xt x y (a.eval x) (a.eval y)).run P w = .ok () w := fun w => by rw [hx]; exact eqGuard_plain _ _ _ _ _ _ _ (by simp) (by simp)
      split at h
      · obtain ⟨h0, hK⟩ := h
        exact Yv.of hs (e := .val _) (fun w _ => bind_guard (hgd w) (by rw [hx, hy']; exact binOp_add_str _ _ _ h0 w)) rfl hK
      · obtain ⟨v, hv, hK⟩ := givV_ok h
        exact Yv.of hs (e := .val v) (fun w _ => bind_guard (hgd w) (by rw [hx, hy']; exact binOp_str hv w)) rfl hK
    · rename_i x' y' hx hy'
      have hx := hE.value hx
      have hy' := hE.value hy'
      have hgd : ∀ w : World, (eqGuard op xt x y (a.eval x) (a.eval y)).run P w = .ok () w := fun w => by rw [hx]; exact eqGuard_plain _ _ _ _ _ _ _ (by simp) (by simp)
      split at h
      · rename_i hd
        obtain ⟨v, hv, hK⟩ := givV_ok h
        refine Yv.of hs (e := .val v) (fun w _ => bind_guard (hgd w) ?_) rfl hK
        rw [hx, hy']
        refine binOp_eq hv w (by simp) (by simp) (by simp) (by simp) ?_
        exact equal_bool hd _ _ w
      · exact h.elim
    · exact h.elim

/-! ### The others -/
theorem unW_ok {op : UnOp} {t : TypeId} {x : Operand} (hE : EnvOk st a) (h : unW op x st K) (ho : o.op = .unOp op t x) : Yv P S a o st.loc K := by
  have hs : execOp a.eval o = (do pure (.value (← Op.unary op (a.eval x)))) := by simp only [execOp, ho]
  have hx := hE.ent x
  unfold unW at h
  split at h
  · rename_i b hb; rw [hb] at hx
    exact Yv.of hs (e := .kb _) (fun w _ => by rw [show a.eval x = .bool b from hx]; rfl) rfl h
  · rename_i b hb; rw [hb] at hx
    exact Yv.of hs (e := .val _) (fun w _ => by rw [show a.eval x = .bool b from hx]; rfl) rfl h
  · rename_i k n hb; rw [hb] at hx
    exact Yv.of hs (e := .val _) (fun w _ => by rw [show a.eval x = .int k n from hx]; rfl) rfl h
  · rename_i k n hb; rw [hb] at hx
    exact Yv.of hs (e := .val _) (fun w _ => by rw [show a.eval x = .int k n from hx]; rfl) rfl h
  · exact h.elim

theorem run_sureAddr (p : Addr) (w : World) : (Instr.sureAddr (.pointer (some p))).run P w = .ok p w := rfl

theorem load_ok {t : TypeId} {x : Operand} (hE : EnvOk st a) (hS : ∀ h, S h → LocIn st.loc h) (h : opQ P S (.load t x) st K) :
    ∃ v e, (∀ w : World, S w.heap → (Instr.loadAt t (a.eval x)).run P w = .ok v w) ∧ EntOk st.loc e v ∧ K e := by
  have hx := hE.ent x
  simp only [opQ] at h
  have gen : ∀ p : Addr, a.eval x = .pointer (some p) → ldW P t p S K → ∃ v e, (∀ w : World, S w.heap → (Instr.loadAt t (a.eval x)).run P w = .ok v w) ∧ EntOk st.loc e v ∧ K e := by
    intro p hp h
    obtain ⟨v, e, hr, he, hK⟩ := ldW_ok (loc := st.loc) h
    exact ⟨v, e, fun w hw => by rw [hp]; simp only [Instr.loadAt, Sem.run_bind, run_sureAddr, Result.andThen_ok]; exact hr w hw, he, hK⟩
  split at h
  · rename_i d off hd
    rw [hd] at hx
    obtain ⟨l, hl, hv⟩ := hx
    split at h
    · rename_i b cs ro hl'
      rw [hl] at hl'
      obtain rfl := Option.some.inj hl'
      split at h
      · rename_i hagg
        obtain ⟨⟨ds, hds⟩, hagg⟩ := isAggO_some hagg
        obtain ⟨i, hi⟩ := info_of_underlying hds
        split at h
        · rename_i hle
          have hle := Nat.le_of_ble_eq_true hle
          refine ⟨_, .val _, fun w hw => ?_, rfl, h⟩
          obtain ⟨tt, hb⟩ := hS _ hw d _ cs hl rfl
          rw [hv]
          have hlen : ((cs.drop off).take (sizeB P t)).length = sizeB P t := by simp; omega
          have hc := run_loadCells (P := P) (w := w) (a := ⟨b, off, none⟩) ((cs.drop off).take (sizeB P t)) (fun j hj => by
            rw [addr_add_new, cell_known hb, getElem?_drop_take (by omega)])
          rw [hlen] at hc
          simp only [Instr.loadAt, Sem.run_bind, run_sureAddr, Result.andThen_ok, loadVar, hagg, if_true, run_sizeB hi, hc, Sem.run_pure]
        · exact h.elim
      · rename_i hagg
        obtain ⟨_, hagg⟩ := isAggO_some hagg
        split at h
        · rename_i v hcv
          refine ⟨v, .val v, fun w hw => ?_, rfl, h⟩
          obtain ⟨tt, hb⟩ := hS _ hw d _ cs hl rfl
          rw [hv]
          simp only [Instr.loadAt, Sem.run_bind, run_sureAddr, Result.andThen_ok, loadVar, hagg]
          exact run_load' (by rw [cell_known hb]; exact hcv)
        · exact h.elim
      · exact h.elim
    · rename_i b ro hl'
      rw [hl] at hl'
      obtain rfl := Option.some.inj hl'
      exact gen _ hv h
    · exact h.elim
  · obtain ⟨p, hp, h⟩ := ptrW_ok hx h
    exact gen p hp h

theorem run_nilCheck_ptr {x : Operand} {p : Addr} (ho : o.op = .nilCheck x) (hp : a.eval x = .pointer (some p)) (w : World) : (execOp a.eval o).run P w = .ok (.value (.pointer (some p))) w := by
  simp only [execOp, ho, hp, Sem.run_pure]

theorem run_fieldAt {s : TypeId} {fs : Array Field} {f : Nat} {fd : Field} (hd : P.underlying s = some (.struct fs)) (hf : fs[f]? = some fd) {k : Nat} (hz : sizeB P fd.type = k + 1) (p : Addr) (w : World) :
    (Instr.fieldAt s (.pointer (some p)) f).run P w = .ok (.pointer (some (p.add fd.offset))) w := by
  have hi : ∃ i, P.info? fd.type = some i := by
    unfold sizeB at hz
    split at hz
    · exact ⟨_, ‹_›⟩
    · omega
  obtain ⟨i, hi⟩ := hi
  simp [Instr.fieldAt, run_underlying' hd, hf, run_sureAddr, fieldPlace, run_sizeB hi, hz]

theorem getElem?_toList_extract (cs : Array Value) (off n : Nat) : cs.extract off (off + n) = ((cs.toList.drop off).take n).toArray := by
  apply Array.ext'
  simp [List.extract_eq_take_drop]

theorem run_part {t : TypeId} {cs : Array Value} {off : Nat} (h : match isAggO P t with
        | some true => K (.val (.agg ((cs.toList.drop off).take (sizeB P t)).toArray))
        | some false => match cs.toList[off]? with
          | some v => K (.val v)
          | none => False
        | none => False) : ∃ v, (∀ w : World, (part t cs off).run P w = .ok v w) ∧ K (.val v) := by
  split at h
  · rename_i hagg
    obtain ⟨⟨ds, hds⟩, hagg⟩ := isAggO_some hagg
    obtain ⟨i, hi⟩ := info_of_underlying hds
    exact ⟨_, fun w => by simp [part, hagg, run_sizeB hi, getElem?_toList_extract], h⟩
  · rename_i hagg
    obtain ⟨_, hagg⟩ := isAggO_some hagg
    split at h
    · rename_i v hv
      have hv' : cs[off]? = some v := by simpa using hv
      exact ⟨v, fun w => by simp [part, hagg, hv'], h⟩
    · exact h.elim
  · exact h.elim

theorem run_indexAt_slice {t e : TypeId} {sz : Nat} (hd : P.underlying t = some (.slice e)) (hsz : sizeO P e = some sz) (k : IntKind) (i : Int) (p : Addr) (len cap : Nat) (h0 : 0 ≤ i) (h1 : i < len) (w : World) :
    (Instr.indexAt t (.slice (some p) len cap) (.int k i)).run P w = .ok (.pointer (some (p.add (i.toNat * sz)))) w := by
  simp [Instr.indexAt, asIntOf, run_underlying' hd, h0, h1, run_sizeO hsz]

theorem run_indexAt_array {t e : TypeId} {sz len : Nat} (hd : P.underlying t = some (.array len e)) (hsz : sizeO P e = some sz) (k : IntKind) (i : Int) (p : Addr) (h0 : 0 ≤ i) (h1 : i < len) (w : World) :
    (Instr.indexAt t (.pointer (some p)) (.int k i)).run P w = .ok (.pointer (some (p.add (i.toNat * sz)))) w := by
  simp [Instr.indexAt, asIntOf, run_underlying' hd, h0, h1, run_sizeO hsz, run_sureAddr]

theorem oneC_cells {v : Value} (h : oneC v = true) : v.cells.toList = [v] := by
  cases v <;> first | rfl | cases h

theorem oneQ_ok {b : Bool} {v : Value} {K : Prop} (h : oneQ b v K) : cellsQ b v = v.cells.toList ∧ K := by
  cases b with
  | true => exact ⟨(oneC_cells h.1).symm, h.2⟩
  | false => exact ⟨rfl, h⟩

theorem onesQ_ok {place : Nat → Option (Nat × Nat × Bool)} : ∀ {ps : List (Nat × Value)} {K : Prop}, onesQ place ps K →
    (∀ cells out, fillO place cells ps = some out → fillL (fun i => (place i).map fun x => (x.1, x.2.1)) cells ps = some out) ∧ K
  | [], K, h => ⟨fun cells out e => e, h⟩
  | (i, v) :: ps, K, h => by
    simp only [onesQ] at h
    split at h
    · rename_i off size oq hp
      obtain ⟨h1, h⟩ := oneQ_ok h
      obtain ⟨h2, h3⟩ := onesQ_ok h
      refine ⟨fun cells out e => ?_, h3⟩
      simp only [fillO, hp, h1] at e
      simp only [fillL, hp, Option.map_some]
      split at e
      · rename_i hc
        exact h2 _ _ e
      · cases e
    · exact h.elim

theorem fillL_ok {place : Nat → Option (Nat × Nat)} : ∀ (ps : List (Nat × Value)) (cells out : List Value), fillL place cells ps = some out → Instr.fill place cells.toArray ps = some out.toArray
  | [], cells, out, h => by simp [fillL] at h; simp [Instr.fill, h]
  | (i, v) :: rest, cells, out, h => by
    simp only [fillL] at h
    split at h
    · cases h
    · rename_i off size hp
      split at h
      · rename_i hc
        simp only [Bool.and_eq_true, beq_iff_eq] at hc
        obtain ⟨h1, h2⟩ := hc
        have h2 := Nat.le_of_ble_eq_true h2
        have hsz : v.cells.size = size := by simpa using h1
        have ih := fillL_ok rest _ out h
        simp only [Instr.fill, hp]
        have hno : ¬ (v.cells.size ≠ size || decide (off + v.cells.size > cells.toArray.size)) = true := by
          simp [hsz]; omega
        rw [if_neg hno]
        have hfold : (v.cells.zipIdx.foldl (fun cs (x : Value × Nat) => cs.setIfInBounds (off + x.2) x.1) cells.toArray) = (cells.take off ++ v.cells.toList ++ cells.drop (off + size)).toArray := by
          have key : ∀ (vs : List Value) (k : Nat) (cs : List Value), off + k + vs.length ≤ cs.length →
              (vs.zipIdx k).foldl (fun (cs : Array Value) (x : Value × Nat) => cs.setIfInBounds (off + x.2) x.1) cs.toArray = (cs.take (off + k) ++ vs ++ cs.drop (off + k + vs.length)).toArray := by
            intro vs
            induction vs with
            | nil => intro k cs _; simp
            | cons u us ih =>
              intro k cs hle
              simp only [List.length_cons] at hle
              simp only [List.zipIdx_cons, List.foldl_cons]
              have e1 : cs.toArray.setIfInBounds (off + k) u = (cs.set (off + k) u).toArray := by simp
              rw [e1, ih (k + 1) (cs.set (off + k) u) (by simp; omega)]
              congr 1
              have hk : off + k < cs.length := by omega
              rw [show off + (k + 1) = off + k + 1 by omega, List.take_succ_eq_append_getElem (by simpa using hk)]
              rw [List.take_set_of_le (by omega), List.drop_set_of_lt (by omega)]
              rw [show off + k + (u :: us).length = off + k + 1 + us.length by simp only [List.length_cons]; omega]
              simp
          have := key v.cells.toList 0 cells (by simp [hsz] at *; omega)
          simp only [Nat.add_zero] at this
          rw [← Array.foldl_toList, Array.toList_zipIdx, this]
          simp [hsz]
        rw [hfold]
        exact ih
      · cases h

theorem partsV_ok (hE : EnvOk st a) {parts : Array (Nat × Operand)} {ps : List (Nat × Value)} (h : partsV st parts.toList = some ps) :
    (parts.map fun (x : Nat × Operand) => (x.1, a.eval x.2)).toList = ps := by
  unfold partsV at h
  split at h
  · rename_i vs hvs
    cases h
    have := hE.values hvs
    rw [← this]
    simp only [Array.toList_map, List.map_map]
    generalize parts.toList = l
    induction l with
    | nil => rfl
    | cons x l ih => simp [ih]
  · cases h

theorem zeroCells_ok {t : TypeId} {z : List Value} (h : zeroCellsOf P t = some z) : ∃ i zv, P.info? t = some i ∧ i.zero = some zv ∧ zv.cells = z.toArray ∧ ∀ w : World, (zeroValue t).run P w = .ok zv w := by
  unfold zeroCellsOf at h
  split at h
  · rename_i i hi
    split at h
    · rename_i zv hz
      cases h
      exact ⟨i, zv, hi, hz, by simp, fun w => by simp [zeroValue, run_typeInfo' hi, hz]⟩
    · cases h
  · cases h

theorem mapM_run {α β : Type} {f : α → Sem β} {g : α → β} {w : World} : ∀ (l : List α), (∀ x ∈ l, (f x).run P w = .ok (g x) w) → (l.mapM f).run P w = .ok (l.map g) w
  | [], _ => by simp
  | x :: l, h => by
    have ih := mapM_run (f := f) (g := g) (w := w) l (fun y hy => h y (List.mem_cons_of_mem _ hy))
    simp [List.mapM_cons, h x (by simp), ih]

theorem foldl_push_list : ∀ (ns : List Int) (l : List UInt8), ns.foldl (fun (r : ByteArray) n => r.push (UInt8.ofNat n.toNat)) ⟨l.toArray⟩ = ⟨(l ++ ns.map fun n => UInt8.ofNat n.toNat).toArray⟩
  | [], l => by simp
  | n :: ns, l => by
    simp only [List.foldl_cons, List.map_cons]
    have e : (ByteArray.mk l.toArray).push (UInt8.ofNat n.toNat) = ⟨(l ++ [UInt8.ofNat n.toNat]).toArray⟩ := by
      simp [ByteArray.push]
    rw [e, foldl_push_list ns]
    simp

theorem BTS_ok {p : Addr} {len c : Nat} {K : ByteArray → Prop} (h : BTS (some p) len S K) : ∃ s, (∀ w : World, S w.heap → (Conv.bytesToString (.slice (some p) len c)).run P w = .ok (.string s) w) ∧ K s := by
  obtain ⟨ns, hlen, hc, hK⟩ := h
  refine ⟨_, fun w hw => ?_, hK⟩
  have hl := run_loadCells (P := P) (w := w) (a := p) (ns.map (Value.int .u8)) (fun j hj => by
    rw [hc _ hw j (by simpa using hj)]; simp)
  rw [List.length_map, hlen] at hl
  rw [run_bytesToString w p len c ns hl]
  have := foldl_push_list ns []
  simp only [List.nil_append] at this
  rw [← this]; rfl

theorem unc_K1 {l : Lay} {F : TT (flat [l]) → Prop} {x : TT (flat [l])} (h : unc _ (cur (flat [l]) F) x) : F x := by rwa [unc_cur] at h

theorem zeroOf_run {t : TypeId} {z : Value} (h : zeroOf P t = some z) (w : World) : (zeroValue t).run P w = .ok z w := by
  unfold zeroOf at h
  split at h
  · rename_i i hi
    simp [zeroValue, run_typeInfo' hi, h]
  · cases h

theorem run_typeAssert {t xt : TypeId} {d : TypeDesc} (hd : P.underlying t = some d) (hni : ∀ ms, d ≠ .interface ms) {z : Value} (hz : zeroOf P t = some z) (w : World) :
    (Instr.typeAssert .nilIface xt t true).run P w = .ok (.tuple #[z, .bool false]) w ∧
    ∀ t' u, (Instr.typeAssert (.iface t' u) xt t true).run P w = .ok (if t' = t then .tuple #[u, .bool true] else .tuple #[z, .bool false]) w := by
  refine ⟨?_, fun t' u => ?_⟩
  · unfold Instr.typeAssert
    cases d <;> first
      | exact absurd rfl (hni _)
      | simp [run_underlying' hd, zeroOf_run hz]
  · unfold Instr.typeAssert
    cases d <;> first
      | exact absurd rfl (hni _)
      | (by_cases e : t' = t <;> simp [run_underlying' hd, zeroOf_run hz, e])

theorem opQ_ok (hE : EnvOk st a) (hS : ∀ h, S h → LocIn st.loc h) (h : opQ P S o.op st K) : Yv P S a o st.loc K := by
  cases hop : o.op with
  | move x =>
    rw [hop] at h
    exact ⟨_, _, fun w _ => by simp only [execOp, hop, Sem.run_pure], hE.ent x, h⟩
  | assign x =>
    rw [hop] at h
    exact ⟨_, _, fun w _ => by simp only [execOp, hop, Sem.run_pure], hE.ent x, h⟩
  | pick c x y =>
    rw [hop] at h
    have hc := hE.ent c
    simp only [opQ] at h
    split at h
    · rename_i hb; rw [hb] at hc
      exact ⟨_, _, fun w _ => by simp only [execOp, hop, Sem.run_bind, show a.eval c = .bool true from hc, asBool, Sem.run_pure, Result.andThen_ok, if_true], hE.ent x, h⟩
    · rename_i hb; rw [hb] at hc
      exact ⟨_, _, fun w _ => by simp only [execOp, hop, Sem.run_bind, show a.eval c = .bool false from hc, asBool, Sem.run_pure, Result.andThen_ok, Bool.false_eq_true, if_false], hE.ent y, h⟩
    · exact h.elim
  | load t x =>
    rw [hop] at h
    obtain ⟨v, e, hr, he, hK⟩ := load_ok hE hS h
    exact Yv.of (by simp only [execOp, hop]) hr he hK
  | nilCheck x =>
    rw [hop] at h
    have hx := hE.ent x
    simp only [opQ] at h
    split at h
    · rename_i d off hd; rw [hd] at hx
      have hx' := hx
      obtain ⟨l, hl, hv⟩ := hx'
      exact ⟨a.eval x, .loc d off, fun w _ => by rw [run_nilCheck_ptr hop hv, hv], hx, h⟩
    · rename_i f u v hd; rw [hd] at hx
      exact ⟨a.eval x, .fn f u v, fun w _ => by simp only [execOp, hop, show a.eval x = .func (.func f) u.toArray v.toArray from hx, Sem.run_pure], hx, h⟩
    · obtain ⟨p, hp, h⟩ := ptrW_ok hx h
      exact ⟨_, .ptr p, fun w _ => run_nilCheck_ptr hop hp w, rfl, h⟩
  | fieldAddr s x f =>
    rw [hop] at h
    have hs : execOp a.eval o = (do pure (.value (← Instr.fieldAt s (a.eval x) f))) := by simp only [execOp, hop]
    have hx := hE.ent x
    simp only [opQ] at h
    split at h
    case h_2 => exact h.elim
    rename_i fs hd
    split at h
    case h_2 => exact h.elim
    rename_i fd hf
    split at h
    · exact h.elim
    · rename_i k hsz
      split at h
      · rename_i d off he; rw [he] at hx
        obtain ⟨l, hl, hv⟩ := hx
        refine Yv.of hs (v := .pointer (some ⟨l.b, off + fd.offset, none⟩)) (e := .loc d (off + fd.offset)) (fun w _ => ?_) ⟨l, hl, rfl⟩ h
        rw [hv, run_fieldAt hd hf hsz, addr_add_new]
      · obtain ⟨p, hp, h⟩ := ptrW_ok hx h
        exact Yv.of hs (e := .ptr _) (fun w _ => by rw [hp]; exact run_fieldAt hd hf hsz p w) rfl h
  | field t x f =>
    rw [hop] at h
    have hs : execOp a.eval o = (do pure (.value (← Instr.field t (a.eval x) f))) := by simp only [execOp, hop]
    simp only [opQ] at h
    split at h
    case h_2 => exact h.elim
    rename_i fs hd
    split at h
    case h_2 => exact h.elim
    rename_i fd cs hf hx
    have hx := hE.value hx
    obtain ⟨v, hr, hK⟩ := run_part h
    exact Yv.of hs (e := .val v) (fun w _ => by rw [hx]; simp [Instr.field, run_underlying' hd, hf, asAgg, hr w]) rfl hK
  | indexAddr t x i =>
    rw [hop] at h
    have hs : execOp a.eval o = (do pure (.value (← Instr.indexAt t (a.eval x) (a.eval i)))) := by simp only [execOp, hop]
    simp only [opQ] at h
    split at h
    case h_2 => exact h.elim
    rename_i n hn
    obtain ⟨k, hi⟩ := hE.int hn
    split at h
    · rename_i e hd
      split at h
      case h_2 => exact h.elim
      rename_i q len cap sz hx hsz
      have hx := hE.value hx
      obtain ⟨p, rfl, h0, h1, hK⟩ := h
      exact Yv.of hs (e := .ptr _) (fun w _ => by rw [hx, hi]; exact run_indexAt_slice hd hsz k n p len cap h0 h1 w) rfl hK
    · rename_i len e hd
      split at h
      case h_2 => exact h.elim
      rename_i sz hsz
      obtain ⟨p, hp, h⟩ := ptrW_ok (hE.ent x) h
      obtain ⟨p', hp', h0, h1, hK⟩ := h
      cases hp'
      exact Yv.of hs (e := .ptr _) (fun w _ => by rw [hp, hi]; exact run_indexAt_array hd hsz k n p h0 h1 w) rfl hK
    · exact h.elim
  | index t x i =>
    rw [hop] at h
    have hs : execOp a.eval o = (do pure (.value (← Instr.index t (a.eval x) (a.eval i)))) := by simp only [execOp, hop]
    simp only [opQ] at h
    split at h
    case h_2 => exact h.elim
    rename_i n hn
    obtain ⟨k, hi⟩ := hE.int hn
    split at h
    case h_2 => exact h.elim
    rename_i s hd hx
    have hx := hE.value hx
    obtain ⟨h0, b, hb, hK⟩ := h
    exact Yv.of hs (e := .val _) (fun w _ => by rw [hx, hi]; simp [Instr.index, asIntOf, run_underlying' hd, h0, hb]) rfl hK
  | extract x i =>
    rw [hop] at h
    have hs : execOp a.eval o = (do pure (.value (← Instr.extract (a.eval x) i))) := by simp only [execOp, hop]
    have hx := hE.ent x
    simp only [opQ] at h
    split at h
    · rename_i l hl; rw [hl] at hx
      split at h
      · rename_i v hv
        exact Yv.of hs (e := .val v) (fun w _ => by rw [show a.eval x = .tuple l.toArray from hx]; simp [Instr.extract, hv]) rfl h
      · exact h.elim
    · rename_i u b v hl; rw [hl] at hx
      split at h
      · rename_i hb
        have hb := Nat.eq_of_beq_eq_true hb
        exact Yv.of hs (v := .bool b) (e := .kb b) (fun w _ => by rw [show a.eval x = _ from hx]; simp [Instr.extract, ← hb]) rfl h
      · split at h
        · rename_i q hv
          exact Yv.of hs (e := .val q) (fun w _ => by rw [show a.eval x = _ from hx]; simp only [Instr.extract, List.getElem?_toArray, hv, Sem.run_pure]) rfl h
        · exact h.elim
    · exact h.elim
  | binOp op xt x y yt => rw [hop] at h; exact binW_ok hE h hop
  | unOp op t x => rw [hop] at h; exact unW_ok hE h hop
  | convert src dst x =>
    rw [hop] at h
    have hs : execOp a.eval o = (do pure (.value (← convert src dst (a.eval x)))) := by simp only [execOp, hop]
    simp only [opQ] at h
    split at h
    · rename_i ds k k' n hsr hd hx
      have hx := hE.value hx
      exact Yv.of hs (e := .val _) (fun w _ => by rw [hx]; simp only [convert, Sem.run_bind, run_underlying' hsr, run_underlying' hd, Result.andThen_ok]; rfl) rfl h
    · rename_i s hsr hd hx
      have hx := hE.value hx
      exact Yv.of hs (e := .val _) (fun w _ => by rw [hx]; simp only [convert, Sem.run_bind, run_underlying' hsr, run_underlying' hd, Result.andThen_ok]; rfl) rfl h
    · rename_i e q n c hsr hd hx
      have hx := hE.value hx
      split at h
      · rename_i he
        have e1 : ∀ w : World, (convert src dst (a.eval x)).run P w = (Conv.bytesToString (.slice q n c)).run P w := fun w => by
          rw [hx]; simp only [convert, Sem.run_bind, run_underlying' hsr, run_underlying' hd, run_underlying' he, Result.andThen_ok]
        cases q with
        | none => exact Yv.of hs (e := .val _) (fun w _ => by rw [e1]; rfl) rfl h
        | some p =>
          obtain ⟨s, hr, hK⟩ := BTS_ok (P := P) (c := c) h
          exact Yv.of hs (e := .val _) (fun w hw => by rw [e1]; exact hr w hw) rfl hK
      · exact h.elim
    · exact h.elim
  | makeInterface t x =>
    rw [hop] at h
    have hs : execOp a.eval o = (do pure (.value (← Instr.makeInterface t (a.eval x)))) := by simp only [execOp, hop]
    simp only [opQ] at h
    split at h
    · exact h.elim
    · rename_i d hni hd
      split at h
      · rename_i v hx
        have hx := hE.value hx
        refine Yv.of hs (e := .val _) (fun w _ => ?_) rfl h
        rw [hx]; simp only [Instr.makeInterface, Sem.run_bind, run_underlying' hd, Result.andThen_ok]
        cases d <;> first | rfl | exact absurd rfl (hni _)
      · exact h.elim
    · exact h.elim
  | makeFunc fn first caps =>
    rw [hop] at h
    have hs : execOp a.eval o = (do pure (.value (← Instr.makeFunc fn (first.map a.eval) (caps.map a.eval)))) := by simp only [execOp, hop]
    simp only [opQ] at h
    split at h
    case h_2 => exact h.elim
    rename_i f
    split at h
    case h_2 => exact h.elim
    rename_i u v hu hv
    have hu := hE.values hu
    have hv := hE.values hv
    refine Yv.of hs (v := .func (.func f) u.toArray v.toArray) (e := .fn f u v) (fun w _ => ?_) rfl h
    have e1 : first.map a.eval = u.toArray := by rw [← hu]; apply Array.ext'; simp
    have e2 : caps.map a.eval = v.toArray := by rw [← hv]; apply Array.ext'; simp
    rw [e1, e2]; rfl
  | build t parts =>
    rw [hop] at h
    have hs : execOp a.eval o = (do pure (.value (← Instr.build t (parts.map fun (i, x) => (i, a.eval x))))) := by simp only [execOp, hop]
    simp only [opQ] at h
    split at h
    case h_2 => exact h.elim
    rename_i fs z ps hd hz hps
    obtain ⟨i, zv, hi, hzv, hcells, hrz⟩ := zeroCells_ok hz
    split at h
    case h_2 => exact h.elim
    rename_i cs hall hfill
    obtain ⟨hones, h⟩ := onesQ_ok h
    have hfill := hones _ _ hfill
    refine Yv.of hs (e := .val _) (fun w _ => ?_) rfl h
    have hm : (fs.mapM fun f => (do pure (f.offset, ← sizeOf f.type) : Sem (Nat × Nat))).run P w = .ok (fs.map fun f => (f.offset, sizeB P f.type)) w := by
      rw [Array.mapM_eq_mapM_toList, Sem.run_map, mapM_run (g := fun f => (f.offset, sizeB P f.type)) fs.toList]
      · simp only [Result.andThen_ok]
        congr 1
        apply Array.ext'; simp
      · intro f hf
        have := List.all_eq_true.1 hall f hf
        obtain ⟨i, hi⟩ := Option.isSome_iff_exists.1 this
        simp [run_sizeB hi]
    have hp : (parts.map fun (x : Nat × Operand) => (x.1, a.eval x.2)).toList = ps := partsV_ok hE hps
    have hfl := fillL_ok ps z cs hfill
    have hpl : (fun (i : Nat) => (fs.map fun (f : Field) => (f.offset, sizeB P f.type))[i]?) = (fun i => ((fs[i]?).map fun (f : Field) => (f.offset, sizeB P f.type, oqT P f.type)).map fun x => (x.1, x.2.1)) := by
      funext i; simp only [Array.getElem?_map, Option.map_map]; rfl
    simp only [Instr.build, Sem.run_bind, hrz w, run_underlying' hd, Result.andThen_ok, hm, hcells, hp]
    rw [hpl, hfl]; rfl
  | slice t x lo hi mx =>
    rw [hop] at h
    obtain ⟨v, e, hr, he, hK⟩ := slW_ok (P := P) hE h
    exact Yv.of (by simp only [execOp, hop]) (fun w _ => hr w) he hK
  | typeAssert x xt t ok =>
    rw [hop] at h
    have hs : execOp a.eval o = (do pure (.value (← Instr.typeAssert (a.eval x) xt t ok))) := by simp only [execOp, hop]
    simp only [opQ] at h
    split at h
    case h_2 => exact h.elim
    rename_i d v z hd hx hz
    have hx := hE.value hx
    have hr := run_typeAssert (P := P) (xt := xt) hd
    split at h
    · exact h.elim
    · rename_i hni
      have hr := fun w => hr (fun ms e => hni ms e) hz w
      obtain ⟨h1, h2⟩ := h
      by_cases hc : ∃ u, v = .iface t u
      · obtain ⟨u, rfl⟩ := hc
        obtain ⟨y, hy, hk⟩ := h1 u rfl
        rw [unc_cur] at hk
        exact Yv.of hs (v := .tuple #[u, .bool true]) (e := .tb [asm [layOf P t] (vals _ y)] true []) (fun w _ => by rw [hx, (hr w).2, if_pos rfl]) (by rw [← hy]; rfl) hk
      · obtain ⟨hv, hK⟩ := h2 (fun u e => hc ⟨u, e⟩)
        rcases hv with rfl | ⟨t', u, rfl⟩
        · exact Yv.of hs (v := .tuple #[z, .bool false]) (e := .tb [z] false []) (fun w _ => by rw [hx]; exact (hr w).1) rfl hK
        · have ht : t' ≠ t := fun e => hc ⟨u, by rw [e]⟩
          exact Yv.of hs (v := .tuple #[z, .bool false]) (e := .tb [z] false []) (fun w _ => by rw [hx, (hr w).2, if_neg ht]) rfl hK
  | call c =>
    rw [hop] at h
    simp only [opQ] at h
    have hs : ∀ b, c.callee = .builtin b → execOp a.eval o = builtin b c.argTypes o.type (c.args.map fun | .const _ => true | _ => false) (c.args.map a.eval) := by
      intro b hb
      simp only [execOp, hop, resolve, hb]; rfl
    split at h
    · rename_i t ts x hc ht hx
      have ht' : c.argTypes[0]? = some t := by rw [← Array.getElem?_toList, ht]; rfl
      have hx0 : (c.args.map a.eval)[0]? = some (a.eval x) := by rw [← Array.getElem?_toList]; simp [hx]
      have hs' : execOp a.eval o = (do pure (.value (← Builtin.len_ c.argTypes o.type (c.args.map a.eval)))) := by rw [hs _ hc]; rfl
      split at h
      · rename_i s hd hv
        have hv := hE.value hv
        exact Yv.of hs' (e := .val _) (fun w _ => by simp only [Builtin.len_, ht', hx0, hv, Sem.run_bind, run_underlying' hd, Result.andThen_ok]; rfl) rfl h
      · rename_i e q n c' hd hv
        have hv := hE.value hv
        exact Yv.of hs' (e := .val _) (fun w _ => by simp only [Builtin.len_, ht', hx0, hv, Sem.run_bind, run_underlying' hd, Result.andThen_ok]; rfl) rfl h
      · rename_i n e v hd hv
        have hv := hE.value hv
        refine Yv.of hs' (v := .int .i64 n) (e := .val _) (fun w _ => ?_) rfl h
        simp only [Builtin.len_, ht', hx0, hv, Sem.run_bind, run_underlying' hd, Result.andThen_ok]
        cases v <;> rfl
      · exact h.elim
    · rename_i t ts x hc ht hx
      have ht' : c.argTypes[0]? = some t := by rw [← Array.getElem?_toList, ht]; rfl
      have hx0 : (c.args.map a.eval)[0]? = some (a.eval x) := by rw [← Array.getElem?_toList]; simp [hx]
      have hs' : execOp a.eval o = (do pure (.value (← Builtin.cap_ c.argTypes o.type (c.args.map a.eval)))) := by rw [hs _ hc]; rfl
      split at h
      · rename_i e q n c' hd hv
        have hv := hE.value hv
        exact Yv.of hs' (e := .val _) (fun w _ => by simp only [Builtin.cap_, ht', hx0, hv, Sem.run_bind, run_underlying' hd, Result.andThen_ok]; rfl) rfl h
      · exact h.elim
    · exact h.elim
  | _ => rw [hop] at h; exact h.elim

end
end Go.VK

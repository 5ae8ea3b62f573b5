/- The walk is sound for lists of operations, in the order of the text and in any order that is drawn. -/
import Derived.Test.YtemkcbopbinfmaaGreatDoorVKF
set_option linter.all false
namespace Go.VK
open Go

variable {P : Program}

/-- Every function, any depth; in a round of a range over a function, or not. -/
def FR (r : Option Nat) : Fence := { Fence.wide with round := r }

theorem calls_FR {r : Option Nat} {f : FuncId} {args : Array Value} {w : World} {R : Ending → World → Prop} (h : Calls P f args w R) : CallsIn (FR r) 0 P f args w R := callsIn_wide.2 h

theorem round_FR {r : Option Nat} {l : Nat} {f : FuncId} {tmps : Array Value} {asn body : Code} {w : World} {R : Ending → World → Prop} (h : RoundIn Fence.wide 0 P l f tmps asn body w R) : RoundIn (FR r) 0 P l f tmps asn body w R := h

def dfD : Df → Deferred
  | .mk d => { target := .collected d, args := #[] }
  | .fn f first cap => { target := .fn (.func f) cap.toArray, args := first.toArray }

structure Rel (n : Nat) (W : World) (st : St) (a : Act) (w : World) : Prop where
  hr : HR st w
  env : EnvOk st a
  size : a.tmps.size = n
  defers : a.defers = st.dm.map dfD
  sm : Sm W w

def Tk (m : List Nat) (a a' : Act) : Prop := ∀ i, i ∉ m → a'.tmps.getD i undef = a.tmps.getD i undef
theorem Tk.refl (m : List Nat) (a : Act) : Tk m a a := fun _ _ => rfl
theorem Tk.trans {m : List Nat} {a b c : Act} (h : Tk m a b) (k : Tk m b c) : Tk m a c := fun i hi => (k i hi).trans (h i hi)
theorem Tk.mono {m m' : List Nat} {a b : Act} (h : Tk m a b) (hm : ∀ i, i ∈ m → i ∈ m') : Tk m' a b := fun i hi => h i (fun e => hi (hm i e))

def Post (n : Nat) (W : World) (Z : St → List PanicEntry → Prop) (m : List Nat) (a0 : Act) (st0 : St) (Q : Exit → St → Prop) : Exit → Act → World → Prop
  | .panic c, a, w => ∃ st, Rel n W st a w ∧ Z st c
  | .outgrown, _, _ => False
  | e, a, w => ∃ st, Rel n W st a w ∧ Tk m a0 a ∧ RoLe st0.loc st.loc ∧ Q e st

def PostD (n : Nat) (W : World) (Z : St → List PanicEntry → Prop) (m : List Nat) (rf : Bool) (a0 : Act) (st0 : St) (Q : Exit → St → Prop) : Exit → Act → World → Prop :=
  Post n W Z m a0 st0 fun e st => (rf = false → st.dm = st0.dm) ∧ Q e st

section
variable {n : Nat} {W : World} {Z : St → List PanicEntry → Prop} {st : St} {a : Act} {w : World} {o : Oper} {ops : Array Oper}

theorem EnvOk.put {d : Nat} {e : Ent} {v : Value} (hE : EnvOk st a) (hs : a.tmps.size = n) (hd : d < n) (hv : EntOk st.loc e v) : EnvOk { st with env := (d, e) :: st.env } (a.put (some d) v) := fun i => by
  simp only [Act.put, lookE]
  cases hb : Nat.beq d i with
  | true =>
    have hb := Nat.eq_of_beq_eq_true hb
    subst hb
    simp only [Array.getD_eq_getD_getElem?, Array.getElem?_setIfInBounds]
    have : d < a.tmps.size := by omega
    simp [this, hv]
  | false =>
    have hne : d ≠ i := fun e => by subst e; simp at hb
    have e1 : (a.tmps.setIfInBounds d v).getD i undef = a.tmps.getD i undef := by
      simp only [Array.getD_eq_getD_getElem?, Array.getElem?_setIfInBounds_ne hne]
    rw [e1]; exact hE i

theorem putW_ok {d : Option Tmp} {e : Ent} {v : Value} {K : St → Prop} (h : putW n d e st K) (hr : Rel n W st a w) (hv : EntOk st.loc e v) :
    ∃ st', Rel n W st' (a.put d v) w ∧ st'.loc = st.loc ∧ st'.dm = st.dm ∧ K st' := by
  unfold putW at h
  split at h
  · exact ⟨st, hr, rfl, rfl, h⟩
  · rename_i d
    split at h
    · rename_i hd
      have hd : d < n := by simpa using hd
      exact ⟨{ st with env := (d, e) :: st.env }, ⟨hr.hr, hr.env.put hr.size hd hv, by simp [Act.put, hr.size], hr.defers, hr.sm⟩, rfl, rfl, h⟩
    · exact h.elim

theorem Tk.put {m : List Nat} {a0 : Act} {d : Option Tmp} {v : Value} (h : Tk m a0 a) (hd : ∀ i, d = some i → i ∈ m) : Tk m a0 (a.put d v) := fun i hi => by
  cases d with
  | none => exact h i hi
  | some d =>
    have hne : d ≠ i := fun e => hi (by rw [← e]; exact hd d rfl)
    simp only [Act.put, Array.getD_eq_getD_getElem?, Array.getElem?_setIfInBounds_ne hne]
    have := h i hi
    simpa only [Array.getD_eq_getD_getElem?] using this

theorem yielded_bool {j d : Nat} {b : Bool} (hd : (ops[j]?).bind (·.dst) = some d) (hv : a.tmps.getD d undef = .bool b) : yielded ops a.tmps j = some b := by
  unfold yielded
  rw [hd]
  simp only [Option.bind_some]
  cases h : a.tmps[d]? with
  | none => simp [Array.getD_eq_getD_getElem?, h, undef] at hv
  | some u =>
    have : u = .bool b := by simpa [Array.getD_eq_getD_getElem?, h] using hv
    subst this; rfl

theorem yielded_tuple {j d : Nat} {l : Array Value} (hd : (ops[j]?).bind (·.dst) = some d) (hv : a.tmps.getD d undef = .tuple l) : yielded ops a.tmps j = none := by
  unfold yielded
  rw [hd]
  simp only [Option.bind_some]
  cases h : a.tmps[d]? with
  | none => rfl
  | some u =>
    have : u = .tuple l := by simpa [Array.getD_eq_getD_getElem?, h] using hv
    subst this; rfl

theorem guardW_ok {run skip : St → Prop} (hE : EnvOk st a) (h : guardW ops o st run skip) :
    ∃ st', st'.loc = st.loc ∧ st'.dm = st.dm ∧ st'.h = st.h ∧ EnvOk st' a ∧ ((Region.wanted o (yielded ops a.tmps) = true ∧ run st') ∨ (Region.wanted o (yielded ops a.tmps) = false ∧ skip st')) := by
  unfold guardW at h
  split at h
  · rename_i hg
    exact ⟨st, rfl, rfl, rfl, hE, .inl ⟨by simp [Region.wanted, hg], h⟩⟩
  · rename_i j want hg
    split at h
    · exact h.elim
    · rename_i d hd
      have hd' := hE d
      have known : ∀ b, a.tmps.getD d undef = .bool b → EnvOk { st with env := (d, .kb b) :: st.env } a := fun b hb i => by
        simp only [lookE]
        cases hi : Nat.beq d i with
        | true => have := Nat.eq_of_beq_eq_true hi; subst this; exact hb
        | false => exact hE i
      split at h
      · rename_i b hb
        rw [hb] at hd'
        have hy := yielded_bool (a := a) hd hd'
        split at h
        · rename_i hw
          exact ⟨st, rfl, rfl, rfl, hE, .inl ⟨by simp only [Region.wanted, hg, hy]; simpa using hw, h⟩⟩
        · rename_i hw
          exact ⟨st, rfl, rfl, rfl, hE, .inr ⟨by simp only [Region.wanted, hg, hy]; simpa using hw, h⟩⟩
      · rename_i b hb
        rw [hb] at hd'
        have hy := yielded_bool (a := a) hd hd'
        split at h
        · cases b with
          | true => exact ⟨{ st with env := (d, .kb true) :: st.env }, rfl, rfl, rfl, known true hd', .inl ⟨by simp only [Region.wanted, hg, hy]; rfl, h.1 rfl⟩⟩
          | false => exact ⟨{ st with env := (d, .kb false) :: st.env }, rfl, rfl, rfl, known false hd', .inr ⟨by simp only [Region.wanted, hg, hy]; rfl, h.2 rfl⟩⟩
        · cases b with
          | true => exact ⟨{ st with env := (d, .kb true) :: st.env }, rfl, rfl, rfl, known true hd', .inr ⟨by simp only [Region.wanted, hg, hy]; rfl, h.1 rfl⟩⟩
          | false => exact ⟨{ st with env := (d, .kb false) :: st.env }, rfl, rfl, rfl, known false hd', .inl ⟨by simp only [Region.wanted, hg, hy]; rfl, h.2 rfl⟩⟩
      · rename_i l hb
        rw [hb] at hd'
        have hy := yielded_tuple (a := a) hd hd'
        exact ⟨st, rfl, rfl, rfl, hE, .inr ⟨by simp only [Region.wanted, hg, hy]; rfl, h⟩⟩
      · exact h.elim

theorem lookL_bareL : ∀ (m : List (Nat × LocI)) (id : Nat), lookL (bareL m) id = (lookL m id).map fun x => { x with cs := none }
  | [], _ => rfl
  | (i, x) :: m, id => by
    simp only [bareL, lookL]
    cases hb : Nat.beq i id
    · exact lookL_bareL m id
    · rfl

theorem LocLe.bare (m : List (Nat × LocI)) : LocLe m (bareL m) := fun id l hl => ⟨{ l with cs := none }, by rw [lookL_bareL, hl]; rfl, rfl⟩

theorem LocIn.bare (m : List (Nat × LocI)) (h : Heap) : LocIn (bareL m) h := fun id l cs hl hc => by
  rw [lookL_bareL] at hl
  obtain ⟨x, hx, rfl⟩ := Option.map_eq_some_iff.1 hl
  cases hc

theorem Apart.bare (m : List (Nat × LocI)) : Apart (bareL m) := fun i j li lj ci cj _ hi _ hci _ => by
  rw [lookL_bareL] at hi
  obtain ⟨x, hx, rfl⟩ := Option.map_eq_some_iff.1 hi
  cases hci

/-- The state where a panic goes up. -/
theorem Rel.bare {w' : World} (hr : Rel n W st a w) (hs : Sm w w') : Rel n W { st with loc := bareL st.loc, h := w'.heap } a w' :=
  ⟨⟨rfl, .bare _ _, .bare _⟩, fun i => (hr.env i).mono (.bare _), hr.size, hr.defers, hr.sm.trans hs⟩

theorem opW_noDefer {Z : List PanicEntry → Heap → Prop} {K : Ent → St → Prop} (h : opW P Z o st K) (c : Call) : o.op ≠ .defer c := fun e => by
  unfold opW at h
  rw [e] at h
  exact h

theorem opE_noDefer {Z : List PanicEntry → Heap → Prop} {K : Ent → St → Prop} (h : opE P Z o.dst o.type o.op st K) (c : Call) : o.op ≠ .defer c := fun e => by
  rw [e] at h
  exact h

/-- From what is shown of an operation to what the machine's calculus asks. -/
theorem wpIn_of_outc {Z : List PanicEntry → Heap → Prop} {r : Option Nat} {K : Ent → St → Prop} {next : Act → World → Prop} {Q : Exit → Act → World → Prop} (hnd : ∀ c, o.op ≠ .defer c) (h : Outc P Z st a w o K)
    (hn : ∀ v w', Done st w K v w' → next (a.put o.dst v) w') (hQ : ∀ c w', Sm w w' → Z c w'.heap → Q (.panic c) a w') : o.wpIn (FR r) 0 P a w next Q := by
  refine ⟨fun _ _ => trivial, ?_⟩
  rw [Oper.semAt_eq _ _ _ hnd]
  cases h with
  | value v w' hrun hd => rw [hrun]; exact hn v w' hd
  | skip w' hrun hd => rw [hrun]; exact hn undef w' hd
  | enter f args hrun hc =>
    rw [hrun]
    refine ⟨(fun h => by cases h), calls_FR ?_⟩
    refine (hc w rfl).mono fun e w' ⟨h1, h2, h3, h4⟩ => ?_
    cases e with
    | returned v => exact hn v w' (h4 w' rfl ⟨h1, h2, h3⟩)
    | panicked c => exact hQ c w' ⟨h1, h2, h3⟩ h4
    | outgrown => exact h4.elim
  | round l rr args hrun hc =>
    rw [hrun]
    refine ⟨(fun h => by cases h), round_FR ?_⟩
    refine hc.mono fun e w' he => ?_
    cases e with
    | returned v => exact hn v w' he
    | panicked c => exact hQ c w' he.1 he.2
    | outgrown => exact he.elim
  | panic v hrun hz =>
    rw [hrun]
    exact hQ _ w (.refl _) hz

theorem Done.rel {K : Ent → St → Prop} {v : Value} {w' : World} (hr : Rel n W st a w) (h : Done st w K v w') : ∃ e st', Rel n W st' a w' ∧ Suc st st' ∧ EntOk st'.loc e v ∧ K e st' := by
  obtain ⟨hsm, e, st', hs, hw, hv, hK⟩ := h
  exact ⟨e, st', ⟨hw, fun i => by rw [hs.env]; exact (hr.env i).mono hs.le, hr.size, by rw [hr.defers, hs.dm], hr.sm.trans hsm⟩, hs, hv, hK⟩

theorem Rel.env' {st' : St} (hr : Rel n W st a w) (h1 : st'.loc = st.loc) (h2 : st'.dm = st.dm) (h3 : st'.h = st.h) (hE : EnvOk st' a) : Rel n W st' a w :=
  ⟨⟨by rw [h3]; exact hr.hr.1, by rw [h1, h3]; exact hr.hr.2.1, by rw [h1]; exact hr.hr.2.2⟩, hE, hr.size, by rw [h2]; exact hr.defers, hr.sm⟩

theorem deferW_ok {K : St → Prop} {next : Act → World → Prop} {Q : Exit → Act → World → Prop} (h : deferW o st K) (hr : Rel n W st a w)
    (hn : ∀ ds st', st'.env = st.env → st'.loc = st.loc → Rel n W st' { a with defers := ds } w → K st' → next ({ a with defers := ds }.put o.dst undef) w) :
    Region.wanted o (yielded ops a.tmps) = true ∧ o.wpIn (FR none) 0 P a w next Q := by
  unfold deferW at h
  split at h
  case h_2 => exact h.elim
  rename_i c hg hop
  split at h
  case h_2 => exact h.elim
  rename_i f hcal hargs
  split at h
  case h_2 => exact h.elim
  rename_i g first cap hent
  have hv := hr.env.ent f
  rw [hent] at hv
  refine ⟨by simp [Region.wanted, hg], fun _ _ => trivial, ?_⟩
  have hargs' : c.args = #[] := by simpa using hargs
  have e1 : (o.semAt (FR none).round a.eval).run P w = .ok (.defer { target := .fn (.func g) cap.toArray, args := first.toArray }) w := by
    have : a.eval f = .func (.func g) first.toArray cap.toArray := hv
    simp [FR, Fence.wide, Oper.semAt, execOp, hop, resolve, hcal, this, Deferred.ofValue, hargs', Sem.run_bind, Sem.run_pure, Result.andThen]
  rw [e1]
  exact hn _ { st with dm := .fn g first cap :: st.dm } rfl rfl ⟨hr.hr, hr.env, hr.size, by simp [hr.defers, dfD], hr.sm⟩ h

theorem noDeferO_ne {op : Op} (h : noDeferO op = true) (c : Call) : op ≠ .defer c := fun e => by subst e; cases h

theorem listW_ok (hP : NoNG P) {r : Option Nat} {m : List Nat} {rf : Bool} {a0 : Act} {st0 : St} {Q : Exit → St → Prop} (hm : ∀ o ∈ ops.toList, ∀ i, o.dst = some i → i ∈ m)
    (hd : r ≠ none ∨ rf = false → noDeferB ops = true) :
    ∀ (l : List Oper) (k : Nat) (st : St) (a : Act) (w : World), (∀ j, l[j]? = ops[k + j]?) → listW P n Z ops (fun st => Q .normal st) l st → Rel n W st a w → Tk m a0 a → RoLe st0.loc st.loc → (rf = false → st.dm = st0.dm) →
      wpOpsIn (FR r) 0 P ops (PostD n W Z m rf a0 st0 Q) (List.range' k l.length) a w
  | [], k, st, a, w, _, h, hr, ht, hro, hdm => ⟨st, hr, ht, hro, hdm, h⟩
  | o :: l, k, st, a, w, hl, h, hr, ht, hro, hdm => by
    have h0 : ops[k]? = some o := by simpa using (hl 0).symm
    have hmem : o ∈ ops.toList := by
      have : ops.toList[k]? = some o := by simpa using h0
      exact List.mem_of_getElem? this
    have hl' : ∀ j, l[j]? = ops[k + 1 + j]? := fun j => by have := hl (j + 1); simpa [Nat.add_assoc, Nat.add_comm 1 j] using this
    simp only [List.length_cons, List.range'_succ, wpOpsIn, h0]
    unfold listW at h
    split at h
    · obtain ⟨s1, e1, e2, e3, hE1, h⟩ := guardW_ok hr.env h
      have hr1 : Rel n W s1 a w := hr.env' e1 e2 e3 hE1
      rcases h with ⟨hw, h⟩ | ⟨hw, h⟩
      · rw [if_pos hw]
        refine wpIn_of_outc (opW_noDefer h) (opW_ok hP hE1 hr1.hr h) (fun v w' hd => ?_) (fun c w' hsm hz => ⟨_, hr1.bare hsm, hz⟩)
        obtain ⟨e, s2, hr2, hs2, hv, hK⟩ := hd.rel hr1
        obtain ⟨s3, hr3, hl3, hd3, hK⟩ := putW_ok hK hr2 hv
        exact listW_ok hP hm ‹_› l (k + 1) s3 _ w' hl' hK hr3 (ht.put (hm o hmem)) (by rw [hl3]; exact (by rw [← e1] at hro; exact hro.trans hs2.ro : RoLe st0.loc s2.loc)) (fun e => by rw [hd3, hs2.dm, e2, hdm e])
      · rw [if_neg (by rw [hw]; simp)]
        refine ⟨fun _ _ => trivial, ?_⟩
        obtain ⟨s3, hr3, hl3, hd3, hK⟩ := putW_ok (v := undef) h hr1 rfl
        exact listW_ok hP hm hd l (k + 1) s3 _ w hl' hK hr3 (ht.put (hm o hmem)) (by rw [hl3, e1]; exact hro) (fun e => by rw [hd3, e2, hdm e])
    · rename_i hno
      have hnB : noDeferB ops ≠ true := fun e => by
        have := List.all_eq_true.1 e o hmem
        rw [hno] at this; cases this
      have hrn : r = none := Classical.byContradiction fun e => hnB (hd (.inl e))
      have hrf : rf ≠ false := fun e => hnB (hd (.inr e))
      subst hrn
      obtain ⟨hw, h⟩ := deferW_ok (ops := ops) (P := P) (Q := PostD n W Z m rf a0 st0 Q) (next := fun a' w' => wpOpsIn (FR none) 0 P ops (PostD n W Z m rf a0 st0 Q) (List.range' (k + 1) l.length) a' w') h hr (fun ds s1 e1 e2 hr1 hK => by
        obtain ⟨s3, hr3, hl3, hd3, hK⟩ := putW_ok (v := undef) hK hr1 rfl
        exact listW_ok hP hm hd l (k + 1) s3 _ w hl' hK hr3 (Tk.put (fun i hi => ht i hi) (hm o hmem)) (by rw [hl3, e2]; exact hro) (fun e => absurd e hrf))
      rw [if_pos hw]
      exact h

end
end Go.VK

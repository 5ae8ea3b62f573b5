/- The walk is sound for operations that leave memory as it is: what 'opQ' asks is enough for the machine. -/
import Derived.Test.YtemkcbopbinfmaaGreatDoorVKB
import Derived.Laws.Sem
set_option linter.all false
namespace Go.VK
open Go

variable {P : Program}

/-! ### What is known, and what is -/
def EntOk (loc : List (Nat × LocI)) : Ent → Value → Prop
  | .val u, v => v = u
  | .kb b, v => v = .bool b
  | .ptr a, v => v = .pointer (some a)
  | .loc id off, v => ∃ l, lookL loc id = some l ∧ v = .pointer (some ⟨l.b, off, none⟩)
  | .tup l, v => v = .tuple l.toArray
  | .tb a b c, v => v = .tuple (a ++ .bool b :: c).toArray
  | .fn f a b, v => v = .func (.func f) a.toArray b.toArray
  | .kill, _ => True

def EnvOk (st : St) (a : Act) : Prop := ∀ i, EntOk st.loc (lookE st.env i) (a.tmps.getD i undef)

theorem EntOk.value {loc : List (Nat × LocI)} {e : Ent} {v u : Value} (h : EntOk loc e v) (hu : e.value loc = some u) : v = u := by
  cases e <;> simp only [Ent.value, Option.some.injEq, reduceCtorEq] at hu <;> simp only [EntOk] at h
  case loc id off =>
    obtain ⟨l, hl, rfl⟩ := h
    rw [hl] at hu
    simpa using hu
  all_goals (rw [h, hu])

theorem constE_ok (loc : List (Nat × LocI)) (v : Value) : EntOk loc (constE v) v := by
  unfold constE
  split <;> simp [EntOk]

theorem EnvOk.ent {st : St} {a : Act} (h : EnvOk st a) (x : Operand) : EntOk st.loc (st.ent x) (a.eval x) := by
  cases x with
  | tmp t => exact h t
  | const v => exact constE_ok _ v
  | global g => rfl
  | func f => simp [St.ent, EntOk, Act.eval]

theorem EnvOk.value {st : St} {a : Act} (h : EnvOk st a) {x : Operand} {u : Value} (hu : st.value x = some u) : a.eval x = u := (h.ent x).value hu

theorem valuesOf_map {st : St} {a : Act} (h : EnvOk st a) : ∀ (xs : List Operand) (us : List Value), valuesOf (xs.map st.value) = some us → xs.map a.eval = us
  | [], us, hu => by simp [valuesOf] at hu; simp [hu]
  | x :: xs, us, hu => by
    simp only [List.map_cons] at hu
    cases hx : st.value x with
    | none => rw [hx] at hu; simp [valuesOf] at hu
    | some v =>
      rw [hx] at hu
      simp only [valuesOf] at hu
      split at hu
      · rename_i l hl
        simp only [Option.some.injEq] at hu
        rw [← hu, List.map_cons, h.value hx, valuesOf_map h xs l hl]
      · cases hu

theorem EnvOk.values {st : St} {a : Act} (h : EnvOk st a) {xs : List Operand} {us : List Value} (hu : st.values xs = some us) : xs.map a.eval = us := valuesOf_map h xs us hu

theorem EnvOk.int {st : St} {a : Act} (h : EnvOk st a) {x : Operand} {n : Int} (hu : intV st x = some n) : ∃ k, a.eval x = .int k n := by
  unfold intV at hu
  split at hu
  · rename_i k m hx
    cases hu
    exact ⟨k, h.value hx⟩
  · cases hu

theorem ptrW_ok {st : St} {e : Ent} {v : Value} {K : Addr → Prop} (h : EntOk st.loc e v) (hK : ptrW st e K) : ∃ p, v = .pointer (some p) ∧ K p := by
  unfold ptrW at hK
  split at hK
  · exact ⟨_, h, hK⟩
  · obtain ⟨p, rfl, hk⟩ := hK
    exact ⟨p, h, hk⟩
  · obtain ⟨l, hl, rfl⟩ := h
    rw [hl] at hK
    exact ⟨_, rfl, hK⟩
  · exact hK.elim

/-! ### Types -/
theorem info_of_underlying {t : TypeId} {d : TypeDesc} (h : P.underlying t = some d) : ∃ i, P.info? t = some i := by
  unfold Program.underlying at h
  split at h
  · rename_i i _ hi; exact ⟨_, hi⟩
  · rename_i i _ hi; exact ⟨_, hi⟩
  · cases h

theorem run_underlying' {t : TypeId} {d : TypeDesc} (h : P.underlying t = some d) (w : World) : (underlying t).run P w = .ok d w := by
  simp [underlying, h]

theorem run_typeInfo' {t : TypeId} {i : TypeInfo} (h : P.info? t = some i) (w : World) : (typeInfo t).run P w = .ok i w := by
  simp [typeInfo, h]

theorem run_sizeOf' {t : TypeId} {i : TypeInfo} (h : P.info? t = some i) (w : World) : (sizeOf t).run P w = .ok i.size w := by
  simp [sizeOf, run_typeInfo' h]

theorem run_sizeO {t : TypeId} {n : Nat} (h : sizeO P t = some n) (w : World) : (sizeOf t).run P w = .ok n w := by
  unfold sizeO at h
  split at h
  · rename_i i hi; cases h; exact run_sizeOf' hi w
  · cases h

theorem run_sizeB {t : TypeId} {i : TypeInfo} (h : P.info? t = some i) (w : World) : (sizeOf t).run P w = .ok (sizeB P t) w := by
  rw [run_sizeOf' h]; simp [sizeB, h]

theorem isAggO_some {t : TypeId} {b : Bool} (h : isAggO P t = some b) : (∃ d, P.underlying t = some d) ∧ ∀ w, (isAgg t).run P w = .ok b w := by
  unfold isAggO at h
  split at h
  · rename_i hd; cases h; exact ⟨⟨_, hd⟩, fun w => by simp [isAgg, run_underlying' hd]⟩
  · rename_i hd; cases h; exact ⟨⟨_, hd⟩, fun w => by simp [isAgg, run_underlying' hd]⟩
  · rename_i d h1 h2 hd
    cases h
    refine ⟨⟨_, hd⟩, fun w => ?_⟩
    simp only [isAgg, Sem.run_bind, run_underlying' hd, Result.andThen_ok]
    cases d <;> first | rfl | exact absurd rfl (h1 _) | exact absurd rfl (h2 _ _)
  · cases h

/-! ### Loads -/
theorem cell_world (w : World) (a : Addr) : w.cell? a = cell w.heap a := rfl

theorem run_load' {w : World} {a : Addr} {v : Value} (h : cell w.heap a = some v) : (load a).run P w = .ok v w := by
  have h' : w.cell? a = some v := h
  rw [run_load, h']

theorem run_loadCellsFrom {w : World} {a : Addr} : ∀ (vs : List Value) (i : Nat) (acc : Array Value), (∀ j, j < vs.length → cell w.heap (a.add (i + j)) = vs[j]?) →
    (loadCellsFrom a i vs.length acc).run P w = .ok (acc ++ vs.toArray) w
  | [], i, acc, _ => by simp [loadCellsFrom]
  | v :: vs, i, acc, h => by
    have h0 := h 0 (by simp)
    simp only [Nat.add_zero, List.getElem?_cons_zero] at h0
    have ih := run_loadCellsFrom vs (i + 1) (acc.push v) (fun j hj => by
      have := h (j + 1) (by simpa using hj)
      simpa [Nat.add_assoc, Nat.add_comm 1 j] using this)
    simp only [List.length_cons, loadCellsFrom, Sem.run_bind, run_load' h0, Result.andThen_ok, ih]
    simp

theorem run_loadCells {w : World} {a : Addr} (vs : List Value) (h : ∀ j, j < vs.length → cell w.heap (a.add j) = vs[j]?) :
    (loadCells a vs.length).run P w = .ok vs.toArray w := by
  unfold loadCells
  rw [run_loadCellsFrom vs 0 #[] (by simpa using h)]
  simp

theorem LDN_ok : ∀ (l : List Sh) (a : Addr) (i : Nat) (S : Heap → Prop) (K : Cur l Prop), LDN l a i S K →
    ∃ x : TT l, (∀ h, S h → ∀ j, j < l.length → cell h (a.add (i + j)) = (vals l x)[j]?) ∧ unc l K x
  | [], a, i, S, K, h => ⟨(), fun _ _ j hj => by simp at hj, h⟩
  | s :: l, a, i, S, K, h => by
    obtain ⟨x, hx, h⟩ := h
    obtain ⟨y, hy, hK⟩ := LDN_ok l a (i + 1) S (K x) h
    refine ⟨(x, y), fun h hS j hj => ?_, hK⟩
    cases j with
    | zero => simpa [vals] using hx h hS
    | succ j =>
      have := hy h hS j (by simpa using hj)
      simpa [vals, Nat.add_assoc, Nat.add_comm 1 j] using this

theorem vals_length : ∀ (l : List Sh) (x : TT l), (vals l x).length = l.length
  | [], _ => rfl
  | _ :: l, x => by simp [vals, vals_length l x.2]

theorem entOf_ok (loc : List (Nat × LocI)) (s : Sh) (x : s.T) : EntOk loc (entOf s x) (s.v x) := by
  cases s <;> simp [entOf, EntOk, Sh.v]

theorem layOf_one {t : TypeId} {s : Sh} (h : layOf P t = .one s) : isAggO P t = some false := by
  unfold layOf at h
  unfold isAggO
  split at h
  · cases h
  · cases h
  · rename_i d h1 h2 hd
    cases d <;> first | rfl | exact absurd rfl (h1 _) | exact absurd rfl (h2 _ _)
  · cases h

theorem layOf_agg {t : TypeId} {l : List Sh} (h : layOf P t = .agg l) (hl : Nat.beq l.length (sizeB P t) = true) : isAggO P t = some true := by
  unfold layOf at h
  unfold isAggO
  split at h
  · rfl
  · rfl
  · cases h
  · cases h
    have := Nat.eq_of_beq_eq_true hl
    simp at this

theorem ldW_ok {loc : List (Nat × LocI)} {t : TypeId} {p : Addr} {S : Heap → Prop} {K : Ent → Prop} (h : ldW P t p S K) :
    ∃ v e, (∀ w : World, S w.heap → (loadVar t p).run P w = .ok v w) ∧ EntOk loc e v ∧ K e := by
  unfold ldW at h
  split at h
  · rename_i s hl
    obtain ⟨x, hx, hK⟩ := h
    obtain ⟨_, hagg⟩ := isAggO_some (layOf_one hl)
    exact ⟨s.v x, entOf s x, fun w hw => by simp only [loadVar, Sem.run_bind, hagg, Result.andThen_ok]; exact run_load' (hx _ hw), entOf_ok _ _ _, hK⟩
  · rename_i l hl
    split at h
    · rename_i hlen
      obtain ⟨x, hx, hK⟩ := LDN_ok l p 0 S _ h
      rw [unc_cur] at hK
      obtain ⟨⟨d, hd⟩, hagg⟩ := isAggO_some (layOf_agg hl hlen)
      obtain ⟨i, hi⟩ := info_of_underlying hd
      refine ⟨.agg (vals l x).toArray, .val (.agg (vals l x).toArray), fun w hw => ?_, rfl, hK⟩
      have hlen' : sizeB P t = (vals l x).length := by rw [vals_length]; exact (Nat.eq_of_beq_eq_true hlen).symm
      have hc := run_loadCells (P := P) (w := w) (a := p) (vals l x) (fun j hj => by
        have := hx _ hw j (by rw [vals_length] at hj; exact hj)
        simpa using this)
      simp only [loadVar, Sem.run_bind, hagg, Result.andThen_ok, if_true, run_sizeB hi]
      rw [hlen', hc]; rfl
    · exact h.elim

/-! ### Known variables of the call's own -/
def LocIn (loc : List (Nat × LocI)) (h : Heap) : Prop :=
  ∀ id l cs, lookL loc id = some l → l.cs = some cs → ∃ t, h[l.b]? = some (.cells cs.toArray t (0, 0))

theorem Addr.add_block (a : Addr) (n : Nat) : (a.add n).block = a.block := by unfold Addr.add; split <;> rfl

theorem addr_add_new (b off n : Nat) : (⟨b, off, none⟩ : Addr).add n = ⟨b, off + n, none⟩ := by
  unfold Addr.add; split
  · rename_i h; subst h; rfl
  · rfl

theorem cell_known {h : Heap} {b : Nat} {cs : List Value} {t : TypeId} {f : Nat × Nat} (hb : h[b]? = some (.cells cs.toArray t f)) (i : Nat) : cell h ⟨b, i, none⟩ = cs[i]? := by
  simp [cell, hb]

theorem getElem?_drop_take {cs : List Value} {off n j : Nat} (hj : j < n) : ((cs.drop off).take n)[j]? = cs[off + j]? := by
  rw [List.getElem?_take]; simp [hj]

/-! ### Operators -/
theorem iand_run (w : World) (k : IntKind) (x y : Int) : (Op.intBits .and k x y).run P w = .ok (.int k (iand k x y)) w := rfl
theorem ior_run (w : World) (k : IntKind) (x y : Int) : (Op.intBits .or k x y).run P w = .ok (.int k (ior k x y)) w := rfl
theorem ixor_run (w : World) (k : IntKind) (x y : Int) : (Op.intBits .xor k x y).run P w = .ok (.int k (ixor k x y)) w := rfl
theorem iandn_run (w : World) (k : IntKind) (x y : Int) : (Op.intBits .andNot k x y).run P w = .ok (.int k (iandn k x y)) w := rfl

theorem binOp_int {op : BinOp} {t : TypeId} {k : IntKind} {x y : Int} {v : Value} (h : binI op k x y = some v) (w : World) :
    (binOp op t (.int k x) (.int k y)).run P w = .ok v w := by
  cases op <;> simp only [binI, Option.some.injEq, reduceCtorEq] at h <;> subst h <;>
    simp only [binOp, ne_eq, not_true_eq_false, if_false, iand_run, ior_run, ixor_run, iandn_run, Op.intArith, Op.intCmp, Sem.run_pure]

theorem binOp_shl (t : TypeId) (k k' : IntKind) (x y : Int) (hy : 0 ≤ y) (w : World) : (binOp .shl t (.int k x) (.int k' y)).run P w = .ok (.int k (ishl k x y)) w := by
  simp [binOp, Op.shift, show ¬ y < 0 by omega, ishl, shN]
theorem binOp_shr (t : TypeId) (k k' : IntKind) (x y : Int) (hy : 0 ≤ y) (w : World) : (binOp .shr t (.int k x) (.int k' y)).run P w = .ok (.int k (ishr k x y)) w := by
  simp [binOp, Op.shift, show ¬ y < 0 by omega, ishr, shN]
theorem binOp_quo (t : TypeId) (k : IntKind) (x y : Int) (hy : y ≠ 0) (w : World) : (binOp .quo t (.int k x) (.int k y)).run P w = .ok (.int k (k.wrap (x.tdiv y))) w := by
  simp [binOp, Op.intDiv, hy]
theorem binOp_rem (t : TypeId) (k : IntKind) (x y : Int) (hy : y ≠ 0) (w : World) : (binOp .rem t (.int k x) (.int k y)).run P w = .ok (.int k (x.tmod y)) w := by
  simp [binOp, Op.intDiv, hy]
theorem binOp_str {op : BinOp} {t : TypeId} {x y : ByteArray} {v : Value} (h : binS op x y = some v) (w : World) :
    (binOp op t (.string x) (.string y)).run P w = .ok v w := by
  cases op <;> simp only [binS, Option.some.injEq, reduceCtorEq] at h <;> subst h <;> simp [binOp, Op.stringOp]
theorem binOp_add_str (t : TypeId) (x y : ByteArray) (h : ((x.size + y.size : Nat) : Int) ≤ IntKind.i64.max) (w : World) :
    (binOp .add t (.string x) (.string y)).run P w = .ok (.string (x ++ y)) w := by
  have h' : ¬ (((x.size + y.size : Nat) : Int) > IntKind.i64.max) := Int.not_lt.2 h
  simp only [binOp, Op.stringOp, if_neg h', Sem.run_pure]

theorem eqGuard_other {op : BinOp} (h1 : op ≠ .eql) (h2 : op ≠ .neq) (t : TypeId) (x y : Operand) (a b : Value) (w : World) : (eqGuard op t x y a b).run P w = .ok () w := by
  cases op <;> first | exact absurd rfl h1 | exact absurd rfl h2 | rfl

theorem eqGuard_plain (op : BinOp) (t : TypeId) (x y : Operand) (a b : Value) (w : World) (h1 : a ≠ .nilIface) (h2 : ∀ cs, a ≠ .agg cs) : (eqGuard op t x y a b).run P w = .ok () w := by
  by_cases e1 : op = .eql
  · subst e1; cases a <;> first | exact absurd rfl h1 | exact absurd rfl (h2 _) | rfl
  · by_cases e2 : op = .neq
    · subst e2; cases a <;> first | exact absurd rfl h1 | exact absurd rfl (h2 _) | rfl
    · exact eqGuard_other e1 e2 ..

theorem eqGuard_nil (op : BinOp) (t : TypeId) (x : Operand) (v : Value) (b : Value) (w : World) : (eqGuard op t x (.const v) .nilIface b).run P w = .ok () w := by
  by_cases e1 : op = .eql
  · subst e1; cases b <;> first | rfl | (cases x <;> rfl)
  · by_cases e2 : op = .neq
    · subst e2; cases b <;> first | rfl | (cases x <;> rfl)
    · exact eqGuard_other e1 e2 ..

theorem eqB_val {op : BinOp} {b : Bool} {v : Value} (h : eqB op b = some v) : (op = .eql ∧ v = .bool b) ∨ (op = .neq ∧ v = .bool !b) := by
  cases op <;> simp [eqB] at h <;> simp [h]

theorem binOp_eq {op : BinOp} {t : TypeId} {x y : Value} {b : Bool} {v : Value} (hv : eqB op b = some v) (w : World)
    (hx : ∀ k n, x ≠ .int k n) (hx2 : ∀ s, x ≠ .string s) (hx3 : ∀ k s, x ≠ .float k s) (hx4 : ∀ k s r, x ≠ .complex k s r)
    (h : (Op.equal t x y).run P w = .ok b w) : (binOp op t x y).run P w = .ok v w := by
  rcases eqB_val hv with ⟨rfl, rfl⟩ | ⟨rfl, rfl⟩ <;>
    (unfold binOp
     split <;> first
       | (simp only [Sem.run_bind, h, Result.andThen_ok, Sem.run_pure]; done)
       | simp_all)

end Go.VK

/- The walk is sound for operations that may change memory. -/
import Derived.Test.YtemkcbopbinfmaaGreatDoorVKD
set_option linter.all false
namespace Go.VK
open Go

variable {P : Program}

def Sm (w w' : World) : Prop := w'.os = w.os ∧ w'.tape = w.tape ∧ w'.output = w.output
theorem Sm.refl (w : World) : Sm w w := ⟨rfl, rfl, rfl⟩
theorem Sm.trans {a b c : World} (h : Sm a b) (k : Sm b c) : Sm a c := ⟨k.1.trans h.1, k.2.1.trans h.2.1, k.2.2.trans h.2.2⟩

def Apart (loc : List (Nat × LocI)) : Prop := ∀ i j li lj ci cj, i ≠ j → lookL loc i = some li → lookL loc j = some lj → li.cs = some ci → lj.cs = some cj → li.b ≠ lj.b

/-- The world fits what is known of memory. -/
def HR (st : St) (w : World) : Prop := w.heap = st.h ∧ LocIn st.loc st.h ∧ Apart st.loc

def LocLe (m m' : List (Nat × LocI)) : Prop := ∀ id l, lookL m id = some l → ∃ l', lookL m' id = some l' ∧ l'.b = l.b
def RoLe (m m' : List (Nat × LocI)) : Prop := ∀ id l, lookL m id = some l → l.ro = true → l.cs.isSome = true → lookL m' id = some l

structure Suc (st st' : St) : Prop where
  env : st'.env = st.env
  dm : st'.dm = st.dm
  le : LocLe st.loc st'.loc
  ro : RoLe st.loc st'.loc

theorem LocLe.refl (m : List (Nat × LocI)) : LocLe m m := fun _ l h => ⟨l, h, rfl⟩
theorem RoLe.refl (m : List (Nat × LocI)) : RoLe m m := fun _ _ h _ _ => h
theorem LocLe.trans {a b c : List (Nat × LocI)} (h : LocLe a b) (k : LocLe b c) : LocLe a c := fun id l hl => by
  obtain ⟨l', h1, h2⟩ := h id l hl
  obtain ⟨l'', h3, h4⟩ := k id l' h1
  exact ⟨l'', h3, h4.trans h2⟩
theorem RoLe.trans {a b c : List (Nat × LocI)} (h : RoLe a b) (k : RoLe b c) : RoLe a c := fun id l hl hr hc => k id l (h id l hl hr hc) hr hc
theorem Suc.refl (st : St) : Suc st st := ⟨rfl, rfl, .refl _, .refl _⟩
theorem Suc.trans {a b c : St} (h : Suc a b) (k : Suc b c) : Suc a c := ⟨k.env.trans h.env, k.dm.trans h.dm, h.le.trans k.le, h.ro.trans k.ro⟩

theorem EntOk.mono {m m' : List (Nat × LocI)} (h : LocLe m m') {e : Ent} {v : Value} (hv : EntOk m e v) : EntOk m' e v := by
  cases e <;> try exact hv
  obtain ⟨l, hl, rfl⟩ := hv
  obtain ⟨l', hl', hb⟩ := h _ l hl
  exact ⟨l', hl', by rw [hb]⟩

theorem nbeq_ne {a b : Nat} (h : a ≠ b) : Nat.beq a b = false := by
  cases hb : Nat.beq a b
  · rfl
  · exact absurd (Nat.eq_of_beq_eq_true hb) h

theorem lookL_setL (id : Nat) (x : LocI) : ∀ (m : List (Nat × LocI)) (j : Nat), lookL (setL id x m) j = if j = id then some x else lookL m j
  | [], j => by
    simp only [setL, lookL]
    by_cases h : j = id
    · subst h; simp
    · have : Nat.beq id j = false := nbeq_ne (fun e => h e.symm)
      simp [this, h]
  | (i, e) :: m, j => by
    simp only [setL]
    cases hb : Nat.beq i id with
    | true =>
      have hb := Nat.eq_of_beq_eq_true hb
      subst hb
      simp only [lookL]
      by_cases h : j = i
      · subst h; simp
      · have : Nat.beq i j = false := nbeq_ne (fun e => h e.symm)
        simp [this, h]
    | false =>
      simp only [lookL]
      cases hj : Nat.beq i j with
      | true =>
        have hj := Nat.eq_of_beq_eq_true hj
        subst hj
        have : i ≠ id := fun e => by subst e; simp at hb
        simp [this]
      | false => simp only [lookL_setL id x m j]

theorem knowL_mem : ∀ (m : List (Nat × LocI)) (id : Nat) (l : LocI) (cs : List Value), lookL m id = some l → l.cs = some cs → l.b ∈ knowL m
  | [], _, _, _, h, _ => by simp [lookL] at h
  | (i, e) :: m, id, l, cs, h, hc => by
    simp only [lookL] at h
    simp only [knowL]
    split at h
    · cases h; rw [hc]; simp
    · have := knowL_mem m id l cs h hc
      split <;> simp [this]

theorem KEEP_mem {h h' : Heap} : ∀ {bs : List Nat}, KEEP h h' bs → ∀ b ∈ bs, h'[b]? = h[b]?
  | [], _, _, hb => by cases hb
  | _ :: bs, k, b, hb => by
    rcases List.mem_cons.1 hb with rfl | hb
    · exact k.1
    · exact KEEP_mem k.2 b hb

theorem OFF_mem {a : Addr} : ∀ {bs : List Nat}, OFF a bs → ∀ b ∈ bs, a.block ≠ b
  | [], _, _, hb => by cases hb
  | _ :: bs, k, b, hb => by
    rcases List.mem_cons.1 hb with rfl | hb
    · exact k.1
    · exact OFF_mem k.2 b hb

theorem LocIn.keep {m : List (Nat × LocI)} {h h' : Heap} (hl : LocIn m h) (hk : ∀ b ∈ knowL m, h'[b]? = h[b]?) : LocIn m h' := fun id l cs h1 h2 => by
  obtain ⟨t, ht⟩ := hl id l cs h1 h2
  exact ⟨t, by rw [hk l.b (knowL_mem m id l cs h1 h2)]; exact ht⟩

theorem LocIn.push {m : List (Nat × LocI)} {h : Heap} (hl : LocIn m h) (o : Obj) : LocIn m (h.push o) := fun id l cs h1 h2 => by
  obtain ⟨t, ht⟩ := hl id l cs h1 h2
  have hb : l.b < h.size := (Array.getElem?_eq_some_iff.1 ht).1
  exact ⟨t, by rw [Array.getElem?_push, if_neg (by omega)]; exact ht⟩

theorem LocIn.set {m : List (Nat × LocI)} {h : Heap} (hl : LocIn m h) {b : Nat} {o : Obj} (hb : h[b]? = some o) (ho : ∀ c t f, o ≠ .cells c t f) (o' : Obj) : LocIn m (h.setIfInBounds b o') := fun id l cs h1 h2 => by
  obtain ⟨t, ht⟩ := hl id l cs h1 h2
  have hne : b ≠ l.b := fun e => by subst e; rw [ht] at hb; cases hb; exact ho _ _ _ rfl
  exact ⟨t, by rw [Array.getElem?_setIfInBounds_ne hne]; exact ht⟩

/-- An address that escapes. -/
theorem escE_ok {st : St} {e : Ent} {K : St → Prop} (h : escE st e K) : ∃ st', Suc st st' ∧ st'.h = st.h ∧ (∀ hh, LocIn st.loc hh → LocIn st'.loc hh) ∧ (Apart st.loc → Apart st'.loc) ∧ K st' := by
  unfold escE at h
  split at h
  · rename_i id off
    split at h
    · rename_i l hl
      have main : K { st with loc := setL id { l with cs := none } st.loc } → (l.cs.isSome = true → l.ro = true → False) → ∃ st', Suc st st' ∧ st'.h = st.h ∧ (∀ hh, LocIn st.loc hh → LocIn st'.loc hh) ∧ (Apart st.loc → Apart st'.loc) ∧ K st' := by
        intro h hno
        refine ⟨{ st with loc := setL id { l with cs := none } st.loc }, ⟨rfl, rfl, fun j lj hj => ?_, fun j lj hj hr hc => ?_⟩, rfl, fun hh hL j lj cs hj hc => ?_, fun hA i j li lj ci cj hij hi hj hci hcj => ?_, h⟩
        · rw [lookL_setL]
          by_cases e : j = id
          · subst e; rw [hl] at hj; cases hj; exact ⟨{ l with cs := none }, by simp, rfl⟩
          · exact ⟨lj, by simp [e, hj], rfl⟩
        · rw [lookL_setL]
          by_cases e : j = id
          · subst e; rw [hl] at hj; cases hj; exact (hno hc hr).elim
          · simp [e, hj]
        · simp only [lookL_setL] at hj
          split at hj
          · cases hj; cases hc
          · exact hL j lj cs hj hc
        · simp only [lookL_setL] at hi hj
          split at hi
          · cases hi; cases hci
          · split at hj
            · cases hj; cases hcj
            · exact hA i j li lj ci cj hij hi hj hci hcj
      split at h
      · exact h.elim
      · rename_i hno
        refine main h fun h1 h2 => ?_
        obtain ⟨c, hc⟩ := Option.isSome_iff_exists.1 h1
        exact hno c hc h2
    · exact h.elim
  · exact ⟨st, .refl st, rfl, fun _ h => h, id, h⟩

theorem escs_ok : ∀ {xs : List Operand} {st : St} {K : St → Prop}, escs st xs K → ∃ st', Suc st st' ∧ st'.h = st.h ∧ (∀ hh, LocIn st.loc hh → LocIn st'.loc hh) ∧ (Apart st.loc → Apart st'.loc) ∧ K st'
  | [], st, K, h => ⟨st, .refl st, rfl, fun _ h => h, id, h⟩
  | x :: r, st, K, h => by
    obtain ⟨s1, h1, h2, h3, h4, h⟩ := escE_ok h
    obtain ⟨s2, k1, k2, k3, k4, h⟩ := escs_ok (xs := r) h
    exact ⟨s2, h1.trans k1, k2.trans h2, fun hh hL => k3 hh (h3 hh hL), fun hA => k4 (h4 hA), h⟩

/-- What is shown of an operation. -/
def Done (st : St) (w : World) (K : Ent → St → Prop) (v : Value) (w' : World) : Prop :=
  Sm w w' ∧ ∃ e st', Suc st st' ∧ HR st' w' ∧ EntOk st'.loc e v ∧ K e st'

inductive Outc (P : Program) (Z : List PanicEntry → Heap → Prop) (st : St) (a : Act) (w : World) (o : Oper) (K : Ent → St → Prop) : Prop
  | value (v : Value) (w' : World) (hr : (execOp a.eval o).run P w = .ok (.value v) w') (h : Done st w K v w')
  | skip (w' : World) (hr : (execOp a.eval o).run P w = .ok .skip w') (h : Done st w K undef w')
  | enter (f : FuncId) (args : Array Value) (hr : (execOp a.eval o).run P w = .ok (.enter f args) w)
      (h : HC P f args w.heap fun e h' => match e with
        | .returned v => ∀ w', w'.heap = h' → Sm w w' → Done st w K v w'
        | .panicked c => Z c h'
        | .outgrown => False)
  | round (l : Nat) (r : Loop) (args : Array Value) (hr : (execOp a.eval o).run P w = .ok (.round l r.fn ((r.params.zip args).foldl (fun tmps (t, a) => tmps.setIfInBounds t a) r.tmps) r.assign r.body) w)
      (h : RoundIn Fence.wide 0 P l r.fn ((r.params.zip args).foldl (fun tmps (t, a) => tmps.setIfInBounds t a) r.tmps) r.assign r.body w fun e w' => match e with
        | .returned v => Done st w K v w'
        | .panicked c => Sm w w' ∧ Z c w'.heap
        | .outgrown => False)
  | panic (v : Value) (hr : (execOp a.eval o).run P w = .halt (.panic v) w) (h : Z [{ v, recovered := false }] w.heap)

section
variable {Z : List PanicEntry → Heap → Prop} {st : St} {a : Act} {w : World} {o : Oper} {K : Ent → St → Prop}

theorem Outc.of {s : Sem Value} (hs : execOp a.eval o = (do pure (.value (← s)))) {v : Value} {w' : World} (hr : s.run P w = .ok v w') (h : Done st w K v w') : Outc P Z st a w o K :=
  .value v w' (by rw [hs]; simp [hr]) h
theorem Outc.ofU {s : Sem Unit} (hs : execOp a.eval o = (do s; pure .skip)) {w' : World} (hr : s.run P w = .ok () w') (h : Done st w K undef w') : Outc P Z st a w o K :=
  .skip w' (by rw [hs]; simp [hr]) h

/-- A new block. -/
theorem Done.push {ob : Obj} {e : Ent} {v : Value} (hw : HR st w) (st' : St) (he : st'.env = st.env) (hd : st'.dm = st.dm) (hl : st'.loc = st.loc) (hh : st'.h = st.h.push ob) (hv : EntOk st.loc e v) (hK : K e st') {w' : World}
    (hw' : w'.heap = w.heap.push ob) (hsm : Sm w w') : Done st w K v w' :=
  ⟨hsm, e, st', ⟨he, hd, by rw [hl]; exact .refl _, by rw [hl]; exact .refl _⟩, ⟨by rw [hw', hh, hw.1], by rw [hl, hh]; exact hw.2.1.push _, by rw [hl]; exact hw.2.2⟩, by rw [hl]; exact hv, hK⟩

/-- A new variable of the call's own. -/
theorem Done.newL {cs : List Value} {t d : Nat} (hw : HR st w) (hno : lookL st.loc d = none) (hK : K (.loc d 0) { st with loc := setL d ⟨st.h.size, some cs, false⟩ st.loc, h := st.h.push (.cells cs.toArray t (0, 0)) }) {w' : World}
    (hw' : w'.heap = w.heap.push (.cells cs.toArray t (0, 0))) (hsm : Sm w w') : Done st w K (.pointer (some ⟨w.heap.size, 0, none⟩)) w' := by
  have hsz : w.heap.size = st.h.size := by rw [hw.1]
  refine ⟨hsm, .loc d 0, { st with loc := setL d ⟨st.h.size, some cs, false⟩ st.loc, h := st.h.push (.cells cs.toArray t (0, 0)) }, ⟨rfl, rfl, fun j lj hj => ?_, fun j lj hj _ _ => ?_⟩, ⟨by rw [hw', hw.1], fun j lj c hj hc => ?_, fun i j li lj ci cj hij hi hj hci hcj => ?_⟩, ⟨⟨st.h.size, some cs, false⟩, by simp [lookL_setL], by rw [hsz]⟩, hK⟩
  · have e : j ≠ d := fun e => by subst e; rw [hno] at hj; cases hj
    exact ⟨lj, by simp [lookL_setL, e, hj], rfl⟩
  · have e : j ≠ d := fun e => by subst e; rw [hno] at hj; cases hj
    simp [lookL_setL, e, hj]
  · simp only [lookL_setL] at hj
    split at hj
    · cases hj; cases hc
      exact ⟨t, by simp⟩
    · exact hw.2.1.push _ j lj c hj hc
  · simp only [lookL_setL] at hi hj
    have old : ∀ k lk ck, lookL st.loc k = some lk → lk.cs = some ck → lk.b < st.h.size := fun k lk ck hk hc => by
      obtain ⟨t', ht⟩ := hw.2.1 k lk ck hk hc
      exact (Array.getElem?_eq_some_iff.1 ht).1
    split at hi
    · rename_i ei
      split at hj
      · rename_i ej; exact absurd (ei.trans ej.symm) hij
      · cases hi
        have := old j lj cj hj hcj
        simp; omega
    · split at hj
      · cases hj
        have := old i li ci hi hci
        simp; omega
      · exact hw.2.2 i j li lj ci cj hij hi hj hci hcj

theorem run_newVar (t : TypeId) (v : Value) (w : World) : (newVar t v).run P w = .ok ⟨w.heap.size, 0, none⟩ { w with heap := w.heap.push (.cells v.cells t) } := rfl

/-! ### Stores -/
theorem put_size (h : Heap) (a : Addr) (v : Value) : (put h a v).size = h.size := by simp [put]
theorem put_ne {h : Heap} {a : Addr} {v : Value} {b : Nat} (hb : a.block ≠ b) : (put h a v)[b]? = h[b]? := by
  simp only [put, Array.getElem?_modify]
  rw [if_neg hb]

theorem run_store' {w : World} {a : Addr} {v : Value} (hv : oneC v = true) (hc : (cell w.heap a).isSome = true) (hf : frz w.heap a = false) :
    (store a v).run P w = .ok () { w with heap := put w.heap a v } := by
  obtain ⟨u, hu⟩ := Option.isSome_iff_exists.1 hc
  have hv' : v.oneCell' = true := by cases v <;> first | rfl | cases hv
  have hu' : w.cell? a = some u := hu
  have hf' : w.frozen? a = false := hf
  rw [run_store P w a v .plain hv', hu']
  simp only [hf', Bool.false_eq_true, if_false]
  rfl

theorem STN_ok {bs : List Nat} {Kh : Heap → Prop} {p : Addr} : ∀ (vs : List Value) (i : Nat) (w : World), STN p vs i w.heap bs Kh →
    ∃ h', (storeCells p vs i).run P w = .ok () { w with heap := h' } ∧ Kh h' ∧ (∀ b ∈ bs, h'[b]? = w.heap[b]?)
  | [], i, w, h => ⟨w.heap, by simp [storeCells], h, fun _ _ => rfl⟩
  | v :: vs, i, w, h => by
    obtain ⟨h1, h2, h3, h4, h5⟩ := h
    obtain ⟨h', hr, hK, hk⟩ := STN_ok vs (i + 1) { w with heap := put w.heap (p.add i) v } h5
    refine ⟨h', ?_, hK, fun b hb => ?_⟩
    · simp only [storeCells, Sem.run_bind, run_store' h1 h2 h3, Result.andThen_ok]
      exact hr
    · rw [hk b hb]; exact put_ne (OFF_mem h4 b hb)

theorem put_known {h : Heap} {b : Nat} {cs : List Value} {t : TypeId} {f : Nat × Nat} (hb : h[b]? = some (.cells cs.toArray t f)) (i : Nat) (v : Value) :
    (put h ⟨b, i, none⟩ v)[b]? = some (.cells (cs.set i v).toArray t f) := by
  simp [put, Array.getElem?_modify, hb]

theorem splice_nil (cs : List Value) (off : Nat) : splice cs off [] = cs := by simp [splice]
theorem splice_cons {cs : List Value} {off : Nat} {v : Value} {vs : List Value} (h : off + (vs.length + 1) ≤ cs.length) : splice (cs.set off v) (off + 1) vs = splice cs off (v :: vs) := by
  unfold splice
  have hk : off < cs.length := by omega
  rw [List.take_succ_eq_append_getElem (by simpa using hk), List.take_set_of_le (by omega), List.drop_set_of_lt (by omega)]
  rw [show off + (v :: vs).length = off + 1 + vs.length by simp only [List.length_cons]; omega]
  simp

theorem PUTN_ok {b : Nat} {t : TypeId} {Kh : Heap → Prop} {p : Addr} {off0 : Nat} (hp : p = ⟨b, off0, none⟩) : ∀ (vs : List Value) (i : Nat) (cs : List Value) (w : World), w.heap[b]? = some (.cells cs.toArray t (0, 0)) → off0 + i + vs.length ≤ cs.length → PUTN b vs (off0 + i) w.heap Kh →
    ∃ h', (storeCells p vs i).run P w = .ok () { w with heap := h' } ∧ Kh h' ∧ h'[b]? = some (.cells (splice cs (off0 + i) vs).toArray t (0, 0)) ∧ ∀ k, k ≠ b → h'[k]? = w.heap[k]?
  | [], i, cs, w, hb, _, h => ⟨w.heap, by simp [storeCells], h, by rw [splice_nil]; exact hb, fun _ _ => rfl⟩
  | v :: vs, i, cs, w, hb, hle, h => by
    obtain ⟨h1, h5⟩ := h
    simp only [List.length_cons] at hle
    have hc : (cell w.heap (p.add i)).isSome = true := by
      rw [hp, addr_add_new, cell_known hb]; simp; omega
    have hf : frz w.heap (p.add i) = false := by
      rw [hp, addr_add_new]; simp [frz, hb]
    have e : p.add i = ⟨b, off0 + i, none⟩ := by rw [hp, addr_add_new]
    obtain ⟨h', hr, hK, hb', hk⟩ := PUTN_ok hp vs (i + 1) (cs.set (off0 + i) v) { w with heap := put w.heap (p.add i) v } (by rw [e]; exact put_known hb _ _) (by simp; omega) (by rw [e]; exact h5)
    refine ⟨h', ?_, hK, ?_, fun k hk' => ?_⟩
    · simp only [storeCells, Sem.run_bind, run_store' h1 hc hf, Result.andThen_ok]
      exact hr
    · rw [hb']
      congr 2
      rw [← splice_cons (by omega)]; rfl
    · rw [hk k hk', e]; exact put_ne (fun e => hk' e.symm)

/-- A change of memory that leaves the known variables alone. -/
theorem Done.keep {h' : Heap} {e : Ent} {v : Value} (hw : HR st w) (hk : ∀ b ∈ knowL st.loc, h'[b]? = st.h[b]?) (hv : EntOk st.loc e v) (hK : K e { st with h := h' }) {w' : World} (hw' : w'.heap = h') (hsm : Sm w w') : Done st w K v w' :=
  ⟨hsm, e, { st with h := h' }, ⟨rfl, rfl, .refl _, .refl _⟩, ⟨hw', hw.2.1.keep hk, hw.2.2⟩, hv, hK⟩

theorem Done.suc {st' : St} (hs : Suc st st') {v : Value} {w' : World} (h : Done st' w K v w') : Done st w K v w' := by
  obtain ⟨h1, e, s2, h2, h3⟩ := h
  exact ⟨h1, e, s2, hs.trans h2, h3⟩

theorem run_storeVar {t : TypeId} {v : Value} (hz : (sizeO P t == some v.cells.toList.length) = true) (p : Addr) (w : World) : (storeVar t p v).run P w = (storeCells p v.cells.toList).run P w := by
  have hz' : sizeO P t = some v.cells.toList.length := by simpa using hz
  simp [storeVar, run_sizeO hz']

theorem store_ok {t : TypeId} {x y : Operand} (hE : EnvOk st a) (hw : HR st w) (hop : o.op = .store t x y) (h : opE P Z o.dst o.type o.op st K) : Outc P Z st a w o K := by
  rw [hop] at h
  have hs : execOp a.eval o = (do Instr.storeAt t (a.eval x) (a.eval y); pure .skip) := by simp only [execOp, hop]
  simp only [opE] at h
  split at h
  case h_2 => exact h.elim
  rename_i v hv
  have hv := hE.value hv
  split at h
  case h_2 => exact h.elim
  rename_i hsz
  obtain ⟨hcq, h⟩ := oneQ_ok h
  rw [hcq] at hsz h
  obtain ⟨s1, hs1, hh1, hL1, hA1, h⟩ := escE_ok h
  have hw1 : HR s1 w := ⟨by rw [hh1]; exact hw.1, by rw [hh1]; exact hL1 _ hw.2.1, hA1 hw.2.2⟩
  have hE1 : EnvOk s1 a := fun i => by rw [hs1.env]; exact (hE i).mono hs1.le
  have hx := hE1.ent x
  have gen : ∀ p : Addr, a.eval x = .pointer (some p) → (STN p v.cells.toList 0 s1.h (knowL s1.loc) fun h => K (.val undef) { s1 with h := h }) → Outc P Z st a w o K := by
    intro p hp h
    rw [← hw1.1] at h
    obtain ⟨h', hr, hK, hk⟩ := STN_ok (P := P) _ _ w h
    refine Outc.ofU hs (w' := { w with heap := h' }) ?_ (Done.suc hs1 (Done.keep (e := .val undef) hw1 (fun b hb => by rw [hk b hb, hw1.1]) rfl hK rfl ⟨rfl, rfl, rfl⟩))
    rw [hp, hv]
    simp only [Instr.storeAt, Sem.run_bind, run_sureAddr, Result.andThen_ok, run_storeVar hsz, hr]
  split at h
  · rename_i d off hd
    rw [hd] at hx
    obtain ⟨l, hl, hpx⟩ := hx
    split at h
    · rename_i b cs ro hl'
      rw [hl] at hl'
      obtain rfl := Option.some.inj hl'
      split at h
      case h_2 => exact h.elim
      rename_i hle
      have hle := Nat.le_of_ble_eq_true hle
      obtain ⟨tt, hb⟩ := hw1.2.1 d _ cs hl rfl
      rw [← hw1.1] at hb h
      obtain ⟨h', hr, hK, hb', hk⟩ := PUTN_ok (P := P) (p := ⟨b, off, none⟩) (off0 := off) rfl v.cells.toList 0 cs w hb (by simpa using hle) h
      refine Outc.ofU hs (w' := { w with heap := h' }) ?_ (Done.suc hs1 ⟨⟨rfl, rfl, rfl⟩, .val undef, { s1 with loc := setL d ⟨b, some (splice cs off v.cells.toList), false⟩ s1.loc, h := h' }, ⟨rfl, rfl, fun j lj hj => ?_, fun j lj hj hr hc => ?_⟩, ⟨rfl, fun j lj c hj hc => ?_, fun i j li lj ci cj hij hi hj hci hcj => ?_⟩, rfl, hK⟩)
      · rw [hpx, hv]
        simp only [Instr.storeAt, Sem.run_bind, run_sureAddr, Result.andThen_ok, run_storeVar hsz, hr]
      · rw [lookL_setL]
        by_cases e : j = d
        · subst e; rw [hl] at hj; cases hj; exact ⟨⟨b, some (splice cs off v.cells.toList), false⟩, by simp, rfl⟩
        · exact ⟨lj, by simp [e, hj], rfl⟩
      · rw [lookL_setL]
        by_cases e : j = d
        · subst e; rw [hl] at hj; cases hj; cases hr
        · simp [e, hj]
      · simp only [lookL_setL] at hj
        split at hj
        · cases hj; cases hc
          exact ⟨tt, hb'⟩
        · rename_i e
          obtain ⟨t', ht⟩ := hw1.2.1 j lj c hj hc
          have hne : lj.b ≠ b := hw1.2.2 j d lj _ c cs e hj hl hc rfl
          exact ⟨t', by rw [hk _ hne, hw1.1]; exact ht⟩
      · simp only [lookL_setL] at hi hj
        have sub : ∀ k lk ck, (if k = d then some (LocI.mk b (some (splice cs off v.cells.toList)) false) else lookL s1.loc k) = some lk → lk.cs = some ck → ∃ lk' ck', lookL s1.loc k = some lk' ∧ lk'.cs = some ck' ∧ lk'.b = lk.b := by
          intro k lk ck hk hc
          split at hk
          · rename_i e; cases hk; subst e; exact ⟨_, cs, hl, rfl, rfl⟩
          · exact ⟨lk, ck, hk, hc, rfl⟩
        obtain ⟨li', ci', hi', hci', ei⟩ := sub i li ci hi hci
        obtain ⟨lj', cj', hj', hcj', ej⟩ := sub j lj cj hj hcj
        rw [← ei, ← ej]
        exact hw1.2.2 i j li' lj' ci' cj' hij hi' hj' hci' hcj'
    · rename_i b ro hl'
      rw [hl] at hl'
      obtain rfl := Option.some.inj hl'
      exact gen _ hpx h
    · exact h.elim
  · obtain ⟨p, hp, h⟩ := ptrW_ok hx h
    exact gen p hp h

/-! ### Appending -/
theorem RDC_ok {q : Option Addr} {vs : List Value} {n size len cap : Nat} (hl : q.isSome = true → vs.length = n * size) (h : RDC w.heap q vs) : (Builtin.firstCells size n (.slice q len cap)).run P w = .ok vs.toArray w := by
  cases q with
  | none => simp only [RDC] at h; subst h; rfl
  | some p =>
    have := hl rfl
    simp only [Builtin.firstCells]
    rw [← this]
    exact run_loadCells vs (fun j hj => h j hj)

theorem getElem?_flatten_replicate (z : List Value) : ∀ (n i : Nat), i < n * z.length → ((List.replicate n z).flatten)[i]? = z[i % z.length]?
  | 0, i, h => by simp at h
  | n + 1, i, h => by
    simp only [List.replicate_succ, List.flatten_cons]
    by_cases hi : i < z.length
    · rw [List.getElem?_append_left hi, Nat.mod_eq_of_lt hi]
    · have hge : z.length ≤ i := by omega
      rw [List.getElem?_append_right hge, getElem?_flatten_replicate z n (i - z.length) (by rw [Nat.succ_mul] at h; omega), ← Nat.mod_eq_sub_mod hge]

theorem zeroes_range (z : List Value) (n : Nat) : (Array.range (n * z.length)).map (fun i => z.toArray[i % z.toArray.size]!) = (zeroes z n).toArray := by
  apply Array.ext'
  apply List.ext_getElem?
  intro i
  simp only [zeroes]
  by_cases hi : i < n * z.length
  · rw [getElem?_flatten_replicate z n i hi]
    have hk : 0 < z.length := by
      rcases Nat.eq_zero_or_pos z.length with h | h
      · rw [h] at hi; simp at hi
      · exact h
    have hm : i % z.length < z.length := Nat.mod_lt _ hk
    simp [hi, hm]
  · have h1 : ((List.replicate n z).flatten)[i]? = none := by
      rw [List.getElem?_eq_none]; simp; omega
    rw [h1]
    simp; omega

theorem zeroes_cells (z : List Value) (n : Nat) : Builtin.zeroCells z.toArray n = (zeroes z n).toArray := by
  rw [← zeroes_range]; simp [Builtin.zeroCells]

theorem growBy_le (newLen : Nat) : ∀ (r c : Nat), c ≤ Builtin.growBy newLen r c
  | 0, c => Nat.le_refl c
  | r + 1, c => by
    simp only [Builtin.growBy]
    split
    · exact Nat.le_refl c
    · exact Nat.le_trans (by omega) (growBy_le newLen r _)

theorem nextslicecap_le (need cap : Nat) : need ≤ 2 * Builtin.nextslicecap need cap := by
  unfold Builtin.nextslicecap
  split
  · omega
  · split
    · omega
    · have := growBy_le need 4 cap; omega

theorem appendCap_bounds (need cap : Nat) (e : TypeId) (t : Nat) (h : need < 2 ^ 63) : need ≤ (Question.appendCap need cap e).cut t ∧ (Question.appendCap need cap e).cut t < 2 ^ 63 := by
  simp only [Question.cut]
  have : t % (2 ^ 63 - need) < 2 ^ 63 - need := Nat.mod_lt _ (by omega)
  omega

theorem run_appendCap (need cap : Nat) (e : TypeId) (w : World) : (choose (.appendCap need cap e)).run P w = .ok ((Question.appendCap need cap e).cut (w.tape w.drawn (.appendCap need cap e))) { w with drawn := w.drawn + 1 } := by
  rw [run_choose]; rfl

theorem append_core {t u e : TypeId} {d' : TypeDesc} {c : Call} {x y : Operand} {q : Option Addr} {n cp m sz by_ : Nat} {z new : List Value} {yv : Value} (hw : HR st w) (hop : o.op = .call c) (hc : c.callee = .builtin .append)
    (ht0 : c.argTypes[0]? = some t) (ht1 : c.argTypes[1]? = some u) (hx0 : (c.args.map a.eval)[0]? = some (.slice q n cp)) (hx1 : (c.args.map a.eval)[1]? = some yv)
    (hd : P.underlying t = some (.slice e)) (hd' : P.underlying u = some d') (hni : ∀ k, d' ≠ .int k) (hz : zeroCellsOf P e = some z) (hsz : sizeB P e = sz) (hby : bytesB P e = by_)
    (hlen : ∀ w' : World, (Builtin.lenOf yv).run P w' = .ok m w') (hnew : ∀ w' : World, w'.heap = w.heap → (Builtin.firstCells sz m yv).run P w' = .ok new.toArray w')
    (h : (n + m ≤ cp ∧ match q with
        | some a0 => STN (a0.add (n * sz)) new 0 w.heap (knowL st.loc) fun h' => K (.val (.slice q (n + m) cp)) { st with h := h' }
        | none => K (.val (.slice q (n + m) cp)) { st with h := w.heap }) ∨
     (cp < n + m ∧ 0 < by_ ∧ Builtin.nextslicecap (n + m) cp * by_ ≤ 2 ^ 48 ∧
      ∃ old : List Value, (q.isSome = true → old.length = n * sz) ∧ RDC w.heap q old ∧
        ∀ c, n + m ≤ c → c < 2 ^ 63 → K (.val (.slice (some ⟨w.heap.size, 0, none⟩) (n + m) c)) { st with h := (w.heap.push (.cells (old ++ new ++ zeroes z (c - (n + m))).toArray e (0, 0))) })) : Outc P Z st a w o K := by
  have hs : execOp a.eval o = (do pure (.value (← Builtin.append_ c.argTypes o.type (c.args.map a.eval)))) := by
    simp only [execOp, hop, resolve, hc]; rfl
  obtain ⟨i, zv, hi, hzv, hcells, hrz⟩ := zeroCells_ok hz
  have hbt : ∀ w' : World, (typeInfo e).run P w' = .ok i w' := run_typeInfo' hi
  have hbb : by_ = i.bytes := by rw [← hby]; simp [bytesB, hi]
  have hrs : ∀ w' : World, (sizeOf e).run P w' = .ok sz w' := fun w' => by rw [run_sizeB hi, hsz]
  have hzr : (d' matches .int _) = false := by cases d' <;> first | rfl | exact absurd rfl (hni _)
  rcases h with ⟨hle, h⟩ | ⟨hlt, hb0, hcap, old, hol, hor, h⟩
  · cases q with
    | some p =>
      obtain ⟨h', hr, hK, hk⟩ := STN_ok (P := P) new 0 w h
      refine Outc.of hs (v := .slice (some p) (n + m) cp) (w' := { w with heap := h' }) ?_ (Done.keep (e := .val _) hw (fun b hb => by rw [hk b hb, hw.1]) rfl hK rfl ⟨rfl, rfl, rfl⟩)
      simp only [Builtin.append_, ht0, ht1, hx0, hx1, Sem.run_bind, run_underlying' hd, run_underlying' hd', hrs, Result.andThen_ok, Sem.run_pure, hzr, Bool.false_eq_true, if_false, hlen, Bool.not_false, if_true, hle]
      rw [hnew w rfl]
      simp only [Result.andThen_ok, hr]
    | none =>
      refine Outc.of hs (v := .slice none (n + m) cp) (w' := w) ?_ (Done.keep (h' := w.heap) (e := .val _) hw (fun b hb => by rw [hw.1]) rfl h rfl ⟨rfl, rfl, rfl⟩)
      simp only [Builtin.append_, ht0, ht1, hx0, hx1, Sem.run_bind, run_underlying' hd, run_underlying' hd', hrs, Result.andThen_ok, Sem.run_pure, hzr, Bool.false_eq_true, if_false, hlen, Bool.not_false, if_true, hle]
      rw [hnew w rfl]
      simp only [Result.andThen_ok]
  · have h2 : n + m ≤ 2 * Builtin.nextslicecap (n + m) cp := nextslicecap_le _ _
    have h3 : Builtin.nextslicecap (n + m) cp ≤ Builtin.nextslicecap (n + m) cp * by_ := Nat.le_mul_of_pos_right _ hb0
    obtain ⟨hc1, hc2⟩ := appendCap_bounds (n + m) cp e (w.tape w.drawn (.appendCap (n + m) cp e)) (by omega)
    refine Outc.of hs (v := .slice (some ⟨w.heap.size, 0, none⟩) (n + m) ((Question.appendCap (n + m) cp e).cut (w.tape w.drawn (.appendCap (n + m) cp e))))
      (w' := { w with drawn := w.drawn + 1, heap := w.heap.push (.cells (old ++ new ++ zeroes z ((Question.appendCap (n + m) cp e).cut (w.tape w.drawn (.appendCap (n + m) cp e)) - (n + m))).toArray e (0, 0)) }) ?_
      (Done.push (e := .val _) hw { st with h := w.heap.push (.cells (old ++ new ++ zeroes z ((Question.appendCap (n + m) cp e).cut (w.tape w.drawn (.appendCap (n + m) cp e)) - (n + m))).toArray e (0, 0)) } rfl rfl rfl (by rw [hw.1]) rfl (h _ hc1 hc2) rfl ⟨rfl, rfl, rfl⟩)
    have hn1 : ¬ (n + m ≤ cp) := by omega
    have hn3 : ¬ (Builtin.nextslicecap (n + m) cp * i.bytes > 2 ^ 48) := by rw [← hbb]; omega
    have ho : (Builtin.firstCells sz n (.slice q n cp)).run P { w with drawn := w.drawn + 1 } = .ok old.toArray { w with drawn := w.drawn + 1 } := RDC_ok hol hor
    have hb0' : ¬ i.bytes = 0 := by omega
    simp only [Builtin.append_, ht0, ht1, hx0, hx1, Sem.run_bind, run_underlying' hd, run_underlying' hd', hrs, Result.andThen_ok, Sem.run_pure, hzr, Bool.false_eq_true, if_false, hlen, Bool.not_false, if_true, hn1, hbt]
    simp only [Sem.run_ite, hn3, if_false, false_or, hb0', and_false, Sem.run_pure, Result.andThen_ok, run_appendCap, run_askRoom, hbt, ho, Sem.run_bind, hrz]
    rw [hnew { w with drawn := w.drawn + 1 } rfl]
    simp only [Result.andThen_ok, hcells, zeroes_cells, newRow, Sem.run_bind, run_newObj, Sem.run_pure, List.append_toArray]

theorem zeroes_u8 (n : Nat) : zeroes [Value.int .u8 0] n = List.replicate n (Value.int .u8 0) := by
  induction n with
  | zero => rfl
  | succ n ih => simp only [zeroes, List.replicate_succ, List.flatten_cons] at *; rw [ih]; rfl

theorem append_ok {ts : List TypeId} {args : List Operand} {c : Call} (hE : EnvOk st a) (hw : HR st w) (hop : o.op = .call c) (hc : c.callee = .builtin .append) (hts : c.argTypes.toList = ts) (hargs : c.args.toList = args)
    (h : appendW P ts args st K) : Outc P Z st a w o K := by
  unfold appendW at h
  split at h
  case h_2 => exact h.elim
  rename_i t u ts' x y
  have ht0 : c.argTypes[0]? = some t := by rw [← Array.getElem?_toList, hts]; rfl
  have ht1 : c.argTypes[1]? = some u := by rw [← Array.getElem?_toList, hts]; rfl
  have hx0 : (c.args.map a.eval)[0]? = some (a.eval x) := by rw [← Array.getElem?_toList]; simp [hargs]
  have hx1 : (c.args.map a.eval)[1]? = some (a.eval y) := by rw [← Array.getElem?_toList]; simp [hargs]
  split at h
  · rename_i e e' q n cp xa xn xc hd hd' hx hy
    rw [hE.value hx] at hx0
    rw [hE.value hy] at hx1
    split at h
    case h_2 => exact h.elim
    rename_i z hz
    obtain ⟨new, hnl, hnr, h⟩ := h
    rw [← hw.1] at hnr h
    refine append_core (x := x) (y := y) (m := xn) hw hop hc ht0 ht1 hx0 hx1 hd hd' (by simp) hz rfl rfl (fun _ => rfl) (fun w' hw' => RDC_ok hnl (by rw [hw']; exact hnr)) ?_
    rcases h with ⟨hle, h⟩ | h
    · refine .inl ⟨hle, ?_⟩
      cases q <;> exact h
    · exact .inr h
  · rename_i e q n cp s hd hd' hx hy
    rw [hE.value hx] at hx0
    rw [hE.value hy] at hx1
    split at h
    case h_2 => exact h.elim
    rename_i he hsz hby hz
    unfold APPSTR at h
    rw [← hw.1] at h
    refine append_core (x := x) (y := y) (m := s.size) (new := bytesV s) hw hop hc ht0 ht1 hx0 hx1 hd hd' (by simp) hz hsz hby (fun _ => rfl) (fun w' hw' => ?_) ?_
    · simp only [Builtin.firstCells, Sem.run_pure]
      congr 1
      apply Array.ext'
      simp [bytesV]
    · rcases h with ⟨hle, h⟩ | ⟨h1, h2, old, h3, h4, h5⟩
      · refine .inl ⟨hle, ?_⟩
        cases q <;> simpa using h
      · exact .inr ⟨h1, by omega, by simpa using h2, old, by simpa using h3, h4, fun c h6 h7 => by simpa [zeroes_u8] using h5 c h6 h7⟩
  · exact h.elim

end
end Go.VK

/- The walk is sound for every operation that it takes. -/
import Derived.Test.YtemkcbopbinfmaaGreatDoorVKE
import Derived.RangeFuncRecord
set_option linter.all false
namespace Go.VK
open Go

variable {P : Program}

/-- No function with a body is the one that the machine answers by itself. -/
def NoNG (P : Program) : Prop := ∀ (f : FuncId) (fn : Func), P.funcs[f]? = some fn → fn.body.isSome = true → fn.name ≠ "runtime.NumGoroutine"

section
variable {Z : List PanicEntry → Heap → Prop} {st : St} {a : Act} {w : World} {o : Oper} {K : Ent → St → Prop}

theorem callFunc_run (hP : NoNG P) {f : FuncId} (hb : ((P.funcs[f]?).any (·.body.isSome)) = true) (args : Array Value) (w : World) : (callFunc f args).run P w = .ok (.enter f args) w := by
  cases hf : P.funcs[f]? with
  | none => rw [hf] at hb; cases hb
  | some fn =>
    rw [hf] at hb
    have hb' : fn.body.isSome = true := by simpa using hb
    have hn := hP f fn hf hb'
    have hno : fn.body.isNone = false := by
      cases h : fn.body with
      | none => rw [h] at hb'; cases hb'
      | some c => rfl
    have hn' : (fn.name == "runtime.NumGoroutine") = false := by simpa using hn
    simp only [callFunc, Sem.run_bind, run_program, Result.andThen_ok, hf, hn', hno, Bool.false_eq_true, if_false, Sem.run_pure]

theorem alloc_ok {t : TypeId} (hw : HR st w) (hop : o.op = .alloc t) (h : opE P Z o.dst o.type o.op st K) : Outc P Z st a w o K := by
  rw [hop] at h
  have hs : execOp a.eval o = (do pure (.value (← Instr.alloc t true (.tuple #[])))) := by simp only [execOp, hop]
  simp only [opE] at h
  split at h
  case h_2 => exact h.elim
  rename_i d cs hd hz
  obtain ⟨i, zv, hi, hzv, hcells, hrz⟩ := zeroCells_ok hz
  split at h
  case h_2 => exact h.elim
  rename_i hno
  refine Outc.of hs (w' := { w with heap := w.heap.push (.cells cs.toArray t (0, 0)) }) ?_ (Done.newL (cs := cs) (t := t) (d := d) hw hno h rfl ⟨rfl, rfl, rfl⟩)
  simp only [Instr.alloc, Sem.run_bind, hrz, Result.andThen_ok, run_newVar, hcells, Sem.run_pure]

theorem box_ok {t : TypeId} {x : Operand} (hE : EnvOk st a) (hw : HR st w) (hop : o.op = .box t x) (h : opE P Z o.dst o.type o.op st K) : Outc P Z st a w o K := by
  rw [hop] at h
  have hs : execOp a.eval o = (do pure (.value (← Instr.box t (a.eval x)))) := by simp only [execOp, hop]
  simp only [opE] at h
  split at h
  case h_2 => exact h.elim
  rename_i d v hd hv
  have hv := hE.value hv
  obtain ⟨s1, hs1, hh1, hL1, hA1, h⟩ := escE_ok h
  have hw1 : HR s1 w := ⟨by rw [hh1]; exact hw.1, by rw [hh1]; exact hL1 _ hw.2.1, hA1 hw.2.2⟩
  split at h
  case h_2 => exact h.elim
  rename_i hno
  obtain ⟨hcq, h⟩ := oneQ_ok h
  rw [hcq] at h
  refine Outc.of hs (w' := { w with heap := w.heap.push (.cells v.cells.toList.toArray t (0, 0)) }) ?_ (Done.suc hs1 (Done.newL (cs := v.cells.toList) (t := t) (d := d) hw1 hno h rfl ⟨rfl, rfl, rfl⟩))
  rw [hv]
  simp [Instr.box, run_newVar]

theorem buildSlice_ok {t : TypeId} {len : Nat} {parts : Array (Nat × Operand)} (hE : EnvOk st a) (hw : HR st w) (hop : o.op = .buildSlice t len parts) (h : opE P Z o.dst o.type o.op st K) : Outc P Z st a w o K := by
  rw [hop] at h
  have hs : execOp a.eval o = (do pure (.value (← Instr.buildSlice t len (parts.map fun (i, x) => (i, a.eval x))))) := by simp only [execOp, hop]
  simp only [opE] at h
  split at h
  case h_2 => exact h.elim
  rename_i e hd
  split at h
  case h_2 => exact h.elim
  rename_i z ps hz hps
  obtain ⟨i, zv, hi, hzv, hcells, hrz⟩ := zeroCells_ok hz
  split at h
  case h_2 => exact h.elim
  rename_i cs hzl hle hfill
  obtain ⟨hones, h⟩ := onesQ_ok h
  have hfill := hones _ _ hfill
  have hzl := Nat.eq_of_beq_eq_true hzl
  have hle := Nat.le_of_ble_eq_true hle
  obtain ⟨s1, hs1, hh1, hL1, hA1, h⟩ := escs_ok h
  have hw1 : HR s1 w := ⟨by rw [hh1]; exact hw.1, by rw [hh1]; exact hL1 _ hw.2.1, hA1 hw.2.2⟩
  have hp : (parts.map fun (x : Nat × Operand) => (x.1, a.eval x.2)).toList = ps := partsV_ok hE hps
  have hfl := fillL_ok ps _ cs hfill
  simp only [Option.map_some] at hfl
  refine Outc.of hs (v := .slice (some ⟨w.heap.size, 0, none⟩) len len) (w' := { w with heap := w.heap.push (.cells cs.toArray e (0, 0)) }) ?_
    (Done.suc hs1 (Done.push (e := .val _) hw1 { s1 with h := s1.h.push (.cells cs.toArray e (0, 0)) } rfl rfl rfl rfl rfl (by unfold ALLOC at h; rw [hw1.1]; exact h) rfl ⟨rfl, rfl, rfl⟩))
  have hn : ¬ (len * sizeB P e > 2 ^ 24) := by omega
  have hzz : (Array.range (len * sizeB P e)).map (fun i => z.toArray[i % z.toArray.size]!) = (zeroes z len).toArray := by rw [← hzl]; exact zeroes_range z len
  simp only [Instr.buildSlice, Sem.run_bind, run_underlying' hd, Result.andThen_ok, run_sizeB hi, Sem.run_ite, hn, if_false, Sem.run_pure]
  by_cases h0 : len * sizeB P e = 0
  · have hzz' : (zeroes z len).toArray = #[] := by rw [← hzz, h0]; simp
    have e0 : (Array.range 0).map (fun i => (#[] : Array Value)[i % (#[] : Array Value).size]!) = #[] := by simp
    rw [hzz'] at hfl
    simp only [h0, if_true, Result.andThen_ok, e0, hp, hfl]
    rfl
  · simp only [h0, if_false, Sem.run_bind, hrz, Result.andThen_ok, Sem.run_pure, hcells, hzz, hp, hfl]
    rfl

theorem makeSlice_ok {t : TypeId} {l c : Operand} (hE : EnvOk st a) (hw : HR st w) (hop : o.op = .makeSlice t l c) (h : opE P Z o.dst o.type o.op st K) : Outc P Z st a w o K := by
  rw [hop] at h
  have hs : execOp a.eval o = (do pure (.value (← Instr.makeSlice t (a.eval l) (a.eval c)))) := by simp only [execOp, hop]
  simp only [opE] at h
  split at h
  case h_2 => exact h.elim
  rename_i e n m hd hn hm
  obtain ⟨k1, hn⟩ := hE.int hn
  obtain ⟨k2, hm⟩ := hE.int hm
  split at h
  case h_2 => exact h.elim
  rename_i z hz
  obtain ⟨i, zv, hi, hzv, hcells, hrz⟩ := zeroCells_ok hz
  split at h
  case h_2 => exact h.elim
  rename_i hzl
  have hzl := Nat.eq_of_beq_eq_true hzl
  obtain ⟨h0, h1, h2, h3, h⟩ := h
  have hbb : bytesB P e = i.bytes := by simp [bytesB, hi]
  have wn : IntKind.i64.wrap n = n := by simp [IntKind.wrap, IntKind.bits, IntKind.signed]; omega
  have wm : IntKind.i64.wrap m = m := by simp [IntKind.wrap, IntKind.bits, IntKind.signed]; omega
  refine Outc.of hs (v := .slice (some ⟨w.heap.size, 0, none⟩) n.toNat m.toNat) (w' := { w with heap := w.heap.push (.cells (zeroes z m.toNat).toArray e (0, 0)) }) ?_
    (Done.push (e := .val _) hw { st with h := st.h.push (.cells (zeroes z m.toNat).toArray e (0, 0)) } rfl rfl rfl rfl rfl (by rw [hw.1]; exact h) rfl ⟨rfl, rfl, rfl⟩)
  rw [hn, hm]
  rw [hbb] at h2
  have hzz : (Array.range (m.toNat * sizeB P e)).map (fun i => z.toArray[i % z.toArray.size]!) = (zeroes z m.toNat).toArray := by rw [← hzl]; exact zeroes_range z m.toNat
  have c1 : decide (m < 0) = false := by simp; omega
  have c2 : decide ((i.bytes : Int) * m > 2 ^ 48) = false := by simp; omega
  have c3 : decide (n < 0) = false := by simp; omega
  have c4 : decide (n > m) = false := by simp; omega
  simp only [Instr.makeSlice, asInt, asIntOf, Sem.run_bind, run_underlying' hd, Result.andThen_ok, Sem.run_pure, run_typeInfo' hi, wn, wm, c1, c2, c3, c4, Bool.or_self, Bool.false_eq_true, if_false, run_askRoom, run_sizeB hi]
  by_cases h00 : m.toNat * sizeB P e = 0
  · have hzz' : (zeroes z m.toNat).toArray = #[] := by rw [← hzz, h00]; simp
    have e0 : (Array.range 0).map (fun i => (#[] : Array Value)[i % (#[] : Array Value).size]!) = #[] := by simp
    rw [hzz']
    simp only [h00, if_true, Sem.run_bind, Sem.run_pure, Result.andThen_ok, e0]
    rfl
  · simp only [h00, if_false, Sem.run_bind, hrz, Result.andThen_ok, Sem.run_pure, hcells, hzz]
    rfl

theorem stb_ok {src dst : TypeId} {x : Operand} (hE : EnvOk st a) (hw : HR st w) (hop : o.op = .convert src dst x) (h : opE P Z o.dst o.type o.op st K) : Outc P Z st a w o K := by
  rw [hop] at h
  have hs : execOp a.eval o = (do pure (.value (← convert src dst (a.eval x)))) := by simp only [execOp, hop]
  simp only [opE] at h
  split at h
  case h_2 => exact h.elim
  rename_i e s hsr hd hx
  have hx := hE.value hx
  split at h
  case h_2 => exact h.elim
  rename_i he
  obtain ⟨hbig, h⟩ := h
  obtain ⟨hc1, hc2⟩ := appendCap_bounds s.size 0 e (w.tape w.drawn (.appendCap s.size 0 e)) hbig
  have h := h _ hc1 hc2
  obtain ⟨c, hc⟩ : ∃ c, (Question.appendCap s.size 0 e).cut (w.tape w.drawn (.appendCap s.size 0 e)) = c := ⟨_, rfl⟩
  rw [hc] at h hc1 hc2
  have hlen : (bytesV s ++ List.replicate (c - s.size) (Value.int .u8 0)).length = c := by
    have : s.data.size = s.size := rfl
    simp [bytesV, this]; omega
  have hcells : ((s.data.map fun b => (Value.int .u8 b.toNat : Value)) ++ Array.replicate (c - s.size) (Value.int .u8 0)) = (bytesV s ++ List.replicate (c - s.size) (Value.int .u8 0)).toArray := by
    apply Array.ext'; simp [bytesV]
  refine Outc.of hs (v := .slice (some ⟨w.heap.size, 0, none⟩) s.size c) (w' := { w with drawn := w.drawn + 1, heap := w.heap.push (.cells (bytesV s ++ List.replicate (c - s.size) (Value.int .u8 0)).toArray e (c, c + 1)) }) ?_
    (Done.push (e := .val _) hw { st with h := st.h.push (.cells (bytesV s ++ List.replicate (c - s.size) (Value.int .u8 0)).toArray e (c, c + 1)) } rfl rfl rfl rfl rfl (by rw [hw.1]; exact h) rfl ⟨rfl, rfl, rfl⟩)
  rw [hx]
  simp only [convert, Sem.run_bind, run_underlying' hsr, run_underlying' hd, run_underlying' he, Result.andThen_ok, Conv.stringToBytes, run_appendCap, hc, hcells, newRow, run_newObj, Sem.run_pure, markStringish, run_shape]
  have hsh : World.shape? { heap := w.heap.push (Obj.cells (bytesV s ++ List.replicate (c - s.size) (Value.int .u8 0)).toArray e), tape := w.tape, drawn := w.drawn + 1, os := w.os, output := w.output } w.heap.size = some (e, c) := by
    simp only [World.shape?, Array.getElem?_push_size]
    simp [hlen]
  rw [hsh]
  simp only [run_freeze, Result.andThen_ok]
  simp only [World.freeze, Nat.one_ne_zero, if_false]
  congr 2
  apply Array.ext_getElem?
  intro k
  rw [Array.getElem?_modify]
  by_cases hk : w.heap.size = k
  · subst hk; simp
  · rw [if_neg hk]
    simp only [Array.getElem?_push]
    rw [if_neg (fun e => hk e.symm), if_neg (fun e => hk e.symm)]

theorem range_ok {t : TypeId} {x : Operand} (hE : EnvOk st a) (hw : HR st w) (hop : o.op = .range t x) (h : opE P Z o.dst o.type o.op st K) : Outc P Z st a w o K := by
  rw [hop] at h
  have hs : execOp a.eval o = (do pure (.value (← Instr.range t (a.eval x)))) := by simp only [execOp, hop]
  simp only [opE] at h
  split at h
  case h_2 => exact h.elim
  rename_i s hd hx
  have hx := hE.value hx
  refine Outc.of hs (v := .pointer (some ⟨w.heap.size, 0, none⟩)) (w' := { w with heap := w.heap.push (.stringIter s 0) }) ?_
    (Done.push (e := .ptr ⟨st.h.size, 0, none⟩) hw { st with h := st.h.push (.stringIter s 0) } rfl rfl rfl rfl (by rw [hw.1]; rfl) h rfl ⟨rfl, rfl, rfl⟩)
  rw [hx]
  simp only [Instr.range, Sem.run_bind, run_underlying' hd, Result.andThen_ok, Sem.run_pure, run_newObj]

theorem next_ok {it : Operand} {isS : Bool} (hE : EnvOk st a) (hw : HR st w) (hop : o.op = .next it isS) (h : opE P Z o.dst o.type o.op st K) : Outc P Z st a w o K := by
  rw [hop] at h
  have hs : execOp a.eval o = (do pure (.value (← Instr.next (a.eval it) isS o.type))) := by simp only [execOp, hop]
  simp only [opE] at h
  split at h
  case h_2 => exact h.elim
  rename_i b hit
  have hit' : a.eval it = .pointer (some ⟨b, 0, none⟩) := by have := hE.ent it; rw [hit] at this; exact this
  obtain ⟨s, pos, hb, h1, h2⟩ := h
  have hb' : w.heap[b]? = some (.stringIter s pos) := by rw [hw.1]; exact hb
  have hg : (getObj b).run P w = .ok (.stringIter s pos) w := by simp [getObj, Sem.run, hb']
  by_cases hp : pos < s.size
  · have hse : ∀ ob : Obj, (setObj b ob).run P w = .ok () { w with heap := w.heap.setIfInBounds b ob } := fun ob => by simp [setObj, Sem.run, hb']
    refine Outc.of hs (v := .tuple #[.bool true, .int .i64 pos, .int .i32 (Utf8.decode s pos).1]) (w' := { w with heap := w.heap.setIfInBounds b (.stringIter s (pos + (Utf8.decode s pos).2)) }) ?_
      ⟨⟨rfl, rfl, rfl⟩, .tb [] true [.int .i64 pos, .int .i32 (Utf8.decode s pos).1], { st with h := st.h.setIfInBounds b (.stringIter s (pos + (Utf8.decode s pos).2)) }, ⟨rfl, rfl, .refl _, .refl _⟩,
        ⟨by rw [← hw.1], hw.2.1.set hb (fun _ _ _ => by simp) _, hw.2.2⟩, rfl, h2 hp⟩
    rw [hit']
    simp only [Instr.next, Sem.run_bind, hg, Result.andThen_ok, hp, if_true, hse, Sem.run_pure]
    rfl
  · refine Outc.of hs (v := .tuple #[.bool false]) (w' := w) ?_ (Done.keep (h' := st.h) (e := .tb [] false []) hw (fun _ _ => rfl) rfl (h1 hp) hw.1 (Sm.refl w))
    rw [hit']
    simp only [Instr.next, Sem.run_bind, hg, Result.andThen_ok, hp, if_false, Sem.run_pure]

theorem panic_ok {x : Operand} (hE : EnvOk st a) (hw : HR st w) (hop : o.op = .panic x) (h : opE P Z o.dst o.type o.op st K) : Outc P Z st a w o K := by
  rw [hop] at h
  simp only [opE] at h
  split at h
  case h_2 => exact h.elim
  rename_i t v hx
  have hx := hE.value hx
  refine .panic (.iface t v) ?_ (by rw [hw.1]; exact h)
  simp only [execOp, hop, hx, Sem.run_bind, Instr.panic, run_goPanic, Result.andThen_halt]

theorem retE_ok (loc : List (Nat × LocI)) (R : List Lay) (vs : List Value) : EntOk loc (retE R vs) (asm R vs) := by
  unfold retE asm
  split <;> simp_all [EntOk]

theorem RoundIn.room {l : Nat} {f : FuncId} {tmps : Array Value} {asn body : Code} {w : World} {R : Ending → World → Prop} (n : Nat) (h : RoundIn Fence.wide 0 P l f tmps asn body w R) : RoundIn Fence.wide n P l f tmps asn body w R :=
  ⟨h.1, fun c cs _ => h.2 c cs (fun d hd => by simp [Fence.wide] at hd)⟩

theorem call_ok (hP : NoNG P) {c : Call} (hE : EnvOk st a) (hw : HR st w) (hop : o.op = .call c) (h : opE P Z o.dst o.type o.op st K) : Outc P Z st a w o K := by
  rw [hop] at h
  simp only [opE] at h
  unfold callW at h
  split at h
  · rename_i hc
    exact append_ok hE hw hop hc rfl rfl h
  · exact h.elim
  · rename_i f hc
    split at h
    · rename_i g first cap vs hf hvs
      have hf' : a.eval f = .func (.func g) first.toArray cap.toArray := by have := hE.ent f; rw [hf] at this; exact this
      have hvs := hE.values hvs
      split at h
      case h_2 => exact h.elim
      rename_i hb
      obtain ⟨s1, hs1, hh1, hL1, hA1, h⟩ := escs_ok h
      have hw1 : HR s1 w := ⟨by rw [hh1]; exact hw.1, by rw [hh1]; exact hL1 _ hw.2.1, hA1 hw.2.2⟩
      refine .enter g (first ++ vs ++ cap).toArray ?_ ?_
      · have e : c.args.map a.eval = vs.toArray := by rw [← hvs]; apply Array.ext'; simp
        simp only [execOp, hop, resolve, hc, hf', Deferred.ofValue, Sem.run_bind, Sem.run_pure, Result.andThen_ok, invoke, e]
        rw [callFunc_run hP hb]
        simp
      · unfold CALL at h
        rw [← hw1.1] at h
        intro w1 hw1'
        refine (h w1 hw1').mono fun e w' ⟨h1, h2, h3, h4⟩ => ⟨h1, h2, h3, ?_⟩
        cases e with
        | returned v =>
          obtain ⟨x, hv, hk, hK⟩ := h4
          rw [unc_cur] at hK
          intro w2 hw2 hsm
          refine Done.suc hs1 (Done.keep (h' := w'.heap) hw1 (fun b hb => by rw [KEEP_mem hk b hb, hw1.1]) ?_ hK hw2 hsm)
          rw [hv]; exact retE_ok _ _ _
        | panicked ch => exact h4
        | outgrown => exact h4
    · rename_i v vs hf hvs
      have hf' : a.eval f = v := by have := hE.ent f; rw [hf] at this; exact this
      have hvs := hE.values hvs
      have e : c.args.map a.eval = vs.toArray := by rw [← hvs]; apply Array.ext'; simp
      obtain ⟨s1, hs1, hh1, hL1, hA1, h⟩ := escs_ok h
      have hw1 : HR s1 w := ⟨by rw [hh1]; exact hw.1, by rw [hh1]; exact hL1 _ hw.2.1, hA1 hw.2.2⟩
      unfold CALLV at h
      rw [← hw1.1] at h
      have fin : ∀ (x : TT (flat (resOf P o.type))) (v : Value) (h' : Heap) (w2 : World), v = asm (resOf P o.type) (vals _ x) → KEEP w.heap h' (knowL s1.loc) →
          unc _ (cur _ fun x h => K (retE (resOf P o.type) (vals _ x)) { s1 with h := h }) x h' → w2.heap = h' → Sm w w2 → Done st w K v w2 := by
        intro x v h' w2 hv hk hK hw2 hsm
        rw [unc_cur] at hK
        refine Done.suc hs1 (Done.keep (h' := h') hw1 (fun b hb => by rw [KEEP_mem hk b hb, hw1.1]) ?_ hK hw2 hsm)
        rw [hv]; exact retE_ok _ _ _
      rcases h with ⟨g, first, cap, hv, hb, h⟩ | ⟨l, hv, h⟩
      · refine .enter g (first.toList ++ vs ++ cap.toList).toArray ?_ ?_
        · simp only [execOp, hop, resolve, hc, hf', hv, Deferred.ofValue, Sem.run_bind, Sem.run_pure, Result.andThen_ok, invoke, e]
          rw [callFunc_run hP hb]
          simp
        · intro w1 hw1'
          refine (h w1 hw1').mono fun e w' ⟨h1, h2, h3, h4⟩ => ⟨h1, h2, h3, ?_⟩
          cases e with
          | returned v =>
            obtain ⟨x, hv, hk, hK⟩ := h4
            intro w2 hw2 hsm
            exact fin x v _ w2 hv hk hK hw2 hsm
          | panicked ch => exact h4
          | outgrown => exact h4
      · obtain ⟨r, hl, hsz, hr⟩ := h w rfl
        refine .round l r vs.toArray ?_ ?_
        · have hg : (Instr.getLoop l).run P w = .ok r w := run_getLoop hl
          simp only [execOp, hop, resolve, hc, hf', hv, Deferred.ofValue, Sem.run_bind, Sem.run_pure, Result.andThen_ok, invoke, e]
          simp [Instr.yield, hg, hsz]
        · refine hr.mono fun e w' ⟨h1, h2, h3, h4⟩ => ?_
          cases e with
          | returned v =>
            obtain ⟨x, hv, hk, hK⟩ := h4
            exact fin x v _ w' hv hk hK rfl ⟨h1, h2, h3⟩
          | panicked ch => exact ⟨⟨h1, h2, h3⟩, h4⟩
          | outgrown => exact h4
    · exact h.elim
  · exact h.elim

theorem opE_ok (hP : NoNG P) (hE : EnvOk st a) (hw : HR st w) (h : opE P Z o.dst o.type o.op st K) : Outc P Z st a w o K := by
  cases hop : o.op with
  | alloc t => exact alloc_ok hw hop h
  | box t x => exact box_ok hE hw hop h
  | store t x y => exact store_ok hE hw hop h
  | buildSlice t n ps => exact buildSlice_ok hE hw hop h
  | makeSlice t l c => exact makeSlice_ok hE hw hop h
  | convert src dst x => exact stb_ok hE hw hop h
  | range t x => exact range_ok hE hw hop h
  | next it isS => exact next_ok hE hw hop h
  | call c => exact call_ok hP hE hw hop h
  | panic x => exact panic_ok hE hw hop h
  | _ => rw [hop] at h; exact h.elim

/-- Any operation. -/
theorem opW_ok (hP : NoNG P) (hE : EnvOk st a) (hw : HR st w) (h : opW P Z o st K) : Outc P Z st a w o K := by
  unfold opW at h
  split at h
  · obtain ⟨v, e, hr, he, hK⟩ := opQ_ok hE (fun h' (e : h' = st.h) => by rw [e]; exact hw.2.1) h
    obtain ⟨s1, hs1, hh1, hL1, hA1, h⟩ := escs_ok hK
    exact .value v w (hr w hw.1) ⟨Sm.refl w, e, s1, hs1, ⟨by rw [hh1]; exact hw.1, by rw [hh1]; exact hL1 _ hw.2.1, hA1 hw.2.2⟩, he.mono hs1.le, h⟩
  · exact opE_ok hP hE hw h

end
end Go.VK

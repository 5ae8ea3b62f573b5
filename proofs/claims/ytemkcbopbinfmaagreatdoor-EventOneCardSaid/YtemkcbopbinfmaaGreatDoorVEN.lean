/- The deferred call of event.Decode: it recovers. -/
import Derived.Test.YtemkcbopbinfmaaGreatDoorVEM
import Derived.Tactics
import Derived.Tactics2
import Derived.Defers
import Derived.Recover
import Derived.RecoverIn
set_option linter.all false
namespace Go.VK
open Go Go.Proofs
set_option maxRecDepth 100000
set_option linter.unusedSimpArgs false
set_option linter.unusedVariables false

theorem ta_nil (w : World) : (Instr.typeAssert Value.nilIface 20 85 true).run P w = .ok (.tuple #[.agg #[], .bool false]) w := by kernel_rfl
theorem ta_bad (w : World) : (Instr.typeAssert (.iface 85 (.agg #[])) 20 85 true).run P w = .ok (.tuple #[.agg #[], .bool true]) w := by kernel_rfl

theorem hd33_idle (p q : Addr) (w : World) : CallsDIn Fence.wide 0 P 33 #[.pointer (some p), .pointer (some q)] .returning w fun e u' w' => e = .returned (.tuple #[]) ∧ u' = .returning ∧ w' = w.alloc (Obj.cells #[] 85) := by
  refine callsDIn_of_wpSIn Tryz.func33 rfl trivial fun c₀ cs hu => ?_
  apply wpSIn_seq
  apply wpSIn_region
  simp [wpOpsSIn, go_sem, recoverD, hu, Tryz.ntmps33, Exit.thenS, ta_nil]
  apply wpSIn_seq
  apply wpSIn_region
  simp [wpOpsSIn, go_sem, Exit.thenS]
  refine wpSIn_cond (t := false) (by simp [Act.eval, Array.replicate]) ?_
  simp only [Bool.false_eq_true, if_false]
  refine wpSIn_of_wpIn rfl (wpIn_skip ?_)
  cases c₀
  simp_all [bodyPostS, results, Tryz.results33]

def zeroEv : List Value := [.int .u8 0, .string ByteArray.empty, .int .u8 0, .bool false, .int .i64 0, .string ByteArray.empty, .slice none 0 0, .slice none 0 0, .slice none 0 0, .int .u8 0, .bool false, .int .i64 0, .string ByteArray.empty, .slice none 0 0, .slice none 0 0, .slice none 0 0]

theorem build29 (e : Operand → Value) (w : World) : (execOp e { dst := some 10, op := Op.build 29 #[], type := 29, pos := "event.go:82", after := #[], guard := none }).run P w = .ok (.value (.agg zeroEv.toArray)) w := by kernel_rfl

theorem op_store {a : Operand → Value} {o : Oper} {t : TypeId} {x y : Operand} {p : Addr} {v : Value} {w w' : World} (ho : o.op = .store t x y) (hx : a x = .pointer (some p)) (hy : a y = v) (hz : (sizeO P t == some v.cells.toList.length) = true)
    (hr : (storeCells p v.cells.toList).run P w = .ok () w') : (execOp a o).run P w = .ok .skip w' := by
  have hs : execOp a o = (do Instr.storeAt t (a x) (a y); pure .skip) := by simp only [execOp, ho]
  rw [hs, hx, hy]
  simp only [Instr.storeAt, Sem.run_bind, run_sureAddr, Result.andThen_ok, run_storeVar hz, hr]
  rfl

theorem wpOps_val {F : Fence} {n : Nat} {P : Program} {ops : Array Oper} {Q : Exit → Act → List Frame → World → Prop} {i : Nat} {rest : List Nat} {a : Act} {cs : List Frame} {w w' : World} {o : Oper} {v : Value} (ho : ops[i]? = some o) (hF : ∀ f, F.fn f)
    (hw : Region.wanted o (yielded ops a.tmps) = true) (hr : (execOp a.eval o).run P w = .ok (.value v) w') (h : wpOpsSIn F n P ops Q rest (a.put o.dst v) cs w') : wpOpsSIn F n P ops Q (i :: rest) a cs w := by
  simp only [wpOpsSIn, ho, hw, if_true, hr]
  exact ⟨fun f _ => hF f, h⟩
theorem wpOps_skip {F : Fence} {n : Nat} {P : Program} {ops : Array Oper} {Q : Exit → Act → List Frame → World → Prop} {i : Nat} {rest : List Nat} {a : Act} {cs : List Frame} {w w' : World} {o : Oper} (ho : ops[i]? = some o) (hF : ∀ f, F.fn f)
    (hw : Region.wanted o (yielded ops a.tmps) = true) (hr : (execOp a.eval o).run P w = .ok .skip w') (h : wpOpsSIn F n P ops Q rest (a.put o.dst undef) cs w') : wpOpsSIn F n P ops Q (i :: rest) a cs w := by
  simp only [wpOpsSIn, ho, hw, if_true, hr]
  exact ⟨fun f _ => hF f, h⟩

theorem hd33_panic (p q : Addr) (w : World) (h2 h3 : Heap) (hs1 : (storeCells p zeroEv).run P (w.alloc (Obj.cells #[] 85)) = .ok () { w with heap := h2 }) (hs2 : (storeCells q [.int .u16 210]).run P { w with heap := h2 } = .ok () { w with heap := h3 }) :
    CallsDIn Fence.wide 0 P 33 #[.pointer (some p), .pointer (some q)] (.panicking [{ v := .iface 85 (.agg #[]), recovered := false }]) w fun e u' w' => e = .returned (.tuple #[]) ∧ u' = .panicking [{ v := .iface 85 (.agg #[]), recovered := true }] ∧ w' = { w with heap := h3 } := by
  refine callsDIn_of_wpSIn Tryz.func33 rfl trivial fun c₀ cs hu => ?_
  apply wpSIn_seq
  apply wpSIn_region
  simp [wpOpsSIn, go_sem, recoverD, hu, Tryz.ntmps33, Exit.thenS, ta_bad]
  apply wpSIn_seq
  apply wpSIn_region
  simp [wpOpsSIn, go_sem, Exit.thenS]
  refine wpSIn_cond (t := true) (by simp [Act.eval, Array.replicate]) ?_
  simp only [if_true]
  apply wpSIn_region
  generalize ht : (#[Value.pointer (some p), Value.pointer (some q)] ++ _ : Array Value) = tm
  have t0 : tm[0]? = some (.pointer (some p)) := by rw [← ht]; simp
  have t1 : tm[1]? = some (.pointer (some q)) := by rw [← ht]; simp
  have tsz : 10 < tm.size := by rw [← ht]; simp
  clear ht
  show wpOpsSIn _ _ _ _ _ [0, 1, 2] _ _ _
  refine wpOps_val (v := .agg zeroEv.toArray) rfl (fun _ => trivial) rfl (build29 _ _) ?_
  refine wpOps_skip rfl (fun _ => trivial) rfl (op_store (p := p) (v := .agg zeroEv.toArray) rfl ?_ ?_ (by kernel_rfl) hs1) ?_
  · simp [Act.eval, Act.put, t0]
  · simp [Act.eval, Act.put, tsz]
  refine wpOps_skip rfl (fun _ => trivial) rfl (op_store (p := q) (v := .int .u16 210) rfl ?_ rfl (by kernel_rfl) hs2) ?_
  · simp [Act.eval, Act.put, t1]
  simp [wpOpsSIn, bodyPostS, results, Tryz.results33]
  rfl

theorem PUTN_true {b N : Nat} : ∀ {vs : List Value} {i : Nat} {h : Heap}, (∀ v ∈ vs, oneC v = true) → h.size = N → PUTN b vs i h fun h' => h'.size = N
  | [], _, _, _, hN => hN
  | v :: vs, i, h, hv, hN => ⟨hv v (by simp), PUTN_true (fun u hu => hv u (by simp [hu])) (by rw [put_size]; exact hN)⟩

theorem LEAVE_ret {Z : List PanicEntry → Heap → Prop} {K : Heap → Prop} {h : Heap} {p q : Addr} (k : ∀ h', h'.size = h.size + 1 → (∀ b, b < h.size → h'[b]? = h[b]?) → K h') : LEAVE P Z K [.fn 33 [] [.pointer (some p), .pointer (some q)]] .returning h := by
  unfold LEAVE
  rw [show ((P.funcs[33]?).any (·.body.isSome)) = true from by kernel_rfl]
  intro w hw
  refine (hd33_idle p q w).mono ?_
  rintro e u' w' ⟨rfl, rfl, rfl⟩
  refine ⟨rfl, rfl, rfl, nofun, ?_⟩
  subst hw
  exact k _ (by show (w.heap.push _).size = _; rw [Array.size_push]) fun b hb => push_old hb

theorem LEAVE_pan {Z : List PanicEntry → Heap → Prop} {K : Heap → Prop} {h : Heap} {b2 b3 t2 t3 : Nat} {cs : List Value} {x : Value} (h2 : h[b2]? = some (.cells cs.toArray t2 (0, 0))) (hl : cs.length = 16) (h3 : h[b3]? = some (.cells #[x] t3 (0, 0))) (hne : b2 ≠ b3)
    (k : ∀ h', h'.size = h.size + 1 → (∀ b, b < h.size → b ≠ b2 → b ≠ b3 → h'[b]? = h[b]?) → h'[b2]? = some (.cells zeroEv.toArray t2 (0, 0)) → h'[b3]? = some (.cells #[.int .u16 210] t3 (0, 0)) → K h') :
    LEAVE P Z K [.fn 33 [] [.pointer (some ⟨b2, 0, none⟩), .pointer (some ⟨b3, 0, none⟩)]] (.panicking [⟨.iface 85 (.agg #[]), false, false⟩]) h := by
  unfold LEAVE
  rw [show ((P.funcs[33]?).any (·.body.isSome)) = true from by kernel_rfl]
  intro w hw
  subst hw
  have lt2 : b2 < w.heap.size := by
    rcases Nat.lt_or_ge b2 w.heap.size with x | x
    · exact x
    · rw [Array.getElem?_eq_none x] at h2; cases h2
  have lt3 : b3 < w.heap.size := by
    rcases Nat.lt_or_ge b3 w.heap.size with x | x
    · exact x
    · rw [Array.getElem?_eq_none x] at h3; cases h3
  have hA2 : (w.alloc (Obj.cells #[] 85)).heap[b2]? = some (.cells cs.toArray t2 (0, 0)) := (push_old lt2).trans h2
  obtain ⟨H1, r1, sz1, c1, o1⟩ := PUTN_ok (P := P) (b := b2) (Kh := fun h' => h'.size = w.heap.size + 1) (p := ⟨b2, 0, none⟩) (off0 := 0) rfl zeroEv 0 cs (w.alloc (Obj.cells #[] 85)) hA2 (by simp [zeroEv, hl]) (PUTN_true (by simp [zeroEv, oneC]) (by show (w.heap.push _).size = _; rw [Array.size_push]))
  have hA3 : H1[b3]? = some (.cells [x].toArray t3 (0, 0)) := (o1 b3 fun e => hne e.symm).trans ((push_old lt3).trans h3)
  obtain ⟨H2, r2, sz2, c2, o2⟩ := PUTN_ok (P := P) (b := b3) (Kh := fun h' => h'.size = w.heap.size + 1) (p := ⟨b3, 0, none⟩) (off0 := 0) rfl [.int .u16 210] 0 [x] { w with heap := H1 } hA3 (by simp) (PUTN_true (by simp [oneC]) sz1)
  refine (hd33_panic ⟨b2, 0, none⟩ ⟨b3, 0, none⟩ w H1 H2 r1 r2).mono ?_
  rintro e u' w' ⟨rfl, rfl, rfl⟩
  refine ⟨rfl, rfl, rfl, nofun, ?_⟩
  refine k H2 sz2 (fun b hb n2 n3 => ?_) ?_ ?_
  · rw [o2 b n3, o1 b n2]; exact push_old hb
  · rw [o2 b2 hne, c1]
    have : splice cs (0 + 0) zeroEv = zeroEv := by
      unfold splice
      rw [List.drop_of_length_le (by simp [zeroEv, hl])]
      simp
    rw [this]
  · rw [c2]; rfl

end Go.VK

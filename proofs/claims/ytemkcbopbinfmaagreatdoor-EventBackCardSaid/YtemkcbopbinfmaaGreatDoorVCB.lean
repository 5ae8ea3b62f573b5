/- The tables of the text package, as a row lists them. -/
import Derived.Test.YtemkcbopbinfmaaGreatDoorVCA
import Derived.Test.YtemkcbopbinfmaaGreatDoorRows
import Derived.Lib.LaidU8
import Derived.MakeChecks
import Derived.LaidLaws
set_option linter.all false
set_option linter.unusedVariables false
set_option maxRecDepth 100000
namespace Go.VK
open Go Go.Proofs Go.Proofs.YtemkcbopbinfmaaGreatDoor

theorem g0 : Tryz.prog.globalNamed "unicode/utf8.first" = some 0 := by kernel_rfl
theorem g1 : Tryz.prog.globalNamed "unicode/utf8.acceptRanges" = some 1 := by kernel_rfl
theorem y0 : (Tryz.prog.globals[0]?).map (·.type) = some 257 := by kernel_rfl
theorem y1 : (Tryz.prog.globals[1]?).map (·.type) = some 260 := by kernel_rfl
theorem c257 : Tryz.prog.cellsOf 257 = 256 := by kernel_rfl
theorem c259 : Tryz.prog.cellsOf 259 = 2 := by kernel_rfl
theorem first_eq : Rows.laid_unicode_utf8_first = Lib.firstData := by kernel_rfl
theorem accept_eq : (Rows.laid_unicode_utf8_acceptRanges : DataW Unit) = Lib.acceptData := by kernel_rfl

theorem tabs_of {w : World} (h3 : Lib.VarReads Tryz.prog w "unicode/utf8.first" Lib.firstData) (h4 : Lib.VarReads Tryz.prog w "unicode/utf8.acceptRanges" Lib.acceptData) : Tabs w.heap := by
  refine ⟨fun c hc => ?_, fun i hi => ?_⟩
  · obtain ⟨g, t, cs, fuel, p, hg, hty, hvar, hd⟩ := h3
    obtain rfl := Option.some.inj (g0.symm.trans hg)
    obtain rfl := Option.some.inj (y0.symm.trans hty)
    have hcs := Lib.cells_of_tab Tryz.underlying257 Tryz.underlying5 c5 c257 hd
    have := World.var?_cell hg hvar c
    rw [← cell_world, this, ← Array.getElem?_toList, hcs]
    simp [Lib.firstTab, hc]
  · obtain ⟨g, t, cs, fuel, p, hg, hty, hvar, hd⟩ := h4
    obtain rfl := Option.some.inj (g1.symm.trans hg)
    obtain rfl := Option.some.inj (y1.symm.trans hty)
    obtain ⟨fuel', d, q, hdi, he⟩ := Lib.array_elem Tryz.underlying260 hd i hi
    simp only [List.getElem?_map, List.getElem?_range hi, Option.map_some, Option.some.injEq] at hdi
    subst hdi
    rw [c259] at he
    have hcs := Lib.ints_of_struct Tryz.underlying259 (fun j f hj => by
      match j, hj with
      | 0, hj => simp at hj; subst hj; exact ⟨Tryz.underlying5, rfl, c5⟩
      | 1, hj => simp at hj; subst hj; exact ⟨Tryz.underlying5, rfl, c5⟩
      | j + 2, hj => simp at hj) (by rw [c259]; rfl) he
    have e0 := congrArg (·[0]?) hcs
    have e1 := congrArg (·[1]?) hcs
    simp only [List.getElem?_take, List.getElem?_drop] at e0 e1
    constructor
    · rw [← cell_world, World.var?_cell hg hvar (2 * i), ← Array.getElem?_toList]
      simpa [Nat.mul_comm] using e0
    · rw [← cell_world, World.var?_cell hg hvar (2 * i + 1), ← Array.getElem?_toList]
      simpa [Nat.mul_comm] using e1

abbrev laidList : List (String × DataW Unit) := [("unicode/utf8.acceptRanges", Rows.laid_unicode_utf8_acceptRanges), ("unicode/utf8.first", Rows.laid_unicode_utf8_first)]

theorem tabs_of_laid {w : World} (h : laidMetH Tryz.prog laidList w) : Tabs w.heap := by
  rw [MakeChecks.laidMetH_plain _ _ _ (by kernel_rfl)] at h
  refine tabs_of ?_ ?_
  · rw [← first_eq]; exact Lib.laidMet.reads h (by simp [laidList])
  · rw [← accept_eq]; exact Lib.laidMet.reads h (by simp [laidList])

theorem two_of_tabs {h : Heap} (t : Tabs h) : 2 ≤ h.size := by
  have := (t.2 0 (by decide)).1
  unfold cell at this
  split at this
  · rename_i e; have := (Array.getElem?_eq_some_iff.1 e).1
    exact this
  · cases this

/-- What is kept. -/
theorem kept_of {w w' : World} {may : MemPlace → Prop} (ho : w'.os = w.os) (hp : w'.output = w.output) (g : Pre w.heap.size w.heap w'.heap) : w.keptBut w' may := by
  refine ⟨ho, hp, fun i hi => ?_⟩
  rw [g.same i hi]
  cases h : w.heap[i]? with
  | none => rfl
  | some o =>
    cases o <;> simp

/-- The arguments read as they did. -/
theorem again_of {H : Type} {enc : TypeId × Value → H} {w w' : World} {ts : List TypeId} {vs : List Value} {ds : List (DataW H)} {ps : List MemPlace} (hts : ∀ t ∈ ts, t < Tryz.prog.types.size)
    (h : DataW.TrodAll enc Tryz.prog w 0 (fun _ => true) true ts vs ds ps) (hl : ∀ p ∈ ps, p.block < w.heap.size) (g : Pre w.heap.size w.heap w'.heap) :
    DataW.TrodAll enc Tryz.prog w' 0 (fun b => decide (b < w.heap.size)) true ts vs ds ps := by
  have h1 := DataW.TrodAll.respare (spare' := fun b => decide (b < w.heap.size)) (kids_rows (P := Tryz.prog) (by kernel_rfl) (by kernel_rfl)) (slices_full_of Tryz.prog (by kernel_rfl)) hts h (fun p hp => by simpa using hl p hp)
  clear h
  induction ts generalizing vs ds ps with
  | nil =>
    match vs, ds, h1 with
    | [], [], h1 => exact h1
  | cons t ts ih =>
    match vs, ds, h1 with
    | v :: vs, d :: ds, h1 =>
      obtain ⟨p, q, ⟨fuel, h2⟩, h3, rfl⟩ := h1
      refine ⟨p, q, ⟨fuel, DataW.trod_carry _ _ _ _ h2 fun m hm => ?_⟩, ih (fun t ht => hts t (by simp [ht])) (fun m hm => hl m (by simp [hm])) h3, rfl⟩
      have hb := hl m (by simp [hm])
      cases m with
      | cell b off =>
        show w'.cell? _ = w.cell? _
        unfold World.cell?
        rw [g.same b hb]
      | map b => exact g.same b hb

end Go.VK
namespace Go.Proofs.YtemkcbopbinfmaaGreatDoor
open Go Go.VK
theorem ownKnobless : ownKnob Tryz.prog.godebug = none := by kernel_rfl

abbrev zeroEvent : Value := .agg #[.int .u8 0, .string ByteArray.empty, .int .u8 0, .bool false, .int .i64 0, .string ByteArray.empty, .slice none 0 0, .slice none 0 0, .slice none 0 0,
  .int .u8 0, .bool false, .int .i64 0, .string ByteArray.empty, .slice none 0 0, .slice none 0 0, .slice none 0 0]

theorem cells_agg {v : Value} {cs : List Value} (h : v.cells.toList = cs) (ha : ∃ xs, v = .agg xs) : v = .agg cs.toArray := by
  obtain ⟨xs, rfl⟩ := ha
  have : xs.toList = cs := h
  rw [← this]

end Go.Proofs.YtemkcbopbinfmaaGreatDoor

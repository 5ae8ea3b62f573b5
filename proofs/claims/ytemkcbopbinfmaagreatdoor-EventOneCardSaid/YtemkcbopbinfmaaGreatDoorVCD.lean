/- The law EventOne: whatever two events: it answers true, and the arguments read as before. The row and the card. -/
import Derived.Test.YtemkcbopbinfmaaGreatDoorVCB
import Derived.Test.YtemkcbopbinfmaaGreatDoorCards
import Derived.Test.YtemkcbopbinfmaaGreatDoorTie
import Derived.ProofKit
import Derived.OpenShut
import Derived.LaidMore
import Derived.Lay
import Derived.SevenTiedAt
import Derived.Stop.Joined
set_option linter.all false
set_option linter.unusedVariables false
set_option maxRecDepth 100000
namespace Go.Proofs.YtemkcbopbinfmaaGreatDoor
open Go Go.VK Go.ChangeShapes Go.WideShapes Go.ChangeAt Go.RowKit

set_option maxHeartbeats 2000000 in
theorem eventOne_lifted (os : Os) (started : os.Started) (H : Type) (enc : TypeId × Value → H) :
    ReturnsInHanded {} Tryz.checked os 5 .any (fun w args => (Rows.eventOneSpec.pre enc Tryz.prog Tryz.f5 [] false w args ∧ laidMetH Tryz.prog laidList w) ∧ sizedMet enc Tryz.prog Tryz.f5 (OpenSpec.ofChange Rows.eventOneSpec) false w args)
      (Rows.eventOneSpec.post enc Tryz.prog Tryz.f5 false true false false) := by
  refine returnsInHanded_of_change_and (C := Tryz.checked) (X := fun w _ => laidMetH Tryz.prog laidList w) (fun _ _ _ hh h => h.of_heap hh) ownKnobless started (by kernel_rfl) Tryz.func5
    (ChangeSpec.witness_shaped (enc := enc) (C := Tryz.checked) (os := os) (X := fun w _ => laidMetH Tryz.prog laidList w) false (World.laidAll Tryz.prog os laidList) #[zeroEvent, zeroEvent] 8 (World.laidAll_os _ _ _)
      (World.shaped_of_ZipB (by kernel_rfl) (by kernel_rfl)) (by kernel_rfl) (by kernel_rfl) (by kernel_rfl)
      (by rw [MakeChecks.laidMetH_plain _ _ _ (by kernel_rfl)]; exact laidMet_laidAll _ (by kernel_rfl) (by kernel_rfl))) ?_
  intro W base args ds gs before hval0 hW hc _ hL _
  have hval : ∀ (j : Nat) t v, Tryz.f5.params[j]? = some t → args[j]? = some v → Value.okWide Tryz.prog W .any base t v := hval0
  have hlt := hW.lt
  have hW' := hW
  obtain ⟨p, q, hA0, hV, rfl, _, _⟩ := hW
  have hA : DataW.TrodAll enc Tryz.prog W 0 (fun _ => true) true Tryz.f5.params.toList args.toList ds p := hA0
  rw [Tryz.params5] at hA hval
  obtain ⟨rfl, rfl⟩ := trodVars_none hV
  have hAA := hA
  obtain ⟨v0, v1, d0, d1, p0, p1, rfl, rfl, rfl, ⟨fu0, h0⟩, ⟨fu1, h1⟩⟩ := trodAll_two hA
  obtain ⟨ev, c, e0, re⟩ := open29 h0
  obtain ⟨ev', c', e1, re'⟩ := open29 h1
  have ag : ∀ v, Value.okWide Tryz.prog W .any base 29 v → ∃ xs, v = .agg xs := fun v this => by
    unfold Value.okWide at this
    rw [Tryz.underlying29] at this
    obtain ⟨cs, rfl, _⟩ := this
    exact ⟨cs, rfl⟩
  have k0 : v0 = c.v := (cells_agg e0 (ag _ (hval 0 29 v0 rfl rfl))).trans (by rfl)
  have k1 : v1 = c'.v := (cells_agg e1 (ag _ (hval 1 29 v1 rfl rfl))).trans (by rfl)
  subst k0 k1
  have hT := tabs_of_laid hL
  refine (spec5 (Nat.le_refl _) (two_of_tabs hT) hT re re' W rfl).mono ?_
  rintro e W' ⟨ho, ht, hp, hx⟩
  cases e with
  | panicked c => exact hx.elim
  | outgrown => exact hx.elim
  | returned v =>
  obtain ⟨⟨y, z⟩, rfl, _, hpre, hy⟩ := hx
  have hy : y = true := hy
  subst hy
  refine ⟨_, rfl, _, _, _, [], p0 ++ p1, [], hW', trodAll_mk1 (shut_bool Tryz.underlying4 true), ?_, rfl, kept_of ho hp hpre, fun h => by cases h⟩
  exact again_of (by decide +kernel) hAA (fun p hp => hlt p (by simp only [List.append_nil]; exact hp)) hpre

theorem eventOne_holds : Rows.EventOneSaid :=
  OpenClaim.holds_of_wide 5 Tryz.f5 rfl rfl rfl rfl rfl rfl rfl ⟨rfl, rfl, rfl, rfl, rfl⟩ rfl rfl rfl rfl rfl (by kernel_rfl) Tryz.func5 (by kernel_rfl)
    (of_decide_eq_true (by kernel_rfl)) (by unfold Func.isWrapper; first | (rw [if_pos (by decide +kernel)]; kernel_rfl) | (rw [if_neg (by decide +kernel)]; exact ⟨rfl, rfl⟩))
    (fun os started H enc _ => eventOne_lifted os started H enc)

/-- THE CARD OF EventOne. -/
theorem eventOne_card : Rows.EventOneCardSaid :=
  Claim7.holds_tied_plain_at .later [] [.data, .pinned] true (true, "697668503214dcd0bf8c8551f0f2f4e1eecdd01284f92f577fa4cc9469e9cce8") true eventOne_holds (fun _ h => by cases h) (by kernel_rfl) (fun _ h => by cases h) eventOne_row_tie rfl ⟨rfl, rfl⟩ (by kernel_rfl) rfl
    (fun f fn hf hfn => by
      obtain rfl : f = 5 := Option.some.inj ((show Tryz.prog.funcNamed "codicil/codicillaw21.EventOne" = some 5 by kernel_rfl).symm.trans hf) |>.symm
      obtain rfl : fn = Tryz.f5 := (Option.some.inj (Tryz.func5.symm.trans hfn)).symm
      exact ⟨by kernel_rfl, fun j t ht => by
        rw [Tryz.params5] at ht
        have hm : t ∈ [29, 29] := by simpa using Array.mem_of_getElem? ht
        have hall : ([29, 29].all fun u => !Tryz.prog.wantsStandIn u) = true := by kernel_rfl
        exact (show Tryz.prog.wantsStandIn t = false by simpa using List.all_eq_true.1 hall t hm)⟩)
    (by kernel_rfl)
#print axioms eventOne_card

end Go.Proofs.YtemkcbopbinfmaaGreatDoor

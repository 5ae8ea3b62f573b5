/- The walk is sound for code. -/
import Derived.Test.YtemkcbopbinfmaaGreatDoorVKI
import Derived.Scope
set_option linter.all false
namespace Go.VK
open Go

variable {P : Program}

section
variable {F : Fence} {Q : Exit → Act → World → Prop} {a : Act} {w : World}

theorem exists_least {p : Nat → Prop} (h : ∃ k, p k) : ∃ k, p k ∧ ∀ j, p j → k ≤ j := by
  obtain ⟨k, hk⟩ := h
  induction k using Nat.strongRecOn with
  | _ k ih =>
    by_cases h : ∃ j, j < k ∧ p j
    · obtain ⟨j, hj, hp⟩ := h; exact ih j hj hp
    · exact ⟨k, hk, fun j hp => Nat.le_of_not_lt fun hlt => h ⟨j, hlt, hp⟩⟩

/-- A loop whose invariant tells things that stand in no slot. -/
theorem wpIn_loop_ghost {β : Type} {m : Nat} {c : Code} (I : β → Act → World → Prop) (μ : β → World → Nat) (b0 : β) (h₀ : I b0 a w)
    (round : ∀ b a w, I b a w → c.wpIn F m P (Exit.then (fun a' w' => ∃ b', I b' a' w' ∧ μ b' w' < μ b w) Q) a w) : (Code.loop c).wpIn F m P Q a w := by
  let p : Act → World → Nat → Prop := fun a w k => ∃ b, I b a w ∧ μ b w = k
  have least : ∀ a w, (∃ b, I b a w) → ∃ k, p a w k ∧ ∀ j, p a w j → k ≤ j := fun a w ⟨b, hb⟩ => exists_least ⟨μ b w, b, hb, rfl⟩
  let M : Act → World → Nat := fun a w => open Classical in if h : ∃ b, I b a w then Classical.choose (least a w h) else 0
  have hM : ∀ a w (h : ∃ b, I b a w), p a w (M a w) ∧ ∀ j, p a w j → M a w ≤ j := fun a w h => by
    have e : M a w = Classical.choose (least a w h) := dif_pos h
    rw [e]; exact Classical.choose_spec (least a w h)
  refine wpIn_loop (fun a w => ∃ b, I b a w) M ⟨b0, h₀⟩ fun a w hI => ?_
  obtain ⟨b, hb, hμ⟩ := (hM a w hI).1
  refine wpIn_mono (round b a w hb) fun e a' w' hq => ?_
  cases e with
  | normal =>
    obtain ⟨b', hb', hlt⟩ := hq
    exact ⟨⟨b', hb'⟩, by have := (hM a' w' ⟨b', hb'⟩).2 _ ⟨b', hb', rfl⟩; omega⟩
  | _ => exact hq

theorem stepR_scope {b : Frame} {k : List Item} {cs : List Frame} {c : Code} : step P (lone (b.atR a (.code (.scope c) :: k)) cs w) = .next (lone (b.atR a (.code c :: .inScope c :: k)) cs w) :=
  step_lone_go (by simp [stepG, stepG.exec, Frame.atR])
theorem stepR_inScope {b : Frame} {k : List Item} {cs : List Frame} {c : Code} : step P (lone (b.atR a (.inScope c :: k)) cs w) = .next (lone (b.atR a k) cs w) :=
  step_lone_go (by simp [stepG, stepG.exec, Frame.atR])

def scopeIn (F : Fence) (m : Nat) (P : Program) (c : Code) (Q : Exit → Act → World → Prop) : Exit → Act → World → Prop
  | .goto l, a, w => ∃ rest, findLabel c l = some rest ∧ rest.wpIn F m P (Exit.noGoto Q) a w
  | e, a, w => Q e a w

theorem wpIn_scope {m : Nat} {c : Code} (h : c.wpIn F m P (scopeIn F m P c Q) a w) : (Code.scope c).wpIn F m P Q a w := by
  intro b k cs hro hb hr
  have h0 : (lone (b.atR a (.code (.scope c) :: k)) cs w).fenced P F := fenced_calm hb hr rfl
  have pass : ∀ (e : Exit) (M : Machine) (a₁ : Act) (w₁ : World), (∀ l, e ≠ .goto l) → ArrivesIn (Machine.fenced P F) P M b (.inScope c :: k) cs e a₁ w₁ → ArrivesIn (Machine.fenced P F) P M b k cs e a₁ w₁ := by
    intro e M a₁ w₁ hne harr
    cases e with
    | normal => exact StepsIn.trans harr (.one (fenced_calm hb hr rfl) stepR_inScope)
    | exit id => exact ⟨fun k' hk => harr.1 k' (by simp [exitTo, hk]), fun hr' hk => harr.2 hr' (by simp [exitTo, hk])⟩
    | goto l => exact absurd rfl (hne l)
    | ret => exact harr
    | panic ch => exact harr
    | outgrown => exact harr
  obtain ⟨e, a₁, w₁, hq, harr⟩ := h b (.inScope c :: k) cs hro hb hr
  cases e with
  | goto l =>
    obtain ⟨rest, hf, hrest⟩ := hq
    obtain ⟨e₂, a₂, w₂, hq₂, harr₂⟩ := hrest b (.inScope c :: k) cs hro hb hr
    have hg : gotoIn l (.inScope c :: k) = some (.code rest :: .inScope c :: k) := by simp [gotoIn, hf]
    have hs := harr.1 _ hg
    cases e₂ with
    | goto l' => exact hq₂.elim
    | normal => exact ⟨.normal, a₂, w₂, hq₂, .of_steps (.head h0 stepR_scope hs) (pass .normal _ _ _ (fun _ => by simp) harr₂)⟩
    | exit id => exact ⟨.exit id, a₂, w₂, hq₂, .of_steps (.head h0 stepR_scope hs) (pass (.exit id) _ _ _ (fun _ => by simp) harr₂)⟩
    | ret => exact ⟨.ret, a₂, w₂, hq₂, .of_steps (.head h0 stepR_scope hs) (pass .ret _ _ _ (fun _ => by simp) harr₂)⟩
    | panic ch => exact ⟨.panic ch, a₂, w₂, hq₂, .of_steps (.head h0 stepR_scope hs) (pass (.panic ch) _ _ _ (fun _ => by simp) harr₂)⟩
    | outgrown => exact ⟨.outgrown, a₂, w₂, hq₂, .of_steps (.head h0 stepR_scope hs) (pass .outgrown _ _ _ (fun _ => by simp) harr₂)⟩
  | normal => exact ⟨.normal, a₁, w₁, hq, .of_steps (.one h0 stepR_scope) (pass .normal _ _ _ (fun _ => by simp) harr)⟩
  | exit id => exact ⟨.exit id, a₁, w₁, hq, .of_steps (.one h0 stepR_scope) (pass (.exit id) _ _ _ (fun _ => by simp) harr)⟩
  | ret => exact ⟨.ret, a₁, w₁, hq, .of_steps (.one h0 stepR_scope) (pass .ret _ _ _ (fun _ => by simp) harr)⟩
  | panic ch => exact ⟨.panic ch, a₁, w₁, hq, .of_steps (.one h0 stepR_scope) (pass (.panic ch) _ _ _ (fun _ => by simp) harr)⟩
  | outgrown => exact ⟨.outgrown, a₁, w₁, hq, .of_steps (.one h0 stepR_scope) (pass .outgrown _ _ _ (fun _ => by simp) harr)⟩

theorem findLabel_mods : ∀ (c : Code) (l : Nat) (rest : Code), findLabel c l = some rest → (∀ i, i ∈ mods rest → i ∈ mods c) ∧ (hasRF c = false → hasRF rest = false)
  | .seq x y, l, rest, h => by
    simp only [findLabel] at h
    cases hx : findLabel x l with
    | some r =>
      rw [hx] at h
      cases h
      obtain ⟨h1, h2⟩ := findLabel_mods x l r hx
      refine ⟨fun i hi => ?_, fun e => ?_⟩
      · simp only [mods, List.mem_append] at hi ⊢
        exact hi.imp (h1 i) id
      · simp only [hasRF, Bool.or_eq_false_iff] at e ⊢
        exact ⟨h2 e.1, e.2⟩
    | none =>
      rw [hx] at h
      obtain ⟨h1, h2⟩ := findLabel_mods y l rest h
      refine ⟨fun i hi => ?_, fun e => ?_⟩
      · simp only [mods, List.mem_append]; exact .inr (h1 i hi)
      · simp only [hasRF, Bool.or_eq_false_iff] at e; exact h2 e.2
  | .label l', l, rest, h => by
    simp only [findLabel] at h
    split at h
    · cases h; exact ⟨fun i hi => by simp [mods] at hi, fun _ => rfl⟩
    · cases h
  | .skip, _, _, h | .region .., _, _, h | .cond .., _, _, h | .block .., _, _, h | .loop _, _, _, h | .rangeFunc .., _, _, h | .exit _, _, _, h | .scope _, _, _, h | .goto _, _, _, h | .ret, _, _, h | .refuse _, _, _, h => by simp [findLabel] at h

end

/-! ### One region -/
section
variable {n : Nat} {W : World} {Z : St → List PanicEntry → Prop} {a a0 : Act} {w : World} {r : Option Nat}

theorem region_ok (hP : NoNG P) {id : Nat} {ops : Array Oper} {st : St} {Q : Exit → St → Prop} {rf : Bool} (hd : r ≠ none ∨ rf = false → noDeferB ops = true) (h : listW P n Z ops (fun st => Q .normal st) ops.toList st) (hr : Rel n W st a w) :
    (Code.region id ops false).wpIn (FR r) 0 P (PostD n W Z (modsO ops.toList) rf a st Q) a w := by
  refine wpIn_region ?_
  have := listW_ok hP (r := r) (m := modsO ops.toList) (rf := rf) (a0 := a) (st0 := st) (ops := ops) (Q := Q) (fun o ho i hi => List.mem_filterMap.2 ⟨o, ho, hi⟩) hd ops.toList 0 st a w (by simp) h hr (.refl _ _) (.refl _) (fun _ => rfl)
  rw [List.range_eq_range', ← Array.length_toList]
  exact this

theorem replicate_false (k j : Nat) : (Array.replicate k false).getD j false = false := by
  simp only [Array.getD_eq_getD_getElem?, Array.getElem?_replicate]
  split <;> rfl

theorem PostD.unpanic {m : List Nat} {rf : Bool} {st0 : St} {Q : Exit → St → Prop} {e : Exit} {a0 a : Act} {w : World} (h : PostD n W (fun _ _ => False) m rf a0 st0 Q e a w) : PostD n W Z m rf a0 st0 Q e a w := by
  cases e with
  | panic c => obtain ⟨_, _, h⟩ := h; exact h.elim
  | _ => exact h

theorem draw_ok (hP : NoNG P) {id : Nat} {ops : Array Oper} {st : St} {Q : Exit → St → Prop} {S : Heap → Prop} {l : List Nat} (hck : (Region.noSelect ops && noDeferB ops && P.follows .mixedOrders && Nat.beq l.length ops.size) = true)
    (hS : S st.h) (hSl : ∀ h, S h → LocIn st.loc h) (h : drawW P n ops (quiets P ops) S st.loc (fun st => Q .normal st) l (Array.replicate ops.size false) st) (hr : Rel n W st a w) :
    (Code.region id ops true).wpIn (FR r) 0 P (PostD n W Z (modsO ops.toList) false a st Q) a w := by
  simp only [Bool.and_eq_true] at hck
  obtain ⟨⟨⟨h1, h2⟩, h3⟩, hlen⟩ := hck
  have hlen := Nat.eq_of_beq_eq_true hlen
  have hr' : Rel n W st a { w with drawn := w.drawn + 1 } := ⟨hr.hr, hr.env, hr.size, hr.defers, hr.sm⟩
  have := drawW_ok hP (noDeferB_ok h2) (fun j o cs b ho => Region.noSelect_spec h1 j o cs b ho) (r := r) (m := modsO ops.toList) (a0 := a) (st0 := st) (loc0 := st.loc) (Q := Q) (fun o ho i hi => List.mem_filterMap.2 ⟨o, ho, hi⟩) hSl hr.hr.2.2 (.refl _) l _ st a _ h hr' (.refl _ _) (.refl _) rfl (.refl _)
    (fun x o _ hx => by rw [replicate_false] at hx; cases hx) (.inl ⟨by rw [hr'.hr.1]; exact hS, hSl⟩)
  rw [hlen] at this
  exact wpIn_mono (wpIn_region_any h3 (wpAnyU_any (S := fun w => S w.heap) (late := lateO ops (quiets P ops)) _ _ _ _ this)) (fun e a w h => h.unpanic)

end
end Go.VK

/- The walk is sound for a statement whose operations come in an order that is drawn: what leaves memory as it is, in every memory of a class, may be taken first. -/
import Derived.Test.YtemkcbopbinfmaaGreatDoorVKG
set_option linter.all false
namespace Go.VK
open Go

variable {P : Program} {ops : Array Oper}

/-- In state 'a', in every world of the class, the operation leaves 'v' in its slot and does nothing else. -/
def YieldsS (P : Program) (ops : Array Oper) (S : World → Prop) (o : Oper) (v : Value) (a : Act) : Prop :=
  (Region.wanted o (yielded ops a.tmps) = true ∧ ∀ w, S w → (execOp a.eval o).run P w = .ok (.value v) w) ∨ (Region.wanted o (yielded ops a.tmps) = false ∧ v = undef)

def NoDef (ops : Array Oper) : Prop := ∀ (j : Nat) (o : Oper), ops[j]? = some o → ∀ c, o.op ≠ .defer c
def NoSel (ops : Array Oper) : Prop := ∀ (j : Nat) (o : Oper) cs b, ops[j]? = some o → o.op ≠ .select cs b

theorem noDeferB_ok (h : noDeferB ops = true) : NoDef ops := fun j o ho c e => by
  have hm : o ∈ ops.toList := by
    have : ops.toList[j]? = some o := by simpa using ho
    exact List.mem_of_getElem? this
  have := List.all_eq_true.1 h o hm
  rw [e] at this
  cases this

section
variable {r : Option Nat} {Q : Exit → Act → World → Prop} {S : World → Prop}

theorem YieldsS.wpOp {i : Nat} {o : Oper} {v : Value} {a : Act} (hnd : NoDef ops) (hi : ops[i]? = some o) (hy : YieldsS P ops S o v a) {K : Act → World → Prop} {w : World} (hS : S w) (h : K (a.put o.dst v) w) :
    wpOpIn (FR r) 0 P ops Q i K a w := by
  unfold wpOpIn
  simp only [hi]
  rcases hy with ⟨hw, hv⟩ | ⟨hw, rfl⟩
  · rw [if_pos hw]
    refine ⟨fun _ _ => trivial, ?_⟩
    rw [Oper.semAt_eq _ _ _ (hnd i o hi), hv w hS]
    exact h
  · rw [if_neg (by rw [hw]; simp)]
    exact ⟨fun _ _ => trivial, h⟩

theorem YieldsS.same {o : Oper} {v : Value} {a a' : Act} (hy : YieldsS P ops S o v a) (he : execOp a'.eval o = execOp a.eval o)
    (hw : Region.wanted o (yielded ops a'.tmps) = Region.wanted o (yielded ops a.tmps)) : YieldsS P ops S o v a' := by
  unfold YieldsS at *; rw [he, hw]; exact hy

theorem wpOp_putS {j : Nat} {oi oj : Oper} {v : Value} (hnd : NoDef ops) (hj : ops[j]? = some oj) (hap : oi.apart ops oj = true) (hsi : ∀ cs b, oi.op ≠ .select cs b) (hsj : ∀ cs b, oj.op ≠ .select cs b)
    (hQ : ∀ c a w, Q (.panic c) (a.put oi.dst v) w → Q (.panic c) a w) {K : Act → World → Prop} {a : Act} {w : World}
    (hy : YieldsS P ops S oi v a) (h : wpOpIn (FR r) 0 P ops Q j K (a.put oi.dst v) w) :
    wpOpIn (FR r) 0 P ops Q j (fun a' w' => YieldsS P ops S oi v a' ∧ K (a'.put oi.dst v) w') a w := by
  obtain ⟨h1, h2, h3⟩ := Oper.apart_spec hap
  have keep : ∀ u, YieldsS P ops S oi v (a.put oj.dst u) := fun u => hy.same (execOp_put oi hsi a oj.dst u h3) (wanted_put oi a oj.dst u h3)
  unfold wpOpIn at *
  simp only [hj] at h ⊢
  rw [wanted_put oj a oi.dst v h1] at h
  split
  · rename_i hw
    rw [if_pos hw] at h
    refine ⟨fun _ _ => trivial, ?_⟩
    have h := h.2
    rw [Oper.semAt_eq _ _ _ (hnd j oj hj)] at h ⊢
    rw [execOp_put oj hsj a oi.dst v h1] at h
    generalize (execOp a.eval oj).run P w = res at *
    have sw : ∀ u w', K ((a.put oi.dst v).put oj.dst u) w' → YieldsS P ops S oi v (a.put oj.dst u) ∧ K ((a.put oj.dst u).put oi.dst v) w' := fun u w' hk => ⟨keep u, by rw [← Act.put_comm a v u h2]; exact hk⟩
    cases res with
    | ok x w' =>
      cases x <;> simp only [Oper.uponIn] at h ⊢
      case value u => exact sw u w' h
      case skip => exact sw undef w' h
      case defer d =>
        refine ⟨?_, ?_⟩
        · have e : YieldsS P ops S oi v { a.put oj.dst undef with defers := d :: (a.put oj.dst undef).defers } := (keep undef).same rfl rfl
          rwa [Act.put_defers] at e
        · rw [← Act.put_comm _ v undef h2, ← Act.put_defers]; exact h
      case enter f args => exact ⟨h.1, CallsIn.mono h.2 fun e w'' he => by
          cases e with
          | returned u => exact sw u w'' he
          | panicked c => exact hQ _ _ _ he
          | outgrown => exact he⟩
      case row row args => exact ⟨h.1, RowsIn.mono h.2 fun u w'' he => sw u w'' he⟩
      case round l f tmps asn body => exact ⟨h.1, RoundIn.mono h.2 fun e w'' he => by
          cases e with
          | returned u => exact sw u w'' he
          | panicked c => exact hQ _ _ _ he
          | outgrown => exact he⟩
    | halt x w' => cases x <;> simp only [Oper.uponIn] at h ⊢; exact hQ _ _ _ h
  · rename_i hw
    rw [if_neg hw] at h
    exact ⟨fun _ _ => trivial, keep undef, by rw [← Act.put_comm a v undef h2]; exact h.2⟩

/-- Whatever order is picked from here on; behind each operation the class holds, unless the operation waits for all that is taken first. -/
def wpAnyU (r : Option Nat) (P : Program) (ops : Array Oper) (Q : Exit → Act → World → Prop) (S : World → Prop) (late : Nat → Bool) : Nat → Array Bool → Act → World → Prop
  | 0, listed, a, w => Region.ready .any ops listed = [] ∧ Q .normal a w
  | fuel + 1, listed, a, w => (Region.ready .any ops listed = [] → Q .normal a w) ∧
    ∀ i ∈ Region.ready .any ops listed, wpOpIn (FR r) 0 P ops Q i (fun a' w' => (late i = true ∨ S w') ∧ wpAnyU r P ops Q S late fuel (listed.setIfInBounds i true) a' w') a w

theorem wpAnyU_any {late : Nat → Bool} : ∀ (fuel : Nat) (listed : Array Bool) (a : Act) (w : World), wpAnyU r P ops Q S late fuel listed a w → wpAnyIn (FR r) 0 P .any ops Q fuel listed a w
  | 0, _, _, _, h => h
  | fuel + 1, _, _, _, h => ⟨h.1, fun i hi => wpOpIn_mono (fun a' w' h' => wpAnyU_any fuel _ a' w' h'.2) (h.2 i hi)⟩

/-- What is listed is listed with all that it waits for. -/
def Closed (ops : Array Oper) (listed : Array Bool) : Prop := ∀ (x : Nat) (o : Oper), ops[x]? = some o → listed.getD x false = true → ∀ e ∈ o.after, Region.binds .any e = true → listed.getD e.on false = true

theorem closed_set {listed : Array Bool} {i : Nat} (hc : Closed ops listed) (hr : i ∈ Region.ready .any ops listed) : Closed ops (listed.setIfInBounds i true) := fun x o ho hx e he hb => by
  by_cases hxi : x = i
  · subst hxi
    obtain ⟨_, o', ho', hall⟩ := mem_ready.1 hr
    rw [ho] at ho'; cases ho'
    exact getD_set_true (hall e he hb)
  · have : listed.getD x false = true := by rw [← getD_set_ne false (Ne.symm hxi)]; exact hx
    exact getD_set_true (hc x o ho this e he hb)

theorem reach_listed {listed : Array Bool} (hc : Closed ops listed) : ∀ (k j i : Nat) (o : Oper), ops[j]? = some o → (∀ e ∈ o.after, Region.binds .any e = true → listed.getD e.on false = true) → reachO ops k j i = true → listed.getD i false = true
  | 0, _, _, _, _, _, h => by simp [reachO] at h
  | k + 1, j, i, o, ho, hall, h => by
    simp only [reachO, ho, List.any_eq_true, Bool.and_eq_true, Bool.or_eq_true] at h
    obtain ⟨e, he, hb, h⟩ := h
    have he' : e ∈ o.after := by simpa using he
    have hl := hall e he' hb
    rcases h with h | h
    · have := Nat.eq_of_beq_eq_true h
      rw [← this]; exact hl
    · cases ho' : ops[e.on]? with
      | none =>
        cases k with
        | zero => simp [reachO] at h
        | succ k => simp [reachO, ho'] at h
      | some o' => exact reach_listed hc k e.on i o' ho' (hc e.on o' ho' hl) h

/-- An operation that may come up, and yields its value in every world of the class, may be taken first. -/
theorem wpAnyU_first {us : List Nat} {i : Nat} {oi : Oper} {v : Value} (hnd : NoDef ops) (hns : NoSel ops) (hi : ops[i]? = some oi) (hu : i ∈ us) (hQ : ∀ c a w, Q (.panic c) (a.put oi.dst v) w → Q (.panic c) a w) :
    ∀ (fuel : Nat) (listed : Array Bool) (a : Act) (w : World),
      (∀ j oj, ops[j]? = some oj → j ≠ i → listed.getD j true = false → (∀ e ∈ oj.after, Region.binds .any e = true → e.on ≠ i) → oi.apart ops oj = true) → Closed ops listed →
      i ∈ Region.ready .any ops listed → YieldsS P ops S oi v a → S w →
      wpAnyU r P ops Q S (lateO ops us) fuel (listed.setIfInBounds i true) (a.put oi.dst v) w → wpAnyU r P ops Q S (lateO ops us) (fuel + 1) listed a w := by
  intro fuel
  induction fuel with
  | zero =>
    intro listed a w _ _ hr hy hS H
    refine ⟨fun h => (by rw [h] at hr; cases hr), fun j hj => ?_⟩
    by_cases hji : j = i
    · subst hji; exact hy.wpOp hnd hi hS ⟨.inr hS, H⟩
    · have := ready_mono hj hji
      rw [H.1] at this
      cases this
  | succ fuel ih =>
    intro listed a w hfree hc hr hy hS H
    refine ⟨fun h => (by rw [h] at hr; cases hr), fun j hj => ?_⟩
    by_cases hji : j = i
    · subst hji; exact hy.wpOp hnd hi hS ⟨.inr hS, H⟩
    · have h1 := H.2 j (ready_mono hj hji)
      obtain ⟨hjun, oj, hoj, hall⟩ := mem_ready.1 hj
      have hiun : listed.getD i false = false := by
        have h0 := (mem_ready.1 hr).1
        rcases Nat.lt_or_ge i listed.size with h' | h'
        · simpa [h'] using h0
        · simp [Array.getElem?_eq_none h'] at h0
      have hnot : ∀ e ∈ oj.after, Region.binds .any e = true → e.on ≠ i := fun e he hb heq => by
        have h1 := hall e he hb
        rw [heq, hiun] at h1; cases h1
      have hnl : lateO ops us j = false := by
        cases hl : lateO ops us j with
        | false => rfl
        | true =>
          have := List.all_eq_true.1 hl i hu
          have := reach_listed hc _ j i oj hoj hall this
          rw [hiun] at this; cases this
      have h2 := wpOp_putS hnd hoj (hfree j oj hoj hji hjun hnot) (fun cs b => hns i oi cs b hi) (fun cs b => hns j oj cs b hoj) hQ hy h1
      have hfree' : ∀ k ok, ops[k]? = some ok → k ≠ i → (listed.setIfInBounds j true).getD k true = false → (∀ e ∈ ok.after, Region.binds .any e = true → e.on ≠ i) → oi.apart ops ok = true := fun k ok hk hki hun hno => by
        refine hfree k ok hk hki ?_ hno
        by_cases hjk : j = k
        · subst hjk; exact hjun
        · rw [getD_set_ne true hjk] at hun; exact hun
      refine wpOpIn_mono (fun a' w' h3 => ?_) h2
      obtain ⟨h3, h4, h5⟩ := h3
      have hS' : S w' := h4.resolve_left (by rw [hnl]; simp)
      refine ⟨.inr hS', ih (listed.setIfInBounds j true) a' w' hfree' (closed_set hc hj) (ready_mono hr (Ne.symm hji)) h3 hS' ?_⟩
      rw [Array.setIfInBounds_comm _ _ hji]
      exact h5

theorem lookL_resetL (loc0 : List (Nat × LocI)) : ∀ (m : List (Nat × LocI)) (id : Nat), lookL (resetL loc0 m) id = match lookL m id with
    | none => none
    | some x => match lookL loc0 id, x.cs with
      | some y, some _ => some y
      | _, _ => some { x with cs := none }
  | [], id => rfl
  | (i, x) :: m, id => by
    simp only [resetL, lookL]
    cases hb : Nat.beq i id with
    | true =>
      have := Nat.eq_of_beq_eq_true hb
      subst this
      split <;> simp_all [lookL]
    | false =>
      split <;> simp only [lookL, hb, lookL_resetL loc0 m id]

theorem post_put {n : Nat} {W : World} {m : List Nat} {a0 : Act} {st0 : St} {Q : Exit → St → Prop} (d : Option Tmp) (v : Value) (c : List PanicEntry) (a : Act) (w : World)
    (h : PostD n W (fun _ _ => False) m false a0 st0 Q (.panic c) (a.put d v) w) : PostD n W (fun _ _ => False) m false a0 st0 Q (.panic c) a w := by
  obtain ⟨_, _, h⟩ := h
  exact h.elim

theorem drawW_ok (hP : NoNG P) (hnd : NoDef ops) (hns : NoSel ops) {n : Nat} {W : World} {m : List Nat} {a0 : Act} {st0 : St} {Q : Exit → St → Prop} {S : Heap → Prop} {us : List Nat} {loc0 : List (Nat × LocI)}
    (hm : ∀ o ∈ ops.toList, ∀ i, o.dst = some i → i ∈ m) (h0S : ∀ h, S h → LocIn loc0 h) (h0A : Apart loc0) (h0R : RoLe st0.loc loc0) :
    ∀ (l : List Nat) (listed : Array Bool) (st : St) (a : Act) (w : World), drawW P n ops us S loc0 (fun st => Q .normal st) l listed st → Rel n W st a w → Tk m a0 a → RoLe st0.loc st.loc → st.dm = st0.dm → LocLe loc0 st.loc → Closed ops listed →
      ((S w.heap ∧ ∀ h, S h → LocIn st.loc h) ∨ ∀ u ∈ us, listed.getD u false = true) → wpAnyU r P ops (PostD n W (fun _ _ => False) m false a0 st0 Q) (fun w => S w.heap) (lateO ops us) l.length listed a w
  | [], listed, st, a, w, h, hr, ht, hro, hdm, hle, hc, hS => by
    simp only [drawW] at h
    split at h
    · rename_i he
      exact ⟨he, st, hr, ht, hro, fun _ => hdm, h⟩
    · exact h.elim
  | i :: l, listed, st, a, w, h, hr, ht, hro, hdm, hle, hc, hS => by
    simp only [drawW] at h
    split at h
    · exact h.elim
    · rename_i o ho
      have hmem : o ∈ ops.toList := by
        have : ops.toList[i]? = some o := by simpa using ho
        exact List.mem_of_getElem? this
      split at h
      · rename_i hu
        have hu : i ∈ us := by simpa using hu
        split at h
        · rename_i hq
          simp only [Bool.and_eq_true] at hq
          obtain ⟨⟨hq, hfree⟩, hready⟩ := hq
          have hready : i ∈ Region.ready .any ops listed := by simpa using hready
          have hiun : listed.getD i false = false := by
            have h0 := (mem_ready.1 hready).1
            rcases Nat.lt_or_ge i listed.size with h' | h'
            · simpa [h'] using h0
            · simp [Array.getElem?_eq_none h'] at h0
          obtain ⟨hSw, hSl⟩ : S w.heap ∧ ∀ h, S h → LocIn st.loc h := by
            rcases hS with hS | hS
            · exact hS
            · have := hS i hu; rw [hiun] at this; cases this
          obtain ⟨s1, e1, e2, e3, hE1, h⟩ := guardW_ok hr.env h
          have hr1 : Rel n W s1 a w := hr.env' e1 e2 e3 hE1
          rcases h with ⟨hw, h⟩ | ⟨hw, h⟩
          · obtain ⟨v, e, hrun, hv, hK⟩ := opQ_ok hE1 (by rw [e1]; exact hSl) h
            obtain ⟨s2, hs2, hh2, hL2, hA2, hK⟩ := escs_ok hK
            have hr2 : Rel n W s2 a w := ⟨⟨by rw [hh2]; exact hr1.hr.1, by rw [hh2]; exact hL2 _ hr1.hr.2.1, hA2 hr1.hr.2.2⟩, fun i => by rw [hs2.env]; exact (hr1.env i).mono hs2.le, hr1.size, by rw [hs2.dm]; exact hr1.defers, hr1.sm⟩
            obtain ⟨s3, hr3, hl3, hd3, hK⟩ := putW_ok hK hr2 (hv.mono hs2.le)
            refine wpAnyU_first hnd hns ho hu (fun c a w => post_put _ _ c a w) l.length listed a w (Region.free_spec ho hfree) hc hready (.inl ⟨hw, fun w' hw' => hrun w' hw'⟩) hSw ?_
            refine drawW_ok hP hnd hns hm h0S h0A h0R l _ s3 _ w hK hr3 (ht.put (hm o hmem)) (by rw [hl3]; rw [← e1] at hro; exact hro.trans hs2.ro) (by rw [hd3, hs2.dm, e2, hdm]) (by rw [hl3]; rw [← e1] at hle; exact hle.trans hs2.le) (closed_set hc hready) (.inl ⟨hSw, ?_⟩)
            intro h' hS'
            rw [hl3]
            have hL := hSl h' hS'
            rw [← e1] at hL
            exact hL2 h' hL
          · obtain ⟨s3, hr3, hl3, hd3, hK⟩ := putW_ok (v := undef) h hr1 rfl
            refine wpAnyU_first hnd hns ho hu (fun c a w => post_put _ _ c a w) l.length listed a w (Region.free_spec ho hfree) hc hready (.inr ⟨hw, rfl⟩) hSw ?_
            exact drawW_ok hP hnd hns hm h0S h0A h0R l _ s3 _ w hK hr3 (ht.put (hm o hmem)) (by rw [hl3, e1]; exact hro) (by rw [hd3, e2, hdm]) (by rw [hl3, e1]; exact hle) (closed_set hc hready) (.inl ⟨hSw, by rw [hl3, e1]; exact hSl⟩)
        · exact h.elim
      · split at h
        · rename_i k hk
          split at h
          · rename_i hki
            have hki := Nat.eq_of_beq_eq_true hki
            subst hki
            have hready : k ∈ Region.ready .any ops listed := by rw [hk]; simp
            obtain ⟨_, o', ho', hall⟩ := mem_ready.1 hready
            rw [ho] at ho'; cases ho'
            have hlate : lateO ops us k = true → ∀ u ∈ us, (listed.setIfInBounds k true).getD u false = true := fun hl u hu =>
              getD_set_true (reach_listed hc _ k u o ho hall (List.all_eq_true.1 hl u hu))
            obtain ⟨s1, e1, e2, e3, hE1, h⟩ := guardW_ok hr.env h
            have hr1 : Rel n W s1 a w := hr.env' e1 e2 e3 hE1
            refine ⟨(fun h0 => by rw [hk] at h0; cases h0), fun j hj => ?_⟩
            rw [hk] at hj
            obtain rfl : j = k := by simpa using hj
            unfold wpOpIn
            simp only [ho]
            rcases h with ⟨hw, h⟩ | ⟨hw, h⟩
            · rw [if_pos hw]
              refine wpIn_of_outc (opE_noDefer h) (opE_ok hP hE1 hr1.hr h) (fun v w' hd => ?_) (fun c w' hsm hz => hz.elim)
              obtain ⟨e, s2, hr2, hs2, hv, hK⟩ := hd.rel hr1
              obtain ⟨s3, hr3, hl3, hd3, hK⟩ := putW_ok hK hr2 hv
              have hro3 : RoLe st0.loc s3.loc := by rw [hl3]; rw [← e1] at hro; exact hro.trans hs2.ro
              have hdm3 : s3.dm = st0.dm := by rw [hd3, hs2.dm, e2, hdm]
              have hle3 : LocLe loc0 s3.loc := by rw [hl3]; rw [← e1] at hle; exact hle.trans hs2.le
              split at hK
              · rename_i hl
                exact ⟨.inl hl, drawW_ok hP hnd hns hm h0S h0A h0R l _ s3 _ w' hK hr3 (ht.put (hm o hmem)) hro3 hdm3 hle3 (closed_set hc hready) (.inr (hlate hl))⟩
              · obtain ⟨hS3, hK⟩ := hK
                rw [← hr3.hr.1] at hS3
                have hLr : ∀ h', S h' → LocIn (resetL loc0 s3.loc) h' := fun h' hS' id x cs hx hcs => by
                  rw [lookL_resetL] at hx
                  split at hx
                  · cases hx
                  · split at hx
                    · rename_i y hy _
                      cases hx
                      exact h0S h' hS' id _ cs hy hcs
                    · cases hx; cases hcs
                have hr4 : Rel n W { s3 with loc := resetL loc0 s3.loc } (a.put o.dst v) w' := by
                  refine ⟨⟨hr3.hr.1, ?_, fun i j li lj ci cj hij hi hj hci hcj => ?_⟩, fun i => (hr3.env i).mono fun id x hx => ?_, hr3.size, hr3.defers, hr3.sm⟩
                  · show LocIn (resetL loc0 s3.loc) s3.h
                    rw [← hr3.hr.1]; exact hLr _ hS3
                  · have sub : ∀ k lk ck, lookL (resetL loc0 s3.loc) k = some lk → lk.cs = some ck → lookL loc0 k = some lk := by
                      intro k lk ck hk hc
                      rw [lookL_resetL] at hk
                      split at hk
                      · cases hk
                      · split at hk
                        · rename_i y hy _; cases hk; exact hy
                        · cases hk; cases hc
                    exact h0A i j li lj ci cj hij (sub i li ci hi hci) (sub j lj cj hj hcj) hci hcj
                  · rw [lookL_resetL, hx]
                    simp only []
                    split
                    · rename_i y _ hy _
                      obtain ⟨l', hl', hb⟩ := hle3 id y hy
                      rw [hx] at hl'; cases hl'
                      exact ⟨y, rfl, hb.symm⟩
                    · exact ⟨_, rfl, rfl⟩
                refine ⟨.inr hS3, drawW_ok hP hnd hns hm h0S h0A h0R l _ _ _ w' hK hr4 (ht.put (hm o hmem)) (fun id x hx hxr hxc => ?_) hdm3 (fun id x hx => ?_) (closed_set hc hready) (.inl ⟨hS3, hLr⟩)⟩
                · show lookL (resetL loc0 s3.loc) id = some x
                  rw [lookL_resetL, hro3 id x hx hxr hxc, h0R id x hx hxr hxc]
                  obtain ⟨c, hc⟩ := Option.isSome_iff_exists.1 hxc
                  simp only [hc]
                · show ∃ l', lookL (resetL loc0 s3.loc) id = some l' ∧ l'.b = x.b
                  obtain ⟨l', hl', hb⟩ := hle3 id x hx
                  rw [lookL_resetL, hl']
                  simp only [hx]
                  split
                  · rename_i y _ hy _; cases hy; exact ⟨_, rfl, rfl⟩
                  · exact ⟨_, rfl, hb⟩
            · rw [if_neg (by rw [hw]; simp)]
              refine ⟨fun _ _ => trivial, ?_⟩
              obtain ⟨s3, hr3, hl3, hd3, hK⟩ := putW_ok (v := undef) h hr1 rfl
              have hro3 : RoLe st0.loc s3.loc := by rw [hl3, e1]; exact hro
              have hdm3 : s3.dm = st0.dm := by rw [hd3, e2, hdm]
              have hle3 : LocLe loc0 s3.loc := by rw [hl3, e1]; exact hle
              have hS3 : (S w.heap ∧ ∀ h, S h → LocIn s3.loc h) ∨ ∀ u ∈ us, (listed.setIfInBounds j true).getD u false = true := by
                rcases hS with ⟨h1, h2⟩ | h1
                · exact .inl ⟨h1, by rw [hl3, e1]; exact h2⟩
                · exact .inr fun u hu => getD_set_true (h1 u hu)
              split at hK
              · rename_i hl
                exact ⟨.inl hl, drawW_ok hP hnd hns hm h0S h0A h0R l _ s3 _ w hK hr3 (ht.put (hm o hmem)) hro3 hdm3 hle3 (closed_set hc hready) (.inr (hlate hl))⟩
              · obtain ⟨hSw, hK⟩ := hK
                rw [← hr3.hr.1] at hSw
                exact ⟨.inr hSw, drawW_ok hP hnd hns hm h0S h0A h0R l _ s3 _ w hK hr3 (ht.put (hm o hmem)) hro3 hdm3 hle3 (closed_set hc hready) hS3⟩
          · exact h.elim
        · exact h.elim

end
end Go.VK

/- The walk is sound for code: sequences, branches, blocks, loops, scopes, ranges over functions. -/
import Derived.Test.YtemkcbopbinfmaaGreatDoorVKH
set_option linter.all false
namespace Go.VK
open Go

variable {P : Program}

section
variable {n : Nat} {W : World} {Z : St → List PanicEntry → Prop}

theorem PostD.mono {m m' : List Nat} {rf rf' : Bool} {a0 a1 : Act} {st0 st1 : St} {Q Q' : Exit → St → Prop} (hm : ∀ i, i ∈ m → i ∈ m') (ht : Tk m' a0 a1) (hr : RoLe st0.loc st1.loc)
    (hd : rf' = false → rf = false ∧ st1.dm = st0.dm) (hQ : ∀ e st, Q e st → Q' e st) {e : Exit} {a : Act} {w : World} (h : PostD n W Z m rf a1 st1 Q e a w) : PostD n W Z m' rf' a0 st0 Q' e a w := by
  have key : (∃ st, Rel n W st a w ∧ Tk m a1 a ∧ RoLe st1.loc st.loc ∧ (rf = false → st.dm = st1.dm) ∧ Q e st) → ∃ st, Rel n W st a w ∧ Tk m' a0 a ∧ RoLe st0.loc st.loc ∧ (rf' = false → st.dm = st0.dm) ∧ Q' e st := by
    rintro ⟨st, h1, h2, h3, h4, h5⟩
    exact ⟨st, h1, ht.trans (h2.mono hm), hr.trans h3, fun e => (h4 (hd e).1).trans (hd e).2, hQ _ _ h5⟩
  cases e with
  | panic c => exact h
  | outgrown => exact h
  | _ => exact key h

/-- What a state is behind a piece of code, without its way out. -/
theorem PostD.of {m : List Nat} {rf : Bool} {a0 : Act} {st0 st : St} {Q : Exit → St → Prop} {e : Exit} (he : ∀ c, e ≠ .panic c) (ho : e ≠ .outgrown) {a : Act} {w : World} (h1 : Rel n W st a w) (h2 : Tk m a0 a) (h3 : RoLe st0.loc st.loc) (h4 : rf = false → st.dm = st0.dm) (h5 : Q e st) :
    PostD n W Z m rf a0 st0 Q e a w := by
  cases e with
  | panic c => exact absurd rfl (he c)
  | outgrown => exact absurd rfl ho
  | _ => exact ⟨st, h1, h2, h3, h4, h5⟩

/-! ### Joins -/
theorem lookL_roL (l : List Nat) : ∀ (m : List (Nat × LocI)) (id : Nat), lookL (roL l m) id = (lookL m id).map fun x => if l.contains id then { x with ro := true } else x
  | [], _ => rfl
  | (i, x) :: m, id => by
    simp only [roL]
    cases hc : l.contains i <;> simp only [lookL] <;> cases hb : Nat.beq i id <;> simp only [lookL_roL l m id]
    · have := Nat.eq_of_beq_eq_true hb; subst this; simp at hc; simp [hc]
    · have := Nat.eq_of_beq_eq_true hb; subst this; simp at hc; simp [hc]

theorem lookL_dropL (l : List Nat) : ∀ (m : List (Nat × LocI)) (id : Nat), lookL (dropL l m) id = (lookL m id).map fun x => if l.contains id || x.ro then x else { x with cs := none }
  | [], _ => rfl
  | (i, x) :: m, id => by
    simp only [dropL]
    cases hc : l.contains i || x.ro <;> simp only [lookL] <;> cases hb : Nat.beq i id <;> simp only [lookL_dropL l m id]
    · have := Nat.eq_of_beq_eq_true hb; subst this; simp at hc; simp [hc]
    · have := Nat.eq_of_beq_eq_true hb; subst this; simp at hc; simp [hc]

theorem before_rel {j : Jn} {st : St} {a : Act} {w : World} (hr : Rel n W st a w) : Rel n W (j.before st) a w := by
  refine ⟨⟨hr.hr.1, fun id l cs hl hc => ?_, fun i k li lk ci ck hik hi hk hci hck => ?_⟩, fun i => (hr.env i).mono fun id l hl => ?_, hr.size, hr.defers, hr.sm⟩
  · simp only [Jn.before, lookL_roL] at hl
    obtain ⟨x, hx, rfl⟩ := Option.map_eq_some_iff.1 hl
    by_cases hcon : j.locs.contains id = true
    · rw [if_pos hcon] at hc ⊢; exact hr.hr.2.1 id x cs hx hc
    · rw [if_neg hcon] at hc ⊢; exact hr.hr.2.1 id x cs hx hc
  · simp only [Jn.before, lookL_roL] at hi hk
    obtain ⟨x, hx, rfl⟩ := Option.map_eq_some_iff.1 hi
    obtain ⟨y, hy, rfl⟩ := Option.map_eq_some_iff.1 hk
    have e1 : ∀ (q : LocI) (k : Nat), (if j.locs.contains k = true then { q with ro := true } else q).b = q.b := fun q k => by split <;> rfl
    have e2 : ∀ (q : LocI) (k : Nat), (if j.locs.contains k = true then { q with ro := true } else q).cs = q.cs := fun q k => by split <;> rfl
    rw [e1, e1]; rw [e2] at hci hck
    exact hr.hr.2.2 i k x y ci ck hik hx hy hci hck
  · refine ⟨if j.locs.contains id then { l with ro := true } else l, by simp only [Jn.before, lookL_roL, hl, Option.map_some], ?_⟩
    split <;> rfl

theorem before_ro {j : Jn} {st : St} {m : List (Nat × LocI)} (h : RoLe (j.before st).loc m) : RoLe st.loc m := fun id l hl hr hc => by
  refine h id l ?_ hr hc
  simp only [Jn.before, lookL_roL, hl, Option.map_some]
  split
  · congr 1; cases l; simp at hr; subst hr; rfl
  · rfl

theorem slotE_look : ∀ (ss : List (Nat × Sh)) (vs : List Value) (i : Nat) (rest : List (Nat × Ent)), vs.length = ss.length →
    (∃ s v, (i, s) ∈ ss ∧ (∃ k : Nat, ss[k]? = some (i, s) ∧ vs[k]? = some v) ∧ lookE (slotE ss vs ++ rest) i = entV s v) ∨ lookE (slotE ss vs ++ rest) i = lookE rest i
  | [], [], i, rest, _ => .inr rfl
  | [], _ :: _, _, _, h => by simp at h
  | _ :: _, [], _, _, h => by simp at h
  | (j, s) :: ss, v :: vs, i, rest, h => by
    simp only [slotE, List.cons_append, lookE]
    cases hb : Nat.beq j i with
    | true =>
      have := Nat.eq_of_beq_eq_true hb
      subst this
      exact .inl ⟨s, v, by simp, ⟨0, rfl, rfl⟩, rfl⟩
    | false =>
      rcases slotE_look ss vs i rest (by simpa using h) with ⟨s', v', h1, ⟨k, h2, h3⟩, h4⟩ | h1
      · exact .inl ⟨s', v', by simp [h1], ⟨k + 1, h2, h3⟩, h4⟩
      · exact .inr h1

theorem keep_look (f : Nat → Ent) : ∀ (ks : List Nat) (i : Nat), (i ∈ ks ∧ lookE (ks.map fun i => (i, f i)) i = f i) ∨ lookE (ks.map fun i => (i, f i)) i = .kill
  | [], i => .inr rfl
  | k :: ks, i => by
    simp only [List.map_cons, lookE]
    cases hb : Nat.beq k i with
    | true => have := Nat.eq_of_beq_eq_true hb; subst this; exact .inl ⟨by simp, rfl⟩
    | false =>
      rcases keep_look f ks i with ⟨h1, h2⟩ | h
      · exact .inl ⟨by simp [h1], h2⟩
      · exact .inr h

theorem valuesOf_get : ∀ (l : List (Option Value)) (vs : List Value), valuesOf l = some vs → vs.length = l.length ∧ ∀ (k : Nat) v, vs[k]? = some v → l[k]? = some (some v)
  | [], vs, h => by simp [valuesOf] at h; subst h; simp
  | none :: _, _, h => by simp [valuesOf] at h
  | some u :: l, vs, h => by
    simp only [valuesOf] at h
    split at h
    · rename_i us hus
      cases h
      obtain ⟨h1, h2⟩ := valuesOf_get l us hus
      refine ⟨by simp [h1], fun k v hk => ?_⟩
      cases k with
      | zero => simpa using hk
      | succ k => exact h2 k v (by simpa using hk)
    · cases h

theorem entV_ok (loc : List (Nat × LocI)) (s : Sh) (v : Value) : EntOk loc (entV s v) v := by
  unfold entV
  split <;> simp [EntOk]

theorem app_cur {l : List Sh} {F : TT l → Prop} {vs : List Value} (h : app False l (cur l F) vs) : ∃ x : TT l, vals l x = vs ∧ F x := by
  obtain ⟨x, hx, h⟩ := app_some l _ vs h
  rw [unc_cur] at h
  exact ⟨x, hx, h⟩

/-- Into a join, and on from it. -/
theorem go_after {j : Jn} {st st' : St} {a a' : Act} {w w' : World} {m : List Nat} {K : Cur j.shs (Heap → Prop)} (hsub : sub j m = true) (hr : Rel n W st a w) (hr' : Rel n W st' a' w') (ht : Tk m a a') (hro : RoLe (j.before st).loc st'.loc)
    (hdm : st'.dm = st.dm) (h : j.go K st') : ∃ x : TT j.shs, unc j.shs K x st'.h ∧ Rel n W (j.after st (vals _ x) st'.h) a' w' := by
  unfold Jn.go at h
  split at h
  case h_2 => exact h.elim
  rename_i vs hvs
  obtain ⟨x, hx, h⟩ := app_cur h
  refine ⟨x, h, ?_⟩
  obtain ⟨hlen, hget⟩ := valuesOf_get _ _ hvs
  simp only [List.length_map] at hlen
  have hloc : ∀ id l cs, lookL (dropL j.locs st.loc) id = some l → l.cs = some cs → lookL st.loc id = some l ∧ ∃ l', lookL st'.loc id = some l' ∧ l'.b = l.b ∧ l'.cs = some cs := by
    intro id l cs hl hc
    rw [lookL_dropL] at hl
    obtain ⟨y, hy, rfl⟩ := Option.map_eq_some_iff.1 hl
    split at hc
    · rename_i hcon
      rw [if_pos hcon] at hl ⊢
      refine ⟨hy, ?_⟩
      have hb : lookL (j.before st).loc id = some (if j.locs.contains id then { y with ro := true } else y) := by simp only [Jn.before, lookL_roL, hy, Option.map_some]
      have hk := hro id _ hb (by
        split
        · rfl
        · rename_i hn; simp only [Bool.or_eq_true] at hcon; exact hcon.resolve_left hn) (by split <;> simp [hc])
      refine ⟨_, hk, ?_, ?_⟩ <;> split <;> first | rfl | exact hc
    · cases hc
  refine ⟨⟨hr'.hr.1, fun id l cs hl hc => ?_, fun i k li lk ci ck hik hi hk hci hck => ?_⟩, fun i => ?_, hr'.size, by rw [hr'.defers, hdm]; rfl, hr'.sm⟩
  · obtain ⟨_, l', h1, h2, h3⟩ := hloc id l cs hl hc
    rw [← h2]; exact hr'.hr.2.1 id l' cs h1 h3
  · exact hr.hr.2.2 i k li lk ci ck hik (hloc i li ci hi hci).1 (hloc k lk ck hk hck).1 hci hck
  · show EntOk (dropL j.locs st.loc) (lookE (slotE j.slots (vals j.shs x) ++ j.keep.map fun i => (i, lookE st.env i)) i) _
    rcases slotE_look j.slots (vals j.shs x) i (j.keep.map fun i => (i, lookE st.env i)) (by rw [hx]; exact hlen) with ⟨s, v, _, ⟨k, h1, h2⟩, h3⟩ | h1
    · rw [h3]
      rw [hx] at h2
      have h4 := hget k v h2
      simp only [List.getElem?_map, h1, Option.map_some, Option.some.injEq] at h4
      rw [(hr'.env i).value h4]
      exact entV_ok _ _ _
    · rw [h1]
      rcases keep_look (fun i => lookE st.env i) j.keep i with ⟨h2, h3⟩ | h2
      · rw [h3]
        have hnm : i ∉ m := by
          have := List.all_eq_true.1 hsub i h2
          simpa using this
        rw [ht i hnm]
        refine (hr.env i).mono fun id l hl => ?_
        refine ⟨if j.locs.contains id || l.ro then l else { l with cs := none }, by rw [lookL_dropL, hl]; rfl, ?_⟩
        split <;> rfl
      · rw [h2]; trivial

theorem after_ro {j : Jn} {st : St} (vs : List Value) (h : Heap) : RoLe st.loc (j.after st vs h).loc := fun id l hl hr _ => by
  show lookL (dropL j.locs st.loc) id = some l
  rw [lookL_dropL, hl]; simp [hr]

theorem okJ_ok {j : Jn} {m : List Nat} {rf : Bool} {K : Prop} (h : okJ j m rf K) : sub j m = true ∧ rf = false ∧ K := by
  unfold okJ at h
  split at h
  · rename_i hc
    simp only [Bool.and_eq_true, Bool.not_eq_true'] at hc
    exact ⟨hc.1, hc.2, h⟩
  · exact h.elim

theorem join_run {l : List Sh} {body : Cur l (Heap → Prop) → Prop} {K : Cur l (Heap → Prop)} (h : JOIN l body K) : body K := h K fun _ _ h => h

end
end Go.VK

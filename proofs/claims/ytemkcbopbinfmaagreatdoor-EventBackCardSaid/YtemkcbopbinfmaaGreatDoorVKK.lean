/- The walk is sound for code. -/
import Derived.Test.YtemkcbopbinfmaaGreatDoorVKJ
import Derived.RangeFuncRecord
set_option linter.all false
namespace Go.VK
open Go

variable {P : Program}

section
variable {n : Nat} {W : World} {Z : St → List PanicEntry → Prop} {a a0 : Act} {w : World} {r : Option Nat} {st st0 : St} {m : List Nat} {rf : Bool}

theorem then_ok {next : St → Prop} {Q : Exit → St → Prop} {K : Act → World → Prop} {Q' : Exit → Act → World → Prop} {e : Exit} (h : PostD n W Z m rf a0 st0 (thenW next Q) e a w)
    (hn : ∀ st1, Rel n W st1 a w → Tk m a0 a → RoLe st0.loc st1.loc → (rf = false → st1.dm = st0.dm) → next st1 → K a w)
    (hq : PostD n W Z m rf a0 st0 Q e a w → Q' e a w) : Exit.then K Q' e a w := by
  cases e with
  | normal => obtain ⟨st1, h1, h2, h3, h4, h5⟩ := h; exact hn st1 h1 h2 h3 h4 h5
  | _ => exact hq h

theorem inBlock_ok {id : Nat} {next : St → Prop} {Q : Exit → St → Prop} {Q' : Exit → Act → World → Prop} {e : Exit} (h : PostD n W Z m rf a0 st0 (inBlockW id next Q) e a w)
    (hn : ∀ st1, Rel n W st1 a w → Tk m a0 a → RoLe st0.loc st1.loc → (rf = false → st1.dm = st0.dm) → next st1 → Q' .normal a w)
    (hq : ∀ e, PostD n W Z m rf a0 st0 Q e a w → Q' e a w) : Exit.inBlock id Q' e a w := by
  cases e with
  | normal => obtain ⟨st1, h1, h2, h3, h4, h5⟩ := h; exact hn st1 h1 h2 h3 h4 h5
  | exit i =>
    obtain ⟨st1, h1, h2, h3, h4, h5⟩ := h
    simp only [inBlockW] at h5
    simp only [Exit.inBlock]
    split
    · rename_i hi; subst hi
      simp only [Nat.beq_refl] at h5
      exact hn st1 h1 h2 h3 h4 h5
    · rename_i hi
      rw [nbeq_ne hi] at h5
      exact hq _ ⟨st1, h1, h2, h3, h4, h5⟩
  | goto l => exact hq _ h
  | ret => exact hq _ h
  | panic c => exact hq _ h
  | outgrown => exact h.elim

theorem value_ro (l : List Nat) (m : List (Nat × LocI)) (e : Ent) : e.value (roL l m) = e.value m := by
  cases e with
  | loc id off =>
    simp only [Ent.value, lookL_roL]
    cases lookL m id with
    | none => rfl
    | some x => simp only [Option.map_some]; split <;> rfl
  | _ => rfl

theorem go_before {j : Jn} {k : Cur j.shs (Heap → Prop)} (h : j.go k st) : j.go k (j.before st) := by
  unfold Jn.go at h ⊢
  have : (j.slots.map fun s => (lookE (j.before st).env s.1).value (j.before st).loc) = j.slots.map fun s => (lookE st.env s.1).value st.loc :=
    List.map_congr_left fun s _ => value_ro _ _ _
  rw [this]
  exact h

theorem before_after_ro {j : Jn} {vs : List Value} {h : Heap} {mm : List (Nat × LocI)} (hh : RoLe (j.before (j.after st vs h)).loc mm) : RoLe (j.before st).loc mm := fun id l hl hr hc => by
  refine hh id l ?_ hr hc
  simp only [Jn.before, Jn.after, lookL_roL, lookL_dropL] at hl ⊢
  obtain ⟨x, hx, rfl⟩ := Option.map_eq_some_iff.1 hl
  simp only [hx, Option.map_some]
  by_cases hcon : j.locs.contains id = true
  · simp only [hcon, Bool.true_or, if_true]
  · simp only [hcon, if_false, Bool.false_eq_true] at hr ⊢
    simp only [hr, Bool.or_true, if_true]

theorem lookL_unroL (l0 : List (Nat × LocI)) : ∀ (m : List (Nat × LocI)) (id : Nat), lookL (unroL l0 m) id = (lookL m id).map fun x => match lookL l0 id with
    | some y => { x with ro := y.ro }
    | none => x
  | [], _ => rfl
  | (i, x) :: m, id => by
    simp only [unroL]
    cases hc : lookL l0 i <;> simp only [lookL] <;> cases hb : Nat.beq i id <;> simp only [lookL_unroL l0 m id]
    · have := Nat.eq_of_beq_eq_true hb; subst this; simp only [Option.map_some, hc]
    · have := Nat.eq_of_beq_eq_true hb; subst this; simp only [Option.map_some, hc]

theorem unro_b {o : Option LocI} {x : LocI} : (match o with
    | some y => { x with ro := y.ro }
    | none => x).b = x.b ∧ (match o with
    | some y => { x with ro := y.ro }
    | none => x).cs = x.cs := by cases o <;> exact ⟨rfl, rfl⟩

theorem unro_rel {l0 : List (Nat × LocI)} (hr : Rel n W st a w) : Rel n W { st with loc := unroL l0 st.loc } a w := by
  refine ⟨⟨hr.hr.1, fun id l cs hl hc => ?_, fun i k li lk ci ck hik hi hk hci hck => ?_⟩, fun i => (hr.env i).mono fun id l hl => ⟨_, by rw [lookL_unroL, hl]; rfl, unro_b.1⟩, hr.size, hr.defers, hr.sm⟩
  · rw [lookL_unroL] at hl
    obtain ⟨x, hx, rfl⟩ := Option.map_eq_some_iff.1 hl
    rw [unro_b.2] at hc
    rw [unro_b.1]
    exact hr.hr.2.1 id x cs hx hc
  · rw [lookL_unroL] at hi hk
    obtain ⟨x, hx, rfl⟩ := Option.map_eq_some_iff.1 hi
    obtain ⟨y, hy, rfl⟩ := Option.map_eq_some_iff.1 hk
    rw [unro_b.2] at hci hck
    rw [unro_b.1, unro_b.1]
    exact hr.hr.2.2 i k x y ci ck hik hx hy hci hck

theorem unro_ro {l0 m : List (Nat × LocI)} (h : RoLe l0 m) : RoLe l0 (unroL l0 m) := fun id l hl hr hc => by
  rw [lookL_unroL, h id l hl hr hc, Option.map_some, hl]

theorem exitOf_ok {c : Code} {e : Exit} {Q : Exit → Act → World → Prop} (he : exitOf c = some e) (h : Q e a w) : c.wpIn (FR r) 0 P Q a w := by
  unfold exitOf at he
  split at he <;> cases he
  · exact wpIn_ret h
  · exact wpIn_exit h
  · exact wpIn_goto h

theorem foldl_argR : ∀ (ps : List Nat) (ls : List Lay) (vs : List Value) (env : List (Nat × Ent)) (st : St) (tmps : Array Value), ls.length = ps.length → (∀ p ∈ ps, p < n) → tmps.size = n →
    EnvOk { st with env := env } { a with tmps := tmps } →
    (∃ t, t = (ps.zip (parts ls vs)).foldl (fun t (p, v) => t.setIfInBounds p v) tmps ∧ t.size = n ∧ EnvOk { st with env := argR ps ls vs env } { a with tmps := t })
  | [], [], vs, env, st, tmps, _, _, hs, hE => ⟨tmps, rfl, hs, hE⟩
  | [], _ :: _, _, _, _, _, h, _, _, _ => by simp at h
  | _ :: _, [], _, _, _, _, h, _, _, _ => by simp at h
  | p :: ps, .one s :: ls, vs, env, st, tmps, hl, hp, hs, hE => by
    have hE' := hE.put (n := n) (d := p) (e := entV s (vs.headD (.tuple #[]))) (v := vs.headD (.tuple #[])) hs (hp p (by simp)) (entV_ok _ _ _)
    obtain ⟨t, h1, h2, h3⟩ := foldl_argR ps ls vs.tail _ st (tmps.setIfInBounds p (vs.headD (.tuple #[]))) (by simpa using hl) (fun q hq => hp q (by simp [hq])) (by simp [hs]) hE'
    exact ⟨t, by rw [h1]; rfl, h2, h3⟩
  | p :: ps, .agg l :: ls, vs, env, st, tmps, hl, hp, hs, hE => by
    have hE' := hE.put (n := n) (d := p) (e := .val (.agg (vs.take l.length).toArray)) (v := .agg (vs.take l.length).toArray) hs (hp p (by simp)) rfl
    obtain ⟨t, h1, h2, h3⟩ := foldl_argR ps ls (vs.drop l.length) _ st (tmps.setIfInBounds p (.agg (vs.take l.length).toArray)) (by simpa using hl) (fun q hq => hp q (by simp [hq])) (by simp [hs]) hE'
    exact ⟨t, by rw [h1]; rfl, h2, h3⟩

theorem parts_length : ∀ (ls : List Lay) (vs : List Value), (parts ls vs).length = ls.length
  | [], _ => rfl
  | .one _ :: ls, vs => by simp [parts, parts_length ls]
  | .agg _ :: ls, vs => by simp [parts, parts_length ls]

theorem RoLe.drop (l : List Nat) (m : List (Nat × LocI)) : RoLe m (dropL l m) := fun id x hx hr _ => by
  rw [lookL_dropL, hx]; simp [hr]

theorem LocLe.drop (l : List Nat) (m : List (Nat × LocI)) : LocLe m (dropL l m) := fun id x hx => ⟨_, by rw [lookL_dropL, hx]; rfl, by dsimp only; split <;> rfl⟩

theorem drop_sub {l : List Nat} {m : List (Nat × LocI)} {id : Nat} {x : LocI} {cs : List Value} (h : lookL (dropL l m) id = some x) (hc : x.cs = some cs) : lookL m id = some x := by
  rw [lookL_dropL] at h
  obtain ⟨y, hy, rfl⟩ := Option.map_eq_some_iff.1 h
  split at hc
  · rename_i hcon; rw [if_pos hcon]; exact hy
  · cases hc

theorem LocIn.drop {l : List Nat} {m : List (Nat × LocI)} {h : Heap} (hl : LocIn m h) : LocIn (dropL l m) h := fun id x cs hx hc => hl id x cs (drop_sub hx hc) hc

theorem Apart.drop {l : List Nat} {m : List (Nat × LocI)} (ha : Apart m) : Apart (dropL l m) := fun i j li lj ci cj hij hi hj hci hcj => ha i j li lj ci cj hij (drop_sub hi hci) (drop_sub hj hcj) hci hcj

theorem LocIn.ro {l : List Nat} {m : List (Nat × LocI)} {h : Heap} (hl : LocIn m h) : LocIn (roL l m) h := fun id x cs hx hc => by
  rw [lookL_roL] at hx
  obtain ⟨y, hy, rfl⟩ := Option.map_eq_some_iff.1 hx
  have e1 : (if l.contains id = true then { y with ro := true } else y).b = y.b := by split <;> rfl
  have e2 : (if l.contains id = true then { y with ro := true } else y).cs = y.cs := by split <;> rfl
  rw [e1]; exact hl id y cs hy (by rw [← e2]; exact hc)

theorem Apart.ro {l : List Nat} {m : List (Nat × LocI)} (ha : Apart m) : Apart (roL l m) := fun i j li lj ci cj hij hi hj hci hcj => by
  rw [lookL_roL] at hi hj
  obtain ⟨x, hx, rfl⟩ := Option.map_eq_some_iff.1 hi
  obtain ⟨y, hy, rfl⟩ := Option.map_eq_some_iff.1 hj
  have e1 : ∀ (q : LocI) (k : Nat), (if l.contains k = true then { q with ro := true } else q).b = q.b := fun q k => by split <;> rfl
  have e2 : ∀ (q : LocI) (k : Nat), (if l.contains k = true then { q with ro := true } else q).cs = q.cs := fun q k => by split <;> rfl
  rw [e1, e1]; rw [e2] at hci hcj
  exact ha i j x y ci cj hij hx hy hci hcj

theorem LocLe.roL (l : List Nat) (m : List (Nat × LocI)) : LocLe m (Go.VK.roL l m) := fun id x hx => ⟨_, by rw [lookL_roL, hx]; rfl, by dsimp only; split <;> rfl⟩

end

theorem JMPS_ok {h2 : Heap} {l : Nat} {done overD : Code → Obj} {K : Exit → Heap → Prop} : ∀ {es : List Exit}, JMPS h2 l done overD (jumpsW K es) → ∃ e c, exitOf c = some e ∧ h2[l]? = some (done c) ∧ K e (h2.setIfInBounds l (overD c))
  | [], h => h.elim
  | e :: r, h => by
    simp only [jumpsW] at h
    split at h
    · rename_i c hc
      rcases h with ⟨h1, h2⟩ | h
      · refine ⟨e, c, ?_, h1, h2⟩
        unfold codeOf at hc
        split at hc <;> cases hc <;> rfl
      · exact JMPS_ok h
    · exact JMPS_ok h

theorem loopSet {h : Heap} {l : Nat} (o : Obj) (hl : l < h.size) : (h.setIfInBounds l o)[l]? = some o := by simp [hl]

/-- A range over a function. -/
theorem rangeFunc_ok (hP : NoNG P) {n : Nat} {pl : Plan} {k : Nat} {g : Operand} {ps : Array Tmp} {asn body : Code} {top : Bool} {Z : St → List PanicEntry → Prop} {Q : Exit → St → Prop} {st : St} {W : World} {r : Option Nat} {a : Act} {w : World}
    (ih : ∀ (c : Code) (top : Bool) (Z : St → List PanicEntry → Prop) (Q : Exit → St → Prop) (st : St) (W : World) (r : Option Nat) (a : Act) (w : World),
      WP P n top Z pl k c Q st → Rel n W st a w → (top = true → r = none) → c.wpIn (FR r) 0 P (PostD n W Z (mods c) (hasRF c) a st Q) a w)
    (h : WP P n top Z pl (k + 1) (.rangeFunc g ps asn body) Q st) (hr : Rel n W st a w) (ht : top = true → r = none) :
    (Code.rangeFunc g ps asn body).wpIn (FR r) 0 P (PostD n W Z (mods (.rangeFunc g ps asn body)) (hasRF (.rangeFunc g ps asn body)) a st Q) a w := by
  simp only [WP] at h
  split at h
  case h_2 => exact h.elim
  rename_i gv j ls hgv hj hls
  split at h
  case h_2 => exact h.elim
  rename_i hck
  simp only [Bool.and_eq_true] at hck
  have hlen : ls.length = ps.toList.length := by have := Nat.eq_of_beq_eq_true hck.1; simpa using this
  have hps : ∀ p ∈ ps.toList, p < n := fun p hp => by have := List.all_eq_true.1 hck.2 p hp; simpa using this
  have hrn := ht rfl
  subst hrn
  have hgev := (hr.env.ent g).value hgv
  refine wpIn_rangeFunc fun fn _ => ?_
  let rec0 : Loop := { state := .ready, pending := none, fn, tmps := a.tmps, params := ps, assign := asn, body, defers := w.heap.size }
  let w1 : World := (w.alloc (.deferred (some []))).alloc (.loop rec0)
  have hw : w.heap = st.h := hr.hr.1
  have hw1 : w1.heap = (st.h.push (.deferred (some []))).push (.loop rec0) := by rw [← hw]; rfl
  let busy : Obj := .loop { rec0 with state := .busy }
  let done : Code → Obj := fun c => .loop { rec0 with state := .done, pending := some c }
  let over : Obj := .loop { rec0 with state := .exhausted }
  let overD : Code → Obj := fun c => .loop { rec0 with state := .exhausted, pending := some c }
  have hL := h (.loop rec0) busy done over overD
  obtain ⟨f, first, cap, hgf, hbody, hcall⟩ := hL (fun x h' R h1 h2 hb => .inr ⟨st.h.size + 1, rfl, fun wr hwr => by
      rw [unc_cur] at hb
      refine ⟨rec0, h1, by show (parts ls (vals _ x)).toArray.size = ps.size; simp [parts_length, hlen], ?_⟩
      refine roundIn_of_wpIn trivial ?_
      obtain ⟨t, ht1, ht2, ht3⟩ := foldl_argR (n := n) (a := { a with defers := [] }) ps.toList ls (vals _ x) st.env st a.tmps hlen hps hr.size hr.env
      have hfold : (rec0.params.zip (parts ls (vals _ x)).toArray).foldl (fun tmps (t, a) => tmps.setIfInBounds t a) rec0.tmps = t := by
        rw [ht1, ← Array.foldl_toList, Array.toList_zip]
      rw [hfold]
      have hkb : ∀ b ∈ knowL (dropL j.locs st.loc), h'[b]? = st.h[b]? := KEEP_mem h2
      have hr2 : Rel n wr { env := argR ps.toList ls (vals _ x) st.env, loc := roL j.locs (dropL j.locs st.loc), dm := [], h := h' } { tmps := t, defers := [] } wr :=
        ⟨⟨hwr, ((hr.hr.2.1.drop).keep hkb).ro, (hr.hr.2.2.drop).ro⟩, fun i => (ht3 i).mono ((LocLe.drop _ _).trans (LocLe.roL _ _)), ht2, rfl, .refl _⟩
      refine wpIn_mono (ih asn false _ _ _ wr (some (st.h.size + 1)) _ wr hb hr2 (fun e => by cases e)) fun e a1 wa hp => then_ok hp (fun s1 q1 q2 q3 q4 q5 => ?_) (fun hp => ?_)
      · obtain ⟨hl1, hb2⟩ := q5
        rw [← q1.hr.1] at hl1
        refine ⟨wa.putObj (st.h.size + 1) busy, run_beginRound hl1 rfl, ?_⟩
        have hnc : ∀ c t f, Obj.loop rec0 ≠ .cells c t f := fun c t f e => by cases e
        have hr3 : Rel n wr { s1 with h := s1.h.setIfInBounds (st.h.size + 1) busy } a1 (wa.putObj (st.h.size + 1) busy) :=
          ⟨⟨by show wa.heap.setIfInBounds _ _ = _; rw [q1.hr.1], by rw [q1.hr.1] at hl1; exact q1.hr.2.1.set hl1 hnc busy, q1.hr.2.2⟩, q1.env, q1.size, q1.defers, q1.sm⟩
        refine wpIn_mono (ih body false _ _ _ wr (some (st.h.size + 1)) _ _ hb2 hr3 (fun e => by cases e)) fun e a2 wb hp => ?_
        have fin : ∀ {R2 : Ending → Heap → Prop} {s2 : St} {jump : Option Code} {o : Obj}, Rel n wr s2 a2 wb → s2.h[st.h.size + 1]? = some busy → o = Obj.loop { rec0 with state := if jump.isNone then .ready else .done, pending := jump } →
            R2 (.returned (.bool jump.isNone)) (s2.h.setIfInBounds (st.h.size + 1) o) →
            ∃ v w', (Instr.endRound (st.h.size + 1) jump).run P wb = .ok v w' ∧ w'.os = wr.os ∧ w'.tape = wr.tape ∧ w'.output = wr.output ∧ R2 (.returned v) w'.heap := fun {R2 s2 jump o} p1 p2 p3 p4 => by
          have p2' : wb.heap[st.h.size + 1]? = some (.loop { rec0 with state := .busy }) := by rw [p1.hr.1]; exact p2
          refine ⟨_, _, run_endRound jump p2', p1.sm.1, p1.sm.2.1, p1.sm.2.2, ?_⟩
          show R2 _ (wb.heap.setIfInBounds _ _)
          rw [p1.hr.1]; rw [p3] at p4; exact p4
        cases e with
        | normal => obtain ⟨s2, p1, _, _, _, p5, p6⟩ := hp; exact fin (jump := none) p1 p5 rfl p6
        | ret => obtain ⟨s2, p1, _, _, _, p5, p6⟩ := hp; exact fin (jump := some .ret) p1 p5 rfl p6
        | exit i => obtain ⟨s2, p1, _, _, _, p5, p6⟩ := hp; exact fin (jump := some (.exit i)) p1 p5 rfl p6
        | goto l => obtain ⟨s2, p1, _, _, _, p5, p6⟩ := hp; exact fin (jump := some (.goto l)) p1 p5 rfl p6
        | panic c => obtain ⟨_, _, h⟩ := hp; exact h.elim
        | outgrown => exact hp.elim
      · cases e with
        | panic c => obtain ⟨_, _, h⟩ := hp; exact h.elim
        | outgrown => exact hp.elim
        | _ => obtain ⟨_, _, _, _, _, h⟩ := hp; exact h.elim⟩)
    (fun c cs t f => ⟨nofun, nofun, nofun, nofun, nofun⟩)
  refine ⟨w.heap.size + 1, [{ target := .collected w.heap.size, args := #[] }], w1, { target := .fn (.func f) cap, args := first ++ #[.func (.yield (w.heap.size + 1)) #[] #[]] }, w1, f, first ++ #[.func (.yield (w.heap.size + 1)) #[] #[]] ++ cap, w1, ?_, ?_, fun _ _ => trivial, ?_, (fun h => by cases h), ?_⟩
  · exact run_enterLoop_outer fn a.tmps ps asn body
  · have e1 : a.eval g = .func (.func f) first cap := by rw [hgev, hgf]
    have e2 : a.eval (.const (.func (.yield (w.heap.size + 1)) #[] #[])) = .func (.yield (w.heap.size + 1)) #[] #[] := rfl
    simp [resolve, rangeCall, e1, Deferred.ofValue, e2, Sem.run_pure]
  · exact callFunc_run hP hbody _ w1
  · have hc := calls_FR (r := none) (hcall w1 hw1)
    have e3 : (first.toList ++ [Value.func (.yield (st.h.size + 1)) #[] #[]] ++ cap.toList).toArray = first ++ #[.func (.yield (w.heap.size + 1)) #[] #[]] ++ cap := by
      rw [hw]; apply Array.ext'; simp
    rw [e3] at hc
    refine hc.mono fun e w3 ⟨c1, c2, c3, c4⟩ => ?_
    cases e with
    | panicked c => exact c4.elim
    | outgrown => exact c4.elim
    | returned v =>
      obtain ⟨hkeep, c4⟩ := c4
      have hkb : ∀ b ∈ knowL (dropL j.locs st.loc), w3.heap[b]? = st.h[b]? := KEEP_mem hkeep
      have hsm : Sm W w3 := hr.sm.trans ⟨c1, c2, c3⟩
      have rel : ∀ {rc : Loop} (o : Obj), w3.heap[st.h.size + 1]? = some (.loop rc) → Rel n W { env := st.env, loc := dropL j.locs st.loc, dm := .mk st.h.size :: st.dm, h := w3.heap.setIfInBounds (st.h.size + 1) o } { a with defers := [{ target := .collected w.heap.size, args := #[] }] ++ a.defers } (w3.putObj (w.heap.size + 1) o) := fun {rc} o hl =>
        ⟨⟨by rw [hw]; rfl, ((hr.hr.2.1.drop).keep hkb).set hl (fun c t f e => by cases e) o, hr.hr.2.2.drop⟩, fun i => (hr.env i).mono (.drop _ _), hr.size, by simp [hr.defers, dfD, hw], hsm⟩
      rcases c4 with ⟨hl, c5⟩ | c5
      · refine ⟨none, w3.putObj (w.heap.size + 1) over, ?_, ?_⟩
        · have := run_endLoop (P := P) (l := w.heap.size + 1) (r := rec0) (w := w3) (by rw [hw]; exact hl) (by simp [rec0])
          exact this
        · exact ⟨_, rel over hl, .refl _ _, .drop _ _, (fun e => by simp [hasRF] at e), c5⟩
      · obtain ⟨ex, c, hex, hl, c5⟩ := JMPS_ok c5
        refine ⟨some c, w3.putObj (w.heap.size + 1) (overD c), ?_, ?_⟩
        · have := run_endLoop (P := P) (l := w.heap.size + 1) (r := { rec0 with state := .done, pending := some c }) (w := w3) (by rw [hw]; exact hl) (by simp)
          exact this
        · refine exitOf_ok hex (PostD.of ?_ ?_ (rel (overD c) hl) (.refl _ _) (.drop _ _) (fun e => by simp [hasRF] at e) c5)
          · intro ch e; subst e; unfold exitOf at hex; split at hex <;> cases hex
          · intro e; subst e; unfold exitOf at hex; split at hex <;> cases hex

/-- **THE WALK IS SOUND.** -/
theorem WP_ok (hP : NoNG P) {n : Nat} {pl : Plan} : ∀ (k : Nat) (c : Code) (top : Bool) (Z : St → List PanicEntry → Prop) (Q : Exit → St → Prop) (st : St) (W : World) (r : Option Nat) (a : Act) (w : World),
    WP P n top Z pl k c Q st → Rel n W st a w → (top = true → r = none) → c.wpIn (FR r) 0 P (PostD n W Z (mods c) (hasRF c) a st Q) a w := by
  intro k
  induction k with
  | zero => intro c top Z Q st W r a w h; exact h.elim
  | succ k ih =>
    intro c top Z Q st W r a w h hr ht
    cases c with
    | skip => exact wpIn_skip ⟨st, hr, .refl _ _, .refl _, fun _ => rfl, h⟩
    | label l => exact wpIn_label ⟨st, hr, .refl _ _, .refl _, fun _ => rfl, h⟩
    | ret => exact wpIn_ret ⟨st, hr, .refl _ _, .refl _, fun _ => rfl, h⟩
    | exit id => exact wpIn_exit ⟨st, hr, .refl _ _, .refl _, fun _ => rfl, h⟩
    | goto l => exact wpIn_goto ⟨st, hr, .refl _ _, .refl _, fun _ => rfl, h⟩
    | refuse _ => exact h.elim
    | seq x y =>
      simp only [WP] at h
      have ml : ∀ i, i ∈ mods x → i ∈ mods (.seq x y) := fun i hi => by simp [mods, hi]
      have mr : ∀ i, i ∈ mods y → i ∈ mods (.seq x y) := fun i hi => by simp [mods, hi]
      have fl : hasRF (.seq x y) = false → hasRF x = false ∧ hasRF y = false := fun e => by simpa [hasRF] using e
      split at h
      · refine wpIn_seq (wpIn_mono (ih x top Z _ st W r a w h hr ht) fun e a1 w1 hp => then_ok hp (fun st1 h1 h2 h3 h4 h5 => ?_) (fun hp => ?_))
        · exact wpIn_mono (ih y top Z Q st1 W r a1 w1 h5 h1 ht) fun e a2 w2 hp => hp.mono mr (h2.mono ml) h3 (fun e => ⟨(fl e).2, h4 (fl e).1⟩) (fun _ _ h => h)
        · exact hp.mono ml (.refl _ _) (.refl _) (fun e => ⟨(fl e).1, rfl⟩) (fun _ _ h => h)
      · rename_i j _
        obtain ⟨hsub, hrf, h⟩ := okJ_ok h
        have h := join_run h
        refine wpIn_seq (wpIn_mono (ih x top Z _ (j.before st) W r a w h (before_rel hr) ht) fun e a1 w1 hp => then_ok hp (fun st1 h1 h2 h3 h4 h5 => ?_) (fun hp => ?_))
        · obtain ⟨xs, hk, hr2⟩ := go_after hsub hr h1 h2 h3 (h4 hrf) h5
          rw [unc_cur] at hk
          exact wpIn_mono (ih y top Z Q _ W r a1 w1 hk hr2 ht) fun e a2 w2 hp => hp.mono mr (h2.mono ml) (after_ro _ _) (fun e => ⟨(fl e).2, rfl⟩) (fun _ _ h => h)
        · exact hp.mono ml (.refl _ _) (before_ro (.refl _)) (fun e => ⟨(fl e).1, rfl⟩) (fun _ _ h => h)
    | cond o x y =>
      simp only [WP] at h
      have ml : ∀ i, i ∈ mods x → i ∈ mods (.cond o x y) := fun i hi => by simp [mods, hi]
      have mr : ∀ i, i ∈ mods y → i ∈ mods (.cond o x y) := fun i hi => by simp [mods, hi]
      have fl : hasRF (.cond o x y) = false → hasRF x = false ∧ hasRF y = false := fun e => by simpa [hasRF] using e
      have hv := hr.env.ent o
      have left : ∀ {h : WP P n top Z pl k x Q st}, x.wpIn (FR r) 0 P (PostD n W Z (mods (.cond o x y)) (hasRF (.cond o x y)) a st Q) a w := fun {h} =>
        wpIn_mono (ih x top Z Q st W r a w h hr ht) fun e a1 w1 hp => hp.mono ml (.refl _ _) (.refl _) (fun e => ⟨(fl e).1, rfl⟩) (fun _ _ h => h)
      have right : ∀ {h : WP P n top Z pl k y Q st}, y.wpIn (FR r) 0 P (PostD n W Z (mods (.cond o x y)) (hasRF (.cond o x y)) a st Q) a w := fun {h} =>
        wpIn_mono (ih y top Z Q st W r a w h hr ht) fun e a1 w1 hp => hp.mono mr (.refl _ _) (.refl _) (fun e => ⟨(fl e).2, rfl⟩) (fun _ _ h => h)
      split at h
      · rename_i he; rw [he] at hv; exact wpIn_cond_true hv (left (h := h))
      · rename_i he; rw [he] at hv; exact wpIn_cond_false hv (right (h := h))
      · rename_i t he; rw [he] at hv
        exact wpIn_cond_split (t := t) hv (fun e => left (h := h.1 e)) (fun e => right (h := h.2 e))
      · exact h.elim
    | block id x =>
      simp only [WP] at h
      split at h
      · refine wpIn_block (wpIn_mono (ih x top Z _ st W r a w h hr ht) fun e a1 w1 hp => inBlock_ok hp (fun st1 h1 h2 h3 h4 h5 => ⟨_, unro_rel h1, h2, unro_ro h3, h4, h5⟩) (fun e hp => hp))
      · rename_i j _
        obtain ⟨hsub, hrf, h⟩ := okJ_ok h
        have h := join_run h
        refine wpIn_block (wpIn_mono (ih x top Z _ (j.before st) W r a w h (before_rel hr) ht) fun e a1 w1 hp => inBlock_ok hp (fun st1 h1 h2 h3 h4 h5 => ?_) (fun e hp => ?_))
        · obtain ⟨xs, hk, hr2⟩ := go_after hsub hr h1 h2 h3 (h4 hrf) h5
          rw [unc_cur] at hk
          exact ⟨_, hr2, h2, after_ro _ _, fun _ => rfl, hk⟩
        · exact hp.mono (fun _ h => h) (.refl _ _) (before_ro (.refl _)) (fun e => ⟨e, rfl⟩) (fun _ _ h => h)
    | loop x =>
      simp only [WP] at h
      split at h
      · exact h.elim
      · rename_i j _
        obtain ⟨hsub, hrf, h⟩ := okJ_ok h
        obtain ⟨x0, hk, hr0⟩ := go_after hsub hr (before_rel hr) (.refl _ _) (.refl _) rfl (go_before h)
        unfold LOOP at hk
        rw [unc_cur] at hk
        obtain ⟨I, μ, hI0, hround⟩ := hk
        refine wpIn_loop_ghost (fun (v : TT j.shs) a' w' => I v w'.heap ∧ Tk (mods x) a a' ∧ Rel n W (j.after st (vals _ v) w'.heap) a' w') (fun v w => μ v w.heap) x0 ?_ ?_
        · have e0 : (j.before st).h = w.heap := hr.hr.1.symm
          rw [e0] at hI0 hr0
          exact ⟨hI0, .refl _ _, hr0⟩
        · intro v a1 w1 ⟨hI, ht1, hr1⟩
          have hb := hround v w1.heap hI
          rw [unc_cur] at hb
          refine wpIn_mono (ih x top Z _ _ W r a1 w1 hb (before_rel hr1) ht) fun e a2 w2 hp => then_ok hp (fun st2 h1 h2 h3 h4 h5 => ?_) (fun hp => ?_)
          · obtain ⟨v', hk', hr2⟩ := go_after hsub hr h1 (ht1.trans h2) (before_after_ro h3) (h4 hrf) h5
            rw [unc_cur] at hk'
            have e0 : st2.h = w2.heap := h1.hr.1.symm
            rw [e0] at hk' hr2
            exact ⟨v', ⟨hk'.1, ht1.trans h2, hr2⟩, hk'.2⟩
          · exact hp.mono (fun _ h => h) ht1 (fun id l hl hr hc => before_ro (.refl _) id l (after_ro _ _ id l hl hr hc) hr hc) (fun e => ⟨e, rfl⟩) (fun _ _ h => h)
    | scope x =>
      simp only [WP] at h
      refine wpIn_scope (wpIn_mono (ih x top Z _ st W r a w h hr ht) fun e a1 w1 hp => ?_)
      cases e with
      | goto l =>
        obtain ⟨st1, h1, h2, h3, h4, h5⟩ := hp
        simp only [inScopeW] at h5
        split at h5
        · rename_i rest hf
          obtain ⟨hm, hf2⟩ := findLabel_mods x l rest hf
          refine ⟨rest, hf, wpIn_mono (ih rest top Z _ st1 W r a1 w1 h5 h1 ht) fun e a2 w2 hp => ?_⟩
          cases e with
          | goto l' => obtain ⟨_, _, _, _, _, h⟩ := hp; exact h
          | normal => exact PostD.mono (rf' := hasRF (.scope x)) (m' := mods (.scope x)) hm h2 h3 (fun e => ⟨hf2 e, h4 e⟩) (fun _ _ h => h) (hp : PostD n W Z (mods rest) (hasRF rest) a1 st1 Q .normal a2 w2)
          | exit i => exact PostD.mono (rf' := hasRF (.scope x)) (m' := mods (.scope x)) hm h2 h3 (fun e => ⟨hf2 e, h4 e⟩) (fun _ _ h => h) (hp : PostD n W Z (mods rest) (hasRF rest) a1 st1 Q (.exit i) a2 w2)
          | ret => exact PostD.mono (rf' := hasRF (.scope x)) (m' := mods (.scope x)) hm h2 h3 (fun e => ⟨hf2 e, h4 e⟩) (fun _ _ h => h) (hp : PostD n W Z (mods rest) (hasRF rest) a1 st1 Q .ret a2 w2)
          | panic ch => exact hp
          | outgrown => exact hp
        · exact h5.elim
      | normal => exact hp
      | exit i => exact hp
      | ret => exact hp
      | panic ch => exact hp
      | outgrown => exact hp
    | region id ops draw =>
      simp only [WP] at h
      cases draw with
      | false =>
        simp only at h
        split at h
        · split at h
          · rename_i hc
            refine region_ok hP (fun e => ?_) h hr
            rcases e with e | e
            · cases top with
              | true => exact absurd (ht rfl) e
              | false => simpa using hc
            · simpa [hasRF] using e
          · exact h.elim
        · rename_i j _
          obtain ⟨hsub, hrf, h⟩ := okJ_ok h
          have h := join_run h
          have hB : noDeferB ops = true := by simpa using hrf
          have := region_ok (P := P) (n := n) (W := W) (Z := Z) (a := a) (w := w) (r := r) (st := j.before st) (id := id) (Q := fun e st => match e with | .normal => j.go _ st | _ => False) hP (rf := false) (fun _ => hB) h (before_rel hr)
          refine wpIn_mono this fun e a1 w1 hp => ?_
          cases e with
          | normal =>
            obtain ⟨st1, h1, h2, h3, h4, h5⟩ := hp
            obtain ⟨xs, hk, hr2⟩ := go_after hsub hr h1 h2 h3 (h4 rfl) h5
            rw [unc_cur] at hk
            exact ⟨_, hr2, h2, after_ro _ _, fun _ => rfl, hk⟩
          | panic c => exact hp
          | outgrown => exact hp
          | ret => obtain ⟨_, _, _, _, _, h⟩ := hp; exact h.elim
          | exit i => obtain ⟨_, _, _, _, _, h⟩ := hp; exact h.elim
          | goto i => obtain ⟨_, _, _, _, _, h⟩ := hp; exact h.elim
      | true =>
        simp only at h
        split at h
        · exact h.elim
        · rename_i q l _
          split at h
          · exact h.elim
          · rename_i hck
            have plain : ∀ (S : Heap → Prop) (Q : Exit → St → Prop), S st.h → (∀ h, S h → LocIn st.loc h) → drawW P n ops (quiets P ops) S st.loc (fun st => Q .normal st) l (Array.replicate ops.size false) st →
                (Code.region id ops true).wpIn (FR r) 0 P (PostD n W Z (mods (.region id ops true)) (hasRF (.region id ops true)) a st Q) a w := fun S Q h1 h2 h =>
              wpIn_mono (draw_ok (Z := Z) hP hck h1 h2 h hr) fun e a1 w1 hp => hp.mono (fun _ h => h) (.refl _ _) (.refl _) (fun _ => ⟨rfl, rfl⟩) (fun _ _ h => h)
            have joined : ∀ (S : Heap → Prop) (j : Jn) (K : Cur j.shs (Heap → Prop)), sub j (modsO ops.toList) = true → S st.h → (∀ h, S h → LocIn (j.before st).loc h) → drawW P n ops (quiets P ops) S (j.before st).loc (fun st => j.go K st) l (Array.replicate ops.size false) (j.before st) →
                (∀ (x : TT j.shs) h, unc _ K x h → Q .normal (j.after st (vals _ x) h)) →
                (Code.region id ops true).wpIn (FR r) 0 P (PostD n W Z (mods (.region id ops true)) (hasRF (.region id ops true)) a st Q) a w := fun S j K hsub h1 h2 h hK => by
              have := draw_ok (P := P) (n := n) (W := W) (Z := Z) (a := a) (w := w) (r := r) (st := j.before st) (id := id) (Q := fun e st => match e with | .normal => j.go K st | _ => False) hP hck h1 h2 h (before_rel hr)
              refine wpIn_mono this fun e a1 w1 hp => ?_
              cases e with
              | normal =>
                obtain ⟨st1, h1, h2, h3, h4, h5⟩ := hp
                obtain ⟨xs, hk, hr2⟩ := go_after hsub hr h1 h2 h3 (h4 rfl) h5
                exact ⟨_, hr2, h2, after_ro _ _, fun _ => rfl, hK _ _ hk⟩
              | panic c => exact hp
              | outgrown => exact hp
              | ret => obtain ⟨_, _, _, _, _, h⟩ := hp; exact h.elim
              | exit i => obtain ⟨_, _, _, _, _, h⟩ := hp; exact h.elim
              | goto i => obtain ⟨_, _, _, _, _, h⟩ := hp; exact h.elim
            split at h
            · split at h
              · exact plain (EQ st.h) Q rfl (fun h e => by rw [e]; exact hr.hr.2.1) h
              · rename_i j _
                obtain ⟨hsub, _, h⟩ := okJ_ok h
                exact joined (EQ st.h) j _ hsub rfl (fun h e => by rw [e]; exact (before_rel hr).hr.2.1) (join_run h) (fun x h hk => by rw [unc_cur] at hk; exact hk)
            · split at h
              · obtain ⟨S, h1, h2, h⟩ := h
                exact plain S Q h1 (fun h hS => hr.hr.2.1.keep (KEEP_mem (h2 h hS))) h
              · rename_i j _
                obtain ⟨hsub, _, h⟩ := okJ_ok h
                obtain ⟨S, h1, h2, h⟩ := join_run h
                exact joined S j _ hsub h1 (fun h hS => (hr.hr.2.1.keep (KEEP_mem (h2 h hS))).ro) h (fun x h hk => by rw [unc_cur] at hk; exact hk)
    | rangeFunc g ps asn body => exact rangeFunc_ok hP ih h hr ht

end Go.VK

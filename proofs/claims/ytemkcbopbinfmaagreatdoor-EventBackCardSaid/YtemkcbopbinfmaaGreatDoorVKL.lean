/- The walk is sound for a whole function. -/
import Derived.Test.YtemkcbopbinfmaaGreatDoorVKK
set_option linter.all false
namespace Go.VK
open Go

variable {P : Program}

theorem run_mapM {α β : Type} (f : α → Sem β) (g : α → β) (as : Array α) (w : World) (h : ∀ i (hi : i < as.size), (f as[i]).run P w = .ok (g as[i]) w) : (as.mapM f).run P w = .ok (as.map g) w := by
  have key : ∀ l : List α, (∀ x ∈ l, (f x).run P w = .ok (g x) w) → (l.mapM f).run P w = .ok (l.map g) w := by
    intro l
    induction l with
    | nil => intro _; rfl
    | cons x l ih =>
      intro h
      simp only [List.mapM_cons, Sem.run_bind, h x (by simp), Result.andThen, ih fun y hy => h y (by simp [hy]), Sem.run_pure, List.map_cons]
  rw [Array.mapM_eq_mapM_toList, map_eq_pure_bind, Sem.run_bind, key as.toList fun x hx => by
    obtain ⟨i, hi, rfl⟩ := List.getElem_of_mem hx
    exact h i (by simpa using hi)]
  simp only [Result.andThen, Sem.run_pure]
  congr 1
  apply Array.ext'
  simp

section
variable {n : Nat} {W : World} {a : Act} {w : World} {st : St}

theorem argE_look : ∀ (ls : List Lay) (i : Nat) (vs : List Value) (t : Nat), (∃ k v e, t = i + k ∧ (parts ls vs)[k]? = some v ∧ lookE (argE i ls vs) t = e ∧ ∀ loc, EntOk loc e v) ∨ lookE (argE i ls vs) t = .kill
  | [], i, vs, t => .inr rfl
  | .one s :: ls, i, vs, t => by
    simp only [argE, lookE]
    cases hb : Nat.beq i t with
    | true => exact .inl ⟨0, _, _, (Nat.eq_of_beq_eq_true hb).symm, rfl, rfl, fun loc => entV_ok loc s _⟩
    | false =>
      rcases argE_look ls (i + 1) vs.tail t with ⟨k, v, e, h1, h2, h3, h4⟩ | h
      · exact .inl ⟨k + 1, v, e, by omega, h2, h3, h4⟩
      · exact .inr h
  | .agg l :: ls, i, vs, t => by
    simp only [argE, lookE]
    cases hb : Nat.beq i t with
    | true => exact .inl ⟨0, _, _, (Nat.eq_of_beq_eq_true hb).symm, rfl, rfl, fun loc => rfl⟩
    | false =>
      rcases argE_look ls (i + 1) (vs.drop l.length) t with ⟨k, v, e, h1, h2, h3, h4⟩ | h
      · exact .inl ⟨k + 1, v, e, by omega, h2, h3, h4⟩
      · exact .inr h

theorem resV_ok {r : ResultVar} {K : Value → Prop} (hr : Rel n W st a w) (h : resV P r st K) :
    ∃ v, (match r with
      | .tmp t => pure (a.tmps.getD t undef)
      | .cell b t => do loadVar t (← asAddr (a.tmps.getD b undef)) : Sem Value).run P w = .ok v w ∧ K v := by
  unfold resV at h
  split at h
  · split at h
    · rename_i t _ v hv
      have := (hr.env t).value hv
      exact ⟨v, by show (pure (a.tmps.getD t undef) : Sem Value).run P w = _; rw [this]; rfl, h⟩
    · exact h.elim
  · rename_i b t
    let o : Oper := { dst := none, op := .load t (.tmp b), type := 0, pos := "", after := #[], guard := none }
    obtain ⟨v, e, hrun, hv, hK⟩ := opQ_ok (o := o) hr.env (S := EQ st.h) (fun h' e => by rw [e]; exact hr.hr.2.1) h
    split at hK
    · rename_i u hu
      have hvu := hv.value hu
      subst hvu
      refine ⟨v, ?_, hK⟩
      have := hrun w hr.hr.1
      simp only [o, execOp, Instr.loadAt] at this
      have e1 : a.eval (.tmp b) = a.tmps.getD b undef := rfl
      rw [e1] at this
      show (do loadVar t (← asAddr (a.tmps.getD b undef)) : Sem Value).run P w = _
      generalize hp : a.tmps.getD b undef = p at this ⊢
      have ok : ∃ q, p = .pointer (some q) := by
        unfold Instr.sureAddr at this
        split at this
        · exact ⟨_, rfl⟩
        · exfalso; revert this; simp [Sem.run_bind, Result.andThen, runtimePanic, stuck]
      obtain ⟨q, rfl⟩ := ok
      simp only [Instr.sureAddr, asAddr, Sem.run_bind, Sem.run_pure, Result.andThen] at this ⊢
      revert this
      generalize (loadVar t q).run P w = q2
      cases q2 with
      | halt r w' => intro h; simp at h
      | ok p w' => intro h; simpa using h
    · exact hK.elim

def resS (a : Act) : ResultVar → Sem Value
  | .tmp t => pure (a.tmps.getD t undef)
  | .cell b t => do loadVar t (← asAddr (a.tmps.getD b undef))

theorem retW_ok (hr : Rel n W st a w) : ∀ (rs : List ResultVar) (ls : List Lay) (K : List Value → Prop), retW P rs ls st K →
    ∃ ws vs, (rs.mapM (resS a)).run P w = .ok vs w ∧ parts ls ws = vs ∧ K ws
  | [], [], K, h => ⟨[], [], rfl, rfl, h⟩
  | [], _ :: _, _, h => h.elim
  | _ :: _, [], _, h => h.elim
  | r :: rs, l :: ls, K, h => by
    simp only [retW] at h
    obtain ⟨v, hv, h⟩ := resV_ok hr h
    have hv' : (resS a r).run P w = .ok v w := by cases r <;> exact hv
    unfold layW at h
    split at h
    · rename_i cs _
      split at h
      · rename_i hl
        obtain ⟨ws, vs, h1, h2, h3⟩ := retW_ok hr rs ls _ h
        have hl := Nat.eq_of_beq_eq_true hl
        refine ⟨cs.toList ++ ws, .agg cs :: vs, ?_, ?_, h3⟩
        · simp only [List.mapM_cons, Sem.run_bind, hv', Result.andThen, h1, Sem.run_pure]
        · simp only [parts, ← hl]; rw [List.take_left, List.drop_left, h2, Array.toArray_toList]
      · exact h.elim
    · exact h.elim
    · rename_i s _
      obtain ⟨ws, vs, h1, h2, h3⟩ := retW_ok hr rs ls _ h
      refine ⟨v :: ws, v :: vs, ?_, ?_, h3⟩
      · simp only [List.mapM_cons, Sem.run_bind, hv', Result.andThen, h1, Sem.run_pure]
      · simp [parts, h2]

theorem results_ok {fn : Func} {ls : List Lay} {K : List Value → Prop} (hr : Rel n W st a w) (h : retW P fn.results.toList ls st K) :
    ∃ ws, (results fn a.tmps).run P w = .ok (asm ls ws) w ∧ K ws := by
  obtain ⟨ws, vs, h1, h2, h3⟩ := retW_ok hr _ _ _ h
  refine ⟨ws, ?_, h3⟩
  have e : results fn a.tmps = (do let vs ← fn.results.mapM (resS a); pure (if h : vs.size = 1 then vs[0] else .tuple vs)) := by
    unfold results
    congr 1
  rw [e, Sem.run_bind, Array.mapM_eq_mapM_toList, map_eq_pure_bind, Sem.run_bind, h1]
  simp only [Result.andThen, Sem.run_pure, asm, h2]
  cases vs with
  | nil => rfl
  | cons v vs => cases vs <;> simp

/-- The deferred calls. -/
theorem LEAVE_ok (hP : NoNG P) {fn : Func} {Z : List PanicEntry → Heap → Prop} {K : Heap → Prop} {R : Ending → World → Prop}
    (hK : ∀ w, Sm W w → K w.heap → ∃ v, (results fn a.tmps).run P w = .ok v w ∧ R (.returned v) w) (hZ : ∀ c w, Sm W w → Z c w.heap → R (.panicked c) w) :
    ∀ (dm : List Df) (u : FrameMode) (w : World), u ≠ .run → Sm W w → LEAVE P Z K dm u w.heap → LeavesInM (FR none) 0 P fn a.tmps R (dm.map dfD) u w
  | [], u, w, hu, hs, h => by
    cases u with
    | run => exact absurd rfl hu
    | returning => exact hK w hs h
    | panicking c => exact hZ c w hs h
  | .mk d :: dm, u, w, hu, hs, h => by
    obtain ⟨h1, h2⟩ := h
    exact ⟨hu, .inl ⟨d, w.putObj d (.deferred none), rfl, run_takeDeferred h1, LEAVE_ok hP hK hZ dm u (w.putObj d (.deferred none)) hu hs h2⟩⟩
  | .fn f first cap :: dm, u, w, hu, hs, h => by
    simp only [LEAVE] at h
    split at h
    · rename_i hb
      refine ⟨hu, .inr ⟨(fun h => by cases h), .func f, cap.toArray, f, (first ++ cap).toArray, rfl, ?_, fun _ _ => trivial, ?_⟩⟩
      · have e : first.toArray ++ cap.toArray = (first ++ cap).toArray := by simp
        show (callFunc f (first.toArray ++ cap.toArray)).run P w = _
        rw [e]; exact callFunc_run hP hb _ w
      · have := h w rfl
        refine ⟨trivial, fun c cs hc hro => ?_⟩
        obtain ⟨e, u', w', fr, ⟨h1, h2, h3, h4⟩, h5⟩ := this.2 c cs hc hro
        refine ⟨e, u', w', fr, ?_, h5⟩
        cases e with
        | returned v =>
          obtain ⟨h6, h7⟩ := h4
          refine LEAVE_ok hP hK hZ dm (settle u') w' ?_ (hs.trans ⟨h1, h2, h3⟩) h7
          intro e; unfold settle at e
          split at e
          · split at e <;> cases e
          · exact h6 e
        | panicked c => exact h4.elim
        | outgrown => exact h4.elim
    · exact h.elim

theorem bareE_rel {dm : List Df} (hr : Rel n W st a w) : Rel n W { st with loc := bareE dm st.loc } a w := by
  cases dm with
  | nil => exact hr
  | cons d dm =>
    have := hr.bare (.refl w)
    rw [hr.hr.1] at this
    exact this

/-- **A FUNCTION's CONTRACT, FROM ITS WALK.** -/
theorem WPF_ok (hP : NoNG P) {f : FuncId} {fn : Func} (hf : P.funcs[f]? = some fn) {pl : Plan} {ps : List Lay} {Z : List PanicEntry → Heap → Prop} {h : Heap}
    {Q : Cur (flat (fn.resultTypes.toList.map (layOf P))) (Heap → Prop)} (x : TT (flat ps)) (hx : unc _ (WPF P Z fn pl ps h Q) x) :
    CALL P Z f (parts ps (vals _ x)) (fn.resultTypes.toList.map (layOf P)) h [] Q := by
  intro w hw
  subst hw
  unfold WPF at hx
  rw [unc_cur] at hx
  split at hx
  · rename_i c hc
    split at hx
    · rename_i hle
      have hle : ps.length ≤ fn.ntmps := by simpa using hle
      refine callsIn_wide.1 (callsIn_of_wp_marks (n := 0) hf hc trivial ?_)
      have hsz : (parts ps (vals _ x)).toArray.size = ps.length := by simp [parts_length]
      have hr : Rel fn.ntmps w { env := argE 0 ps (vals _ x), loc := [], dm := [], h := w.heap } { tmps := (parts ps (vals _ x)).toArray ++ Array.replicate (fn.ntmps - (parts ps (vals _ x)).toArray.size) undef, defers := [] } w := by
        refine ⟨⟨rfl, fun id l cs hl => by simp [lookL] at hl, fun i j li lj ci cj _ hi => by simp [lookL] at hi⟩, fun t => ?_, by simp [parts_length]; omega, rfl, .refl _⟩
        show EntOk [] (lookE (argE 0 ps (vals _ x)) t) _
        rcases argE_look ps 0 (vals _ x) t with ⟨k, v, e, h1, h2, h3, h4⟩ | h
        · rw [h3]
          have hk : k = t := by omega
          subst hk
          have hlt : k < (parts ps (vals _ x)).length := by
            rcases Nat.lt_or_ge k (parts ps (vals _ x)).length with h | h
            · exact h
            · rw [List.getElem?_eq_none h] at h2; cases h2
          have : ((parts ps (vals _ x)).toArray ++ Array.replicate (fn.ntmps - (parts ps (vals _ x)).toArray.size) undef).getD k undef = v := by
            rw [Array.getD_eq_getD_getElem?, Array.getElem?_append_left (by simpa using hlt)]
            simp [h2]
          rw [this]; exact h4 []
        · rw [h]; trivial
      refine wpIn_mono (WP_ok hP 5000 c true _ _ _ w none _ w hx hr (fun _ => rfl)) fun e a1 w1 hp => ?_
      have fin : ∀ {st1 : St} {u : FrameMode}, Rel fn.ntmps w st1 a1 w1 → u ≠ .run → endW P Z fn Q { st1 with loc := bareE st1.dm st1.loc } u →
          LeavesInM (FR none) 0 P fn a1.tmps (fun e w' => w'.os = w.os ∧ w'.tape = w.tape ∧ w'.output = w.output ∧ (match e with
            | .returned v => fun h' => ∃ y : TT (flat (fn.resultTypes.toList.map (layOf P))), v = asm (fn.resultTypes.toList.map (layOf P)) (vals _ y) ∧ KEEP w.heap h' [] ∧ unc _ Q y h'
            | .panicked c => fun h' => Z c h'
            | .outgrown => fun _ => False) w'.heap) a1.defers u w1 := fun {st1 u} hr1 hu hE => by
        rw [hr1.defers]
        unfold endW at hE
        obtain ⟨env, loc, dm, hh⟩ := st1
        have e0 : w1.heap = hh := hr1.hr.1
        subst e0
        have fin2 : ∀ w2 : World, Rel fn.ntmps w { env := env, loc := bareE dm loc, dm := dm, h := w2.heap } a1 w2 → (retW P fn.results.toList (fn.resultTypes.toList.map (layOf P)) { env := env, loc := bareE dm loc, dm := dm, h := w2.heap } fun vs => app False _ (cur _ fun y => unc _ Q y w2.heap) vs) →
            ∃ v, (results fn a1.tmps).run P w2 = .ok v w2 ∧ w2.os = w.os ∧ w2.tape = w.tape ∧ w2.output = w.output ∧ ∃ y : TT (flat (fn.resultTypes.toList.map (layOf P))), v = asm (fn.resultTypes.toList.map (layOf P)) (vals _ y) ∧ KEEP w.heap w2.heap [] ∧ unc _ Q y w2.heap := fun w2 hr2 hk => by
          obtain ⟨ws, h1, h2⟩ := results_ok hr2 hk
          obtain ⟨y, hy, hq⟩ := app_cur h2
          exact ⟨_, h1, hr2.sm.1, hr2.sm.2.1, hr2.sm.2.2, y, by rw [hy], trivial, hq⟩
        cases dm with
        | nil =>
          cases u with
          | run => exact absurd rfl hu
          | returning => exact fin2 w1 hr1 hE
          | panicking c => exact ⟨hr1.sm.1, hr1.sm.2.1, hr1.sm.2.2, hE⟩
        | cons d dm =>
          refine LEAVE_ok (W := w1) hP (fun w2 hs hk => fin2 w2 (hr1.bare hs) hk) (fun c w2 hs hz => ?_) (d :: dm) u w1 hu (.refl _) hE
          have := hr1.sm.trans hs
          exact ⟨this.1, this.2.1, this.2.2, hz⟩
      have fin' : ∀ {R : Ending → World → Prop} {ds u}, LeavesInM (FR none) 0 P fn a1.tmps (fun e w' => w'.os = w.os ∧ w'.tape = w.tape ∧ w'.output = w.output ∧ (match e with
            | .returned v => fun h' => ∃ y : TT (flat (fn.resultTypes.toList.map (layOf P))), v = asm (fn.resultTypes.toList.map (layOf P)) (vals _ y) ∧ KEEP w.heap h' [] ∧ unc _ Q y h'
            | .panicked c => fun h' => Z c h'
            | .outgrown => fun _ => False) w'.heap) ds u w1 → (fun e w' => w'.os = w.os ∧ w'.tape = w.tape ∧ w'.output = w.output ∧ (match e with
            | .returned v => fun h' => ∃ y : TT (flat (fn.resultTypes.toList.map (layOf P))), v = asm (fn.resultTypes.toList.map (layOf P)) (vals _ y) ∧ KEEP w.heap h' [] ∧ unc _ Q y h'
            | .panicked c => fun h' => Z c h'
            | .outgrown => fun _ => False) w'.heap) = R → LeavesInM (FR none) 0 P fn a1.tmps R ds u w1 := fun h e => by subst e; exact h
      have same : (fun (e : Ending) (w' : World) => w'.os = w.os ∧ w'.tape = w.tape ∧ w'.output = w.output ∧ (match e with
            | .returned v => fun h' => ∃ y : TT (flat (fn.resultTypes.toList.map (layOf P))), v = asm (fn.resultTypes.toList.map (layOf P)) (vals _ y) ∧ KEEP w.heap h' [] ∧ unc _ Q y h'
            | .panicked c => fun h' => Z c h'
            | .outgrown => fun _ => False) w'.heap) = (fun (e : Ending) (w' : World) => w'.os = w.os ∧ w'.tape = w.tape ∧ w'.output = w.output ∧ (fun (x : Ending) (x_1 : Heap) => match x, x_1 with
            | .returned v, h' => ∃ y : TT (flat (fn.resultTypes.toList.map (layOf P))), v = asm (fn.resultTypes.toList.map (layOf P)) (vals _ y) ∧ KEEP w.heap h' [] ∧ unc _ Q y h'
            | .panicked c, h' => Z c h'
            | .outgrown, _ => False) e w'.heap) := by funext e w'; cases e <;> rfl
      cases e with
      | normal => obtain ⟨st1, p1, _, _, _, p5⟩ := hp; exact fin' (fin p1 (by simp) p5) same
      | ret => obtain ⟨st1, p1, _, _, _, p5⟩ := hp; exact fin' (fin p1 (by simp) p5) same
      | panic c => obtain ⟨st1, p1, p5⟩ := hp; exact fin' (fin p1 (by simp) p5) same
      | exit i => obtain ⟨_, _, _, _, _, h⟩ := hp; exact h.elim
      | goto l => obtain ⟨_, _, _, _, _, h⟩ := hp; exact h.elim
      | outgrown => exact hp.elim
    · exact hx.elim
  · exact hx.elim

theorem CALL.mono {Z Z' : List PanicEntry → Heap → Prop} {f : FuncId} {args : List Value} {R : List Lay} {h : Heap} {bs : List Nat} {K K' : Cur (flat R) (Heap → Prop)} (hc : CALL P Z f args R h [] K)
    (hK : ∀ x h', unc _ K x h' → KEEP h h' bs ∧ unc _ K' x h') (hZ : ∀ c h', Z c h' → Z' c h') : CALL P Z' f args R h bs K' := fun w hw =>
  (hc w hw).mono fun e w' ⟨h1, h2, h3, h4⟩ => ⟨h1, h2, h3, by
    cases e with
    | returned v => obtain ⟨x, e, _, hx⟩ := h4; obtain ⟨h5, h6⟩ := hK x _ hx; exact ⟨x, e, h5, h6⟩
    | panicked c => exact hZ c _ h4
    | outgrown => exact h4⟩

end
end Go.VK

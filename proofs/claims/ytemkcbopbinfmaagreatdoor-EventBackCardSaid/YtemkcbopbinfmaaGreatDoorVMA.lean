/- Memory laws for contracts: what stays (Pre), and the rules by which a question is answered step by step. -/
import Derived.Test.YtemkcbopbinfmaaGreatDoorVKL
set_option linter.all false
namespace Go.VK
open Go

/-- Memory has grown, and the blocks below n are as they were. -/
structure Pre (n : Nat) (h h' : Heap) : Prop where
  sz : h.size ≤ h'.size
  same : ∀ b, b < n → h'[b]? = h[b]?

theorem Pre.refl (n : Nat) (h : Heap) : Pre n h h := ⟨Nat.le_refl _, fun _ _ => rfl⟩
theorem Pre.trans {n : Nat} {a b c : Heap} (x : Pre n a b) (y : Pre n b c) : Pre n a c := ⟨Nat.le_trans x.sz y.sz, fun i hi => (y.same i hi).trans (x.same i hi)⟩
theorem Pre.mono {n m : Nat} {a b : Heap} (x : Pre n a b) (h : m ≤ n) : Pre m a b := ⟨x.sz, fun i hi => x.same i (by omega)⟩
theorem Pre.then {n m : Nat} {a b c : Heap} (x : Pre n a b) (y : Pre m b c) (h : n ≤ m) : Pre n a c := x.trans (y.mono h)

theorem Pre.push {n : Nat} {a b : Heap} (x : Pre n a b) (hn : n ≤ b.size) (o : Obj) : Pre n a (b.push o) :=
  ⟨by have := x.sz; simp; omega, fun i hi => by rw [Array.getElem?_push, if_neg (by omega)]; exact x.same i hi⟩

theorem Pre.put {n : Nat} {a b : Heap} (x : Pre n a b) {p : Addr} (hn : n ≤ p.block) (v : Value) : Pre n a (put b p v) :=
  ⟨by rw [put_size]; exact x.sz, fun i hi => by rw [put_ne (by omega)]; exact x.same i hi⟩

theorem Pre.set {n : Nat} {a b : Heap} (x : Pre n a b) {l : Nat} (hn : n ≤ l) (o : Obj) : Pre n a (b.setIfInBounds l o) :=
  ⟨by simpa using x.sz, fun i hi => by rw [Array.getElem?_setIfInBounds_ne (by omega)]; exact x.same i hi⟩

theorem cell_block {h : Heap} {a : Addr} {v : Value} (hc : cell h a = some v) : a.block < h.size := by
  unfold cell at hc
  rcases Nat.lt_or_ge a.block h.size with h1 | h1
  · exact h1
  · rw [Array.getElem?_eq_none h1] at hc; cases hc

theorem Pre.cell {n : Nat} {h h' : Heap} (x : Pre n h h') {a : Addr} (ha : a.block < n) : cell h' a = cell h a := by
  unfold Go.VK.cell; rw [x.same _ ha]
theorem Pre.frz {n : Nat} {h h' : Heap} (x : Pre n h h') {a : Addr} (ha : a.block < n) : frz h' a = frz h a := by
  unfold Go.VK.frz; rw [x.same _ ha]

theorem KEEP_of {h h' : Heap} : ∀ {bs : List Nat}, (∀ b ∈ bs, h'[b]? = h[b]?) → KEEP h h' bs
  | [], _ => trivial
  | b :: bs, hk => ⟨hk b (by simp), KEEP_of fun c hc => hk c (by simp [hc])⟩
theorem Pre.keep {n : Nat} {h h' : Heap} (x : Pre n h h') {bs : List Nat} (hb : ∀ b ∈ bs, b < n) : KEEP h h' bs := KEEP_of fun b hm => x.same b (hb b hm)

theorem OFF_of {a : Addr} : ∀ {bs : List Nat}, (∀ b ∈ bs, a.block ≠ b) → OFF a bs
  | [], _ => trivial
  | b :: bs, hk => ⟨hk b (by simp), OFF_of fun c hc => hk c (by simp [hc])⟩

/-! ### Rules -/
theorem ALLOC_r {n : Nat} {h0 : Heap} {cs : List Value} {t : Nat} {h : Heap} {K : Nat → Heap → Prop} (g : Pre n h0 h) (hn : n ≤ h.size)
    (k : ∀ b h1, b = h.size → h1.size = h.size + 1 → Pre n h0 h1 → Pre h.size h h1 → h1[b]? = some (.cells cs.toArray t (0, 0)) → K b h1) : ALLOC cs t h K :=
  k _ _ rfl (by simp) (g.push hn _) ((Pre.refl _ _).push (Nat.le_refl _) _) (by simp)

theorem PUT_size (b i : Nat) (v : Value) (h : Heap) : (put h ⟨b, i, none⟩ v).size = h.size := put_size _ _ _

theorem PUTN_r {n : Nat} {h0 : Heap} {b : Nat} : ∀ {vs : List Value} {i : Nat} {h : Heap} {K : Heap → Prop}, Pre n h0 h → n ≤ b → (∀ v ∈ vs, oneC v = true) →
    (∀ h1, h1.size = h.size → Pre n h0 h1 → (∀ c, c ≠ b → h1[c]? = h[c]?) → K h1) → PUTN b vs i h K
  | [], i, h, K, g, hn, hv, k => k h rfl g fun _ _ => rfl
  | v :: vs, i, h, K, g, hn, hv, k => ⟨hv v (by simp), PUTN_r (g.put hn v) hn (fun u hu => hv u (by simp [hu])) fun h1 hs g1 hk => k h1 (by rw [hs, put_size]) g1 fun c hc => (hk c hc).trans (put_ne (by exact fun e => hc e.symm))⟩

theorem COND_r {b : Bool} {A B : Prop} (h1 : b = true → A) (h2 : b = false → B) : COND b A B := ⟨h1, h2⟩

/-- What a function does: for all that call it. -/
def SPEC (P : Program) (f : FuncId) (args : List Value) (R : List Lay) (h : Heap) (m : Nat) (Q : TT (flat R) → Heap → Prop) : Prop :=
  CALL P (fun _ _ => False) f args R h [] (cur _ fun x h' => Pre m h h' ∧ Q x h')

theorem CALL_r {P : Program} {Z : List PanicEntry → Heap → Prop} {f : FuncId} {args : List Value} {R : List Lay} {h : Heap} {bs : List Nat} {K : Cur (flat R) (Heap → Prop)} {m : Nat} {Q : TT (flat R) → Heap → Prop}
    (c : SPEC P f args R h m Q) (hb : ∀ b ∈ bs, b < m) (k : ∀ x h', h.size ≤ h'.size → Pre m h h' → Q x h' → unc _ K x h') : CALL P Z f args R h bs K :=
  CALL.mono c (fun x h' hx => by rw [unc_cur] at hx; exact ⟨hx.1.keep hb, k x h' hx.1.sz hx.1 hx.2⟩) (fun _ _ h => h.elim)

theorem SPEC.mono {P : Program} {f : FuncId} {args : List Value} {R : List Lay} {h : Heap} {m m' : Nat} {Q Q' : TT (flat R) → Heap → Prop} (c : SPEC P f args R h m Q) (hm : m' ≤ m) (k : ∀ x h', Pre m h h' → Q x h' → Q' x h') : SPEC P f args R h m' Q' :=
  CALL.mono c (fun x h' hx => by rw [unc_cur] at hx ⊢; exact ⟨trivial, hx.1.mono hm, k x h' hx.1 hx.2⟩) (fun _ _ h => h)

/-- A contract out of a question. -/
theorem SPEC_of {P : Program} (hP : NoNG P) {f : FuncId} {fn : Func} (hf : P.funcs[f]? = some fn) {pl : Plan} {ps : List Lay} {h : Heap} {m : Nat} {R : List Lay} {Q : TT (flat R) → Heap → Prop} (x : TT (flat ps))
    (hR : fn.resultTypes.toList.map (layOf P) = R) (q : Cur (flat R) (Heap → Prop) → Prop)
    (hq : ∀ Q : Cur (flat R) (Heap → Prop), q Q → unc _ (WPF P (fun _ _ => False) fn pl ps h (hR ▸ Q)) x)
    (hh : q (cur _ fun x h' => Pre m h h' ∧ Q x h')) : SPEC P f (parts ps (vals _ x)) R h m Q := by
  subst hR
  exact WPF_ok hP hf x (hq _ hh)

theorem IXA_r {size : Nat} {a : Option Addr} {len : Nat} {i : Int} {K : Addr → Prop} {a0 : Addr} {j : Nat} (ha : a = some a0) (hi : i = (j : Int)) (hl : j < len) (k : K (a0.add (j * size))) : IXA size a len i K :=
  ⟨a0, ha, by omega, by omega, by rw [hi]; simpa using k⟩

theorem DRAW_r {n : Nat} {h : Heap} {bs : List Nat} {K : (Heap → Prop) → Prop} (hb : ∀ b ∈ bs, b < n) (k : K (Pre n h)) : DRAW h bs K := ⟨Pre n h, .refl _ _, fun _ g => g.keep hb, k⟩

/-- A counting loop. -/
theorem LOOP_up {N : Nat} {body : Int → Heap → (Int → Heap → Prop) → Prop} {h0 : Heap} (I : Nat → Heap → Prop) (hN : N < 9223372036854775808) (h0I : I 0 h0)
    (step : ∀ i h, i ≤ N → I i h → ∀ nx : Int → Heap → Prop, (∀ h', i < N → I (i + 1) h' → nx (IntKind.wrap .i64 ((i : Int) + 1)) h') → body (i : Int) h nx) : LOOP [.nt .i64] body 0 h0 := by
  refine ⟨fun x h => ∃ i : Nat, x.1 = (i : Int) ∧ i ≤ N ∧ I i h, fun x _ => N - x.1.toNat, ⟨0, rfl, Nat.zero_le _, h0I⟩, ?_⟩
  rintro ⟨x, _⟩ h ⟨i, hx, hi, hI⟩
  simp only at hx
  subst hx
  refine step i h hi hI _ fun h' hlt hI' => ?_
  have e : IntKind.wrap .i64 ((i : Int) + 1) = ((i + 1 : Nat) : Int) := by rw [IntKind.wrap_i64]; omega
  rw [e]
  refine ⟨⟨i + 1, rfl, hlt, hI'⟩, ?_⟩
  simp only
  omega

/-- A counting loop with one more variable ahead of the counter. -/
theorem LOOP_acc {s : Sh} {N : Nat} {body : s.T → Int → Heap → (s.T → Int → Heap → Prop) → Prop} {x0 : s.T} {h0 : Heap} (I : Nat → s.T → Heap → Prop) (hN : N < 9223372036854775808) (h0I : I 0 x0 h0)
    (step : ∀ i x h, i ≤ N → I i x h → ∀ nx : s.T → Int → Heap → Prop, (∀ x' h', i < N → I (i + 1) x' h' → nx x' (IntKind.wrap .i64 ((i : Int) + 1)) h') → body x (i : Int) h nx) : LOOP [s, .nt .i64] body x0 0 h0 := by
  refine ⟨fun x h => ∃ i : Nat, x.2.1 = (i : Int) ∧ i ≤ N ∧ I i x.1 h, fun x _ => N - x.2.1.toNat, ⟨0, rfl, Nat.zero_le _, h0I⟩, ?_⟩
  rintro ⟨y, x, _⟩ h ⟨i, hx, hi, hI⟩
  simp only at hx
  subst hx
  refine step i y h hi hI _ fun x' h' hlt hI' => ?_
  have e : IntKind.wrap .i64 ((i : Int) + 1) = ((i + 1 : Nat) : Int) := by rw [IntKind.wrap_i64]; omega
  rw [e]
  refine ⟨⟨i + 1, rfl, hlt, hI'⟩, ?_⟩
  simp only
  omega

theorem SS_r {S : Heap → Prop} {h : Heap} {K : Prop} (hs : S h) (k : K) : SS S h K := ⟨hs, k⟩
theorem DIVI_r {y : Int} {K : Prop} (hy : y ≠ 0) (k : K) : DIVI y K := ⟨hy, k⟩

end Go.VK

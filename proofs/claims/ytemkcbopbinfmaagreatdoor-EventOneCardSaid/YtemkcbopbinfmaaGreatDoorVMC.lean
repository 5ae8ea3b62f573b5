/- What changes but in some blocks; a writer of bytes in memory. -/
import Derived.Test.YtemkcbopbinfmaaGreatDoorVMB
import Derived.Test.YtemkcbopbinfmaaGreatDoorVRV
set_option linter.all false
namespace Go.VK
open Go

/-- Memory has grown, and the blocks that were there, but those of O, are as they were. -/
structure Chg (O : Nat → Prop) (h h' : Heap) : Prop where
  sz : h.size ≤ h'.size
  same : ∀ b, b < h.size → ¬ O b → h'[b]? = h[b]?

/-- O, and all that is newer than h. -/
def Up (O : Nat → Prop) (n : Nat) : Nat → Prop := fun b => O b ∨ n ≤ b

theorem Chg.refl (O : Nat → Prop) (h : Heap) : Chg O h h := ⟨Nat.le_refl _, fun _ _ _ => rfl⟩
theorem Chg.then {O : Nat → Prop} {a b c : Heap} (x : Chg O a b) (y : Chg (Up O a.size) b c) : Chg O a c :=
  ⟨Nat.le_trans x.sz y.sz, fun i hi ho => (y.same i (Nat.lt_of_lt_of_le hi x.sz) (fun e => e.elim ho (fun h => by omega))).trans (x.same i hi ho)⟩
theorem Chg.mono {O O' : Nat → Prop} {a b : Heap} (x : Chg O a b) (h : ∀ i, i < a.size → O i → O' i) : Chg O' a b := ⟨x.sz, fun i hi ho => x.same i hi (fun e => ho (h i hi e))⟩
theorem Chg.pre {O : Nat → Prop} {a b : Heap} {n : Nat} (x : Chg O a b) (hn : ∀ i, i < n → ¬ O i) (hs : n ≤ a.size) : Pre n a b := ⟨x.sz, fun i hi => x.same i (by omega) (hn i hi)⟩
theorem Chg.of_pre {O : Nat → Prop} {a b : Heap} (x : Pre a.size a b) : Chg O a b := ⟨x.sz, fun i hi _ => x.same i hi⟩
theorem Chg.keep {O : Nat → Prop} {a b : Heap} (x : Chg O a b) {bs : List Nat} (hb : ∀ i ∈ bs, i < a.size ∧ ¬ O i) : KEEP a b bs := KEEP_of fun i hm => x.same i (hb i hm).1 (hb i hm).2
theorem Chg.push {O : Nat → Prop} {a b : Heap} (x : Chg O a b) (o : Obj) : Chg O a (b.push o) := ⟨by have := x.sz; simp; omega, fun i hi ho => by rw [push_old (by have := x.sz; omega)]; exact x.same i hi ho⟩

def SPECO (P : Program) (f : FuncId) (args : List Value) (R : List Lay) (h : Heap) (O : Nat → Prop) (Q : TT (flat R) → Heap → Prop) : Prop :=
  CALL P (fun _ _ => False) f args R h [] (cur _ fun x h' => Chg O h h' ∧ Q x h')

theorem CALLO_r {P : Program} {Z : List PanicEntry → Heap → Prop} {f : FuncId} {args : List Value} {R : List Lay} {h : Heap} {bs : List Nat} {K : Cur (flat R) (Heap → Prop)} {O : Nat → Prop} {Q : TT (flat R) → Heap → Prop}
    (c : SPECO P f args R h O Q) (hb : ∀ b ∈ bs, b < h.size ∧ ¬ O b) (k : ∀ x h', h.size ≤ h'.size → Chg O h h' → Q x h' → unc _ K x h') : CALL P Z f args R h bs K :=
  CALL.mono c (fun x h' hx => by rw [unc_cur] at hx; exact ⟨hx.1.keep hb, k x h' hx.1.sz hx.1 hx.2⟩) (fun _ _ h => h.elim)

theorem SPECO_of {P : Program} (hP : NoNG P) {f : FuncId} {fn : Func} (hf : P.funcs[f]? = some fn) {pl : Plan} {ps : List Lay} {h : Heap} {O : Nat → Prop} {R : List Lay} {Q : TT (flat R) → Heap → Prop} (x : TT (flat ps))
    (hR : fn.resultTypes.toList.map (layOf P) = R) (q : Cur (flat R) (Heap → Prop) → Prop)
    (hq : ∀ Q : Cur (flat R) (Heap → Prop), q Q → unc _ (WPF P (fun _ _ => False) fn pl ps h (hR ▸ Q)) x)
    (hh : q (cur _ fun x h' => Chg O h h' ∧ Q x h')) : SPECO P f (parts ps (vals _ x)) R h O Q := by
  subst hR
  exact WPF_ok hP hf x (hq _ hh)

/-- A writer: what it has written. All that is its own is of O. -/
structure RW (O : Nat → Prop) (h : Heap) (B : List UInt8) (p : Addr) : Prop where
  own : O p.block
  lt : p.block < h.size
  frz : frz h p = false
  buf : ∃ s : Sl, cell h p = some s.v ∧ BUF 0 h B s ∧ ∀ a, s.a = some a → a.block ≠ p.block ∧ O a.block

theorem RW.mono {O O' : Nat → Prop} {h : Heap} {B : List UInt8} {p : Addr} (r : RW O h B p) (ho : ∀ i, O i → O' i) : RW O' h B p :=
  ⟨ho _ r.own, r.lt, r.frz, let ⟨s, h1, h2, h3⟩ := r.buf; ⟨s, h1, h2, fun a ha => ⟨(h3 a ha).1, ho _ (h3 a ha).2⟩⟩⟩

/-- What is not the writer's own is of no matter to it. -/
theorem RW.keep {O X : Nat → Prop} {h h' : Heap} {B : List UInt8} {p : Addr} (r : RW O h B p) (g : Chg X h h') (hx : ∀ i, O i → ¬ X i) : RW O h' B p := by
  obtain ⟨s, h1, h2, h3⟩ := r.buf
  have e := g.same _ r.lt (hx _ r.own)
  refine ⟨r.own, Nat.lt_of_lt_of_le r.lt g.sz, ?_, s, ?_, h2.keep g.sz fun a ha => g.same _ (h2.blk a ha).2 (hx _ (h3 a ha).2), h3⟩
  · have := r.frz; unfold Go.VK.frz at this ⊢; rw [e]; exact this
  · have := h1; unfold cell at this ⊢; rw [e]; exact this

theorem RW.push {O : Nat → Prop} {h : Heap} {B : List UInt8} {p : Addr} (r : RW O h B p) (o : Obj) : RW O (h.push o) B p :=
  r.keep (X := fun _ => False) ((Chg.refl _ h).push o) fun _ _ h => h

/-- The slot of a writer is filled anew, with a buffer that has grown. -/
theorem RW.step {O : Nat → Prop} {h h1 : Heap} {B C : List UInt8} {p : Addr} {s s' : Sl} (r : RW O h B p) (hs : cell h p = some s.v) (hblk : ∀ a, s.a = some a → a.block ≠ p.block ∧ O a.block)
    (hsz : h.size ≤ h1.size) (hk : ∀ b, b < h.size → (∀ a, s.a = some a → b ≠ a.block) → h1[b]? = h[b]?) (hb : BUF 0 h1 (B ++ C) s') (hn : ∀ a, s'.a = some a → s.a = some a ∨ h.size ≤ a.block)
    {bs : List Nat} (hbs : ∀ b ∈ bs, p.block ≠ b) {K : Heap → Prop} (k : ∀ h2, Chg O h h2 → h1.size = h2.size → RW (Up O h.size) h2 (B ++ C) p → K h2) : STN (p.add 0) [s'.v] 0 h1 bs K := by
  have e0 : p.add 0 = p := rfl
  have ep : h1[p.block]? = h[p.block]? := hk _ r.lt fun a ha e => (hblk a ha).1 e.symm
  have ec : cell h1 p = some s.v := by have := hs; unfold cell at this ⊢; rw [ep]; exact this
  have ef : Go.VK.frz h1 p = false := by have := r.frz; unfold Go.VK.frz at this ⊢; rw [ep]; exact this
  rw [e0]
  have pn : ∀ a, s'.a = some a → a.block ≠ p.block := fun a ha => (hn a ha).elim (fun e => (hblk a e).1) (fun e => by have := r.lt; omega)
  refine STN_r (fun j hj => ?_) (fun v hv => ?_) hbs fun h2 q1 q2 q3 q4 q5 q6 => k h2 ⟨by omega, fun b hb ho => ?_⟩ q1.symm ⟨.inl r.own, by have := r.lt; omega, by rw [q3]; exact ef, s', ?_, hb.keep (by omega) fun a ha => q2 _ (pn a ha), fun a ha => ⟨pn a ha, ?_⟩⟩
  · have hj0 : j = 0 := by simp at hj; omega
    subst hj0
    exact ⟨by show (cell h1 p).isSome = true; rw [ec]; rfl, ef⟩
  · have := List.mem_singleton.1 hv; subst this; rfl
  · rw [q2 b (fun e => ho (e ▸ r.own))]
    exact hk b hb fun a ha e => ho (e ▸ (hblk a ha).2)
  · exact q4 0 (by simp)
  · exact (hn a ha).elim (fun e => .inl (hblk a e).2) (fun e => .inr e)

end Go.VK

/- Contracts: a value with memory of its own (value.Clone). -/
import Derived.Test.YtemkcbopbinfmaaGreatDoorVE9
set_option linter.all false
namespace Go.VK
open Go Go.Proofs
set_option maxRecDepth 100000
set_option linter.unusedSimpArgs false
set_option linter.unusedVariables false

/-! ### Elements of several cells -/
theorem flatten_get {k : Nat} : ∀ {rows : List (List Value)}, (∀ r ∈ rows, r.length = k) → ∀ (i j : Nat) (hi : i < rows.length), j < k → rows.flatten[i * k + j]? = rows[i][j]?
  | r :: rows, hr, 0, j, hi, hj => by
    have := hr r (by simp)
    simp only [List.flatten_cons, Nat.zero_mul, Nat.zero_add, List.getElem_cons_zero]
    rw [List.getElem?_append_left (by omega)]
  | r :: rows, hr, i + 1, j, hi, hj => by
    have h0 := hr r (by simp)
    have ih := flatten_get (rows := rows) (fun x hx => hr x (by simp [hx])) i j (by simpa using hi) hj
    simp only [List.flatten_cons, List.getElem_cons_succ]
    have e : (i + 1) * k + j = k + (i * k + j) := by rw [Nat.succ_mul]; omega
    rw [List.getElem?_append_right (by omega), e, h0, Nat.add_sub_cancel_left]; exact ih

theorem flatten_len {k : Nat} : ∀ {rows : List (List Value)}, (∀ r ∈ rows, r.length = k) → rows.flatten.length = rows.length * k
  | [], _ => by simp
  | r :: rows, hr => by
    rw [List.flatten_cons, List.length_append, flatten_len fun x hx => hr x (by simp [hx]), hr r (by simp), List.length_cons, Nat.succ_mul]; omega

theorem add_inj_off {a : Addr} {i j : Nat} (h : i ≠ j) : (a.add i).off ≠ (a.add j).off := by rw [add_off, add_off]; omega

theorem rows_cell {h : Heap} {a : Addr} {k : Nat} (hk : 0 < k) {rows : List (List Value)} (hr : ∀ r ∈ rows, r.length = k) (hc : ∀ i (hi : i < rows.length), CELLS h (a.add (i * k)) rows[i]) :
    ∀ m, m < rows.length * k → cell h (a.add m) = rows.flatten[m]? := by
  intro m hm
  have hi : m / k < rows.length := (Nat.div_lt_iff_lt_mul hk).2 hm
  have hj : m % k < k := Nat.mod_lt _ hk
  have := hc (m / k) hi (m % k) (by rw [hr _ (List.getElem_mem hi)]; exact hj)
  rw [add_add] at this
  have e : m / k * k + m % k = m := by rw [Nat.mul_comm]; exact Nat.div_add_mod m k
  rw [e] at this
  rw [this, ← flatten_get hr (m / k) (m % k) hi hj, e]

/-- A slice of elements of k cells, made anew out of another one. -/
theorem APPEND_rows {h : Heap} {k bytes t b : Nat} {zero : List Value} {rows : List (List Value)} {xa : Option Addr} {N : Nat} {K : Sl → Heap → Prop} (hk : 0 < k) (hb : 0 < bytes) (hN : N = rows.length) (hr : ∀ r ∈ rows, r.length = k)
    (hx : ∀ a, xa = some a → ∀ i (hi : i < rows.length), CELLS h (a.add (i * k)) rows[i]) (hxn : xa = none → rows = []) (hsz : N * bytes ≤ 2 ^ 48)
    (k0 : rows = [] → K ⟨some ⟨b, 0, none⟩, 0, 0⟩ h)
    (k1 : rows ≠ [] → ∀ c, N ≤ c → c < 2 ^ 63 → K ⟨some ⟨h.size, 0, none⟩, N, c⟩ (h.push (.cells (rows.flatten ++ zeroes zero (c - N)).toArray t (0, 0)))) :
    APPEND k bytes t zero (some ⟨b, 0, none⟩) 0 0 xa N h [] K := by
  have hfl := flatten_len hr
  refine ⟨rows.flatten, fun _ => by rw [hfl, hN], ?_, ?_⟩
  · cases xa with
    | none => rw [hxn rfl]; rfl
    | some a =>
      intro i hi
      rw [hfl] at hi
      exact rows_cell hk hr (hx a rfl) i hi
  · by_cases h0 : rows = []
    · subst h0
      simp only [List.length_nil] at hN
      subst hN
      refine .inl ⟨Nat.le_refl _, ?_⟩
      show K _ h
      exact k0 rfl
    · have hN0 : 0 < N := by rw [hN]; exact List.length_pos_iff.2 h0
      refine .inr ⟨by omega, hb, ?_, [], fun _ => by simp, fun i hi => by simp at hi, fun c hc hc2 => ?_⟩
      · have e : Builtin.nextslicecap (0 + N) 0 = N := by
          unfold Builtin.nextslicecap; rw [Nat.zero_add, if_pos (by omega)]
        rw [e]; exact hsz
      · rw [Nat.zero_add] at hc ⊢
        rw [List.nil_append]
        exact k1 h0 c hc hc2

/-! ### Values that are owned -/
/-- A slice of elements of k cells, its own, without room behind it; its block stands between lo and hi. -/
structure OS (lo hi : Nat) (h : Heap) (k N : Nat) (s : Sl) : Prop where
  len : s.len = N
  cap : s.cap = N
  small : N < 2 ^ 63
  some_ : N ≠ 0 → s.a.isSome = true
  blk : ∀ a, s.a = some a → lo ≤ a.block ∧ a.block < hi
  room : ∀ a, s.a = some a → ∀ i, i < N * k → (cell h (a.add i)).isSome = true ∧ frz h (a.add i) = false

theorem OS.keep {lo hi k N : Nat} {h h' : Heap} {s : Sl} (r : OS lo hi h k N s) (g : ∀ b, lo ≤ b → b < hi → h'[b]? = h[b]?) : OS lo hi h' k N s :=
  ⟨r.len, r.cap, r.small, r.some_, r.blk, fun a ha i hi => by
    have hb := r.blk a ha
    have e := g a.block hb.1 hb.2
    have := r.room a ha i hi
    unfold cell frz at this ⊢
    rw [add_block] at this ⊢
    rw [e]; exact this⟩

theorem OS.sh {lo hi k N : Nat} {h : Heap} {s : Sl} (r : OS lo hi h k N s) : SH hi N s :=
  ⟨r.len, by rw [r.len, r.cap]; exact Nat.le_refl _, by rw [r.cap]; exact r.small, r.some_, fun a ha _ => (r.blk a ha).2⟩

mutual
def OV (lo hi : Nat) (h : Heap) : V → Cv → Prop
  | .mk k b i t bs l f, c => (c.k = (k : Int) ∧ k < 256 ∧ c.b = b ∧ c.i = i ∧ -9223372036854775808 ≤ i ∧ i < 9223372036854775808) ∧ TX t c.t ∧
      ∃ m1 m2 m3 m4, (lo ≤ m1 ∧ m1 ≤ m2 ∧ m2 ≤ m3 ∧ m3 ≤ m4 ∧ m4 ≤ hi) ∧ (OS lo m1 h 1 bs.length c.bs ∧ RB hi h bs c.bs) ∧ (OS m1 m2 h 7 l.length c.ls ∧ OL m3 m4 h l c.ls.a 0) ∧ (OS m2 m3 h 8 f.length c.fs ∧ OF m4 hi h f c.fs.a 0)
def OL (lo hi : Nat) (h : Heap) : List V → Option Addr → Nat → Prop
  | [], _, _ => lo ≤ hi
  | v :: r, a, i => ∃ m, lo ≤ m ∧ m ≤ hi ∧ (∃ a0 c, a = some a0 ∧ CELLS h (a0.add (i * 7)) (Cv.cells c) ∧ OV lo m h v c) ∧ OL m hi h r a (i + 1)
def OF (lo hi : Nat) (h : Heap) : List (List UInt8 × V) → Option Addr → Nat → Prop
  | [], _, _ => lo ≤ hi
  | (nm, v) :: r, a, i => ∃ m, lo ≤ m ∧ m ≤ hi ∧ (∃ a0 s c, a = some a0 ∧ cell h (a0.add (i * 8)) = some (.string s) ∧ TX nm s ∧ CELLS h ((a0.add (i * 8)).add 1) (Cv.cells c) ∧ OV lo m h v c) ∧ OF m hi h r a (i + 1)
end

theorem RB.same {n : Nat} {h h' : Heap} {l : List UInt8} {s : Sl} (r : RB n h l s) (g : ∀ a, s.a = some a → 0 < s.cap → h'[a.block]? = h[a.block]?) : RB n h' l s :=
  ⟨r.len, r.cap, r.small, fun hl => let ⟨a, h1, h2, h3⟩ := r.at_ hl; ⟨a, h1, h2, fun i hi => by
    have := h3 i hi
    unfold cell at this ⊢
    rw [add_block] at this ⊢
    rw [g a h1 (by have := r.len; have := r.cap; omega)]; exact this⟩, r.blk⟩

mutual
theorem OV.rv {lo hi : Nat} {h : Heap} : ∀ (v : V) (c : Cv), OV lo hi h v c → RV hi h v c
  | .mk k b i t bs l f, c, ⟨h1, h2, m1, m2, m3, m4, ⟨_, _, _, _, _⟩, ⟨_, h3⟩, ⟨h4, h5⟩, h6, h7⟩ =>
    ⟨h1, h2, h3, ⟨h4.sh.mono (by omega), OL.rl (by omega) (fun a ha => by have := (h4.blk a ha).2; omega) l () _ h5⟩, h6.sh.mono (by omega), OF.rf (Nat.le_refl _) (fun a ha => by have := (h6.blk a ha).2; omega) f () _ h7⟩
theorem OL.rl {lo hi n : Nat} {h : Heap} (hn : hi ≤ n) : {a : Option Addr} → (hb : ∀ a0, a = some a0 → a0.block < n) → ∀ (l : List V) (_ : Unit) (i : Nat), OL lo hi h l a i → RL n h l a i
  | _, _, [], _, _, _ => trivial
  | a, hb, v :: r, _, i, ⟨m, _, _, ⟨a0, c, h1, h2, h3⟩, h4⟩ => ⟨⟨a0, c, h1, hb a0 h1, h2, RV.mono (by omega) _ _ (OV.rv v c h3)⟩, OL.rl hn hb r () (i + 1) h4⟩
theorem OF.rf {lo hi n : Nat} {h : Heap} (hn : hi ≤ n) : {a : Option Addr} → (hb : ∀ a0, a = some a0 → a0.block < n) → ∀ (l : List (List UInt8 × V)) (_ : Unit) (i : Nat), OF lo hi h l a i → RF n h l a i
  | _, _, [], _, _, _ => trivial
  | a, hb, (nm, v) :: r, _, i, ⟨m, _, _, ⟨a0, s, c, h1, h2, h3, h4, h5⟩, h6⟩ => ⟨⟨a0, s, c, h1, hb a0 h1, h2, h3, h4, RV.mono (by omega) _ _ (OV.rv v c h5)⟩, OF.rf hn hb r () (i + 1) h6⟩
end

theorem CELLS.keep {h h' : Heap} {a : Addr} {cs : List Value} (c : CELLS h a cs) (g : ∀ i, i < cs.length → cell h' (a.add i) = cell h (a.add i)) : CELLS h' a cs := fun i hi => by rw [g i hi]; exact c i hi

theorem cell_same {h h' : Heap} {a : Addr} (e : h'[a.block]? = h[a.block]?) : cell h' a = cell h a := by unfold cell; rw [e]

mutual
theorem OV.keep {lo hi : Nat} {h h' : Heap} (g : ∀ b, lo ≤ b → b < hi → h'[b]? = h[b]?) : ∀ (v : V) (c : Cv), OV lo hi h v c → OV lo hi h' v c
  | .mk k b i t bs l f, c, ⟨h1, h2, m1, m2, m3, m4, ⟨q1, q2, q3, q4, q5⟩, ⟨h0, h3⟩, ⟨h4, h5⟩, h6, h7⟩ =>
    ⟨h1, h2, m1, m2, m3, m4, ⟨q1, q2, q3, q4, q5⟩, ⟨h0.keep fun b x y => g b x (by omega), h3.same fun a ha _ => by have := h0.blk a ha; exact g _ this.1 (by omega)⟩,
      ⟨h4.keep fun b x y => g b (by omega) (by omega), OL.keep (fun b x y => g b (by omega) (by omega)) (fun a0 ha q => cell_same (by rw [add_block]; have := h4.blk a0 ha; exact g _ (by omega) (by omega))) l () _ h5⟩,
      h6.keep fun b x y => g b (by omega) (by omega), OF.keep (fun b x y => g b (by omega) y) (fun a0 ha q => cell_same (by rw [add_block]; have := h6.blk a0 ha; exact g _ (by omega) (by omega))) f () _ h7⟩
theorem OL.keep {lo hi : Nat} {h h' : Heap} (g : ∀ b, lo ≤ b → b < hi → h'[b]? = h[b]?) : {a : Option Addr} → (ga : ∀ a0, a = some a0 → ∀ q, cell h' (a0.add q) = cell h (a0.add q)) → ∀ (l : List V) (_ : Unit) (i : Nat), OL lo hi h l a i → OL lo hi h' l a i
  | _, _, [], _, _, x => x
  | a, ga, v :: r, _, i, ⟨m, q1, q2, ⟨a0, c, h1, h2, h3⟩, h4⟩ => ⟨m, q1, q2, ⟨a0, c, h1, h2.keep fun j _ => by rw [add_add]; exact ga a0 h1 _, OV.keep (fun b x y => g b x (by omega)) v c h3⟩, OL.keep (fun b x y => g b (by omega) y) ga r () (i + 1) h4⟩
theorem OF.keep {lo hi : Nat} {h h' : Heap} (g : ∀ b, lo ≤ b → b < hi → h'[b]? = h[b]?) : {a : Option Addr} → (ga : ∀ a0, a = some a0 → ∀ q, cell h' (a0.add q) = cell h (a0.add q)) → ∀ (l : List (List UInt8 × V)) (_ : Unit) (i : Nat), OF lo hi h l a i → OF lo hi h' l a i
  | _, _, [], _, _, x => x
  | a, ga, (nm, v) :: r, _, i, ⟨m, q1, q2, ⟨a0, s, c, h1, h2, h3, h4, h5⟩, h6⟩ => ⟨m, q1, q2, ⟨a0, s, c, h1, by rw [ga a0 h1]; exact h2, h3, h4.keep fun j _ => by rw [add_add, add_add]; exact ga a0 h1 _, OV.keep (fun b x y => g b x (by omega)) v c h5⟩, OF.keep (fun b x y => g b (by omega) y) ga r () (i + 1) h6⟩
end

/-- The first cells are kept, those behind are of no matter. -/
theorem OL.keepTo {h h' : Heap} {a0 : Addr} : ∀ (l : List V) (lo hi i : Nat), (∀ b, lo ≤ b → b < hi → h'[b]? = h[b]?) → (∀ q, q < (i + l.length) * 7 → cell h' (a0.add q) = cell h (a0.add q)) → OL lo hi h l (some a0) i → OL lo hi h' l (some a0) i
  | [], _, _, _, _, _, x => x
  | v :: r, lo, hi, i, g, ga, ⟨m, q1, q2, ⟨a1, c, h1, h2, h3⟩, h4⟩ => by
    cases h1
    refine ⟨m, q1, q2, ⟨a0, c, rfl, h2.keep fun j hj => ?_, OV.keep (fun b x y => g b x (by omega)) v c h3⟩, OL.keepTo r m hi (i + 1) (fun b x y => g b (by omega) y) (fun q hq => ga q (by simp; omega)) h4⟩
    rw [add_add]
    refine ga _ ?_
    have : j < 7 := hj
    simp only [List.length_cons]; omega
theorem OF.keepTo {h h' : Heap} {a0 : Addr} : ∀ (l : List (List UInt8 × V)) (lo hi i : Nat), (∀ b, lo ≤ b → b < hi → h'[b]? = h[b]?) → (∀ q, q < (i + l.length) * 8 → cell h' (a0.add q) = cell h (a0.add q)) → OF lo hi h l (some a0) i → OF lo hi h' l (some a0) i
  | [], _, _, _, _, _, x => x
  | (nm, v) :: r, lo, hi, i, g, ga, ⟨m, q1, q2, ⟨a1, s, c, h1, h2, h3, h4, h5⟩, h6⟩ => by
    cases h1
    refine ⟨m, q1, q2, ⟨a0, s, c, rfl, ?_, h3, h4.keep fun j hj => ?_, OV.keep (fun b x y => g b x (by omega)) v c h5⟩, OF.keepTo r m hi (i + 1) (fun b x y => g b (by omega) y) (fun q hq => ga q (by simp; omega)) h6⟩
    · rw [ga _ (by simp only [List.length_cons]; omega)]; exact h2
    · rw [add_add, add_add]
      refine ga _ ?_
      have : j < 7 := hj
      simp only [List.length_cons]; omega

theorem OL.snoc {h : Heap} {a0 : Addr} {v : V} {c : Cv} {hi hi' : Nat} (hh : hi ≤ hi') : ∀ (l : List V) (lo i : Nat), OL lo hi h l (some a0) i → CELLS h (a0.add ((i + l.length) * 7)) c.cells → OV hi hi' h v c → OL lo hi' h (l ++ [v]) (some a0) i
  | [], lo, i, x, h1, h2 => ⟨hi', Nat.le_trans x hh, Nat.le_refl _, ⟨a0, c, rfl, by simpa using h1, by
      obtain ⟨k, b, i, t, bs, l, f⟩ := v
      obtain ⟨y1, y2, m1, m2, m3, m4, y3, ⟨y4, y5⟩, y6⟩ := h2
      have x : lo ≤ hi := x
      exact ⟨y1, y2, m1, m2, m3, m4, ⟨by omega, by omega⟩, ⟨⟨y4.len, y4.cap, y4.small, y4.some_, fun a ha => ⟨by have := (y4.blk a ha).1; omega, (y4.blk a ha).2⟩, y4.room⟩, y5⟩, y6⟩⟩, Nat.le_refl _⟩
  | w :: r, lo, i, ⟨m, q1, q2, h1, h4⟩, h5, h6 => by
    refine ⟨m, q1, by omega, h1, OL.snoc hh r m (i + 1) h4 ?_ h6⟩
    have e : i + 1 + r.length = i + (w :: r).length := by simp; omega
    rw [e]; exact h5
theorem OF.snoc {h : Heap} {a0 : Addr} {nm : List UInt8} {s : ByteArray} {v : V} {c : Cv} {hi hi' : Nat} (hh : hi ≤ hi') : ∀ (l : List (List UInt8 × V)) (lo i : Nat), OF lo hi h l (some a0) i → cell h (a0.add ((i + l.length) * 8)) = some (.string s) → TX nm s →
    CELLS h ((a0.add ((i + l.length) * 8)).add 1) c.cells → OV hi hi' h v c → OF lo hi' h (l ++ [(nm, v)]) (some a0) i
  | [], lo, i, x, h1, h0, h3, h2 => ⟨hi', Nat.le_trans x hh, Nat.le_refl _, ⟨a0, s, c, rfl, by simpa using h1, h0, by simpa using h3, by
      obtain ⟨k, b, i, t, bs, l, f⟩ := v
      obtain ⟨y1, y2, m1, m2, m3, m4, y3, ⟨y4, y5⟩, y6⟩ := h2
      have x : lo ≤ hi := x
      exact ⟨y1, y2, m1, m2, m3, m4, ⟨by omega, by omega⟩, ⟨⟨y4.len, y4.cap, y4.small, y4.some_, fun a ha => ⟨by have := (y4.blk a ha).1; omega, (y4.blk a ha).2⟩, y4.room⟩, y5⟩, y6⟩⟩, Nat.le_refl _⟩
  | w :: r, lo, i, ⟨m, q1, q2, h1, h4⟩, h5, h0, h3, h6 => by
    have e : i + 1 + r.length = i + (w :: r).length := by simp; omega
    exact ⟨m, q1, by omega, h1, OF.snoc hh r m (i + 1) h4 (by rw [e]; exact h5) h0 (by rw [e]; exact h3) h6⟩

end Go.VK

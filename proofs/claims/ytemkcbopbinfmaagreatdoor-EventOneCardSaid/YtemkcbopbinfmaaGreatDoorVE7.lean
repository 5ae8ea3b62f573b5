/- Contracts: ranges over a value and all below it. -/
import Derived.Test.YtemkcbopbinfmaaGreatDoorVE6
set_option linter.all false
namespace Go.VK
open Go Go.Proofs
set_option maxRecDepth 100000
set_option linter.unusedVariables false

mutual
/-- A value and all below it. -/
def pre : V → List V
  | .mk k b i t bs l f => .mk k b i t bs l f :: (preL l ++ preF f)
def preL : List V → List V
  | [] => []
  | v :: r => pre v ++ preL r
def preF : List (List UInt8 × V) → List V
  | [] => []
  | (_, v) :: r => pre v ++ preF r
end

theorem preL_take : ∀ (l : List V) (i : Nat) (hi : i < l.length), preL (l.take (i + 1)) = preL (l.take i) ++ pre l[i]
  | v :: r, 0, _ => by simp [preL]
  | v :: r, i + 1, hi => by
    have := preL_take r i (by simpa using hi)
    simp only [List.take_succ_cons, preL, List.getElem_cons_succ, this, List.append_assoc]
theorem preF_take : ∀ (l : List (List UInt8 × V)) (i : Nat) (hi : i < l.length), preF (l.take (i + 1)) = preF (l.take i) ++ pre l[i].2
  | (n, v) :: r, 0, _ => by simp [preF]
  | (n, v) :: r, i + 1, hi => by
    have := preF_take r i (by simpa using hi)
    simp only [List.take_succ_cons, preF, List.getElem_cons_succ, this, List.append_assoc]
theorem preL_mem {l : List V} {x y : V} (hx : x ∈ l) (hy : y ∈ pre x) : y ∈ preL l := by
  induction l with
  | nil => cases hx
  | cons z r ih =>
    rcases List.mem_cons.1 hx with rfl | h
    · simp [preL, hy]
    · simp [preL, ih h]
theorem preF_mem {l : List (List UInt8 × V)} {x : List UInt8 × V} {y : V} (hx : x ∈ l) (hy : y ∈ pre x.2) : y ∈ preF l := by
  induction l with
  | nil => cases hx
  | cons z r ih =>
    obtain ⟨n, v⟩ := z
    rcases List.mem_cons.1 hx with rfl | h
    · simp [preF, hy]
    · simp [preF, ih h]

theorem preL_split (l : List V) (i : Nat) : preL l = preL (l.take i) ++ preL (l.drop i) := by
  induction l generalizing i with
  | nil => simp [preL]
  | cons v r ih =>
    cases i with
    | zero => simp [preL]
    | succ i => simp only [List.take_succ_cons, List.drop_succ_cons, preL, List.append_assoc]; rw [← ih i]
theorem preF_split (l : List (List UInt8 × V)) (i : Nat) : preF l = preF (l.take i) ++ preF (l.drop i) := by
  induction l generalizing i with
  | nil => simp [preF]
  | cons v r ih =>
    obtain ⟨nm, v⟩ := v
    cases i with
    | zero => simp [preF]
    | succ i => simp only [List.take_succ_cons, List.drop_succ_cons, preF, List.append_assoc]; rw [← ih i]

theorem pre_sub0 {A dn : List V} {k : Nat} {b : Bool} {i : Int} {t bs : List UInt8} {l : List V} {f : List (List UInt8 × V)} (h : dn ++ pre (.mk k b i t bs l f) <+: A) : dn ++ [.mk k b i t bs l f] <+: A :=
  List.IsPrefix.trans ⟨preL l ++ preF f, by simp [pre]⟩ h
theorem pre_subL {A dn : List V} {k : Nat} {b : Bool} {i : Int} {t bs : List UInt8} {l : List V} {f : List (List UInt8 × V)} {j : Nat} (hj : j < l.length) (h : dn ++ pre (.mk k b i t bs l f) <+: A) :
    dn ++ [.mk k b i t bs l f] ++ preL (l.take j) ++ pre l[j] <+: A := by
  refine List.IsPrefix.trans ⟨preL (l.drop (j + 1)) ++ preF f, ?_⟩ h
  rw [pre, preL_split l (j + 1), preL_take l j hj]; simp
theorem pre_subF {A dn : List V} {k : Nat} {b : Bool} {i : Int} {t bs : List UInt8} {l : List V} {f : List (List UInt8 × V)} {j : Nat} (hj : j < f.length) (h : dn ++ pre (.mk k b i t bs l f) <+: A) :
    dn ++ [.mk k b i t bs l f] ++ preL l ++ preF (f.take j) ++ pre f[j].2 <+: A := by
  refine List.IsPrefix.trans ⟨preF (f.drop (j + 1)), ?_⟩ h
  rw [pre, preF_split f (j + 1), preF_take f j hj]; simp

/-! A value in memory, all of it in blocks of S. -/
theorem RB.sel {n : Nat} {h h' : Heap} {l : List UInt8} {s : Sl} (r : RB n h l s) (S : Nat → Prop) (hS : ∀ a, s.a = some a → 0 < s.cap → S a.block) (g : ∀ b, S b → h'[b]? = h[b]?) : RB n h' l s :=
  ⟨r.len, r.cap, r.small, fun hl => let ⟨a, h1, h2, h3⟩ := r.at_ hl; ⟨a, h1, h2, fun i hi => by
    have := h3 i hi
    unfold cell at this ⊢
    rw [add_block] at this ⊢
    rw [g _ (hS a h1 (by have := r.len; have := r.cap; omega))]; exact this⟩, r.blk⟩
theorem CELLS.sel {h h' : Heap} {a : Addr} {cs : List Value} (c : CELLS h a cs) (e : h'[a.block]? = h[a.block]?) : CELLS h' a cs := fun i hi => by
  have := c i hi
  unfold cell at this ⊢
  rw [add_block] at this ⊢
  rw [e]; exact this

mutual
def RVS (S : Nat → Prop) (n : Nat) (h : Heap) : V → Cv → Prop
  | .mk k b i t bs l f, c => (c.k = (k : Int) ∧ k < 256 ∧ c.b = b ∧ c.i = i ∧ -9223372036854775808 ≤ i ∧ i < 9223372036854775808) ∧ TX t c.t ∧ (RB n h bs c.bs ∧ ∀ a, c.bs.a = some a → 0 < c.bs.cap → S a.block) ∧
      (SH n l.length c.ls ∧ RLS S n h l c.ls.a 0) ∧ (SH n f.length c.fs ∧ RFS S n h f c.fs.a 0)
def RLS (S : Nat → Prop) (n : Nat) (h : Heap) : List V → Option Addr → Nat → Prop
  | [], _, _ => True
  | v :: r, a, i => (∃ a0 c, a = some a0 ∧ a0.block < n ∧ S a0.block ∧ CELLS h (a0.add (i * 7)) (Cv.cells c) ∧ RVS S n h v c) ∧ RLS S n h r a (i + 1)
def RFS (S : Nat → Prop) (n : Nat) (h : Heap) : List (List UInt8 × V) → Option Addr → Nat → Prop
  | [], _, _ => True
  | (nm, v) :: r, a, i => (∃ a0 s c, a = some a0 ∧ a0.block < n ∧ S a0.block ∧ cell h (a0.add (i * 8)) = some (.string s) ∧ TX nm s ∧ CELLS h ((a0.add (i * 8)).add 1) (Cv.cells c) ∧ RVS S n h v c) ∧ RFS S n h r a (i + 1)
end

mutual
theorem RVS.sel {S : Nat → Prop} {n : Nat} {h h' : Heap} (g : ∀ b, S b → h'[b]? = h[b]?) : ∀ (v : V) (c : Cv), RVS S n h v c → RVS S n h' v c
  | .mk k b i t bs l f, c, ⟨h1, h2, ⟨h3, h8⟩, ⟨h4, h5⟩, h6, h7⟩ => ⟨h1, h2, ⟨h3.sel S h8 g, h8⟩, ⟨h4, RLS.sel g l _ _ h5⟩, h6, RFS.sel g f _ _ h7⟩
theorem RLS.sel {S : Nat → Prop} {n : Nat} {h h' : Heap} (g : ∀ b, S b → h'[b]? = h[b]?) : ∀ (l : List V) (a : Option Addr) (i : Nat), RLS S n h l a i → RLS S n h' l a i
  | [], _, _, _ => trivial
  | v :: r, a, i, ⟨⟨a0, c, h1, h2, h6, h3, h4⟩, h5⟩ => ⟨⟨a0, c, h1, h2, h6, h3.sel (by rw [add_block]; exact g _ h6), RVS.sel g v c h4⟩, RLS.sel g r a (i + 1) h5⟩
theorem RFS.sel {S : Nat → Prop} {n : Nat} {h h' : Heap} (g : ∀ b, S b → h'[b]? = h[b]?) : ∀ (l : List (List UInt8 × V)) (a : Option Addr) (i : Nat), RFS S n h l a i → RFS S n h' l a i
  | [], _, _, _ => trivial
  | (nm, v) :: r, a, i, ⟨⟨a0, s, c, h1, h2, h8, h3, h4, h5, h6⟩, h7⟩ =>
    ⟨⟨a0, s, c, h1, h2, h8, by have := h3; unfold cell at this ⊢; rw [add_block] at this ⊢; rw [g _ h8]; exact this, h4, h5.sel (by rw [add_block, add_block]; exact g _ h8), RVS.sel g v c h6⟩, RFS.sel g r a (i + 1) h7⟩
end

mutual
theorem RVS.rv {S : Nat → Prop} {n : Nat} {h : Heap} : ∀ (v : V) (c : Cv), RVS S n h v c → RV n h v c
  | .mk k b i t bs l f, c, ⟨h1, h2, ⟨h3, _⟩, ⟨h4, h5⟩, h6, h7⟩ => ⟨h1, h2, h3, ⟨h4, RLS.rl l _ _ h5⟩, h6, RFS.rf f _ _ h7⟩
theorem RLS.rl {S : Nat → Prop} {n : Nat} {h : Heap} : ∀ (l : List V) (a : Option Addr) (i : Nat), RLS S n h l a i → RL n h l a i
  | [], _, _, _ => trivial
  | v :: r, a, i, ⟨⟨a0, c, h1, h2, h6, h3, h4⟩, h5⟩ => ⟨⟨a0, c, h1, h2, h3, RVS.rv v c h4⟩, RLS.rl r a (i + 1) h5⟩
theorem RFS.rf {S : Nat → Prop} {n : Nat} {h : Heap} : ∀ (l : List (List UInt8 × V)) (a : Option Addr) (i : Nat), RFS S n h l a i → RF n h l a i
  | [], _, _, _ => trivial
  | (nm, v) :: r, a, i, ⟨⟨a0, s, c, h1, h2, h8, h3, h4, h5, h6⟩, h7⟩ => ⟨⟨a0, s, c, h1, h2, h3, h4, h5, RVS.rv v c h6⟩, RFS.rf r a (i + 1) h7⟩
end

mutual
theorem RVS.of {n : Nat} {h : Heap} : ∀ (v : V) (c : Cv), RV n h v c → RVS (fun b => b < n) n h v c
  | .mk k b i t bs l f, c, ⟨h1, h2, h3, ⟨h4, h5⟩, h6, h7⟩ => ⟨h1, h2, ⟨h3, h3.blk⟩, ⟨h4, RLS.of l _ _ h5⟩, h6, RFS.of f _ _ h7⟩
theorem RLS.of {n : Nat} {h : Heap} : ∀ (l : List V) (a : Option Addr) (i : Nat), RL n h l a i → RLS (fun b => b < n) n h l a i
  | [], _, _, _ => trivial
  | v :: r, a, i, ⟨⟨a0, c, h1, h2, h3, h4⟩, h5⟩ => ⟨⟨a0, c, h1, h2, h2, h3, RVS.of v c h4⟩, RLS.of r a (i + 1) h5⟩
theorem RFS.of {n : Nat} {h : Heap} : ∀ (l : List (List UInt8 × V)) (a : Option Addr) (i : Nat), RF n h l a i → RFS (fun b => b < n) n h l a i
  | [], _, _, _ => trivial
  | (nm, v) :: r, a, i, ⟨⟨a0, s, c, h1, h2, h3, h4, h5, h6⟩, h7⟩ => ⟨⟨a0, s, c, h1, h2, h2, h3, h4, h5, RVS.of v c h6⟩, RFS.of r a (i + 1) h7⟩
end

mutual
theorem RVS.mono {S : Nat → Prop} {n m : Nat} {h : Heap} (hm : n ≤ m) : ∀ (v : V) (c : Cv), RVS S n h v c → RVS S m h v c
  | .mk k b i t bs l f, c, ⟨h1, h2, ⟨h3, h8⟩, ⟨h4, h5⟩, h6, h7⟩ => ⟨h1, h2, ⟨h3.mono hm, h8⟩, ⟨h4.mono hm, RLS.mono hm l _ _ h5⟩, h6.mono hm, RFS.mono hm f _ _ h7⟩
theorem RLS.mono {S : Nat → Prop} {n m : Nat} {h : Heap} (hm : n ≤ m) : ∀ (l : List V) (a : Option Addr) (i : Nat), RLS S n h l a i → RLS S m h l a i
  | [], _, _, _ => trivial
  | v :: r, a, i, ⟨⟨a0, c, h1, h2, h6, h3, h4⟩, h5⟩ => ⟨⟨a0, c, h1, by omega, h6, h3, RVS.mono hm v c h4⟩, RLS.mono hm r a (i + 1) h5⟩
theorem RFS.mono {S : Nat → Prop} {n m : Nat} {h : Heap} (hm : n ≤ m) : ∀ (l : List (List UInt8 × V)) (a : Option Addr) (i : Nat), RFS S n h l a i → RFS S m h l a i
  | [], _, _, _ => trivial
  | (nm, v) :: r, a, i, ⟨⟨a0, s, c, h1, h2, h8, h3, h4, h5, h6⟩, h7⟩ => ⟨⟨a0, s, c, h1, by omega, h8, h3, h4, h5, RVS.mono hm v c h6⟩, RFS.mono hm r a (i + 1) h7⟩
end

theorem RLS.get {S : Nat → Prop} {n : Nat} {h : Heap} : ∀ {l : List V} {a : Option Addr} {i : Nat}, RLS S n h l a i → ∀ (j : Nat) (hj : j < l.length), ∃ a0 c, a = some a0 ∧ a0.block < n ∧ CELLS h (a0.add ((i + j) * 7)) (Cv.cells c) ∧ RVS S n h l[j] c
  | v :: r, a, i, ⟨⟨a0, c, h1, h2, h6, h3, h4⟩, _⟩, 0, _ => ⟨a0, c, h1, h2, h3, h4⟩
  | v :: r, a, i, ⟨h1, h2⟩, j + 1, hj => by
    have := RLS.get h2 j (by simpa using hj)
    rw [Nat.add_assoc, Nat.add_comm 1 j] at this
    exact this
theorem RFS.get {S : Nat → Prop} {n : Nat} {h : Heap} : ∀ {l : List (List UInt8 × V)} {a : Option Addr} {i : Nat}, RFS S n h l a i → ∀ (j : Nat) (hj : j < l.length),
    ∃ a0 s c, a = some a0 ∧ a0.block < n ∧ cell h (a0.add ((i + j) * 8)) = some (.string s) ∧ CELLS h ((a0.add ((i + j) * 8)).add 1) (Cv.cells c) ∧ RVS S n h l[j].2 c
  | (nm, v) :: r, a, i, ⟨⟨a0, s, c, h1, h2, h8, h3, h4, h5, h6⟩, _⟩, 0, _ => ⟨a0, s, c, h1, h2, h3, h5, h6⟩
  | (nm, v) :: r, a, i, ⟨h1, h2⟩, j + 1, hj => by
    have := RFS.get h2 j (by simpa using hj)
    rw [Nat.add_assoc, Nat.add_comm 1 j] at this
    exact this

/-- A 'yield': 'dn' has been told already. All that it changes is of O. -/
def YLD (N : Nat) (y : Value) (O : Nat → Prop) (I : List V → Heap → Prop) (F : Heap → Prop) (A : List V) : Prop :=
  ∀ (dn : List V) (v : V) (c : Cv) (d : Int) (h : Heap), N ≤ h.size → I dn h → RV h.size h v c → dn ++ [v] <+: A →
    HV P y [.int .i64 d, c.v] h fun e h' => ∃ b, e = .returned (.bool b) ∧ Chg O h h' ∧ (b = true → I (dn ++ [v]) h') ∧ (b = false → F h')

theorem HC.mono {P : Program} {f : FuncId} {args : Array Value} {h : Heap} {R R' : Ending → Heap → Prop} (c : HC P f args h R) (k : ∀ e h', R e h' → R' e h') : HC P f args h R' :=
  fun w hw => (c w hw).mono fun _ _ ⟨h1, h2, h3, h4⟩ => ⟨h1, h2, h3, k _ _ h4⟩

theorem HV.mono {P : Program} {v : Value} {args : List Value} {h : Heap} {R R' : Ending → Heap → Prop} (c : HV P v args h R) (k : ∀ e h', R e h' → R' e h') : HV P v args h R' := by
  rcases c with ⟨f, first, cap, e, hb, c⟩ | ⟨l, e, c⟩
  · exact .inl ⟨f, first, cap, e, hb, c.mono k⟩
  · refine .inr ⟨l, e, fun w hw => ?_⟩
    obtain ⟨r, h1, h2, h3⟩ := c w hw
    exact ⟨r, h1, h2, RoundIn.mono h3 fun _ _ ⟨q1, q2, q3, q4⟩ => ⟨q1, q2, q3, k _ _ q4⟩⟩

theorem CALLV_h {P : Program} {Z : List PanicEntry → Heap → Prop} {v : Value} {args : List Value} {h : Heap} {bs : List Nat} {K : Bool → Heap → Prop} {O : Nat → Prop} {T F : Heap → Prop}
    (c : HV P v args h fun e h' => ∃ b, e = .returned (.bool b) ∧ Chg O h h' ∧ (b = true → T h') ∧ (b = false → F h')) (hk : ∀ b ∈ bs, b < h.size ∧ ¬ O b)
    (k : ∀ b h', Chg O h h' → (b = true → T h') → (b = false → F h') → K b h') : CALLV P Z v args [.one .bl] h bs K :=
  HV.mono c fun e h' ⟨b, he, hg, h1, h2⟩ => by
    subst he
    exact ⟨(b, ()), rfl, hg.keep hk, k b h' hg h1 h2⟩

theorem add_add' (a : Addr) (i j : Nat) : (a.add i).add j = a.add (i + j) := by
  unfold Addr.add
  by_cases hi : i = 0
  · subst hi; simp
  · by_cases hj : j = 0
    · subst hj; simp [hi]
    · have : i + j ≠ 0 := by omega
      simp [hi, hj, Nat.add_assoc]

/-- A field's eight cells are read. -/
theorem LDN_F {n : Nat} {h : Heap} {a : Addr} {nm : ByteArray} {c : Cv} (hc : CELLS h a (.string nm :: c.cells)) (ha : a.block < n) {S : Heap → Prop} (hS : ∀ h', S h' → Pre n h h')
    {K : ByteArray → Int → Bool → Int → ByteArray → Sl → Sl → Sl → Prop} (k : K nm c.k c.b c.i c.t c.bs c.ls c.fs) : LDN [.tx, .nt .u8, .bl, .nt .i64, .tx, .sl, .sl, .sl] a 0 S K := by
  have e : ∀ i v, (Value.string nm :: c.cells)[i]? = some v → ∀ h', S h' → cell h' (a.add i) = some v := fun i v hv h' hh => by
    rw [(hS h' hh).cell (by rw [add_block]; exact ha), hc i (by
      rcases Nat.lt_or_ge i (Value.string nm :: c.cells).length with h1 | h1
      · exact h1
      · rw [List.getElem?_eq_none h1] at hv; cases hv), hv]
  exact ⟨nm, e 0 _ rfl, c.k, e 1 _ rfl, c.b, e 2 _ rfl, c.i, e 3 _ rfl, c.t, e 4 _ rfl, c.bs, e 5 _ rfl, c.ls, e 6 _ rfl, c.fs, e 7 _ rfl, k⟩

/-- walk -/
theorem spec160 {S : Nat → Prop} {n N : Nat} {y : Value} {O : Nat → Prop} {I : List V → Heap → Prop} {F : Heap → Prop} {A : List V} (hO : ∀ i, O i → ¬ S i ∧ i < N) (hS : ∀ i, S i → i < N) (hnN : n ≤ N)
    (hI : ∀ dn h h', N ≤ h.size → I dn h → h.size ≤ h'.size → (∀ b, b < N → h'[b]? = h[b]?) → I dn h') (hy : YLD N y O I F A) (v : V) :
    ∀ (c : Cv) (d : Int) (dn : List V) (h : Heap), N ≤ h.size → RVS S n h v c → I dn h → dn ++ pre v <+: A →
    SPECO P 160 [c.v, .int .i64 d, y] [.one .bl] h O fun x h' => (x.1 = true → I (dn ++ pre v) h') ∧ (x.1 = false → F h') := by
  obtain ⟨k, b, i, t, bs, l, f⟩ := v
  intro c d dn h hN rv hI0 hok
  have ihl : ∀ v ∈ l, ∀ (c : Cv) (d : Int) (dn : List V) (h : Heap), N ≤ h.size → RVS S n h v c → I dn h → dn ++ pre v <+: A →
    SPECO P 160 [c.v, .int .i64 d, y] [.one .bl] h O fun x h' => (x.1 = true → I (dn ++ pre v) h') ∧ (x.1 = false → F h') := fun v hv => spec160 hO hS hnN hI hy v
  have ihf : ∀ v ∈ f, ∀ (c : Cv) (d : Int) (dn : List V) (h : Heap), N ≤ h.size → RVS S n h v.2 c → I dn h → dn ++ pre v.2 <+: A →
    SPECO P 160 [c.v, .int .i64 d, y] [.one .bl] h O fun x h' => (x.1 = true → I (dn ++ pre v.2) h') ∧ (x.1 = false → F h') := fun v hv => spec160 hO hS hnN hI hy v.2
  have rv0 := rv
  obtain ⟨⟨a1, a2, a3, a4, a5, a6⟩, a7, a8, ⟨a9, a10⟩, a11, a12⟩ := rv
  refine SPECO_of noNG Tryz.func160 (pl := pl160) (ps := [.agg [.nt .u8, .bl, .nt .i64, .tx, .sl, .sl, .sl], .one (.nt .i64), .one .oq]) (c.k, c.b, c.i, c.t, c.bs, c.ls, c.fs, d, y, ()) (by kernel_rfl)
    (q160 (fun _ _ => False) c.k c.b c.i c.t c.bs c.ls c.fs d y h) (fun Q h => by rw [q160_eq] at h; exact h) ?_
  unfold q160
  have sel : ∀ {X : Heap}, Chg O h X → ∀ b, S b → X[b]? = h[b]? := fun g b hb => g.same b (by have := hS b hb; omega) fun e => (hO b e).1 hb
  have hOb : ∀ b, N ≤ b → ¬ O b := fun b hb e => by have := (hO b e).2; omega
  refine ALLOC_r (.refl h.size h) (Nat.le_refl _) fun b3 h1 hb3 hs1 g1 _ _ => ?_
  have gC : Chg O h h1 := .of_pre g1
  have hI1 : I dn h1 := hI dn h h1 hN hI0 (by omega) fun b hb => g1.same b (by omega)
  refine CALLV_h (hy dn _ c d h1 (by omega) hI1 (RV.mono (by omega) _ _ (RV.pre g1 (by omega) _ _ (RVS.rv _ _ rv0))) (pre_sub0 hok)) (by simp; exact ⟨by omega, hOb _ (by omega)⟩) ?_
  intro x h2 g2 q1 q2
  have g02 : Chg O h h2 := gC.then (g2.mono fun i _ ho => .inl ho)
  refine COND_r (fun hc => ⟨g02, nofun, fun _ => q2 (by simpa using hc)⟩) (fun hc => ?_)
  have hI2 : I (dn ++ [.mk k b i t bs l f]) h2 := q1 (by simpa using hc)
  have e6 := a9.len
  have e7 := a9.cap
  have e8 := a9.small
  have f6 := a11.len
  have f7 := a11.cap
  have f8 := a11.small
  have hs2 := g2.sz
  refine LOOP_up (N := l.length) (fun j h' => Chg O h h' ∧ h1.size ≤ h'.size ∧ I (dn ++ [.mk k b i t bs l f] ++ preL (l.take j)) h') (by omega) ⟨g02, hs2, by simpa [preL] using hI2⟩ ?_
  rintro j h3 hj ⟨g3, hs3, hI3⟩ nx hnx
  refine COND_r (fun hc => ?_) (fun hc => ?_)
  · have hj1 := ltI hc
    rw [e6] at hj1
    obtain ⟨a0, c1, z1, z2, z3, r1⟩ := (RLS.sel (sel g3) _ _ _ a10).get j hj1
    rw [Nat.zero_add] at z3
    refine IXA_r z1 rfl (by omega) (LDN_V (n := h3.size) z3 (by rw [add_block]; omega) (fun h'' e => by rw [e]; exact .refl _ _) ?_)
    refine ALLOC_r (.refl h3.size h3) (Nat.le_refl _) fun b8 h4 hb8 hs4 g4 _ _ => ?_
    refine PUTN_r g4 (by omega) (by simp [oneC, Sl.v]) fun h5 hs5 g5 _ => ?_
    have hI5 := hI _ h3 h5 (by omega) hI3 (by omega) fun b hb => g5.same b (by omega)
    refine CALLO_r (ihl _ (List.getElem_mem hj1) c1 _ _ h5 (by omega) (RVS.sel (fun b hb => g5.same b (by have := hS b hb; omega)) _ _ r1) hI5 (pre_subL hj1 hok)) (by simp; exact ⟨⟨by omega, hOb _ (by omega)⟩, by omega, hOb _ (by omega)⟩) ?_
    rintro ⟨z, ⟨⟩⟩ h6 hs6 g6 ⟨z1, z2⟩
    have g36 : Chg O h h6 := (g3.then (.of_pre g5)).then (g6.mono fun i _ ho => .inl ho)
    refine COND_r (fun hc => ⟨g36, nofun, fun _ => z2 (by simpa using hc)⟩) (fun hc => hnx _ hj1 ⟨g36, by omega, ?_⟩)
    have := z1 (by simpa using hc)
    rw [preL_take l j hj1]
    simpa using this
  · have hj1 := geI hc
    have : l.take j = l := List.take_of_length_le (by omega)
    rw [this] at hI3
    refine LOOP_up (N := f.length) (fun j h' => Chg O h h' ∧ h1.size ≤ h'.size ∧ I (dn ++ [.mk k b i t bs l f] ++ preL l ++ preF (f.take j)) h') (by omega) ⟨g3, hs3, by simpa [preF] using hI3⟩ ?_
    clear hI3 g3 hs3 hnx hc hj hj1 this
    rintro j h3 hj ⟨g3, hs3, hI3⟩ nx hnx
    refine COND_r (fun hc => ?_) (fun hc => ?_)
    · have hj1 := ltI hc
      rw [f6] at hj1
      obtain ⟨a0, nm, c1, z1, z2, z0, z3, r1⟩ := (RFS.sel (sel g3) _ _ _ a12).get j hj1
      rw [Nat.zero_add] at z3 z0
      have z4 : CELLS h3 (a0.add (j * 8)) (.string nm :: c1.cells) := fun i hi => by
        cases i with
        | zero => exact z0
        | succ i =>
          have := z3 i (by simp at hi ⊢; omega)
          rw [add_add', Nat.add_comm] at this
          exact this
      refine IXA_r z1 rfl (by omega) (LDN_F (n := h3.size) z4 (by rw [add_block]; omega) (fun h'' e => by rw [e]; exact .refl _ _) ?_)
      refine ALLOC_r (.refl h3.size h3) (Nat.le_refl _) fun b8 h4 hb8 hs4 g4 _ _ => ?_
      refine PUTN_r g4 (by omega) (by simp [oneC, Sl.v]) fun h5 hs5 g5 _ => ?_
      have hI5 := hI _ h3 h5 (by omega) hI3 (by omega) fun b hb => g5.same b (by omega)
      refine CALLO_r (ihf _ (List.getElem_mem hj1) c1 _ _ h5 (by omega) (RVS.sel (fun b hb => g5.same b (by have := hS b hb; omega)) _ _ r1) hI5 (pre_subF hj1 hok)) (by simp; exact ⟨by omega, hOb _ (by omega)⟩) ?_
      rintro ⟨z, ⟨⟩⟩ h6 hs6 g6 ⟨z1, z2⟩
      have g36 : Chg O h h6 := (g3.then (.of_pre g5)).then (g6.mono fun i _ ho => .inl ho)
      refine COND_r (fun hc => ⟨g36, nofun, fun _ => z2 (by simpa using hc)⟩) (fun hc => hnx _ hj1 ⟨g36, by omega, ?_⟩)
      have := z1 (by simpa using hc)
      rw [preF_take f j hj1]
      simpa using this
    · have hj1 := geI hc
      have : f.take j = f := List.take_of_length_le (by omega)
      rw [this] at hI3
      refine ⟨g3, fun _ => ?_, nofun⟩
      simpa [pre] using hI3
termination_by SizeOf.sizeOf v
decreasing_by
  all_goals simp_wf
  · have := List.sizeOf_lt_of_mem hv; omega
  · have := List.sizeOf_lt_of_mem hv
    have : SizeOf.sizeOf v.2 < SizeOf.sizeOf v := by cases v; simp; omega
    omega

/-- each's function -/
theorem spec159 {S : Nat → Prop} {n N : Nat} {y : Value} {O : Nat → Prop} {I : List V → Heap → Prop} {F : Heap → Prop} {A : List V} (hO : ∀ i, O i → ¬ S i ∧ i < N) (hS : ∀ i, S i → i < N) (hnN : n ≤ N)
    (hI : ∀ dn h h', N ≤ h.size → I dn h → h.size ≤ h'.size → (∀ b, b < N → h'[b]? = h[b]?) → I dn h') (hy : YLD N y O I F A) {v : V} {c : Cv} {h : Heap} {p : Addr} (hN : N ≤ h.size) (rv : RVS S n h v c) (hI0 : I [] h) (hok : pre v <+: A)
    (hp : CELLS h p c.cells) (hpb : p.block < h.size) :
    SPECO P 159 [y, .pointer (some p)] [] h O fun _ h' => I (pre v) h' ∨ F h' := by
  refine SPECO_of noNG Tryz.func159 (pl := pl159) (ps := [.one .oq, .one .ad]) (y, p, ()) (by kernel_rfl)
    (q159 (fun _ _ => False) y p h) (fun Q h => by rw [q159_eq] at h; exact h) ?_
  unfold q159
  refine LDN_V (n := h.size) hp hpb (fun h' e => by rw [e]; exact .refl _ _) ?_
  refine CALLO_r (spec160 hO hS hnN hI hy v c 1 [] h hN rv hI0 (by simpa using hok)) (by simp) ?_
  rintro ⟨x, ⟨⟩⟩ h1 hs1 g1 ⟨z1, z2⟩
  refine ⟨g1, ?_⟩
  cases x with
  | true => exact .inl (z1 rfl)
  | false => exact .inr (z2 rfl)

theorem SPEC_of_k {P : Program} (hP : NoNG P) {f : FuncId} {fn : Func} (hf : P.funcs[f]? = some fn) {pl : Plan} {ps : List Lay} {h : Heap} {m : Nat} {R : List Lay} {Q : TT (flat R) → Heap → Prop} (x : TT (flat ps))
    (hR : fn.resultTypes.toList.map (layOf P) = R) (q : Cur (flat R) (Heap → Prop) → Prop)
    (hq : (fun Q => q Q) = fun Q : Cur (flat R) (Heap → Prop) => unc _ (WPF P (fun _ _ => False) fn pl ps h (hR ▸ Q)) x)
    (hh : q (cur _ fun x h' => Pre m h h' ∧ Q x h')) : SPEC P f (parts ps (vals _ x)) R h m Q :=
  SPEC_of hP hf x hR q (fun Q h => by exact cast (congrFun hq Q) h) hh

/-- each -/
theorem spec130 {h : Heap} {c : Cv} : SPEC P 130 [c.v] [.one .oq] h h.size fun x h' => ∃ b, b = h.size ∧ h'.size = h.size + 1 ∧ x.1 = .func (.func 159) #[] #[.pointer (some ⟨b, 0, none⟩)] ∧ CELLS h' ⟨b, 0, none⟩ c.cells := by
  refine SPEC_of_k noNG Tryz.func130 (pl := pl130) (ps := [.agg [.nt .u8, .bl, .nt .i64, .tx, .sl, .sl, .sl]]) (c.k, c.b, c.i, c.t, c.bs, c.ls, c.fs, ()) (by kernel_rfl)
    (q130 (fun _ _ => False) c.k c.b c.i c.t c.bs c.ls c.fs h) (by kernel_rfl) ?_
  unfold q130
  refine ALLOC_r (.refl h.size h) (Nat.le_refl _) fun b3 h1 hb3 hs1 g1 _ hc => ?_
  exact ⟨g1, b3, hb3, hs1, rfl, LDN_known hc⟩

theorem setB_ne {h : Heap} {l b : Nat} {o : Obj} (hb : b ≠ l) : (h.setIfInBounds l o)[b]? = h[b]? := Array.getElem?_setIfInBounds_ne (by omega)
theorem setB_eq {h : Heap} {l : Nat} {o o' : Obj} (hl : h[l]? = some o') : (h.setIfInBounds l o)[l]? = some o := by
  have : l < h.size := by
    rcases Nat.lt_or_ge l h.size with x | x
    · exact x
    · rw [Array.getElem?_eq_none x] at hl; cases hl
  rw [Array.getElem?_setIfInBounds_self_of_lt this]

theorem cell_set {h : Heap} {l : Nat} {o o' : Obj} (hl : h[l]? = some o) (ho : ∀ cs t f, o ≠ .cells cs t f) {a : Addr} {v : Value} (hc : cell h a = some v) : cell (h.setIfInBounds l o') a = some v := by
  by_cases e : a.block = l
  · subst e
    unfold cell at hc
    rw [hl] at hc
    cases o with
    | cells cs t f => exact absurd rfl (ho cs t f)
    | _ => cases hc
  · unfold cell at hc ⊢
    rw [setB_ne e]; exact hc

abbrev VL : List Lay := [.one (.nt .i64), .agg [.nt .u8, .bl, .nt .i64, .tx, .sl, .sl, .sl]]

/-- A range over a function that tells a value and all below it: what 'g' does with a 'yield', and what a round does. -/
theorem RANGEV_r {h : Heap} {g : Value} {bs : List Nat} {body : Cur (flat VL) (Nat → Obj → Obj → (Code → Obj) → (Ending → Heap → Prop) → Heap → Prop)} {after jk : Heap → Prop} {O : Nat → Prop} {I : List V → Heap → Prop} {F : Heap → Prop} {A : List V} 
    (hbs : ∀ b ∈ bs, b < h.size ∧ ¬ O b) (hO : ∀ i, O i → i < h.size)
    (hg : ∀ (ready : Obj) (y : Value) (I' : List V → Heap → Prop) (F' : Heap → Prop),
      (∀ dn h1 h', h.size + 2 ≤ h1.size → I' dn h1 → h1.size ≤ h'.size → (∀ b, b < h.size + 2 → h'[b]? = h1[b]?) → I' dn h') →
      (∀ h1 h', h.size + 2 ≤ h1.size → F' h1 → h1.size ≤ h'.size → (∀ b, b < h.size + 2 → h'[b]? = h1[b]?) → F' h') → oneC y = true →
      YLD (h.size + 2) y (fun i => O i ∨ i = h.size + 1) I' F' A → I' [] ((h.push (.deferred (some []))).push ready) →
      HF P g [y] ((h.push (.deferred (some []))).push ready) fun e h2 => (∃ v, e = .returned v) ∧ Chg (fun i => O i ∨ i = h.size + 1) ((h.push (.deferred (some []))).push ready) h2 ∧ (I' A h2 ∨ F' h2))
    (hI : ∀ dn h1 h', h.size + 2 ≤ h1.size → I dn h1 → h1.size ≤ h'.size → (∀ b, b < h.size → h'[b]? = h1[b]?) → I dn h')
    (hF : ∀ h1 h', h.size + 2 ≤ h1.size → F h1 → h1.size ≤ h'.size → (∀ b, b < h.size → h'[b]? = h1[b]?) → F h')
    (hI0 : ∀ h', h'.size = h.size + 2 → (∀ b, b < h.size → h'[b]? = h[b]?) → I [] h')
    (round : ∀ (ready busy : Obj) (done : Code → Obj) (R : Ending → Heap → Prop) (dn : List V) (x : V) (c : Cv) (d : Int) (h' : Heap), h.size + 2 ≤ h'.size → h'[h.size + 1]? = some ready → KEEP h h' bs → (∀ cs t f, ready ≠ .cells cs t f) → I dn h' → RV h'.size h' x c → dn ++ [x] <+: A →
      (∀ h'', Chg (fun i => O i ∨ i = h.size + 1) h' h'' → h''[h.size + 1]? = some ready → I (dn ++ [x]) h'' → R (.returned (.bool true)) h'') →
      (∀ h'', Chg (fun i => O i ∨ i = h.size + 1) h' h'' → h''[h.size + 1]? = some (done .ret) → F h'' → R (.returned (.bool false)) h'') →
      body d c.k c.b c.i c.t c.bs c.ls c.fs (h.size + 1) ready busy done R h')
    (aft : ∀ h2 h3, (∀ b, b < h.size → ¬ O b → h2[b]? = h[b]?) → h2[h.size]? = some (.deferred (some [])) → h.size + 2 ≤ h2.size → I A h2 → h3.size = h2.size → (∀ b, b ≠ h.size + 1 → h3[b]? = h2[b]?) → after h3)
    (jmp : ∀ h2 h3, (∀ b, b < h.size → ¬ O b → h2[b]? = h[b]?) → h2[h.size]? = some (.deferred (some [])) → h.size + 2 ≤ h2.size → F h2 → h3.size = h2.size → (∀ b, b ≠ h.size + 1 → h3[b]? = h2[b]?) → jk h3) :
    RANGEF P g VL h bs body after [(.ret, jk)] := by
  intro ready busy done over overD hy hd
  have hsz : ((h.push (.deferred (some []))).push ready).size = h.size + 2 := by simp
  have h0 : ∀ b, b < h.size → ((h.push (.deferred (some []))).push ready)[b]? = h[b]? := fun b hb => by rw [push_old (by simp; omega), push_old hb]
  have hl : ((h.push (.deferred (some []))).push ready)[h.size + 1]? = some ready := by
    rw [show h.size + 1 = (h.push (.deferred (some []))).size by simp, Array.getElem?_push_size]
  have hdf : ((h.push (.deferred (some []))).push ready)[h.size]? = some (.deferred (some [])) := by
    rw [push_old (by simp), Array.getElem?_push_size]
  have main := hg ready (.func (.yield (h.size + 1)) #[] #[]) (fun dn h' => I dn h' ∧ h'[h.size + 1]? = some ready ∧ (∀ b, b < h.size → ¬ O b → h'[b]? = h[b]?)) (fun h' => F h' ∧ h'[h.size + 1]? = some (done .ret))
    (fun dn h1 h' s1 i1 s2 k => ⟨hI dn h1 h' s1 i1.1 s2 fun b hb => k b (by omega), by rw [k _ (by omega)]; exact i1.2.1, fun b hb ho => by rw [k b (by omega)]; exact i1.2.2 b hb ho⟩)
    (fun h1 h' s1 i1 s2 k => ⟨hF h1 h' s1 i1.1 s2 fun b hb => k b (by omega), by rw [k _ (by omega)]; exact i1.2⟩) rfl
    (fun dn v c d h' s1 i1 rv hok => ?_) ⟨hI0 _ hsz h0, hl, fun b hb _ => h0 b hb⟩
  · obtain ⟨f, first, cap, e1, e2, e3⟩ := main
    refine ⟨f, first, cap, e1, e2, e3.mono ?_⟩
    rintro e h2 ⟨⟨v, rfl⟩, gC, hh⟩
    have same : ∀ b, b < h.size → ¬ O b → h2[b]? = h[b]? := fun b hb ho => by rw [gC.same b (by omega) (fun e => e.elim ho (fun e => by omega)), h0 b hb]
    have dfr : h2[h.size]? = some (.deferred (some [])) := by rw [gC.same _ (by omega) (fun e => e.elim (fun e => by have := hO _ e; omega) (fun e => by omega)), hdf]
    have gs := gC.sz
    refine ⟨KEEP_of fun b hb => same b (hbs b hb).1 (hbs b hb).2, ?_⟩
    rcases hh with ⟨hI', hr, _⟩ | ⟨hF', hr⟩
    · exact .inl ⟨hr, aft h2 _ same dfr (by omega) hI' (by simp) fun b hb => setB_ne hb⟩
    · exact .inr (.inl ⟨hr, jmp h2 _ same dfr (by omega) hF' (by simp) fun b hb => setB_ne hb⟩)
  · refine hy (d, c.k, c.b, c.i, c.t, c.bs, c.ls, c.fs, ()) h' _ i1.2.1 (KEEP_of fun b hb => i1.2.2 b (hbs b hb).1 (hbs b hb).2) ?_
    refine round ready busy done _ dn v c d h' s1 i1.2.1 (KEEP_of fun b hb => i1.2.2 b (hbs b hb).1 (hbs b hb).2) (fun cs t f => (hd .ret cs t f).1) i1.1 rv hok (fun h'' gC hr hI' => ⟨true, rfl, gC, fun _ => ⟨hI', hr, fun b hb ho => ?_⟩, nofun⟩) (fun h'' gC hr hF' => ⟨false, rfl, gC, nofun, fun _ => ⟨hF', hr⟩⟩)
    rw [gC.same b (by omega) (fun e => e.elim ho (fun e => by omega))]
    exact i1.2.2 b hb ho

/-- A range over each(v). -/
theorem EACH_gS {S : Nat → Prop} {n : Nat} {h : Heap} {v : V} {c : Cv} {p : Addr} {O : Nat → Prop} (hn : n ≤ h.size) (rv : RVS S n h v c) (hc : CELLS h p c.cells) (hb0 : p.block < h.size) (hO : ∀ i, O i → ¬ S i ∧ i < h.size) (hS : ∀ i, S i → i < h.size)
    (ready : Obj) (y : Value) (I' : List V → Heap → Prop) (F' : Heap → Prop)
      (hI : ∀ dn h1 h', h.size + 2 ≤ h1.size → I' dn h1 → h1.size ≤ h'.size → (∀ b, b < h.size + 2 → h'[b]? = h1[b]?) → I' dn h')
      (_ : ∀ h1 h', h.size + 2 ≤ h1.size → F' h1 → h1.size ≤ h'.size → (∀ b, b < h.size + 2 → h'[b]? = h1[b]?) → F' h') (_ : oneC y = true)
      (hy : YLD (h.size + 2) y (fun i => O i ∨ i = h.size + 1) I' F' (pre v)) (h0 : I' [] ((h.push (.deferred (some []))).push ready)) :
      HF P (.func (.func 159) #[] #[.pointer (some p)]) [y] ((h.push (.deferred (some []))).push ready) fun e h2 => (∃ v, e = .returned v) ∧ Chg (fun i => O i ∨ i = h.size + 1) ((h.push (.deferred (some []))).push ready) h2 ∧ (I' (pre v) h2 ∨ F' h2) := by
  have g : Pre h.size h ((h.push (.deferred (some []))).push ready) := ((Pre.refl _ _).push (Nat.le_refl _) _).push (by simp) _
  refine ⟨159, #[], #[.pointer (some p)], rfl, by kernel_rfl, ?_⟩
  have := spec159 (S := S) (n := n) (N := h.size + 2) (O := fun i => O i ∨ i = h.size + 1) (p := p) (fun i hi => hi.elim (fun e => ⟨(hO i e).1, by have := (hO i e).2; omega⟩) (fun e => ⟨fun hs => by have := hS i hs; omega, by omega⟩)) (fun i hi => by have := hS i hi; omega) (by omega) hI hy (v := v) (c := c) (h := (h.push (.deferred (some []))).push ready) (by simp)
    (RVS.sel (fun b hb => g.same b (hS b hb)) _ _ rv) h0 (List.prefix_refl _) (fun i hi => by rw [g.cell (by rw [add_block]; exact hb0)]; exact hc i hi) (by simp; omega)
  unfold SPECO CALL at this
  refine HC.mono this ?_
  intro e h' hh
  cases e with
  | returned v =>
    obtain ⟨x, rfl, _, hx⟩ := hh
    exact ⟨⟨_, rfl⟩, hx⟩
  | panicked c => exact hh.elim
  | outgrown => exact hh.elim

theorem EACH_g {n : Nat} {h : Heap} {v : V} {c : Cv} {b0 : Nat} {O : Nat → Prop} (hn : n ≤ h.size) (rv : RV n h v c) (hc : CELLS h ⟨b0, 0, none⟩ c.cells) (hb0 : b0 < h.size) (hO : ∀ i, O i → n ≤ i ∧ i < h.size)
    (ready : Obj) (y : Value) (I' : List V → Heap → Prop) (F' : Heap → Prop)
      (hI : ∀ dn h1 h', h.size + 2 ≤ h1.size → I' dn h1 → h1.size ≤ h'.size → (∀ b, b < h.size + 2 → h'[b]? = h1[b]?) → I' dn h')
      (hF : ∀ h1 h', h.size + 2 ≤ h1.size → F' h1 → h1.size ≤ h'.size → (∀ b, b < h.size + 2 → h'[b]? = h1[b]?) → F' h') (h1 : oneC y = true)
      (hy : YLD (h.size + 2) y (fun i => O i ∨ i = h.size + 1) I' F' (pre v)) (h0 : I' [] ((h.push (.deferred (some []))).push ready)) :
      HF P (.func (.func 159) #[] #[.pointer (some ⟨b0, 0, none⟩)]) [y] ((h.push (.deferred (some []))).push ready) fun e h2 => (∃ v, e = .returned v) ∧ Chg (fun i => O i ∨ i = h.size + 1) ((h.push (.deferred (some []))).push ready) h2 ∧ (I' (pre v) h2 ∨ F' h2) :=
  EACH_gS (O := O) hn (RVS.of _ _ rv) hc hb0 (fun i hi => ⟨by have := (hO i hi).1; omega, (hO i hi).2⟩) (fun i hi => by omega) ready y I' F' hI hF h1 hy h0

end Go.VK

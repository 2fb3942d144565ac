/-
  MEMORY: what a run, and the reference's run, look like in memory; labels on blocks keep several runs apart; what stores and new blocks leave of it.
-/
import Derived.Test.YtlncdkdkoamadaaRows
import Derived.Test.YtlncdkdkoamadaaPure
import Derived.WalkKit
import Derived.Deep.Draws
namespace Go.Proofs.Ytlncdkdkoamadaa
open Go.RowKit

theorem below_drewN {B : Nat} {a w : World} (h : Below B a w) (n : Nat) : Below B a (w.drewN n) := ⟨h.os, h.tape, h.output, h.size, h.block⟩
theorem cell_new1 (w : World) (u : Value) (t : TypeId) : (w.alloc (.cells #[u] t)).cell? ⟨w.heap.size, 0, none⟩ = some u := by simp
theorem dr2 (w : World) (a b : Nat) : ∃ j, w.drewN j = (w.drewN a).drewN b := ⟨a + b, (World.drewN_drewN _ _ _).symm⟩

section
variable {w w' : World} {base : Nat} {e : TypeId} {size : Nat} {v : Value} {n : Nat} {xs : List Value}

theorem own_congr (h : w.ownsRow base e size v n xs) (he : ∀ g, v.ownBlock = some g → w'.heap[g]? = w.heap[g]?) : w'.ownsRow base e size v n xs := by
  refine ⟨h.1, ?_⟩
  rcases h.2 with h2 | ⟨g, cap, cur, rfl, hb, hg, r⟩
  · exact .inl h2
  · exact .inr ⟨g, cap, cur, rfl, hb, by rw [he g rfl]; exact hg, r⟩

theorem own_base (h : w.ownsRow base e size v n xs) {b' : Nat} (hb : b' ≤ base) : w.ownsRow b' e size v n xs := by
  refine ⟨h.1, ?_⟩
  rcases h.2 with h2 | ⟨g, cap, cur, hv, hg, r⟩
  · exact .inl h2
  · exact .inr ⟨g, cap, cur, hv, Nat.le_trans hb hg, r⟩

theorem own_lt (h : w.ownsRow base e size v n xs) {g : Nat} (hg : v.ownBlock = some g) : g < w.heap.size := (h.lt g hg).2

/-- The value's own form, where there is an element. -/
theorem own_some (h : w.ownsRow base e 1 v n xs) (hn : 0 < n) : ∃ g cap, v = .slice (some ⟨g, 0, none⟩) n cap ∧ v.ownBlock = some g ∧ g < w.heap.size ∧ n ≤ cap ∧ cap ≤ maxLen ∧
    (∀ j u, xs[j]? = some u → w.cell? ⟨g, j, none⟩ = some u) ∧ ∀ j, w.frozen? ⟨g, j, none⟩ = false := by
  rcases h.2 with ⟨_, h0⟩ | ⟨g, cap, cur, rfl, hb, hg, hnc, hcm, hcs, ht⟩
  · omega
  · refine ⟨g, cap, rfl, rfl, (Array.getElem?_eq_some_iff.1 hg).1, hnc, hcm, fun j u hu => ?_, fun j => h.frozenAt j⟩
    have hj : j < n * 1 := by rw [← h.1]; exact (List.getElem?_eq_some_iff.1 hu).1
    rw [h.cellAt j hj, hu]

/-- The value's form, whatever its length. -/
theorem own_any (h : w.ownsRow base e 1 v n xs) : ∃ A cap, v = .slice A n cap ∧ n ≤ cap ∧ (A = none → n = 0 ∧ cap = 0) ∧ ∀ ad, A = some ad → ∃ g, ad = ⟨g, 0, none⟩ ∧ g < w.heap.size ∧ (∀ j u, xs[j]? = some u → w.cell? (ad.add j) = some u) := by
  rcases h.2 with ⟨rfl, rfl⟩ | ⟨g, cap, cur, rfl, hb, hg, hnc, hcm, hcs, ht⟩
  · exact ⟨none, 0, rfl, Nat.le_refl _, fun _ => ⟨rfl, rfl⟩, (fun ad h => by cases h)⟩
  · refine ⟨some ⟨g, 0, none⟩, cap, rfl, hnc, (fun h => by cases h), fun ad had => ?_⟩
    cases had
    refine ⟨g, rfl, (Array.getElem?_eq_some_iff.1 hg).1, fun j u hu => ?_⟩
    have hj : j < n * 1 := by rw [← h.1]; exact (List.getElem?_eq_some_iff.1 hu).1
    rw [Addr.add_lit, Nat.zero_add, h.cellAt j hj, hu]

/-- A row cut short. -/
theorem own_short {g m cap : Nat} (h : w.ownsRow base e 1 (.slice (some ⟨g, 0, none⟩) n cap) n xs) (hm : m ≤ n) : w.ownsRow base e 1 (.slice (some ⟨g, 0, none⟩) m cap) m (xs.take m) := by
  rcases h.2 with ⟨h', _⟩ | ⟨g', cap', cur, h', hb, hg, hnc, hcm, hcs, ht⟩
  · simp at h'
  · simp only [Value.slice.injEq, Option.some.injEq, Addr.mk.injEq, and_true, true_and] at h'
    obtain ⟨rfl, rfl⟩ := h'
    refine ⟨by rw [List.length_take, h.1]; omega, .inr ⟨g, cap, cur, rfl, hb, hg, by omega, hcm, hcs, ?_⟩⟩
    rw [← ht, List.take_take, Nat.mul_one, Nat.mul_one, Nat.min_eq_left hm]

/-- Two rows whose elements' types differ share no block. -/
theorem own_ne {base' : Nat} {e' : TypeId} {size' n' : Nat} {v' : Value} {ys : List Value} (h : w.ownsRow base e size v n xs) (h' : w.ownsRow base' e' size' v' n' ys) (hne : e ≠ e') {g : Nat} (hg : v.ownBlock = some g) : v'.ownBlock ≠ some g := by
  intro hg'
  rcases h.2 with ⟨rfl, _⟩ | ⟨a, cap, cur, rfl, _, ha, _⟩
  · cases hg
  · rcases h'.2 with ⟨rfl, _⟩ | ⟨b, cap', cur', rfl, _, hb, _⟩
    · cases hg'
    · cases hg; cases hg'
      rw [ha] at hb
      injection hb with hb
      injection hb with _ ht
      exact hne ht

theorem own_blk_ne (h : w.ownsRow base e size v n xs) {g : Nat} {cs : Array Value} {t : TypeId} (hg : w.heap[g]? = some (.cells cs t (0, 0))) (hne : e ≠ t) : v.ownBlock ≠ some g := by
  intro hv
  rcases h.2 with ⟨rfl, _⟩ | ⟨a, cap, cur, rfl, _, ha, _⟩
  · cases hv
  · cases hv
    rw [hg] at ha
    injection ha with ha
    injection ha with _ ht
    exact hne ht.symm
end

/-- Cells of numbers. -/
def ints (f : Nat → Nat) (n : Nat) : List Value := (List.range n).map fun i => .int .i64 (f i)
def intl (l : List Nat) : List Value := l.map fun i => .int .i64 (i : Nat)
def bools (f : Nat → Bool) (n : Nat) : List Value := (List.range n).map fun i => .bool (f i)
theorem ints_get {f : Nat → Nat} {n i : Nat} (h : i < n) : (ints f n)[i]? = some (.int .i64 (f i)) := by simp [ints, h]
theorem bools_get {f : Nat → Bool} {n i : Nat} (h : i < n) : (bools f n)[i]? = some (.bool (f i)) := by simp [bools, h]
theorem vals_get {f : Nat → Value} {n i : Nat} (h : i < n) : ((List.range n).map f)[i]? = some (f i) := by simp [h]
theorem intl_get {l : List Nat} {i x : Nat} (h : l[i]? = some x) : (intl l)[i]? = some (.int .i64 x) := by simp [intl, h]
theorem vals_set {f : Nat → Value} {n i : Nat} (u : Value) : ((List.range n).map f).set i u = (List.range n).map fun j => if j = i then u else f j := by
  apply List.ext_getElem?
  intro j
  rw [List.getElem?_set]
  by_cases hj : j < n
  · by_cases e : i = j
    · subst e; simp [hj]
    · have : ¬ j = i := fun h => e h.symm
      simp [hj, e, this]
  · by_cases e : i = j
    · subst e; simp [hj]
    · simp [hj, e]
theorem ints_set {f f' : Nat → Nat} {n i : Nat} {x : Int} (hx : x = f' i) (h : ∀ j, j ≠ i → f' j = f j) : (ints f n).set i (.int .i64 x) = ints f' n := by
  unfold ints
  rw [vals_set]
  apply List.map_congr_left
  intro j _
  by_cases e : j = i
  · subst e; simp [hx]
  · simp [e, h j e]
theorem bools_set {f f' : Nat → Bool} {n i : Nat} {x : Bool} (hx : x = f' i) (h : ∀ j, j ≠ i → f' j = f j) : (bools f n).set i (.bool x) = bools f' n := by
  unfold bools
  rw [vals_set]
  apply List.map_congr_left
  intro j _
  by_cases e : j = i
  · subst e; simp [hx]
  · simp [e, h j e]

/-- Where a run lies: its struct's block, its fields' values, the stacks' and the children's slices. -/
structure Lay where
  r : Nat
  vch : Value
  vnx : Value
  vou : Value
  vpa : Value
  vst : Value
  vop : Value
  vs : Nat → Value
  vc : Nat → Value

/-- What a run's memory says, field by field. -/
structure D where
  n : Nat
  T : Nat
  par : Nat → Int
  ch : Nat → List Nat
  nx : Nat → Nat
  ou : Nat → Nat
  opn : Nat → Bool
  stk : Nat → List Nat
  mov : Nat
def D.top (s : D) (t : Nat) : Nat := (s.stk t).getLastD 0
/-- A state's data. -/
def G.data (s : G) : D := { n := s.n, T := s.T, par := s.par, ch := s.ch, nx := s.nx, ou := s.ou, opn := s.opn, stk := s.stk, mov := s.mov }

/-- A run in memory. Its own blocks bear the label k; what is never written into bears 0. -/
structure RunRaw (w : World) (lab : Nat → Nat) (k : Nat) (L : Lay) (s : D) : Prop where
  k0 : k ≠ 0
  blk : w.heap[L.r]? = some (.cells #[L.vch, L.vnx, L.vou, L.vpa, L.vst, L.vop, .int .i64 s.mov] 67 (0, 0))
  ch : w.ownsRow 0 22 1 L.vch s.n ((List.range s.n).map L.vc)
  nx : w.ownsRow 0 3 1 L.vnx s.n (ints s.nx s.n)
  ou : w.ownsRow 0 3 1 L.vou s.n (ints s.ou s.n)
  pa : w.ownsRow 0 3 1 L.vpa s.n ((List.range s.n).map fun i => .int .i64 (s.par i))
  st : w.ownsRow 0 22 1 L.vst s.T ((List.range s.T).map L.vs)
  op : w.ownsRow 0 4 1 L.vop s.n (bools s.opn s.n)
  cs : ∀ p, p < s.n → w.ownsRow 0 3 1 (L.vc p) (s.ch p).length (intl (s.ch p))
  ss : ∀ t, t < s.T → w.ownsRow 0 3 1 (L.vs t) (s.stk t).length (intl (s.stk t))
  lr : lab L.r = k
  lch : ∀ g, L.vch.ownBlock = some g → lab g = 0
  lnx : ∀ g, L.vnx.ownBlock = some g → lab g = k
  lou : ∀ g, L.vou.ownBlock = some g → lab g = k
  lpa : ∀ g, L.vpa.ownBlock = some g → lab g = 0
  lst : ∀ g, L.vst.ownBlock = some g → lab g = k
  lop : ∀ g, L.vop.ownBlock = some g → lab g = k
  lcs : ∀ p, p < s.n → ∀ g, (L.vc p).ownBlock = some g → lab g = 0
  lss : ∀ t, t < s.T → ∀ g, (L.vs t).ownBlock = some g → lab g = k
  d1 : ∀ g, L.vnx.ownBlock = some g → L.vou.ownBlock ≠ some g
  d2 : ∀ t, t < s.T → ∀ g, (L.vs t).ownBlock = some g → L.vnx.ownBlock ≠ some g ∧ L.vou.ownBlock ≠ some g
  d3 : ∀ t u, t < s.T → u < s.T → t ≠ u → ∀ g, (L.vs t).ownBlock = some g → (L.vs u).ownBlock ≠ some g

/-- w' is w, but for new blocks and for the blocks of label k. -/
structure Keeps (lab : Nat → Nat) (k : Nat) (w w' : World) : Prop where
  os : w'.os = w.os
  tape : w'.tape = w.tape
  output : w'.output = w.output
  size : w.heap.size ≤ w'.heap.size
  block : ∀ b, b < w.heap.size → lab b ≠ k → w'.heap[b]? = w.heap[b]?

/-- The labels behind: new blocks bear k. -/
def relab (lab : Nat → Nat) (n k : Nat) : Nat → Nat := fun b => if b < n then lab b else k
theorem relab_lt {lab : Nat → Nat} {n k b : Nat} (h : b < n) : relab lab n k b = lab b := by simp [relab, h]
theorem relab_ge {lab : Nat → Nat} {n k b : Nat} (h : n ≤ b) : relab lab n k b = k := by simp [relab]; omega

section
variable {w w' : World} {lab lab' : Nat → Nat} {k : Nat} {L : Lay} {s : D}

theorem RunRaw.rlt (h : RunRaw w lab k L s) : L.r < w.heap.size := (Array.getElem?_eq_some_iff.1 h.blk).1

/-- A run is as it was where its blocks are. -/
theorem RunRaw.frame (h : RunRaw w lab k L s) (hb : ∀ b, b < w.heap.size → (lab b = k ∨ lab b = 0) → w'.heap[b]? = w.heap[b]?) (hl : ∀ b, b < w.heap.size → lab' b = lab b) : RunRaw w' lab' k L s where
  k0 := h.k0
  blk := by rw [hb _ h.rlt (.inl h.lr)]; exact h.blk
  ch := own_congr h.ch fun g hg => hb g (own_lt h.ch hg) (.inr (h.lch g hg))
  nx := own_congr h.nx fun g hg => hb g (own_lt h.nx hg) (.inl (h.lnx g hg))
  ou := own_congr h.ou fun g hg => hb g (own_lt h.ou hg) (.inl (h.lou g hg))
  pa := own_congr h.pa fun g hg => hb g (own_lt h.pa hg) (.inr (h.lpa g hg))
  st := own_congr h.st fun g hg => hb g (own_lt h.st hg) (.inl (h.lst g hg))
  op := own_congr h.op fun g hg => hb g (own_lt h.op hg) (.inl (h.lop g hg))
  cs := fun p hp => own_congr (h.cs p hp) fun g hg => hb g (own_lt (h.cs p hp) hg) (.inr (h.lcs p hp g hg))
  ss := fun t ht => own_congr (h.ss t ht) fun g hg => hb g (own_lt (h.ss t ht) hg) (.inl (h.lss t ht g hg))
  lr := by rw [hl _ h.rlt]; exact h.lr
  lch := fun g hg => by rw [hl _ (own_lt h.ch hg)]; exact h.lch g hg
  lnx := fun g hg => by rw [hl _ (own_lt h.nx hg)]; exact h.lnx g hg
  lou := fun g hg => by rw [hl _ (own_lt h.ou hg)]; exact h.lou g hg
  lpa := fun g hg => by rw [hl _ (own_lt h.pa hg)]; exact h.lpa g hg
  lst := fun g hg => by rw [hl _ (own_lt h.st hg)]; exact h.lst g hg
  lop := fun g hg => by rw [hl _ (own_lt h.op hg)]; exact h.lop g hg
  lcs := fun p hp g hg => by rw [hl _ (own_lt (h.cs p hp) hg)]; exact h.lcs p hp g hg
  lss := fun t ht g hg => by rw [hl _ (own_lt (h.ss t ht) hg)]; exact h.lss t ht g hg
  d1 := h.d1
  d2 := h.d2
  d3 := h.d3

theorem RunRaw.below (h : RunRaw w lab k L s) (hb : Below w.heap.size w w') : RunRaw w' lab k L s :=
  h.frame (fun b hlt _ => hb.block b hlt) fun _ _ => rfl

theorem Keeps.refl (lab : Nat → Nat) (k : Nat) (w : World) : Keeps lab k w w := ⟨rfl, rfl, rfl, Nat.le_refl _, fun _ _ _ => rfl⟩
theorem Keeps.trans {a b c : World} (h : Keeps lab k a b) (h' : Keeps lab' k b c) (hl : ∀ x, x < a.heap.size → lab' x = lab x) : Keeps lab k a c :=
  ⟨h'.os.trans h.os, h'.tape.trans h.tape, h'.output.trans h.output, Nat.le_trans h.size h'.size, fun x hx hk => (h'.block x (Nat.lt_of_lt_of_le hx h.size) (by rw [hl x hx]; exact hk)).trans (h.block x hx hk)⟩
theorem Keeps.below_trans {a b c : World} (h : Keeps lab k a b) (h' : Below b.heap.size b c) : Keeps lab k a c :=
  ⟨h'.os.trans h.os, h'.tape.trans h.tape, h'.output.trans h.output, Nat.le_trans h.size h'.size, fun x hx hk => (h'.block x (Nat.lt_of_lt_of_le hx h.size)).trans (h.block x hx hk)⟩
theorem Keeps.of_below (h : Below w.heap.size w w') : Keeps lab k w w' := ⟨h.os, h.tape, h.output, h.size, fun x hx _ => h.block x hx⟩
theorem Keeps.alloc {a b : World} (h : Keeps lab k a b) (o : Obj) : Keeps lab k a (b.alloc o) :=
  h.below_trans ((Below.refl _ _).alloc (Nat.le_refl _) o)
theorem Keeps.drewN {a b : World} (h : Keeps lab k a b) (n : Nat) : Keeps lab k a (b.drewN n) := ⟨h.os, h.tape, h.output, h.size, h.block⟩
theorem Keeps.drew {a b : World} (h : Keeps lab k a b) : Keeps lab k a b.drew := ⟨h.os, h.tape, h.output, h.size, h.block⟩
theorem Keeps.setCell {a b : World} (h : Keeps lab k a b) {p : Addr} (hp : p.block < a.heap.size → lab p.block = k) (u : Value) : Keeps lab k a (b.setCell p u) :=
  ⟨h.os, h.tape, h.output, by simpa [World.setCell] using h.size, fun x hx hk => (Below.heap_setCell b p u x (fun e => hk (e ▸ hp (e ▸ hx)))).trans (h.block x hx hk)⟩
theorem Keeps.grown {a b c : World} {row : Option Nat} (h : Keeps lab k a b) (hg : b.grownBy c row) (hr : ∀ g, row = some g → g < a.heap.size → lab g = k) : Keeps lab k a c :=
  ⟨hg.os.trans h.os, hg.tape.trans h.tape, hg.output.trans h.output, Nat.le_trans h.size hg.size, fun x hx hk => (hg.block x (Nat.lt_of_lt_of_le hx h.size) (fun e => hk (hr x e.symm hx))).trans (h.block x hx hk)⟩
/-- Keeps, for a label that no old block bears, is Below. -/
theorem Keeps.below {a b : World} (h : Keeps lab k a b) {B : Nat} (hB : B ≤ a.heap.size) (hl : ∀ x, x < B → lab x ≠ k) : Below B a b :=
  ⟨h.os, h.tape, h.output, h.size, fun x hx => h.block x (Nat.lt_of_lt_of_le hx hB) (hl x hx)⟩

/-- Another run is not touched. -/
theorem RunRaw.other {j : Nat} (h : RunRaw w lab j L s) (hk : Keeps lab k w w') (hj : j ≠ k) (h0 : 0 ≠ k) : RunRaw w' (relab lab w.heap.size k) j L s :=
  h.frame (fun b hb hl => hk.block b hb (by rcases hl with e | e <;> omega)) fun b hb => relab_lt hb

/-! What a store does. -/
theorem set_own {w : World} {base size n : Nat} {e : TypeId} {v : Value} {xs : List Value} (h : w.ownsRow base e size v n xs) {g0 i : Nat} (u : Value) (hne : v.ownBlock ≠ some g0) : (w.setCell ⟨g0, i, none⟩ u).ownsRow base e size v n xs :=
  own_congr h fun g hg => Below.heap_setCell w _ u g (fun e => hne (by rw [hg]; exact congrArg some e))
theorem set_blk {w : World} {r g0 i : Nat} (u : Value) (hne : r ≠ g0) : (w.setCell ⟨g0, i, none⟩ u).heap[r]? = w.heap[r]? := Below.heap_setCell w _ u r hne
theorem lab_ne {lab : Nat → Nat} {a b : Option Nat} {x y : Nat} (ha : ∀ g, a = some g → lab g = x) (hb : ∀ g, b = some g → lab g = y) (hxy : x ≠ y) {g : Nat} (h : a = some g) : b ≠ some g :=
  fun h' => hxy ((ha g h).symm.trans (hb g h'))
theorem blk_set {w : World} {r : Nat} {cs : Array Value} {t : TypeId} (h : w.heap[r]? = some (.cells cs t (0, 0))) (i : Nat) (u : Value) : (w.setCell ⟨r, i, none⟩ u).heap[r]? = some (.cells (cs.setIfInBounds i u) t (0, 0)) := heap_setCell_same w r i cs t u h

theorem RunRaw.relabel (h : RunRaw w lab k L s) (h1 : ∀ g, lab g = k → lab' g = k) (h2 : ∀ g, lab g = 0 → lab' g = 0) : RunRaw w lab' k L s :=
  { h with
    lr := h1 _ h.lr
    lch := fun g hg => h2 _ (h.lch g hg)
    lnx := fun g hg => h1 _ (h.lnx g hg)
    lou := fun g hg => h1 _ (h.lou g hg)
    lpa := fun g hg => h2 _ (h.lpa g hg)
    lst := fun g hg => h1 _ (h.lst g hg)
    lop := fun g hg => h1 _ (h.lop g hg)
    lcs := fun p hp g hg => h2 _ (h.lcs p hp g hg)
    lss := fun t ht g hg => h1 _ (h.lss t ht g hg) }

/-- A store outside the run. -/
theorem RunRaw.setFar (h : RunRaw w lab k L s) {p : Addr} (h1 : lab p.block ≠ k) (h2 : lab p.block ≠ 0) (u : Value) : RunRaw (w.setCell p u) lab k L s :=
  h.frame (fun b _ hl => Below.heap_setCell w p u b (fun e => by subst e; rcases hl with e | e; exact h1 e; exact h2 e)) fun _ _ => rfl

theorem RunRaw.setMov (h : RunRaw w lab k L s) (m : Nat) (x : Int) (hx : x = m) : RunRaw (w.setCell ⟨L.r, 6, none⟩ (.int .i64 x)) lab k L { s with mov := m } where
  k0 := h.k0
  blk := by subst hx; rw [blk_set h.blk]; rfl
  ch := set_own h.ch _ (own_blk_ne h.ch h.blk (by decide))
  nx := set_own h.nx _ (own_blk_ne h.nx h.blk (by decide))
  ou := set_own h.ou _ (own_blk_ne h.ou h.blk (by decide))
  pa := set_own h.pa _ (own_blk_ne h.pa h.blk (by decide))
  st := set_own h.st _ (own_blk_ne h.st h.blk (by decide))
  op := set_own h.op _ (own_blk_ne h.op h.blk (by decide))
  cs := fun p hp => set_own (h.cs p hp) _ (own_blk_ne (h.cs p hp) h.blk (by decide))
  ss := fun t ht => set_own (h.ss t ht) _ (own_blk_ne (h.ss t ht) h.blk (by decide))
  lr := h.lr
  lch := h.lch
  lnx := h.lnx
  lou := h.lou
  lpa := h.lpa
  lst := h.lst
  lop := h.lop
  lcs := h.lcs
  lss := h.lss
  d1 := h.d1
  d2 := h.d2
  d3 := h.d3

theorem RunRaw.setOpn (h : RunRaw w lab k L s) {g c i : Nat} (hv : L.vop = .slice (some ⟨g, 0, none⟩) s.n c) (b : Bool) (f : Nat → Bool) (hf : f i = b) (hf' : ∀ j, j ≠ i → f j = s.opn j) :
    RunRaw (w.setCell ⟨g, i, none⟩ (.bool b)) lab k L { s with opn := f } where
  k0 := h.k0
  blk := by rw [set_blk _ (fun e => own_blk_ne h.op h.blk (by decide) (by rw [hv]; exact congrArg some e.symm))]; exact h.blk
  ch := set_own h.ch _ (fun e => own_ne h.ch h.op (by decide) e (by rw [hv]; rfl))
  nx := set_own h.nx _ (fun e => own_ne h.nx h.op (by decide) e (by rw [hv]; rfl))
  ou := set_own h.ou _ (fun e => own_ne h.ou h.op (by decide) e (by rw [hv]; rfl))
  pa := set_own h.pa _ (fun e => own_ne h.pa h.op (by decide) e (by rw [hv]; rfl))
  st := set_own h.st _ (fun e => own_ne h.st h.op (by decide) e (by rw [hv]; rfl))
  op := by
    have h1 := h.op
    rw [hv] at h1 ⊢
    have h2 := (h1.stored i (.bool b)).1
    rw [bools_set (f' := f) hf.symm hf'] at h2
    exact h2
  cs := fun p hp => set_own (h.cs p hp) _ (fun e => own_ne (h.cs p hp) h.op (by decide) e (by rw [hv]; rfl))
  ss := fun t ht => set_own (h.ss t ht) _ (fun e => own_ne (h.ss t ht) h.op (by decide) e (by rw [hv]; rfl))
  lr := h.lr
  lch := h.lch
  lnx := h.lnx
  lou := h.lou
  lpa := h.lpa
  lst := h.lst
  lop := h.lop
  lcs := h.lcs
  lss := h.lss
  d1 := h.d1
  d2 := h.d2
  d3 := h.d3

theorem RunRaw.setNx (h : RunRaw w lab k L s) {g c i : Nat} (hv : L.vnx = .slice (some ⟨g, 0, none⟩) s.n c) (x : Int) (f : Nat → Nat) (hf : x = f i) (hf' : ∀ j, j ≠ i → f j = s.nx j) :
    RunRaw (w.setCell ⟨g, i, none⟩ (.int .i64 x)) lab k L { s with nx := f } :=
  have hb : L.vnx.ownBlock = some g := by rw [hv]; rfl
  { k0 := h.k0
    blk := by rw [set_blk _ (fun e => own_blk_ne h.nx h.blk (by decide) (by rw [hb]; exact congrArg some e.symm))]; exact h.blk
    ch := set_own h.ch _ (fun e => own_ne h.ch h.nx (by decide) e hb)
    nx := by
      have h1 := h.nx
      rw [hv] at h1 ⊢
      have h2 := (h1.stored i (.int .i64 x)).1
      rw [ints_set (f' := f) hf hf'] at h2
      exact h2
    ou := set_own h.ou _ (h.d1 g hb)
    pa := set_own h.pa _ (lab_ne h.lnx h.lpa h.k0 hb)
    st := set_own h.st _ (fun e => own_ne h.st h.nx (by decide) e hb)
    op := set_own h.op _ (fun e => own_ne h.op h.nx (by decide) e hb)
    cs := fun p hp => set_own (h.cs p hp) _ (lab_ne h.lnx (h.lcs p hp) h.k0 hb)
    ss := fun t ht => set_own (h.ss t ht) _ (fun e => (h.d2 t ht g e).1 hb)
    lr := h.lr
    lch := h.lch
    lnx := h.lnx
    lou := h.lou
    lpa := h.lpa
    lst := h.lst
    lop := h.lop
    lcs := h.lcs
    lss := h.lss
    d1 := h.d1
    d2 := h.d2
    d3 := h.d3 }

theorem RunRaw.setOu (h : RunRaw w lab k L s) {g c i : Nat} (hv : L.vou = .slice (some ⟨g, 0, none⟩) s.n c) (x : Int) (f : Nat → Nat) (hf : x = f i) (hf' : ∀ j, j ≠ i → f j = s.ou j) :
    RunRaw (w.setCell ⟨g, i, none⟩ (.int .i64 x)) lab k L { s with ou := f } :=
  have hb : L.vou.ownBlock = some g := by rw [hv]; rfl
  { k0 := h.k0
    blk := by rw [set_blk _ (fun e => own_blk_ne h.ou h.blk (by decide) (by rw [hb]; exact congrArg some e.symm))]; exact h.blk
    ch := set_own h.ch _ (fun e => own_ne h.ch h.ou (by decide) e hb)
    ou := by
      have h1 := h.ou
      rw [hv] at h1 ⊢
      have h2 := (h1.stored i (.int .i64 x)).1
      rw [ints_set (f' := f) hf hf'] at h2
      exact h2
    nx := set_own h.nx _ (fun e => h.d1 g e hb)
    pa := set_own h.pa _ (lab_ne h.lou h.lpa h.k0 hb)
    st := set_own h.st _ (fun e => own_ne h.st h.ou (by decide) e hb)
    op := set_own h.op _ (fun e => own_ne h.op h.ou (by decide) e hb)
    cs := fun p hp => set_own (h.cs p hp) _ (lab_ne h.lou (h.lcs p hp) h.k0 hb)
    ss := fun t ht => set_own (h.ss t ht) _ (fun e => (h.d2 t ht g e).2 hb)
    lr := h.lr
    lch := h.lch
    lnx := h.lnx
    lou := h.lou
    lpa := h.lpa
    lst := h.lst
    lop := h.lop
    lcs := h.lcs
    lss := h.lss
    d1 := h.d1
    d2 := h.d2
    d3 := h.d3 }

/-- A stack's slice is written anew; what the new value owns is told in this very world. -/
theorem RunRaw.setStk (h : RunRaw w lab k L s) {g c t : Nat} (hv : L.vst = .slice (some ⟨g, 0, none⟩) s.T c) (v : Value) (l : List Nat) (vs : Nat → Value) (stk : Nat → List Nat)
    (e1 : vs t = v) (e2 : ∀ u, u ≠ t → vs u = L.vs u) (e3 : stk t = l) (e4 : ∀ u, u ≠ t → stk u = s.stk u)
    (ho : w.ownsRow 0 3 1 v l.length (intl l)) (hl : ∀ b, v.ownBlock = some b → lab b = k ∧ L.vnx.ownBlock ≠ some b ∧ L.vou.ownBlock ≠ some b ∧ ∀ u, u < s.T → u ≠ t → (L.vs u).ownBlock ≠ some b) :
    RunRaw (w.setCell ⟨g, t, none⟩ v) lab k { L with vs := vs } { s with stk := stk } :=
  have hb : L.vst.ownBlock = some g := by rw [hv]; rfl
  { k0 := h.k0
    blk := by rw [set_blk _ (fun e => own_blk_ne h.st h.blk (by decide) (by rw [hb]; exact congrArg some e.symm))]; exact h.blk
    ch := set_own h.ch _ (lab_ne h.lst h.lch h.k0 hb)
    nx := set_own h.nx _ (fun e => own_ne h.nx h.st (by decide) e hb)
    ou := set_own h.ou _ (fun e => own_ne h.ou h.st (by decide) e hb)
    pa := set_own h.pa _ (fun e => own_ne h.pa h.st (by decide) e hb)
    st := by
      have h1 := h.st
      show (w.setCell ⟨g, t, none⟩ v).ownsRow 0 22 1 L.vst s.T ((List.range s.T).map vs)
      rw [hv] at h1 ⊢
      have h2 := (h1.stored t v).1
      rw [vals_set] at h2
      have e : (List.range s.T).map vs = (List.range s.T).map fun j => if j = t then v else L.vs j := by
        apply List.map_congr_left
        intro j _
        by_cases ej : j = t
        · subst ej; simp [e1]
        · simp [ej, e2 j ej]
      rw [e]; exact h2
    op := set_own h.op _ (fun e => own_ne h.op h.st (by decide) e hb)
    cs := fun p hp => set_own (h.cs p hp) _ (fun e => own_ne (h.cs p hp) h.st (by decide) e hb)
    ss := fun u hu => by
      show (w.setCell ⟨g, t, none⟩ v).ownsRow 0 3 1 (vs u) (stk u).length (intl (stk u))
      by_cases e : u = t
      · subst e
        rw [e1, e3]
        exact set_own ho _ (fun e => own_ne ho h.st (by decide) e hb)
      · rw [e2 u e, e4 u e]
        exact set_own (h.ss u hu) _ (fun e => own_ne (h.ss u hu) h.st (by decide) e hb)
    lr := h.lr
    lch := h.lch
    lnx := h.lnx
    lou := h.lou
    lpa := h.lpa
    lst := h.lst
    lop := h.lop
    lcs := h.lcs
    lss := fun u hu b hb' => by
      change (vs u).ownBlock = some b at hb'
      by_cases e : u = t
      · subst e; rw [e1] at hb'; exact (hl b hb').1
      · rw [e2 u e] at hb'; exact h.lss u hu b hb'
    d1 := h.d1
    d2 := fun u hu b hb' => by
      change (vs u).ownBlock = some b at hb'
      by_cases e : u = t
      · subst e; rw [e1] at hb'; exact ⟨(hl b hb').2.1, (hl b hb').2.2.1⟩
      · rw [e2 u e] at hb'; exact h.d2 u hu b hb'
    d3 := fun u x hu hx hux b hb' => by
      change (vs u).ownBlock = some b at hb'
      show (vs x).ownBlock ≠ some b
      by_cases e : u = t
      · subst e
        rw [e1] at hb'
        rw [e2 x (fun e => hux e.symm)]
        exact (hl b hb').2.2.2 x hx (fun e => hux e.symm)
      · rw [e2 u e] at hb'
        by_cases e' : x = t
        · subst e'
          rw [e1]
          intro hv'
          exact (hl b hv').2.2.2 u hu e hb'
        · rw [e2 x e']
          exact h.d3 u x hu hx hux b hb' }

/-! What is read. -/
theorem RunRaw.cell (h : RunRaw w lab k L s) (i : Nat) : w.cell? ⟨L.r, i, none⟩ = #[L.vch, L.vnx, L.vou, L.vpa, L.vst, L.vop, .int .i64 s.mov][i]? := cell_of_row w L.r i _ 67 (0, 0) h.blk
theorem RunRaw.free (h : RunRaw w lab k L s) (i : Nat) : w.frozen? ⟨L.r, i, none⟩ = false := frozen_of_row w L.r i _ 67 h.blk

/-- The seven fields' cells. -/
theorem RunRaw.fields (h : RunRaw w lab k L s) : w.cell? ⟨L.r, 0, none⟩ = some L.vch ∧ w.cell? ⟨L.r, 1, none⟩ = some L.vnx ∧ w.cell? ⟨L.r, 2, none⟩ = some L.vou ∧ w.cell? ⟨L.r, 3, none⟩ = some L.vpa ∧
    w.cell? ⟨L.r, 4, none⟩ = some L.vst ∧ w.cell? ⟨L.r, 5, none⟩ = some L.vop ∧ w.cell? ⟨L.r, 6, none⟩ = some (.int .i64 s.mov) :=
  ⟨h.cell 0, h.cell 1, h.cell 2, h.cell 3, h.cell 4, h.cell 5, h.cell 6⟩
/-- The stacks: their slice's form, each stack's slice. -/
theorem RunRaw.stacks (h : RunRaw w lab k L s) (hT : 1 ≤ s.T) : ∃ gs cs, L.vst = .slice (some ⟨gs, 0, none⟩) s.T cs ∧ s.T ≤ cs ∧ cs ≤ maxLen ∧ gs < w.heap.size ∧ (∀ t, t < s.T → w.cell? ⟨gs, t, none⟩ = some (L.vs t)) ∧ ∀ t, w.frozen? ⟨gs, t, none⟩ = false := by
  obtain ⟨g, cap, hv, _, hl, h1, h2, hc, hf⟩ := own_some h.st (by omega)
  exact ⟨g, cap, hv, h1, h2, hl, fun t ht => hc t _ (vals_get ht), hf⟩
theorem RunRaw.chs (h : RunRaw w lab k L s) (hn : 1 ≤ s.n) : ∃ gs cs, L.vch = .slice (some ⟨gs, 0, none⟩) s.n cs ∧ s.n ≤ cs ∧ cs ≤ maxLen ∧ gs < w.heap.size ∧ (∀ t, t < s.n → w.cell? ⟨gs, t, none⟩ = some (L.vc t)) := by
  obtain ⟨g, cap, hv, _, hl, h1, h2, hc, hf⟩ := own_some h.ch (by omega)
  exact ⟨g, cap, hv, h1, h2, hl, fun t ht => hc t _ (vals_get ht)⟩
theorem RunRaw.nxs (h : RunRaw w lab k L s) (hn : 1 ≤ s.n) : ∃ gs cs, L.vnx = .slice (some ⟨gs, 0, none⟩) s.n cs ∧ s.n ≤ cs ∧ cs ≤ maxLen ∧ gs < w.heap.size ∧ (∀ t, t < s.n → w.cell? ⟨gs, t, none⟩ = some (.int .i64 (s.nx t))) ∧ ∀ t, w.frozen? ⟨gs, t, none⟩ = false := by
  obtain ⟨g, cap, hv, _, hl, h1, h2, hc, hf⟩ := own_some h.nx (by omega)
  exact ⟨g, cap, hv, h1, h2, hl, fun t ht => hc t _ (ints_get ht), hf⟩
theorem RunRaw.ous (h : RunRaw w lab k L s) (hn : 1 ≤ s.n) : ∃ gs cs, L.vou = .slice (some ⟨gs, 0, none⟩) s.n cs ∧ s.n ≤ cs ∧ cs ≤ maxLen ∧ gs < w.heap.size ∧ (∀ t, t < s.n → w.cell? ⟨gs, t, none⟩ = some (.int .i64 (s.ou t))) ∧ ∀ t, w.frozen? ⟨gs, t, none⟩ = false := by
  obtain ⟨g, cap, hv, _, hl, h1, h2, hc, hf⟩ := own_some h.ou (by omega)
  exact ⟨g, cap, hv, h1, h2, hl, fun t ht => hc t _ (ints_get ht), hf⟩
theorem RunRaw.pas (h : RunRaw w lab k L s) (hn : 1 ≤ s.n) : ∃ gs cs, L.vpa = .slice (some ⟨gs, 0, none⟩) s.n cs ∧ s.n ≤ cs ∧ cs ≤ maxLen ∧ gs < w.heap.size ∧ (∀ t, t < s.n → w.cell? ⟨gs, t, none⟩ = some (.int .i64 (s.par t))) := by
  obtain ⟨g, cap, hv, _, hl, h1, h2, hc, hf⟩ := own_some h.pa (by omega)
  exact ⟨g, cap, hv, h1, h2, hl, fun t ht => hc t _ (vals_get ht)⟩
theorem RunRaw.ops (h : RunRaw w lab k L s) (hn : 1 ≤ s.n) : ∃ gs cs, L.vop = .slice (some ⟨gs, 0, none⟩) s.n cs ∧ s.n ≤ cs ∧ cs ≤ maxLen ∧ gs < w.heap.size ∧ (∀ t, t < s.n → w.cell? ⟨gs, t, none⟩ = some (.bool (s.opn t))) ∧ ∀ t, w.frozen? ⟨gs, t, none⟩ = false := by
  obtain ⟨g, cap, hv, _, hl, h1, h2, hc, hf⟩ := own_some h.op (by omega)
  exact ⟨g, cap, hv, h1, h2, hl, fun t ht => hc t _ (bools_get ht), hf⟩
/-- A thread's stack: empty, or with a top. -/
theorem RunRaw.stack (h : RunRaw w lab k L s) {t : Nat} (ht : t < s.T) : ∃ A c, L.vs t = .slice A (s.stk t).length c := by
  obtain ⟨A, c, hv, _⟩ := own_any (h.ss t ht)
  exact ⟨A, c, hv⟩
theorem RunRaw.stackTop (h : RunRaw w lab k L s) {t : Nat} (ht : t < s.T) (hne : (s.stk t).isEmpty = false) : ∃ g c, L.vs t = .slice (some ⟨g, 0, none⟩) (s.stk t).length c ∧ (s.stk t).length ≤ c ∧ c ≤ maxLen ∧ g < w.heap.size ∧ (L.vs t).ownBlock = some g ∧
    w.cell? ⟨g, (s.stk t).length - 1, none⟩ = some (.int .i64 (s.top t)) := by
  have hpos : 0 < (s.stk t).length := by
    cases e : s.stk t with
    | nil => rw [e] at hne; cases hne
    | cons => simp
  obtain ⟨g, cap, hv, hob, hl, h1, h2, hc, hf⟩ := own_some (h.ss t ht) hpos
  refine ⟨g, cap, hv, h1, h2, hl, hob, hc _ _ (intl_get ?_)⟩
  unfold D.top
  rw [List.getLastD_eq_getLast?, ← List.getLast?_eq_getElem?]
  cases e : s.stk t with
  | nil => rw [e] at hne; cases hne
  | cons x l => simp [List.getLast?_cons]
theorem RunRaw.kids (h : RunRaw w lab k L s) {p : Nat} (hp : p < s.n) : ∃ A c, L.vc p = .slice A (s.ch p).length c := by
  obtain ⟨A, c, hv, _⟩ := own_any (h.cs p hp)
  exact ⟨A, c, hv⟩
theorem RunRaw.kidAt (h : RunRaw w lab k L s) {p j c : Nat} (hp : p < s.n) (hj : (s.ch p)[j]? = some c) : ∃ g cap, L.vc p = .slice (some ⟨g, 0, none⟩) (s.ch p).length cap ∧ g < w.heap.size ∧ w.cell? ⟨g, j, none⟩ = some (.int .i64 c) := by
  have hlt := (List.getElem?_eq_some_iff.1 hj).1
  obtain ⟨g, cap, hv, hob, hl, h1, h2, hc, hf⟩ := own_some (h.cs p hp) (by omega)
  exact ⟨g, cap, hv, hl, hc _ _ (intl_get hj)⟩
end

/-- A run in memory, at a state of the plain machine. -/
def RunAt (w : World) (lab : Nat → Nat) (k : Nat) (L : Lay) (s : G) : Prop := RunRaw w lab k L s.data
section
variable {w w' : World} {lab lab' : Nat → Nat} {k : Nat} {L : Lay} {s : G}
theorem RunAt.rlt (h : RunAt w lab k L s) : L.r < w.heap.size := RunRaw.rlt h
theorem RunAt.frame (h : RunAt w lab k L s) (hb : ∀ b, b < w.heap.size → (lab b = k ∨ lab b = 0) → w'.heap[b]? = w.heap[b]?) (hl : ∀ b, b < w.heap.size → lab' b = lab b) : RunAt w' lab' k L s := RunRaw.frame h hb hl
theorem RunAt.below (h : RunAt w lab k L s) (hb : Below w.heap.size w w') : RunAt w' lab k L s := RunRaw.below h hb
theorem RunAt.other {j : Nat} (h : RunAt w lab j L s) (hk : Keeps lab k w w') (hj : j ≠ k) (h0 : 0 ≠ k) (hl : ∀ b, b < w.heap.size → lab' b = lab b) : RunAt w' lab' j L s :=
  h.frame (fun b hb hl => hk.block b hb (by rcases hl with e | e <;> omega)) hl
theorem RunAt.fields (h : RunAt w lab k L s) : w.cell? ⟨L.r, 0, none⟩ = some L.vch ∧ w.cell? ⟨L.r, 1, none⟩ = some L.vnx ∧ w.cell? ⟨L.r, 2, none⟩ = some L.vou ∧ w.cell? ⟨L.r, 3, none⟩ = some L.vpa ∧
    w.cell? ⟨L.r, 4, none⟩ = some L.vst ∧ w.cell? ⟨L.r, 5, none⟩ = some L.vop ∧ w.cell? ⟨L.r, 6, none⟩ = some (.int .i64 s.mov) := RunRaw.fields h
theorem RunAt.stacks (h : RunAt w lab k L s) (hT : 1 ≤ s.T) : ∃ gs cs, L.vst = .slice (some ⟨gs, 0, none⟩) s.T cs ∧ s.T ≤ cs ∧ cs ≤ maxLen ∧ gs < w.heap.size ∧ (∀ t, t < s.T → w.cell? ⟨gs, t, none⟩ = some (L.vs t)) ∧ ∀ t, w.frozen? ⟨gs, t, none⟩ = false := RunRaw.stacks h hT
theorem RunAt.chs (h : RunAt w lab k L s) (hn : 1 ≤ s.n) : ∃ gs cs, L.vch = .slice (some ⟨gs, 0, none⟩) s.n cs ∧ s.n ≤ cs ∧ cs ≤ maxLen ∧ gs < w.heap.size ∧ (∀ t, t < s.n → w.cell? ⟨gs, t, none⟩ = some (L.vc t)) := RunRaw.chs h hn
theorem RunAt.nxs (h : RunAt w lab k L s) (hn : 1 ≤ s.n) : ∃ gs cs, L.vnx = .slice (some ⟨gs, 0, none⟩) s.n cs ∧ s.n ≤ cs ∧ cs ≤ maxLen ∧ gs < w.heap.size ∧ (∀ t, t < s.n → w.cell? ⟨gs, t, none⟩ = some (.int .i64 (s.nx t))) ∧ ∀ t, w.frozen? ⟨gs, t, none⟩ = false := RunRaw.nxs h hn
theorem RunAt.ous (h : RunAt w lab k L s) (hn : 1 ≤ s.n) : ∃ gs cs, L.vou = .slice (some ⟨gs, 0, none⟩) s.n cs ∧ s.n ≤ cs ∧ cs ≤ maxLen ∧ gs < w.heap.size ∧ (∀ t, t < s.n → w.cell? ⟨gs, t, none⟩ = some (.int .i64 (s.ou t))) ∧ ∀ t, w.frozen? ⟨gs, t, none⟩ = false := RunRaw.ous h hn
theorem RunAt.pas (h : RunAt w lab k L s) (hn : 1 ≤ s.n) : ∃ gs cs, L.vpa = .slice (some ⟨gs, 0, none⟩) s.n cs ∧ s.n ≤ cs ∧ cs ≤ maxLen ∧ gs < w.heap.size ∧ (∀ t, t < s.n → w.cell? ⟨gs, t, none⟩ = some (.int .i64 (s.par t))) := RunRaw.pas h hn
theorem RunAt.ops (h : RunAt w lab k L s) (hn : 1 ≤ s.n) : ∃ gs cs, L.vop = .slice (some ⟨gs, 0, none⟩) s.n cs ∧ s.n ≤ cs ∧ cs ≤ maxLen ∧ gs < w.heap.size ∧ (∀ t, t < s.n → w.cell? ⟨gs, t, none⟩ = some (.bool (s.opn t))) ∧ ∀ t, w.frozen? ⟨gs, t, none⟩ = false := RunRaw.ops h hn
theorem RunAt.stack (h : RunAt w lab k L s) {t : Nat} (ht : t < s.T) : ∃ A c, L.vs t = .slice A (s.stk t).length c := RunRaw.stack h ht
theorem RunAt.kids (h : RunAt w lab k L s) {p : Nat} (hp : p < s.n) : ∃ A c, L.vc p = .slice A (s.ch p).length c := RunRaw.kids h hp
end
end Go.Proofs.Ytlncdkdkoamadaa

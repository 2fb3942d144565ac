/-
  MEMORY: what a slice, a program, a unit read as; what new blocks leave of it.
-/
import Derived.Test.YtcelcognmdcenaaRows
import Derived.Test.YtcelcognmdcenaaPure
import Derived.WalkKit
import Derived.Deep.Draws
namespace Go.Proofs.Ytcelcognmdcenaa
open Go.RowKit

theorem below_drewN {B : Nat} {a w : World} (h : Below B a w) (n : Nat) : Below B a (w.drewN n) := ⟨h.os, h.tape, h.output, h.size, h.block⟩
theorem dr2 (w : World) (a b : Nat) : ∃ j, w.drewN j = (w.drewN a).drewN b := ⟨a + b, (World.drewN_drewN _ _ _).symm⟩

section
variable {w w' : World} {base : Nat} {e : TypeId} {size : Nat} {v : Value} {n : Nat} {xs : List Value}

theorem own_congr (h : w.ownsRow base e size v n xs) (he : ∀ g, v.ownBlock = some g → w'.heap[g]? = w.heap[g]?) : w'.ownsRow base e size v n xs := by
  refine ⟨h.1, ?_⟩
  rcases h.2 with h2 | ⟨g, cap, cur, rfl, hb, hg, r⟩
  · exact .inl h2
  · exact .inr ⟨g, cap, cur, rfl, hb, by rw [he g rfl]; exact hg, r⟩
theorem own_base (h : w.ownsRow base e size v n xs) {b' : Nat} (hb : b' ≤ base) : w.ownsRow b' e size v n xs := by
  refine ⟨h.1, ?_⟩
  rcases h.2 with h2 | ⟨g, cap, cur, hv, hg, r⟩
  · exact .inl h2
  · exact .inr ⟨g, cap, cur, hv, Nat.le_trans hb hg, r⟩
theorem own_lt (h : w.ownsRow base e size v n xs) {g : Nat} (hg : v.ownBlock = some g) : g < w.heap.size := (h.lt g hg).2
theorem own_below (h : w.ownsRow base e size v n xs) (hb : Below w.heap.size w w') : w'.ownsRow base e size v n xs :=
  own_congr h fun g hg => hb.block g (own_lt h hg)
theorem own_slice (h : w.ownsRow base e size v n xs) : ∃ A c, v = .slice A n c ∧ n ≤ c ∧ c ≤ maxLen := by
  obtain ⟨hl, ⟨rfl, rfl⟩ | ⟨g, cap, cur, rfl, _, _, h1, h2, _⟩⟩ := h
  · exact ⟨none, 0, rfl, Nat.le_refl _, Nat.zero_le _⟩
  · exact ⟨_, _, rfl, h1, h2⟩
theorem own_ne {base' : Nat} {e' : TypeId} {size' n' : Nat} {v' : Value} {ys : List Value} (h : w.ownsRow base e size v n xs) (h' : w.ownsRow base' e' size' v' n' ys) (hne : e ≠ e') {g : Nat} (hg : v.ownBlock = some g) : v'.ownBlock ≠ some g := by
  intro hg'
  rcases h.2 with ⟨rfl, _⟩ | ⟨a, cap, cur, rfl, _, ha, _⟩
  · cases hg
  · rcases h'.2 with ⟨rfl, _⟩ | ⟨b, cap', cur', rfl, _, hb, _⟩
    · cases hg'
    · cases hg; cases hg'
      rw [ha] at hb
      injection hb with hb
      injection hb with _ ht
      exact hne ht
theorem own_blk_ne (h : w.ownsRow base e size v n xs) {g : Nat} {cs : Array Value} {t : TypeId} (hg : w.heap[g]? = some (.cells cs t (0, 0))) (hne : e ≠ t) : v.ownBlock ≠ some g := by
  intro hv
  rcases h.2 with ⟨rfl, _⟩ | ⟨a, cap, cur, rfl, _, ha, _⟩
  · cases hv
  · cases hv
    rw [hg] at ha
    injection ha with ha
    injection ha with _ ht
    exact hne ht.symm
end
theorem set_own {w : World} {base size n : Nat} {e : TypeId} {v : Value} {xs : List Value} (h : w.ownsRow base e size v n xs) {g0 i : Nat} (u : Value) (hne : v.ownBlock ≠ some g0) : (w.setCell ⟨g0, i, none⟩ u).ownsRow base e size v n xs :=
  own_congr h fun g hg => Below.heap_setCell w _ u g (fun e => hne (by rw [hg]; exact congrArg some e))
theorem set_blk {w : World} {r g0 i : Nat} (u : Value) (hne : r ≠ g0) : (w.setCell ⟨g0, i, none⟩ u).heap[r]? = w.heap[r]? := Below.heap_setCell w _ u r hne
theorem blk_set {w : World} {r : Nat} {cs : Array Value} {t : TypeId} (h : w.heap[r]? = some (.cells cs t (0, 0))) (i : Nat) (u : Value) : (w.setCell ⟨r, i, none⟩ u).heap[r]? = some (.cells (cs.setIfInBounds i u) t (0, 0)) := heap_setCell_same w r i cs t u h

/-- The slice v of n elements of sz cells each reads as the cells xs. -/
def Reads (w : World) (sz : Nat) (v : Value) (n : Nat) (xs : List Value) : Prop :=
  xs.length = n * sz ∧ n ≤ maxLen ∧ ∃ A c, v = .slice A n c ∧ (A = none → n = 0 ∧ c = 0) ∧
    (0 < n → ∃ b o, A = some ⟨b, o, none⟩ ∧ b < w.heap.size ∧ ∀ j u, xs[j]? = some u → w.cell? ⟨b, o + j, none⟩ = some u)
section
variable {w w' : World} {sz n : Nat} {v : Value} {xs : List Value}
theorem Reads.below (h : Reads w sz v n xs) (hb : Below w.heap.size w w') : Reads w' sz v n xs := by
  obtain ⟨h1, h2, A, c, h3, h4, h5⟩ := h
  refine ⟨h1, h2, A, c, h3, h4, fun hn => ?_⟩
  obtain ⟨b, o, h6, h7, h8⟩ := h5 hn
  exact ⟨b, o, h6, Nat.lt_of_lt_of_le h7 hb.size, fun j u hu => by rw [hb.cell (p := ⟨b, o + j, none⟩) h7]; exact h8 j u hu⟩
theorem Reads.congr (h : Reads w sz v n xs) (hb : ∀ b o j, v = .slice (some ⟨b, o, none⟩) n j → b < w.heap.size → b < w'.heap.size ∧ w'.heap[b]? = w.heap[b]?) : Reads w' sz v n xs := by
  obtain ⟨h1, h2, A, c, h3, h4, h5⟩ := h
  refine ⟨h1, h2, A, c, h3, h4, fun hn => ?_⟩
  obtain ⟨b, o, h6, h7, h8⟩ := h5 hn
  subst h6
  obtain ⟨h9, h10⟩ := hb b o c h3 h7
  exact ⟨b, o, rfl, h9, fun j u hu => by rw [World.cell?_of_block (w := w) (a := ⟨b, o + j, none⟩) h10]; exact h8 j u hu⟩
theorem Reads.drewN (h : Reads w sz v n xs) (k : Nat) : Reads (w.drewN k) sz v n xs := h.below (below_drewN (Below.refl _ _) k)
theorem Reads.alloc (h : Reads w sz v n xs) (o : Obj) : Reads (w.alloc o) sz v n xs := h.below ((Below.refl _ _).alloc (Nat.le_refl _) o)
theorem Reads.of_own {base : Nat} {e : TypeId} (h : w.ownsRow base e sz v n xs) : Reads w sz v n xs := by
  refine ⟨h.1, ?_⟩
  rcases h.2 with ⟨rfl, rfl⟩ | ⟨g, cap, cur, rfl, hb, hg, hnc, hcm, hcs, ht⟩
  · exact ⟨Nat.zero_le _, none, 0, rfl, fun _ => ⟨rfl, rfl⟩, fun h => absurd h (by omega)⟩
  · refine ⟨Nat.le_trans hnc hcm, _, _, rfl, (fun h => by cases h), fun hn => ⟨g, 0, rfl, (Array.getElem?_eq_some_iff.1 hg).1, fun j u hu => ?_⟩⟩
    have hj : j < n * sz := by rw [← h.1]; exact (List.getElem?_eq_some_iff.1 hu).1
    rw [Nat.zero_add, h.cellAt j hj, hu]
theorem Reads.nil (w : World) (sz : Nat) : Reads w sz (.slice none 0 0) 0 [] := Reads.of_own (World.ownsRow_nil w 0 3 sz)
end

/-! Lists as cells. -/
def vI (l : List Int) : List Value := l.map fun x => .int .i64 x
def vB (l : List Nat) : List Value := l.map fun x => .int .u8 (x : Nat)
def cP (x : Int × Int) : List Value := [.int .i64 x.1, .int .i64 x.2]
def vP (l : List (Int × Int)) : List Value := l.flatMap cP
def cI (i : Ins) : List Value := [.int .i64 i.op, .int .i64 i.to, .int .i64 i.a, .int .i64 i.b, .int .i64 i.c]
def vC (l : List Ins) : List Value := l.flatMap cI
theorem vI_len (l : List Int) : (vI l).length = l.length := by simp [vI]
theorem vB_len (l : List Nat) : (vB l).length = l.length := by simp [vB]
theorem vP_len (l : List (Int × Int)) : (vP l).length = l.length * 2 := by
  unfold vP; induction l with
  | nil => rfl
  | cons a l ih => rw [List.flatMap_cons, List.length_append, ih, List.length_cons]; show 2 + _ = _; omega
theorem vC_len (l : List Ins) : (vC l).length = l.length * 5 := by
  unfold vC; induction l with
  | nil => rfl
  | cons a l ih => rw [List.flatMap_cons, List.length_append, ih, List.length_cons]; show 5 + _ = _; omega
theorem vI_get {l : List Int} {i : Nat} {x : Int} (h : l[i]? = some x) : (vI l)[i]? = some (.int .i64 x) := by simp [vI, h]
theorem vB_get {l : List Nat} {i : Nat} {x : Nat} (h : l[i]? = some x) : (vB l)[i]? = some (.int .u8 (x : Nat)) := by simp [vB, h]
theorem flat_get {α : Type} {f : α → List Value} {s : Nat} (hs : ∀ x, (f x).length = s) : ∀ (l : List α) (i j : Nat) (x : α), l[i]? = some x → j < s → (l.flatMap f)[i * s + j]? = (f x)[j]? := by
  intro l
  induction l with
  | nil => intro i j x h; simp at h
  | cons a l ih =>
    intro i j x h hj
    rw [List.flatMap_cons]
    cases i with
    | zero =>
      simp at h; subst h
      rw [Nat.zero_mul, Nat.zero_add, List.getElem?_append_left (by rw [hs]; exact hj)]
    | succ i =>
      rw [List.getElem?_append_right (by rw [hs, Nat.succ_mul]; omega), hs, Nat.succ_mul]
      rw [show i * s + s + j - s = i * s + j by omega]
      exact ih i j x (by simpa using h) hj
theorem vI_one (l : List Int) : ∀ u ∈ vI l, u.oneCell' = true := by
  intro u hu; obtain ⟨x, _, rfl⟩ := List.mem_map.1 hu; rfl
theorem vB_one (l : List Nat) : ∀ u ∈ vB l, u.oneCell' = true := by
  intro u hu; obtain ⟨x, _, rfl⟩ := List.mem_map.1 hu; rfl
theorem vP_one (l : List (Int × Int)) : ∀ u ∈ vP l, u.oneCell' = true := by
  intro u hu
  obtain ⟨x, _, hx⟩ := List.mem_flatMap.1 hu
  simp only [cP, List.mem_cons, List.not_mem_nil, or_false] at hx
  rcases hx with rfl | rfl <;> rfl
theorem vC_one (l : List Ins) : ∀ u ∈ vC l, u.oneCell' = true := by
  intro u hu
  obtain ⟨x, _, hx⟩ := List.mem_flatMap.1 hu
  simp only [cI, List.mem_cons, List.not_mem_nil, or_false] at hx
  rcases hx with rfl | rfl | rfl | rfl | rfl <;> rfl

/-! What the walks take from a slice that reads as a list. -/
section
variable {w : World} {v : Value} {n : Nat}
theorem Reads.slice {sz : Nat} {xs : List Value} (h : Reads w sz v n xs) : ∃ A c, v = .slice A n c := ⟨_, _, h.2.2.choose_spec.choose_spec.1⟩
theorem Reads.ints {l : List Int} {A : Option Addr} {c : Nat} (h : Reads w 1 (.slice A n c) n (vI l)) : l.length = n ∧ (0 < n → ∃ b o, A = some ⟨b, o, none⟩ ∧ b < w.heap.size ∧ ∀ i x, l[i]? = some x → w.cell? ⟨b, o + i, none⟩ = some (.int .i64 x)) := by
  obtain ⟨h1, h2, A', c', h3, h4, h5⟩ := h
  cases h3
  refine ⟨by rw [vI_len] at h1; omega, fun hn => ?_⟩
  obtain ⟨b, o, h6, h7, h8⟩ := h5 hn
  exact ⟨b, o, h6, h7, fun i x hx => h8 _ _ (vI_get hx)⟩
theorem Reads.bytes {l : List Nat} {A : Option Addr} {c : Nat} (h : Reads w 1 (.slice A n c) n (vB l)) : l.length = n ∧ (0 < n → ∃ b o, A = some ⟨b, o, none⟩ ∧ b < w.heap.size ∧ ∀ i x, l[i]? = some x → w.cell? ⟨b, o + i, none⟩ = some (.int .u8 (x : Nat))) := by
  obtain ⟨h1, h2, A', c', h3, h4, h5⟩ := h
  cases h3
  refine ⟨by rw [vB_len] at h1; omega, fun hn => ?_⟩
  obtain ⟨b, o, h6, h7, h8⟩ := h5 hn
  exact ⟨b, o, h6, h7, fun i x hx => h8 _ _ (vB_get hx)⟩
theorem Reads.points {l : List (Int × Int)} {A : Option Addr} {c : Nat} (h : Reads w 2 (.slice A n c) n (vP l)) : l.length = n ∧ (0 < n → ∃ b o, A = some ⟨b, o, none⟩ ∧ b < w.heap.size ∧ ∀ i x, l[i]? = some x → w.cell? ⟨b, o + i * 2, none⟩ = some (.int .i64 x.1) ∧ w.cell? ⟨b, o + i * 2 + 1, none⟩ = some (.int .i64 x.2)) := by
  obtain ⟨h1, h2, A', c', h3, h4, h5⟩ := h
  cases h3
  refine ⟨by rw [vP_len] at h1; omega, fun hn => ?_⟩
  obtain ⟨b, o, h6, h7, h8⟩ := h5 hn
  refine ⟨b, o, h6, h7, fun i x hx => ⟨h8 (i * 2) _ ?_, h8 (i * 2 + 1) _ ?_⟩⟩
  · exact (flat_get (f := cP) (s := 2) (fun _ => rfl) l i 0 x hx (by omega))
  · exact (flat_get (f := cP) (s := 2) (fun _ => rfl) l i 1 x hx (by omega))
theorem Reads.code {l : List Ins} {A : Option Addr} {c : Nat} (h : Reads w 5 (.slice A n c) n (vC l)) : l.length = n ∧ (0 < n → ∃ b o, A = some ⟨b, o, none⟩ ∧ b < w.heap.size ∧ ∀ i x, l[i]? = some x → w.cell? ⟨b, o + i * 5, none⟩ = some (.int .i64 x.op) ∧ w.cell? ⟨b, o + i * 5 + 1, none⟩ = some (.int .i64 x.to) ∧ w.cell? ⟨b, o + i * 5 + 2, none⟩ = some (.int .i64 x.a) ∧ w.cell? ⟨b, o + i * 5 + 3, none⟩ = some (.int .i64 x.b) ∧ w.cell? ⟨b, o + i * 5 + 4, none⟩ = some (.int .i64 x.c)) := by
  obtain ⟨h1, h2, A', c', h3, h4, h5⟩ := h
  cases h3
  refine ⟨by rw [vC_len] at h1; omega, fun hn => ?_⟩
  obtain ⟨b, o, h6, h7, h8⟩ := h5 hn
  refine ⟨b, o, h6, h7, fun i x hx => ⟨h8 (i * 5) _ ?_, h8 (i * 5 + 1) _ ?_, h8 (i * 5 + 2) _ ?_, h8 (i * 5 + 3) _ ?_, h8 (i * 5 + 4) _ ?_⟩⟩
  · exact (flat_get (f := cI) (s := 5) (fun _ => rfl) l i 0 x hx (by omega))
  · exact (flat_get (f := cI) (s := 5) (fun _ => rfl) l i 1 x hx (by omega))
  · exact (flat_get (f := cI) (s := 5) (fun _ => rfl) l i 2 x hx (by omega))
  · exact (flat_get (f := cI) (s := 5) (fun _ => rfl) l i 3 x hx (by omega))
  · exact (flat_get (f := cI) (s := 5) (fun _ => rfl) l i 4 x hx (by omega))
end

/-! Programs and units by value. -/
structure PrV where
  A : Option Addr
  c : Nat
  B : Option Addr
  d : Nat
/-- A program's cells. -/
def PrV.cells (L : PrV) (p : Pr) : List Value := [.int .i64 p.ins, .int .i64 p.regs, .slice L.A p.code.length L.c, .slice L.B p.outs.length L.d]
def PrV.val (L : PrV) (p : Pr) : Value := .agg #[.int .i64 p.ins, .int .i64 p.regs, .slice L.A p.code.length L.c, .slice L.B p.outs.length L.d]
structure PrIn (w : World) (L : PrV) (p : Pr) : Prop where
  code : Reads w 5 (.slice L.A p.code.length L.c) p.code.length (vC p.code)
  outs : Reads w 1 (.slice L.B p.outs.length L.d) p.outs.length (vI p.outs)
theorem PrIn.below {w w' : World} {L : PrV} {p : Pr} (h : PrIn w L p) (hb : Below w.heap.size w w') : PrIn w' L p := ⟨h.code.below hb, h.outs.below hb⟩
structure UnV where
  P : Option Addr
  c : Nat
  l : PrV
  r : PrV
  b : PrV
def UnV.cells (L : UnV) (u : Un) : Array Value := #[.int .i64 u.k1, .int .i64 u.k2, .slice L.P u.pts.length L.c,
  .int .i64 u.left.ins, .int .i64 u.left.regs, .slice L.l.A u.left.code.length L.l.c, .slice L.l.B u.left.outs.length L.l.d,
  .int .i64 u.right.ins, .int .i64 u.right.regs, .slice L.r.A u.right.code.length L.r.c, .slice L.r.B u.right.outs.length L.r.d,
  .int .i64 u.back.ins, .int .i64 u.back.regs, .slice L.b.A u.back.code.length L.b.c, .slice L.b.B u.back.outs.length L.b.d]
def UnV.val (L : UnV) (u : Un) : Value := .agg (L.cells u)
structure UnIn (w : World) (L : UnV) (u : Un) : Prop where
  pts : Reads w 2 (.slice L.P u.pts.length L.c) u.pts.length (vP u.pts)
  l : PrIn w L.l u.left
  r : PrIn w L.r u.right
  b : PrIn w L.b u.back
theorem UnIn.below {w w' : World} {L : UnV} {u : Un} (h : UnIn w L u) (hb : Below w.heap.size w w') : UnIn w' L u := ⟨h.pts.below hb, h.l.below hb, h.r.below hb, h.b.below hb⟩
end Go.Proofs.Ytcelcognmdcenaa

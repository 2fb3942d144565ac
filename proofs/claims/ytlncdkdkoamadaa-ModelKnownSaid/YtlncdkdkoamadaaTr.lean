/-
  MEMORY: a run, the program's or the reference's, and the list of its moves; append of an event.
-/
import Derived.Test.YtlncdkdkoamadaaPureT
import Derived.Test.YtlncdkdkoamadaaRf
namespace Go.Proofs.Ytlncdkdkoamadaa
open Go.RowKit

theorem info41 : (Try.prog.info? 41).map (fun i => (i.zero, i.size, i.bytes)) = some (some (.agg #[.int .i64 0, .int .i64 0, .bool false]), 3, 24) := by kernel_rfl

section
variable {P : Program} {w : World}
/-- append of one event. -/
theorem wpList_app3 {ops : Array Oper} {rest : List Oper} {o : Oper} {a : Act} {Q : Exit → Act → World → Prop} (hgd : o.guard = none) (s x : Operand) (t : TypeId)
    (ho : o.op = .call { callee := .builtin .append, args := #[s, x], argTypes := #[t, t] })
    (base : Nat) (e : TypeId) (i : TypeInfo) (z : Value) (ht : P.underlying t = some (.slice e)) (hi : P.info? e = some i) (hz : i.zero = some z)
    (hsize : i.size = 3) (hby : i.bytes = 24) (hzs : z.cells.size = 3)
    (v : Value) (n : Nat) (xs : List Value) (hs : a.eval s = v) (hown : w.ownsRow base e 3 v n xs)
    (b : Nat) (news : List Value) (hx : a.eval x = .slice (some ⟨b, 0, none⟩) 1 1) (hl : news.length = 3) (hc : ∀ j u, news[j]? = some u → w.cell? ⟨b, j, none⟩ = some u) (h1 : ∀ u ∈ news, u.oneCell' = true)
    (hn : n < 4294967296) (hbase : base ≤ w.heap.size)
    (h : ∀ v' w', w'.ownsRow base e 3 v' (n + 1) (xs ++ news) → w.grownBy w' v.ownBlock → (v'.ownBlock = v.ownBlock ∨ v'.ownBlock = some w.heap.size) → wpList P ops Q rest (a.put o.dst v') w') : wpList P ops Q (o :: rest) a w := by
  obtain ⟨v', w', hrun, h2, h3, _, h5⟩ := run_append_own_at (P := P) w base t o.type e i z 3 24 ht hi hz hsize hby hzs (by decide) v n xs hown ⟨b, 0, none⟩ 1 1 news (by omega) (fun j u hu => by rw [Addr.add_lit, Nat.zero_add]; exact hc j u hu) h1 (by unfold maxLen; omega) (by omega) hbase
  refine wpList_plain hgd fun K hK => ?_
  unfold Oper.wp execOp
  simp only [ho, resolve, invoke, builtin, Sem.run_bind, Sem.run_pure, Result.andThen_ok, List.map_toArray, List.map_cons, List.map_nil, hs, hx, hrun]
  exact hK _ _ (h v' w' h2 h3 h5)
end
theorem evC_one (x : Nat × Nat × Bool) : ∀ u ∈ evC x, u.oneCell' = true := by
  intro u hu
  simp only [evC, List.mem_cons, List.not_mem_nil, or_false] at hu
  rcases hu with rfl | rfl | rfl <;> rfl
theorem evC_cells (w : World) (x : Nat × Nat × Bool) : ∀ j u, (evC x)[j]? = some u → (w.alloc (.cells #[.int .i64 (x.1 : Nat), .int .i64 (x.2.1 : Nat), .bool x.2.2] 41)).cell? ⟨w.heap.size, j, none⟩ = some u := by
  intro j u hu
  have h := cell_of_row _ w.heap.size j _ 41 (0, 0) (heap_alloc_new w (.cells #[.int .i64 (x.1 : Nat), .int .i64 (x.2.1 : Nat), .bool x.2.2] 41))
  rw [h, ← hu]
  simp [evC]

/-- The length of a slice's value. -/
def lenV (v : Value) : Nat := match v with | .slice _ n _ => n | _ => 0
theorem own_form3 {w : World} {base : Nat} {e : TypeId} {v : Value} {n : Nat} {xs : List Value} (h : w.ownsRow base e 3 v n xs) : ∃ A c, v = .slice A n c ∧ n ≤ c ∧ c ≤ maxLen ∧ (0 < n → ∃ g, A = some ⟨g, 0, none⟩ ∧ g < w.heap.size ∧ ∀ j u, xs[j]? = some u → w.cell? ⟨g, j, none⟩ = some u) := by
  have h0 := h
  obtain ⟨hl, ⟨rfl, rfl⟩ | ⟨g, cap, cur, rfl, _, hg, h1, h2, _⟩⟩ := h
  · exact ⟨none, 0, rfl, Nat.le_refl _, Nat.zero_le _, fun h => absurd h (by omega)⟩
  · refine ⟨_, _, rfl, h1, h2, fun _ => ⟨g, rfl, (Array.getElem?_eq_some_iff.1 hg).1, fun j u hu => ?_⟩⟩
    have hj : j < n * 3 := by rw [← hl]; exact (List.getElem?_eq_some_iff.1 hu).1
    rw [h0.cellAt j hj, hu]

/-- What is asked of a run's reading. -/
def Frames (R : World → (Nat → Nat) → G → Prop) : Prop :=
  ∀ (w w' : World) (lab lab' : Nat → Nat) (s : G), R w lab s → w.heap.size ≤ w'.heap.size → (∀ b, b < w.heap.size → (lab b = 1 ∨ lab b = 0) → w'.heap[b]? = w.heap[b]?) → (∀ b, b < w.heap.size → lab' b = lab b) → R w' lab' s
theorem frames_rn (r : Nat) : Frames fun w lab s => Rn w lab 1 r s := fun _ _ _ _ _ h _ hb hl => h.frame hb hl
theorem frames_rf (r : Nat) : Frames fun w lab s => Rf w lab 1 r s := fun _ _ _ _ _ h hs hb hl => h.frame hs hb hl

/-- The run at label 1, the list at 100, what was there before at 0. -/
structure TrInv (R : World → (Nat → Nat) → G → Prop) (w wr : World) (lab : Nat → Nat) (s : G) (v : Value) (k : Nat) (xs : List Value) : Prop where
  bel : Below w.heap.size w wr
  run : R wr lab s
  old : ∀ b, b < w.heap.size → lab b = 0
  lst : wr.ownsRow w.heap.size 41 3 v k xs
  llv : ∀ g, v.ownBlock = some g → lab g = 100

section
variable {R : World → (Nat → Nat) → G → Prop} {w wr w' W' : World} {lab lab' : Nat → Nat} {s s' : G} {v v' : Value} {k : Nat} {xs news : List Value}
theorem TrInv.below (h : TrInv R w wr lab s v k xs) (hF : Frames R) (hb : Below wr.heap.size wr w') (hl : ∀ b, b < wr.heap.size → lab' b = lab b) : TrInv R w w' lab' s v k xs where
  bel := h.bel.trans (hb.mono h.bel.size)
  run := hF _ _ _ _ _ h.run hb.size (fun b hlt _ => hb.block b hlt) hl
  old := fun b hb' => by rw [hl b (Nat.lt_of_lt_of_le hb' h.bel.size)]; exact h.old b hb'
  lst := own_congr h.lst fun g hg => hb.block g (own_lt h.lst hg)
  llv := fun g hg => by rw [hl g (own_lt h.lst hg)]; exact h.llv g hg
theorem TrInv.keep (h : TrInv R w wr lab s v k xs) (hF : Frames R) (hb : Below wr.heap.size wr w') : TrInv R w w' lab s v k xs := h.below hF hb fun _ _ => rfl
theorem TrInv.step (h : TrInv R w wr lab s v k xs) (hk : Keeps lab 1 wr w') (hl : ∀ b, b < wr.heap.size → lab' b = lab b) (hr : R w' lab' s') : TrInv R w w' lab' s' v k xs where
  bel := h.bel.trans (hk.below h.bel.size (fun b hb => by rw [h.old b hb]; omega))
  run := hr
  old := fun b hb' => by rw [hl b (Nat.lt_of_lt_of_le hb' h.bel.size)]; exact h.old b hb'
  lst := own_congr h.lst fun g hg => hk.block g (own_lt h.lst hg) (by rw [h.llv g hg]; decide)
  llv := fun g hg => by rw [hl g (own_lt h.lst hg)]; exact h.llv g hg
theorem TrInv.push (h : TrInv R w wr lab s v k xs) (hF : Frames R) (hg : wr.grownBy W' v.ownBlock) (ho : W'.ownsRow w.heap.size 41 3 v' (k + 1) (xs ++ news)) (hat : v'.ownBlock = v.ownBlock ∨ v'.ownBlock = some wr.heap.size) :
    TrInv R w W' (fun b => if b < wr.heap.size then lab b else 100) s v' (k + 1) (xs ++ news) := by
  have hbs := h.bel.size
  refine ⟨h.bel.grown hg hbs (fun b hb => (h.lst.lt b hb).1), hF _ _ _ _ _ h.run hg.size (fun b hb hl => hg.block b hb (fun e => by have := h.llv b e.symm; omega)) (fun b hb => by simp [hb]), fun b hb => ?_, ho, fun g hg' => ?_⟩
  · rw [if_pos (Nat.lt_of_lt_of_le hb hbs)]; exact h.old b hb
  · rcases hat with e | e
    · rw [e] at hg'
      rw [if_pos (own_lt h.lst hg')]; exact h.llv g hg'
    · rw [hg'] at e; cases e
      rw [if_neg (Nat.lt_irrefl _)]
end
end Go.Proofs.Ytlncdkdkoamadaa

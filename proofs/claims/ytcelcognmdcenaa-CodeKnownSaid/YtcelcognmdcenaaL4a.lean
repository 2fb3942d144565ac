/-
  WALKS: a statement of CodeKnown that makes five rows of bytes in whatever order.
-/
import Derived.Test.YtcelcognmdcenaaL3
namespace Go.Proofs.Ytcelcognmdcenaa
open Go.RowKit

def Apart (v v' : Value) : Prop := ∀ g, v.ownBlock = some g → v'.ownBlock ≠ some g
theorem Reads.drop {w : World} {g o n c k : Nat} {bs : List Nat} (h : Reads w 1 (.slice (some ⟨g, o, none⟩) n c) n (vB bs)) (hk : k ≤ n) : Reads w 1 (.slice (some ⟨g, o + k, none⟩) (n - k) (c - k)) (n - k) (vB (bs.drop k)) := by
  obtain ⟨h1, h2, A', c', h3, h4, h5⟩ := h
  cases h3
  rw [vB_len] at h1
  refine ⟨by rw [vB_len, List.length_drop]; omega, by omega, _, _, rfl, (fun e => by cases e), fun hn => ?_⟩
  obtain ⟨b, o', e, h7, h8⟩ := h5 (by omega)
  cases e
  refine ⟨_, _, rfl, h7, fun j u hu => ?_⟩
  rw [Nat.add_assoc]
  refine h8 (k + j) u ?_
  unfold vB at hu ⊢
  rw [List.map_drop, List.getElem?_drop] at hu
  exact hu
theorem lit_own (w : World) (B n : Nat) (l : List Nat) (hB : B ≤ w.heap.size) (hl : l.length = n) (hn : n ≤ maxLen) : (w.alloc (.cells (vB l).toArray 5)).ownsRow B 5 1 (.slice (some ⟨w.heap.size, 0, none⟩) n n) n (vB l) := by
  have := World.ownsRow_lit (base := B) (e := 5) (size := 1) w (vB l).toArray n hB hn (by simp [vB_len, hl])
  simpa using this
section
variable {P : Program} {w : World}
/-- append of a whole row that is read, nil or not. -/
theorem wp_appR {o : Oper} {a : Act} {K : Act → World → Prop} {Q : Exit → Act → World → Prop} (s x : Operand) (t : TypeId)
    (ho : o.op = .call { callee := .builtin .append, args := #[s, x], argTypes := #[t, t] })
    (base : Nat) (e : TypeId) (i : TypeInfo) (z : Value) (size bytes : Nat) (ht : P.underlying t = some (.slice e)) (hi : P.info? e = some i) (hz : i.zero = some z)
    (hsize : i.size = size) (hby : i.bytes = bytes) (hzs : z.cells.size = size) (hpos : 0 < size)
    (v : Value) (n : Nat) (xs : List Value) (hs : a.eval s = v) (hown : w.ownsRow base e size v n xs)
    (ad : Addr) (m c : Nat) (news : List Value) (hx : a.eval x = .slice (some ad) m c) (hsrc : Reads w size (.slice (some ad) m c) m news) (hm : 0 < m) (h1 : ∀ u ∈ news, u.oneCell' = true)
    (h63 : n + m ≤ maxLen) (hb : (n + m) * bytes ≤ 140737488355328) (hbase : base ≤ w.heap.size)
    (h : ∀ v' w', w'.ownsRow base e size v' (n + m) (xs ++ news) → w.grownBy w' v.ownBlock → (v'.ownBlock = v.ownBlock ∨ v'.ownBlock = some w.heap.size) → K (a.put o.dst v') w') : o.wp P a w K Q := by
  obtain ⟨hl, hmx, A', c', he, hA, hc⟩ := hsrc
  cases he
  have hcell : ∀ j u, news[j]? = some u → w.cell? (ad.add j) = some u := by
    intro j u hu
    obtain ⟨b, o, had, _, hcc⟩ := hc hm
    cases had
    rw [Addr.add_lit]
    exact hcc j u hu
  obtain ⟨v', w', hrun, h2, h3, _, h5⟩ := run_append_own_at (P := P) w base t o.type e i z size bytes ht hi hz hsize hby hzs hpos v n xs hown ad m c news (by omega) hcell h1 h63 hb hbase
  unfold Oper.wp execOp
  simp only [ho, resolve, invoke, builtin, Sem.run_bind, Sem.run_pure, Result.andThen_ok, List.map_toArray, List.map_cons, List.map_nil, hs, hx, hrun]
  exact h v' w' h2 h3 h5
end

/-- What holds in its midst, whatever has come up so far. -/
def I4 (w1 : World) (B ga cb : Nat) (U W20 : Value) (bs : List Nat) (S : Nat → Bool) (a : Act) (w' : World) : Prop :=
  ∃ x24 x25 x26 x27 x28 x29 x30 x31 x32 x33 x34 x35 x36 x37 x38 x39 x40 x41 x42 x43 x44 x45 x46 : Value, a = ⟨#[.bool false, .pointer (some ⟨B, 0, none⟩), .slice (some ⟨ga, 0, none⟩) 29 cb, undef, undef, undef, undef, undef, undef, undef, undef, undef, undef, undef, undef, undef, .bool false, .bool true, .bool false, .bool false, W20, W20, U, .slice (some ⟨ga, 0, none⟩) 29 cb, x24, x25, x26, x27, x28, x29, x30, x31, x32, x33, x34, x35, x36, x37, x38, x39, x40, x41, x42, x43, x44, x45, x46, undef, undef, undef, undef, undef, undef, undef, undef, undef, undef, undef, undef, undef, undef, undef, undef, undef, undef, undef, undef, undef, undef, undef, undef, undef, undef, undef, undef, undef, undef, undef, undef, undef, undef, undef, undef, undef, undef, undef, undef, undef, undef, undef, undef, undef, undef, undef, undef, undef, undef, undef, undef, undef, undef, undef, undef, undef, undef, undef, undef, undef, undef, undef, undef, undef, undef, undef, undef, undef, undef, undef, undef, undef, undef, undef, undef, undef, undef, undef, undef, undef, undef, undef, undef, undef, undef, undef, undef, undef, undef, undef, undef, undef, undef, undef, undef, undef], []⟩ ∧ Below w1.heap.size w1 w' ∧ (S 0 = true → x24 = (.slice (some ⟨ga, 0, none⟩) 29 cb)) ∧ (S 1 = true → x25 = (.slice (some ⟨ga, 0, none⟩) 28 cb)) ∧ (S 2 = true → x26 = (.agg #[x25, .int .i64 28])) ∧ (S 3 = true → x27 = (.slice (some ⟨ga, 0, none⟩) 29 cb)) ∧ (S 4 = true → S 6 = false → w'.ownsRow w1.heap.size 5 1 x28 29 (vB bs)) ∧ (S 5 = true → S 6 = false → w'.ownsRow w1.heap.size 5 1 x29 1 (vB [0])) ∧ (S 6 = true → w'.ownsRow w1.heap.size 5 1 x30 30 (vB (bs ++ [0]))) ∧ (S 7 = true → x31 = (.agg #[x30, .int .i64 29])) ∧ (S 8 = true → x32 = (.agg #[.slice none 0 0, .int .i64 0])) ∧ (S 9 = true → w'.ownsRow w1.heap.size 5 1 x33 4 (vB [65, 78, 86, 50])) ∧ (S 10 = true → x34 = (.agg #[x33, .int .i64 3])) ∧ (S 11 = true → x35 = (.slice (some ⟨ga, 0, none⟩) 29 cb)) ∧ (S 12 = true → x36 = (.slice (some ⟨ga, 0, none⟩) 4 cb)) ∧ (S 13 = true → S 15 = false → w'.ownsRow w1.heap.size 5 1 x37 4 (vB (bs.take 4))) ∧ (S 14 = true → S 15 = false → w'.ownsRow w1.heap.size 5 1 x38 1 (vB [9])) ∧ (S 15 = true → S 18 = false → w'.ownsRow w1.heap.size 5 1 x39 5 (vB (bs.take 4 ++ [9]))) ∧ (S 16 = true → x40 = (.slice (some ⟨ga, 0, none⟩) 29 cb)) ∧ (S 17 = true → x41 = (.slice (some ⟨ga, 5, none⟩) 24 (cb - 5))) ∧ (S 18 = true → w'.ownsRow w1.heap.size 5 1 x42 29 (vB (bs.take 4 ++ [9] ++ bs.drop 5))) ∧ (S 19 = true → x43 = (.agg #[x42, .int .i64 4])) ∧ (S 20 = true → ∃ gs, x44 = .slice (some ⟨gs, 0, none⟩) 5 5 ∧ w1.heap.size ≤ gs ∧ w'.heap[gs]? = some (.cells #[.slice (some ⟨ga, 0, none⟩) 28 cb, .int .i64 28, x30, .int .i64 29, .slice none 0 0, .int .i64 0, x33, .int .i64 3, x42, .int .i64 4] 39 (0, 0))) ∧ (S 21 = true → x45 = (.int .i64 5)) ∧ (S 22 = true → x46 = (.int .i64 0)) ∧ (S 4 = true → S 9 = true → S 6 = false → Apart x28 x33) ∧ (S 4 = true → S 14 = true → S 6 = false → Apart x28 x38) ∧ (S 13 = true → S 6 = true → S 15 = false → Apart x37 x30) ∧ (S 13 = true → S 9 = true → S 15 = false → Apart x37 x33) ∧ (S 15 = true → S 6 = true → S 18 = false → Apart x39 x30) ∧ (S 15 = true → S 9 = true → S 18 = false → Apart x39 x33) ∧ (S 2 = true → S 1 = true) ∧ (S 7 = true → S 6 = true) ∧ (S 10 = true → S 9 = true) ∧ (S 13 = true → S 6 = true) ∧ (S 15 = true → S 13 = true) ∧ (S 18 = true → S 15 = true) ∧ (S 19 = true → S 18 = true) ∧ (S 20 = true → S 2 = true ∧ S 7 = true ∧ S 8 = true ∧ S 10 = true ∧ S 19 = true)
/-- The table of bytes that are refused, and their places. -/
def KTab (w1 wx : World) (ga cb : Nat) (bs : List Nat) (v : Value) : Prop := ∃ gs A30 c30 A33 c33 A42 c42, v = .slice (some ⟨gs, 0, none⟩) 5 5 ∧ w1.heap.size ≤ gs ∧
  wx.heap[gs]? = some (.cells #[.slice (some ⟨ga, 0, none⟩) 28 cb, .int .i64 28, .slice A30 30 c30, .int .i64 29, .slice none 0 0, .int .i64 0, .slice A33 4 c33, .int .i64 3, .slice A42 29 c42, .int .i64 4] 39 (0, 0)) ∧ Below w1.heap.size w1 wx ∧
  wx.ownsRow w1.heap.size 5 1 (.slice A30 30 c30) 30 (vB (bs ++ [0])) ∧ wx.ownsRow w1.heap.size 5 1 (.slice A33 4 c33) 4 (vB [65, 78, 86, 50]) ∧ wx.ownsRow w1.heap.size 5 1 (.slice A42 29 c42) 29 (vB (bs.take 4 ++ [9] ++ bs.drop 5))
theorem I4.done {w1 : World} {B ga cb : Nat} {U W20 : Value} {bs : List Nat} {S : Nat → Bool} {a : Act} {w' : World} (h : I4 w1 B ga cb U W20 bs S a w') (hall : ∀ i, i < 23 → S i = true) : ∃ x24 x25 x26 x27 x28 x29 x30 x31 x32 x33 x34 x35 x36 x37 x38 x39 x40 x41 x42 x43 x44 x45 x46 : Value, a = ⟨#[.bool false, .pointer (some ⟨B, 0, none⟩), .slice (some ⟨ga, 0, none⟩) 29 cb, undef, undef, undef, undef, undef, undef, undef, undef, undef, undef, undef, undef, undef, .bool false, .bool true, .bool false, .bool false, W20, W20, U, .slice (some ⟨ga, 0, none⟩) 29 cb, x24, x25, x26, x27, x28, x29, x30, x31, x32, x33, x34, x35, x36, x37, x38, x39, x40, x41, x42, x43, x44, x45, x46, undef, undef, undef, undef, undef, undef, undef, undef, undef, undef, undef, undef, undef, undef, undef, undef, undef, undef, undef, undef, undef, undef, undef, undef, undef, undef, undef, undef, undef, undef, undef, undef, undef, undef, undef, undef, undef, undef, undef, undef, undef, undef, undef, undef, undef, undef, undef, undef, undef, undef, undef, undef, undef, undef, undef, undef, undef, undef, undef, undef, undef, undef, undef, undef, undef, undef, undef, undef, undef, undef, undef, undef, undef, undef, undef, undef, undef, undef, undef, undef, undef, undef, undef, undef, undef, undef, undef, undef, undef, undef, undef, undef, undef, undef, undef, undef, undef], []⟩ ∧ KTab w1 w' ga cb bs x44 ∧ x45 = .int .i64 5 ∧ x46 = .int .i64 0 := by
  obtain ⟨x24, x25, x26, x27, x28, x29, x30, x31, x32, x33, x34, x35, x36, x37, x38, x39, x40, x41, x42, x43, x44, x45, x46, rfl, hb, f0, f1, f2, f3, f4, f5, f6, f7, f8, f9, f10, f11, f12, f13, f14, f15, f16, f17, f18, f19, f20, f21, f22, d1, d2, d3, d4, d5, d6, c2, c7, c10, c13, c15, c18, c19, c20⟩ := h
  have r30 := f6 (hall 6 (by decide))
  have r33 := f9 (hall 9 (by decide))
  have r42 := f18 (hall 18 (by decide))
  obtain ⟨gs, e44, hgs, htab⟩ := f20 (hall 20 (by decide))
  obtain ⟨A30, c30, rfl, _, _⟩ := own_slice r30
  obtain ⟨A33, c33, rfl, _, _⟩ := own_slice r33
  obtain ⟨A42, c42, rfl, _, _⟩ := own_slice r42
  exact ⟨_, _, _, _, _, _, _, _, _, _, _, _, _, _, _, _, _, _, _, _, _, _, _, rfl, ⟨gs, A30, c30, A33, c33, A42, c42, e44, hgs, htab, hb, r30, r33, r42⟩, f21 (hall 21 (by decide)), f22 (hall 22 (by decide))⟩
/-- Are these bytes refused at that place? -/
def decErr (l : List Nat) (q : Nat) : Bool := match dec l with | .error p => p == q | .ok _ => false
theorem decErr_iff {l : List Nat} {q : Nat} (h : decErr l q = true) : dec l = .error q := by
  unfold decErr at h
  split at h
  · rename_i p e; rw [e, eq_of_beq h]
  · cases h
theorem known_errs : dec (exU.bytes.take 28) = .error 28 ∧ dec (exU.bytes ++ [0]) = .error 29 ∧ dec [] = .error 0 ∧ dec [65, 78, 86, 50] = .error 3 ∧ dec (exU.bytes.take 4 ++ [9] ++ exU.bytes.drop 5) = .error 4 :=
  ⟨decErr_iff (by decide +kernel), decErr_iff (by decide +kernel), decErr_iff (by decide +kernel), decErr_iff (by decide +kernel), decErr_iff (by decide +kernel)⟩
/-- The table's k-th row. -/
theorem known_at {w1 wx : World} {ga cb : Nat} {v : Value} (hrd : Reads w1 1 (.slice (some ⟨ga, 0, none⟩) 29 cb) 29 (vB exU.bytes)) (hcb : 29 ≤ cb) (h : KTab w1 wx ga cb exU.bytes v) (k : Nat) (hk : k < 5) :
    ∃ gs A n c l, ∃ q : Nat, v = .slice (some ⟨gs, 0, none⟩) 5 5 ∧ wx.cell? ⟨gs, k * 2, none⟩ = some (.slice A n c) ∧ wx.cell? ⟨gs, k * 2 + 1, none⟩ = some (.int .i64 (q : Nat)) ∧ Reads wx 1 (.slice A n c) n (vB l) ∧ n ≤ c ∧ n ≤ 100 ∧ (∀ x ∈ l, x < 256) ∧ dec l = .error q := by
  obtain ⟨gs, A30, c30, A33, c33, A42, c42, rfl, hgs, htab, hb, r30, r33, r42⟩ := h
  obtain ⟨k0, k1, k2, k3, k4⟩ := known_errs
  have hx := bytes_lt exU
  have hslice : ∀ {n : Nat} {A : Option Addr} {c : Nat} {xs : List Value}, wx.ownsRow w1.heap.size 5 1 (.slice A n c) n xs → n ≤ c := fun h => by obtain ⟨_, _, e, h1, _⟩ := own_slice h; cases e; exact h1
  match k, hk with
  | 0, _ => exact ⟨gs, _, _, _, _, 28, rfl, cell_of_row _ _ 0 _ 39 (0, 0) htab, cell_of_row _ _ 1 _ 39 (0, 0) htab, (hrd.below hb).take (by decide), by omega, by decide, fun x h => hx x (List.mem_of_mem_take h), k0⟩
  | 1, _ => exact ⟨gs, _, _, _, _, 29, rfl, cell_of_row _ _ 2 _ 39 (0, 0) htab, cell_of_row _ _ 3 _ 39 (0, 0) htab, Reads.of_own r30, hslice r30, by decide, fun x h => by rcases List.mem_append.1 h with h | h; exact hx x h; (rw [List.mem_singleton.1 h]; decide), k1⟩
  | 2, _ => exact ⟨gs, _, _, _, [], 0, rfl, cell_of_row _ _ 4 _ 39 (0, 0) htab, cell_of_row _ _ 5 _ 39 (0, 0) htab, Reads.nil _ _, Nat.le_refl _, by decide, (fun x h => by cases h), k2⟩
  | 3, _ => exact ⟨gs, _, _, _, _, 3, rfl, cell_of_row _ _ 6 _ 39 (0, 0) htab, cell_of_row _ _ 7 _ 39 (0, 0) htab, Reads.of_own r33, hslice r33, by decide, by decide, k3⟩
  | 4, _ => exact ⟨gs, _, _, _, _, 4, rfl, cell_of_row _ _ 8 _ 39 (0, 0) htab, cell_of_row _ _ 9 _ 39 (0, 0) htab, Reads.of_own r42, hslice r42, by decide, fun x h => by
      rcases List.mem_append.1 h with h | h
      · rcases List.mem_append.1 h with h | h
        · exact hx x (List.mem_of_mem_take h)
        · rw [List.mem_singleton.1 h]; decide
      · exact hx x (List.mem_of_mem_drop h), k4⟩
theorem KTab.below {w1 wx wy : World} {ga cb : Nat} {bs : List Nat} {v : Value} (h : KTab w1 wx ga cb bs v) (hb : Below wx.heap.size wx wy) : KTab w1 wy ga cb bs v := by
  obtain ⟨gs, A30, c30, A33, c33, A42, c42, e, hgs, htab, hb0, r30, r33, r42⟩ := h
  exact ⟨gs, A30, c30, A33, c33, A42, c42, e, hgs, (hb.block gs (Array.getElem?_eq_some_iff.1 htab).1).trans htab, hb0.trans (hb.mono hb0.size), own_below r30 hb, own_below r33 hb, own_below r42 hb⟩

theorem not_yet {S : Nat → Bool} (c15 : S 15 = true → S 13 = true) (c13 : S 13 = true → S 6 = true) (h : S 6 = false) : S 15 = false := by
  cases e : S 15 with
  | false => rfl
  | true => rw [c13 (c15 e)] at h; cases h

end Go.Proofs.Ytcelcognmdcenaa

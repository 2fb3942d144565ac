/-
  MEMORY: a unit's box, loaded whole; what the laws' callees leave.
-/
import Derived.Test.YtcelcognmdcenaaH4
import Derived.Deep.MidRow
namespace Go.Proofs.Ytcelcognmdcenaa
open Go.RowKit

theorem box_all {w : World} {B : Nat} {L : UnV} {u : Un} (h : w.heap[B]? = some (.cells (L.cells u) 28 (0, 0))) : w.cell? ⟨B, 0, none⟩ = some (.int .i64 u.k1) ∧ w.cell? ⟨B, 1, none⟩ = some (.int .i64 u.k2) ∧ w.cell? ⟨B, 2, none⟩ = some (.slice L.P u.pts.length L.c) ∧ w.cell? ⟨B, 3, none⟩ = some (.int .i64 u.left.ins) ∧ w.cell? ⟨B, 4, none⟩ = some (.int .i64 u.left.regs) ∧ w.cell? ⟨B, 5, none⟩ = some (.slice L.l.A u.left.code.length L.l.c) ∧ w.cell? ⟨B, 6, none⟩ = some (.slice L.l.B u.left.outs.length L.l.d) ∧ w.cell? ⟨B, 7, none⟩ = some (.int .i64 u.right.ins) ∧ w.cell? ⟨B, 8, none⟩ = some (.int .i64 u.right.regs) ∧ w.cell? ⟨B, 9, none⟩ = some (.slice L.r.A u.right.code.length L.r.c) ∧ w.cell? ⟨B, 10, none⟩ = some (.slice L.r.B u.right.outs.length L.r.d) ∧ w.cell? ⟨B, 11, none⟩ = some (.int .i64 u.back.ins) ∧ w.cell? ⟨B, 12, none⟩ = some (.int .i64 u.back.regs) ∧ w.cell? ⟨B, 13, none⟩ = some (.slice L.b.A u.back.code.length L.b.c) ∧ w.cell? ⟨B, 14, none⟩ = some (.slice L.b.B u.back.outs.length L.b.d) :=
  ⟨cell_of_row w B 0 _ 28 (0, 0) h, cell_of_row w B 1 _ 28 (0, 0) h, cell_of_row w B 2 _ 28 (0, 0) h, cell_of_row w B 3 _ 28 (0, 0) h, cell_of_row w B 4 _ 28 (0, 0) h, cell_of_row w B 5 _ 28 (0, 0) h, cell_of_row w B 6 _ 28 (0, 0) h, cell_of_row w B 7 _ 28 (0, 0) h, cell_of_row w B 8 _ 28 (0, 0) h, cell_of_row w B 9 _ 28 (0, 0) h, cell_of_row w B 10 _ 28 (0, 0) h, cell_of_row w B 11 _ 28 (0, 0) h, cell_of_row w B 12 _ 28 (0, 0) h, cell_of_row w B 13 _ 28 (0, 0) h, cell_of_row w B 14 _ 28 (0, 0) h⟩
theorem box_free {w : World} {B : Nat} {L : UnV} {u : Un} (h : w.heap[B]? = some (.cells (L.cells u) 28 (0, 0))) (j : Nat) : w.frozen? ⟨B, j, none⟩ = false := frozen_of_row w B j _ 28 h
theorem info28s : (Try.prog.info? 28).map (·.size) = some 15 := by kernel_rfl
/-- A unit's box is loaded. -/
theorem box_load {w : World} {B : Nat} {L : UnV} {u : Un} (h : w.heap[B]? = some (.cells (L.cells u) 28 (0, 0))) : (Instr.loadAt 28 (.pointer (some ⟨B, 0, none⟩))).run Try.prog w = .ok (.agg #[.int .i64 u.k1, .int .i64 u.k2, .slice L.P u.pts.length L.c, .int .i64 u.left.ins, .int .i64 u.left.regs, .slice L.l.A u.left.code.length L.l.c, .slice L.l.B u.left.outs.length L.l.d, .int .i64 u.right.ins, .int .i64 u.right.regs, .slice L.r.A u.right.code.length L.r.c, .slice L.r.B u.right.outs.length L.r.d, .int .i64 u.back.ins, .int .i64 u.back.regs, .slice L.b.A u.back.code.length L.b.c, .slice L.b.B u.back.outs.length L.b.d]) w :=
  run_loadAt_mid w B 0 28 (L.cells u).toList _ (fun j v hj => by rw [Nat.zero_add, cell_of_row w B j _ 28 (0, 0) h]; simpa using hj) Try.underlying28 rfl info28s
/-- A unit lies in a box. -/
def BoxAt (w : World) (B : Nat) (v : Value) : Prop := ∃ (L : UnV) (u : Un), v = L.val u ∧ w.heap[B]? = some (.cells (L.cells u) 28 (0, 0))
theorem load_box {w : World} {B : Nat} {v : Value} (h : BoxAt w B v) : (Instr.loadAt 28 (.pointer (some ⟨B, 0, none⟩))).run Try.prog w = .ok v w := by
  obtain ⟨L, u, rfl, h⟩ := h
  exact box_load h
theorem wp_load_box {op : Oper} {a : Act} {w : World} {K : Act → World → Prop} {Q : Exit → Act → World → Prop} {v : Value} (x : Operand) (ho : op.op = .load 28 x) (B : Nat) (hx : a.eval x = .pointer (some ⟨B, 0, none⟩)) (h : BoxAt w B v) (hK : K (a.put op.dst v) w) : op.wp Try.prog a w K Q := by
  unfold Oper.wp execOp
  simp only [ho, hx, Sem.run_bind, Sem.run_pure, Result.andThen_ok, load_box h]
  exact hK
theorem wpList_load_box {ops : Array Oper} {rest : List Oper} {op : Oper} {a : Act} {w : World} {Q : Exit → Act → World → Prop} {v : Value} (hgd : op.guard = none) (x : Operand) (ho : op.op = .load 28 x) (B : Nat) (hx : a.eval x = .pointer (some ⟨B, 0, none⟩)) (h : BoxAt w B v)
    (hK : wpList Try.prog ops Q rest (a.put op.dst v) w) : wpList Try.prog ops Q (op :: rest) a w :=
  wpList_plain hgd fun _ hk => wp_load_box x ho B hx h (hk _ _ hK)
theorem wpList_load_boxg {ops : Array Oper} {rest : List Oper} {op : Oper} {a : Act} {w : World} {Q : Exit → Act → World → Prop} {v : Value} (hw : Region.wanted op (yielded ops a.tmps) = true) (x : Operand) (ho : op.op = .load 28 x) (B : Nat) (hx : a.eval x = .pointer (some ⟨B, 0, none⟩)) (h : BoxAt w B v)
    (hK : wpList Try.prog ops Q rest (a.put op.dst v) w) : wpList Try.prog ops Q (op :: rest) a w := by
  unfold wpList
  rw [if_pos hw]
  exact .inl (wp_load_box x ho B hx h hK)
theorem BoxAt.lt {w : World} {B : Nat} {v : Value} (h : BoxAt w B v) : B < w.heap.size := by
  obtain ⟨L, u, rfl, h⟩ := h
  exact (Array.getElem?_eq_some_iff.1 h).1
theorem BoxAt.below {w w' : World} {B : Nat} {v : Value} (h : BoxAt w B v) (hb : Below w.heap.size w w') : BoxAt w' B v := by
  have hl := h.lt
  obtain ⟨L, u, hv, h⟩ := h
  exact ⟨L, u, hv, (hb.block B hl).trans h⟩

/-- What a function that answers a known truth value leaves. -/
def BOut (w : World) (d : Bool) (e : Ending) (w' : World) : Prop := e = .returned (.bool d) ∧ Below w.heap.size w w'
theorem bool_out {f : Nat} {args : Array Value} {w : World} {P : Prop} {d : Bool} (h : Calls Try.prog f args w (SmOut w P)) (hd : d = true ↔ P) : Calls Try.prog f args w (BOut w d) :=
  h.mono fun _ _ ⟨b, he, hb, hbel⟩ => ⟨by rw [he, show b = d from Bool.eq_iff_iff.2 (hb.trans hd.symm)], hbel⟩
/-- What copied leaves: a unit that is the same in the program's words. -/
def CpU (U : Value) (w : World) (e : Ending) (w' : World) : Prop := ∃ V : Value, e = .returned V ∧ Below w.heap.size w w' ∧ ∀ wy, Below w'.heap.size w' wy → Calls Try.prog 14 #[U, V] wy (BOut wy true)
theorem copied_same {u : Un} {L : UnV} {w : World} (hu : UnIn w L u) (hs : u.fits) : Calls Try.prog 19 #[L.val u] w (CpU (L.val u) w) :=
  (copied19 u L w hu hs).mono fun _ _ ⟨N, he, ho, hb⟩ => ⟨_, he, hb, fun wy h => bool_out (d := true) (same14 u u L N wy ((hu.below hb).below h) (ho.in.below h)) ⟨fun _ => rfl, fun _ => rfl⟩⟩
/-- What a law answers. -/
def LawOut (w : World) (e : Ending) (w' : World) : Prop := e = .returned (.bool true) ∧ Below w.heap.size w w'
theorem decided (P : Prop) : ∃ d : Bool, d = true ↔ P := by
  by_cases h : P
  · exact ⟨true, by simp [h]⟩
  · exact ⟨false, by simp [h]⟩
end Go.Proofs.Ytcelcognmdcenaa

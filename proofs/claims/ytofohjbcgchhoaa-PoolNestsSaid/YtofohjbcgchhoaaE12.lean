/-
  THE WALK, on: make; a body with labels; sums.
-/
import Derived.Test.YtofohjbcgchhoaaE11
import Derived.Laws.MakeOwn
namespace Go.Proofs.Ytofohjbcgchhoaa
open Go.Conc
open Go.RowKit
open Go.ConcN (sumTo sumTo_congr le_sumTo)
variable {E : En}

section
variable {P : Program} {w : World}
theorem make_flat {ty e : TypeId} {i : TypeInfo} {z : Value} (ht : P.underlying ty = some (.slice e)) (hi : P.info? e = some i) (hz : i.zero = some z) (hs : i.size = 1) (hb : i.bytes ≤ 64) (hzc : z.cells = #[z]) (n : Nat) (hn : n ≤ 1048576) :
    (Instr.makeSlice ty (.int .i64 (n : Nat)) (.int .i64 (n : Nat))).run P w = .ok (.slice (some ⟨w.heap.size, 0, none⟩) n n) (w.alloc (.cells (Array.replicate n z) e)) ∧
    (Instr.makeSlice ty (.int .i64 (n : Nat)) (.int .i64 (n : Nat))).events P w #[] = #[] := by
  have hb1 : (i.bytes : Int) * (n : Int) ≤ 281474976710656 := by
    have h : i.bytes * n ≤ 64 * 1048576 := Nat.mul_le_mul hb hn
    have h' : ((i.bytes * n : Nat) : Int) ≤ 281474976710656 := by omega
    rwa [Int.natCast_mul] at h'
  have hb2 : ¬ (n * i.bytes > roomBytes) := by
    have h : n * i.bytes ≤ 1048576 * 64 := Nat.mul_le_mul hn hb
    unfold roomBytes
    omega
  have hcells : madeCells z.cells (n * i.size) = Array.replicate n z := by
    rw [hs, hzc, Nat.mul_one]
    unfold madeCells
    apply Array.ext
    · simp
    · intro k h1 h2
      simp [Nat.mod_one]
  constructor
  · have := run_make (P := P) w ty e i z ht hi hz .i64 .i64 n n (by omega) (by omega) hb1 (by omega)
    simp only [Int.toNat_natCast] at this
    rw [this, hcells]
  · have wl : IntKind.i64.wrap (n : Int) = n := by rw [IntKind.wrap_i64]; omega
    have n1 : ¬ ((n : Int) < 0) := by omega
    have n2 : ¬ (281474976710656 < (i.bytes : Int) * (n : Int)) := by omega
    have ha : ∀ es, (askRoom (n * i.bytes)).events P w es = es := fun es => by unfold askRoom; rw [if_neg hb2]; rfl
    simp [Instr.makeSlice, run_underlying ht, asInt, asIntOf, run_typeInfo w hi, sizeOf, wl, n1, n2, ha, newRow]
    intro _
    cases (zeroValue e).run P w <;> rfl
end

section
variable {e : Nat} {fn : FuncId} {a : Act} {l : Lo} {K : Act → Lo → Prop} {ops : Array Oper} {j : Nat} {o : Oper}
/-- make([]T, n), elements of one cell. -/
theorem u_make {ty el : TypeId} {i : TypeInfo} {z : Value} {x y : Operand} (n : Nat) (he : 1 ≤ e) (hact : l.md = .act) (ho : ops[j]? = some o) (hw : Region.wanted o (yielded ops a.tmps) = true) (hop : o.op = .makeSlice ty x y) (ht : Try.prog.underlying ty = some (.slice el)) (hi : Try.prog.info? el = some i) (hz : i.zero = some z) (hs : i.size = 1) (hb : i.bytes ≤ 64) (hzc : z.cells = #[z]) (hn : n ≤ 1048576)
    (hx : a.eval x = .int .i64 (n : Nat)) (hy : a.eval y = .int .i64 (n : Nat)) (h : ∀ r, Fresh l r → K (a.put o.dst (.slice (some ⟨r, 0, none⟩) n n)) (l.addc r (Array.replicate n z))) : E.U e fn ops j K a l := by
  have hm := fun w => make_flat (P := Try.prog) (w := w) ht hi hz hs hb hzc n hn
  refine u_new he hact ho hw (.cells (Array.replicate n z) el) (fun r => .slice (some ⟨r, 0, none⟩) n n) (fun r => l.addc r (Array.replicate n z)) (fun w => ?_) (fun w => ?_) (new_cells hact _ _) h
  · unfold execOp
    simp [hop, hx, hy, (hm w).1, Result.andThen]
  · unfold execOp
    simp [hop, hx, hy, (hm w).2]
end

/-- A sum over those that are not in a list, and over those that are. -/
theorem sum_apart (n : Nat) (f : Nat → Nat) : ∀ (fk : List Nat), fk.Nodup → (∀ j ∈ fk, j < n) → sumTo n (fun j => if j ∈ fk then 0 else f j) + (fk.map f).sum = sumTo n f := by
  intro fk
  induction fk with
  | nil => intro _ _; simp
  | cons x xs ih =>
    intro hn hlt
    simp only [List.nodup_cons] at hn
    have h1 := ih hn.2 fun j hj => hlt j (by simp [hj])
    have hx := hlt x (by simp)
    have h2 := sumTo_one hx (fun j => if j ∈ xs then 0 else f j) (fun j => if j ∈ x :: xs then 0 else f j) (fun j hj => by simp [hj])
    simp only [hn.1, if_false, List.mem_cons, true_or, if_true] at h2
    simp only [List.map_cons, List.sum_cons]
    simp only [List.mem_cons]
    omega
end Go.Proofs.Ytofohjbcgchhoaa

/-
  PLAIN LAW: a unit's bytes, as far as they are told.
-/
import Derived.Test.YtcelcognmdcenaaMem
namespace Go.Proofs.Ytcelcognmdcenaa
open Go.RowKit

def hd7 (u : Un) : List Nat := [65, 78, 86, 49] ++ [by8 u.k1, by8 u.k2, by8 u.pts.length]
/-- As far as so many points. -/
def upP (u : Un) (j : Nat) : List Nat := hd7 u ++ (u.pts.take j).flatMap ptBytes
/-- The k-th program. -/
def pk (u : Un) (k : Nat) : Pr := if k = 0 then u.left else if k = 1 then u.right else u.back
/-- As far as so many programs. -/
def upB (u : Un) : Nat → List Nat
  | 0 => upP u u.pts.length
  | k + 1 => upB u k ++ (pk u k).bytes
/-- A program as far as so many instructions. -/
def Pr.upC (p : Pr) (j : Nat) : List Nat := [by8 p.ins, by8 p.regs] ++ by16 p.code.length ++ (p.code.take j).flatMap Ins.bytes
/-- A program as far as so many outs. -/
def Pr.upO (p : Pr) (j : Nat) : List Nat := p.upC p.code.length ++ [by8 p.outs.length] ++ (p.outs.take j).map by8
theorem take_next {α : Type} {l : List α} {j : Nat} {x : α} (h : l[j]? = some x) : l.take (j + 1) = l.take j ++ [x] := by
  rw [List.take_add_one, h]; rfl
theorem Pr.upO_all (p : Pr) : p.upO p.outs.length = p.bytes := by
  unfold Pr.upO Pr.upC Pr.bytes
  rw [List.take_length, List.take_length]
theorem upB_3 (u : Un) : upB u 3 = u.body := by
  show upP u u.pts.length ++ u.left.bytes ++ u.right.bytes ++ u.back.bytes = u.body
  unfold upP hd7 Un.body
  rw [List.take_length]; rfl
theorem upP_0 (u : Un) : upP u 0 = hd7 u := by unfold upP; simp
theorem upP_next {u : Un} {j : Nat} {x : Int × Int} (h : u.pts[j]? = some x) : upP u j ++ [by8 x.1, by8 x.2] = upP u (j + 1) := by
  unfold upP
  rw [take_next h, List.flatMap_append, ← List.append_assoc]
  rfl
theorem Pr.upC_0 (p : Pr) (l : List Nat) : l ++ [by8 p.ins, by8 p.regs] ++ by16 p.code.length = l ++ p.upC 0 := by unfold Pr.upC; simp
theorem Pr.upC_next {p : Pr} {j : Nat} {x : Ins} (h : p.code[j]? = some x) (l : List Nat) : l ++ p.upC j ++ [by8 x.op, by8 x.to, by8 x.a, by8 x.b] ++ by16 x.c = l ++ p.upC (j + 1) := by
  unfold Pr.upC
  rw [take_next h, List.flatMap_append]
  simp [Ins.bytes]
theorem Pr.upO_0 (p : Pr) (l : List Nat) : l ++ p.upC p.code.length ++ [by8 p.outs.length] = l ++ p.upO 0 := by unfold Pr.upO; simp
theorem Pr.upO_next {p : Pr} {j : Nat} {x : Int} (h : p.outs[j]? = some x) (l : List Nat) : l ++ p.upO j ++ [by8 x] = l ++ p.upO (j + 1) := by
  unfold Pr.upO
  rw [take_next h, List.map_append]
  simp
theorem flat_len {α : Type} {f : α → List Nat} {s : Nat} (hs : ∀ x, (f x).length = s) (l : List α) : (l.flatMap f).length = l.length * s := by
  induction l with
  | nil => simp
  | cons a l ih => rw [List.flatMap_cons, List.length_append, ih, hs, List.length_cons, Nat.succ_mul]; omega
theorem upP_len {u : Un} (h : u.pts.length ≤ 255) (j : Nat) : (upP u j).length ≤ 517 := by
  unfold upP hd7
  rw [List.length_append, flat_len (s := 2) (fun _ => rfl), List.length_take]
  simp only [List.cons_append, List.nil_append, List.length_cons, List.length_nil]
  omega
theorem Pr.upC_len {p : Pr} (h : p.code.length ≤ 16384) (j : Nat) : (p.upC j).length ≤ 98308 := by
  unfold Pr.upC
  rw [List.length_append, flat_len (s := 6) (fun _ => rfl), List.length_take]
  simp only [by16, List.cons_append, List.nil_append, List.length_cons, List.length_nil]
  omega
theorem Pr.upO_len {p : Pr} (h : p.code.length ≤ 16384) (h2 : p.outs.length ≤ 128) (j : Nat) : (p.upO j).length ≤ 98437 := by
  unfold Pr.upO
  have := Pr.upC_len h p.code.length
  rw [List.length_append, List.length_append, List.length_map, List.length_take]
  simp only [List.length_cons, List.length_nil]
  omega
theorem Pr.ok_len {p : Pr} (h : p.ok = true) : p.code.length ≤ 16384 ∧ p.outs.length ≤ 128 := by
  unfold Pr.ok at h
  rw [Bool.and_eq_true, Bool.and_eq_true] at h
  have := of_decide_eq_true h.1.1
  omega
theorem fault_parts {u : Un} (h : u.fault = 0) : u.pts.length ≤ 255 ∧ u.left.ok = true ∧ u.right.ok = true ∧ u.back.ok = true := by
  unfold Un.fault at h
  split at h
  · rename_i h1
    rw [Bool.and_eq_true] at h1
    have h2 := of_decide_eq_true h1.1
    split at h
    · rename_i h3
      rw [Bool.and_eq_true, Bool.and_eq_true] at h3
      exact ⟨h2.2.2.2.2, h3.1.1, h3.1.2, h3.2⟩
    · cases h
  · cases h
theorem pk_len {u : Un} (h : u.fault = 0) (k : Nat) : (pk u k).code.length ≤ 16384 ∧ (pk u k).outs.length ≤ 128 := by
  obtain ⟨_, h1, h2, h3⟩ := fault_parts h
  unfold pk
  split
  · exact Pr.ok_len h1
  · split
    · exact Pr.ok_len h2
    · exact Pr.ok_len h3
theorem upB_len {u : Un} (h : u.fault = 0) (k : Nat) : (upB u k).length ≤ 517 + k * 98437 := by
  induction k with
  | zero => exact upP_len (fault_parts h).1 _
  | succ k ih =>
    have := Pr.upO_len (pk_len h k).1 (pk_len h k).2 (pk u k).outs.length
    rw [Pr.upO_all] at this
    show (upB u k ++ _).length ≤ _
    rw [List.length_append]
    omega
theorem tel_app {w : World} {B n n' : Nat} {v : Value} {l news l' : List Nat} (h : w.ownsRow B 5 1 v n (vB l ++ vB news)) (hn : n' = n) (e : l ++ news = l') : w.ownsRow B 5 1 v n' (vB l') := by
  subst hn
  have : vB l' = vB l ++ vB news := by rw [← e]; simp [vB]
  rw [this]; exact h
theorem tel_len {w : World} {B n : Nat} {v : Value} {l : List Nat} (h : w.ownsRow B 5 1 v n (vB l)) : l.length = n := by
  have := h.1
  rw [vB_len] at this
  omega
theorem lit_cells2 (w : World) (l : List Value) (T : TypeId) (b : Nat) (hb : w.heap.size = b) : ∀ j u, l[j]? = some u → (w.alloc (.cells l.toArray T)).cell? ⟨b, j, none⟩ = some u := by
  intro j u hu
  subst hb
  rw [cell_of_row _ w.heap.size j _ T (0, 0) (heap_alloc_new w _)]
  simpa using hu
end Go.Proofs.Ytcelcognmdcenaa

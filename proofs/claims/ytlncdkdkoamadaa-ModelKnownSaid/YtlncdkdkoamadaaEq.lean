/-
  WALKS: slices.Equal at the moves of two runs.
-/
import Derived.Test.YtlncdkdkoamadaaPy
import Derived.Deep.QuietTactic
import Derived.BigQuiet
namespace Go.Proofs.Ytlncdkdkoamadaa
open Go.RowKit

/-- A slice of moves, read. -/
def RdE (w : World) (A : Option Addr) (n : Nat) (f : Nat → Nat × Nat × Bool) : Prop :=
  0 < n → ∃ g, A = some ⟨g, 0, none⟩ ∧ g < w.heap.size ∧ ∀ i, i < n → w.cell? ⟨g, i * 3, none⟩ = some (.int .i64 ((f i).1 : Nat)) ∧ w.cell? ⟨g, i * 3 + 1, none⟩ = some (.int .i64 ((f i).2.1 : Nat)) ∧ w.cell? ⟨g, i * 3 + 2, none⟩ = some (.bool (f i).2.2)
theorem own_rdE {w : World} {base : Nat} {v : Value} {n : Nat} {f : Nat → Nat × Nat × Bool} (h : w.ownsRow base 41 3 v n (evCs f n)) : ∃ A c, v = .slice A n c ∧ n ≤ c ∧ c ≤ maxLen ∧ RdE w A n f := by
  obtain ⟨A, c, h1, h2, h3, h4⟩ := own_form3 h
  refine ⟨A, c, h1, h2, h3, fun hn => ?_⟩
  obtain ⟨g, hA, hg, hc⟩ := h4 hn
  refine ⟨g, hA, hg, fun i hi => ?_⟩
  obtain ⟨e1, e2, e3⟩ := evCs_get f n i hi
  exact ⟨hc _ _ e1, hc _ _ e2, hc _ _ e3⟩

theorem RdE.below {w w' : World} {A : Option Addr} {n : Nat} {f : Nat → Nat × Nat × Bool} (h : RdE w A n f) (hb : Below w.heap.size w w') : RdE w' A n f := fun hn => by
  obtain ⟨g, hA, hg, hc⟩ := h hn
  refine ⟨g, hA, Nat.lt_of_lt_of_le hg hb.size, fun i hi => ?_⟩
  obtain ⟨e1, e2, e3⟩ := hc i hi
  exact ⟨by rw [hb.cell (p := ⟨g, i * 3, none⟩) hg]; exact e1, by rw [hb.cell (p := ⟨g, i * 3 + 1, none⟩) hg]; exact e2, by rw [hb.cell (p := ⟨g, i * 3 + 2, none⟩) hg]; exact e3⟩

theorem TrInv.push1 {R : World → (Nat → Nat) → G → Prop} {w wr W' : World} {lab : Nat → Nat} {s : G} {v v' : Value} {k : Nat} {xs ys : List Value} {o1 : Obj} (h0 : TrInv R w wr lab s v k xs) (hF : Frames R) (hg : (wr.alloc o1).grownBy W' v.ownBlock) (ho : W'.ownsRow w.heap.size 41 3 v' (k + 1) ys) (hx : ∃ zs, ys = xs ++ zs) (hat : v'.ownBlock = v.ownBlock ∨ v'.ownBlock = some (wr.heap.size + 1)) :
    ∃ lab', TrInv R w W' lab' s v' (k + 1) ys := by
  obtain ⟨zs, rfl⟩ := hx
  have h : TrInv R w (wr.alloc o1) lab s v k xs := h0.keep hF ((Below.refl _ _).alloc (Nat.le_refl _) _)
  exact ⟨_, h.push hF hg ho (by rcases hat with e | e; exact .inl e; exact .inr (by rw [e]; simp))⟩

set_option maxHeartbeats 3200000 in
theorem equalEv_any (A B : Option Addr) (n c d : Nat) (f : Nat → Nat × Nat × Bool) (w : World) (ha : RdE w A n f) (hb : RdE w B n f) (hn : n ≤ 600) :
    Calls Try.prog 31 #[.slice A n c, .slice B n d] w fun e w' => e = .returned (.bool true) ∧ ∃ j, w.drewN j = w' := by
  have HA := Lib.hid ha
  have HB := Lib.hid hb
  clear ha hb
  go_enter Try.func31, Try.ntmps31
  go_wp2_with fail
  go_loopw [13] (fun i wr => ∃ j : Nat, j ≤ n ∧ i = .int .i64 j ∧ ∃ q, w.drewN q = wr) (fun i _ => n - (intOf i).toNat)
  case atStart => exact ⟨0, Nat.zero_le _, rfl, 0, rfl⟩
  case round =>
    obtain ⟨j, hj, rfl, q, rfl⟩ := hrel
    by_cases hlt : j < n
    · obtain ⟨ga, rfl, _, hca⟩ := HA.out (by omega)
      obtain ⟨gb, rfl, _, hcb⟩ := HB.out (by omega)
      obtain ⟨a1, a2, a3⟩ := hca j hlt
      obtain ⟨b1, b2, b3⟩ := hcb j hlt
      clear hca hcb
      generalize (f j).1 = x1 at *
      generalize (f j).2.1 = x2 at *
      generalize (f j).2.2 = x3 at *
      go_wp2_with fail
      go_quiet (fail)
      go_wp2_with fail
      go_roundw
      case rel => exact ⟨j + 1, by omega, by go_num, q + nq, by first | rfl | rw [World.drewN_drewN]⟩
      case measure => simp [intOf]; omega
    · go_wp2_with fail
      go_ret
      exact ⟨rfl, q, rfl⟩
end Go.Proofs.Ytlncdkdkoamadaa

/-
  WALKS: the check of bytes, a number in two bytes; in the program's and in the reference's words.
-/
import Derived.Test.YtcelcognmdcenaaC1
namespace Go.Proofs.Ytcelcognmdcenaa
open Go.RowKit

/-- The check's step, with the place reckoned down. -/
theorem chk_next (b : Nat → Nat) (k : Nat) (x : Nat) (hx : b k = x) : ((chkTo b k : Int) + (((k : Int) + 1) % 65521) * (x : Int)) % 65521 = (chkTo b (k + 1) : Int) := by
  show _ = (((chkTo b k + (k + 1) * b k) % 65521 : Nat) : Int)
  rw [hx, Int.natCast_emod, Int.natCast_add, Int.natCast_mul]
  rw [Int.add_emod, Int.mul_emod, Int.emod_emod, ← Int.mul_emod, ← Int.add_emod]
  rfl
theorem chk_next2 (b : Nat → Nat) (k : Nat) (x : Nat) (hx : b k = x) : ((chkTo b k : Int) + ((k : Int) + 1) * (x : Int)) % 65521 = (chkTo b (k + 1) : Int) := by
  show _ = (((chkTo b k + (k + 1) * b k) % 65521 : Nat) : Int)
  rw [hx, Int.natCast_emod, Int.natCast_add, Int.natCast_mul]
  rfl
theorem chkI_lt (f : Nat → Nat) (k : Nat) : 0 ≤ (chkTo f k : Int) ∧ (chkTo f k : Int) ≤ 65520 := by have := chkTo_lt f k; omega

set_option maxHeartbeats 1000000 in
theorem check29 (A : Option Addr) (n c : Nat) (l : List Nat) (w : World) (h : Reads w 1 (.slice A n c) n (vB l)) (hl : ∀ x ∈ l, x < 256) (hn : n ≤ 4294967296) :
    Calls Try.prog 29 #[.slice A n c] w fun e w' => e = .returned (.int .i64 (chk l : Nat)) ∧ w = w' := by
  have hlen := h.bytes.1
  have HR := Lib.hid h.bytes.2
  have HLT := Lib.hid hl
  obtain ⟨f, hf⟩ : ∃ f : Nat → Nat, f = fun i => l.getD i 0 := ⟨_, rfl⟩
  have HF := Lib.hid hf
  have HC : Hid (chk l = chkTo f n) := by rw [hf, ← hlen]; rfl
  rw [HC.out]
  have HLEN := Lib.hid hlen
  clear h hl hf hlen
  go_enter Try.func29, Try.ntmps29
  go_wp2_with fail
  go_loop [3, 8] (fun m i => ∃ k : Nat, k ≤ n ∧ i = .int .i64 k ∧ m = .int .i64 (chkTo f k : Nat)) (fun _ i => n - (intOf i).toNat)
  case atStart => exact ⟨0, Nat.zero_le _, rfl, rfl⟩
  case round =>
    obtain ⟨k, hk, rfl, rfl⟩ := hrel
    have hb := chkI_lt f k
    by_cases hlt : k < n
    · obtain ⟨bb, o, rfl, _, hc⟩ := HR.out (by omega)
      obtain ⟨x, hx⟩ : ∃ x, l[k]? = some x := ⟨l[k]'(by rw [HLEN.out]; exact hlt), List.getElem?_eq_getElem _⟩
      have hce := hc k x hx
      have hx2 := HLT.out x (List.mem_of_getElem? hx)
      have HN := Lib.hid (chk_next f k x (by rw [HF.out]; simp [List.getD, hx]))
      have hm0 : 0 ≤ ((k : Int) + 1) % 65521 * (x : Int) := Int.mul_nonneg (Int.emod_nonneg _ (by decide)) (by omega)
      have hm1 : ((k : Int) + 1) % 65521 * (x : Int) ≤ 65520 * 255 := Int.mul_le_mul (by omega) (by omega) (by omega) (by omega)
      clear hc hx
      generalize hcc : (chkTo f k : Int) = cc at *
      clear hcc
      go_wp2_with fail
      go_round
      case rel => exact ⟨k + 1, by omega, by go_num, by rw [← HN.out]⟩
      case measure => simp [intOf]; omega
    · obtain rfl : k = n := by omega
      go_wp2_with fail
      go_ret
      exact ⟨rfl, rfl⟩

set_option maxHeartbeats 1000000 in
theorem check44 (A : Option Addr) (n c : Nat) (l : List Nat) (w : World) (h : Reads w 1 (.slice A n c) n (vB l)) (hl : ∀ x ∈ l, x < 256) (hn : n ≤ 4294967296) :
    Calls Try.prog 44 #[.slice A n c] w fun e w' => e = .returned (.int .i64 (chk l : Nat)) ∧ w = w' := by
  have hlen := h.bytes.1
  have HR := Lib.hid h.bytes.2
  have HLT := Lib.hid hl
  obtain ⟨f, hf⟩ : ∃ f : Nat → Nat, f = fun i => l.getD i 0 := ⟨_, rfl⟩
  have HF := Lib.hid hf
  have HC : Hid (chk l = chkTo f n) := by rw [hf, ← hlen]; rfl
  rw [HC.out]
  have HLEN := Lib.hid hlen
  clear h hl hf hlen
  go_enter Try.func44, Try.ntmps44
  go_wp2_with fail
  go_loop [3, 4] (fun m i => ∃ k : Nat, k ≤ n ∧ i = .int .i64 k ∧ m = .int .i64 (chkTo f k : Nat)) (fun _ i => n - (intOf i).toNat)
  case atStart => exact ⟨0, Nat.zero_le _, rfl, rfl⟩
  case round =>
    obtain ⟨k, hk, rfl, rfl⟩ := hrel
    have hb := chkI_lt f k
    by_cases hlt : k < n
    · obtain ⟨bb, o, rfl, _, hc⟩ := HR.out (by omega)
      obtain ⟨x, hx⟩ : ∃ x, l[k]? = some x := ⟨l[k]'(by rw [HLEN.out]; exact hlt), List.getElem?_eq_getElem _⟩
      have hce := hc k x hx
      have hx2 := HLT.out x (List.mem_of_getElem? hx)
      have HN := Lib.hid (chk_next2 f k x (by rw [HF.out]; simp [List.getD, hx]))
      have hm0 : 0 ≤ ((k : Int) + 1) * (x : Int) := Int.mul_nonneg (by omega) (by omega)
      have hm1 : ((k : Int) + 1) * (x : Int) ≤ 4294967297 * 255 := Int.mul_le_mul (by omega) (by omega) (by omega) (by omega)
      clear hc hx
      generalize hcc : (chkTo f k : Int) = cc at *
      clear hcc
      go_wp2_with fail
      go_round
      case rel => exact ⟨k + 1, by omega, by go_num, by rw [← HN.out]⟩
      case measure => simp [intOf]; omega
    · obtain rfl : k = n := by omega
      go_wp2_with fail
      go_ret
      exact ⟨rfl, rfl⟩
end Go.Proofs.Ytcelcognmdcenaa

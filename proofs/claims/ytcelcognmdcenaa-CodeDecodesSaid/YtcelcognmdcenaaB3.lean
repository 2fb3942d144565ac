/-
  WALKS: the program's reader: its function values.
-/
import Derived.Test.YtcelcognmdcenaaB2
import Derived.Laws.BitsLemmas
namespace Go.Proofs.Ytcelcognmdcenaa
open Go.RowKit

theorem or_join (h l : Nat) (hh : h < 65536) (hl : l < 256) : bits BinOp.or IntKind.i64 ((h : Int) * 256) (l : Int) = (h : Int) * 256 + l :=
  bits_join .i64 62 (by decide) (fun n h0 h1 => by rw [IntKind.wrap_i64]; omega) 8 _ _ (by omega) (by omega) (by omega) (by omega) (by omega) (by omega)
theorem wrap_sgn16 (h l : Nat) (hh : h < 256) (hl : l < 256) : wrap64 (IntKind.i16.wrap ((h : Int) * 256 + l)) = sgn16 h l := by
  unfold wrap64 sgn16
  simp [IntKind.wrap, IntKind.bits, IntKind.signed]
  split <;> split <;> omega
theorem wrap_sgn8 (x : Nat) (hx : x < 256) : wrap64 (IntKind.i8.wrap (x : Int)) = sgn8 x := by
  unfold wrap64 sgn8
  simp [IntKind.wrap, IntKind.bits, IntKind.signed]
  split <;> split <;> omega

set_option maxHeartbeats 400000 in
theorem both62 (w : World) (h l : Nat) (hh : h < 256) (hl : l < 256) : Calls Try.prog 62 #[.int .i64 (h : Nat), .int .i64 (l : Nat)] w fun e w' => e = .returned (.int .i64 (sgn16 h l)) ∧ w = w' := by
  have HE := Lib.hid (wrap_sgn16 h l hh hl)
  have HJ := Lib.hid (or_join h l (by omega) hl)
  go_enter Try.func62, Try.ntmps62
  go_wp2_with fail
  go_ret
  exact ⟨ret_int (by rw [HJ.out]; exact HE.out), rfl⟩

set_option maxHeartbeats 1000000 in
theorem may61 (w : World) (b : Nat) (op c : Int) (h : w.cell? ⟨b, 0, none⟩ = some (.int .i64 op)) : Calls Try.prog 61 #[.int .i64 c, .pointer (some ⟨b, 0, none⟩)] w fun e w' => e = .returned (.bool (constOk op c)) ∧ w = w' := by
  by_cases h1 : op = 5 ∨ op = 6
  · rw [constOk_mul h1]
    by_cases h0 : c = 0
    · rw [decide_eq_false (by omega)]
      subst h0
      rcases h1 with rfl | rfl
      · go_enter Try.func61, Try.ntmps61
        go_wp2
        go_ret
        exact ⟨rfl, rfl⟩
      · go_enter Try.func61, Try.ntmps61
        go_wp2
        go_ret
        exact ⟨rfl, rfl⟩
    · have e0 : (c == 0) = false := by simpa using h0
      have e0' : (c != 0) = true := by simpa using h0
      rcases h1 with rfl | rfl
      · go_enter Try.func61, Try.ntmps61
        go_wp2
        all_goals
          go_ret
          exact ⟨ret_bool (biff (by first | (simp; done) | (simp; omega))), rfl⟩
      · go_enter Try.func61, Try.ntmps61
        go_wp2
        all_goals
          go_ret
          exact ⟨ret_bool (biff (by first | (simp; done) | (simp; omega))), rfl⟩
  · by_cases h2 : op = 7 ∨ op = 8
    · rw [constOk_sh h2]
      rcases h2 with rfl | rfl
      · go_enter Try.func61, Try.ntmps61
        go_wp2
        all_goals
          go_ret
          exact ⟨ret_bool (biff (by first | (simp; done) | (simp; omega))), rfl⟩
      · go_enter Try.func61, Try.ntmps61
        go_wp2
        all_goals
          go_ret
          exact ⟨ret_bool (biff (by first | (simp; done) | (simp; omega))), rfl⟩
    · rw [constOk_no h1 h2]
      have e5 : (op == 5) = false := by simp; omega
      have e6 : (op == 6) = false := by simp; omega
      have e7 : (op == 7) = false := by simp; omega
      have e8 : (op == 8) = false := by simp; omega
      clear h1 h2
      go_enter Try.func61, Try.ntmps61
      go_wp2
      go_ret
      exact ⟨ret_bool (by rfl), rfl⟩

set_option maxHeartbeats 400000 in
theorem asks53 {w : World} (x : Nat) (hx : x < 256) : Asks1 w 53 #[] x (decide (x < 256 ∧ (x ≤ 16 ∨ 240 ≤ x))) where
  call := fun _ _ => by kernel_rfl
  con := fun q => by
    show Calls Try.prog 53 #[.int .i64 (x : Nat)] (w.drewN q) _
    have HW : Hid (∃ j, w.drewN q = w.drewN j) := ⟨q, rfl⟩
    generalize w.drewN q = w1 at *
    go_enter Try.func53, Try.ntmps53
    go_wp2_with fail
    all_goals
      go_ret
      exact ⟨ret_bool (biff (by first | (simp; done) | (simp; omega))), HW.out⟩
set_option maxHeartbeats 400000 in
theorem asks54 {w : World} (x : Nat) (hx : x < 256) : Asks1 w 54 #[] x (decide (x ≤ 64)) where
  call := fun _ _ => by kernel_rfl
  con := fun q => by
    show Calls Try.prog 54 #[.int .i64 (x : Nat)] (w.drewN q) _
    have HW : Hid (∃ j, w.drewN q = w.drewN j) := ⟨q, rfl⟩
    generalize w.drewN q = w1 at *
    go_enter Try.func54, Try.ntmps54
    go_wp2_with fail
    go_ret
    exact ⟨ret_bool (biff (by simp; omega)), HW.out⟩
set_option maxHeartbeats 400000 in
theorem asks55 {w : World} {b h : Nat} (hh : h < 256) (hc : w.cell? ⟨b, 0, none⟩ = some (.int .i64 (h : Nat))) (x : Nat) (hx : x < 256) : Asks1 w 55 #[.pointer (some ⟨b, 0, none⟩)] x (decide (x < 256 ∧ h * 256 + x ≤ 16384)) where
  call := fun _ _ => by kernel_rfl
  con := fun q => by
    show Calls Try.prog 55 #[.int .i64 (x : Nat), .pointer (some ⟨b, 0, none⟩)] (w.drewN q) _
    have k1 : (w.drewN q).cell? ⟨b, 0, none⟩ = some (.int .i64 (h : Nat)) := by rw [drewN_cell]; exact hc
    have HW : Hid (∃ j, w.drewN q = w.drewN j) := ⟨q, rfl⟩
    have HJ := Lib.hid (or_join h x (by omega) hx)
    generalize w.drewN q = w1 at *
    clear hc
    go_enter Try.func55, Try.ntmps55
    go_wp2_with fail
    go_ret
    exact ⟨ret_bool (biff (by rw [HJ.out]; simp; omega)), HW.out⟩

set_option maxHeartbeats 400000 in
theorem signed34 {w : World} {r : Nat} {A : Option Addr} {n c : Nat} {bs : List Nat} {s : Nat × Bool} (h : RdP w r A n c bs s) :
    Calls Try.prog 34 #[.pointer (some ⟨r, 0, none⟩)] w (RdOut w r A n c bs s rCoord (fun x => x) (fun x => -128 ≤ x ∧ x < 128)) := by
  obtain ⟨p, wr⟩ := s
  have HC := Lib.hid (byte51 h 53 _ _ (fun x hx => asks53 x hx))
  clear h
  go_enter Try.func34, Try.ntmps34
  go_wp2_with fail
  (with_reducible refine HC.out.mono ?_)
  rintro e w' ⟨x, s', rfl, hx, hr, hg, ho⟩
  have HR := Lib.hid hr
  have HG := Lib.hid hg
  have HO := Lib.hid (ho.map sgn8)
  have HE := Lib.hid (wrap_sgn8 x hx)
  clear hr hg ho
  go_wp2_with fail
  go_ret
  exact ⟨sgn8 x, s', ret_int HE.out, by unfold sgn8; split <;> omega, HR.out, HG.out, HO.out⟩

/-! The constant's two bytes. -/
theorem highOk_iff (op : Int) (x : Nat) (hx : x < 256) : highOk op x = true ↔ ∃ l, l < 256 ∧ constOk op (sgn16 x l) = true := by
  unfold highOk
  by_cases h : op = 5 ∨ op = 6
  · rw [if_pos h]
    simp only [decide_eq_true_eq]
    constructor
    · intro hx'
      refine ⟨if x = 0 then 1 else 0, by split <;> omega, ?_⟩
      rw [constOk_mul h]
      refine decide_eq_true ?_
      unfold sgn16
      split <;> split <;> omega
    · rintro ⟨l, hl, hc⟩
      rw [constOk_mul h] at hc
      have := of_decide_eq_true hc
      unfold sgn16 at this
      split at this <;> omega
  · rw [if_neg h]
    simp only [decide_eq_true_eq]
    constructor
    · rintro rfl
      by_cases h2 : op = 7 ∨ op = 8
      · refine ⟨1, by omega, ?_⟩
        rw [constOk_sh h2]
        exact decide_eq_true (by unfold sgn16; simp)
      · refine ⟨0, by omega, ?_⟩
        rw [constOk_no h h2]
        exact decide_eq_true (by unfold sgn16; simp)
    · rintro ⟨l, hl, hc⟩
      have := (const_rng hc).2.2 h
      unfold sgn16 at this
      split at this <;> omega

set_option maxRecDepth 100000 in
set_option maxHeartbeats 1000000 in
theorem asks63 {w : World} {b5 b6 bo : Nat} {op : Int} (h5 : w.cell? ⟨b5, 0, none⟩ = some (.func (.func 61) #[] #[.pointer (some ⟨bo, 0, none⟩)])) (h6 : w.cell? ⟨b6, 0, none⟩ = some (.func (.func 62) #[] #[])) (ho : w.cell? ⟨bo, 0, none⟩ = some (.int .i64 op)) (x : Nat) (hx : x < 256) :
    Asks1 w 63 #[.pointer (some ⟨b5, 0, none⟩), .pointer (some ⟨b6, 0, none⟩)] x (highOk op x) where
  call := fun _ _ => by kernel_rfl
  con := fun q => by
    show Calls Try.prog 63 #[.int .i64 (x : Nat), .pointer (some ⟨b5, 0, none⟩), .pointer (some ⟨b6, 0, none⟩)] (w.drewN q) _
    have k5 : (w.drewN q).cell? ⟨b5, 0, none⟩ = _ := (drewN_cell w q _).trans h5
    have k6 : (w.drewN q).cell? ⟨b6, 0, none⟩ = _ := (drewN_cell w q _).trans h6
    have ko : (w.drewN q).cell? ⟨bo, 0, none⟩ = _ := (drewN_cell w q _).trans ho
    have HW : Hid (∀ i, ∃ j, (w.drewN q).drewN i = w.drewN j) := fun i => ⟨q + i, by rw [World.drewN_drewN]⟩
    have HI := Lib.hid (highOk_iff op x hx)
    generalize w.drewN q = w1 at *
    generalize highOk op x = res at *
    have HM := Lib.hid (fun (c : Int) i => may61 (w1.drewN i) bo op c ((drewN_cell w1 i _).trans ko))
    have HBO := Lib.hid (fun (l : Nat) (hl : l < 256) i => both62 (w1.drewN i) x l hx hl)
    clear h5 h6 ho ko
    go_enter Try.func63, Try.ntmps63
    go_wp2_with fail
    go_loopw [6] (fun i wr => ∃ k : Nat, k ≤ 256 ∧ i = .int .i64 k ∧ Hid (∀ l, l < k → constOk op (sgn16 x l) = false) ∧ ∃ q, w1.drewN q = wr) (fun i _ => 256 - (intOf i).toNat)
    case atStart => exact ⟨0, by omega, rfl, fun l hl => absurd hl (by omega), 0, rfl⟩
    case round =>
      obtain ⟨k, hk, rfl, HP, q, rfl⟩ := hrel
      by_cases hlt : k < 256
      · have HB1 := Lib.hid (fun i => HBO.out k hlt i)
        have HM1 := Lib.hid (fun i => HM.out (sgn16 x k) i)
        cases hc : constOk op (sgn16 x k) with
        | true =>
          rw [hc] at HM1
          have hr : res = true := HI.out.2 ⟨k, hlt, hc⟩
          subst hr
          clear hc HP
          generalize sgn16 x k = z at *
          go_wp2_with fail
          go_quiet ((first | exact (HB1.out _).mono fun e w' h => ⟨h.1, _, h.2.symm⟩ | exact (HM1.out _).mono fun e w' h => ⟨h.1, _, h.2.symm⟩))
          go_wp2_with fail
          go_ret
          exact ⟨rfl, by rw [World.drewN_drewN]; exact HW.out _⟩
        | false =>
          rw [hc] at HM1
          have HC := Lib.hid hc
          clear hc
          generalize hz : sgn16 x k = z at *
          have HZ := Lib.hid hz
          clear hz
          go_wp2_with fail
          go_quiet ((first | exact (HB1.out _).mono fun e w' h => ⟨h.1, _, h.2.symm⟩ | exact (HM1.out _).mono fun e w' h => ⟨h.1, _, h.2.symm⟩))
          go_wp2_with fail
          go_roundw
          case rel => exact ⟨k + 1, by omega, by go_num, fun l hl => by
            by_cases e : l = k
            · subst e; rw [HZ.out]; exact HC.out
            · exact HP.out l (by omega), _, rfl⟩
          case measure => simp [intOf]; omega
      · have hr : res = false := by
          cases hr : res with
          | false => rfl
          | true =>
            obtain ⟨l, hl, hc⟩ := HI.out.1 hr
            rw [HP.out l (by omega)] at hc
            cases hc
        subst hr
        clear HP
        go_wp2_with fail
        go_ret
        exact ⟨rfl, HW.out _⟩

set_option maxRecDepth 100000 in
set_option maxHeartbeats 1000000 in
theorem asks64 {w : World} {b5 b6 b7 bo h : Nat} {op : Int} (h5 : w.cell? ⟨b5, 0, none⟩ = some (.func (.func 61) #[] #[.pointer (some ⟨bo, 0, none⟩)])) (h6 : w.cell? ⟨b6, 0, none⟩ = some (.func (.func 62) #[] #[])) (h7 : w.cell? ⟨b7, 0, none⟩ = some (.int .i64 (h : Nat))) (ho : w.cell? ⟨bo, 0, none⟩ = some (.int .i64 op)) (hh : h < 256) (x : Nat) (hx : x < 256) :
    Asks1 w 64 #[.pointer (some ⟨b5, 0, none⟩), .pointer (some ⟨b6, 0, none⟩), .pointer (some ⟨b7, 0, none⟩)] x (lowOk op h x) where
  call := fun _ _ => by kernel_rfl
  con := fun q => by
    show Calls Try.prog 64 #[.int .i64 (x : Nat), .pointer (some ⟨b5, 0, none⟩), .pointer (some ⟨b6, 0, none⟩), .pointer (some ⟨b7, 0, none⟩)] (w.drewN q) _
    have k5 : (w.drewN q).cell? ⟨b5, 0, none⟩ = _ := (drewN_cell w q _).trans h5
    have k6 : (w.drewN q).cell? ⟨b6, 0, none⟩ = _ := (drewN_cell w q _).trans h6
    have k7 : (w.drewN q).cell? ⟨b7, 0, none⟩ = _ := (drewN_cell w q _).trans h7
    have ko : (w.drewN q).cell? ⟨bo, 0, none⟩ = _ := (drewN_cell w q _).trans ho
    have HW : Hid (∀ i, ∃ j, (w.drewN q).drewN i = w.drewN j) := fun i => ⟨q + i, by rw [World.drewN_drewN]⟩
    have hres : lowOk op h x = constOk op (sgn16 h x) := by unfold lowOk; rw [decide_eq_true hx, Bool.true_and]
    rw [hres]
    generalize w.drewN q = w1 at *
    have HM1 := Lib.hid (fun i => may61 (w1.drewN i) bo op (sgn16 h x) ((drewN_cell w1 i _).trans ko))
    have HB1 := Lib.hid (fun i => both62 (w1.drewN i) h x hh hx)
    clear h5 h6 h7 ho ko hres
    generalize constOk op (sgn16 h x) = res at *
    generalize sgn16 h x = z at *
    go_enter Try.func64, Try.ntmps64
    go_wp2_with fail
    go_quiet ((first | exact (HB1.out _).mono fun e w' h => ⟨h.1, _, h.2.symm⟩ | exact (HM1.out _).mono fun e w' h => ⟨h.1, _, h.2.symm⟩))
    go_wp2_with fail
    go_ret
    exact ⟨rfl, HW.out _⟩
end Go.Proofs.Ytcelcognmdcenaa

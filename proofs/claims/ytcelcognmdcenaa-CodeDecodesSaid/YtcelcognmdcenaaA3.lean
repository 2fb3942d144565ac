/-
  WALKS: may a program be? In the program's words.
-/
import Derived.Test.YtcelcognmdcenaaA2
namespace Go.Proofs.Ytcelcognmdcenaa
open Go.RowKit

theorem pr_ok_iff (p : Pr) : p.ok = true ↔ (1 ≤ p.ins ∧ p.ins ≤ p.regs ∧ p.regs ≤ 128 ∧ p.code.length ≤ 16384 ∧ 1 ≤ p.outs.length ∧ p.outs.length ≤ 128) ∧ (∀ (j : Nat) k, p.outs[j]? = some k → 0 ≤ k ∧ k < p.regs) ∧ ∀ (j : Nat) i, p.code[j]? = some i → i.ok p.regs = true := by
  unfold Pr.ok
  simp only [Bool.and_eq_true, decide_eq_true_eq, List.all_eq_true, and_assoc]
  constructor
  · rintro ⟨h1, h2, h3, h4, h5, h6, h7, h8⟩
    exact ⟨h1, h2, h3, h4, h5, h6, fun j k hk => h7 k (List.mem_iff_getElem?.2 ⟨j, hk⟩), fun j k hk => h8 k (List.mem_iff_getElem?.2 ⟨j, hk⟩)⟩
  · rintro ⟨h1, h2, h3, h4, h5, h6, h7, h8⟩
    exact ⟨h1, h2, h3, h4, h5, h6, fun k hk => by obtain ⟨j, hj⟩ := List.mem_iff_getElem?.1 hk; exact h7 j k hj, fun k hk => by obtain ⟨j, hj⟩ := List.mem_iff_getElem?.1 hk; exact h8 j k hj⟩

/-- What Check answers. -/
def ChkOut (w : World) (res : Bool) (e : Ending) (w' : World) : Prop := (∃ k : Int, e = .returned (.tuple #[.int .i64 k, .int .i64 (if res then 0 else 80)])) ∧ Below w.heap.size w w'
theorem ChkOut.no {w w' : World} {e : Ending} {res : Bool} (hr : res = false) (k : Int) (he : e = .returned (.tuple #[.int .i64 k, .int .i64 80])) (hb : Below w.heap.size w w') : ChkOut w res e w' := ⟨⟨k, by rw [hr]; exact he⟩, hb⟩
theorem ChkOut.yes {w w' : World} {e : Ending} {res : Bool} (hr : res = true) (k : Int) (he : e = .returned (.tuple #[.int .i64 k, .int .i64 0])) (hb : Below w.heap.size w w') : ChkOut w res e w' := ⟨⟨k, by rw [hr]; exact he⟩, hb⟩

/-- A box's cells live on. -/
theorem box_cell {w w1 : World} {cs : Array Value} {t : TypeId} (hb : Below (w.heap.size + 1) (w.alloc (.cells cs t)) w1) (j : Nat) : w1.cell? ⟨w.heap.size, j, none⟩ = cs[j]? :=
  cell_of_row w1 w.heap.size j cs t (0, 0) (by rw [hb.block _ (Nat.lt_succ_self _), heap_alloc_new])
theorem below_b {w w1 : World} {o : Obj} (hb : Below (w.heap.size + 1) (w.alloc o) w1) : Below w.heap.size w w1 := (below_a w o).trans (hb.mono (Nat.le_succ _))

set_option maxHeartbeats 2000000 in
theorem check39_head (ins regs : Int) (A B : Option Addr) (n c m d : Nat) (w : World) (hn : n ≤ maxLen) (hm : m ≤ maxLen) (h : ¬ (1 ≤ ins ∧ ins ≤ regs ∧ regs ≤ 128 ∧ n ≤ 16384 ∧ 1 ≤ m ∧ m ≤ 128)) :
    Calls Try.prog 39 #[.agg #[.int .i64 ins, .int .i64 regs, .slice A n c, .slice B m d]] w (ChkOut w false) := by
  unfold maxLen at hn hm
  have H := Lib.hid h
  clear h
  by_cases c0 : 1 ≤ ins
  case neg =>
    go_enter Try.func39, Try.ntmps39
    go_wp2_with fail
    go_ret2
    exact ChkOut.no rfl _ rfl (below_a _ _)
  by_cases c1 : ins ≤ regs
  case neg =>
    go_enter Try.func39, Try.ntmps39
    go_wp2_with fail
    go_ret2
    exact ChkOut.no rfl _ rfl (below_a _ _)
  by_cases c2 : regs ≤ 128
  case neg =>
    go_enter Try.func39, Try.ntmps39
    go_wp2_with fail
    go_ret2
    exact ChkOut.no rfl _ rfl (below_a _ _)
  by_cases c3 : n ≤ 16384
  case neg =>
    go_enter Try.func39, Try.ntmps39
    go_wp2_with fail
    go_ret2
    exact ChkOut.no rfl _ rfl (below_a _ _)
  by_cases c4 : 1 ≤ m
  case neg =>
    go_enter Try.func39, Try.ntmps39
    go_wp2_with fail
    go_ret2
    exact ChkOut.no rfl _ rfl (below_a _ _)
  have c5 : ¬ m ≤ 128 := fun c5 => H.out ⟨c0, c1, c2, c3, c4, c5⟩
  go_enter Try.func39, Try.ntmps39
  go_wp2_with fail
  go_ret2
  exact ChkOut.no rfl _ rfl (below_a _ _)

set_option maxHeartbeats 4000000 in
theorem check39_ok (p : Pr) (L : PrV) (w : World) (hp : PrIn w L p) (c0 : 1 ≤ p.ins) (c1 : p.ins ≤ p.regs) (c2 : p.regs ≤ 128) (c3 : p.code.length ≤ 16384) (c4 : 1 ≤ p.outs.length) (c5 : p.outs.length ≤ 128) :
    Calls Try.prog 39 #[.agg #[.int .i64 p.ins, .int .i64 p.regs, .slice L.A p.code.length L.c, .slice L.B p.outs.length L.d]] w (ChkOut w p.ok) := by
  obtain ⟨ins, regs, code, outs⟩ := p
  obtain ⟨A, c, B, d⟩ := L
  simp only at hp c0 c1 c2 c3 c4 c5 ⊢
  have HP := Lib.hid hp
  have hok := pr_ok_iff ⟨ins, regs, code, outs⟩
  simp only at hok
  obtain ⟨res, hres⟩ : ∃ res, res = (Pr.mk ins regs code outs).ok := ⟨_, rfl⟩
  rw [← hres] at hok ⊢
  have HOK := Lib.hid hok
  clear hok hres hp
  obtain ⟨n, hn⟩ : ∃ n, n = code.length := ⟨_, rfl⟩
  obtain ⟨m, hm⟩ : ∃ m, m = outs.length := ⟨_, rfl⟩
  rw [← hn] at c3
  rw [← hm] at c4 c5
  rw [← hn, ← hm]
  have HN := Lib.hid hn
  have HM := Lib.hid hm
  clear hn hm
  go_enter Try.func39, Try.ntmps39
  go_wp2_with fail
  obtain ⟨w1, hw1⟩ : ∃ w1, w1 = w.alloc (.cells #[.int .i64 ins, .int .i64 regs, .slice A n c, .slice B m d] 26) := ⟨_, rfl⟩
  have HW1 := Lib.hid hw1
  have hb1 : Below (w.heap.size + 1) w1 w1 := Below.refl _ _
  rw [← hw1]
  have e0 : w1.cell? ⟨w.heap.size, 0, none⟩ = some (.int .i64 ins) := by rw [hw1]; exact box_cell (Below.refl _ _) 0
  have e1 : w1.cell? ⟨w.heap.size, 1, none⟩ = some (.int .i64 regs) := by rw [hw1]; exact box_cell (Below.refl _ _) 1
  have e2 : w1.cell? ⟨w.heap.size, 2, none⟩ = some (.slice A n c) := by rw [hw1]; exact box_cell (Below.refl _ _) 2
  have HS1 : Hid (w1.heap.size = w.heap.size + 1) := Lib.hid (by rw [hw1]; simp)
  have HR := Lib.hid (hw1 ▸ HP.out.outs.alloc _).ints
  have HC := Lib.hid (hw1 ▸ HP.out.code.alloc _ : Reads w1 5 (.slice A code.length c) code.length (vC code)).code
  clear hw1 hb1
  go_loop [5, 44] (fun _ k => ∃ j : Nat, j ≤ m ∧ k = .int .i64 j ∧ Hid (∀ j', j' < j → ∀ r, outs[j']? = some r → 0 ≤ r ∧ r < regs)) (fun _ k => m - (intOf k).toNat)
  case atStart => exact ⟨0, Nat.zero_le _, rfl, fun j' h => absurd h (by omega)⟩
  case round =>
    obtain ⟨j, hj, rfl, HPJ⟩ := hrel
    by_cases hlt : j < m
    · obtain ⟨r, hr⟩ : ∃ r, outs[j]? = some r := ⟨outs[j]'(by rw [← HM.out]; exact hlt), List.getElem?_eq_getElem _⟩
      obtain ⟨_, hq⟩ := HR.out
      obtain ⟨bb, o, hB, hbs, hcell⟩ := hq (by rw [← HM.out]; omega)
      subst hB
      have hce := hcell j r hr
      have HRJ := Lib.hid hr
      clear hq hcell hr hbs
      by_cases r0 : 0 ≤ r
      · by_cases r1 : r < regs
        · go_wp2_with fail
          go_round
          case rel => exact ⟨j + 1, by omega, by go_num, fun j' hj' r' hr' => by
            by_cases e : j' = j
            · subst e; rw [HRJ.out] at hr'; cases hr'; exact ⟨r0, r1⟩
            · exact HPJ.out j' (by omega) r' hr'⟩
          case measure => simp [intOf]; omega
        · go_wp2_with fail
          go_ret2
          refine ChkOut.no ?_ _ rfl (by rw [HW1.out]; exact below_a _ _)
          cases hre : res with
          | false => rfl
          | true => have := (HOK.out.1 hre).2.1 j r HRJ.out; omega
      · go_wp2_with fail
        go_ret2
        refine ChkOut.no ?_ _ rfl (by rw [HW1.out]; exact below_a _ _)
        cases hre : res with
        | false => rfl
        | true => have := (HOK.out.1 hre).2.1 j r HRJ.out; omega
    · have HOU : Hid (∀ (j : Nat) k, outs[j]? = some k → 0 ≤ k ∧ k < regs) := fun j' k hk => by
        have := (List.getElem?_eq_some_iff.1 hk).1
        rw [← HM.out] at this
        exact HPJ.out j' (by omega) k hk
      clear HPJ HR
      go_wp2_with fail
      obtain ⟨w2, hw2⟩ : ∃ w2, w2 = w1 := ⟨_, rfl⟩
      have HB12 : Hid (Below w1.heap.size w1 w2) := Lib.hid (by rw [hw2]; exact Below.refl _ _)
      rw [← hw2]
      clear hw2
      go_loopw [60] (fun k wr => ∃ j : Nat, j ≤ n ∧ k = .int .i64 j ∧ Hid (∀ j', j' < j → ∀ i, code[j']? = some i → i.ok regs = true) ∧ Hid (Below w1.heap.size w1 wr)) (fun k _ => n - (intOf k).toNat)
      case atStart => exact ⟨0, Nat.zero_le _, rfl, fun j' h => absurd h (by omega), HB12.out⟩
      case round =>
        obtain ⟨j, hj, rfl, HPJ, HB⟩ := hrel
        have f1 : wr.cell? ⟨w.heap.size, 1, none⟩ = some (.int .i64 regs) := (HB.out.cell (p := ⟨w.heap.size, 1, none⟩) (by show w.heap.size < _; rw [HS1.out]; omega)).trans e1
        have hsz : w.heap.size < wr.heap.size := by have := HB.out.size; rw [HS1.out] at this; omega
        have HBW := Lib.hid ((HW1.out ▸ below_a w _ : Below w.heap.size w w1).trans (HB.out.mono (by rw [HS1.out]; omega)))
        by_cases hlt : j < n
        · obtain ⟨x, hx⟩ : ∃ x, code[j]? = some x := ⟨code[j]'(by rw [← HN.out]; exact hlt), List.getElem?_eq_getElem _⟩
          obtain ⟨_, hq⟩ := HC.out
          obtain ⟨bb, o, hA, hbs, hcell⟩ := hq (by rw [← HN.out]; omega)
          subst hA
          obtain ⟨g0, g1, g2, g3, g4⟩ := hcell j x hx
          have hbw : bb < wr.heap.size := Nat.lt_of_lt_of_le hbs HB.out.size
          rw [← HB.out.cell (p := ⟨bb, o + j * 5, none⟩) hbs] at g0
          rw [← HB.out.cell (p := ⟨bb, o + j * 5 + 1, none⟩) hbs] at g1
          rw [← HB.out.cell (p := ⟨bb, o + j * 5 + 2, none⟩) hbs] at g2
          rw [← HB.out.cell (p := ⟨bb, o + j * 5 + 3, none⟩) hbs] at g3
          rw [← HB.out.cell (p := ⟨bb, o + j * 5 + 4, none⟩) hbs] at g4
          have HXJ := Lib.hid hx
          have HMY := Lib.hid (fun wx => may58 x regs wx)
          cases hxo : x.ok regs with
          | false =>
            rw [hxo] at HMY
            have hre : res = false := by
              cases hre : res with
              | false => rfl
              | true => have := (HOK.out.1 hre).2.2 j x HXJ.out; rw [hxo] at this; cases this
            clear hq hcell hx hbs hxo e0 e1 e2
            obtain ⟨op, to, a, b, c'⟩ := x
            simp only at g0 g1 g2 g3 g4 HMY
            go_wp2_with fail
            (with_reducible refine (HMY.out _).mono ?_)
            rintro e w5 ⟨rfl, hb5⟩
            have HB5 := Lib.hid ((HBW.out.alloc HBW.out.size _).trans (hb5.mono (by have := HBW.out.size; simp; omega)))
            clear hb5
            go_wp2_with fail
            go_ret2
            exact ChkOut.no hre _ rfl HB5.out
          | true =>
            rw [hxo] at HMY
            have HXO := Lib.hid hxo
            clear hq hcell hx hbs hxo e0 e1 e2
            obtain ⟨op, to, a, b, c'⟩ := x
            simp only at g0 g1 g2 g3 g4 HMY
            go_wp2_with fail
            (with_reducible refine (HMY.out _).mono ?_)
            rintro e w5 ⟨rfl, hb5⟩
            have HB5 := Lib.hid ((HB.out.alloc HB.out.size _).trans (hb5.mono (by have := HB.out.size; simp; omega)))
            clear hb5
            go_wp2_with fail
            go_roundw
            case rel => exact ⟨j + 1, by omega, by go_num, fun j' hj' i hi => by
              by_cases e : j' = j
              · subst e; rw [HXJ.out] at hi; cases hi; exact HXO.out
              · exact HPJ.out j' (by omega) i hi, HB5.out⟩
            case measure => simp [intOf]; omega
        · have hre : res = true := HOK.out.2 ⟨⟨c0, c1, c2, by rw [← HN.out]; omega, by rw [← HM.out]; omega, by rw [← HM.out]; omega⟩, HOU.out, fun j' i hi => by
            have := (List.getElem?_eq_some_iff.1 hi).1
            rw [← HN.out] at this
            exact HPJ.out j' (by omega) i hi⟩
          go_wp2_with fail
          go_ret2
          exact ChkOut.yes hre _ rfl HBW.out
theorem check39 (p : Pr) (L : PrV) (w : World) (hp : PrIn w L p) : Calls Try.prog 39 #[.agg #[.int .i64 p.ins, .int .i64 p.regs, .slice L.A p.code.length L.c, .slice L.B p.outs.length L.d]] w (ChkOut w p.ok) := by
  by_cases h : 1 ≤ p.ins ∧ p.ins ≤ p.regs ∧ p.regs ≤ 128 ∧ p.code.length ≤ 16384 ∧ 1 ≤ p.outs.length ∧ p.outs.length ≤ 128
  · obtain ⟨c0, c1, c2, c3, c4, c5⟩ := h
    exact check39_ok p L w hp c0 c1 c2 c3 c4 c5
  · have e : p.ok = false := by
      cases hr : p.ok with
      | false => rfl
      | true => exact absurd ((pr_ok_iff p).1 hr).1 h
    rw [e]
    exact check39_head p.ins p.regs L.A L.B _ L.c _ L.d w hp.code.2.1 hp.outs.2.1 h
end Go.Proofs.Ytcelcognmdcenaa

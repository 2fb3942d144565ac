/-
  WALKS: does a run tell what the reference's does? (the laws' own 'tells')
-/
import Derived.Test.YtlncdkdkoamadaaRf
import Derived.Test.YtlncdkdkoamadaaC2
namespace Go.Proofs.Ytlncdkdkoamadaa
open Go.RowKit

theorem equal_own {w : World} {b b' : Nat} {v v' : Value} {l : List Nat} (h1 : w.ownsRow b 3 1 v l.length (intl l)) (h2 : w.ownsRow b' 3 1 v' l.length (intl l)) (hn : l.length ≤ 4294967296) :
    Calls Try.prog 32 #[v, v'] w fun e w' => e = .returned (.bool true) ∧ ∃ j, w.drewN j = w' := by
  obtain ⟨A, c, rfl, _⟩ := own_any h1
  obtain ⟨A', c', rfl, _⟩ := own_any h2
  have r1 : RdL w A l := RdL.of_own h1
  have r2 : RdL w A' l := RdL.of_own h2
  refine (equal_ints A A' l.length c l.length c' _ _ w r1 r2 hn hn).mono ?_
  rintro e w' ⟨rfl, hw⟩
  refine ⟨?_, hw⟩
  have : eqI l.length l.length (fun i => ((l.getD i 0 : Nat) : Int)) (fun i => ((l.getD i 0 : Nat) : Int)) = true := by simp [eqI]
  rw [this]

section
variable {w : World} {lab : Nat → Nat} {k k' r y : Nat} {s : G}
set_option maxHeartbeats 6400000 in
set_option maxRecDepth 100000 in
theorem tells_any (h : Rn w lab k r s) (h' : Rf w lab k' y s) :
    Calls Try.prog 15 #[.pointer (some ⟨r, 0, none⟩), .pointer (some ⟨y, 0, none⟩)] w fun e w' => e = .returned (.bool true) ∧ Below w.heap.size w w' := by
  obtain ⟨g, c, q3, q0, hc1, hc2⟩ := h'.ended
  have q4 := h'.moves
  have hn1 := h.fit.inv.tree.pos
  have hyl := h'.rlt
  have hgl := World.block_lt_of_cell? w _ q0
  have hrl : s.readies.length ≤ 4294967296 := by have := filter_range_len s.rdy s.T; have := h.fit.T_le; unfold G.readies; omega
  have hol : s.opens.length ≤ 4294967296 := by have := filter_range_len s.opn s.n; have := h.fit.n_le; unfold G.opens; omega
  have H := Lib.hid h
  have H' := Lib.hid h'
  have hbk : Below w.heap.size w w.drew := below_drewN (Below.refl _ _) 1
  clear h h'
  change g < w.heap.size at hgl
  unfold maxLen at hc2
  have hn0 : (0 : Int) < (s.n : Int) := by omega
  have hn3 : 0 < s.n := by omega
  go_enter Try.func15, Try.ntmps15
  go_wp2_with fail
  go_region_held3 (fun w' => w'.cell? ⟨y, 4, none⟩ = some (.int .i64 s.mov) ∧ w'.cell? ⟨y, 3, none⟩ = some (.slice (some ⟨g, 0, none⟩) s.n c) ∧ w'.cell? ⟨g, 0, none⟩ = some (.bool (s.fin 0)))
    (first | go_keep | (refine ⟨?_, ?_, ?_⟩ <;> first | (rw [hbk.cell (p := ⟨y, _, none⟩) hyl]; assumption) | (rw [hbk.cell (p := ⟨g, _, none⟩) hgl]; assumption)))
    (first
      | (go_at_call 20; (with_reducible refine (H.out.keep hbk).Ready.mono ?_); rintro e w1 ⟨v1, rfl, ho1, hb1⟩; have hbk := hbk.trans (hb1.mono hbk.size))
      | (go_at_call 30; (with_reducible refine (H'.out.keep hbk).All.mono ?_); rintro e w2 ⟨v2, rfl, ho2, hb2⟩; have hbk := hbk.trans (hb2.mono hbk.size))
      | (go_at_call 32; (with_reducible refine (equal_own (own_below ho1 hb2) ho2 hrl).mono ?_); rintro e w3 ⟨rfl, j3, rfl⟩; have hbk := below_drewN hbk j3)
      | (go_at_call 24; (with_reducible refine (H.out.keep hbk).Open.mono ?_); rintro e w4 ⟨v4, rfl, ho4, hb4⟩; have hbk := hbk.trans (hb4.mono hbk.size))
      | (go_at_call 36; (with_reducible refine (H'.out.keep hbk).Open.mono ?_); rintro e w5 ⟨v5, rfl, ho5, hb5⟩; have hbk := hbk.trans (hb5.mono hbk.size))
      | (go_at_call 32; (with_reducible refine (equal_own (own_below ho4 hb5) ho5 hol).mono ?_); rintro e w6 ⟨rfl, j6, rfl⟩; have hbk := below_drewN hbk j6)
      | (go_at_call 23; (with_reducible refine (H.out.keep hbk).Alive.mono ?_); rintro e w7 ⟨rfl, hw⟩; subst hw)
      | (go_at_call 37; (with_reducible refine (H'.out.keep hbk).Alive.mono ?_); rintro e w8 ⟨rfl, hw⟩; subst hw)
      | (go_at_call 22; (with_reducible refine (H.out.keep hbk).Moves.mono ?_); rintro e w9 ⟨rfl, hw⟩; subst hw)
      | (go_at_call 21; (with_reducible refine (H.out.keep hbk).Done.mono ?_); rintro e w10 ⟨rfl, hw⟩; subst hw))
  go_wp2_with fail
  go_ret
  exact ⟨rfl, hbk⟩
end
end Go.Proofs.Ytlncdkdkoamadaa

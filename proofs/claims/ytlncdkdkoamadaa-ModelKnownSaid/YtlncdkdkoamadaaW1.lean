/-
  WALKS: top, ready, free, Ready of the program's run.
-/
import Derived.Test.YtlncdkdkoamadaaHeap
import Derived.WalkSpells
import Derived.WalkLawsBesides
import Derived.Deep.QuietTactic
import Derived.BigQuiet
import Derived.Deep.DeepFit
import Derived.Lib.Hide
namespace Go.Proofs.Ytlncdkdkoamadaa
open Go.RowKit

/-- What 'top' answers. -/
def topN (s : D) (t : Int) : Nat := if 0 ≤ t ∧ t < s.T ∧ (s.stk t.toNat).isEmpty = false then s.top t.toNat else 0
def topB (s : D) (t : Int) : Bool := decide (0 ≤ t ∧ t < s.T) && !(s.stk t.toNat).isEmpty

section
variable {w : World} {lab : Nat → Nat} {k : Nat} {L : Lay} {s : D}

set_option maxHeartbeats 400000 in
theorem top_any (h : RunRaw w lab k L s) (hT : 1 ≤ s.T) (hL : ∀ t, t < s.T → (s.stk t).length ≤ 256) (t : Int) :
    Calls Try.prog 39 #[.pointer (some ⟨L.r, 0, none⟩), .int .i64 t] w fun e w' => e = .returned (.tuple #[.int .i64 (topN s t), .bool (topB s t)]) ∧ ∃ j, w.drewN j = w' := by
  obtain ⟨gs, cs, hv, h1, h2, hl, hc, hf⟩ := h.stacks hT
  have hs := h.fields.2.2.2.2.1
  rw [hv] at hs
  by_cases hneg : t < 0
  · have e1 : topN s t = 0 := by unfold topN; rw [if_neg (by omega)]
    have e2 : topB s t = false := by unfold topB; simp; omega
    rw [e1, e2]
    clear e1 e2 hc hf hv
    go_enter Try.func39, Try.ntmps39
    go_wp2
    go_ret2
    exact ⟨rfl, 0, rfl⟩
  by_cases hbig : (s.T : Int) ≤ t
  · have e1 : topN s t = 0 := by unfold topN; rw [if_neg (by omega)]
    have e2 : topB s t = false := by unfold topB; simp; omega
    rw [e1, e2]
    clear e1 e2 hc hf hv
    go_enter Try.func39, Try.ntmps39
    go_wp2
    go_ret2
    exact ⟨rfl, 0, rfl⟩
  obtain ⟨t, rfl⟩ := Int.eq_ofNat_of_zero_le (by omega : 0 ≤ t)
  have ht : t < s.T := by omega
  have hct := hc t ht
  have hlt := hL t ht
  have d1 : decide ((t : Int) < 0) = false := by simp
  have d2 : decide (s.T ≤ t) = false := by simp; omega
  cases hemp : (s.stk t).isEmpty with
  | true =>
    have e1 : topN s t = 0 := by unfold topN; simp [hemp]
    have e2 : topB s t = false := by unfold topB; simp [hemp]
    obtain ⟨A, c, hA⟩ := h.stack ht
    have h0 : (s.stk t).length = 0 := by simpa using hemp
    rw [hA, h0] at hct
    rw [e1, e2]
    clear e1 e2 hc hf hv hemp hA h0
    go_enter Try.func39, Try.ntmps39
    go_wp2
    go_ret2
    exact ⟨rfl, 0, rfl⟩
  | false =>
    have e1 : topN s t = s.top t := by unfold topN; simp [hemp, ht]
    have e2 : topB s t = true := by unfold topB; simp [hemp, ht]
    obtain ⟨g, c, hA, hc1, hc2, hg, _, htop⟩ := h.stackTop ht hemp
    rw [hA] at hct
    have hpos : 0 < (s.stk t).length := by
      cases e : s.stk t with
      | nil => rw [e] at hemp; cases hemp
      | cons => simp
    generalize (s.stk t).length = n at *
    have d3 : ((n : Int) == 0) = false := by simp; omega
    rw [e1, e2]
    clear e1 e2 hc hf hv hemp hA
    go_enter Try.func39, Try.ntmps39
    go_wp2
    go_quiet (fail)
    go_wp2
    go_ret2
    exact ⟨rfl, _, rfl⟩
end

section
variable {w : World} {lab : Nat → Nat} {k : Nat} {L : Lay} {s : G}
/-- What 'ready' answers. -/
def rdyI (s : G) (t : Int) : Bool := decide (0 ≤ t) && s.rdy t.toNat

set_option maxHeartbeats 800000 in
theorem ready_any (h : RunAt w lab k L s) (hI : s.Inv) (hn : s.n ≤ 256) (t : Int) :
    Calls Try.prog 38 #[.pointer (some ⟨L.r, 0, none⟩), .int .i64 t] w fun e w' => e = .returned (.bool (rdyI s t)) ∧ ∃ j, w.drewN j = w' := by
  have ht := top_any h hI.thr (fun t ht => Nat.le_trans (G.stk_len hI ht) hn) t
  cases hb : topB s.data t with
  | false =>
    have e1 : rdyI s t = false := by
      replace hb : (decide (0 ≤ t ∧ t < (s.T : Int)) && !(s.stk t.toNat).isEmpty) = false := hb
      unfold rdyI G.rdy
      simp only [Bool.and_eq_false_iff, decide_eq_false_iff_not, Bool.not_eq_false'] at hb ⊢
      rcases hb with hb | hb
      · by_cases h0 : 0 ≤ t
        · right; left; left; omega
        · left; omega
      · right; left; right; simp [hb]
    rw [hb] at ht
    rw [e1]
    have HT := Lib.hid ht
    clear e1 hb ht
    go_enter Try.func38, Try.ntmps38
    go_wp2_with fail
    refine HT.out.mono ?_
    rintro e w' ⟨rfl, j, rfl⟩
    go_wp2_with fail
    go_quiet (fail)
    go_wp2_with fail
    go_ret
    exact ⟨rfl, dr2 _ _ _⟩
  | true =>
    have hb' : (decide (0 ≤ t ∧ t < (s.T : Int)) && !(s.stk t.toNat).isEmpty) = true := hb
    simp only [Bool.and_eq_true, decide_eq_true_eq, Bool.not_eq_true'] at hb'
    obtain ⟨⟨h0, h1⟩, hemp⟩ := hb'
    obtain ⟨t, rfl⟩ := Int.eq_ofNat_of_zero_le h0
    rw [Int.toNat_natCast] at hemp
    have htT : t < s.T := by omega
    have eN : topN s.data t = s.top t := by unfold topN; simp only [G.data]; simp [hemp, htT]; rfl
    have hp := G.top_lt hI htT hemp
    have er : rdyI s t = (decide (s.nx (s.top t) < (s.ch (s.top t)).length) || s.ou (s.top t) == 0) := by
      unfold rdyI G.rdy; simp [htT, hemp]
    rw [hb, eN] at ht
    rw [er]
    obtain ⟨gc, cc, hvc, c1, c2, c3, c4⟩ := h.chs hI.tree.pos
    obtain ⟨gx, cx, hvx, x1, x2, x3, x4, _⟩ := h.nxs hI.tree.pos
    obtain ⟨go, co, hvo, o1, o2, o3, o4, _⟩ := h.ous hI.tree.pos
    obtain ⟨f0, f1, f2, _⟩ := h.fields
    rw [hvc] at f0
    rw [hvx] at f1
    rw [hvo] at f2
    have c5 := c4 _ hp
    have x5 := x4 _ hp
    have o5 := o4 _ hp
    obtain ⟨A, c, hA⟩ := h.kids hp
    rw [hA] at c5
    have l1 := s.nx_le (s.top t)
    have l2 := s.ch_le (s.top t)
    have l3 := s.ou_le (s.top t)
    generalize s.nx (s.top t) = q at *
    generalize (s.ch (s.top t)).length = m at *
    generalize s.ou (s.top t) = o at *
    generalize s.top t = p at *
    have HT := Lib.hid ht
    clear hb er eN ht c4 x4 o4 hA hvc hvx hvo hemp h0 h1
    by_cases hq : q < m
    · have d1 : decide (q < m) = true := by simpa using hq
      rw [d1]
      have d2 : (decide (q < m) || o == 0) = true := by simp [hq]
      clear d1
      go_enter Try.func38, Try.ntmps38
      go_wp2_with fail
      refine HT.out.mono ?_
      rintro e w' ⟨rfl, j, rfl⟩
      go_wp2_with fail
      go_quiet (fail)
      go_wp2_with fail
      go_ret
      exact ⟨rfl, dr2 _ _ _⟩
    · have d1 : decide (q < m) = false := by simpa using hq
      cases ho : o == 0 with
      | true =>
        have ho0 : o = 0 := by simpa using ho
        subst ho0
        rw [d1]
        go_enter Try.func38, Try.ntmps38
        go_wp2_with fail
        refine HT.out.mono ?_
        rintro e w' ⟨rfl, j, rfl⟩
        go_wp2_with fail
        go_quiet (fail)
        go_wp2_with fail
        go_ret
        exact ⟨rfl, dr2 _ _ _⟩
      | false =>
        have ho0 : ((o : Int) == 0) = false := by simp at ho ⊢; omega
        rw [d1]
        clear ho
        go_enter Try.func38, Try.ntmps38
        go_wp2_with fail
        refine HT.out.mono ?_
        rintro e w' ⟨rfl, j, rfl⟩
        go_wp2_with fail
        go_quiet (fail)
        go_wp2_with fail
        go_ret
        exact ⟨rfl, dr2 _ _ _⟩
end
end Go.Proofs.Ytlncdkdkoamadaa

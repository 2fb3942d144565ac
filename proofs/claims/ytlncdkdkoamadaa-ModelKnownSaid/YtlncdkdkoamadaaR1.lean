/-
  WALKS: the reference's Workers, Right, child.
-/
import Derived.Test.YtlncdkdkoamadaaRefH
import Derived.Test.YtlncdkdkoamadaaPureR
namespace Go.Proofs.Ytlncdkdkoamadaa
open Go.RowKit

theorem ret_int {k : IntKind} {a b : Int} (h : a = b) : Ending.returned (.int k a) = .returned (.int k b) := by rw [h]

set_option maxHeartbeats 400000 in
theorem workers_any (wk : Int) (w : World) : Calls Try.prog 33 #[.int .i64 wk] w fun e w' => e = .returned (.int .i64 (min (max wk 1) 16)) ∧ w = w' := by
  go_enter Try.func33, Try.ntmps33
  go_wp2_with fail
  all_goals
    go_ret
    exact ⟨ret_int (by omega), rfl⟩

/-- Is it a tree of the right size? (as a Bool) -/
def rightB (n : Nat) (f : Nat → Int) : Bool := (List.range n).all (fun i => decide (i = 0) || (decide (0 ≤ f i) && decide (f i < (i : Int)))) && decide (1 ≤ n) && decide (n ≤ 256)
theorem rightB_iff {n : Nat} {f : Nat → Int} : rightB n f = true ↔ goodTree n f := by
  unfold rightB goodTree treeOk
  simp only [Bool.and_eq_true, List.all_eq_true, List.mem_range, Bool.or_eq_true, decide_eq_true_eq]
  constructor
  · rintro ⟨⟨h, h1⟩, h2⟩
    refine ⟨h1, h2, fun c h0 hc => ?_⟩
    rcases h c hc with e | e
    · omega
    · exact e
  · rintro ⟨h1, h2, h⟩
    refine ⟨⟨fun i hi => ?_, h1⟩, h2⟩
    by_cases e : i = 0
    · exact .inl e
    · exact .inr (h i (by omega) hi)

set_option maxHeartbeats 1600000 in
theorem right_any (A : Option Addr) (n c : Nat) (f : Nat → Int) (w : World) (hm : n ≤ maxLen) (ha : RdI w A n f) :
    Calls Try.prog 12 #[.slice A n c] w fun e w' => e = .returned (.bool (rightB n f)) ∧ w = w' := by
  unfold maxLen at hm
  by_cases hn0 : n = 0
  · subst hn0
    have hr : rightB 0 f = false := rfl
    rw [hr]
    clear hr ha
    go_enter Try.func12, Try.ntmps12
    go_wp2_with fail
    go_loop [3] (fun i => i = .int .i64 1) (fun _ => 0)
    case atStart => rfl
    case round =>
      subst hrel
      go_wp2_with fail
      go_ret
      exact ⟨rfl, rfl⟩
  · obtain ⟨b, off, rfl, hl, hc⟩ := ha (by omega)
    have HC := Lib.hid hc
    clear hc
    go_enter Try.func12, Try.ntmps12
    go_wp2_with fail
    go_loop [3] (fun i => ∃ j : Nat, 1 ≤ j ∧ j ≤ n ∧ i = .int .i64 (j : Nat) ∧ Hid (∀ i, 0 < i → i < j → 0 ≤ f i ∧ f i < (i : Int))) (fun i => n - (intOf i).toNat)
    case atStart => exact ⟨1, by omega, by omega, rfl, fun i h1 h2 => absurd h2 (by omega)⟩
    case round =>
      obtain ⟨j, hj1, hj2, rfl, hall⟩ := hrel
      by_cases hlt : j < n
      · have k1 := HC.out j hlt
        by_cases hok : 0 ≤ f j ∧ f j < (j : Int)
        · have hall' : Hid (∀ i, 0 < i → i < j + 1 → 0 ≤ f i ∧ f i < (i : Int)) := fun i h1 h2 => by
            by_cases e : i = j
            · subst e; exact hok
            · exact hall.out i h1 (by omega)
          obtain ⟨ho1, ho2⟩ := hok
          go_wp2_with fail
          go_round
          case rel => exact ⟨j + 1, by omega, by omega, by go_num, hall'⟩
          case measure => simp [intOf]; omega
        · have hr : Hid (rightB n f = false) := by
            refine Lib.hid ?_
            cases h : rightB n f with
            | false => rfl
            | true =>
              have := (rightB_iff.1 h).2.2 j (by omega) hlt
              exact absurd this hok
          by_cases hneg : f j < 0
          · go_wp2_with fail
            go_ret
            rw [hr.out]
            exact ⟨rfl, rfl⟩
          · have hge : (j : Int) ≤ f j := by omega
            clear hok
            go_wp2_with fail
            go_ret
            rw [hr.out]
            exact ⟨rfl, rfl⟩
      · have e : j = n := by omega
        subst e
        have hr : Hid (rightB j f = decide ((j : Int) ≤ 256)) := by
          refine Lib.hid ?_
          by_cases h : j ≤ 256
          · rw [decide_eq_true (by omega)]; exact rightB_iff.2 ⟨by omega, h, fun c h0 hc => hall.out c h0 hc⟩
          · rw [decide_eq_false (by omega)]
            cases h' : rightB j f with
            | false => rfl
            | true => exact absurd (rightB_iff.1 h').2.1 h
        clear hall hlt
        go_wp2_with fail
        go_ret
        rw [hr.out]
        exact ⟨rfl, rfl⟩

/-- What child answers. -/
def kidI (s : G) (p : Nat) : Int := match s.kid? p with
  | none => -1
  | some c => (c : Nat)
theorem kidI_some {s : G} {p c : Nat} (h : s.kid? p = some c) : kidI s p = (c : Nat) := by unfold kidI; rw [h]
theorem kidI_none {s : G} {p : Nat} (h : s.kid? p = none) : kidI s p = -1 := by unfold kidI; rw [h]

section
variable {w : World} {lab : Nat → Nat} {k : Nat} {R : RLay} {s : G}
set_option maxHeartbeats 1600000 in
theorem child_any (h : RefRaw w lab k R s) (ht : s.Tree) (hn : s.n ≤ 256) (p : Nat) (hp : p < s.n) :
    Calls Try.prog 41 #[.pointer (some ⟨R.r, 0, none⟩), .int .i64 (p : Nat)] w fun e w' => e = .returned (.int .i64 (kidI s p)) ∧ w = w' := by
  obtain ⟨f0, _, f2, _, _⟩ := h.fields
  obtain ⟨b, off, hA, hl, hc⟩ := h.pars ht.pos
  obtain ⟨gb, cb, hvb, _, _, _, hcb, _⟩ := h.begs ht.pos
  rw [hA] at f0
  rw [hvb] at f2
  have HT := Lib.hid ht
  have HC := Lib.hid hc
  have HB := Lib.hid hcb
  clear h hA hvb hc hcb ht
  go_enter Try.func41, Try.ntmps41
  go_wp2_with fail
  go_loop [5] (fun i => ∃ j : Nat, p < j ∧ j ≤ s.n ∧ i = .int .i64 (j : Nat) ∧ Hid (∀ d, p < d → d < j → s.wait p d = false)) (fun i => s.n - (intOf i).toNat)
  case atStart => exact ⟨p + 1, by omega, by omega, by go_num, fun d h1 h2 => absurd h2 (by omega)⟩
  case round =>
    obtain ⟨j, hj1, hj2, rfl, hall⟩ := hrel
    by_cases hlt : j < s.n
    · have k1 := HC.out j hlt
      have k2 := HB.out j hlt
      have hw : s.wait p j = (decide (s.par j = (p : Int)) && !s.beg j) := by
        unfold G.wait G.kid
        have : decide (0 < j) = true := by simp; omega
        rw [this]; simp
      have next : s.wait p j = false → Hid (∀ d, p < d → d < j + 1 → s.wait p d = false) := fun h0 d h1 h2 => by
        by_cases e : d = j
        · subst e; exact h0
        · exact hall.out d h1 (by omega)
      by_cases he : s.par j = (p : Int)
      · have he' : (s.par j == (p : Int)) = true := by simp [he]
        rw [decide_eq_true he] at hw
        cases hbj : s.beg j with
        | true =>
          have HN := Lib.hid (next (by rw [hw, hbj]; rfl))
          rw [hbj] at k2
          clear next hw hbj he hall
          go_wp2_with fail
          go_round
          case rel => exact ⟨j + 1, by omega, by omega, by go_num, HN.out⟩
          case measure => simp [intOf]; omega
        | false =>
          have HR := Lib.hid (kidI_some (G.kid?_first HT.out hlt (by rw [hw, hbj]; rfl) hall.out))
          rw [hbj] at k2
          clear next hw hbj he hall
          go_wp2_with fail
          go_ret
          rw [HR.out]
          exact ⟨rfl, rfl⟩
      · have he' : (s.par j == (p : Int)) = false := by simp [he]
        have HN := Lib.hid (next (by rw [hw, decide_eq_false he]; rfl))
        clear next hw he hall
        go_wp2_with fail
        go_round
        case rel => exact ⟨j + 1, by omega, by omega, by go_num, HN.out⟩
        case measure => simp [intOf]; omega
    · have HR := Lib.hid (kidI_none (G.kid?_no HT.out (fun d h1 h2 => hall.out d h1 (by omega))))
      clear hall
      go_wp2_with fail
      go_ret
      rw [HR.out]
      exact ⟨rfl, rfl⟩
end
end Go.Proofs.Ytlncdkdkoamadaa

/-
  PLAIN LAW: how the reference finds a child, and whether a thread is ready.
-/
import Derived.Test.YtlncdkdkoamadaaPureE
namespace Go.Proofs.Ytlncdkdkoamadaa
namespace G

/-- Is d a child of p that waits? -/
def wait (s : G) (p d : Nat) : Bool := s.kid p d && !s.beg d
theorem kid?_first {s : G} (ht : s.Tree) {p c : Nat} (hc : c < s.n) (h : s.wait p c = true) (hl : ∀ d, p < d → d < c → s.wait p d = false) : s.kid? p = some c := by
  unfold kid?
  rw [List.find?_range_eq_some]
  refine ⟨h, by simpa using hc, fun d hd => ?_⟩
  have : s.wait p d = false := by
    by_cases hp : p < d
    · exact hl d hp hd
    · cases hk : s.kid p d with
      | false => simp [wait, hk]
      | true => exact absurd (kid_lt ht (Nat.lt_trans hd hc) hk) hp
  show (!s.wait p d) = true
  rw [this]; rfl
theorem kid?_no {s : G} (ht : s.Tree) {p : Nat} (hl : ∀ d, p < d → d < s.n → s.wait p d = false) : s.kid? p = none := by
  unfold kid?
  rw [List.find?_eq_none]
  intro d hd
  have hd := List.mem_range.1 hd
  have : s.wait p d = false := by
    by_cases hp : p < d
    · exact hl d hp hd
    · cases hk : s.kid p d with
      | false => simp [wait, hk]
      | true => exact absurd (kid_lt ht hd hk) hp
  intro h
  have e : s.wait p d = true := h
  rw [this] at e; cases e

/-- Is d a child of p that has not ended? -/
def left (s : G) (p d : Nat) : Bool := s.kid p d && !s.fin d
theorem ou_zero_of {s : G} (hI : s.Inv) {p : Nat} (hl : ∀ d, p < d → d < s.n → s.left p d = false) : s.ou p = 0 := by
  rw [ou_zero]
  intro c hc hkc
  have h1 := hl c (kid_lt hI.tree hc hkc) hc
  simp [left, hkc] at h1
  simp [opn, h1]
theorem ou_pos_of {s : G} {p d : Nat} (hk : s.kid? p = none) (hd : d < s.n) (h : s.left p d = true) : s.ou p ≠ 0 := by
  intro h0
  simp [left] at h
  have h1 := ou_zero.1 h0 d hd h.1
  have h2 := kid?_none hk d hd h.1
  simp [opn, h2, h.2] at h1
theorem rdy_kid {s : G} {t : Nat} (ht : t < s.T) (hne : (s.stk t).isEmpty = false) (hk : (s.kid? (s.top t)).isSome = true) : s.rdy t = true := by
  unfold rdy
  have h1 := nx_lt.2 hk
  simp [ht, hne, h1]
theorem rdy_none {s : G} {t : Nat} (ht : t < s.T) (hne : (s.stk t).isEmpty = false) (hk : s.kid? (s.top t) = none) : s.rdy t = (s.ou (s.top t) == 0) := by
  unfold rdy
  have h1 : ¬ s.nx (s.top t) < (s.ch (s.top t)).length := fun h => by have := nx_lt.1 h; rw [hk] at this; cases this
  simp [ht, hne, h1]
theorem rdy_empty {s : G} {t : Nat} (hne : (s.stk t).isEmpty = true) : s.rdy t = false := by
  unfold rdy
  simp [hne]
end G
end Go.Proofs.Ytlncdkdkoamadaa

/-
  WALKS: the reference's reader: a coordinate.
-/
import Derived.Test.YtcelcognmdcenaaR1
namespace Go.Proofs.Ytcelcognmdcenaa
open Go.RowKit

/-- What is left when the other reader answers alike at this place. -/
theorem Out.swap {α : Type} {r1 r2 : List Nat → Nat → Rd α} {b : List Nat} {p : Nat} {wr : Bool} {v : α} {s' : Nat × Bool} (h : Out r1 b (p, wr) v s') (e : wr = false → r1 b p = r2 b p) : Out r2 b (p, wr) v s' := by
  cases wr with
  | true => exact h
  | false => unfold Out at h ⊢; simp only at h ⊢; rw [← e rfl]; exact h
theorem one_congr {g1 g2 : Nat → Bool} {bs : List Nat} {p : Nat} (h : ∀ x, bs[p]? = some x → g1 x = g2 x) : one g1 bs p = one g2 bs p := by
  unfold one
  cases e : bs[p]? with
  | none => rfl
  | some x => simp only [h x e]
theorem andR_congr {α β : Type} {r1 r2 : Rd α} {f1 f2 : α → Nat → Rd β} (h : r1 = r2) (h2 : ∀ x q, r2 = .ok (x, q) → f1 x q = f2 x q) : andR r1 f1 = andR r2 f2 := by
  subst h
  cases r1 with
  | error q => rfl
  | ok z => exact h2 _ _ rfl
theorem one_val {g : Nat → Bool} {bs : List Nat} {p x q : Nat} (h : one g bs p = .ok (x, q)) : bs[p]? = some x ∧ g x = true ∧ q = p + 1 := by
  unfold one at h
  split at h
  · rename_i y hy
    split at h
    · rename_i hg
      cases h
      exact ⟨hy, hg, rfl⟩
    · cases h
  · cases h
theorem btw_iff (lo hi : Int) (x : Nat) : btw lo hi x = true ↔ lo ≤ (x : Int) ∧ (x : Int) ≤ hi := by simp [btw]
theorem eq_of_iff {a b : Bool} (h : a = true ↔ b = true) : a = b := by cases a <;> cases b <;> simp_all
theorem rNum_btw (lo hi : Int) (bs : List Nat) (p : Nat) : (andR (one (btw lo hi) bs p) fun x q => .ok ((x : Int), q)) = rNum lo hi bs p :=
  andR_congr (one_congr fun x _ => eq_of_iff (by rw [btw_iff]; simp)) fun _ _ _ => rfl
theorem coord_lo {bs : List Nat} {p : Nat} (h : ∀ x, bs[p]? = some x → x < 128) : (andR (one (btw 0 16) bs p) fun x q => .ok ((x : Int), q)) = rCoord bs p :=
  andR_congr (one_congr fun x hx => eq_of_iff (by have := h x hx; rw [btw_iff, decide_eq_true_eq]; omega)) fun x q e => by
    have h1 := h x (one_val e).1
    unfold sgn8
    rw [if_pos h1]
theorem coord_hi {bs : List Nat} {p : Nat} (h : ∀ x, bs[p]? = some x → 128 ≤ x) : (andR (one (btw 240 255) bs p) fun x q => .ok ((x : Int) - 256, q)) = rCoord bs p :=
  andR_congr (one_congr fun x hx => eq_of_iff (by have := h x hx; rw [btw_iff, decide_eq_true_eq]; omega)) fun x q e => by
    have h1 := h x (one_val e).1
    unfold sgn8
    rw [if_neg (by omega)]
theorem RrOut.lift {α : Type} {w w1 : World} {r : Nat} {A : Option Addr} {n c : Nat} {bs : List Nat} {s : Nat × Bool} {rd : List Nat → Nat → Rd α} {val : α → Int} {P : α → Prop} {e : Ending} {w' : World} (hb : w.grownBy w1 (some r)) (h : RrOut w1 r A n c bs s rd val P e w') : RrOut w r A n c bs s rd val P e w' := by
  obtain ⟨x, s', h1, h2, h3, h4, h5⟩ := h
  exact ⟨x, s', h1, h2, h3, hb.trans' h4, h5⟩

set_option maxHeartbeats 1000000 in
theorem coord46 {w : World} {r : Nat} {A : Option Addr} {n c : Nat} {bs : List Nat} {s : Nat × Bool} (h : RdR w r A n c bs s) :
    Calls Try.prog 46 #[.pointer (some ⟨r, 0, none⟩)] w (RrOut w r A n c bs s rCoord (fun x => x) (fun x => -256 ≤ x ∧ x < 256)) := by
  obtain ⟨p, wr⟩ := s
  have f0 := h.c0
  have f1 := h.c1
  have f2 := h.c2
  have hn := h.max
  have hp := h.le
  simp only at hp f1 f2
  have HH := Lib.hid h
  clear h
  cases wr with
  | true =>
    simp only [if_true] at f2
    have hneg : decide ((p : Int) < 0) = false := by simp
    go_enter Try.func46, Try.ntmps46
    go_wp2_with fail
    go_quiet (fail)
    go_wp2_with fail
    have HC := Lib.hid (next45 (HH.out.drewN nq) 0 16)
    (with_reducible refine HC.out.mono ?_)
    rintro e w1 ⟨x, s1, rfl, hx, hr1, hg1, ho1⟩
    have HR := Lib.hid hr1
    have HG := Lib.hid ((World.grownBy.drewN' w nq (some r)).trans' hg1)
    have HO := Lib.hid ho1
    clear hr1 hg1 ho1
    go_wp2_with fail
    go_ret
    exact ⟨(x : Int), s1, rfl, by omega, HR.out, HG.out, HO.out⟩
  | false =>
    simp only [Bool.false_eq_true, if_false] at f2
    have HX := Lib.hid (fun hp => HH.out.at hp)
    by_cases hlt : p < n
    · obtain ⟨b, o, x, hA, hx, hc, hx2⟩ := HX.out hlt
      subst hA
      have HBX := Lib.hid hx
      have hpn : decide ((p : Int) < (n : Int)) = true := by simp; omega
      have hpm : ¬ n ≤ p := by omega
      simp only at hc
      clear hx HX
      by_cases hlo : 128 ≤ x
      · have e1 : decide ((128 : Int) ≤ (x : Int)) = true := by simp; omega
        go_enter Try.func46, Try.ntmps46
        go_wp2_with fail
        go_quiet (fail)
        go_wp2_with fail
        have HC := Lib.hid (next45 (HH.out.drewN nq) 240 255)
        (with_reducible refine HC.out.mono ?_)
        rintro e w1 ⟨y, s1, rfl, hy, hr1, hg1, ho1⟩
        have HR := Lib.hid hr1
        have HG := Lib.hid ((World.grownBy.drewN' w nq (some r)).trans' hg1)
        have HO := Lib.hid ((ho1.map (fun x => (x : Int) - 256)).swap fun _ => coord_hi fun z hz => by have := HBX.out.symm.trans hz; cases this; exact hlo)
        clear hr1 hg1 ho1
        go_wp2_with fail
        go_ret
        exact ⟨(y : Int) - 256, s1, rfl, by omega, HR.out, HG.out, HO.out⟩
      · have e1 : decide ((128 : Int) ≤ (x : Int)) = false := by simp; omega
        go_enter Try.func46, Try.ntmps46
        go_wp2_with fail
        go_quiet (fail)
        go_wp2_with fail
        have HC := Lib.hid (next45 (HH.out.drewN nq) 0 16)
        (with_reducible refine HC.out.mono ?_)
        rintro e w1 ⟨y, s1, rfl, hy, hr1, hg1, ho1⟩
        have HR := Lib.hid hr1
        have HG := Lib.hid ((World.grownBy.drewN' w nq (some r)).trans' hg1)
        have HO := Lib.hid ((ho1.map (fun x => (x : Int))).swap fun _ => coord_lo fun z hz => by have := HBX.out.symm.trans hz; cases this; omega)
        clear hr1 hg1 ho1
        go_wp2_with fail
        go_ret
        exact ⟨(y : Int), s1, rfl, by omega, HR.out, HG.out, HO.out⟩
    · obtain rfl : p = n := by omega
      have HE := Lib.hid (show bs[p]? = none from List.getElem?_eq_none (by rw [HH.out.len]; exact Nat.le_refl _))
      clear HX
      go_enter Try.func46, Try.ntmps46
      go_wp2_with fail
      go_quiet (fail)
      go_wp2_with fail
      have HC := Lib.hid (next45 (HH.out.drewN nq) 0 16)
      (with_reducible refine HC.out.mono ?_)
      rintro e w1 ⟨y, s1, rfl, hy, hr1, hg1, ho1⟩
      have HR := Lib.hid hr1
      have HG := Lib.hid ((World.grownBy.drewN' w nq (some r)).trans' hg1)
      have HO := Lib.hid ((ho1.map (fun x => (x : Int))).swap fun _ => coord_lo fun z hz => by have := HE.out.symm.trans hz; cases this)
      clear hr1 hg1 ho1
      go_wp2_with fail
      go_ret
      exact ⟨(y : Int), s1, rfl, by omega, HR.out, HG.out, HO.out⟩
end Go.Proofs.Ytcelcognmdcenaa

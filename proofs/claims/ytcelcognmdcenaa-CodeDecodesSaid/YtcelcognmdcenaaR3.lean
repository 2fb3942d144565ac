/-
  WALKS: the reference's reader: an instruction's constant.
-/
import Derived.Test.YtcelcognmdcenaaR2
namespace Go.Proofs.Ytcelcognmdcenaa
open Go.RowKit

theorem one_out {g : Nat → Bool} {bs : List Nat} {p x : Nat} {s : Nat × Bool} (h : Out (one g) bs (p, false) x s) : (s.2 = true ∧ one g bs p = .error s.1) ∨ (s = (p + 1, false) ∧ bs[p]? = some x ∧ g x = true) := by
  unfold Out at h
  simp only at h
  cases e : one g bs p with
  | error q => rw [e] at h; subst h; exact .inl ⟨rfl, rfl⟩
  | ok z =>
    obtain ⟨y, q⟩ := z
    rw [e] at h
    simp only at h
    obtain ⟨rfl, rfl⟩ := h
    obtain ⟨h1, h2, h3⟩ := one_val e
    subst h3
    exact .inr ⟨rfl, h1, h2⟩
/-- Two bytes that are asked otherwise. -/
theorem Out.two {op : Int} {g1 g2 : Nat → Bool} {bs : List Nat} {p : Nat} {wr : Bool} {s1 s2 : Nat × Bool} {x y : Nat} {v : Int} (h1 : Out (one g1) bs (p, wr) x s1) (h2 : Out (one g2) bs s1 y s2)
    (e1 : wr = false → ∀ z, bs[p]? = some z → g1 z = highOk op z) (e2 : g1 x = true → ∀ z, g2 z = lowOk op x z) (ev : g1 x = true → g2 y = true → v = sgn16 x y) : Out (rConst op) bs (p, wr) v s2 := by
  cases wr with
  | true =>
    have e : s1 = (p, true) := h1
    subst e
    have e : s2 = (p, true) := h2
    subst e
    exact rfl
  | false =>
    have k1 : Out (one (highOk op)) bs (p, false) x s1 := h1.swap fun _ => one_congr (e1 rfl)
    rcases one_out h1 with ⟨hw, _⟩ | ⟨hs, hb, hg⟩
    · obtain ⟨q, wr1⟩ := s1
      cases hw
      have e : s2 = (q, true) := h2
      subst e
      have k2 : Out ((fun h => one (lowOk op h)) x) bs (q, true) y (q, true) := rfl
      exact ((k1.seq (r2 := fun h => one (lowOk op h)) k2).map (fun v => sgn16 v.1 v.2)).any rfl v
    · subst hs
      have k2 : Out ((fun h => one (lowOk op h)) x) bs (p + 1, false) y s2 := h2.swap fun _ => one_congr fun z _ => e2 hg z
      have k3 := (k1.seq (r2 := fun h => one (lowOk op h)) k2).map (fun v => sgn16 v.1 v.2)
      rcases one_out h2 with ⟨hw, _⟩ | ⟨_, _, hg2⟩
      · exact k3.any hw v
      · rw [ev hg hg2]; exact k3
theorem Out.bytes_lt {bs : List Nat} {p x : Nat} {g : Nat → Bool} (h : one g bs p = .ok (x, p + 1)) : g x = true := (one_val h).2.1

theorem low_mul0 {op : Int} (h : op = 5 ∨ op = 6) (z : Nat) : btw 1 255 z = lowOk op 0 z := by
  apply eq_of_iff
  unfold lowOk constOk sgn16
  rw [btw_iff, if_pos h]
  simp
  omega
theorem low_mul1 {op : Int} (h : op = 5 ∨ op = 6) (z : Nat) : btw 0 255 z = lowOk op 1 z := by
  apply eq_of_iff
  unfold lowOk constOk sgn16
  rw [btw_iff, if_pos h]
  simp
  omega
theorem low_mul2 {op : Int} (h : op = 5 ∨ op = 6) (z : Nat) : btw 0 0 z = lowOk op 2 z := by
  apply eq_of_iff
  unfold lowOk constOk sgn16
  rw [btw_iff, if_pos h]
  simp
  omega
theorem low_mulN {op : Int} (h : op = 5 ∨ op = 6) {x : Nat} (hx : x = 254 ∨ x = 255) (z : Nat) : btw 0 255 z = lowOk op x z := by
  apply eq_of_iff
  unfold lowOk constOk sgn16
  rw [btw_iff, if_pos h]
  rcases hx with rfl | rfl
  · simp; omega
  · simp; omega
theorem low_sh {op : Int} (h : op = 7 ∨ op = 8) (z : Nat) : btw 1 64 z = lowOk op 0 z := by
  apply eq_of_iff
  unfold lowOk constOk sgn16
  rw [btw_iff, if_neg (by omega), if_pos h]
  simp
  omega
theorem low_no {op : Int} (h : ¬ (op = 5 ∨ op = 6)) (h2 : ¬ (op = 7 ∨ op = 8)) (z : Nat) : btw 0 0 z = lowOk op 0 z := by
  apply eq_of_iff
  unfold lowOk constOk sgn16
  rw [btw_iff, if_neg h, if_neg h2]
  simp
  omega
theorem high_mul {op : Int} (h : op = 5 ∨ op = 6) {z : Nat} (hz : z < 128) : btw 0 2 z = highOk op z := by
  apply eq_of_iff
  unfold highOk
  rw [btw_iff, if_pos h]
  simp
  omega
theorem high_mulN {op : Int} (h : op = 5 ∨ op = 6) {z : Nat} (hz : 128 ≤ z) (hz2 : z < 256) : btw 254 255 z = highOk op z := by
  apply eq_of_iff
  unfold highOk
  rw [btw_iff, if_pos h]
  simp
  omega
theorem high_no {op : Int} (h : ¬ (op = 5 ∨ op = 6)) (z : Nat) : btw 0 0 z = highOk op z := by
  apply eq_of_iff
  unfold highOk
  rw [btw_iff, if_neg h]
  simp
/-- What the constant's reader answers. -/
abbrev CsOut (w : World) (r : Nat) (A : Option Addr) (n c : Nat) (bs : List Nat) (s : Nat × Bool) (op : Int) (e : Ending) (w' : World) : Prop := RrOut w r A n c bs s (rConst op) (fun x => x) (fun x => -70000 ≤ x ∧ x < 70000) e w'

set_option maxHeartbeats 4000000 in
theorem const60_5 {w : World} {r : Nat} {A : Option Addr} {n c : Nat} {bs : List Nat} {s : Nat × Bool} (h : RdR w r A n c bs s) :
    Calls Try.prog 60 #[.pointer (some ⟨r, 0, none⟩), .int .i64 5] w (CsOut w r A n c bs s 5) := by
  obtain ⟨p, wr⟩ := s
  have f0 := h.c0
  have f1 := h.c1
  have f2 := h.c2
  have hn := h.max
  have hp := h.le
  simp only at hp f1 f2
  have HH := Lib.hid h
  clear h
  cases wr with
  | true =>
    simp only [if_true] at f2
    have hneg : decide ((p : Int) < 0) = false := by simp
    go_enter Try.func60, Try.ntmps60
    go_wp2_with fail
    go_quiet (fail)
    go_wp2_with fail
    have HC := Lib.hid (next45 (HH.out.drewN nq) 0 2)
    (with_reducible refine HC.out.mono ?_)
    rintro e w1 ⟨x1, s1, rfl, hx1, hr1, hg1, ho1⟩
    have HR1 := Lib.hid hr1
    have HG1 := Lib.hid ((World.grownBy.drewN' w nq (some r)).trans' hg1)
    have HO1 := Lib.hid ho1
    obtain ⟨p1, wr1⟩ := s1
    clear hr1 hg1 ho1 HC
    
    by_cases h0 : x1 = 0
    · subst h0
      have HC := Lib.hid (next45 HR1.out 1 255)
      go_wp2_with fail
      (with_reducible refine HC.out.mono ?_)
      rintro e w2 ⟨y, s2, rfl, hy, hr2, hg2, ho2⟩
      have HR2 := Lib.hid hr2
      have HG2 := Lib.hid (HG1.out.trans' hg2)
      have HO2 := Lib.hid (HO1.out.two (op := 5) (v := (y : Int)) ho2 (fun e => by cases e) (fun _ z => low_mul0 (by decide) z) (fun _ _ => by unfold sgn16; simp <;> omega))
      clear hr2 hg2 ho2 HC
      go_wp2_with fail
      go_ret
      exact ⟨(y : Int), s2, rfl, by omega, HR2.out, HG2.out, HO2.out⟩
    · have e0 : ((x1 : Int) == 0) = false := by simp; omega
      by_cases h1 : x1 = 1
      · subst h1
        have HC := Lib.hid (next45 HR1.out 0 255)
        go_wp2_with fail
        (with_reducible refine HC.out.mono ?_)
        rintro e w2 ⟨y, s2, rfl, hy, hr2, hg2, ho2⟩
        have HR2 := Lib.hid hr2
        have HG2 := Lib.hid (HG1.out.trans' hg2)
        have HO2 := Lib.hid (HO1.out.two (op := 5) (v := 256 + (y : Int)) ho2 (fun e => by cases e) (fun _ z => low_mul1 (by decide) z) (fun _ _ => by unfold sgn16; simp <;> omega))
        clear hr2 hg2 ho2 HC
        go_wp2_with fail
        go_ret
        exact ⟨256 + (y : Int), s2, rfl, by omega, HR2.out, HG2.out, HO2.out⟩
      · have e1 : ((x1 : Int) == 1) = false := by simp; omega
        have HC := Lib.hid (next45 HR1.out 0 0)
        go_wp2_with fail
        (with_reducible refine HC.out.mono ?_)
        rintro e w2 ⟨y, s2, rfl, hy, hr2, hg2, ho2⟩
        have HR2 := Lib.hid hr2
        have HG2 := Lib.hid (HG1.out.trans' hg2)
        have HX : Hid (btw 0 2 x1 = true → x1 = 2) := fun h => by rw [btw_iff] at h; omega
        have HO2 := Lib.hid (HO1.out.two (op := 5) (v := 512 + (y : Int)) ho2 (fun e => by cases e) (fun h z => by rw [HX.out h]; exact low_mul2 (by decide) z) (fun h _ => by rw [HX.out h]; unfold sgn16; simp <;> omega))
        clear hr2 hg2 ho2 HC
        go_wp2_with fail
        go_ret
        exact ⟨512 + (y : Int), s2, rfl, by omega, HR2.out, HG2.out, HO2.out⟩
  | false =>
    simp only [Bool.false_eq_true, if_false] at f2
    have HX := Lib.hid (fun hp => HH.out.at hp)
    by_cases hlt : p < n
    · obtain ⟨b, o, x, hA, hx, hc, hx2⟩ := HX.out hlt
      subst hA
      have HBX := Lib.hid hx
      have hpn : decide ((p : Int) < (n : Int)) = true := by simp; omega
      have hpm : ¬ n ≤ p := by omega
      simp only at hc
      clear hx HX
      by_cases hlo : 128 ≤ x
      · have e1 : decide ((128 : Int) ≤ (x : Int)) = true := by simp; omega
        go_enter Try.func60, Try.ntmps60
        go_wp2_with fail
        go_quiet (fail)
        go_wp2_with fail
        have HC := Lib.hid (next45 (HH.out.drewN nq) 254 255)
        (with_reducible refine HC.out.mono ?_)
        rintro e w1 ⟨x1, s1, rfl, hx1, hr1, hg1, ho1⟩
        have HR1 := Lib.hid hr1
        have HG1 := Lib.hid ((World.grownBy.drewN' w nq (some r)).trans' hg1)
        have HO1 := Lib.hid ho1
        obtain ⟨p1, wr1⟩ := s1
        have HC2 := Lib.hid (next45 hr1 0 255)
        clear hr1 hg1 ho1 HC
        have E1 : Hid (∀ z, bs[p]? = some z → btw 254 255 z = highOk 5 z) := fun z hz => by
          have := HBX.out.symm.trans hz
          cases this
          exact high_mulN (by decide) hlo hx2
        go_wp2_with fail
        (with_reducible refine HC2.out.mono ?_)
        rintro e w2 ⟨y, s2, rfl, hy, hr2, hg2, ho2⟩
        have HR2 := Lib.hid hr2
        have HG2 := Lib.hid (HG1.out.trans' hg2)
        have HX : Hid (btw 254 255 x1 = true → x1 = 254 ∨ x1 = 255) := fun h => by rw [btw_iff] at h; omega
        have HO2 := Lib.hid (HO1.out.two (op := 5) (v := (x1 : Int) * 256 + (y : Int) - 65536) ho2 (fun _ => E1.out) (fun h z => low_mulN (by decide) (HX.out h) z) (fun h _ => by rcases HX.out h with h | h <;> (rw [h]; unfold sgn16; simp <;> omega)))
        clear hr2 hg2 ho2 HC2
        go_wp2_with fail
        go_ret
        exact ⟨(x1 : Int) * 256 + (y : Int) - 65536, s2, rfl, by omega, HR2.out, HG2.out, HO2.out⟩
      · have e1 : decide ((128 : Int) ≤ (x : Int)) = false := by simp; omega
        have HLO := Lib.hid hlo
        go_enter Try.func60, Try.ntmps60
        go_wp2_with fail
        go_quiet (fail)
        go_wp2_with fail
        have HC := Lib.hid (next45 (HH.out.drewN nq) 0 2)
        (with_reducible refine HC.out.mono ?_)
        rintro e w1 ⟨x1, s1, rfl, hx1, hr1, hg1, ho1⟩
        have HR1 := Lib.hid hr1
        have HG1 := Lib.hid ((World.grownBy.drewN' w nq (some r)).trans' hg1)
        have HO1 := Lib.hid ho1
        obtain ⟨p1, wr1⟩ := s1
        clear hr1 hg1 ho1 HC
        have E1 : Hid (∀ z, bs[p]? = some z → btw 0 2 z = highOk 5 z) := fun z hz => by have := HBX.out.symm.trans hz; cases this; exact high_mul (by decide) (by have := HLO.out; omega)
        by_cases h0 : x1 = 0
        · subst h0
          have HC := Lib.hid (next45 HR1.out 1 255)
          go_wp2_with fail
          (with_reducible refine HC.out.mono ?_)
          rintro e w2 ⟨y, s2, rfl, hy, hr2, hg2, ho2⟩
          have HR2 := Lib.hid hr2
          have HG2 := Lib.hid (HG1.out.trans' hg2)
          have HO2 := Lib.hid (HO1.out.two (op := 5) (v := (y : Int)) ho2 (fun _ => E1.out) (fun _ z => low_mul0 (by decide) z) (fun _ _ => by unfold sgn16; simp <;> omega))
          clear hr2 hg2 ho2 HC
          go_wp2_with fail
          go_ret
          exact ⟨(y : Int), s2, rfl, by omega, HR2.out, HG2.out, HO2.out⟩
        · have e0 : ((x1 : Int) == 0) = false := by simp; omega
          by_cases h1 : x1 = 1
          · subst h1
            have HC := Lib.hid (next45 HR1.out 0 255)
            go_wp2_with fail
            (with_reducible refine HC.out.mono ?_)
            rintro e w2 ⟨y, s2, rfl, hy, hr2, hg2, ho2⟩
            have HR2 := Lib.hid hr2
            have HG2 := Lib.hid (HG1.out.trans' hg2)
            have HO2 := Lib.hid (HO1.out.two (op := 5) (v := 256 + (y : Int)) ho2 (fun _ => E1.out) (fun _ z => low_mul1 (by decide) z) (fun _ _ => by unfold sgn16; simp <;> omega))
            clear hr2 hg2 ho2 HC
            go_wp2_with fail
            go_ret
            exact ⟨256 + (y : Int), s2, rfl, by omega, HR2.out, HG2.out, HO2.out⟩
          · have e1 : ((x1 : Int) == 1) = false := by simp; omega
            have HC := Lib.hid (next45 HR1.out 0 0)
            go_wp2_with fail
            (with_reducible refine HC.out.mono ?_)
            rintro e w2 ⟨y, s2, rfl, hy, hr2, hg2, ho2⟩
            have HR2 := Lib.hid hr2
            have HG2 := Lib.hid (HG1.out.trans' hg2)
            have HX : Hid (btw 0 2 x1 = true → x1 = 2) := fun h => by rw [btw_iff] at h; omega
            have HO2 := Lib.hid (HO1.out.two (op := 5) (v := 512 + (y : Int)) ho2 (fun _ => E1.out) (fun h z => by rw [HX.out h]; exact low_mul2 (by decide) z) (fun h _ => by rw [HX.out h]; unfold sgn16; simp <;> omega))
            clear hr2 hg2 ho2 HC
            go_wp2_with fail
            go_ret
            exact ⟨512 + (y : Int), s2, rfl, by omega, HR2.out, HG2.out, HO2.out⟩
    · obtain rfl : p = n := by omega
      have HE := Lib.hid (show bs[p]? = none from List.getElem?_eq_none (by rw [HH.out.len]; exact Nat.le_refl _))
      clear HX
      go_enter Try.func60, Try.ntmps60
      go_wp2_with fail
      go_quiet (fail)
      go_wp2_with fail
      have HC := Lib.hid (next45 (HH.out.drewN nq) 0 2)
      (with_reducible refine HC.out.mono ?_)
      rintro e w1 ⟨x1, s1, rfl, hx1, hr1, hg1, ho1⟩
      have HR1 := Lib.hid hr1
      have HG1 := Lib.hid ((World.grownBy.drewN' w nq (some r)).trans' hg1)
      have HO1 := Lib.hid ho1
      obtain ⟨p1, wr1⟩ := s1
      clear hr1 hg1 ho1 HC
      have E1 : Hid (∀ z, bs[p]? = some z → btw 0 2 z = highOk 5 z) := fun z hz => by have := HE.out.symm.trans hz; cases this
      by_cases h0 : x1 = 0
      · subst h0
        have HC := Lib.hid (next45 HR1.out 1 255)
        go_wp2_with fail
        (with_reducible refine HC.out.mono ?_)
        rintro e w2 ⟨y, s2, rfl, hy, hr2, hg2, ho2⟩
        have HR2 := Lib.hid hr2
        have HG2 := Lib.hid (HG1.out.trans' hg2)
        have HO2 := Lib.hid (HO1.out.two (op := 5) (v := (y : Int)) ho2 (fun _ => E1.out) (fun _ z => low_mul0 (by decide) z) (fun _ _ => by unfold sgn16; simp <;> omega))
        clear hr2 hg2 ho2 HC
        go_wp2_with fail
        go_ret
        exact ⟨(y : Int), s2, rfl, by omega, HR2.out, HG2.out, HO2.out⟩
      · have e0 : ((x1 : Int) == 0) = false := by simp; omega
        by_cases h1 : x1 = 1
        · subst h1
          have HC := Lib.hid (next45 HR1.out 0 255)
          go_wp2_with fail
          (with_reducible refine HC.out.mono ?_)
          rintro e w2 ⟨y, s2, rfl, hy, hr2, hg2, ho2⟩
          have HR2 := Lib.hid hr2
          have HG2 := Lib.hid (HG1.out.trans' hg2)
          have HO2 := Lib.hid (HO1.out.two (op := 5) (v := 256 + (y : Int)) ho2 (fun _ => E1.out) (fun _ z => low_mul1 (by decide) z) (fun _ _ => by unfold sgn16; simp <;> omega))
          clear hr2 hg2 ho2 HC
          go_wp2_with fail
          go_ret
          exact ⟨256 + (y : Int), s2, rfl, by omega, HR2.out, HG2.out, HO2.out⟩
        · have e1 : ((x1 : Int) == 1) = false := by simp; omega
          have HC := Lib.hid (next45 HR1.out 0 0)
          go_wp2_with fail
          (with_reducible refine HC.out.mono ?_)
          rintro e w2 ⟨y, s2, rfl, hy, hr2, hg2, ho2⟩
          have HR2 := Lib.hid hr2
          have HG2 := Lib.hid (HG1.out.trans' hg2)
          have HX : Hid (btw 0 2 x1 = true → x1 = 2) := fun h => by rw [btw_iff] at h; omega
          have HO2 := Lib.hid (HO1.out.two (op := 5) (v := 512 + (y : Int)) ho2 (fun _ => E1.out) (fun h z => by rw [HX.out h]; exact low_mul2 (by decide) z) (fun h _ => by rw [HX.out h]; unfold sgn16; simp <;> omega))
          clear hr2 hg2 ho2 HC
          go_wp2_with fail
          go_ret
          exact ⟨512 + (y : Int), s2, rfl, by omega, HR2.out, HG2.out, HO2.out⟩

set_option maxHeartbeats 4000000 in
theorem const60_6 {w : World} {r : Nat} {A : Option Addr} {n c : Nat} {bs : List Nat} {s : Nat × Bool} (h : RdR w r A n c bs s) :
    Calls Try.prog 60 #[.pointer (some ⟨r, 0, none⟩), .int .i64 6] w (CsOut w r A n c bs s 6) := by
  obtain ⟨p, wr⟩ := s
  have f0 := h.c0
  have f1 := h.c1
  have f2 := h.c2
  have hn := h.max
  have hp := h.le
  simp only at hp f1 f2
  have HH := Lib.hid h
  clear h
  cases wr with
  | true =>
    simp only [if_true] at f2
    have hneg : decide ((p : Int) < 0) = false := by simp
    go_enter Try.func60, Try.ntmps60
    go_wp2_with fail
    go_quiet (fail)
    go_wp2_with fail
    have HC := Lib.hid (next45 (HH.out.drewN nq) 0 2)
    (with_reducible refine HC.out.mono ?_)
    rintro e w1 ⟨x1, s1, rfl, hx1, hr1, hg1, ho1⟩
    have HR1 := Lib.hid hr1
    have HG1 := Lib.hid ((World.grownBy.drewN' w nq (some r)).trans' hg1)
    have HO1 := Lib.hid ho1
    obtain ⟨p1, wr1⟩ := s1
    clear hr1 hg1 ho1 HC
    
    by_cases h0 : x1 = 0
    · subst h0
      have HC := Lib.hid (next45 HR1.out 1 255)
      go_wp2_with fail
      (with_reducible refine HC.out.mono ?_)
      rintro e w2 ⟨y, s2, rfl, hy, hr2, hg2, ho2⟩
      have HR2 := Lib.hid hr2
      have HG2 := Lib.hid (HG1.out.trans' hg2)
      have HO2 := Lib.hid (HO1.out.two (op := 6) (v := (y : Int)) ho2 (fun e => by cases e) (fun _ z => low_mul0 (by decide) z) (fun _ _ => by unfold sgn16; simp <;> omega))
      clear hr2 hg2 ho2 HC
      go_wp2_with fail
      go_ret
      exact ⟨(y : Int), s2, rfl, by omega, HR2.out, HG2.out, HO2.out⟩
    · have e0 : ((x1 : Int) == 0) = false := by simp; omega
      by_cases h1 : x1 = 1
      · subst h1
        have HC := Lib.hid (next45 HR1.out 0 255)
        go_wp2_with fail
        (with_reducible refine HC.out.mono ?_)
        rintro e w2 ⟨y, s2, rfl, hy, hr2, hg2, ho2⟩
        have HR2 := Lib.hid hr2
        have HG2 := Lib.hid (HG1.out.trans' hg2)
        have HO2 := Lib.hid (HO1.out.two (op := 6) (v := 256 + (y : Int)) ho2 (fun e => by cases e) (fun _ z => low_mul1 (by decide) z) (fun _ _ => by unfold sgn16; simp <;> omega))
        clear hr2 hg2 ho2 HC
        go_wp2_with fail
        go_ret
        exact ⟨256 + (y : Int), s2, rfl, by omega, HR2.out, HG2.out, HO2.out⟩
      · have e1 : ((x1 : Int) == 1) = false := by simp; omega
        have HC := Lib.hid (next45 HR1.out 0 0)
        go_wp2_with fail
        (with_reducible refine HC.out.mono ?_)
        rintro e w2 ⟨y, s2, rfl, hy, hr2, hg2, ho2⟩
        have HR2 := Lib.hid hr2
        have HG2 := Lib.hid (HG1.out.trans' hg2)
        have HX : Hid (btw 0 2 x1 = true → x1 = 2) := fun h => by rw [btw_iff] at h; omega
        have HO2 := Lib.hid (HO1.out.two (op := 6) (v := 512 + (y : Int)) ho2 (fun e => by cases e) (fun h z => by rw [HX.out h]; exact low_mul2 (by decide) z) (fun h _ => by rw [HX.out h]; unfold sgn16; simp <;> omega))
        clear hr2 hg2 ho2 HC
        go_wp2_with fail
        go_ret
        exact ⟨512 + (y : Int), s2, rfl, by omega, HR2.out, HG2.out, HO2.out⟩
  | false =>
    simp only [Bool.false_eq_true, if_false] at f2
    have HX := Lib.hid (fun hp => HH.out.at hp)
    by_cases hlt : p < n
    · obtain ⟨b, o, x, hA, hx, hc, hx2⟩ := HX.out hlt
      subst hA
      have HBX := Lib.hid hx
      have hpn : decide ((p : Int) < (n : Int)) = true := by simp; omega
      have hpm : ¬ n ≤ p := by omega
      simp only at hc
      clear hx HX
      by_cases hlo : 128 ≤ x
      · have e1 : decide ((128 : Int) ≤ (x : Int)) = true := by simp; omega
        go_enter Try.func60, Try.ntmps60
        go_wp2_with fail
        go_quiet (fail)
        go_wp2_with fail
        have HC := Lib.hid (next45 (HH.out.drewN nq) 254 255)
        (with_reducible refine HC.out.mono ?_)
        rintro e w1 ⟨x1, s1, rfl, hx1, hr1, hg1, ho1⟩
        have HR1 := Lib.hid hr1
        have HG1 := Lib.hid ((World.grownBy.drewN' w nq (some r)).trans' hg1)
        have HO1 := Lib.hid ho1
        obtain ⟨p1, wr1⟩ := s1
        have HC2 := Lib.hid (next45 hr1 0 255)
        clear hr1 hg1 ho1 HC
        have E1 : Hid (∀ z, bs[p]? = some z → btw 254 255 z = highOk 6 z) := fun z hz => by
          have := HBX.out.symm.trans hz
          cases this
          exact high_mulN (by decide) hlo hx2
        go_wp2_with fail
        (with_reducible refine HC2.out.mono ?_)
        rintro e w2 ⟨y, s2, rfl, hy, hr2, hg2, ho2⟩
        have HR2 := Lib.hid hr2
        have HG2 := Lib.hid (HG1.out.trans' hg2)
        have HX : Hid (btw 254 255 x1 = true → x1 = 254 ∨ x1 = 255) := fun h => by rw [btw_iff] at h; omega
        have HO2 := Lib.hid (HO1.out.two (op := 6) (v := (x1 : Int) * 256 + (y : Int) - 65536) ho2 (fun _ => E1.out) (fun h z => low_mulN (by decide) (HX.out h) z) (fun h _ => by rcases HX.out h with h | h <;> (rw [h]; unfold sgn16; simp <;> omega)))
        clear hr2 hg2 ho2 HC2
        go_wp2_with fail
        go_ret
        exact ⟨(x1 : Int) * 256 + (y : Int) - 65536, s2, rfl, by omega, HR2.out, HG2.out, HO2.out⟩
      · have e1 : decide ((128 : Int) ≤ (x : Int)) = false := by simp; omega
        have HLO := Lib.hid hlo
        go_enter Try.func60, Try.ntmps60
        go_wp2_with fail
        go_quiet (fail)
        go_wp2_with fail
        have HC := Lib.hid (next45 (HH.out.drewN nq) 0 2)
        (with_reducible refine HC.out.mono ?_)
        rintro e w1 ⟨x1, s1, rfl, hx1, hr1, hg1, ho1⟩
        have HR1 := Lib.hid hr1
        have HG1 := Lib.hid ((World.grownBy.drewN' w nq (some r)).trans' hg1)
        have HO1 := Lib.hid ho1
        obtain ⟨p1, wr1⟩ := s1
        clear hr1 hg1 ho1 HC
        have E1 : Hid (∀ z, bs[p]? = some z → btw 0 2 z = highOk 6 z) := fun z hz => by have := HBX.out.symm.trans hz; cases this; exact high_mul (by decide) (by have := HLO.out; omega)
        by_cases h0 : x1 = 0
        · subst h0
          have HC := Lib.hid (next45 HR1.out 1 255)
          go_wp2_with fail
          (with_reducible refine HC.out.mono ?_)
          rintro e w2 ⟨y, s2, rfl, hy, hr2, hg2, ho2⟩
          have HR2 := Lib.hid hr2
          have HG2 := Lib.hid (HG1.out.trans' hg2)
          have HO2 := Lib.hid (HO1.out.two (op := 6) (v := (y : Int)) ho2 (fun _ => E1.out) (fun _ z => low_mul0 (by decide) z) (fun _ _ => by unfold sgn16; simp <;> omega))
          clear hr2 hg2 ho2 HC
          go_wp2_with fail
          go_ret
          exact ⟨(y : Int), s2, rfl, by omega, HR2.out, HG2.out, HO2.out⟩
        · have e0 : ((x1 : Int) == 0) = false := by simp; omega
          by_cases h1 : x1 = 1
          · subst h1
            have HC := Lib.hid (next45 HR1.out 0 255)
            go_wp2_with fail
            (with_reducible refine HC.out.mono ?_)
            rintro e w2 ⟨y, s2, rfl, hy, hr2, hg2, ho2⟩
            have HR2 := Lib.hid hr2
            have HG2 := Lib.hid (HG1.out.trans' hg2)
            have HO2 := Lib.hid (HO1.out.two (op := 6) (v := 256 + (y : Int)) ho2 (fun _ => E1.out) (fun _ z => low_mul1 (by decide) z) (fun _ _ => by unfold sgn16; simp <;> omega))
            clear hr2 hg2 ho2 HC
            go_wp2_with fail
            go_ret
            exact ⟨256 + (y : Int), s2, rfl, by omega, HR2.out, HG2.out, HO2.out⟩
          · have e1 : ((x1 : Int) == 1) = false := by simp; omega
            have HC := Lib.hid (next45 HR1.out 0 0)
            go_wp2_with fail
            (with_reducible refine HC.out.mono ?_)
            rintro e w2 ⟨y, s2, rfl, hy, hr2, hg2, ho2⟩
            have HR2 := Lib.hid hr2
            have HG2 := Lib.hid (HG1.out.trans' hg2)
            have HX : Hid (btw 0 2 x1 = true → x1 = 2) := fun h => by rw [btw_iff] at h; omega
            have HO2 := Lib.hid (HO1.out.two (op := 6) (v := 512 + (y : Int)) ho2 (fun _ => E1.out) (fun h z => by rw [HX.out h]; exact low_mul2 (by decide) z) (fun h _ => by rw [HX.out h]; unfold sgn16; simp <;> omega))
            clear hr2 hg2 ho2 HC
            go_wp2_with fail
            go_ret
            exact ⟨512 + (y : Int), s2, rfl, by omega, HR2.out, HG2.out, HO2.out⟩
    · obtain rfl : p = n := by omega
      have HE := Lib.hid (show bs[p]? = none from List.getElem?_eq_none (by rw [HH.out.len]; exact Nat.le_refl _))
      clear HX
      go_enter Try.func60, Try.ntmps60
      go_wp2_with fail
      go_quiet (fail)
      go_wp2_with fail
      have HC := Lib.hid (next45 (HH.out.drewN nq) 0 2)
      (with_reducible refine HC.out.mono ?_)
      rintro e w1 ⟨x1, s1, rfl, hx1, hr1, hg1, ho1⟩
      have HR1 := Lib.hid hr1
      have HG1 := Lib.hid ((World.grownBy.drewN' w nq (some r)).trans' hg1)
      have HO1 := Lib.hid ho1
      obtain ⟨p1, wr1⟩ := s1
      clear hr1 hg1 ho1 HC
      have E1 : Hid (∀ z, bs[p]? = some z → btw 0 2 z = highOk 6 z) := fun z hz => by have := HE.out.symm.trans hz; cases this
      by_cases h0 : x1 = 0
      · subst h0
        have HC := Lib.hid (next45 HR1.out 1 255)
        go_wp2_with fail
        (with_reducible refine HC.out.mono ?_)
        rintro e w2 ⟨y, s2, rfl, hy, hr2, hg2, ho2⟩
        have HR2 := Lib.hid hr2
        have HG2 := Lib.hid (HG1.out.trans' hg2)
        have HO2 := Lib.hid (HO1.out.two (op := 6) (v := (y : Int)) ho2 (fun _ => E1.out) (fun _ z => low_mul0 (by decide) z) (fun _ _ => by unfold sgn16; simp <;> omega))
        clear hr2 hg2 ho2 HC
        go_wp2_with fail
        go_ret
        exact ⟨(y : Int), s2, rfl, by omega, HR2.out, HG2.out, HO2.out⟩
      · have e0 : ((x1 : Int) == 0) = false := by simp; omega
        by_cases h1 : x1 = 1
        · subst h1
          have HC := Lib.hid (next45 HR1.out 0 255)
          go_wp2_with fail
          (with_reducible refine HC.out.mono ?_)
          rintro e w2 ⟨y, s2, rfl, hy, hr2, hg2, ho2⟩
          have HR2 := Lib.hid hr2
          have HG2 := Lib.hid (HG1.out.trans' hg2)
          have HO2 := Lib.hid (HO1.out.two (op := 6) (v := 256 + (y : Int)) ho2 (fun _ => E1.out) (fun _ z => low_mul1 (by decide) z) (fun _ _ => by unfold sgn16; simp <;> omega))
          clear hr2 hg2 ho2 HC
          go_wp2_with fail
          go_ret
          exact ⟨256 + (y : Int), s2, rfl, by omega, HR2.out, HG2.out, HO2.out⟩
        · have e1 : ((x1 : Int) == 1) = false := by simp; omega
          have HC := Lib.hid (next45 HR1.out 0 0)
          go_wp2_with fail
          (with_reducible refine HC.out.mono ?_)
          rintro e w2 ⟨y, s2, rfl, hy, hr2, hg2, ho2⟩
          have HR2 := Lib.hid hr2
          have HG2 := Lib.hid (HG1.out.trans' hg2)
          have HX : Hid (btw 0 2 x1 = true → x1 = 2) := fun h => by rw [btw_iff] at h; omega
          have HO2 := Lib.hid (HO1.out.two (op := 6) (v := 512 + (y : Int)) ho2 (fun _ => E1.out) (fun h z => by rw [HX.out h]; exact low_mul2 (by decide) z) (fun h _ => by rw [HX.out h]; unfold sgn16; simp <;> omega))
          clear hr2 hg2 ho2 HC
          go_wp2_with fail
          go_ret
          exact ⟨512 + (y : Int), s2, rfl, by omega, HR2.out, HG2.out, HO2.out⟩

set_option maxHeartbeats 4000000 in
theorem const60_7 {w : World} {r : Nat} {A : Option Addr} {n c : Nat} {bs : List Nat} {s : Nat × Bool} (h : RdR w r A n c bs s) :
    Calls Try.prog 60 #[.pointer (some ⟨r, 0, none⟩), .int .i64 7] w (CsOut w r A n c bs s 7) := by
  obtain ⟨p, wr⟩ := s
  have HC := Lib.hid (next45 h 0 0)
  clear h
  go_enter Try.func60, Try.ntmps60
  go_wp2_with fail
  (with_reducible refine HC.out.mono ?_)
  rintro e w1 ⟨x1, s1, rfl, hx1, hr1, hg1, ho1⟩
  have HR1 := Lib.hid hr1
  have HG1 := Lib.hid hg1
  have HO1 := Lib.hid ho1
  obtain ⟨p1, wr1⟩ := s1
  have HC2 := Lib.hid (next45 hr1 1 64)
  clear hr1 hg1 ho1 HC
  go_wp2_with fail
  (with_reducible refine HC2.out.mono ?_)
  rintro e w2 ⟨y, s2, rfl, hy, hr2, hg2, ho2⟩
  have HR2 := Lib.hid hr2
  have HG2 := Lib.hid (HG1.out.trans' hg2)
  have HX : Hid (btw 0 0 x1 = true → x1 = 0) := fun h => by rw [btw_iff] at h; omega
  have HO2 := Lib.hid (HO1.out.two (op := 7) (v := (y : Int)) ho2 (fun _ z _ => high_no (by decide) z) (fun h z => by rw [HX.out h]; exact low_sh (by decide) z) (fun h _ => by rw [HX.out h]; unfold sgn16; simp <;> omega))
  clear hr2 hg2 ho2 HC2
  go_wp2_with fail
  go_ret
  exact ⟨(y : Int), s2, rfl, by omega, HR2.out, HG2.out, HO2.out⟩

set_option maxHeartbeats 4000000 in
theorem const60_8 {w : World} {r : Nat} {A : Option Addr} {n c : Nat} {bs : List Nat} {s : Nat × Bool} (h : RdR w r A n c bs s) :
    Calls Try.prog 60 #[.pointer (some ⟨r, 0, none⟩), .int .i64 8] w (CsOut w r A n c bs s 8) := by
  obtain ⟨p, wr⟩ := s
  have HC := Lib.hid (next45 h 0 0)
  clear h
  go_enter Try.func60, Try.ntmps60
  go_wp2_with fail
  (with_reducible refine HC.out.mono ?_)
  rintro e w1 ⟨x1, s1, rfl, hx1, hr1, hg1, ho1⟩
  have HR1 := Lib.hid hr1
  have HG1 := Lib.hid hg1
  have HO1 := Lib.hid ho1
  obtain ⟨p1, wr1⟩ := s1
  have HC2 := Lib.hid (next45 hr1 1 64)
  clear hr1 hg1 ho1 HC
  go_wp2_with fail
  (with_reducible refine HC2.out.mono ?_)
  rintro e w2 ⟨y, s2, rfl, hy, hr2, hg2, ho2⟩
  have HR2 := Lib.hid hr2
  have HG2 := Lib.hid (HG1.out.trans' hg2)
  have HX : Hid (btw 0 0 x1 = true → x1 = 0) := fun h => by rw [btw_iff] at h; omega
  have HO2 := Lib.hid (HO1.out.two (op := 8) (v := (y : Int)) ho2 (fun _ z _ => high_no (by decide) z) (fun h z => by rw [HX.out h]; exact low_sh (by decide) z) (fun h _ => by rw [HX.out h]; unfold sgn16; simp <;> omega))
  clear hr2 hg2 ho2 HC2
  go_wp2_with fail
  go_ret
  exact ⟨(y : Int), s2, rfl, by omega, HR2.out, HG2.out, HO2.out⟩

set_option maxHeartbeats 4000000 in
theorem const60_no {w : World} {r : Nat} {A : Option Addr} {n c : Nat} {bs : List Nat} {s : Nat × Bool} (h : RdR w r A n c bs s) {op : Int} (h1 : ¬ (op = 5 ∨ op = 6)) (h2 : ¬ (op = 7 ∨ op = 8)) :
    Calls Try.prog 60 #[.pointer (some ⟨r, 0, none⟩), .int .i64 op] w (CsOut w r A n c bs s op) := by
  obtain ⟨p, wr⟩ := s
  have HC := Lib.hid (next45 h 0 0)
  have e5 : (op == 5) = false := by simp; omega
  have e6 : (op == 6) = false := by simp; omega
  have e7 : (op == 7) = false := by simp; omega
  have e8 : (op == 8) = false := by simp; omega
  have H1 := Lib.hid h1
  have H2 := Lib.hid h2
  clear h1 h2
  clear h
  go_enter Try.func60, Try.ntmps60
  go_wp2_with fail
  (with_reducible refine HC.out.mono ?_)
  rintro e w1 ⟨x1, s1, rfl, hx1, hr1, hg1, ho1⟩
  have HR1 := Lib.hid hr1
  have HG1 := Lib.hid hg1
  have HO1 := Lib.hid ho1
  obtain ⟨p1, wr1⟩ := s1
  have HC2 := Lib.hid (next45 hr1 0 0)
  clear hr1 hg1 ho1 HC
  go_wp2_with fail
  (with_reducible refine HC2.out.mono ?_)
  rintro e w2 ⟨y, s2, rfl, hy, hr2, hg2, ho2⟩
  have HR2 := Lib.hid hr2
  have HG2 := Lib.hid (HG1.out.trans' hg2)
  have HX : Hid (btw 0 0 x1 = true → x1 = 0) := fun h => by rw [btw_iff] at h; omega
  have HO2 := Lib.hid (HO1.out.two (op := op) (v := (y : Int)) ho2 (fun _ z _ => high_no H1.out z) (fun h z => by rw [HX.out h]; exact low_no H1.out H2.out z) (fun h _ => by rw [HX.out h]; unfold sgn16; simp <;> omega))
  clear hr2 hg2 ho2 HC2
  go_wp2_with fail
  go_ret
  exact ⟨(y : Int), s2, rfl, by omega, HR2.out, HG2.out, HO2.out⟩

theorem const60 {w : World} {r : Nat} {A : Option Addr} {n c : Nat} {bs : List Nat} {s : Nat × Bool} (h : RdR w r A n c bs s) (op : Int) :
    Calls Try.prog 60 #[.pointer (some ⟨r, 0, none⟩), .int .i64 op] w (CsOut w r A n c bs s op) := by
  by_cases h1 : op = 5 ∨ op = 6
  · rcases h1 with rfl | rfl
    · exact const60_5 h
    · exact const60_6 h
  · by_cases h2 : op = 7 ∨ op = 8
    · rcases h2 with rfl | rfl
      · exact const60_7 h
      · exact const60_8 h
    · exact const60_no h h1 h2
end Go.Proofs.Ytcelcognmdcenaa

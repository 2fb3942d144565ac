/-
  WALKS: the reference's reader: a byte from one number to another one.
-/
import Derived.Test.YtcelcognmdcenaaB4
namespace Go.Proofs.Ytcelcognmdcenaa
open Go.RowKit

/-- The reference's reader: it bears the place where it went wrong, or -1. -/
abbrev RdR (w : World) (r : Nat) (A : Option Addr) (n c : Nat) (bs : List Nat) (s : Nat × Bool) : Prop := RdIn w 84 r A n c bs (.int .i64 s.1) (.int .i64 (if s.2 then (s.1 : Int) else -1)) s
/-- What a call of the reference's reader answers. -/
def RrOut {α : Type} (w : World) (r : Nat) (A : Option Addr) (n c : Nat) (bs : List Nat) (s : Nat × Bool) (rd : List Nat → Nat → Rd α) (val : α → Int) (P : α → Prop) (e : Ending) (w' : World) : Prop :=
  ∃ (x : α) (s' : Nat × Bool), e = .returned (.int .i64 (val x)) ∧ P x ∧ RdR w' r A n c bs s' ∧ w.grownBy w' (some r) ∧ Out rd bs s x s'

/-- A byte that lies from one number to another one. -/
def btw (lo hi : Int) (x : Nat) : Bool := decide (lo ≤ (x : Int)) && decide ((x : Int) ≤ hi)

set_option maxHeartbeats 1000000 in
theorem next45 {w : World} {r : Nat} {A : Option Addr} {n c : Nat} {bs : List Nat} {p : Nat} {wr : Bool} (h : RdR w r A n c bs (p, wr)) (lo hi : Int) :
    Calls Try.prog 45 #[.pointer (some ⟨r, 0, none⟩), .int .i64 lo, .int .i64 hi] w (RrOut w r A n c bs (p, wr) (one (btw lo hi)) (fun x => (x : Int)) (· < 256)) := by
  have f0 := h.c0
  have f1 := h.c1
  have f2 := h.c2
  have z1 := h.fz 1
  have z2 := h.fz 2
  have hn := h.max
  have hp := h.le
  simp only at hp f1 f2
  have HH := Lib.hid h
  clear h
  cases wr with
  | true =>
    simp only [if_true] at f2
    have hge : decide ((0 : Int) ≤ (p : Int)) = true := by simp
    go_enter Try.func45, Try.ntmps45
    go_wp2_with fail
    go_ret
    exact ⟨0, (p, true), rfl, by decide, HH.out, World.grownBy.drewN' w 0 _, rfl⟩
  | false =>
    simp only [Bool.false_eq_true, if_false] at f2
    have HX := Lib.hid (fun hp => HH.out.at hp)
    by_cases hlt : p < n
    · obtain ⟨b, o, x, hA, hx, hc, hx2⟩ := HX.out hlt
      subst hA
      have HBX := Lib.hid hx
      have hpn : decide ((n : Int) ≤ (p : Int)) = false := by simp; omega
      have hpm : ¬ n ≤ p := by omega
      have hx0 : (x : Int) % 256 = x := by omega
      simp only at hc
      clear hx HX
      by_cases hlo : (x : Int) < lo
      · have HG := Lib.hid (show btw lo hi x = false by simp only [btw, Bool.and_eq_false_iff, decide_eq_false_iff_not]; omega)
        go_enter Try.func45, Try.ntmps45
        go_wp2_with fail
        go_quiet (fail)
        go_wp2_with fail
        go_ret
        refine ⟨0, (p, true), rfl, by decide, ?_, ?_, Out.err (one_bad HBX.out HG.out)⟩
        · exact (HH.out.drewN nq).set 2 _ _ _ _ rfl hp
        · exact grown_set w nq r 2 _
      · have e1 : decide ((x : Int) < lo) = false := by simp; omega
        by_cases hhi : hi < (x : Int)
        · have HG := Lib.hid (show btw lo hi x = false by simp only [btw, Bool.and_eq_false_iff, decide_eq_false_iff_not]; omega)
          go_enter Try.func45, Try.ntmps45
          go_wp2_with fail
          go_quiet (fail)
          go_wp2_with fail
          go_ret
          refine ⟨0, (p, true), rfl, by decide, ?_, ?_, Out.err (one_bad HBX.out HG.out)⟩
          · exact (HH.out.drewN nq).set 2 _ _ _ _ rfl hp
          · exact grown_set w nq r 2 _
        · have e2 : decide (hi < (x : Int)) = false := by simp; omega
          have HG := Lib.hid (show btw lo hi x = true by simp only [btw, Bool.and_eq_true, decide_eq_true_eq]; omega)
          go_enter Try.func45, Try.ntmps45
          go_wp2_with fail
          go_quiet (fail)
          go_wp2_with fail
          have hR1 : RdR ((w.drewN nq).setCell ⟨r, 1, none⟩ (.int .i64 ((p : Int) + 1))) r (some ⟨b, o, none⟩) n c bs (p + 1, false) :=
            (HH.out.drewN nq).set 1 _ _ _ _ (by rw [show ((p : Int) + 1) = ((p + 1 : Nat) : Int) by omega]; rfl) hlt
          have k0 := hR1.c0
          have k1 : ((w.drewN nq).setCell ⟨r, 1, none⟩ (.int .i64 ((p : Int) + 1))).cell? ⟨r, 1, none⟩ = some (.int .i64 ((p : Int) + 1)) := hR1.c1
          have kx : ((w.drewN nq).setCell ⟨r, 1, none⟩ (.int .i64 ((p : Int) + 1))).cell? ⟨b, o + p, none⟩ = some (.int .u8 (x : Nat)) := by
            rw [World.cell?_of_block (w := w.drewN nq) (a := ⟨b, o + p, none⟩) (set_blk _ (HH.out.sep b o rfl (by omega)))]
            exact hc
          have HR1 := Lib.hid hR1
          have HGR := Lib.hid (grown_set w nq r 1 (.int .i64 ((p : Int) + 1)))
          clear hR1 f0 f1 f2 z1 z2 hc
          generalize (w.drewN nq).setCell ⟨r, 1, none⟩ (.int .i64 ((p : Int) + 1)) = w1 at *
          go_quiet (fail)
          go_wp2_with fail
          go_ret
          exact ⟨x, (p + 1, false), rfl, hx2, HR1.out.drewN _, HGR.out.trans' (World.grownBy.drewN' w1 _ _), Out.ok (one_ok HBX.out HG.out)⟩
    · obtain rfl : p = n := by omega
      have hA : bs[p]? = none := List.getElem?_eq_none (by rw [HH.out.len]; exact Nat.le_refl _)
      have HE := Lib.hid hA
      clear hA HX
      go_enter Try.func45, Try.ntmps45
      go_wp2_with fail
      go_quiet (fail)
      go_wp2_with fail
      go_ret
      refine ⟨0, (p, true), rfl, by decide, ?_, ?_, Out.err (one_none HE.out)⟩
      · exact (HH.out.drewN nq).set 2 _ _ _ _ rfl hp
      · exact grown_set w nq r 2 _
end Go.Proofs.Ytcelcognmdcenaa

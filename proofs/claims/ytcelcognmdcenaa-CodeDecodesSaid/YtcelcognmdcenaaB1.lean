/-
  WALKS: the program's reader: a byte that is as a function wants it.
-/
import Derived.Test.YtcelcognmdcenaaA1
import Derived.StillTailTactics
namespace Go.Proofs.Ytcelcognmdcenaa
open Go.RowKit

/-- A store into another block. -/
theorem Reads.far {w : World} {sz n r i c : Nat} {A : Option Addr} {xs : List Value} {u : Value} (h : Reads w sz (.slice A n c) n xs) (hb : ∀ b o, (.slice A n c : Value) = .slice (some ⟨b, o, none⟩) n c → 0 < n → b ≠ r ∧ True) : Reads (w.setCell ⟨r, i, none⟩ u) sz (.slice A n c) n xs := by
  obtain ⟨h1, h2, A', c', h3, h4, h5⟩ := h
  refine ⟨h1, h2, A', c', h3, h4, fun hn => ?_⟩
  obtain ⟨b, o, h6, h7, h8⟩ := h5 hn
  subst h6
  cases h3
  exact ⟨b, o, rfl, by simpa [World.setCell] using h7, fun j u hu => by rw [World.cell?_of_block (w := w) (a := ⟨b, o + j, none⟩) (set_blk _ (hb b o rfl hn).1)]; exact h8 j u hu⟩

/-- A reader in memory: its struct's block, the bytes, the place, whether it is wrong. -/
structure RdIn (w : World) (T : TypeId) (r : Nat) (A : Option Addr) (n c : Nat) (bs : List Nat) (v1 v2 : Value) (s : Nat × Bool) : Prop where
  blk : w.heap[r]? = some (.cells #[.slice A n c, v1, v2] T (0, 0))
  bytes : Reads w 1 (.slice A n c) n (vB bs)
  le : s.1 ≤ n
  sep : ∀ b o, A = some ⟨b, o, none⟩ → 0 < n → b ≠ r
  lt : ∀ x ∈ bs, x < 256
/-- The program's reader. -/
abbrev RdP (w : World) (r : Nat) (A : Option Addr) (n c : Nat) (bs : List Nat) (s : Nat × Bool) : Prop := RdIn w 70 r A n c bs (.int .i64 s.1) (.bool s.2) s
section
variable {w w' : World} {T : TypeId} {r : Nat} {A : Option Addr} {n c : Nat} {bs : List Nat} {v1 v2 : Value} {s : Nat × Bool}
theorem RdIn.len (h : RdIn w T r A n c bs v1 v2 s) : bs.length = n := h.bytes.bytes.1
theorem RdIn.max (h : RdIn w T r A n c bs v1 v2 s) : n ≤ 9223372036854775807 := h.bytes.2.1
theorem RdIn.rlt (h : RdIn w T r A n c bs v1 v2 s) : r < w.heap.size := (Array.getElem?_eq_some_iff.1 h.blk).1
theorem RdIn.c0 (h : RdIn w T r A n c bs v1 v2 s) : w.cell? ⟨r, 0, none⟩ = some (.slice A n c) := cell_of_row w r 0 _ T (0, 0) h.blk
theorem RdIn.c1 (h : RdIn w T r A n c bs v1 v2 s) : w.cell? ⟨r, 1, none⟩ = some v1 := cell_of_row w r 1 _ T (0, 0) h.blk
theorem RdIn.c2 (h : RdIn w T r A n c bs v1 v2 s) : w.cell? ⟨r, 2, none⟩ = some v2 := cell_of_row w r 2 _ T (0, 0) h.blk
theorem RdIn.fz (h : RdIn w T r A n c bs v1 v2 s) (j : Nat) : w.frozen? ⟨r, j, none⟩ = false := frozen_of_row w r j _ T h.blk
theorem RdIn.below (h : RdIn w T r A n c bs v1 v2 s) (hb : Below w.heap.size w w') : RdIn w' T r A n c bs v1 v2 s :=
  ⟨(hb.block r h.rlt).trans h.blk, h.bytes.below hb, h.le, h.sep, h.lt⟩
theorem RdIn.drewN (h : RdIn w T r A n c bs v1 v2 s) (k : Nat) : RdIn (w.drewN k) T r A n c bs v1 v2 s := h.below (below_drewN (Below.refl _ _) k)
theorem RdIn.set (h : RdIn w T r A n c bs v1 v2 s) (i : Nat) (u v1' v2' : Value) (s' : Nat × Bool) (hv : (#[.slice A n c, v1, v2] : Array Value).setIfInBounds i u = #[.slice A n c, v1', v2']) (hs : s'.1 ≤ n) : RdIn (w.setCell ⟨r, i, none⟩ u) T r A n c bs v1' v2' s' :=
  ⟨by rw [blk_set h.blk, hv], h.bytes.far fun b o hA hn => ⟨h.sep b o (by cases hA; rfl) hn, trivial⟩, hs, h.sep, h.lt⟩
theorem RdIn.at (h : RdIn w T r A n c bs v1 v2 s) (hp : s.1 < n) : ∃ b o x, A = some ⟨b, o, none⟩ ∧ bs[s.1]? = some x ∧ w.cell? ⟨b, o + s.1, none⟩ = some (.int .u8 (x : Nat)) ∧ x < 256 := by
  obtain ⟨hl, hq⟩ := h.bytes.bytes
  obtain ⟨b, o, hA, _, hc⟩ := hq (by omega)
  have hx : bs[s.1]? = some (bs[s.1]'(by omega)) := List.getElem?_eq_getElem _
  exact ⟨b, o, _, hA, hx, hc _ _ hx, h.lt _ (List.getElem_mem _)⟩
end

theorem grown_set (w : World) (q r i : Nat) (u : Value) : w.grownBy ((w.drewN q).setCell ⟨r, i, none⟩ u) (some r) :=
  ⟨rfl, rfl, rfl, by simp [World.setCell], fun k _ hne => Below.heap_setCell (w.drewN q) ⟨r, i, none⟩ u k (fun e => hne (by rw [e]))⟩
theorem _root_.Go.World.grownBy.trans' {a b c : World} {row : Option Nat} (h : a.grownBy b row) (h' : b.grownBy c row) : a.grownBy c row :=
  ⟨h'.os.trans h.os, h'.tape.trans h.tape, h'.output.trans h.output, Nat.le_trans h.size h'.size, fun k hk hne => (h'.block k (Nat.lt_of_lt_of_le hk h.size) hne).trans (h.block k hk hne)⟩
theorem _root_.Go.World.grownBy.drewN' (w : World) (q : Nat) (row : Option Nat) : w.grownBy (w.drewN q) row := ⟨rfl, rfl, rfl, Nat.le_refl _, fun _ _ _ => rfl⟩
theorem _root_.Go.World.grownBy.ofBelow {a b : World} (h : Below a.heap.size a b) (row : Option Nat) : a.grownBy b row := ⟨h.os, h.tape, h.output, h.size, fun k hk _ => h.block k hk⟩

/-- A function value that asks a byte. -/
structure Asks1 (w : World) (kf : Nat) (caps : Array Value) (x : Nat) (g : Bool) : Prop where
  call : ∀ args wx, Sem.run Try.prog (callFunc kf args) wx = .ok (.enter kf args) wx
  con : ∀ q, Calls Try.prog kf (#[.int .i64 (x : Nat)] ++ caps) (w.drewN q) fun e w' => e = .returned (.bool g) ∧ ∃ j, w' = w.drewN j
/-- What a reader's call answers. -/
def RdOut {α : Type} (w : World) (r : Nat) (A : Option Addr) (n c : Nat) (bs : List Nat) (s : Nat × Bool) (rd : List Nat → Nat → Rd α) (val : α → Int) (P : α → Prop) (e : Ending) (w' : World) : Prop :=
  ∃ (x : α) (s' : Nat × Bool), e = .returned (.int .i64 (val x)) ∧ P x ∧ RdP w' r A n c bs s' ∧ w.grownBy w' (some r) ∧ Out rd bs s x s'

theorem one_none {good : Nat → Bool} {bs : List Nat} {p : Nat} (h : bs[p]? = none) : one good bs p = .error p := by unfold one; rw [h]
theorem one_bad {good : Nat → Bool} {bs : List Nat} {p x : Nat} (h : bs[p]? = some x) (hg : good x = false) : one good bs p = .error p := by unfold one; rw [h]; simp [hg]
theorem one_ok {good : Nat → Bool} {bs : List Nat} {p x : Nat} (h : bs[p]? = some x) (hg : good x = true) : one good bs p = .ok (x, p + 1) := by unfold one; rw [h]; simp [hg]
theorem Out.err {α : Type} {r : List Nat → Nat → Rd α} {b : List Nat} {p : Nat} {v : α} (h : r b p = .error p) : Out r b (p, false) v (p, true) := by unfold Out; simp [h]
theorem Out.ok {α : Type} {r : List Nat → Nat → Rd α} {b : List Nat} {p q : Nat} {v : α} (h : r b p = .ok (v, q)) : Out r b (p, false) v (q, false) := by unfold Out; simp [h]

set_option maxHeartbeats 1000000 in
theorem byte51 {w : World} {r : Nat} {A : Option Addr} {n c : Nat} {bs : List Nat} {p : Nat} {wr : Bool} (h : RdP w r A n c bs (p, wr)) (kf : Nat) (caps : Array Value) (good : Nat → Bool) (hf : ∀ x, x < 256 → Asks1 w kf caps x (good x)) :
    Calls Try.prog 51 #[.pointer (some ⟨r, 0, none⟩), .func (.func kf) #[] caps] w (RdOut w r A n c bs (p, wr) (one good) (fun x => (x : Int)) (· < 256)) := by
  have f0 := h.c0
  have f1 := h.c1
  have f2 := h.c2
  have z1 := h.fz 1
  have z2 := h.fz 2
  have hn := h.max
  have hp := h.le
  simp only at hp f1 f2
  have HH := Lib.hid h
  have HF := Lib.hid hf
  clear h hf
  cases wr with
  | true =>
    go_enter Try.func51, Try.ntmps51
    go_wp2_with fail
    go_quiet (fail)
    go_wp2_with fail
    go_ret
    refine ⟨0, (p, true), rfl, by decide, ?_, ?_, rfl⟩
    · exact (HH.out.drewN nq).set 2 _ _ _ _ rfl hp
    · exact grown_set w nq r 2 _
  | false =>
    have HX := Lib.hid (fun hp => HH.out.at hp)
    by_cases hlt : p < n
    · obtain ⟨b, o, x, hA, hx, hc, hx2⟩ := HX.out hlt
      subst hA
      have HBX := Lib.hid hx
      obtain ⟨g, hg⟩ : ∃ g, good x = g := ⟨_, rfl⟩
      have hfx := HF.out x hx2
      rw [hg] at hfx
      have HCALL := Lib.hid hfx.call
      have HCON := Lib.hid hfx.con
      have HG := Lib.hid hg
      have hpn : ((p : Int) == n) = false := by simp; omega
      simp only at hc
      clear hx hg hfx HF HX
      cases g with
      | false =>
        go_enter Try.func51, Try.ntmps51
        go_wp2_with fail
        go_quiet ((rw [HCALL.out]; exact ⟨rfl, HCON.out _⟩))
        go_wp2_with fail
        go_ret
        refine ⟨0, (p, true), rfl, by decide, ?_, ?_, Out.err (one_bad HBX.out HG.out)⟩
        · exact (HH.out.drewN nq).set 2 _ _ _ _ rfl hp
        · exact grown_set w nq r 2 _
      | true =>
        go_enter Try.func51, Try.ntmps51
        go_wp2_with fail
        go_quiet ((rw [HCALL.out]; exact ⟨rfl, HCON.out _⟩))
        go_wp2_with fail
        have hR1 : RdP ((w.drewN nq).setCell ⟨r, 1, none⟩ (.int .i64 ((p : Int) + 1))) r (some ⟨b, o, none⟩) n c bs (p + 1, false) :=
          (HH.out.drewN nq).set 1 _ _ _ _ (by rw [show ((p : Int) + 1) = ((p + 1 : Nat) : Int) by omega]; rfl) hlt
        have k0 := hR1.c0
        have k1 : ((w.drewN nq).setCell ⟨r, 1, none⟩ (.int .i64 ((p : Int) + 1))).cell? ⟨r, 1, none⟩ = some (.int .i64 ((p : Int) + 1)) := hR1.c1
        have kx : ((w.drewN nq).setCell ⟨r, 1, none⟩ (.int .i64 ((p : Int) + 1))).cell? ⟨b, o + p, none⟩ = some (.int .u8 (x : Nat)) := by
          rw [World.cell?_of_block (w := w.drewN nq) (a := ⟨b, o + p, none⟩) (set_blk _ (HH.out.sep b o rfl (by omega)))]
          exact hc
        have HR1 := Lib.hid hR1
        have HGR := Lib.hid (grown_set w nq r 1 (.int .i64 ((p : Int) + 1)))
        clear hR1 f0 f1 f2 z1 z2 hc
        generalize (w.drewN nq).setCell ⟨r, 1, none⟩ (.int .i64 ((p : Int) + 1)) = w1 at *
        go_quiet (fail)
        go_wp2_with fail
        go_ret
        exact ⟨x, (p + 1, false), rfl, hx2, HR1.out.drewN _, HGR.out.trans' (World.grownBy.drewN' w1 _ _), Out.ok (one_ok HBX.out HG.out)⟩
    · obtain rfl : p = n := by omega
      have hA : bs[p]? = none := List.getElem?_eq_none (by rw [HH.out.len]; exact Nat.le_refl _)
      have HE := Lib.hid hA
      clear hA HF HX
      go_enter Try.func51, Try.ntmps51
      go_wp2_with fail
      go_quiet (fail)
      go_wp2_with fail
      go_ret
      refine ⟨0, (p, true), rfl, by decide, ?_, ?_, Out.err (one_none HE.out)⟩
      · exact (HH.out.drewN nq).set 2 _ _ _ _ rfl hp
      · exact grown_set w nq r 2 _
end Go.Proofs.Ytcelcognmdcenaa

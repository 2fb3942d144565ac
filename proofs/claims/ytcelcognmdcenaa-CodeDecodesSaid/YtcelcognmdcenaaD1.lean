/-
  MEMORY: a unit that is being read.
-/
import Derived.Test.YtcelcognmdcenaaC2
import Derived.Test.YtcelcognmdcenaaE0
namespace Go.Proofs.Ytcelcognmdcenaa
open Go.RowKit

theorem PrOwn.congr {B : Nat} {w w' : World} {L : PrV} {p : Pr} (h : PrOwn B w L p) (hb : ∀ g, B ≤ g → g < w.heap.size → (∃ cs T, w.heap[g]? = some (.cells cs T (0, 0)) ∧ (T = 63 ∨ T = 3)) → w'.heap[g]? = w.heap[g]?) : PrOwn B w' L p := by
  refine ⟨own_congr h.code fun g hg => ?_, own_congr h.outs fun g hg => ?_⟩
  · rcases h.code.2 with ⟨e, _⟩ | ⟨a, cap, cur, e, hB, ha, _⟩
    · rw [e] at hg; cases hg
    · rw [e] at hg; cases hg
      exact hb _ hB (Array.getElem?_eq_some_iff.1 ha).1 ⟨_, _, ha, .inl rfl⟩
  · rcases h.outs.2 with ⟨e, _⟩ | ⟨a, cap, cur, e, hB, ha, _⟩
    · rw [e] at hg; cases hg
    · rw [e] at hg; cases hg
      exact hb _ hB (Array.getElem?_eq_some_iff.1 ha).1 ⟨_, _, ha, .inr rfl⟩
theorem PrOwn.base {B B' : Nat} {w : World} {L : PrV} {p : Pr} (h : PrOwn B w L p) (hb : B' ≤ B) : PrOwn B' w L p := ⟨own_base h.code hb, own_base h.outs hb⟩

/-- A unit's rows, of the call's own. -/
structure UnOwn (B : Nat) (w : World) (L : UnV) (u : Un) : Prop where
  pts : w.ownsRow B 48 2 (.slice L.P u.pts.length L.c) u.pts.length (vP u.pts)
  l : PrOwn B w L.l u.left
  r : PrOwn B w L.r u.right
  b : PrOwn B w L.b u.back
theorem UnOwn.in {B : Nat} {w : World} {L : UnV} {u : Un} (h : UnOwn B w L u) : UnIn w L u := ⟨Reads.of_own h.pts, h.l.in, h.r.in, h.b.in⟩
theorem UnOwn.congr {B : Nat} {w w' : World} {L : UnV} {u : Un} (h : UnOwn B w L u) (hb : ∀ g, B ≤ g → g < w.heap.size → (∃ cs T, w.heap[g]? = some (.cells cs T (0, 0)) ∧ (T = 63 ∨ T = 3 ∨ T = 48)) → w'.heap[g]? = w.heap[g]?) : UnOwn B w' L u := by
  have hp : ∀ g, B ≤ g → g < w.heap.size → (∃ cs T, w.heap[g]? = some (.cells cs T (0, 0)) ∧ (T = 63 ∨ T = 3)) → w'.heap[g]? = w.heap[g]? := fun g h1 h2 ⟨cs, T, h3, h4⟩ => hb g h1 h2 ⟨cs, T, h3, h4.elim .inl (fun e => .inr (.inl e))⟩
  refine ⟨own_congr h.pts fun g hg => ?_, h.l.congr hp, h.r.congr hp, h.b.congr hp⟩
  rcases h.pts.2 with ⟨e, _⟩ | ⟨a, cap, cur, e, hB, ha, _⟩
  · rw [e] at hg; cases hg
  · rw [e] at hg; cases hg
    exact hb _ hB (Array.getElem?_eq_some_iff.1 ha).1 ⟨_, _, ha, .inr (.inr rfl)⟩

def p0 : Pr := ⟨0, 0, [], []⟩
def u0 : Un := ⟨0, 0, [], p0, p0, p0⟩
def Lp0 : PrV := ⟨none, 0, none, 0⟩
def L0 : UnV := ⟨none, 0, Lp0, Lp0, Lp0⟩
/-- The cells of no unit. -/
def Z15 (a b : Int) : Array Value := #[.int .i64 a, .int .i64 b, .slice none 0 0, .int .i64 0, .int .i64 0, .slice none 0 0, .slice none 0 0, .int .i64 0, .int .i64 0, .slice none 0 0, .slice none 0 0, .int .i64 0, .int .i64 0, .slice none 0 0, .slice none 0 0]
theorem PrOwn.zero (B : Nat) (w : World) : PrOwn B w Lp0 p0 := ⟨World.ownsRow_nil _ _ _ _, World.ownsRow_nil _ _ _ _⟩
theorem UnOwn.zero (B : Nat) (w : World) (a b : Int) : UnOwn B w L0 ⟨a, b, [], p0, p0, p0⟩ := ⟨World.ownsRow_nil _ _ _ _, PrOwn.zero _ _, PrOwn.zero _ _, PrOwn.zero _ _⟩

/-- A unit that is being read. -/
structure US (w0 wr : World) (r : Nat) (A : Option Addr) (n c : Nat) (bs : List Nat) (st : Nat × Bool) (ub rb sb : Nat) (L : UnV) (u : Un) : Prop where
  rd : RdP wr r A n c bs st
  bel : Below w0.heap.size w0 wr
  ab : ∀ b o, A = some ⟨b, o, none⟩ → 0 < n → b < w0.heap.size
  rge : w0.heap.size ≤ rb
  rsb : rb < sb
  sr : sb < r
  ru : r < ub
  rblk : wr.heap[rb]? = some (.cells (Z15 0 0) 28 (0, 0))
  sblk : wr.heap[sb]? = some (.cells #[.int .i64 0, .int .i64 0] 43 (0, 0))
  ublk : wr.heap[ub]? = some (.cells (L.cells u) 28 (0, 0))
  own : UnOwn (r + 1) wr L u
section
variable {w0 wr w' : World} {r : Nat} {A : Option Addr} {n c : Nat} {bs : List Nat} {st st' : Nat × Bool} {ub rb sb : Nat} {L : UnV} {u : Un}
theorem US.ult (h : US w0 wr r A n c bs st ub rb sb L u) : ub < wr.heap.size := (Array.getElem?_eq_some_iff.1 h.ublk).1
theorem US.cell (h : US w0 wr r A n c bs st ub rb sb L u) (j : Nat) : wr.cell? ⟨ub, j, none⟩ = (L.cells u)[j]? := cell_of_row wr ub j _ 28 (0, 0) h.ublk
theorem US.fz (h : US w0 wr r A n c bs st ub rb sb L u) (j : Nat) : wr.frozen? ⟨ub, j, none⟩ = false := frozen_of_row wr ub j _ 28 h.ublk
theorem US.keep (h : US w0 wr r A n c bs st ub rb sb L u) (hg : wr.grownBy w' (some r)) (hrd : RdP w' r A n c bs st') : US w0 w' r A n c bs st' ub rb sb L u where
  rd := hrd
  bel := ⟨hg.os.trans h.bel.os, hg.tape.trans h.bel.tape, hg.output.trans h.bel.output, Nat.le_trans h.bel.size hg.size, fun k hk => (hg.block k (Nat.lt_of_lt_of_le hk h.bel.size) (fun e => by cases e; have := h.rge; have := h.rsb; have := h.sr; omega)).trans (h.bel.block k hk)⟩
  ab := h.ab
  rge := h.rge
  rsb := h.rsb
  sr := h.sr
  ru := h.ru
  rblk := blk_keep h.rblk hg (by have := h.rsb; have := h.sr; omega)
  sblk := blk_keep h.sblk hg (by have := h.sr; omega)
  ublk := blk_keep h.ublk hg (by have := h.ru; omega)
  own := h.own.congr fun g h1 h2 _ => hg.block g h2 (fun e => by cases e; omega)
theorem US.alloc (h : US w0 wr r A n c bs st ub rb sb L u) (o : Obj) : US w0 (wr.alloc o) r A n c bs st ub rb sb L u :=
  h.keep (World.grownBy.ofBelow (below_a wr o) _) (h.rd.below (below_a wr o))
/-- A store into the unit's variable. -/
theorem US.set (h : US w0 wr r A n c bs st ub rb sb L u) {L' : UnV} {u' : Un} (j : Nat) (x : Value) (hx : (L.cells u).setIfInBounds j x = L'.cells u') (ho : UnOwn (r + 1) wr L' u') : US w0 (wr.setCell ⟨ub, j, none⟩ x) r A n c bs st ub rb sb L' u' where
  rd := RdIn.moved h.rd (by simp [World.setCell]) (set_blk _ (by have := h.ru; omega)) (fun b o hA hn => set_blk _ (by have := h.ab b o hA hn; have := h.rge; have := h.rsb; have := h.sr; have := h.ru; omega))
  bel := h.bel.setCell (by have := h.rge; have := h.rsb; have := h.sr; have := h.ru; show w0.heap.size ≤ ub; omega) x
  ab := h.ab
  rge := h.rge
  rsb := h.rsb
  sr := h.sr
  ru := h.ru
  rblk := by rw [set_blk _ (by have := h.rsb; have := h.sr; have := h.ru; omega)]; exact h.rblk
  sblk := by rw [set_blk _ (by have := h.sr; have := h.ru; omega)]; exact h.sblk
  ublk := by rw [blk_set h.ublk, hx]
  own := ho.congr fun g _ _ ⟨cs, T, h3, h4⟩ => set_blk _ (fun e => by
    subst e
    rw [h.ublk] at h3
    cases h3
    rcases h4 with e | e | e <;> cases e)
/-- A point more. -/
theorem US.push (h : US w0 wr r A n c bs st ub rb sb L u) {A' : Option Addr} {c' k : Nat} {x : Int × Int} (hk : k = u.pts.length + 1) (hg : wr.grownBy w' (Value.slice L.P u.pts.length L.c).ownBlock) (ho : w'.ownsRow (r + 1) 48 2 (.slice A' k c') k (vP u.pts ++ cP x)) :
    US w0 (w'.setCell ⟨ub, 2, none⟩ (.slice A' k c')) r A n c bs st ub rb sb { L with P := A', c := c' } { u with pts := u.pts ++ [x] } := by
  subst hk
  have hrow : ∀ g, (Value.slice L.P u.pts.length L.c).ownBlock = some g → r + 1 ≤ g := fun g hg => (h.own.pts.lt g hg).1
  have hlt : ∀ g, g ≤ r → some g ≠ (Value.slice L.P u.pts.length L.c).ownBlock := fun g hg e => by have := hrow g e.symm; omega
  have hu : w'.heap[ub]? = some (Obj.cells (L.cells u) 28 (0, 0)) := by
    rw [hg.block ub h.ult (fun e => own_blk_ne h.own.pts h.ublk (by decide) e.symm)]; exact h.ublk
  have hvp : vP (u.pts ++ [x]) = vP u.pts ++ cP x := by simp [vP]
  have hpr : ∀ {Lp : PrV} {p : Pr}, PrOwn (r + 1) wr Lp p → PrOwn (r + 1) w' Lp p := fun hp => hp.congr fun g _ h2 ⟨cs, T, h3, h4⟩ => hg.block g h2 (fun e => by
    have := own_blk_ne h.own.pts h3 (by rcases h4 with e | e <;> (rw [e]; decide))
    exact this e.symm)
  -- the unit's row has grown: the old one is no longer told; the rest stands
  exact {
    rd := RdIn.moved (h.rd.grown hg (fun e => hlt r (Nat.le_refl _) e.symm) (fun b o hA hn e => hlt b (by have := h.ab b o hA hn; have := h.rge; have := h.rsb; have := h.sr; omega) e.symm)) (by simp [World.setCell]) (set_blk _ (by have := h.ru; omega)) (fun b o hA hn => set_blk _ (by have := h.ab b o hA hn; have := h.rge; have := h.rsb; have := h.sr; have := h.ru; omega))
    bel := (h.bel.grown hg h.bel.size (fun k hk => by have := hrow k hk; have := h.rge; have := h.rsb; have := h.sr; omega)).setCell (by have := h.rge; have := h.rsb; have := h.sr; have := h.ru; show w0.heap.size ≤ ub; omega) _
    ab := h.ab
    rge := h.rge
    rsb := h.rsb
    sr := h.sr
    ru := h.ru
    rblk := by
      rw [set_blk _ (by have := h.rsb; have := h.sr; have := h.ru; omega), hg.block rb (Array.getElem?_eq_some_iff.1 h.rblk).1 (hlt _ (by have := h.rsb; have := h.sr; omega))]; exact h.rblk
    sblk := by
      rw [set_blk _ (by have := h.sr; have := h.ru; omega), hg.block sb (Array.getElem?_eq_some_iff.1 h.sblk).1 (hlt _ (by have := h.sr; omega))]; exact h.sblk
    ublk := by rw [blk_set hu]; simp [UnV.cells]
    own := by
      have hset : ∀ g, (∃ cs T, w'.heap[g]? = some (Obj.cells cs T (0, 0)) ∧ (T = 63 ∨ T = 3 ∨ T = 48)) → (w'.setCell ⟨ub, 2, none⟩ (.slice A' (u.pts.length + 1) c')).heap[g]? = w'.heap[g]? := fun g ⟨cs, T, h3, h4⟩ => set_blk _ (fun e => by
        subst e
        rw [hu] at h3
        cases h3
        rcases h4 with e | e | e <;> cases e)
      have hown : UnOwn (r + 1) w' { L with P := A', c := c' } { u with pts := u.pts ++ [x] } := ⟨by rw [List.length_append, hvp]; exact ho, hpr h.own.l, hpr h.own.r, hpr h.own.b⟩
      exact hown.congr fun g _ _ hT => hset g hT }
end
end Go.Proofs.Ytcelcognmdcenaa

/-
  MEMORY: a unit that the reference's reader reads.
-/
import Derived.Test.YtcelcognmdcenaaR4
import Derived.Test.YtcelcognmdcenaaD2
import Derived.Test.YtcelcognmdcenaaG1
namespace Go.Proofs.Ytcelcognmdcenaa
open Go.RowKit

/-- A unit that is being read. -/
structure TS (w0 wr : World) (r : Nat) (A : Option Addr) (n c : Nat) (bs : List Nat) (st : Nat × Bool) (ub rb : Nat) (L : UnV) (u : Un) : Prop where
  rd : RdR wr r A n c bs st
  bel : Below w0.heap.size w0 wr
  ab : ∀ b o, A = some ⟨b, o, none⟩ → 0 < n → b < w0.heap.size
  rge : w0.heap.size ≤ rb
  rr : rb < r
  ru : r < ub
  rblk : wr.heap[rb]? = some (.cells (Z15 0 0) 28 (0, 0))
  ublk : wr.heap[ub]? = some (.cells (L.cells u) 28 (0, 0))
  own : UnOwn (r + 1) wr L u
section
variable {w0 wr w' : World} {r : Nat} {A : Option Addr} {n c : Nat} {bs : List Nat} {st st' : Nat × Bool} {ub rb : Nat} {L : UnV} {u : Un}
theorem TS.ult (h : TS w0 wr r A n c bs st ub rb L u) : ub < wr.heap.size := (Array.getElem?_eq_some_iff.1 h.ublk).1
theorem TS.cell (h : TS w0 wr r A n c bs st ub rb L u) (j : Nat) : wr.cell? ⟨ub, j, none⟩ = (L.cells u)[j]? := cell_of_row wr ub j _ 28 (0, 0) h.ublk
theorem TS.fz (h : TS w0 wr r A n c bs st ub rb L u) (j : Nat) : wr.frozen? ⟨ub, j, none⟩ = false := frozen_of_row wr ub j _ 28 h.ublk
theorem TS.keep (h : TS w0 wr r A n c bs st ub rb L u) (hg : wr.grownBy w' (some r)) (hrd : RdR w' r A n c bs st') : TS w0 w' r A n c bs st' ub rb L u where
  rd := hrd
  bel := ⟨hg.os.trans h.bel.os, hg.tape.trans h.bel.tape, hg.output.trans h.bel.output, Nat.le_trans h.bel.size hg.size, fun k hk => (hg.block k (Nat.lt_of_lt_of_le hk h.bel.size) (fun e => by cases e; have := h.rge; have := h.rr; omega)).trans (h.bel.block k hk)⟩
  ab := h.ab
  rge := h.rge
  rr := h.rr
  ru := h.ru
  rblk := blk_keep h.rblk hg (by have := h.rr; omega)
  ublk := blk_keep h.ublk hg (by have := h.ru; omega)
  own := h.own.congr fun g h1 h2 _ => hg.block g h2 (fun e => by cases e; omega)
theorem TS.alloc (h : TS w0 wr r A n c bs st ub rb L u) (o : Obj) : TS w0 (wr.alloc o) r A n c bs st ub rb L u :=
  h.keep (World.grownBy.ofBelow (below_a wr o) _) (h.rd.below (below_a wr o))
/-- A store into the unit's variable. -/
theorem TS.set (h : TS w0 wr r A n c bs st ub rb L u) {L' : UnV} {u' : Un} (j : Nat) (x : Value) (hx : (L.cells u).setIfInBounds j x = L'.cells u') (ho : UnOwn (r + 1) wr L' u') : TS w0 (wr.setCell ⟨ub, j, none⟩ x) r A n c bs st ub rb L' u' where
  rd := RdIn.moved h.rd (by simp [World.setCell]) (set_blk _ (by have := h.ru; omega)) (fun b o hA hn => set_blk _ (by have := h.ab b o hA hn; have := h.rge; have := h.rr; have := h.ru; omega))
  bel := h.bel.setCell (by have := h.rge; have := h.rr; have := h.ru; show w0.heap.size ≤ ub; omega) x
  ab := h.ab
  rge := h.rge
  rr := h.rr
  ru := h.ru
  rblk := by rw [set_blk _ (by have := h.rr; have := h.ru; omega)]; exact h.rblk
  ublk := by rw [blk_set h.ublk, hx]
  own := ho.congr fun g _ _ ⟨cs, T, h3, h4⟩ => set_blk _ (fun e => by
    subst e
    rw [h.ublk] at h3
    cases h3
    rcases h4 with e | e | e <;> cases e)
/-- A point more. -/
theorem TS.push (h : TS w0 wr r A n c bs st ub rb L u) {A' : Option Addr} {c' k : Nat} {x : Int × Int} (hk : k = u.pts.length + 1) (hg : wr.grownBy w' (Value.slice L.P u.pts.length L.c).ownBlock) (ho : w'.ownsRow (r + 1) 48 2 (.slice A' k c') k (vP u.pts ++ cP x)) :
    TS w0 (w'.setCell ⟨ub, 2, none⟩ (.slice A' k c')) r A n c bs st ub rb { L with P := A', c := c' } { u with pts := u.pts ++ [x] } := by
  subst hk
  have hrow : ∀ g, (Value.slice L.P u.pts.length L.c).ownBlock = some g → r + 1 ≤ g := fun g hg => (h.own.pts.lt g hg).1
  have hlt : ∀ g, g ≤ r → some g ≠ (Value.slice L.P u.pts.length L.c).ownBlock := fun g hg e => by have := hrow g e.symm; omega
  have hu : w'.heap[ub]? = some (Obj.cells (L.cells u) 28 (0, 0)) := by
    rw [hg.block ub h.ult (fun e => own_blk_ne h.own.pts h.ublk (by decide) e.symm)]; exact h.ublk
  have hvp : vP (u.pts ++ [x]) = vP u.pts ++ cP x := by simp [vP]
  have hpr : ∀ {Lp : PrV} {p : Pr}, PrOwn (r + 1) wr Lp p → PrOwn (r + 1) w' Lp p := fun hp => hp.congr fun g _ h2 ⟨cs, T, h3, h4⟩ => hg.block g h2 (fun e => by
    have := own_blk_ne h.own.pts h3 (by rcases h4 with e | e <;> (rw [e]; decide))
    exact this e.symm)
  -- the unit's row has grown: the old one is no longer told; the rest stands
  exact {
    rd := RdIn.moved (h.rd.grown hg (fun e => hlt r (Nat.le_refl _) e.symm) (fun b o hA hn e => hlt b (by have := h.ab b o hA hn; have := h.rge; have := h.rr; omega) e.symm)) (by simp [World.setCell]) (set_blk _ (by have := h.ru; omega)) (fun b o hA hn => set_blk _ (by have := h.ab b o hA hn; have := h.rge; have := h.rr; have := h.ru; omega))
    bel := (h.bel.grown hg h.bel.size (fun k hk => by have := hrow k hk; have := h.rge; have := h.rr; omega)).setCell (by have := h.rge; have := h.rr; have := h.ru; show w0.heap.size ≤ ub; omega) _
    ab := h.ab
    rge := h.rge
    rr := h.rr
    ru := h.ru
    rblk := by
      rw [set_blk _ (by have := h.rr; have := h.ru; omega), hg.block rb (Array.getElem?_eq_some_iff.1 h.rblk).1 (hlt _ (by have := h.rr; omega))]; exact h.rblk
    ublk := by rw [blk_set hu]; simp [UnV.cells]
    own := by
      have hset : ∀ g, (∃ cs T, w'.heap[g]? = some (Obj.cells cs T (0, 0)) ∧ (T = 63 ∨ T = 3 ∨ T = 48)) → (w'.setCell ⟨ub, 2, none⟩ (.slice A' (u.pts.length + 1) c')).heap[g]? = w'.heap[g]? := fun g ⟨cs, T, h3, h4⟩ => set_blk _ (fun e => by
        subst e
        rw [hu] at h3
        cases h3
        rcases h4 with e | e | e <;> cases e)
      have hown : UnOwn (r + 1) w' { L with P := A', c := c' } { u with pts := u.pts ++ [x] } := ⟨by rw [List.length_append, hvp]; exact ho, hpr h.own.l, hpr h.own.r, hpr h.own.b⟩
      exact hown.congr fun g _ _ hT => hset g hT }
variable {L' : UnV} {u' : Un}
/-- The unit's variable is written. -/
theorem TS.changed (h : TS w0 wr r A n c bs st ub rb L u) (hos : w'.os = wr.os ∧ w'.tape = wr.tape ∧ w'.output = wr.output) (hs : w'.heap.size = wr.heap.size) (hf : ∀ g, g ≠ ub → w'.heap[g]? = wr.heap[g]?) (hu : w'.heap[ub]? = some (.cells (L'.cells u') 28 (0, 0))) (ho : UnOwn (r + 1) wr L' u') : TS w0 w' r A n c bs st ub rb L' u' where
  rd := RdIn.moved h.rd (by omega) (hf _ (by have := h.ru; omega)) (fun b o hA hn => hf _ (by have := h.ab b o hA hn; have := h.rge; have := h.rr; have := h.ru; omega))
  bel := ⟨hos.1.trans h.bel.os, hos.2.1.trans h.bel.tape, hos.2.2.trans h.bel.output, by have := h.bel.size; omega, fun k hk => (hf k (by have := h.rge; have := h.rr; have := h.ru; omega)).trans (h.bel.block k hk)⟩
  ab := h.ab
  rge := h.rge
  rr := h.rr
  ru := h.ru
  rblk := by rw [hf _ (by have := h.rr; have := h.ru; omega)]; exact h.rblk
  ublk := hu
  own := ho.congr fun g _ _ ⟨cs, T, h3, h4⟩ => hf g (fun e => by
    subst e
    rw [h.ublk] at h3
    cases h3
    rcases h4 with e | e | e <;> cases e)
theorem TS.setPr (h : TS w0 wr r A n c bs st ub rb L u) (k : Nat) (a0 a1 a2 a3 : Value) (hx : ((((L.cells u).setIfInBounds k a0).setIfInBounds (k + 1) a1).setIfInBounds (k + 2) a2).setIfInBounds (k + 3) a3 = L'.cells u') (ho : UnOwn (r + 1) wr L' u') :
    TS w0 ((((wr.setCell ⟨ub, k, none⟩ a0).setCell ⟨ub, k + 1, none⟩ a1).setCell ⟨ub, k + 2, none⟩ a2).setCell ⟨ub, k + 3, none⟩ a3) r A n c bs st ub rb L' u' :=
  h.changed ⟨rfl, rfl, rfl⟩ (by simp [World.setCell]) (fun g hg => by rw [set_blk _ hg, set_blk _ hg, set_blk _ hg, set_blk _ hg])
    (by rw [blk_set (blk_set (blk_set (blk_set h.ublk _ _) _ _) _ _) _ _, hx]) ho
end
/-- Ahead of the unit. -/
structure ES (w0 wr : World) (r : Nat) (A : Option Addr) (n c : Nat) (bs : List Nat) (st : Nat × Bool) (rb mb : Nat) : Prop where
  rd : RdR wr r A n c bs st
  bel : Below w0.heap.size w0 wr
  ab : ∀ b o, A = some ⟨b, o, none⟩ → 0 < n → b < w0.heap.size
  rge : w0.heap.size ≤ rb
  rr : rb < r
  rm : r < mb
  rblk : wr.heap[rb]? = some (.cells (Z15 0 0) 28 (0, 0))
  mblk : wr.heap[mb]? = some (.cells #[.int .i64 65, .int .i64 78, .int .i64 86, .int .i64 49] 85 (0, 0))
section
variable {w0 wr w' : World} {r : Nat} {A : Option Addr} {n c : Nat} {bs : List Nat} {st st' : Nat × Bool} {rb mb ub : Nat} {L L' : UnV} {u u' : Un}
theorem ES.keep (h : ES w0 wr r A n c bs st rb mb) (hg : wr.grownBy w' (some r)) (hrd : RdR w' r A n c bs st') : ES w0 w' r A n c bs st' rb mb where
  rd := hrd
  bel := ⟨hg.os.trans h.bel.os, hg.tape.trans h.bel.tape, hg.output.trans h.bel.output, Nat.le_trans h.bel.size hg.size, fun k hk => (hg.block k (Nat.lt_of_lt_of_le hk h.bel.size) (fun e => by cases e; have := h.rge; have := h.rr; omega)).trans (h.bel.block k hk)⟩
  ab := h.ab
  rge := h.rge
  rr := h.rr
  rm := h.rm
  rblk := blk_keep h.rblk hg (by have := h.rr; omega)
  mblk := blk_keep h.mblk hg (by have := h.rm; omega)
theorem ES.cell (h : ES w0 wr r A n c bs st rb mb) {j : Nat} (hj : j < 4) : wr.cell? ⟨mb, j, none⟩ = some (.int .i64 (mkB j : Nat)) := by
  rw [cell_of_row wr mb j _ 85 (0, 0) h.mblk]
  match j, hj with
  | 0, _ => rfl
  | 1, _ => rfl
  | 2, _ => rfl
  | 3, _ => rfl
/-- The world ahead of the mark's loop. -/
abbrev esW (w : World) (A : Option Addr) (n c : Nat) : World := (((w.alloc (.cells (Z15 0 0) 28)).alloc (.cells #[.slice A n c, .int .i64 0, .int .i64 (-1)] 84))).alloc (.cells #[.int .i64 65, .int .i64 78, .int .i64 86, .int .i64 49] 85)
theorem ES.init {w : World} (h : Reads w 1 (.slice A n c) n (vB bs)) (hb : ∀ x ∈ bs, x < 256) (ab : ∀ b o, A = some ⟨b, o, none⟩ → 0 < n → b < w.heap.size) :
    ES w (esW w A n c) (w.heap.size + 1) A n c bs (0, false) w.heap.size (w.heap.size + 1 + 1) := by
  have hb0 : Below w.heap.size w (((w.alloc (.cells (Z15 0 0) 28)).alloc (.cells #[.slice A n c, .int .i64 0, .int .i64 (-1)] 84)).alloc (.cells #[.int .i64 65, .int .i64 78, .int .i64 86, .int .i64 49] 85)) := ((below_a w _).alloc (by simp) _).alloc (by simp; omega) _
  have e1 : (w.alloc (.cells (Z15 0 0) 28)).heap.size = w.heap.size + 1 := by simp
  have e2 : ((w.alloc (.cells (Z15 0 0) 28)).alloc (.cells #[.slice A n c, .int .i64 0, .int .i64 (-1)] 84)).heap.size = w.heap.size + 1 + 1 := by simp
  have h1 := heap_alloc_new w (.cells (Z15 0 0) 28)
  have h2 := heap_alloc_new (w.alloc (.cells (Z15 0 0) 28)) (.cells #[.slice A n c, .int .i64 0, .int .i64 (-1)] 84)
  have h3 := heap_alloc_new ((w.alloc (.cells (Z15 0 0) 28)).alloc (.cells #[.slice A n c, .int .i64 0, .int .i64 (-1)] 84)) (.cells #[.int .i64 65, .int .i64 78, .int .i64 86, .int .i64 49] 85)
  rw [e1] at h2
  rw [e2] at h3
  have g1 : ((((w.alloc (.cells (Z15 0 0) 28)).alloc (.cells #[.slice A n c, .int .i64 0, .int .i64 (-1)] 84)).alloc (.cells #[.int .i64 65, .int .i64 78, .int .i64 86, .int .i64 49] 85))).heap[w.heap.size + 1]? = some (.cells #[.slice A n c, .int .i64 0, .int .i64 (-1)] 84) := by
    rw [Below.heap_alloc _ _ _ (by rw [e2]; omega)]; exact h2
  have g0 : ((((w.alloc (.cells (Z15 0 0) 28)).alloc (.cells #[.slice A n c, .int .i64 0, .int .i64 (-1)] 84)).alloc (.cells #[.int .i64 65, .int .i64 78, .int .i64 86, .int .i64 49] 85))).heap[w.heap.size]? = some (.cells (Z15 0 0) 28) := by
    rw [Below.heap_alloc _ _ _ (by rw [e2]; omega), Below.heap_alloc _ _ _ (by rw [e1]; omega)]; exact h1
  exact {
    rd := ⟨g1, h.below hb0, Nat.zero_le _, fun b o hA hn => by have := ab b o hA hn; omega, hb⟩
    bel := hb0
    ab := ab
    rge := Nat.le_refl _
    rr := by omega
    rm := by omega
    rblk := g0
    mblk := h3 }
theorem ES.start (h : ES w0 wr r A n c bs st rb mb) : TS w0 (wr.alloc (.cells (Z15 0 0) 28)) r A n c bs st wr.heap.size rb L0 ⟨0, 0, [], p0, p0, p0⟩ where
  rd := h.rd.below (below_a _ _)
  bel := h.bel.alloc h.bel.size _
  ab := h.ab
  rge := h.rge
  rr := h.rr
  ru := h.rd.rlt
  rblk := by rw [Below.heap_alloc _ _ _ (Array.getElem?_eq_some_iff.1 h.rblk).1]; exact h.rblk
  ublk := heap_alloc_new wr _
  own := UnOwn.zero _ _ _ _
/-- A new block that is another's. -/
theorem TS.below (h : TS w0 wr r A n c bs st ub rb L u) (hb : Below wr.heap.size wr w') : TS w0 w' r A n c bs st ub rb L u :=
  h.keep (World.grownBy.ofBelow hb _) (h.rd.below hb)
end
set_option maxHeartbeats 1000000 in
theorem dec_ret24 {W : World} {rb : Nat} {a0 a1 a2 a3 a4 a5 a6 a7 a8 a9 a10 a11 a12 a13 a14 v : Value} {t : Array Value} (hr : W.heap[rb]? = some (.cells #[a0, a1, a2, a3, a4, a5, a6, a7, a8, a9, a10, a11, a12, a13, a14] 28 (0, 0))) (h2 : t.getD 2 undef = .pointer (some ⟨rb, 0, none⟩)) (h3 : t.getD 3 undef = v) :
    (results Try.f24 t).run Try.prog W = .ok (.tuple #[.agg #[a0, a1, a2, a3, a4, a5, a6, a7, a8, a9, a10, a11, a12, a13, a14], v]) W := by
  have c0 : W.cell? ⟨rb, 0, none⟩ = some a0 := cell_of_row W rb 0 _ 28 (0, 0) hr
  have c1 : W.cell? ⟨rb, 1, none⟩ = some a1 := cell_of_row W rb 1 _ 28 (0, 0) hr
  have c2 : W.cell? ⟨rb, 2, none⟩ = some a2 := cell_of_row W rb 2 _ 28 (0, 0) hr
  have c3 : W.cell? ⟨rb, 3, none⟩ = some a3 := cell_of_row W rb 3 _ 28 (0, 0) hr
  have c4 : W.cell? ⟨rb, 4, none⟩ = some a4 := cell_of_row W rb 4 _ 28 (0, 0) hr
  have c5 : W.cell? ⟨rb, 5, none⟩ = some a5 := cell_of_row W rb 5 _ 28 (0, 0) hr
  have c6 : W.cell? ⟨rb, 6, none⟩ = some a6 := cell_of_row W rb 6 _ 28 (0, 0) hr
  have c7 : W.cell? ⟨rb, 7, none⟩ = some a7 := cell_of_row W rb 7 _ 28 (0, 0) hr
  have c8 : W.cell? ⟨rb, 8, none⟩ = some a8 := cell_of_row W rb 8 _ 28 (0, 0) hr
  have c9 : W.cell? ⟨rb, 9, none⟩ = some a9 := cell_of_row W rb 9 _ 28 (0, 0) hr
  have c10 : W.cell? ⟨rb, 10, none⟩ = some a10 := cell_of_row W rb 10 _ 28 (0, 0) hr
  have c11 : W.cell? ⟨rb, 11, none⟩ = some a11 := cell_of_row W rb 11 _ 28 (0, 0) hr
  have c12 : W.cell? ⟨rb, 12, none⟩ = some a12 := cell_of_row W rb 12 _ 28 (0, 0) hr
  have c13 : W.cell? ⟨rb, 13, none⟩ = some a13 := cell_of_row W rb 13 _ 28 (0, 0) hr
  have c14 : W.cell? ⟨rb, 14, none⟩ = some a14 := cell_of_row W rb 14 _ 28 (0, 0) hr
  clear hr
  simp only [Array.getD_eq_getD_getElem?] at h2 h3
  simp [results, Try.results24, go_sem, h2, h3, c0, c1, c2, c3, c4, c5, c6, c7, c8, c9, c10, c11, c12, c13, c14]
/-- What the reference's Decode answers. -/
def DecOut24 (w : World) (bs : List Nat) (e : Ending) (w' : World) : Prop :=
  Below w.heap.size w w' ∧ match dec bs with
    | .ok u => ∃ L, e = .returned (.tuple #[L.val u, .int .i64 (-1)]) ∧ UnIn w' L u
    | .error q => e = .returned (.tuple #[L0.val u0, .int .i64 (q : Nat)])
theorem fin24 {B : Nat} {w0 w : World} {rb : Nat} {a0 a1 a2 a3 a4 a5 a6 a7 a8 a9 a10 a11 a12 a13 a14 b0 b1 b2 b3 b4 b5 b6 b7 b8 b9 b10 b11 b12 b13 b14 : Value} (hb : Below B w0 w) (h1 : B ≤ rb) (hr : w.heap[rb]? = some (.cells #[b0, b1, b2, b3, b4, b5, b6, b7, b8, b9, b10, b11, b12, b13, b14] 28 (0, 0))) :
    Below B w0 (set15 w rb a0 a1 a2 a3 a4 a5 a6 a7 a8 a9 a10 a11 a12 a13 a14) ∧ (set15 w rb a0 a1 a2 a3 a4 a5 a6 a7 a8 a9 a10 a11 a12 a13 a14).heap[rb]? = some (.cells #[a0, a1, a2, a3, a4, a5, a6, a7, a8, a9, a10, a11, a12, a13, a14] 28 (0, 0)) ∧ ∀ g, g ≠ rb → (set15 w rb a0 a1 a2 a3 a4 a5 a6 a7 a8 a9 a10 a11 a12 a13 a14).heap[g]? = w.heap[g]? :=
  ⟨set15_below hb h1, set15_blk hr, fun _ hg => set15_far hg⟩
/-- The check's two bytes, as the reference asks them. -/
theorem Out.chk {bs : List Nat} {s s1 s2 : Nat × Bool} {K : Nat} {y1 y2 : Int} {a0 a1 : Int} (e0 : a0 = ((K / 256 : Nat) : Int)) (e1 : a1 = ((K % 256 : Nat) : Int)) (h1 : Out (rNum a0 a0) bs s y1 s1) (h2 : Out (rNum a1 a1) bs s1 y2 s2) : Out (rChk K) bs s (y1, y2) s2 := by
  subst e0 e1
  exact h1.seq (r2 := fun _ => rNum ((K % 256 : Nat) : Int) ((K % 256 : Nat) : Int)) h2
end Go.Proofs.Ytcelcognmdcenaa

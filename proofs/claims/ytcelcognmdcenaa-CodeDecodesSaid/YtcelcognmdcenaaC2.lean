/-
  WALKS: the program's reader: a program.
-/
import Derived.Test.YtcelcognmdcenaaC1
import Derived.Deep.RegionHeld3
import Derived.Deep.RegionLaw
import Derived.Deep.CutRange
import Derived.Deep.CutBlock
namespace Go.Proofs.Ytcelcognmdcenaa
open Go.RowKit

section
variable {w0 wr w' : World} {r : Nat} {A : Option Addr} {n c : Nat} {bs : List Nat} {st st' : Nat × Bool} {pb rb : Nat} {ins regs : Int} {cv ov : Value} {code : List Ins} {outs : List Int}
theorem PS.setRegs (h : PS w0 wr r A n c bs st pb rb ins regs cv ov code outs) (x : Int) : PS w0 (wr.setCell ⟨pb, 1, none⟩ (.int .i64 x)) r A n c bs st pb rb ins x cv ov code outs where
  rd := ⟨by rw [set_blk _ (fun e => h.prn e.symm)]; exact h.rd.blk, h.rd.bytes.far fun b o hA hn => ⟨fun e => by have := h.ab b o (by cases hA; rfl) hn; have := h.pge; omega, trivial⟩, h.rd.le, h.rd.sep, h.rd.lt⟩
  r0 := h.r0
  ab := h.ab
  gr := ⟨h.gr.os, h.gr.tape, h.gr.output, by simpa [World.setCell] using h.gr.size, fun k hk hne => by
    rw [set_blk _ (by have := h.pge; omega)]; exact h.gr.block k hk hne⟩
  pge := h.pge
  pblk := by rw [blk_set h.pblk]; rfl
  rge := h.rge
  rpb := h.rpb
  rblk := by rw [set_blk _ h.rpb]; exact h.rblk
  code := set_own h.code _ (fun e => own_blk_ne h.code h.pblk (by decide) e)
  outs := set_own h.outs _ (fun e => own_blk_ne h.outs h.pblk (by decide) e)
theorem PS.start {x : Int} (h : RdP w' r A n c bs st) (hg : (w0.alloc (.cells #[.int .i64 0, .int .i64 0, .slice none 0 0, .slice none 0 0] 26)).grownBy w' (some r)) (hr : r < w0.heap.size) (ab : ∀ b o, A = some ⟨b, o, none⟩ → 0 < n → b < w0.heap.size) :
    PS w0 (w'.alloc (.cells #[.int .i64 x, .int .i64 0, .slice none 0 0, .slice none 0 0] 26)) r A n c bs st w'.heap.size w0.heap.size x 0 (.slice none 0 0) (.slice none 0 0) [] [] := by
  have hs := hg.size
  simp at hs
  have hg0 : w0.grownBy w' (some r) := (World.grownBy.ofBelow (below_a w0 _) _).trans' hg
  exact {
    rd := h.below (below_a w' _)
    r0 := hr
    ab := ab
    gr := hg0.trans' (World.grownBy.ofBelow (below_a w' _) _)
    pge := hg0.size
    pblk := heap_alloc_new w' _
    rge := Nat.le_refl _
    rpb := by omega
    rblk := by
      rw [Below.heap_alloc _ _ _ (by omega), hg.block _ (by simp) (fun e => by cases e; omega), heap_alloc_new]
    code := World.ownsRow_nil _ _ _ _
    outs := World.ownsRow_nil _ _ _ _ }
end

theorem blk_keep {w w' : World} {r b : Nat} {o : Obj} (h : w.heap[b]? = some o) (hg : w.grownBy w' (some r)) (hne : b ≠ r) : w'.heap[b]? = some o := by
  rw [hg.block b (Array.getElem?_eq_some_iff.1 h).1 (fun e => hne (by cases e; rfl))]; exact h
/-- An instruction's variable. -/
abbrev Zi : Array Value := #[.int .i64 0, .int .i64 0, .int .i64 0, .int .i64 0, .int .i64 0]
theorem iblk_facts {w : World} {ib : Nat} {a0 a1 a2 a3 a4 : Value} (h : w.heap[ib]? = some (.cells #[a0, a1, a2, a3, a4] 63 (0, 0))) :
    w.cell? ⟨ib, 0, none⟩ = some a0 ∧ w.cell? ⟨ib, 1, none⟩ = some a1 ∧ w.cell? ⟨ib, 2, none⟩ = some a2 ∧ w.cell? ⟨ib, 3, none⟩ = some a3 ∧ w.cell? ⟨ib, 4, none⟩ = some a4 ∧ ∀ j, w.frozen? ⟨ib, j, none⟩ = false :=
  ⟨cell_of_row w ib 0 _ 63 (0, 0) h, cell_of_row w ib 1 _ 63 (0, 0) h, cell_of_row w ib 2 _ 63 (0, 0) h, cell_of_row w ib 3 _ 63 (0, 0) h, cell_of_row w ib 4 _ 63 (0, 0) h, fun j => frozen_of_row w ib j _ 63 h⟩

/-- Five stores. -/
abbrev set5 (w : World) (ib : Nat) (a0 a1 a2 a3 a4 : Value) : World := ((((w.setCell ⟨ib, 0, none⟩ a0).setCell ⟨ib, 1, none⟩ a1).setCell ⟨ib, 2, none⟩ a2).setCell ⟨ib, 3, none⟩ a3).setCell ⟨ib, 4, none⟩ a4
theorem set5_far {w : World} {ib b : Nat} {a0 a1 a2 a3 a4 : Value} (h : b ≠ ib) : (set5 w ib a0 a1 a2 a3 a4).heap[b]? = w.heap[b]? := by
  rw [set_blk _ h, set_blk _ h, set_blk _ h, set_blk _ h, set_blk _ h]
theorem set5_cell {w : World} {ib b j : Nat} {a0 a1 a2 a3 a4 u : Value} (hc : w.cell? ⟨b, j, none⟩ = some u) (h : b ≠ ib) : (set5 w ib a0 a1 a2 a3 a4).cell? ⟨b, j, none⟩ = some u :=
  (World.cell?_of_block (w := w) (a := ⟨b, j, none⟩) (set5_far h)).trans hc
theorem set5_blk {w : World} {ib : Nat} {a0 a1 a2 a3 a4 b0 b1 b2 b3 b4 : Value} (h : w.heap[ib]? = some (.cells #[b0, b1, b2, b3, b4] 63 (0, 0))) : (set5 w ib a0 a1 a2 a3 a4).heap[ib]? = some (.cells #[a0, a1, a2, a3, a4] 63 (0, 0)) := by
  have h0 : (w.setCell ⟨ib, 0, none⟩ a0).heap[ib]? = some (.cells #[a0, b1, b2, b3, b4] 63 (0, 0)) := blk_set h 0 a0
  have h1 : ((w.setCell ⟨ib, 0, none⟩ a0).setCell ⟨ib, 1, none⟩ a1).heap[ib]? = some (.cells #[a0, a1, b2, b3, b4] 63 (0, 0)) := blk_set h0 1 a1
  have h2 : (((w.setCell ⟨ib, 0, none⟩ a0).setCell ⟨ib, 1, none⟩ a1).setCell ⟨ib, 2, none⟩ a2).heap[ib]? = some (.cells #[a0, a1, a2, b3, b4] 63 (0, 0)) := blk_set h1 2 a2
  have h3 : ((((w.setCell ⟨ib, 0, none⟩ a0).setCell ⟨ib, 1, none⟩ a1).setCell ⟨ib, 2, none⟩ a2).setCell ⟨ib, 3, none⟩ a3).heap[ib]? = some (.cells #[a0, a1, a2, a3, b4] 63 (0, 0)) := blk_set h2 3 a3
  exact blk_set h3 4 a4
theorem set5_size {w : World} {ib : Nat} {a0 a1 a2 a3 a4 : Value} : (set5 w ib a0 a1 a2 a3 a4).heap.size = w.heap.size := by simp [World.setCell]
theorem heap_new_drew (w : World) (o : Obj) : ((w.alloc o).drew).heap[w.heap.size]? = some o := heap_alloc_new w o
theorem _root_.Go.World.grownBy.setNew {w0 w : World} {p : Addr} {u : Value} {row : Option Nat} (hg : w0.grownBy w row) (hib : w0.heap.size ≤ p.block) : w0.grownBy (w.setCell p u) row :=
  ⟨hg.os, hg.tape, hg.output, by simpa [World.setCell] using hg.size, fun k hk hne => by rw [Below.heap_setCell _ _ _ _ (by omega)]; exact hg.block k hk hne⟩
theorem set5_grown {w0 w : World} {ib : Nat} {a0 a1 a2 a3 a4 : Value} {row : Option Nat} (hg : w0.grownBy w row) (hib : w0.heap.size ≤ ib) : w0.grownBy (set5 w ib a0 a1 a2 a3 a4) row :=
  ((((hg.setNew hib).setNew hib).setNew hib).setNew hib).setNew hib
theorem RdIn.moved {w w' : World} {T : TypeId} {r : Nat} {A : Option Addr} {n c : Nat} {bs : List Nat} {v1 v2 : Value} {st : Nat × Bool} (h : RdIn w T r A n c bs v1 v2 st) (hs : w.heap.size ≤ w'.heap.size) (hr : w'.heap[r]? = w.heap[r]?) (hA : ∀ b o, A = some ⟨b, o, none⟩ → 0 < n → w'.heap[b]? = w.heap[b]?) : RdIn w' T r A n c bs v1 v2 st := by
  refine ⟨by rw [hr]; exact h.blk, ?_, h.le, h.sep, h.lt⟩
  obtain ⟨h1, h2, A', c', h3, h4, h5⟩ := h.bytes
  refine ⟨h1, h2, A', c', h3, h4, fun hn => ?_⟩
  obtain ⟨b, o, h6, h7, h8⟩ := h5 hn
  subst h6
  cases h3
  exact ⟨b, o, rfl, Nat.lt_of_lt_of_le h7 hs, fun j u hu => by rw [World.cell?_of_block (w := w) (a := ⟨b, o + j, none⟩) (hA b o rfl hn)]; exact h8 j u hu⟩
theorem set5_rd {w : World} {r : Nat} {A : Option Addr} {n c : Nat} {bs : List Nat} {st : Nat × Bool} {ib B : Nat} {a0 a1 a2 a3 a4 : Value} (h : RdP w r A n c bs st) (hr : r < B) (hB : B ≤ ib) (ab : ∀ b o, A = some ⟨b, o, none⟩ → 0 < n → b < B) : RdP (set5 w ib a0 a1 a2 a3 a4) r A n c bs st :=
  RdIn.moved h (by rw [set5_size]; exact Nat.le_refl _) (set5_far (by omega)) (fun b o hA hn => set5_far (by have := ab b o hA hn; omega))

/-- An instruction that is being read: its variable's block, the world. -/
structure IS (wr wx : World) (r : Nat) (A : Option Addr) (n c : Nat) (bs : List Nat) (st : Nat × Bool) (ib : Nat) (i : Ins) : Prop where
  rd : RdP wx r A n c bs st
  gr : wr.grownBy wx (some r)
  ige : wr.heap.size ≤ ib
  iblk : wx.heap[ib]? = some (.cells #[.int .i64 i.op, .int .i64 i.to, .int .i64 i.a, .int .i64 i.b, .int .i64 i.c] 63 (0, 0))

theorem Out.zero {lo : Int} {bs : List Nat} {s s' : Nat × Bool} {x : Int} (h : Out (rNum lo lo) bs s x s') : Out (rNum lo lo) bs s lo s' := by
  obtain ⟨p, wr⟩ := s
  cases wr with
  | true => exact h
  | false =>
    unfold Out at h ⊢
    simp only at h ⊢
    unfold rNum andR at h ⊢
    cases e : one (fun x => decide (lo ≤ (x : Int) ∧ (x : Int) ≤ lo)) bs p with
    | error q => rw [e] at h; exact h
    | ok z =>
      obtain ⟨y, q⟩ := z
      rw [e] at h
      simp only at h ⊢
      have hy := ((good_one _).sound _ _ _ _ e).1
      have hy := of_decide_eq_true hy
      exact ⟨by omega, h.2⟩
theorem Out.ins {regs : Int} {bs : List Nat} {st s5 s6 s7 s8 s9 : Nat × Bool} {op dst a b c : Int} (h5 : Out (rNum 1 8) bs st op s5) (h6 : Out (rNum 0 (regs - 1)) bs s5 dst s6) (h7 : Out (rNum 0 (regs - 1)) bs s6 a s7) (h8 : Out (rNum 0 (if op = 3 ∨ op = 4 then regs - 1 else 0)) bs s7 b s8) (h9 : Out (rConst op) bs s8 c s9) :
    Out (rIns regs) bs st ⟨op, dst, a, b, c⟩ s9 :=
  (h5.seq (r2 := fun op => seqR (rNum 0 (regs - 1)) fun _ => seqR (rNum 0 (regs - 1)) fun _ => seqR (rNum 0 (if op = 3 ∨ op = 4 then regs - 1 else 0)) fun _ => rConst op) (h6.seq (r2 := fun _ => seqR (rNum 0 (regs - 1)) fun _ => seqR (rNum 0 (if op = 3 ∨ op = 4 then regs - 1 else 0)) fun _ => rConst op) (h7.seq (r2 := fun _ => seqR (rNum 0 (if op = 3 ∨ op = 4 then regs - 1 else 0)) fun _ => rConst op) (h8.seq (r2 := fun _ => rConst op) h9)))).map (fun v => (⟨v.1, v.2.1, v.2.2.1, v.2.2.2.1, v.2.2.2.2⟩ : Ins))
theorem IS.keep {wr wx w' : World} {r : Nat} {A : Option Addr} {n c : Nat} {bs : List Nat} {st st' : Nat × Bool} {ib : Nat} {i : Ins} (h : IS wr wx r A n c bs st ib i) (hr : r < wr.heap.size) (hg : wx.grownBy w' (some r)) (hrd : RdP w' r A n c bs st') : IS wr w' r A n c bs st' ib i :=
  ⟨hrd, h.gr.trans' hg, h.ige, blk_keep h.iblk hg (by have := h.ige; omega)⟩
theorem IS.set {wr wx : World} {r : Nat} {A : Option Addr} {n c : Nat} {bs : List Nat} {st : Nat × Bool} {ib : Nat} {i i' : Ins} (h : IS wr wx r A n c bs st ib i) (hr : r < wr.heap.size) (ab : ∀ b o, A = some ⟨b, o, none⟩ → 0 < n → b < wr.heap.size) (j : Nat) (u : Value)
    (hu : (#[.int .i64 i.op, .int .i64 i.to, .int .i64 i.a, .int .i64 i.b, .int .i64 i.c] : Array Value).setIfInBounds j u = #[.int .i64 i'.op, .int .i64 i'.to, .int .i64 i'.a, .int .i64 i'.b, .int .i64 i'.c]) : IS wr (wx.setCell ⟨ib, j, none⟩ u) r A n c bs st ib i' :=
  ⟨RdIn.moved h.rd (by simp [World.setCell]) (set_blk _ (by have := h.ige; omega)) (fun b o hA hn => set_blk _ (by have := ab b o hA hn; have := h.ige; omega)),
    h.gr.setNew h.ige, h.ige, by rw [blk_set h.iblk, hu]⟩
theorem cI_one (x : Ins) : ∀ u ∈ cI x, u.oneCell' = true := by
  intro u hu
  simp only [cI, List.mem_cons, List.not_mem_nil, or_false] at hu
  rcases hu with rfl | rfl | rfl | rfl | rfl <;> rfl
theorem cI_cells (w : World) (x : Ins) : ∀ j u, (cI x)[j]? = some u → (w.alloc (.cells #[.int .i64 x.op, .int .i64 x.to, .int .i64 x.a, .int .i64 x.b, .int .i64 x.c] 63)).cell? ⟨w.heap.size, j, none⟩ = some u := by
  intro j u hu
  rw [cell_of_row _ w.heap.size j _ 63 (0, 0) (heap_alloc_new w _), ← hu]
  simp [cI]

theorem Out.pr {bs : List Nat} {s s1 s2 s4 s5 s6 s7 : Nat × Bool} {x1 x2 x6 : Int} {N : Nat} {code : List Ins} {outs : List Int} (h1 : Out (rNum 1 128) bs s x1 s1) (h2 : Out (rNum x1 128) bs s1 x2 s2) (h3 : Out rCount bs s2 N s4) (h4 : Out (rMany (rIns x2) N) bs s4 code s5) (h5 : Out (rNum 1 128) bs s5 x6 s6) (h6 : Out (rMany (rNum 0 (x2 - 1)) x6.toNat) bs s6 outs s7) :
    Out rPr bs s ⟨x1, x2, code, outs⟩ s7 := by
  have e5 := h5.seq (r2 := fun m => rMany (rNum 0 (x2 - 1)) m.toNat) h6
  have e4 := h4.seq (r2 := fun _ => seqR (rNum 1 128) fun m => rMany (rNum 0 (x2 - 1)) m.toNat) e5
  have e3 := h3.seq (r2 := fun n => seqR (rMany (rIns x2) n) fun _ => seqR (rNum 1 128) fun m => rMany (rNum 0 (x2 - 1)) m.toNat) e4
  have e2 := h2.seq (r2 := fun regs => seqR rCount fun n => seqR (rMany (rIns regs) n) fun _ => seqR (rNum 1 128) fun m => rMany (rNum 0 (regs - 1)) m.toNat) e3
  have e1 := h1.seq (r2 := fun ins => seqR (rNum ins 128) fun regs => seqR rCount fun n => seqR (rMany (rIns regs) n) fun _ => seqR (rNum 1 128) fun m => rMany (rNum 0 (regs - 1)) m.toNat) e2
  exact e1.map (fun v => (⟨v.1, v.2.1, v.2.2.2.1, v.2.2.2.2.2⟩ : Pr))
/-- A program's rows, of the call's own. -/
structure PrOwn (B : Nat) (w : World) (L : PrV) (p : Pr) : Prop where
  code : w.ownsRow B 63 5 (.slice L.A p.code.length L.c) p.code.length (vC p.code)
  outs : w.ownsRow B 3 1 (.slice L.B p.outs.length L.d) p.outs.length (vI p.outs)
theorem PrOwn.in {B : Nat} {w : World} {L : PrV} {p : Pr} (h : PrOwn B w L p) : PrIn w L p := ⟨Reads.of_own h.code, Reads.of_own h.outs⟩
/-- What reading a program answers. -/
def PrOut (w : World) (r : Nat) (A : Option Addr) (n c : Nat) (bs : List Nat) (s : Nat × Bool) (e : Ending) (w' : World) : Prop :=
  ∃ (p : Pr) (L : PrV) (s' : Nat × Bool), e = .returned (L.val p) ∧ PrOwn w.heap.size w' L p ∧ RdP w' r A n c bs s' ∧ w.grownBy w' (some r) ∧ Out rPr bs s p s'
abbrev set4 (w : World) (ib : Nat) (a0 a1 a2 a3 : Value) : World := (((w.setCell ⟨ib, 0, none⟩ a0).setCell ⟨ib, 1, none⟩ a1).setCell ⟨ib, 2, none⟩ a2).setCell ⟨ib, 3, none⟩ a3
theorem set4_far {w : World} {ib b : Nat} {a0 a1 a2 a3 : Value} (h : b ≠ ib) : (set4 w ib a0 a1 a2 a3).heap[b]? = w.heap[b]? := by
  rw [set_blk _ h, set_blk _ h, set_blk _ h, set_blk _ h]
theorem set4_blk {w : World} {ib : Nat} {T : TypeId} {a0 a1 a2 a3 b0 b1 b2 b3 : Value} (h : w.heap[ib]? = some (.cells #[b0, b1, b2, b3] T (0, 0))) : (set4 w ib a0 a1 a2 a3).heap[ib]? = some (.cells #[a0, a1, a2, a3] T (0, 0)) := by
  have h0 : (w.setCell ⟨ib, 0, none⟩ a0).heap[ib]? = some (.cells #[a0, b1, b2, b3] T (0, 0)) := blk_set h 0 a0
  have h1 : ((w.setCell ⟨ib, 0, none⟩ a0).setCell ⟨ib, 1, none⟩ a1).heap[ib]? = some (.cells #[a0, a1, b2, b3] T (0, 0)) := blk_set h0 1 a1
  have h2 : (((w.setCell ⟨ib, 0, none⟩ a0).setCell ⟨ib, 1, none⟩ a1).setCell ⟨ib, 2, none⟩ a2).heap[ib]? = some (.cells #[a0, a1, a2, b3] T (0, 0)) := blk_set h1 2 a2
  exact blk_set h2 3 a3
theorem set4_size {w : World} {ib : Nat} {a0 a1 a2 a3 : Value} : (set4 w ib a0 a1 a2 a3).heap.size = w.heap.size := by simp [World.setCell]
/-- The result's variable is written. -/
theorem PS.final {w0 wr : World} {r : Nat} {A : Option Addr} {n c : Nat} {bs : List Nat} {st : Nat × Bool} {pb rb : Nat} {ins regs : Int} {A1 A2 : Option Addr} {c1 c2 : Nat} {code : List Ins} {outs : List Int} (h : PS w0 wr r A n c bs st pb rb ins regs (.slice A1 code.length c1) (.slice A2 outs.length c2) code outs) (a0 a1 a2 a3 : Value) :
    PrOwn w0.heap.size (set4 wr rb a0 a1 a2 a3) ⟨A1, c1, A2, c2⟩ ⟨ins, regs, code, outs⟩ ∧ RdP (set4 wr rb a0 a1 a2 a3) r A n c bs st ∧ w0.grownBy (set4 wr rb a0 a1 a2 a3) (some r) := by
  have hr0 := h.r0
  have hrg := h.rge
  refine ⟨⟨own_congr h.code fun g hg => set4_far (fun e => own_blk_ne h.code h.rblk (by decide) (e ▸ hg)), own_congr h.outs fun g hg => set4_far (fun e => own_blk_ne h.outs h.rblk (by decide) (e ▸ hg))⟩,
    RdIn.moved h.rd (by rw [set4_size]; exact Nat.le_refl _) (set4_far (by omega)) (fun b o hA hn => set4_far (by have := h.ab b o hA hn; omega)),
    (((h.gr.setNew hrg).setNew hrg).setNew hrg).setNew hrg⟩

set_option maxRecDepth 100000 in
set_option maxHeartbeats 8000000 in
theorem program35 {w : World} {r : Nat} {A : Option Addr} {n c : Nat} {bs : List Nat} {s : Nat × Bool} (h : RdP w r A n c bs s) :
    Calls Try.prog 35 #[.pointer (some ⟨r, 0, none⟩)] w (PrOut w r A n c bs s) := by
  have hr := h.rlt
  have HAB : Hid (∀ b o, A = some ⟨b, o, none⟩ → 0 < n → b < w.heap.size) := fun b o hA hn => by
    obtain ⟨b', o', e, hlt, _⟩ := h.bytes.bytes.2 hn
    rw [hA] at e; cases e; exact hlt
  have HC := Lib.hid (within33 (h.below (below_a w (.cells #[.int .i64 0, .int .i64 0, .slice none 0 0, .slice none 0 0] 26))) 1 128)
  clear h
  obtain ⟨i63, hi, hz0, hz1, hz2⟩ := info_parts info63
  go_enter Try.func35, Try.ntmps35
  go_wp2_with fail
  go_step3
  go_wp2_with fail
  (with_reducible refine HC.out.mono ?_)
  rintro e w1 ⟨x1, s1, rfl, hx1, hr1, hg1, ho1⟩
  have hps := PS.start (x := x1) hr1 hg1 hr HAB.out
  have HO1 := Lib.hid ho1
  clear HC hr1 hg1 ho1
  go_wp2_with fail
  have HC := Lib.hid (within33 hps.rd x1 128)
  have HPS := Lib.hid hps
  generalize w1.heap.size = pb at *
  generalize w1.alloc (.cells #[.int .i64 x1, .int .i64 0, .slice none 0 0, .slice none 0 0] 26) = w2 at *
  clear hps
  (with_reducible refine HC.out.mono ?_)
  rintro e w3 ⟨x2, s2, rfl, hx2, hr2, hg2, ho2⟩
  have hps2 := HPS.out.keep hg2 hr2
  have e1 := hps2.p1
  have ef := hps2.pf 1
  have HPS2 := Lib.hid (hps2.setRegs x2)
  have HO2 := Lib.hid (show Out (rNum x1 128) bs s1 x2 s2 from ho2)
  clear HC HPS hr2 hg2 ho2 hps2
  go_wp2_with fail
  generalize w3.setCell ⟨pb, 1, none⟩ (.int .i64 x2) = w4 at *
  obtain ⟨p2, wr2⟩ := s2
  have HC := Lib.hid (byte51 HPS2.out.rd 54 _ _ (fun x hx => asks54 x hx))
  clear e1 ef
  (with_reducible refine HC.out.mono ?_)
  rintro e w5 ⟨x3, s3, rfl, hx3, hr3, hg3, ho3⟩
  have hps3 := (HPS2.out.keep hg3 hr3).alloc (.cells #[.int .i64 (x3 : Nat)] 3)
  have e3 := cell_new w5 (.int .i64 (x3 : Nat)) 3
  obtain ⟨p3, wr3⟩ := s3
  have HO3 := Lib.hid ho3
  have HHB := Lib.hid (show w5.heap.size < (w5.alloc (.cells #[.int .i64 (x3 : Nat)] 3)).heap.size by simp)
  have HHR : Hid (w5.heap.size ≠ r) := fun e => by have := hg3.size; have := HPS2.out.plt; have := HPS2.out.pge; omega
  have HC4 := Lib.hid (byte51 hps3.rd 55 _ _ (fun x hx => asks55 hx3 e3 x hx))
  have HPS3 := Lib.hid hps3
  have HE3 := Lib.hid e3
  clear HC HPS2 hr3 hg3 ho3 hps3 e3
  go_wp2_with fail
  generalize w5.alloc (.cells #[.int .i64 (x3 : Nat)] 3) = w6 at *
  generalize w5.heap.size = hb at *
  (with_reducible refine HC4.out.mono ?_)
  rintro e w7 ⟨x4, s4, rfl, hx4, hr4, hg4, ho4⟩
  have HPS4 := Lib.hid (HPS3.out.keep hg4 hr4)
  have e4 := (cell_keep (j := 0) hg4 HHB.out HHR.out).trans HE3.out
  have HO34 := Lib.hid ((HO3.out.seq (r2 := fun h => one fun l => decide (l < 256 ∧ h * 256 + l ≤ 16384)) ho4).map (fun v => v.1 * 256 + v.2))
  have HJ := Lib.hid (or_join x3 x4 (by omega) hx4)
  clear HC4 HPS3 HE3 HO3 HHB HHR hr4 hg4 ho4
  go_wp2_with fail
  go_step3
  go_upto_block 0 with (fail)
  rw [HJ.out]
  obtain ⟨N, hN⟩ : ∃ N, N = x3 * 256 + x4 := ⟨_, rfl⟩
  have hNi : (x3 : Int) * 256 + x4 = (N : Int) := by omega
  have hN2 : N ≤ 65535 := by omega
  rw [hNi]
  have HN := Lib.hid hN
  clear hN hNi
  go_cut [6] from 24 to 70 (fun _ wx => Hid (∃ code s5 cv, PS w wx r A n c bs s5 pb w.heap.size x1 x2 cv (.slice none 0 0) code [] ∧ Out (rMany (rIns x2) N) bs s4 code s5))
  case first =>
    have HL := Lib.hid HPS4.out
    clear e4
    go_wp2_with fail
    go_loopw [24] (fun k wr => ∃ (j : Nat) (code : List Ins) (st : Nat × Bool) (cv : Value), j ≤ N ∧ k = .int .i64 j ∧ Hid (PS w wr r A n c bs st pb w.heap.size x1 x2 cv (.slice none 0 0) code [] ∧ Out (rMany (rIns x2) j) bs s4 code st ∧ code.length = j)) (fun k _ => N - (intOf k).toNat)
    case atStart => exact ⟨0, [], s4, _, Nat.zero_le _, rfl, HPS4.out, Out.nil _ _ _, rfl⟩
    case round =>
      obtain ⟨j, code, st, cv, hj, rfl, HR⟩ := hrel
      by_cases hlt : j < N
      · have hrd := HR.out.1.rd.below ((Below.refl wr.heap.size wr).drew)
        have hrdz := HR.out.1.rd.below (((below_a wr (.cells Zi 63))).drew)
        have q1 := HR.out.1.p1
        have q1z : ((wr.alloc (.cells Zi 63)).drew).cell? ⟨pb, 1, none⟩ = some (.int .i64 x2) := cell_al q1 _
        have hpl := HR.out.1.plt
        have hpr := HR.out.1.prn
        have hrp : r < pb := Nat.lt_of_lt_of_le hr HR.out.1.pge
        have hwp : w.heap.size ≤ pb := HR.out.1.pge
        have hrw : r < wr.heap.size := Nat.lt_trans hrp hpl
        have hww : w.heap.size ≤ wr.heap.size := HR.out.1.gr.size
        have hwx : IntKind.i64.wrap (x2 - 1) = x2 - 1 := IntWalk.i64_in _ (by omega)
        have HRD := Lib.hid hrd
        have HRDZ := Lib.hid hrdz
        have Q1Z := Lib.hid q1z
        clear hrd hrdz q1z
        go_upto_region 7 with (fail)
        go_cut [6, 24] from 24 to 70 (fun i k wx => Hid (k = .int .i64 j ∧ ∃ ib x5 x6 x7 s5 s6 s7, i = .pointer (some ⟨ib, 0, none⟩) ∧ IS wr wx r A n c bs s7 ib ⟨x5, x6, x7, 0, 0⟩ ∧ Out (rNum 1 8) bs st x5 s5 ∧ Out (rNum 0 (x2 - 1)) bs s5 x6 s6 ∧ Out (rNum 0 (x2 - 1)) bs s6 x7 s7 ∧ (0 ≤ x5 ∧ x5 < 256)))
        case first =>
          go_region_held3 (fun w' => w'.cell? ⟨pb, 1, none⟩ = some (.int .i64 x2))
            (first | go_keep | with_reducible exact qc | with_reducible exact qb | with_reducible exact qa | with_reducible exact Q1Z.out | with_reducible exact set5_cell qc (Nat.ne_of_lt hpib) | with_reducible exact cell_al qc _)
            (first
              | (go_at_call 33; (with_reducible refine (within33 HRD.out 1 8).mono ?_); rintro e wa ⟨x5, s5, rfl, hx5, hrd5, hg5', ho5⟩; have hg5 : wr.grownBy wa (some r) := (World.grownBy.ofBelow ((Below.refl wr.heap.size wr).drew) _).trans' hg5'; have hra := Nat.lt_of_lt_of_le hrw hg5.size; have hpa := Nat.lt_of_lt_of_le hpl hg5.size; have qa := (cell_keep (j := 1) hg5 hpl hpr).trans q1; clear hg5')
              | (go_at_call 33; (with_reducible refine (within33 HRDZ.out 1 8).mono ?_); rintro e wa ⟨x5, s5, rfl, hx5, hrd5, hg5', ho5⟩; have hg5 : wr.grownBy wa (some r) := (World.grownBy.ofBelow ((below_a wr (.cells Zi 63)).drew) _).trans' hg5'; have hra := Nat.lt_of_lt_of_le hrw hg5.size; have hpa := Nat.lt_of_lt_of_le hpl hg5.size; have qa := (cell_keep (j := 1) hg5 hpl hpr).trans q1; have hib := blk_keep (heap_new_drew wr (.cells Zi 63)) hg5' (Nat.ne_of_gt hrw); have hrib := hrw; have hpib := hpl; have hlib := Nat.le_refl wr.heap.size; clear hg5')
              | (go_at_call 33; (with_reducible refine (within33 hrd5 0 (x2 - 1)).mono ?_); rintro e wb ⟨x6, s6, rfl, hx6, hrd6, hg6', ho6⟩; have hg6 := hg5.trans' hg6'; have hrb := Nat.lt_of_lt_of_le hrw hg6.size; have hpb := Nat.lt_of_lt_of_le hpl hg6.size; have qb := (cell_keep (j := 1) hg6 hpl hpr).trans q1; (try have hib := blk_keep hib hg6' (Nat.ne_of_gt hrib)); clear hg6')
              | (go_at_call 33; (with_reducible refine (within33 (hrd5.below (below_a wa (.cells Zi 63))) 0 (x2 - 1)).mono ?_); rintro e wb ⟨x6, s6, rfl, hx6, hrd6, hg6', ho6⟩; have hg6 := (hg5.trans' (World.grownBy.ofBelow (below_a wa (.cells Zi 63)) _)).trans' hg6'; have hrb := Nat.lt_of_lt_of_le hrw hg6.size; have hpb := Nat.lt_of_lt_of_le hpl hg6.size; have qb := (cell_keep (j := 1) hg6 hpl hpr).trans q1; have hib := blk_keep (heap_alloc_new wa (.cells Zi 63)) hg6' (Nat.ne_of_gt hra); have hrib := hra; have hpib := hpa; have hlib := hg5.size; clear hg6')
              | (go_at_call 33; (with_reducible refine (within33 hrd6 0 (x2 - 1)).mono ?_); rintro e wc ⟨x7, s7, rfl, hx7, hrd7, hg7', ho7⟩; have hg7 := hg6.trans' hg7'; have qc := (cell_keep (j := 1) hg7 hpl hpr).trans q1; (try (have hib := blk_keep hib hg7' (Nat.ne_of_gt hrib); obtain ⟨z0, z1, z2, z3, z4, zf⟩ := iblk_facts hib; have zf0 := zf 0; have zf1 := zf 1; have zf2 := zf 2; have zf3 := zf 3; have zf4 := zf 4; clear zf)); clear hg7')
              | (go_at_call 33; (with_reducible refine (within33 (hrd6.below (below_a wb (.cells Zi 63))) 0 (x2 - 1)).mono ?_); rintro e wc ⟨x7, s7, rfl, hx7, hrd7, hg7', ho7⟩; have hg7 := (hg6.trans' (World.grownBy.ofBelow (below_a wb (.cells Zi 63)) _)).trans' hg7'; have qc := (cell_keep (j := 1) hg7 hpl hpr).trans q1; have hib := blk_keep (heap_alloc_new wb (.cells Zi 63)) hg7' (Nat.ne_of_gt hrb); have hrib := hrb; have hpib := hpb; have hlib := hg6.size; obtain ⟨z0, z1, z2, z3, z4, zf⟩ := iblk_facts hib; have zf0 := zf 0; have zf1 := zf 1; have zf2 := zf 2; have zf3 := zf 3; have zf4 := zf 4; clear zf; clear hg7'))
          all_goals (go_wp2_with fail; go_meet)
          all_goals first
            | (with_reducible exact Lib.hid ⟨rfl, _, x5, x6, x7, s5, s6, s7, rfl, ⟨hrd7.below (below_a _ _), hg7.trans' (World.grownBy.ofBelow (below_a _ _) _), hg7.size, heap_alloc_new _ _⟩, ho5, ho6, ho7, hx5⟩)
            | exact Lib.hid ⟨rfl, _, x5, x6, x7, s5, s6, s7, rfl, ⟨set5_rd hrd7 hr (Nat.le_trans hww hlib) HAB.out, set5_grown hg7 hlib, hlib, set5_blk hib⟩, ho5, ho6, ho7, hx5⟩
        case rest =>
          obtain ⟨hk24, ib, x5, x6, x7, s5, s6, s7, hi6, hIS, ho5, ho6, ho7, hx5⟩ := hcut.out
          subst hk24 hi6
          have HI := Lib.hid hIS
          have HO5 := Lib.hid ho5
          have HO6 := Lib.hid ho6
          have HO7 := Lib.hid ho7
          obtain ⟨z0, z1, z2, z3, z4, zf⟩ := iblk_facts hIS.iblk
          simp only at z0 z1 z2 z3 z4
          have zf3 := zf 3
          have zf4 := zf 4
          have k1 := (HR.out.1.keep hIS.gr hIS.rd).p1
          clear hcut hIS ho5 ho6 ho7 q1 hpl Q1Z HRD HRDZ zf
          by_cases hop : x5 = 3 ∨ x5 = 4
          · have HC8 := Lib.hid (within33 HI.out.rd 0 (x2 - 1))
            have hop' : (x5 == 3) = true ∨ ((x5 == 3) = false ∧ (x5 == 4) = true) := by rcases hop with h | h <;> simp [h]
            have HOP := Lib.hid hop
            clear hop
            have key : ∀ w8 (x8 : Int) (s8 : Nat × Bool), Hid (RdP w8 r A n c bs s8) → Hid (wc.grownBy w8 (some r)) → Hid (Out (rNum 0 (x2 - 1)) bs s7 x8 s8) → True := fun _ _ _ _ _ _ => trivial
            clear key
            rcases hop' with n3 | ⟨n3, n4⟩
            case' inl => have n4 := trivial
            all_goals
              go_wp2_with fail
              (with_reducible refine HC8.out.mono ?_)
              rintro e w8 ⟨x8, s8, rfl, hx8, hr8, hg8, ho8⟩
              have hI8 := HI.out.keep hrw hg8 hr8
              obtain ⟨e0, e1, e2, e3, e4, ef⟩ := iblk_facts hI8.iblk
              simp only at e0 e1 e2 e3 e4
              have ef3 := ef 3
              have HI8 := Lib.hid (hI8.set hrw (fun b o hA hn => Nat.lt_of_lt_of_le (HAB.out b o hA hn) hww) 3 (.int .i64 x8) (i' := ⟨x5, x6, x7, x8, 0⟩) rfl)
              have HO8 : Hid (Out (rNum 0 (if x5 = 3 ∨ x5 = 4 then x2 - 1 else 0)) bs s7 x8 s8) := by rw [if_pos HOP.out]; exact ho8
              clear hr8 hg8 ho8 HC8 hI8 ef z0 z1 z2 z3 z4 zf3 zf4 n3 n4
              go_wp2_with fail
              obtain ⟨y0, y1, y2, y3, y4, yf⟩ := iblk_facts HI8.out.iblk
              simp only at y0 y1 y2 y3 y4
              have yf4 := yf 4
              have HC9 := Lib.hid (const56 HI8.out.rd x5)
              clear yf
              generalize w8.setCell ⟨ib, 3, none⟩ (.int .i64 x8) = w8' at *
              go_wp2_with fail
              (with_reducible refine HC9.out.mono ?_)
              rintro e w9 ⟨x9, s9, rfl, hx9, hr9, hg9, ho9⟩
              have hI9 := HI8.out.keep hrw hg9 hr9
              obtain ⟨u0, u1, u2, u3, u4, uf⟩ := iblk_facts hI9.iblk
              simp only at u0 u1 u2 u3 u4
              have uf4 := uf 4
              have hI10 := hI9.set hrw (fun b o hA hn => Nat.lt_of_lt_of_le (HAB.out b o hA hn) hww) 4 (.int .i64 x9) (i' := ⟨x5, x6, x7, x8, x9⟩) rfl
              have HINS := Lib.hid (HO5.out.ins HO6.out HO7.out HO8.out ho9)
              clear HC9 HO8 HI8 hr9 hg9 ho9 hI9 uf y0 y1 y2 y3 y4 yf4
              obtain ⟨p9, wr9⟩ := s9
              have t2 := hI10.rd.c2
              simp only at t2
              have HI10 := Lib.hid hI10
              clear hI10
              cases wr9 with
              | true =>
                have HPX := Lib.hid (HR.out.1.keep HI10.out.gr HI10.out.rd)
                go_wp2_with fail
                go_meet
                exact Lib.hid ⟨code, (p9, true), cv, HPX.out, (HR.out.2.1.snoc HINS.out).stop rfl hlt code⟩
              | false =>
                go_upto_region 13 with (fail)
                have hI11 := HI10.out
                generalize w9.setCell ⟨ib, 4, none⟩ (.int .i64 x9) = w10 at *
                clear HI10 u0 u1 u2 u3 u4 uf4
                have HPX := Lib.hid (HR.out.1.keep hI11.gr hI11.rd)
                have HI11 := Lib.hid hI11
                clear hI11
                obtain ⟨y0, y1, y2, y3, y4, _⟩ := iblk_facts HI11.out.iblk
                simp only at y0 y1 y2 y3 y4
                have v2 := HPX.out.p2
                have vf := HPX.out.pf 2
                have hpx := HPX.out.plt
                have hcl : code.length < 4294967296 := by have := HR.out.2.2; omega
                have HLJ := Lib.hid HR.out.2.2
                go_wp2_with (at_builtin; refine wpList_appS rfl (.tmp 65) (.tmp 67) 23 rfl w.heap.size 63 i63 _ 5 40 Try.underlying23 hi hz0 hz1 hz2 rfl (by decide) (by decide) cv code.length (vC code) rfl (HPX.out.code.alloc _) w10.heap.size (cI ⟨x5, x6, x7, x8, x9⟩) rfl rfl (cI_cells w10 ⟨x5, x6, x7, x8, x9⟩) (cI_one _) hcl (Nat.le_trans HPX.out.gr.size (by simp)) ?_)
                intro v' w11 ho11 hg11 _
                obtain ⟨A11, cp11, rfl, _, _⟩ := own_slice ho11
                have q11 : w11.heap[pb]? = some (.cells #[.int .i64 x1, .int .i64 x2, cv, .slice none 0 0] 26 (0, 0)) := by
                  rw [hg11.block pb (by simp; omega) (fun e => own_blk_ne HPX.out.code HPX.out.pblk (by decide) e.symm), Below.heap_alloc _ _ _ hpx]; exact HPX.out.pblk
                have c11 : w11.cell? ⟨pb, 2, none⟩ = some cv := cell_of_row w11 pb 2 _ 26 (0, 0) q11
                have f11 := frozen_of_row w11 pb 2 _ 26 q11
                have hps11 := (HPX.out.alloc (.cells #[.int .i64 x5, .int .i64 x6, .int .i64 x7, .int .i64 x8, .int .i64 x9] 63)).pushC rfl hg11 ho11
                have HPS11 := Lib.hid hps11
                clear ho11 hg11 hps11 q11 y0 y1 y2 y3 y4 v2 vf
                go_wp2_with fail
                go_roundw
                case rel => exact ⟨j + 1, _, _, _, by omega, by go_num, Lib.hid ⟨HPS11.out, HR.out.2.1.snoc HINS.out, by rw [List.length_append, HLJ.out]; rfl⟩⟩
                case measure => simp [intOf]; omega
          · have n3 : (x5 == 3) = false := by simp; omega
            have n4 : (x5 == 4) = false := by simp; omega
            have HC8 := Lib.hid (within33 HI.out.rd 0 0)
            have HOP := Lib.hid hop
            clear hop
            go_wp2_with fail
            (with_reducible refine HC8.out.mono ?_)
            rintro e w8 ⟨x8, s8, rfl, hx8, hr8, hg8, ho8⟩
            have HI8 := Lib.hid (HI.out.keep hrw hg8 hr8)
            have HO8 : Hid (Out (rNum 0 (if x5 = 3 ∨ x5 = 4 then x2 - 1 else 0)) bs s7 0 s8) := by rw [if_neg HOP.out]; exact ho8.zero
            clear hr8 hg8 ho8 HC8 z0 z1 z2 z3 z4 zf3 zf4 n3 n4
            obtain ⟨y0, y1, y2, y3, y4, yf⟩ := iblk_facts HI8.out.iblk
            simp only at y0 y1 y2 y3 y4
            have yf4 := yf 4
            have HC9 := Lib.hid (const56 HI8.out.rd x5)
            clear yf
            generalize w8 = w8' at *
            go_wp2_with fail
            (with_reducible refine HC9.out.mono ?_)
            rintro e w9 ⟨x9, s9, rfl, hx9, hr9, hg9, ho9⟩
            have hI9 := HI8.out.keep hrw hg9 hr9
            obtain ⟨u0, u1, u2, u3, u4, uf⟩ := iblk_facts hI9.iblk
            simp only at u0 u1 u2 u3 u4
            have uf4 := uf 4
            have hI10 := hI9.set hrw (fun b o hA hn => Nat.lt_of_lt_of_le (HAB.out b o hA hn) hww) 4 (.int .i64 x9) (i' := ⟨x5, x6, x7, 0, x9⟩) rfl
            have HINS := Lib.hid (HO5.out.ins HO6.out HO7.out HO8.out ho9)
            clear HC9 HO8 HI8 hr9 hg9 ho9 hI9 uf y0 y1 y2 y3 y4 yf4
            obtain ⟨p9, wr9⟩ := s9
            have t2 := hI10.rd.c2
            simp only at t2
            have HI10 := Lib.hid hI10
            clear hI10
            cases wr9 with
            | true =>
              have HPX := Lib.hid (HR.out.1.keep HI10.out.gr HI10.out.rd)
              go_wp2_with fail
              go_meet
              exact Lib.hid ⟨code, (p9, true), cv, HPX.out, (HR.out.2.1.snoc HINS.out).stop rfl hlt code⟩
            | false =>
              go_upto_region 13 with (fail)
              have hI11 := HI10.out
              generalize w9.setCell ⟨ib, 4, none⟩ (.int .i64 x9) = w10 at *
              clear HI10 u0 u1 u2 u3 u4 uf4
              have HPX := Lib.hid (HR.out.1.keep hI11.gr hI11.rd)
              have HI11 := Lib.hid hI11
              clear hI11
              obtain ⟨y0, y1, y2, y3, y4, _⟩ := iblk_facts HI11.out.iblk
              simp only at y0 y1 y2 y3 y4
              have v2 := HPX.out.p2
              have vf := HPX.out.pf 2
              have hpx := HPX.out.plt
              have hcl : code.length < 4294967296 := by have := HR.out.2.2; omega
              have HLJ := Lib.hid HR.out.2.2
              go_wp2_with (at_builtin; refine wpList_appS rfl (.tmp 65) (.tmp 67) 23 rfl w.heap.size 63 i63 _ 5 40 Try.underlying23 hi hz0 hz1 hz2 rfl (by decide) (by decide) cv code.length (vC code) rfl (HPX.out.code.alloc _) w10.heap.size (cI ⟨x5, x6, x7, 0, x9⟩) rfl rfl (cI_cells w10 ⟨x5, x6, x7, 0, x9⟩) (cI_one _) hcl (Nat.le_trans HPX.out.gr.size (by simp)) ?_)
              intro v' w11 ho11 hg11 _
              obtain ⟨A11, cp11, rfl, _, _⟩ := own_slice ho11
              have q11 : w11.heap[pb]? = some (.cells #[.int .i64 x1, .int .i64 x2, cv, .slice none 0 0] 26 (0, 0)) := by
                rw [hg11.block pb (by simp; omega) (fun e => own_blk_ne HPX.out.code HPX.out.pblk (by decide) e.symm), Below.heap_alloc _ _ _ hpx]; exact HPX.out.pblk
              have c11 : w11.cell? ⟨pb, 2, none⟩ = some cv := cell_of_row w11 pb 2 _ 26 (0, 0) q11
              have f11 := frozen_of_row w11 pb 2 _ 26 q11
              have hps11 := (HPX.out.alloc (.cells #[.int .i64 x5, .int .i64 x6, .int .i64 x7, .int .i64 0, .int .i64 x9] 63)).pushC rfl hg11 ho11
              have HPS11 := Lib.hid hps11
              clear ho11 hg11 hps11 q11 y0 y1 y2 y3 y4 v2 vf
              go_wp2_with fail
              go_roundw
              case rel => exact ⟨j + 1, _, _, _, by omega, by go_num, Lib.hid ⟨HPS11.out, HR.out.2.1.snoc HINS.out, by rw [List.length_append, HLJ.out]; rfl⟩⟩
              case measure => simp [intOf]; omega
      · obtain rfl : j = N := by omega
        have HRR := Lib.hid HR.out
        clear HR
        go_wp2_with fail
        go_meet
        exact Lib.hid ⟨code, st, cv, HRR.out.1, HRR.out.2.1⟩
  case rest =>
    obtain ⟨code, s5, cv, hps, hoc⟩ := hcut.out
    have HOC := Lib.hid hoc
    have HPS := Lib.hid hps
    have HC := Lib.hid (within33 hps.rd 1 128)
    clear hcut hoc hps HPS4 e4
    go_wp2_with fail
    (with_reducible refine HC.out.mono ?_)
    rintro e w8 ⟨x6, s6, rfl, hx6, hr6, hg6, ho6⟩
    have HPS6 := Lib.hid (HPS.out.keep hg6 hr6)
    have HO6 := Lib.hid ho6
    clear HC HPS hr6 hg6 ho6
    obtain ⟨M, hM⟩ := Int.eq_ofNat_of_zero_le hx6.1
    have hM2 : M < 256 := by omega
    subst hM
    clear hx6
    obtain ⟨i3, hi3, hy0, hy1, hy2⟩ := info_parts info3
    go_wp2_with fail
    go_loopw [73] (fun k wr => ∃ (j : Nat) (outs : List Int) (st : Nat × Bool) (ov : Value), j ≤ M ∧ k = .int .i64 j ∧ Hid (PS w wr r A n c bs st pb w.heap.size x1 x2 cv ov code outs ∧ Out (rMany (rNum 0 (x2 - 1)) j) bs s6 outs st ∧ outs.length = j)) (fun k _ => M - (intOf k).toNat)
    case atStart => exact ⟨0, [], s6, _, Nat.zero_le _, rfl, HPS6.out, Out.nil _ _ _, rfl⟩
    case round =>
      obtain ⟨j, outs, st, ov, hj, rfl, HR⟩ := hrel
      by_cases hlt : j < M
      · have q1 := HR.out.1.p1
        have q3 := HR.out.1.p3
        have hpl := HR.out.1.plt
        have hpr := HR.out.1.prn
        have hwx : IntKind.i64.wrap (x2 - 1) = x2 - 1 := IntWalk.i64_in _ (by omega)
        have HRD := Lib.hid (HR.out.1.rd.below ((Below.refl wr.heap.size wr).drew))
        have HGD : Hid (wr.grownBy wr.drew (some r)) := ⟨rfl, rfl, rfl, Nat.le_refl _, fun _ _ _ => rfl⟩
        have hol : outs.length < 4294967296 := by have := HR.out.2.2; omega
        have HLJ := Lib.hid HR.out.2.2
        go_wp2_with fail
        go_region_law
          (first
            | (refine step_appS rfl (.tmp 76) (.tmp 82) 24 rfl w.heap.size 3 i3 (.int .i64 0) 1 8 Try.underlying24 hi3 hy0 hy1 hy2 rfl (by decide) (by decide) ov outs.length (vI outs) (by rfl) (HPX.out.outs.alloc _) wa.heap.size [.int .i64 x7] (by rfl) rfl (fun j u hu => by match j, hu with | 0, hu => cases hu; exact cell_new _ _ _) (fun u hu => by cases List.mem_singleton.1 hu; rfl) hol (Nat.le_trans HPX.out.gr.size (by simp)) ?_; intro v' wb hob hgb _; obtain ⟨Ab, cb, rfl, _, _⟩ := own_slice hob
               have q11 : wb.heap[pb]? = some (.cells #[.int .i64 x1, .int .i64 x2, cv, ov] 26 (0, 0)) := (hgb.block pb (Nat.lt_of_lt_of_le hpxl (by simp)) (fun e => own_blk_ne HPX.out.outs HPX.out.pblk (by decide) e.symm)).trans ((Below.heap_alloc _ _ _ hpxl).trans HPX.out.pblk)
               have c11 : wb.cell? ⟨pb, 3, none⟩ = some ov := cell_of_row wb pb 3 _ 26 (0, 0) q11
               have f11 := frozen_of_row wb pb 3 _ 26 q11
               have HPS11 := Lib.hid ((HPX.out.alloc (.cells #[.int .i64 x7] 3)).pushO rfl hgb hob)
               clear hob hgb q11)
            | (go_simp; go_at_call 33; (with_reducible refine (within33 HRD.out 0 (x2 - 1)).mono ?_); rintro e wa ⟨x7, s7, rfl, hx7, hr7, hg7, ho7⟩
               have HPX := Lib.hid (HR.out.1.keep (HGD.out.trans' hg7) hr7)
               have HO7 := Lib.hid ho7
               have hpxl := HPX.out.plt
               have a3 := HPX.out.p3
               have ka3 : ∀ o, (wa.alloc o).cell? ⟨pb, 3, none⟩ = some ov := fun o => cell_al a3 o
               clear hr7 hg7 ho7))
        all_goals
          go_wp2_with fail
          go_roundw
          case rel => exact ⟨j + 1, _, _, _, by omega, by go_num, Lib.hid ⟨HPS11.out, HR.out.2.1.snoc HO7.out, by rw [List.length_append, HLJ.out]; rfl⟩⟩
          case measure => simp [intOf]; omega
      · obtain rfl : j = M := by omega
        obtain ⟨A1, c1, hcv, _, _⟩ := own_slice HR.out.1.code
        obtain ⟨A2, c2, hov, _, _⟩ := own_slice HR.out.1.outs
        subst hcv hov
        have p0 := HR.out.1.p0
        have p1 := HR.out.1.p1
        have p2 := HR.out.1.p2
        have p3 := HR.out.1.p3
        have z0 := cell_of_row wr w.heap.size 0 _ 26 (0, 0) HR.out.1.rblk
        have z1 := cell_of_row wr w.heap.size 1 _ 26 (0, 0) HR.out.1.rblk
        have z2 := cell_of_row wr w.heap.size 2 _ 26 (0, 0) HR.out.1.rblk
        have z3 := cell_of_row wr w.heap.size 3 _ 26 (0, 0) HR.out.1.rblk
        have zf0 := frozen_of_row wr w.heap.size 0 _ 26 HR.out.1.rblk
        have zf1 := frozen_of_row wr w.heap.size 1 _ 26 HR.out.1.rblk
        have zf2 := frozen_of_row wr w.heap.size 2 _ 26 HR.out.1.rblk
        have zf3 := frozen_of_row wr w.heap.size 3 _ 26 HR.out.1.rblk
        have HRR := Lib.hid HR.out
        clear HR
        go_wp2_with fail
        try rw [Exit.noGoto_ret]
        obtain ⟨F1, F2, F3⟩ := HRR.out.1.final (.int .i64 x1) (.int .i64 x2) (.slice A1 code.length c1) (.slice A2 outs.length c2)
        have hz := set4_blk (a0 := .int .i64 x1) (a1 := .int .i64 x2) (a2 := .slice A1 code.length c1) (a3 := .slice A2 outs.length c2) HRR.out.1.rblk
        refine bodyPost_ret (v := .agg #[.int .i64 x1, .int .i64 x2, .slice A1 code.length c1, .slice A2 outs.length c2]) ?_ rfl ?_
        · have c0 := cell_of_row _ w.heap.size 0 _ 26 (0, 0) hz
          have c1' := cell_of_row _ w.heap.size 1 _ 26 (0, 0) hz
          have c2' := cell_of_row _ w.heap.size 2 _ 26 (0, 0) hz
          have c3 := cell_of_row _ w.heap.size 3 _ 26 (0, 0) hz
          simp at c0 c1' c2' c3
          simp [results, Try.results35, go_sem, c0, c1', c2', c3]
        · exact ⟨⟨x1, x2, code, outs⟩, ⟨A1, c1, A2, c2⟩, st, rfl, F1, F2, F3, HO1.out.pr HO2.out (show Out rCount bs _ N s4 from by rw [HN.out]; exact HO34.out) HOC.out HO6.out HRR.out.2.1⟩
end Go.Proofs.Ytcelcognmdcenaa

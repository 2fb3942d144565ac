/-
  MEMORY: a program that the reference's reader reads.
-/
import Derived.Test.YtcelcognmdcenaaR3
import Derived.Test.YtcelcognmdcenaaC2
namespace Go.Proofs.Ytcelcognmdcenaa
open Go.RowKit

/-- A program that is being read: r the reader, pb its own block, rb the result's. -/
structure QS (w0 wr : World) (r : Nat) (A : Option Addr) (n c : Nat) (bs : List Nat) (st : Nat × Bool) (pb rb : Nat) (ins regs : Int) (cv ov : Value) (code : List Ins) (outs : List Int) : Prop where
  rd : RdR wr r A n c bs st
  r0 : r < w0.heap.size
  ab : ∀ b o, A = some ⟨b, o, none⟩ → 0 < n → b < w0.heap.size
  gr : w0.grownBy wr (some r)
  pge : w0.heap.size ≤ pb
  pblk : wr.heap[pb]? = some (.cells #[.int .i64 ins, .int .i64 regs, cv, ov] 26 (0, 0))
  rge : w0.heap.size ≤ rb
  rpb : rb ≠ pb
  rblk : wr.heap[rb]? = some (.cells #[.int .i64 0, .int .i64 0, .slice none 0 0, .slice none 0 0] 26 (0, 0))
  code : wr.ownsRow w0.heap.size 63 5 cv code.length (vC code)
  outs : wr.ownsRow w0.heap.size 3 1 ov outs.length (vI outs)
section
variable {w0 wr w' : World} {r : Nat} {A : Option Addr} {n c : Nat} {bs : List Nat} {st st' : Nat × Bool} {pb rb : Nat} {ins regs : Int} {cv ov : Value} {code : List Ins} {outs : List Int}
theorem QS.plt (h : QS w0 wr r A n c bs st pb rb ins regs cv ov code outs) : pb < wr.heap.size := (Array.getElem?_eq_some_iff.1 h.pblk).1
theorem QS.prn (h : QS w0 wr r A n c bs st pb rb ins regs cv ov code outs) : pb ≠ r := fun e => by have := h.pge; have := h.r0; omega
theorem QS.p0 (h : QS w0 wr r A n c bs st pb rb ins regs cv ov code outs) : wr.cell? ⟨pb, 0, none⟩ = some (.int .i64 ins) := cell_of_row wr pb 0 _ 26 (0, 0) h.pblk
theorem QS.p1 (h : QS w0 wr r A n c bs st pb rb ins regs cv ov code outs) : wr.cell? ⟨pb, 1, none⟩ = some (.int .i64 regs) := cell_of_row wr pb 1 _ 26 (0, 0) h.pblk
theorem QS.p2 (h : QS w0 wr r A n c bs st pb rb ins regs cv ov code outs) : wr.cell? ⟨pb, 2, none⟩ = some cv := cell_of_row wr pb 2 _ 26 (0, 0) h.pblk
theorem QS.p3 (h : QS w0 wr r A n c bs st pb rb ins regs cv ov code outs) : wr.cell? ⟨pb, 3, none⟩ = some ov := cell_of_row wr pb 3 _ 26 (0, 0) h.pblk
theorem QS.pf (h : QS w0 wr r A n c bs st pb rb ins regs cv ov code outs) (j : Nat) : wr.frozen? ⟨pb, j, none⟩ = false := frozen_of_row wr pb j _ 26 h.pblk
/-- The reader reads on; new blocks are made. -/
theorem QS.keep (h : QS w0 wr r A n c bs st pb rb ins regs cv ov code outs) (hg : wr.grownBy w' (some r)) (hrd : RdR w' r A n c bs st') : QS w0 w' r A n c bs st' pb rb ins regs cv ov code outs where
  rd := hrd
  r0 := h.r0
  ab := h.ab
  gr := h.gr.trans' hg
  pge := h.pge
  pblk := by rw [hg.block pb h.plt (fun e => h.prn (by cases e; rfl))]; exact h.pblk
  rge := h.rge
  rpb := h.rpb
  rblk := by
    rw [hg.block rb (Array.getElem?_eq_some_iff.1 h.rblk).1 (fun e => by cases e; have := h.rge; have := h.r0; omega)]; exact h.rblk
  code := own_congr h.code fun g hv => hg.block g (own_lt h.code hv) (fun e => by cases e; have := (h.code.lt _ hv).1; have := h.r0; omega)
  outs := own_congr h.outs fun g hv => hg.block g (own_lt h.outs hv) (fun e => by cases e; have := (h.outs.lt _ hv).1; have := h.r0; omega)
theorem QS.alloc (h : QS w0 wr r A n c bs st pb rb ins regs cv ov code outs) (o : Obj) : QS w0 (wr.alloc o) r A n c bs st pb rb ins regs cv ov code outs :=
  h.keep (World.grownBy.ofBelow (below_a wr o) _) (h.rd.below (below_a wr o))
/-- An instruction more. -/
theorem QS.pushC (h : QS w0 wr r A n c bs st pb rb ins regs cv ov code outs) {v' : Value} {x : Ins} {k : Nat} (hk : k = code.length + 1) (hg : wr.grownBy w' cv.ownBlock) (ho : w'.ownsRow w0.heap.size 63 5 v' k (vC code ++ cI x)) :
    QS w0 (w'.setCell ⟨pb, 2, none⟩ v') r A n c bs st pb rb ins regs v' ov (code ++ [x]) outs := by
  subst hk
  have hc := h.code.lt
  have hr0 := h.r0
  have hrow : ∀ g, cv.ownBlock = some g → w0.heap.size ≤ g := fun g hg => (hc g hg).1
  have hpb : w'.heap[pb]? = some (.cells #[.int .i64 ins, .int .i64 regs, cv, ov] 26 (0, 0)) := by
    rw [hg.block pb h.plt (fun e => own_blk_ne h.code h.pblk (by decide) e.symm)]; exact h.pblk
  have hrb : w'.heap[rb]? = some (.cells #[.int .i64 0, .int .i64 0, .slice none 0 0, .slice none 0 0] 26 (0, 0)) := by
    rw [hg.block rb (Array.getElem?_eq_some_iff.1 h.rblk).1 (fun e => own_blk_ne h.code h.rblk (by decide) e.symm)]; exact h.rblk
  have hrd := h.rd.grown hg (fun e => by have := hrow _ e; omega) (fun b o hA hn e => by have := hrow _ e; have := h.ab b o hA hn; omega)
  have hvc : vC (code ++ [x]) = vC code ++ cI x := by simp [vC]
  refine ⟨?_, h.r0, h.ab, ?_, h.pge, by rw [blk_set hpb]; rfl, h.rge, h.rpb, by rw [set_blk _ h.rpb]; exact hrb, ?_, ?_⟩
  · refine ⟨by rw [set_blk _ (fun e => h.prn e.symm)]; exact hrd.blk, ?_, hrd.le, hrd.sep, hrd.lt⟩
    exact hrd.bytes.far fun b o hA hn => ⟨fun e => by have := h.ab b o (by cases hA; rfl) hn; have := h.pge; omega, trivial⟩
  · refine ⟨hg.os.trans h.gr.os, hg.tape.trans h.gr.tape, hg.output.trans h.gr.output, by have := h.gr.size; have := hg.size; simp [World.setCell]; omega, fun k hk hne => ?_⟩
    rw [set_blk _ (by have := h.pge; omega), hg.block k (Nat.lt_of_lt_of_le hk h.gr.size) (fun e => by have := hrow k e.symm; omega)]
    exact h.gr.block k hk hne
  · rw [hvc, List.length_append]
    exact set_own ho _ (fun e => own_blk_ne ho hpb (by decide) e)
  · exact set_own (far_grown h.outs hg (fun g hv e => own_ne h.code h.outs (by decide) e hv)) _ (fun e => own_blk_ne (far_grown h.outs hg (fun g hv e => own_ne h.code h.outs (by decide) e hv)) hpb (by decide) e)
/-- An out more. -/
theorem QS.pushO (h : QS w0 wr r A n c bs st pb rb ins regs cv ov code outs) {v' : Value} {x : Int} {k : Nat} (hk : k = outs.length + 1) (hg : wr.grownBy w' ov.ownBlock) (ho : w'.ownsRow w0.heap.size 3 1 v' k (vI outs ++ [.int .i64 x])) :
    QS w0 (w'.setCell ⟨pb, 3, none⟩ v') r A n c bs st pb rb ins regs cv v' code (outs ++ [x]) := by
  subst hk
  have hr0 := h.r0
  have hrow : ∀ g, ov.ownBlock = some g → w0.heap.size ≤ g := fun g hg => (h.outs.lt g hg).1
  have hpb : w'.heap[pb]? = some (.cells #[.int .i64 ins, .int .i64 regs, cv, ov] 26 (0, 0)) := by
    rw [hg.block pb h.plt (fun e => own_blk_ne h.outs h.pblk (by decide) e.symm)]; exact h.pblk
  have hrb : w'.heap[rb]? = some (.cells #[.int .i64 0, .int .i64 0, .slice none 0 0, .slice none 0 0] 26 (0, 0)) := by
    rw [hg.block rb (Array.getElem?_eq_some_iff.1 h.rblk).1 (fun e => own_blk_ne h.outs h.rblk (by decide) e.symm)]; exact h.rblk
  have hrd := h.rd.grown hg (fun e => by have := hrow _ e; omega) (fun b o hA hn e => by have := hrow _ e; have := h.ab b o hA hn; omega)
  have hvc : vI (outs ++ [x]) = vI outs ++ [.int .i64 x] := by simp [vI]
  refine ⟨?_, h.r0, h.ab, ?_, h.pge, by rw [blk_set hpb]; rfl, h.rge, h.rpb, by rw [set_blk _ h.rpb]; exact hrb, ?_, ?_⟩
  · refine ⟨by rw [set_blk _ (fun e => h.prn e.symm)]; exact hrd.blk, ?_, hrd.le, hrd.sep, hrd.lt⟩
    exact hrd.bytes.far fun b o hA hn => ⟨fun e => by have := h.ab b o (by cases hA; rfl) hn; have := h.pge; omega, trivial⟩
  · refine ⟨hg.os.trans h.gr.os, hg.tape.trans h.gr.tape, hg.output.trans h.gr.output, by have := h.gr.size; have := hg.size; simp [World.setCell]; omega, fun k hk hne => ?_⟩
    rw [set_blk _ (by have := h.pge; omega), hg.block k (Nat.lt_of_lt_of_le hk h.gr.size) (fun e => by have := hrow k e.symm; omega)]
    exact h.gr.block k hk hne
  · exact set_own (far_grown h.code hg (fun g hv e => own_ne h.outs h.code (by decide) e hv)) _ (fun e => own_blk_ne (far_grown h.code hg (fun g hv e => own_ne h.outs h.code (by decide) e hv)) hpb (by decide) e)
  · rw [hvc, List.length_append]
    exact set_own ho _ (fun e => own_blk_ne ho hpb (by decide) e)
theorem QS.setRegs (h : QS w0 wr r A n c bs st pb rb ins regs cv ov code outs) (x : Int) : QS w0 (wr.setCell ⟨pb, 1, none⟩ (.int .i64 x)) r A n c bs st pb rb ins x cv ov code outs where
  rd := ⟨by rw [set_blk _ (fun e => h.prn e.symm)]; exact h.rd.blk, h.rd.bytes.far fun b o hA hn => ⟨fun e => by have := h.ab b o (by cases hA; rfl) hn; have := h.pge; omega, trivial⟩, h.rd.le, h.rd.sep, h.rd.lt⟩
  r0 := h.r0
  ab := h.ab
  gr := ⟨h.gr.os, h.gr.tape, h.gr.output, by simpa [World.setCell] using h.gr.size, fun k hk hne => by
    rw [set_blk _ (by have := h.pge; omega)]; exact h.gr.block k hk hne⟩
  pge := h.pge
  pblk := by rw [blk_set h.pblk]; rfl
  rge := h.rge
  rpb := h.rpb
  rblk := by rw [set_blk _ h.rpb]; exact h.rblk
  code := set_own h.code _ (fun e => own_blk_ne h.code h.pblk (by decide) e)
  outs := set_own h.outs _ (fun e => own_blk_ne h.outs h.pblk (by decide) e)
theorem QS.setIns (h : QS w0 wr r A n c bs st pb rb ins regs cv ov code outs) (x : Int) : QS w0 (wr.setCell ⟨pb, 0, none⟩ (.int .i64 x)) r A n c bs st pb rb x regs cv ov code outs where
  rd := ⟨by rw [set_blk _ (fun e => h.prn e.symm)]; exact h.rd.blk, h.rd.bytes.far fun b o hA hn => ⟨fun e => by have := h.ab b o (by cases hA; rfl) hn; have := h.pge; omega, trivial⟩, h.rd.le, h.rd.sep, h.rd.lt⟩
  r0 := h.r0
  ab := h.ab
  gr := ⟨h.gr.os, h.gr.tape, h.gr.output, by simpa [World.setCell] using h.gr.size, fun k hk hne => by
    rw [set_blk _ (by have := h.pge; omega)]; exact h.gr.block k hk hne⟩
  pge := h.pge
  pblk := by rw [blk_set h.pblk]; rfl
  rge := h.rge
  rpb := h.rpb
  rblk := by rw [set_blk _ h.rpb]; exact h.rblk
  code := set_own h.code _ (fun e => own_blk_ne h.code h.pblk (by decide) e)
  outs := set_own h.outs _ (fun e => own_blk_ne h.outs h.pblk (by decide) e)
theorem QS.start (h : RdR w0 r A n c bs st) (ab : ∀ b o, A = some ⟨b, o, none⟩ → 0 < n → b < w0.heap.size) :
    QS w0 ((w0.alloc (.cells #[.int .i64 0, .int .i64 0, .slice none 0 0, .slice none 0 0] 26)).alloc (.cells #[.int .i64 0, .int .i64 0, .slice none 0 0, .slice none 0 0] 26)) r A n c bs st (w0.heap.size + 1) w0.heap.size 0 0 (.slice none 0 0) (.slice none 0 0) [] [] := by
  have hs : (w0.alloc (.cells #[.int .i64 0, .int .i64 0, .slice none 0 0, .slice none 0 0] 26)).heap.size = w0.heap.size + 1 := by simp
  have hb : Below w0.heap.size w0 ((w0.alloc (.cells #[.int .i64 0, .int .i64 0, .slice none 0 0, .slice none 0 0] 26)).alloc (.cells #[.int .i64 0, .int .i64 0, .slice none 0 0, .slice none 0 0] 26)) := (below_a w0 _).alloc (by simp) _
  have h1 := heap_alloc_new w0 (.cells #[.int .i64 0, .int .i64 0, .slice none 0 0, .slice none 0 0] 26)
  have h2 := heap_alloc_new (w0.alloc (.cells #[.int .i64 0, .int .i64 0, .slice none 0 0, .slice none 0 0] 26)) (.cells #[.int .i64 0, .int .i64 0, .slice none 0 0, .slice none 0 0] 26)
  rw [hs] at h2
  exact {
    rd := h.below hb
    r0 := h.rlt
    ab := ab
    gr := World.grownBy.ofBelow hb _
    pge := by omega
    pblk := h2
    rge := Nat.le_refl _
    rpb := by omega
    rblk := by rw [Below.heap_alloc _ _ _ (by rw [hs]; omega)]; exact h1
    code := World.ownsRow_nil _ _ _ _
    outs := World.ownsRow_nil _ _ _ _ }
end
/-- An instruction that is being read: its variable's block, the world. -/
structure JS (wr wx : World) (r : Nat) (A : Option Addr) (n c : Nat) (bs : List Nat) (st : Nat × Bool) (ib : Nat) (i : Ins) : Prop where
  rd : RdR wx r A n c bs st
  gr : wr.grownBy wx (some r)
  ige : wr.heap.size ≤ ib
  iblk : wx.heap[ib]? = some (.cells #[.int .i64 i.op, .int .i64 i.to, .int .i64 i.a, .int .i64 i.b, .int .i64 i.c] 63 (0, 0))

theorem JS.keep {wr wx w' : World} {r : Nat} {A : Option Addr} {n c : Nat} {bs : List Nat} {st st' : Nat × Bool} {ib : Nat} {i : Ins} (h : JS wr wx r A n c bs st ib i) (hr : r < wr.heap.size) (hg : wx.grownBy w' (some r)) (hrd : RdR w' r A n c bs st') : JS wr w' r A n c bs st' ib i :=
  ⟨hrd, h.gr.trans' hg, h.ige, blk_keep h.iblk hg (by have := h.ige; omega)⟩
theorem JS.set {wr wx : World} {r : Nat} {A : Option Addr} {n c : Nat} {bs : List Nat} {st : Nat × Bool} {ib : Nat} {i i' : Ins} (h : JS wr wx r A n c bs st ib i) (hr : r < wr.heap.size) (ab : ∀ b o, A = some ⟨b, o, none⟩ → 0 < n → b < wr.heap.size) (j : Nat) (u : Value)
    (hu : (#[.int .i64 i.op, .int .i64 i.to, .int .i64 i.a, .int .i64 i.b, .int .i64 i.c] : Array Value).setIfInBounds j u = #[.int .i64 i'.op, .int .i64 i'.to, .int .i64 i'.a, .int .i64 i'.b, .int .i64 i'.c]) : JS wr (wx.setCell ⟨ib, j, none⟩ u) r A n c bs st ib i' :=
  ⟨RdIn.moved h.rd (by simp [World.setCell]) (set_blk _ (by have := h.ige; omega)) (fun b o hA hn => set_blk _ (by have := ab b o hA hn; have := h.ige; omega)),
    h.gr.setNew h.ige, h.ige, by rw [blk_set h.iblk, hu]⟩
/-- What reading a program answers. -/
def PrOutR (w : World) (r : Nat) (A : Option Addr) (n c : Nat) (bs : List Nat) (s : Nat × Bool) (e : Ending) (w' : World) : Prop :=
  ∃ (p : Pr) (L : PrV) (s' : Nat × Bool), e = .returned (L.val p) ∧ PrOwn w.heap.size w' L p ∧ RdR w' r A n c bs s' ∧ w.grownBy w' (some r) ∧ Out rPr bs s p s'
/-- The result's variable is written. -/
theorem QS.final {w0 wr : World} {r : Nat} {A : Option Addr} {n c : Nat} {bs : List Nat} {st : Nat × Bool} {pb rb : Nat} {ins regs : Int} {A1 A2 : Option Addr} {c1 c2 : Nat} {code : List Ins} {outs : List Int} (h : QS w0 wr r A n c bs st pb rb ins regs (.slice A1 code.length c1) (.slice A2 outs.length c2) code outs) (a0 a1 a2 a3 : Value) :
    PrOwn w0.heap.size (set4 wr rb a0 a1 a2 a3) ⟨A1, c1, A2, c2⟩ ⟨ins, regs, code, outs⟩ ∧ RdR (set4 wr rb a0 a1 a2 a3) r A n c bs st ∧ w0.grownBy (set4 wr rb a0 a1 a2 a3) (some r) := by
  have hr0 := h.r0
  have hrg := h.rge
  refine ⟨⟨own_congr h.code fun g hg => set4_far (fun e => own_blk_ne h.code h.rblk (by decide) (e ▸ hg)), own_congr h.outs fun g hg => set4_far (fun e => own_blk_ne h.outs h.rblk (by decide) (e ▸ hg))⟩,
    RdIn.moved h.rd (by rw [set4_size]; exact Nat.le_refl _) (set4_far (by omega)) (fun b o hA hn => set4_far (by have := h.ab b o hA hn; omega)),
    (((h.gr.setNew hrg).setNew hrg).setNew hrg).setNew hrg⟩

/-- The count's two bytes. -/
theorem Out.count {bs : List Nat} {s s3 s4 : Nat × Bool} {x3 x4 : Nat} {most : Int} (h1 : Out (one (btw 0 64)) bs s x3 s3) (h2 : Out (one (btw 0 most)) bs s3 x4 s4) (hm : most = if x3 = 64 then 0 else 255) : Out rCount bs s (x3 * 256 + x4) s4 := by
  obtain ⟨p, wr⟩ := s
  cases wr with
  | true =>
    have e : s3 = (p, true) := h1
    subst e
    have e : s4 = (p, true) := h2
    subst e
    exact rfl
  | false =>
    have k1 : Out (one fun h => decide (h ≤ 64)) bs (p, false) x3 s3 := h1.swap fun _ => one_congr fun z _ => eq_of_iff (by rw [btw_iff, decide_eq_true_eq]; omega)
    rcases one_out h1 with ⟨hw, _⟩ | ⟨hs, hb, hg⟩
    · obtain ⟨q, wr1⟩ := s3
      cases hw
      have e : s4 = (q, true) := h2
      subst e
      have k2 : Out ((fun h => one fun l => decide (l < 256 ∧ h * 256 + l ≤ 16384)) x3) bs (q, true) x4 (q, true) := rfl
      exact (k1.seq (r2 := fun h => one fun l => decide (l < 256 ∧ h * 256 + l ≤ 16384)) k2).map (fun v => v.1 * 256 + v.2)
    · subst hs
      rw [btw_iff] at hg
      have k2 : Out ((fun h => one fun l => decide (l < 256 ∧ h * 256 + l ≤ 16384)) x3) bs (p + 1, false) x4 s4 := h2.swap fun _ => one_congr fun z _ => eq_of_iff (by
        rw [btw_iff, decide_eq_true_eq, hm]
        split <;> omega)
      exact (k1.seq (r2 := fun h => one fun l => decide (l < 256 ∧ h * 256 + l ≤ 16384)) k2).map (fun v => v.1 * 256 + v.2)
theorem num_of {lo hi : Int} {bs : List Nat} {s s1 : Nat × Bool} {x : Nat} (h : Out (one (btw lo hi)) bs s x s1) : Out (rNum lo hi) bs s (x : Int) s1 := by
  obtain ⟨p, wr⟩ := s
  exact (h.map (fun x => (x : Int))).swap fun _ => rNum_btw lo hi bs p
/-- A number's reader, as rNum tells it. -/
theorem num45 {w : World} {r : Nat} {A : Option Addr} {n c : Nat} {bs : List Nat} {s : Nat × Bool} (h : RdR w r A n c bs s) (lo hi : Int) :
    Calls Try.prog 45 #[.pointer (some ⟨r, 0, none⟩), .int .i64 lo, .int .i64 hi] w (RrOut w r A n c bs s (rNum lo hi) (fun x => x) (fun x => 0 ≤ x ∧ x < 256)) := by
  obtain ⟨p, wr⟩ := s
  refine (next45 h lo hi).mono ?_
  rintro e w1 ⟨x, s1, rfl, hx, hr, hg, ho⟩
  exact ⟨(x : Int), s1, rfl, by omega, hr, hg, num_of ho⟩
end Go.Proofs.Ytcelcognmdcenaa

/-
  MEMORY: a program that is being read.
-/
import Derived.Test.YtcelcognmdcenaaB4
import Derived.Maps.AppendAt
import Derived.OwnWalk
import Derived.Deep.AppendLies
namespace Go.Proofs.Ytcelcognmdcenaa
open Go.RowKit

theorem info63 : (Try.prog.info? 63).map (fun i => (i.zero, i.size, i.bytes)) = some (some (.agg #[.int .i64 0, .int .i64 0, .int .i64 0, .int .i64 0, .int .i64 0]), 5, 40) := by kernel_rfl
theorem info48 : (Try.prog.info? 48).map (fun i => (i.zero, i.size, i.bytes)) = some (some (.agg #[.int .i64 0, .int .i64 0]), 2, 16) := by kernel_rfl
theorem info3 : (Try.prog.info? 3).map (fun i => (i.zero, i.size, i.bytes)) = some (some (.int .i64 0), 1, 8) := by kernel_rfl
theorem info5 : (Try.prog.info? 5).map (fun i => (i.zero, i.size, i.bytes)) = some (some (.int .u8 0), 1, 1) := by kernel_rfl

section
variable {P : Program} {w : World}
/-- append of one element of so many cells. -/
theorem wp_appS {o : Oper} {a : Act} {K : Act → World → Prop} {Q : Exit → Act → World → Prop} (s x : Operand) (t : TypeId)
    (ho : o.op = .call { callee := .builtin .append, args := #[s, x], argTypes := #[t, t] })
    (base : Nat) (e : TypeId) (i : TypeInfo) (z : Value) (size bytes : Nat) (ht : P.underlying t = some (.slice e)) (hi : P.info? e = some i) (hz : i.zero = some z)
    (hsize : i.size = size) (hby : i.bytes = bytes) (hzs : z.cells.size = size) (hpos : 0 < size) (hbs : bytes ≤ 64)
    (v : Value) (n : Nat) (xs : List Value) (hs : a.eval s = v) (hown : w.ownsRow base e size v n xs)
    (b : Nat) (news : List Value) (hx : a.eval x = .slice (some ⟨b, 0, none⟩) 1 1) (hl : news.length = size) (hc : ∀ j u, news[j]? = some u → w.cell? ⟨b, j, none⟩ = some u) (h1 : ∀ u ∈ news, u.oneCell' = true)
    (hn : n < 4294967296) (hbase : base ≤ w.heap.size)
    (h : ∀ v' w', w'.ownsRow base e size v' (n + 1) (xs ++ news) → w.grownBy w' v.ownBlock → (v'.ownBlock = v.ownBlock ∨ v'.ownBlock = some w.heap.size) → K (a.put o.dst v') w') : o.wp P a w K Q := by
  have hb : (n + 1) * bytes ≤ 140737488355328 := by
    have : (n + 1) * bytes ≤ 4294967296 * 64 := Nat.mul_le_mul (by omega) hbs
    omega
  obtain ⟨v', w', hrun, h2, h3, _, h5⟩ := run_append_own_at (P := P) w base t o.type e i z size bytes ht hi hz hsize hby hzs hpos v n xs hown ⟨b, 0, none⟩ 1 1 news (by omega) (fun j u hu => by rw [Addr.add_lit, Nat.zero_add]; exact hc j u hu) h1 (by unfold maxLen; omega) hb hbase
  unfold Oper.wp execOp
  simp only [ho, resolve, invoke, builtin, Sem.run_bind, Sem.run_pure, Result.andThen_ok, List.map_toArray, List.map_cons, List.map_nil, hs, hx, hrun]
  exact h v' w' h2 h3 h5
theorem wpList_appS {ops : Array Oper} {rest : List Oper} {o : Oper} {a : Act} {Q : Exit → Act → World → Prop} (hgd : o.guard = none) (s x : Operand) (t : TypeId)
    (ho : o.op = .call { callee := .builtin .append, args := #[s, x], argTypes := #[t, t] })
    (base : Nat) (e : TypeId) (i : TypeInfo) (z : Value) (size bytes : Nat) (ht : P.underlying t = some (.slice e)) (hi : P.info? e = some i) (hz : i.zero = some z)
    (hsize : i.size = size) (hby : i.bytes = bytes) (hzs : z.cells.size = size) (hpos : 0 < size) (hbs : bytes ≤ 64)
    (v : Value) (n : Nat) (xs : List Value) (hs : a.eval s = v) (hown : w.ownsRow base e size v n xs)
    (b : Nat) (news : List Value) (hx : a.eval x = .slice (some ⟨b, 0, none⟩) 1 1) (hl : news.length = size) (hc : ∀ j u, news[j]? = some u → w.cell? ⟨b, j, none⟩ = some u) (h1 : ∀ u ∈ news, u.oneCell' = true)
    (hn : n < 4294967296) (hbase : base ≤ w.heap.size)
    (h : ∀ v' w', w'.ownsRow base e size v' (n + 1) (xs ++ news) → w.grownBy w' v.ownBlock → (v'.ownBlock = v.ownBlock ∨ v'.ownBlock = some w.heap.size) → wpList P ops Q rest (a.put o.dst v') w') : wpList P ops Q (o :: rest) a w :=
  wpList_plain hgd fun _ hK => wp_appS s x t ho base e i z size bytes ht hi hz hsize hby hzs hpos hbs v n xs hs hown b news hx hl hc h1 hn hbase fun v' w' h2 h3 h4 => hK _ _ (h v' w' h2 h3 h4)
theorem step_appS {ops : Array Oper} {o : Oper} {a : Act} {K : Act → World → Prop} {Q : Exit → Act → World → Prop} {E : Prop} (hgd : o.guard = none) (s x : Operand) (t : TypeId)
    (ho : o.op = .call { callee := .builtin .append, args := #[s, x], argTypes := #[t, t] })
    (base : Nat) (e : TypeId) (i : TypeInfo) (z : Value) (size bytes : Nat) (ht : P.underlying t = some (.slice e)) (hi : P.info? e = some i) (hz : i.zero = some z)
    (hsize : i.size = size) (hby : i.bytes = bytes) (hzs : z.cells.size = size) (hpos : 0 < size) (hbs : bytes ≤ 64)
    (v : Value) (n : Nat) (xs : List Value) (hs : a.eval s = v) (hown : w.ownsRow base e size v n xs)
    (b : Nat) (news : List Value) (hx : a.eval x = .slice (some ⟨b, 0, none⟩) 1 1) (hl : news.length = size) (hc : ∀ j u, news[j]? = some u → w.cell? ⟨b, j, none⟩ = some u) (h1 : ∀ u ∈ news, u.oneCell' = true)
    (hn : n < 4294967296) (hbase : base ≤ w.heap.size)
    (h : ∀ v' w', w'.ownsRow base e size v' (n + 1) (xs ++ news) → w.grownBy w' v.ownBlock → (v'.ownBlock = v.ownBlock ∨ v'.ownBlock = some w.heap.size) → K (a.put o.dst v') w') :
    if Region.wanted o (yielded ops a.tmps) = true then Oper.wp P o a w K Q else E := by
  have hw : Region.wanted o (yielded ops a.tmps) = true := by simp [Region.wanted, hgd]
  rw [if_pos hw]
  exact wp_appS s x t ho base e i z size bytes ht hi hz hsize hby hzs hpos hbs v n xs hs hown b news hx hl hc h1 hn hbase h
end

/-- A program that is being read: r the reader, pb its own block, rb the result's. -/
structure PS (w0 wr : World) (r : Nat) (A : Option Addr) (n c : Nat) (bs : List Nat) (st : Nat × Bool) (pb rb : Nat) (ins regs : Int) (cv ov : Value) (code : List Ins) (outs : List Int) : Prop where
  rd : RdP wr r A n c bs st
  r0 : r < w0.heap.size
  ab : ∀ b o, A = some ⟨b, o, none⟩ → 0 < n → b < w0.heap.size
  gr : w0.grownBy wr (some r)
  pge : w0.heap.size ≤ pb
  pblk : wr.heap[pb]? = some (.cells #[.int .i64 ins, .int .i64 regs, cv, ov] 26 (0, 0))
  rge : w0.heap.size ≤ rb
  rpb : rb ≠ pb
  rblk : wr.heap[rb]? = some (.cells #[.int .i64 0, .int .i64 0, .slice none 0 0, .slice none 0 0] 26 (0, 0))
  code : wr.ownsRow w0.heap.size 63 5 cv code.length (vC code)
  outs : wr.ownsRow w0.heap.size 3 1 ov outs.length (vI outs)
section
variable {w0 wr w' : World} {r : Nat} {A : Option Addr} {n c : Nat} {bs : List Nat} {st st' : Nat × Bool} {pb rb : Nat} {ins regs : Int} {cv ov : Value} {code : List Ins} {outs : List Int}
theorem PS.plt (h : PS w0 wr r A n c bs st pb rb ins regs cv ov code outs) : pb < wr.heap.size := (Array.getElem?_eq_some_iff.1 h.pblk).1
theorem PS.prn (h : PS w0 wr r A n c bs st pb rb ins regs cv ov code outs) : pb ≠ r := fun e => by have := h.pge; have := h.r0; omega
theorem PS.p0 (h : PS w0 wr r A n c bs st pb rb ins regs cv ov code outs) : wr.cell? ⟨pb, 0, none⟩ = some (.int .i64 ins) := cell_of_row wr pb 0 _ 26 (0, 0) h.pblk
theorem PS.p1 (h : PS w0 wr r A n c bs st pb rb ins regs cv ov code outs) : wr.cell? ⟨pb, 1, none⟩ = some (.int .i64 regs) := cell_of_row wr pb 1 _ 26 (0, 0) h.pblk
theorem PS.p2 (h : PS w0 wr r A n c bs st pb rb ins regs cv ov code outs) : wr.cell? ⟨pb, 2, none⟩ = some cv := cell_of_row wr pb 2 _ 26 (0, 0) h.pblk
theorem PS.p3 (h : PS w0 wr r A n c bs st pb rb ins regs cv ov code outs) : wr.cell? ⟨pb, 3, none⟩ = some ov := cell_of_row wr pb 3 _ 26 (0, 0) h.pblk
theorem PS.pf (h : PS w0 wr r A n c bs st pb rb ins regs cv ov code outs) (j : Nat) : wr.frozen? ⟨pb, j, none⟩ = false := frozen_of_row wr pb j _ 26 h.pblk
/-- The reader reads on; new blocks are made. -/
theorem PS.keep (h : PS w0 wr r A n c bs st pb rb ins regs cv ov code outs) (hg : wr.grownBy w' (some r)) (hrd : RdP w' r A n c bs st') : PS w0 w' r A n c bs st' pb rb ins regs cv ov code outs where
  rd := hrd
  r0 := h.r0
  ab := h.ab
  gr := h.gr.trans' hg
  pge := h.pge
  pblk := by rw [hg.block pb h.plt (fun e => h.prn (by cases e; rfl))]; exact h.pblk
  rge := h.rge
  rpb := h.rpb
  rblk := by
    rw [hg.block rb (Array.getElem?_eq_some_iff.1 h.rblk).1 (fun e => by cases e; have := h.rge; have := h.r0; omega)]; exact h.rblk
  code := own_congr h.code fun g hv => hg.block g (own_lt h.code hv) (fun e => by cases e; have := (h.code.lt _ hv).1; have := h.r0; omega)
  outs := own_congr h.outs fun g hv => hg.block g (own_lt h.outs hv) (fun e => by cases e; have := (h.outs.lt _ hv).1; have := h.r0; omega)
theorem PS.alloc (h : PS w0 wr r A n c bs st pb rb ins regs cv ov code outs) (o : Obj) : PS w0 (wr.alloc o) r A n c bs st pb rb ins regs cv ov code outs :=
  h.keep (World.grownBy.ofBelow (below_a wr o) _) (h.rd.below (below_a wr o))
/-- Rows that only grow elsewhere. -/
theorem RdIn.grown {T : TypeId} {v1 v2 : Value} {row : Option Nat} (h : RdIn wr T r A n c bs v1 v2 st) (hg : wr.grownBy w' row) (hr : row ≠ some r) (hA : ∀ b o, A = some ⟨b, o, none⟩ → 0 < n → row ≠ some b) : RdIn w' T r A n c bs v1 v2 st := by
  refine ⟨by rw [hg.block r h.rlt (fun e => hr e.symm)]; exact h.blk, ?_, h.le, h.sep, h.lt⟩
  obtain ⟨h1, h2, A', c', h3, h4, h5⟩ := h.bytes
  refine ⟨h1, h2, A', c', h3, h4, fun hn => ?_⟩
  obtain ⟨b, o, h6, h7, h8⟩ := h5 hn
  subst h6
  cases h3
  exact ⟨b, o, rfl, Nat.lt_of_lt_of_le h7 hg.size, fun j u hu => by rw [World.cell?_of_block (w := wr) (a := ⟨b, o + j, none⟩) (hg.block b h7 (fun e => hA b o rfl hn e.symm))]; exact h8 j u hu⟩
theorem far_grown {w w' : World} {base size n : Nat} {e : TypeId} {v : Value} {xs : List Value} (h : w.ownsRow base e size v n xs) {row : Option Nat} (hg : w.grownBy w' row) (hne : ∀ g, v.ownBlock = some g → row ≠ some g) : w'.ownsRow base e size v n xs :=
  own_congr h fun g hv => hg.block g (own_lt h hv) (fun e => hne g hv e.symm)
/-- An instruction more. -/
theorem PS.pushC (h : PS w0 wr r A n c bs st pb rb ins regs cv ov code outs) {v' : Value} {x : Ins} {k : Nat} (hk : k = code.length + 1) (hg : wr.grownBy w' cv.ownBlock) (ho : w'.ownsRow w0.heap.size 63 5 v' k (vC code ++ cI x)) :
    PS w0 (w'.setCell ⟨pb, 2, none⟩ v') r A n c bs st pb rb ins regs v' ov (code ++ [x]) outs := by
  subst hk
  have hc := h.code.lt
  have hr0 := h.r0
  have hrow : ∀ g, cv.ownBlock = some g → w0.heap.size ≤ g := fun g hg => (hc g hg).1
  have hpb : w'.heap[pb]? = some (.cells #[.int .i64 ins, .int .i64 regs, cv, ov] 26 (0, 0)) := by
    rw [hg.block pb h.plt (fun e => own_blk_ne h.code h.pblk (by decide) e.symm)]; exact h.pblk
  have hrb : w'.heap[rb]? = some (.cells #[.int .i64 0, .int .i64 0, .slice none 0 0, .slice none 0 0] 26 (0, 0)) := by
    rw [hg.block rb (Array.getElem?_eq_some_iff.1 h.rblk).1 (fun e => own_blk_ne h.code h.rblk (by decide) e.symm)]; exact h.rblk
  have hrd := h.rd.grown hg (fun e => by have := hrow _ e; omega) (fun b o hA hn e => by have := hrow _ e; have := h.ab b o hA hn; omega)
  have hvc : vC (code ++ [x]) = vC code ++ cI x := by simp [vC]
  refine ⟨?_, h.r0, h.ab, ?_, h.pge, by rw [blk_set hpb]; rfl, h.rge, h.rpb, by rw [set_blk _ h.rpb]; exact hrb, ?_, ?_⟩
  · refine ⟨by rw [set_blk _ (fun e => h.prn e.symm)]; exact hrd.blk, ?_, hrd.le, hrd.sep, hrd.lt⟩
    exact hrd.bytes.far fun b o hA hn => ⟨fun e => by have := h.ab b o (by cases hA; rfl) hn; have := h.pge; omega, trivial⟩
  · refine ⟨hg.os.trans h.gr.os, hg.tape.trans h.gr.tape, hg.output.trans h.gr.output, by have := h.gr.size; have := hg.size; simp [World.setCell]; omega, fun k hk hne => ?_⟩
    rw [set_blk _ (by have := h.pge; omega), hg.block k (Nat.lt_of_lt_of_le hk h.gr.size) (fun e => by have := hrow k e.symm; omega)]
    exact h.gr.block k hk hne
  · rw [hvc, List.length_append]
    exact set_own ho _ (fun e => own_blk_ne ho hpb (by decide) e)
  · exact set_own (far_grown h.outs hg (fun g hv e => own_ne h.code h.outs (by decide) e hv)) _ (fun e => own_blk_ne (far_grown h.outs hg (fun g hv e => own_ne h.code h.outs (by decide) e hv)) hpb (by decide) e)
/-- An out more. -/
theorem PS.pushO (h : PS w0 wr r A n c bs st pb rb ins regs cv ov code outs) {v' : Value} {x : Int} {k : Nat} (hk : k = outs.length + 1) (hg : wr.grownBy w' ov.ownBlock) (ho : w'.ownsRow w0.heap.size 3 1 v' k (vI outs ++ [.int .i64 x])) :
    PS w0 (w'.setCell ⟨pb, 3, none⟩ v') r A n c bs st pb rb ins regs cv v' code (outs ++ [x]) := by
  subst hk
  have hr0 := h.r0
  have hrow : ∀ g, ov.ownBlock = some g → w0.heap.size ≤ g := fun g hg => (h.outs.lt g hg).1
  have hpb : w'.heap[pb]? = some (.cells #[.int .i64 ins, .int .i64 regs, cv, ov] 26 (0, 0)) := by
    rw [hg.block pb h.plt (fun e => own_blk_ne h.outs h.pblk (by decide) e.symm)]; exact h.pblk
  have hrb : w'.heap[rb]? = some (.cells #[.int .i64 0, .int .i64 0, .slice none 0 0, .slice none 0 0] 26 (0, 0)) := by
    rw [hg.block rb (Array.getElem?_eq_some_iff.1 h.rblk).1 (fun e => own_blk_ne h.outs h.rblk (by decide) e.symm)]; exact h.rblk
  have hrd := h.rd.grown hg (fun e => by have := hrow _ e; omega) (fun b o hA hn e => by have := hrow _ e; have := h.ab b o hA hn; omega)
  have hvc : vI (outs ++ [x]) = vI outs ++ [.int .i64 x] := by simp [vI]
  refine ⟨?_, h.r0, h.ab, ?_, h.pge, by rw [blk_set hpb]; rfl, h.rge, h.rpb, by rw [set_blk _ h.rpb]; exact hrb, ?_, ?_⟩
  · refine ⟨by rw [set_blk _ (fun e => h.prn e.symm)]; exact hrd.blk, ?_, hrd.le, hrd.sep, hrd.lt⟩
    exact hrd.bytes.far fun b o hA hn => ⟨fun e => by have := h.ab b o (by cases hA; rfl) hn; have := h.pge; omega, trivial⟩
  · refine ⟨hg.os.trans h.gr.os, hg.tape.trans h.gr.tape, hg.output.trans h.gr.output, by have := h.gr.size; have := hg.size; simp [World.setCell]; omega, fun k hk hne => ?_⟩
    rw [set_blk _ (by have := h.pge; omega), hg.block k (Nat.lt_of_lt_of_le hk h.gr.size) (fun e => by have := hrow k e.symm; omega)]
    exact h.gr.block k hk hne
  · exact set_own (far_grown h.code hg (fun g hv e => own_ne h.outs h.code (by decide) e hv)) _ (fun e => own_blk_ne (far_grown h.code hg (fun g hv e => own_ne h.outs h.code (by decide) e hv)) hpb (by decide) e)
  · rw [hvc, List.length_append]
    exact set_own ho _ (fun e => own_blk_ne ho hpb (by decide) e)
end
end Go.Proofs.Ytcelcognmdcenaa

/-
  WALKS: Step of the program's run: nil, not ready; a node that ends.
-/
import Derived.Test.YtlncdkdkoamadaaW1
import Derived.Test.YtlncdkdkoamadaaData
import Derived.BigRegion
import Derived.StillTailTactics
import Derived.Deep.Cut
namespace Go.Proofs.Ytlncdkdkoamadaa
open Go.RowKit

section
variable {w : World} {lab : Nat → Nat} {k : Nat} {L : Lay} {s : G}

/-- An event's value. -/
def evV (t x : Int) (b : Bool) : Value := .agg #[.int .i64 t, .int .i64 x, .bool b]

set_option maxHeartbeats 400000 in
set_option maxRecDepth 100000 in
theorem step_nil (t : Int) (w : World) :
    Calls Try.prog 17 #[.pointer none, .int .i64 t] w fun e w' => e = .returned (.tuple #[evV 0 0 false, .int .i64 1]) ∧ Below w.heap.size w w' := by
  go_enter Try.func17, Try.ntmps17
  go_wp2
  exact bodyPost_ret (v := .tuple #[evV 0 0 false, .int .i64 1]) (by simp [results, Try.results17, go_sem, evV]) rfl ⟨rfl, (Below.refl _ _).alloc (Nat.le_refl _) _⟩

set_option maxHeartbeats 400000 in
set_option maxRecDepth 100000 in
theorem step_no (h : RunAt w lab k L s) (hI : s.Inv) (hn : s.n ≤ 256) (t : Int) (hr : rdyI s t = false) :
    Calls Try.prog 17 #[.pointer (some ⟨L.r, 0, none⟩), .int .i64 t] w fun e w' => e = .returned (.tuple #[evV 0 0 false, .int .i64 4]) ∧ Below w.heap.size w w' := by
  have hb1 : Below w.heap.size w (w.alloc (.cells #[.int .i64 0, .int .i64 0, .bool false] 41)) := (Below.refl _ _).alloc (Nat.le_refl _) _
  have hrd := ready_any (h.below hb1) hI hn t
  rw [hr] at hrd
  have HT := Lib.hid hrd
  clear hrd hr
  go_enter Try.func17, Try.ntmps17
  go_wp2_with fail
  refine HT.out.mono ?_
  rintro e w' ⟨rfl, j, rfl⟩
  go_wp2
  exact bodyPost_ret (v := .tuple #[evV 0 0 false, .int .i64 4]) (by simp [results, Try.results17, go_sem, evV]) rfl ⟨rfl, (((below_drewN hb1 _).setCell (Nat.le_refl _) _).setCell (Nat.le_refl _) _).setCell (Nat.le_refl _) _⟩

/-- In the midst of a step: the run as far as it has come, the event's cells, what was kept. -/
structure Mid (w W : World) (lab lab2 : Nat → Nat) (k : Nat) (L : Lay) (d : D) : Prop where
  run : RunRaw W lab2 k L d
  keep : Keeps lab k w W
  ev : W.heap[w.heap.size]? = some (.cells #[.int .i64 0, .int .i64 0, .bool false] 41 (0, 0))
  la : ∀ b, b < w.heap.size → lab2 b = lab b
  lb : lab2 w.heap.size = k + 1

theorem Mid.drewN {w W : World} {lab lab2 : Nat → Nat} {k : Nat} {L : Lay} {d : D} (h : Mid w W lab lab2 k L d) (j : Nat) : Mid w (W.drewN j) lab lab2 k L d :=
  ⟨h.run.frame (fun _ _ _ => rfl) (fun _ _ => rfl), h.keep.drewN j, h.ev, h.la, h.lb⟩
theorem Mid.drew {w W : World} {lab lab2 : Nat → Nat} {k : Nat} {L : Lay} {d : D} (h : Mid w W lab lab2 k L d) : Mid w W.drew lab lab2 k L d :=
  ⟨h.run.frame (fun _ _ _ => rfl) (fun _ _ => rfl), h.keep.drew, h.ev, h.la, h.lb⟩
theorem Mid.store {w W : World} {lab lab2 : Nat → Nat} {k : Nat} {L L' : Lay} {d d' : D} (h : Mid w W lab lab2 k L d) {g i : Nat} {u : Value} (hg : lab2 g = k) (hr : RunRaw (W.setCell ⟨g, i, none⟩ u) lab2 k L' d') :
    Mid w (W.setCell ⟨g, i, none⟩ u) lab lab2 k L' d' :=
  ⟨hr, h.keep.setCell (fun hb => by rw [← h.la g hb]; exact hg) u, by
    rw [set_blk _ (fun e => by have := h.lb; rw [e, hg] at this; omega)]; exact h.ev, h.la, h.lb⟩
theorem Mid.evs {w W : World} {lab lab2 : Nat → Nat} {k : Nat} {L : Lay} {d : D} (h : Mid w W lab lab2 k L d) :
    W.cell? ⟨w.heap.size, 0, none⟩ = some (.int .i64 0) ∧ W.cell? ⟨w.heap.size, 1, none⟩ = some (.int .i64 0) ∧ W.cell? ⟨w.heap.size, 2, none⟩ = some (.bool false) ∧
    W.frozen? ⟨w.heap.size, 0, none⟩ = false ∧ W.frozen? ⟨w.heap.size, 1, none⟩ = false ∧ W.frozen? ⟨w.heap.size, 2, none⟩ = false :=
  ⟨cell_of_row W _ 0 _ 41 (0, 0) h.ev, cell_of_row W _ 1 _ 41 (0, 0) h.ev, cell_of_row W _ 2 _ 41 (0, 0) h.ev, frozen_of_row W _ 0 _ 41 h.ev, frozen_of_row W _ 1 _ 41 h.ev, frozen_of_row W _ 2 _ 41 h.ev⟩
/-- The event is written: the run is as it was. -/
theorem Mid.evSet {w W : World} {lab lab2 : Nat → Nat} {k : Nat} {L : Lay} {d : D} (h : Mid w W lab lab2 k L d) (a b c : Value) :
    RunRaw (((W.setCell ⟨w.heap.size, 0, none⟩ a).setCell ⟨w.heap.size, 1, none⟩ b).setCell ⟨w.heap.size, 2, none⟩ c) lab2 k L d ∧
    Keeps lab k w (((W.setCell ⟨w.heap.size, 0, none⟩ a).setCell ⟨w.heap.size, 1, none⟩ b).setCell ⟨w.heap.size, 2, none⟩ c) ∧
    (((W.setCell ⟨w.heap.size, 0, none⟩ a).setCell ⟨w.heap.size, 1, none⟩ b).setCell ⟨w.heap.size, 2, none⟩ c).cell? ⟨w.heap.size, 0, none⟩ = some a ∧
    (((W.setCell ⟨w.heap.size, 0, none⟩ a).setCell ⟨w.heap.size, 1, none⟩ b).setCell ⟨w.heap.size, 2, none⟩ c).cell? ⟨w.heap.size, 1, none⟩ = some b ∧
    (((W.setCell ⟨w.heap.size, 0, none⟩ a).setCell ⟨w.heap.size, 1, none⟩ b).setCell ⟨w.heap.size, 2, none⟩ c).cell? ⟨w.heap.size, 2, none⟩ = some c := by
  have hblk := blk_set (blk_set (blk_set h.ev 0 a) 1 b) 2 c
  have hk := h.run.k0
  have h1 : lab2 w.heap.size ≠ k := by rw [h.lb]; omega
  have h2 : lab2 w.heap.size ≠ 0 := by rw [h.lb]; omega
  have h3 : w.heap.size < w.heap.size → lab w.heap.size = k := fun e => absurd e (by omega)
  exact ⟨((h.run.setFar (p := ⟨w.heap.size, 0, none⟩) h1 h2 a).setFar (p := ⟨w.heap.size, 1, none⟩) h1 h2 b).setFar (p := ⟨w.heap.size, 2, none⟩) h1 h2 c,
    ((h.keep.setCell (p := ⟨w.heap.size, 0, none⟩) h3 a).setCell (p := ⟨w.heap.size, 1, none⟩) h3 b).setCell (p := ⟨w.heap.size, 2, none⟩) h3 c,
    cell_of_row _ _ 0 _ 41 (0, 0) hblk, cell_of_row _ _ 1 _ 41 (0, 0) hblk, cell_of_row _ _ 2 _ 41 (0, 0) hblk⟩
theorem Mid.start {w : World} {lab : Nat → Nat} {k : Nat} {L : Lay} {s : G} (h : RunAt w lab k L s) (j : Nat) :
    ∃ lab2, Mid w ((w.alloc (.cells #[.int .i64 0, .int .i64 0, .bool false] 41)).drewN j) lab lab2 k L s.data := by
  have hb1 : Below w.heap.size w (w.alloc (.cells #[.int .i64 0, .int .i64 0, .bool false] 41)) := (Below.refl _ _).alloc (Nat.le_refl _) _
  have hB := below_drewN hb1 j
  refine ⟨fun b => if b < w.heap.size then lab b else k + 1, RunRaw.frame h (fun b hb _ => hB.block b hb) (fun b hb => by simp [hb]), Keeps.of_below hB, heap_alloc_new w _, fun b hb => by simp [hb], by simp⟩

set_option maxHeartbeats 1000000 in
set_option maxRecDepth 100000 in
theorem step_end (h : RunAt w lab k L s) (hI : s.Inv) (hn : s.n ≤ 256) (t : Nat) (hr : s.rdy t = true) (hk : s.kid? (s.top t) = none) :
    Calls Try.prog 17 #[.pointer (some ⟨L.r, 0, none⟩), .int .i64 t] w fun e w' => e = .returned (.tuple #[evV t (s.top t) true, .int .i64 0]) ∧
      ∃ lab' L', L'.r = L.r ∧ (∀ b, b < w.heap.size → lab' b = lab b) ∧ RunAt w' lab' k L' (s.step t) ∧ Keeps lab k w w' := by
  have hb1 : Below w.heap.size w (w.alloc (.cells #[.int .i64 0, .int .i64 0, .bool false] 41)) := (Below.refl _ _).alloc (Nat.le_refl _) _
  have hrd := ready_any (h.below hb1) hI hn t
  rw [show rdyI s t = true by simp [rdyI, hr]] at hrd
  have HT := Lib.hid hrd
  have HK := Lib.hid hk
  have HR := Lib.hid hr
  clear hrd hr hk
  go_enter Try.func17, Try.ntmps17
  go_wp2_with fail
  refine HT.out.mono ?_
  rintro e w' ⟨rfl, j, rfl⟩
  obtain ⟨lab2, M2⟩ := Mid.start h j
  generalize (w.alloc (.cells #[.int .i64 0, .int .i64 0, .bool false] 41)).drewN j = W2 at *
  have f6 := M2.run.fields.2.2.2.2.2.2
  have g6 := M2.run.free 6
  have hmv := G.mov_le hI
  have emv : s.data.mov = s.mov := rfl
  rw [emv] at f6
  clear emv HT
  go_wp2_with fail
  obtain ⟨htT, hne, _⟩ := G.rdy_spec HR.out
  have hp := G.top_lt hI htT hne
  have M3 := M2.store M2.run.lr (M2.run.setMov (s.mov + 1) (↑s.mov + 1) (by omega))
  have T3 := top_any M3.run hI.thr (fun t ht => Nat.le_trans (G.stk_len hI ht) hn) t
  have eN : topN ({ s.data with mov := s.mov + 1 } : D) t = s.top t := by unfold topN; rw [if_pos ⟨by omega, by show (t : Int) < s.T; omega, hne⟩]; rfl
  have eB : topB ({ s.data with mov := s.mov + 1 } : D) t = true := by
    show (decide (0 ≤ (t : Int) ∧ (t : Int) < (s.T : Int)) && !(s.stk t).isEmpty) = true
    simp [hne, htT]
  rw [eN, eB] at T3
  refine T3.mono ?_
  rintro e w' ⟨rfl, j3, rfl⟩
  have M4 := M3.drewN j3
  clear T3 M3 M2 f6 g6 eN eB
  generalize (W2.setCell ⟨L.r, 6, none⟩ (.int .i64 (↑s.mov + 1))).drewN j3 = W3 at *
  obtain ⟨gc, cc, hvc, _, _, _, c4⟩ := M4.run.chs hI.tree.pos
  obtain ⟨gx, cx, hvx, _, _, _, x4, _⟩ := M4.run.nxs hI.tree.pos
  obtain ⟨gs, cs, hvs, s1, s2, _, s4, s5⟩ := M4.run.stacks hI.thr
  obtain ⟨f0, f1, _, _, f4, _⟩ := M4.run.fields
  rw [hvc] at f0
  rw [hvx] at f1
  rw [hvs] at f4
  have c5 := c4 _ hp
  have x5 := x4 _ hp
  have s6 := s4 _ htT
  have s7 := s5 t
  obtain ⟨A, c, hA⟩ := M4.run.kids hp
  obtain ⟨g, cg, hG, hG1, hG2, hG3, hG4, htop⟩ := M4.run.stackTop htT hne
  rw [hA] at c5
  rw [hG] at s6
  have hlen := G.stk_len hI htT
  have hpos : 0 < (s.stk t).length := by
    cases e : s.stk t with
    | nil => rw [e] at hne; cases hne
    | cons => simp
  have hq : s.nx (s.top t) = (s.ch (s.top t)).length := by
    have h1 := s.nx_le (s.top t)
    have h2 : ¬ s.nx (s.top t) < (s.ch (s.top t)).length := by rw [G.nx_lt, HK.out]; simp
    omega
  have x6 : W3.cell? ⟨gx, s.top t, none⟩ = some (.int .i64 ((s.ch (s.top t)).length : Nat)) := by rw [← hq]; exact x5
  have hcl := s.ch_le (s.top t)
  change W3.cell? ⟨gc, s.top t, none⟩ = some (.slice A (s.ch (s.top t)).length c) at c5
  change W3.cell? ⟨gs, t, none⟩ = some (.slice (some ⟨g, 0, none⟩) (s.stk t).length cg) at s6
  have HM := Lib.hid M4
  have HA := Lib.hid hvs
  have HG := Lib.hid hG
  have HG4 := Lib.hid hG4
  have HQ := Lib.hid hq
  change (s.stk t).length ≤ cg at hG1
  clear M4 hvc hvx hvs c4 x4 s4 s5 hA x5 hG hG4 htop hq hne
  unfold maxLen at hG2 s2
  change W3.cell? ⟨L.r, 0, none⟩ = some (.slice (some ⟨gc, 0, none⟩) s.n cc) at f0
  change W3.cell? ⟨L.r, 1, none⟩ = some (.slice (some ⟨gx, 0, none⟩) s.n cx) at f1
  change W3.cell? ⟨L.r, 4, none⟩ = some (.slice (some ⟨gs, 0, none⟩) s.T cs) at f4
  generalize hpp : s.top t = p at *
  generalize hm : (s.ch p).length = m at *
  generalize hnn : (s.stk t).length = n at *
  have Hpp := Lib.hid hpp
  have Hm := Lib.hid hm
  have Hnn := Lib.hid hnn
  clear hpp hm hnn
  go_wp2_with fail
  go_quiet (fail)
  go_wp2_with fail
  go_region
  -- the stack is shorter
  have M5 := (HM.out.drewN (nq + 1))
  have hst5 : (W3.drewN (nq + 1)).ownsRow 0 3 1 (.slice (some ⟨g, 0, none⟩) (n - 1) cg) (s.stk t).dropLast.length (intl (s.stk t).dropLast) := by
    have h1 := M5.run.ss t htT
    rw [HG.out] at h1
    have h2 := own_short h1 (m := n - 1) (by show n - 1 ≤ (s.stk t).length; rw [Hnn.out]; omega)
    have e1 : (s.stk t).dropLast.length = n - 1 := by rw [List.length_dropLast, Hnn.out]
    have e2 : (intl (s.stk t)).take (n - 1) = intl (s.stk t).dropLast := by rw [List.dropLast_eq_take, Hnn.out]; simp [intl, List.map_take]
    change (W3.drewN (nq + 1)).ownsRow 0 3 1 (.slice (some ⟨g, 0, none⟩) (n - 1) cg) (n - 1) ((intl (s.stk t)).take (n - 1)) at h2
    rw [e1, ← e2]; exact h2
  have M6 := M5.store (M5.run.lst gs (by rw [HA.out]; rfl)) (M5.run.setStk (t := t) HA.out (.slice (some ⟨g, 0, none⟩) (n - 1) cg) (s.stk t).dropLast (fun u => if u = t then .slice (some ⟨g, 0, none⟩) (n - 1) cg else L.vs u) (fun u => if u = t then (s.stk t).dropLast else s.stk u)
    (by simp) (fun u hu => by simp [hu]) (by simp) (fun u hu => by simp only [hu, if_false]; rfl) hst5
    (fun b hb => by
      cases hb
      exact ⟨M5.run.lss t htT g HG4.out, (M5.run.d2 t htT g HG4.out).1, (M5.run.d2 t htT g HG4.out).2, fun u hu hut => M5.run.d3 t u htT hu (fun e => hut e.symm) g HG4.out⟩))
  clear M5 hst5 s6 s7 f0 f1 f4 c5 x6
  generalize (W3.drewN (nq + 1)).setCell ⟨gs, t, none⟩ (.slice (some ⟨g, 0, none⟩) (n - 1) cg) = W4 at *
  obtain ⟨gq, cq, hvq, _, _, _, q4, q5⟩ := M6.run.ops hI.tree.pos
  obtain ⟨_, _, _, _, _, f5, _⟩ := M6.run.fields
  change W4.cell? ⟨L.r, 5, none⟩ = some L.vop at f5
  change L.vop = .slice (some ⟨gq, 0, none⟩) s.n cq at hvq
  rw [hvq] at f5
  have q6 := q4 _ hp
  have q7 := q5 p
  have HQ := Lib.hid hvq
  have HM6 := Lib.hid M6
  clear M6 hvq q4 q5 HM
  have hdo : (s.kid? p).isSome = true ∨ s.ou p = 0 := by assumption
  have hou : s.ou p = 0 := by
    rcases hdo with e | e
    · rw [HK.out] at e; cases e
    · exact e
  have M7 := HM6.out.store (HM6.out.run.lop gq (by rw [HQ.out]; rfl)) (HM6.out.run.setOpn (i := p) HQ.out false (fun i => if i = p then false else s.opn i) (by simp) (fun i hi => by simp only [hi, if_false]; rfl))
  go_upto_region 10 with (fail)
  clear f5 q6 q7 HM6
  generalize W4.setCell ⟨gq, p, none⟩ (.bool false) = W5 at *
  have HD := Lib.hid (G.data_end hI HR.out (by rw [Hpp.out]; exact HK.out))
  by_cases hp0 : 0 < p
  · -- the parent has one open child less
    have hpar := hI.tree.par p hp0 hp
    obtain ⟨q, hq⟩ := Int.eq_ofNat_of_zero_le hpar.1
    have hqp : q < p := by omega
    have hkq : s.kid q p = true := by simp [G.kid, hp0, hq]
    have hou1 : 1 ≤ s.ou q := by
      have h1 : s.opn p = true := by
        have := hI.stkO t htT _ (G.top_mem (G.rdy_spec HR.out).2.1)
        rw [Hpp.out] at this; exact this
      have := G.filter_unset (p := s.opn) (s.ch_nodup q) (G.mem_ch.2 ⟨hp, hkq⟩) h1
      unfold G.ou; omega
    obtain ⟨go, co, hvo, o1, o2, _, o4, o5⟩ := M7.run.ous hI.tree.pos
    obtain ⟨gp, cp, hvp, _, _, _, p4⟩ := M7.run.pas hI.tree.pos
    obtain ⟨_, _, f2, f3, _⟩ := M7.run.fields
    change W5.cell? ⟨L.r, 2, none⟩ = some L.vou at f2
    change L.vou = .slice (some ⟨go, 0, none⟩) s.n co at hvo
    change W5.cell? ⟨L.r, 3, none⟩ = some L.vpa at f3
    change L.vpa = .slice (some ⟨gp, 0, none⟩) s.n cp at hvp
    rw [hvo] at f2
    rw [hvp] at f3
    have p5 : W5.cell? ⟨gp, p, none⟩ = some (.int .i64 (q : Nat)) := by rw [← hq]; exact p4 p hp
    have o6 : W5.cell? ⟨go, q, none⟩ = some (.int .i64 (s.ou q : Nat)) := o4 q (by show q < s.n; omega)
    have o7 := o5 q
    have hqn : q < s.n := by omega
    have houl := s.ou_le q
    have hchl := s.ch_le q
    have HO := Lib.hid hvo
    have HM7 := Lib.hid M7
    have HQ2 := Lib.hid hq
    have HKQ := Lib.hid hkq
    clear M7 hvo hvp o4 o5 p4 hq hkq
    generalize hOU : s.ou q = ouq at *
    have HOU := Lib.hid hOU
    clear hOU
    go_wp2_with fail
    go_region
    have M9 := (HM7.out.store (HM7.out.run.lou go (by rw [HO.out]; rfl)) (HM7.out.run.setOu (i := q) HO.out (↑ouq - 1) (fun x => if s.kid x p = true then s.ou x - 1 else s.ou x)
      (by rw [if_pos HKQ.out, HOU.out]; omega) (fun x hx => by
        rw [if_neg (fun h => hx (G.kid_uniq h HKQ.out))]; rfl))).drew
    clear f2 f3 p5 o6 o7 HM7
    generalize (W5.setCell ⟨go, q, none⟩ (.int .i64 (↑ouq - 1))).drew = W6 at *
    obtain ⟨e1, e2, e3, e4, e5, e6⟩ := M9.evs
    have HM9 := Lib.hid M9
    clear M9
    go_wp2_with fail
    obtain ⟨hf1, hf2, hf3, hf4, hf5⟩ := HM9.out.evSet (.int .i64 t) (.int .i64 p) (.bool true)
    refine bodyPost_ret (v := .tuple #[evV t p true, .int .i64 0]) (by simp [results, Try.results17, go_sem, evV, hf3, hf4, hf5]) rfl ⟨by rw [Hpp.out], lab2, { L with vs := fun u => if u = t then .slice (some ⟨g, 0, none⟩) (n - 1) cg else L.vs u }, rfl, HM9.out.la, ?_, hf2⟩
    unfold RunAt
    rw [HD.out, Hpp.out]
    exact hf1
  · have hp00 : p = 0 := by omega
    subst hp00
    obtain ⟨e1, e2, e3, e4, e5, e6⟩ := M7.evs
    have HM7 := Lib.hid M7
    clear M7
    go_wp2_with fail
    obtain ⟨hf1, hf2, hf3, hf4, hf5⟩ := HM7.out.evSet (.int .i64 t) (.int .i64 0) (.bool true)
    refine bodyPost_ret (v := .tuple #[evV t 0 true, .int .i64 0]) (by simp [results, Try.results17, go_sem, evV, hf3, hf4, hf5]) rfl ⟨by rw [Hpp.out]; rfl, lab2, { L with vs := fun u => if u = t then .slice (some ⟨g, 0, none⟩) (n - 1) cg else L.vs u }, rfl, HM7.out.la, ?_, hf2⟩
    unfold RunAt
    rw [HD.out, Hpp.out]
    have e : (fun q => if s.kid q 0 = true then s.ou q - 1 else s.ou q) = s.ou := funext fun q => by simp [G.kid]
    rw [e]
    exact hf1
end
end Go.Proofs.Ytlncdkdkoamadaa

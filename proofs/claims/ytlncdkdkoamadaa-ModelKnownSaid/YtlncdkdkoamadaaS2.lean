/-
  WALKS: Step of the program's run: a node that begins.
-/
import Derived.Test.YtlncdkdkoamadaaS1
import Derived.Test.YtlncdkdkoamadaaW2
import Derived.Test.YtlncdkdkoamadaaW3
import Derived.Test.YtlncdkdkoamadaaApp2
import Derived.Deep.RegionLaw
import Derived.Deep.CutRange
namespace Go.Proofs.Ytlncdkdkoamadaa
open Go.RowKit

section
variable {w : World} {lab : Nat → Nat} {k : Nat} {L : Lay} {s : G}

theorem Mid.below {w W W' : World} {lab lab2 : Nat → Nat} {k : Nat} {L : Lay} {d : D} (h : Mid w W lab lab2 k L d) (hb : Below W.heap.size W W') : Mid w W' lab lab2 k L d :=
  ⟨h.run.below hb, h.keep.below_trans hb, (hb.block _ (Array.getElem?_eq_some_iff.1 h.ev).1).trans h.ev, h.la, h.lb⟩

/-- What the walk reads behind the append. -/
theorem RunRaw.appFacts {W w' : World} {lab : Nat → Nat} {k : Nat} {L : Lay} {d : D} (h : RunRaw W lab k L d) {t : Nat} (ht : t < d.T) {o : Obj} {A : Option Addr} {n cg gs cs : Nat} (hA : L.vs t = .slice A n cg) (hvs : L.vst = .slice (some ⟨gs, 0, none⟩) d.T cs)
    (hg : (W.alloc o).drew.grownBy w' (Value.slice A n cg).ownBlock) :
    w'.cell? ⟨L.r, 4, none⟩ = some (.slice (some ⟨gs, 0, none⟩) d.T cs) ∧ w'.cell? ⟨gs, t, none⟩ = some (.slice A n cg) ∧ w'.frozen? ⟨gs, t, none⟩ = false := by
  have h1 : RunRaw (W.alloc o).drew lab k L d := h.below (((Below.refl _ _).alloc (Nat.le_refl _) o).drew)
  rw [← hA] at hg
  obtain ⟨hb, hst⟩ := h1.grownStk ht hg
  rw [hvs] at hst hb
  refine ⟨cell_of_row w' _ 4 _ 67 (0, 0) hb, ?_, hst.frozenAt t⟩
  rw [hst.cellAt t (by omega), vals_get ht, hA]
theorem own_pos {w : World} {base : Nat} {e : TypeId} {size n : Nat} {v : Value} {xs : List Value} (h : w.ownsRow base e size v (n + 1) xs) : ∃ g c, v = .slice (some ⟨g, 0, none⟩) (n + 1) c := by
  rcases h.2 with ⟨_, h0⟩ | ⟨g, cap, cur, hv, _⟩
  · omega
  · exact ⟨g, cap, hv⟩

theorem Mid.app {w W W' : World} {lab lab2 : Nat → Nat} {k : Nat} {L : Lay} {d : D} (h : Mid w W lab lab2 k L d) {t : Nat} (ht : t < d.T) (hg : W.grownBy W' (L.vs t).ownBlock) {g c : Nat} (hv : L.vst = .slice (some ⟨g, 0, none⟩) d.T c) (v : Value) (l : List Nat) (vs : Nat → Value) (stk : Nat → List Nat)
    (e1 : vs t = v) (e2 : ∀ u, u ≠ t → vs u = L.vs u) (e3 : stk t = l) (e4 : ∀ u, u ≠ t → stk u = d.stk u)
    (ho : W'.ownsRow 0 3 1 v l.length (intl l)) (hat : v.ownBlock = (L.vs t).ownBlock ∨ v.ownBlock = some W.heap.size) :
    ∃ lab3, Mid w (W'.setCell ⟨g, t, none⟩ v) lab lab3 k { L with vs := vs } { d with stk := stk } := by
  have hN := (Array.getElem?_eq_some_iff.1 h.ev).1
  have hgN : g < W.heap.size := own_lt h.run.st (by rw [hv]; rfl)
  have hlg : lab2 g = k := h.run.lst g (by rw [hv]; rfl)
  refine ⟨fun b => if b < W.heap.size then lab2 b else k, ?_⟩
  have hs := h.keep.size
  refine ⟨h.run.app ht hg hv v l vs stk e1 e2 e3 e4 ho (hat.imp id fun e => ⟨_, e, Nat.le_refl _, by simp⟩) (fun b hb => by simp [hb]), ?_, ?_, ?_, ?_⟩
  · refine (h.keep.grown hg (fun b hb hlt => ?_)).setCell (fun hlt => ?_) _
    · rw [← h.la b hlt]; exact h.run.lss t ht b hb
    · rw [← h.la g hlt]; exact hlg
  · rw [set_blk _ (fun e => by have := h.lb; rw [e, hlg] at this; omega)]
    rw [hg.block _ hN (fun e => by have := h.run.lss t ht _ e.symm; rw [h.lb] at this; omega)]
    exact h.ev
  · intro b hb
    simp [show b < W.heap.size by omega, h.la b hb]
  · simp [hN, h.lb]

set_option maxHeartbeats 3000000 in
set_option maxRecDepth 100000 in
theorem step_beg (h : RunAt w lab k L s) (hI : s.Inv) (hn : s.n ≤ 256) (hT2 : s.T ≤ 17) (t c : Nat) (hr : s.rdy t = true) (hk : s.kid? (s.top t) = some c) :
    Calls Try.prog 17 #[.pointer (some ⟨L.r, 0, none⟩), .int .i64 t] w fun e w' => e = .returned (.tuple #[evV (s.onto t) c false, .int .i64 0]) ∧
      ∃ lab' L', L'.r = L.r ∧ (∀ b, b < w.heap.size → lab' b = lab b) ∧ RunAt w' lab' k L' (s.step t) ∧ Keeps lab k w w' := by
  have hb1 : Below w.heap.size w (w.alloc (.cells #[.int .i64 0, .int .i64 0, .bool false] 41)) := (Below.refl _ _).alloc (Nat.le_refl _) _
  have hrd := ready_any (h.below hb1) hI hn t
  rw [show rdyI s t = true by simp [rdyI, hr]] at hrd
  have HT := Lib.hid hrd
  have HK := Lib.hid hk
  have HR := Lib.hid hr
  clear hrd hr hk
  go_enter Try.func17, Try.ntmps17
  go_wp2_with fail
  refine HT.out.mono ?_
  rintro e w' ⟨rfl, j, rfl⟩
  obtain ⟨lab2, M2⟩ := Mid.start h j
  generalize (w.alloc (.cells #[.int .i64 0, .int .i64 0, .bool false] 41)).drewN j = W2 at *
  have f6 := M2.run.fields.2.2.2.2.2.2
  have g6 := M2.run.free 6
  have hmv := G.mov_le hI
  have emv : s.data.mov = s.mov := rfl
  rw [emv] at f6
  clear emv HT
  go_wp2_with fail
  obtain ⟨htT, hne, _⟩ := G.rdy_spec HR.out
  have hp := G.top_lt hI htT hne
  have M3 := M2.store M2.run.lr (M2.run.setMov (s.mov + 1) (↑s.mov + 1) (by omega))
  have T3 := top_any M3.run hI.thr (fun t ht => Nat.le_trans (G.stk_len hI ht) hn) t
  have eN : topN ({ s.data with mov := s.mov + 1 } : D) t = s.top t := by unfold topN; rw [if_pos ⟨by omega, by show (t : Int) < s.T; omega, hne⟩]; rfl
  have eB : topB ({ s.data with mov := s.mov + 1 } : D) t = true := by
    show (decide (0 ≤ (t : Int) ∧ (t : Int) < (s.T : Int)) && !(s.stk t).isEmpty) = true
    simp [hne, htT]
  rw [eN, eB] at T3
  refine T3.mono ?_
  rintro e w' ⟨rfl, j3, rfl⟩
  have M4 := M3.drewN j3
  clear T3 M3 M2 f6 g6 eN eB
  generalize (W2.setCell ⟨L.r, 6, none⟩ (.int .i64 (↑s.mov + 1))).drewN j3 = W3 at *
  obtain ⟨gc, cc, hvc, _, _, _, c4⟩ := M4.run.chs hI.tree.pos
  obtain ⟨gx, cx, hvx, _, _, _, x4, x8⟩ := M4.run.nxs hI.tree.pos
  obtain ⟨f0, f1, _⟩ := M4.run.fields
  rw [hvc] at f0
  rw [hvx] at f1
  have c5 := c4 _ hp
  have x5 := x4 _ hp
  have hget := G.ch_nx hI HK.out
  obtain ⟨gk, ck, hA, _, hkc⟩ := M4.run.kidAt hp hget
  have hcn := (G.kid?_some HK.out).1
  rw [hA] at c5
  have hlt : s.nx (s.top t) < (s.ch (s.top t)).length := by rw [G.nx_lt, HK.out]; rfl
  have hcl := s.ch_le (s.top t)
  have hou := s.ou_le (s.top t)
  change W3.cell? ⟨gc, s.top t, none⟩ = some (.slice (some ⟨gk, 0, none⟩) (s.ch (s.top t)).length ck) at c5
  change W3.cell? ⟨gx, s.top t, none⟩ = some (.int .i64 (s.nx (s.top t) : Nat)) at x5
  have x9 := x8 (s.top t)
  have HM := Lib.hid M4
  have HX := Lib.hid hvx
  clear M4 hvc hvx c4 x4 x8 hA hne hget
  change W3.cell? ⟨L.r, 0, none⟩ = some (.slice (some ⟨gc, 0, none⟩) s.n cc) at f0
  change W3.cell? ⟨L.r, 1, none⟩ = some (.slice (some ⟨gx, 0, none⟩) s.n cx) at f1
  have HD := Lib.hid (G.data_beg hI HK.out)
  generalize hpp : s.top t = p at *
  generalize hm : (s.ch p).length = m at *
  generalize hqq : s.nx p = q at *
  generalize hoo : s.ou p = o at *
  have Hpp := Lib.hid hpp
  have Hm := Lib.hid hm
  have Hq := Lib.hid hqq
  have Ho := Lib.hid hoo
  have d1 : ((q : Int) == (m : Int)) = false := by simp; omega
  clear hpp hm hqq hoo
  go_wp2_with fail
  go_quiet (fail)
  revert nq
  intro na
  go_wp2_with fail
  go_quiet (fail)
  go_upto_region 15 with (fail)
  -- one more child has begun
  have M5 := (HM.out.drewN (na + nq)).store (HM.out.run.lnx gx (by rw [HX.out]; rfl)) ((HM.out.drewN (na + nq)).run.setNx (i := p) HX.out (↑q + 1) (fun x => if x = p then s.nx x + 1 else s.nx x)
    (by rw [if_pos rfl, Hq.out]; omega) (fun x hx => by rw [if_neg hx]; rfl))
  clear HM f0 f1 c5 x5 x9 hkc d1
  generalize (W3.drewN (na + nq)).setCell ⟨gx, p, none⟩ (.int .i64 (↑q + 1)) = W4 at *
  obtain ⟨go, co, hvo, _, _, _, o4, o8⟩ := M5.run.ous hI.tree.pos
  obtain ⟨_, _, f2, _⟩ := M5.run.fields
  change W4.cell? ⟨L.r, 2, none⟩ = some L.vou at f2
  change L.vou = .slice (some ⟨go, 0, none⟩) s.n co at hvo
  rw [hvo] at f2
  have o5 : W4.cell? ⟨go, p, none⟩ = some (.int .i64 (o : Nat)) := by rw [← Ho.out]; exact o4 p hp
  have o9 := o8 p
  have HO := Lib.hid hvo
  have HM := Lib.hid M5
  clear M5 hvo o4 o8
  go_upto_region 16 with (fail)
  have M6 := HM.out.store (HM.out.run.lou go (by rw [HO.out]; rfl)) (HM.out.run.setOu (i := p) HO.out (↑o + 1) (fun x => if x = p then s.ou x + 1 else s.ou x)
    (by rw [if_pos rfl, Ho.out]; omega) (fun x hx => by rw [if_neg hx]; rfl))
  clear HM f2 o5 o9
  generalize W4.setCell ⟨go, p, none⟩ (.int .i64 (↑o + 1)) = W5 at *
  obtain ⟨gq, cq, hvq, _, _, _, q4, q8⟩ := M6.run.ops hI.tree.pos
  obtain ⟨_, _, _, _, _, f5, _⟩ := M6.run.fields
  change W5.cell? ⟨L.r, 5, none⟩ = some L.vop at f5
  change L.vop = .slice (some ⟨gq, 0, none⟩) s.n cq at hvq
  rw [hvq] at f5
  have q5 := q4 c hcn
  have q9 := q8 c
  have HQ := Lib.hid hvq
  have HM := Lib.hid M6
  clear M6 hvq q4 q8
  go_upto_region 17 with (fail)
  have M7 := HM.out.store (HM.out.run.lop gq (by rw [HQ.out]; rfl)) (HM.out.run.setOpn (i := c) HQ.out true (fun i => if i = c then true else s.opn i) (by simp) (fun i hi => by simp only [hi, if_false]; rfl))
  clear HM f5 q5 q9
  generalize W5.setCell ⟨gq, c, none⟩ (.bool true) = W6 at *
  have T7 := free_any M7.run hI.thr hT2 (fun t ht => Nat.le_trans (G.stk_len hI ht) hn)
  change Calls Try.prog 40 _ _ (fun e w' => e = .returned (.tuple #[.int .i64 ((s.free?.getD 0 : Nat)), .bool s.free?.isSome]) ∧ _) at T7
  have hon : s.onto t = bif s.free?.isSome then s.free?.getD 0 else t := by unfold G.onto; cases s.free? <;> rfl
  have hu : s.onto t < s.T := G.onto_lt htT
  generalize s.free?.isSome = fb at *
  generalize s.free?.getD 0 = g0 at *
  obtain ⟨u, hut⟩ : ∃ u, u = s.onto t := ⟨_, rfl⟩
  rw [← hut] at hu hon
  have Hon := Lib.hid hut.symm
  have Hu := Lib.hid hon
  have HT7 := Lib.hid T7
  have HM := Lib.hid M7
  clear M7 T7 hut hon
  go_wp2_with fail
  refine HT7.out.mono ?_
  rintro e w' ⟨rfl, rfl⟩
  clear HT7
  go_upto_if 143 with (fail)
  go_cut [9] from 142 to 145 (fun v wx => v = .int .i64 (u : Nat) ∧ W6 = wx)
  case first =>
    cases fb
    · go_wp2_with fail
      go_meet
      case rel => exact ⟨by rw [Hu.out]; rfl, rfl⟩
    · go_wp2_with fail
      go_meet
      case rel => exact ⟨by rw [Hu.out]; rfl, rfl⟩
  obtain ⟨rfl, rfl⟩ := hcut
  go_upto_region 20 with (fail)
  obtain ⟨gs, cs, hvs, s1, s2, hgs, s4, s5⟩ := HM.out.run.stacks hI.thr
  obtain ⟨_, _, _, _, f4, _⟩ := HM.out.run.fields
  rw [hvs] at f4
  have s6 := s4 u hu
  have s7 := s5 u
  have hown := HM.out.run.ss u hu
  obtain ⟨A, cg, hA⟩ := HM.out.run.stack hu
  rw [hA] at s6 hown
  have hlen := G.stk_len hI hu
  change L.vs u = .slice A (s.stk u).length cg at hA
  have HA := Lib.hid hA
  have HVS := Lib.hid hvs
  change W6.ownsRow 0 3 1 (.slice A (s.stk u).length cg) (s.stk u).length (intl (s.stk u)) at hown
  change W6.cell? ⟨gs, u, none⟩ = some (.slice A (s.stk u).length cg) at s6
  change W6.cell? ⟨L.r, 4, none⟩ = some (.slice (some ⟨gs, 0, none⟩) s.T cs) at f4
  have HOWN := Lib.hid hown
  have HNN := Lib.hid (rfl : (s.stk u).length = (s.stk u).length)
  generalize hnn : (s.stk u).length = n at *
  have Hnn := Lib.hid hnn
  clear hA hvs s4 s5 hown hnn HNN
  have kA4 : ∀ o, (W6.alloc o).cell? ⟨L.r, 4, none⟩ = some (.slice (some ⟨gs, 0, none⟩) s.T cs) := fun o => (World.cell?_alloc_lt _ _ _ HM.out.run.rlt).trans f4
  have kA6 : ∀ o, (W6.alloc o).cell? ⟨gs, u, none⟩ = some (.slice A n cg) := fun o => (World.cell?_alloc_lt _ _ _ hgs).trans s6
  obtain ⟨i0, hi, hz0, hz1, hz2⟩ := info_parts info3
  go_cut [] from 145 to 161 (fun wx => Hid (∃ lab3 L', L'.r = L.r ∧ Mid w wx lab lab3 k L' { n := s.n, T := s.T, par := s.par, ch := s.ch, nx := fun x => if x = p then s.nx x + 1 else s.nx x, ou := fun x => if x = p then s.ou x + 1 else s.ou x, opn := fun i => if i = c then true else s.opn i, stk := fun x => if x = s.onto t then s.stk x ++ [c] else s.stk x, mov := s.mov + 1 }))
  case first =>
    go_region_law (refine step_app1 rfl (.tmp 156) (.tmp 158) 22 rfl 0 3 i0 (.int .i64 0) 8 Try.underlying22 hi hz0 hz1 hz2 rfl (by decide) (.slice A n cg) n (intl (s.stk u)) (by simp [Act.eval]) (own_congr HOWN.out (fun b hb => Below.heap_alloc _ _ _ (own_lt HOWN.out hb))) ⟨W6.heap.size, 0, none⟩ (.int .i64 c) (by simp [Act.eval]) (cell_new1 _ _ _) rfl (by omega) (Nat.zero_le _) ?_; intro v' w' ho' hg' hat'; obtain ⟨k4, k6, e6⟩ := HM.out.run.appFacts hu HA.out HVS.out hg'; change w'.cell? ⟨L.r, 4, none⟩ = some (.slice (some ⟨gs, 0, none⟩) s.T cs) at k4; obtain ⟨g', c', hv'⟩ := own_pos ho'; subst hv'; have HO' := Lib.hid ho'; have HG' := Lib.hid hg'; have HAT := Lib.hid hat'; clear ho' hg' hat')
    all_goals
      have MB := HM.out.below (((Below.refl _ _).alloc (Nat.le_refl _) (.cells #[.int .i64 c] 3)).drew)
      have M8 := MB.app hu (by rw [HA.out]; exact HG'.out) HVS.out (.slice (some ⟨g', 0, none⟩) (n + 1) c') (s.stk u ++ [c]) (fun x => if x = u then .slice (some ⟨g', 0, none⟩) (n + 1) c' else L.vs x) (fun x => if x = s.onto t then s.stk x ++ [c] else s.stk x)
        (by simp) (fun x hx => by simp [hx]) (by simp [Hon.out]) (fun x hx => by rw [Hon.out]; simp only [hx, if_false]; rfl) (by rw [List.length_append, Hnn.out, intl_append]; exact HO'.out) (by rw [HA.out]; have := HAT.out; simpa using this)
      have HM8 := Lib.hid M8
      clear M8 MB
      go_wp2_with fail
      go_meet
      case rel => exact ⟨HM8.out.choose, { L with vs := fun x => if x = u then .slice (some ⟨g', 0, none⟩) (n + 1) c' else L.vs x }, rfl, HM8.out.choose_spec⟩
  case rest =>
    obtain ⟨lab3, L', hLr, M8⟩ := hcut.out
    have HM8 := Lib.hid M8
    obtain ⟨e1, e2, e3, e4, e5, e6⟩ := M8.evs
    have HLr := Lib.hid hLr
    clear M8 hLr HM HOWN HA HVS Hnn kA4 kA6 f4 s6 s7
    go_wp2_with fail
    obtain ⟨hf1, hf2, hf3, hf4, hf5⟩ := HM8.out.evSet (.int .i64 u) (.int .i64 c) (.bool false)
    refine bodyPost_ret (v := .tuple #[evV u c false, .int .i64 0]) (by simp [results, Try.results17, go_sem, evV, hf3, hf4, hf5]) rfl ⟨by rw [Hon.out], lab3, L', HLr.out, HM8.out.la, ?_, hf2⟩
    unfold RunAt
    rw [HD.out]
    exact hf1
end
end Go.Proofs.Ytlncdkdkoamadaa

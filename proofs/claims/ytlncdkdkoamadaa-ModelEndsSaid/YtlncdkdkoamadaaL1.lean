/-
  THE WALK of the law ModelPairs.
-/
import Derived.Test.YtlncdkdkoamadaaP1
import Derived.Test.YtlncdkdkoamadaaK1
namespace Go.Proofs.Ytlncdkdkoamadaa
open Go.RowKit

theorem new_all {w : World} {P : Nat → Prop} {A : Option Addr} {n c : Nat} {wk : Int} {f : Nat → Int} (hP : ∀ b, P b → b < w.heap.size) (hm : n ≤ maxLen) (ha : RdI w A n f) :
    Calls Try.prog 11 #[.slice A n c, .int .i64 wk] w fun e w' =>
      (goodTree n f ∧ ∃ r, e = .returned (.tuple #[.pointer (some ⟨r, 0, none⟩), .int .i64 0]) ∧ RunIn w' P r (G.init n (thr wk) f) ∧ Below w.heap.size w w') ∨
      (¬ goodTree n f ∧ e = .returned (.tuple #[.pointer none, .int .i64 2]) ∧ Below w.heap.size w w') := by
  by_cases hn : 1 ≤ n ∧ n ≤ 256
  · refine (new_in hP hn.1 hn.2 ha).mono ?_
    rintro e w' (⟨ht, h⟩ | ⟨ht, h⟩)
    · exact .inl ⟨⟨hn.1, hn.2, ht⟩, h⟩
    · exact .inr ⟨fun g => ht g.2.2, h⟩
  · refine (new_len A n c wk w (by omega) hm).mono ?_
    rintro e w' ⟨rfl, rfl⟩
    exact .inr ⟨fun g => hn ⟨g.1, g.2.1⟩, rfl, Below.refl _ _⟩

theorem contains_list (A : Option Addr) (n c : Nat) (l : List Nat) (x : Nat) (w : World) (ha : RdL w A l) (hn : l.length = n) (hn' : n ≤ 4294967296) (hx : x ∈ l) :
    Calls Try.prog 28 #[.slice A n c, .int .i64 (x : Nat)] w fun e w' => e = .returned (.bool true) ∧ w' = w := by
  subst hn
  have h := contains_I A l.length c _ (x : Int) w ha hn'
  have e : hasI l.length (fun i => ((l.getD i 0 : Nat) : Int)) x = true := by
    unfold hasI
    obtain ⟨i, hi, hxi⟩ := List.getElem_of_mem hx
    rw [List.any_eq_true]
    exact ⟨i, by simpa using hi, by simp [List.getD, hi, hxi]⟩
  rw [e] at h
  exact h.mono fun _ _ ⟨h1, h2⟩ => ⟨h1, h2.symm⟩

/-- In the midst of the two steps. -/
structure PInv (w wr : World) (N B g r : Nat) (s : G) (v : Value) (l : List Nat) : Prop where
  bel : Below w.heap.size w wr
  run : RunIn wr (fun b => b < N ∨ v.ownBlock = some b) r s
  blk : wr.heap[g]? = some (.cells #[.int .i64 0, .int .i64 0] 3 (0, 0))
  own : wr.ownsRow B 3 1 v l.length (intl l)

/-- One round: a step, its event's block, the append. -/
theorem PInv.next {w wr w4 w5 : World} {N B g r : Nat} {s : G} {v v' : Value} {l : List Nat} {c : Nat} (h : PInv w wr N B g r s v l) (hw : w.heap.size ≤ N) (hNB : N ≤ B) (hgN : g < N) (hBr : B ≤ wr.heap.size) (hk : Kept (fun b => b < N ∨ v.ownBlock = some b) wr w4) (hr : RunIn w4 (fun b => b < N ∨ v.ownBlock = some b) r (s.step 0)) {o o2 : Obj}
    (ho : w5.ownsRow B 3 1 v' (l.length + 1) (intl l ++ [.int .i64 (c : Nat)])) (hg : ((w4.alloc o).alloc o2).grownBy w5 v.ownBlock) (hat : v'.ownBlock = v.ownBlock ∨ v'.ownBlock = some ((w4.alloc o).alloc o2).heap.size) :
    PInv w w5 N B g r (s.step 0) v' (l ++ [c]) := by
  have hb0 : Below w4.heap.size w4 ((w4.alloc o).alloc o2) := ((Below.refl _ _).alloc (Nat.le_refl _) o).alloc (by simp) o2
  have hs4 := hk.size
  have hvB : ∀ b, v.ownBlock = some b → B ≤ b ∧ b < wr.heap.size := fun b hb => h.own.lt b hb
  refine ⟨?_, ?_, ?_, ?_⟩
  · refine ((h.bel.trans (hk.below (fun b hb => .inl (Nat.lt_of_lt_of_le hb hw)))).trans (hb0.mono (by omega))).grown hg (by have := hb0.size; omega) (fun b hb => by have := (hvB b hb).1; omega)
  · have hr5 := hr.keep hb0
    refine hr5.grown hg (fun b hb _ => .inr hb) (fun b hb => ?_)
    rcases hb with h1 | h1
    · exact .inl (.inl h1)
    · rcases hat with e | e
      · rw [h1] at e; exact .inl (.inr e.symm)
      · have := own_lt ho h1
        rw [h1] at e; cases e
        exact .inr ⟨Nat.le_refl _, this⟩
  · have h1 := (hk.block g (.inl hgN)).trans h.blk
    have h2 := (hb0.block g (Array.getElem?_eq_some_iff.1 h1).1).trans h1
    rw [hg.block g (Array.getElem?_eq_some_iff.1 h2).1 (fun e => by have := (hvB g e.symm).1; omega)]
    exact h2
  · rw [List.length_append, intl_append]; exact ho

set_option maxHeartbeats 2000000 in
set_option maxRecDepth 100000 in
theorem pairs_law (A : Option Addr) (n c : Nat) (wk : Int) (f : Nat → Int) (w : World) (hm : n ≤ maxLen) (ha : RdI w A n f) :
    Calls Try.prog 6 #[.slice A n c, .int .i64 wk] w fun e w' => e = .returned (.bool true) ∧ Below w.heap.size w w' := by
  have HA := Lib.hid ha
  have hm' := hm
  unfold maxLen at hm'
  have HM := Lib.hid hm
  have hnil := fun wx => Lib.run_eql_slice_nil (P := Try.prog) wx 22 3 none 0 0 0 0 Try.underlying22
  simp only [Option.isNone] at hnil
  clear ha hm
  go_enter Try.func6, Try.ntmps6
  go_wp2_with fail
  refine (works_any w).mono ?_
  rintro e w1 ⟨rfl, hb1⟩
  have HP := Lib.hid (pair_any A n c wk f w1 HM.out (HA.out.below hb1 (Nat.le_refl _)))
  have HB1 := Lib.hid hb1
  clear hb1
  go_wp2_with fail
  refine HP.out.mono ?_
  rintro e w2 ⟨hb2, (⟨hg, rfl⟩ | ⟨hg, hk, rfl⟩ | ⟨hg, hk, g, hgB, rfl, hblk⟩)⟩
  · have HN := Lib.hid (new_all (P := fun _ => False) (c := c) (wk := wk) (fun b hb => hb.elim) HM.out ((HA.out.below HB1.out (Nat.le_refl _)).below hb2 (Nat.le_refl _)))
    have HB2 := Lib.hid (HB1.out.trans (hb2.mono HB1.out.size))
    have HG := Lib.hid hg
    clear hb2 hg HP HB1
    go_wp2_with fail
    refine HN.out.mono ?_
    rintro e w3 (⟨h, _⟩ | ⟨_, rfl, hb3⟩)
    · exact absurd h HG.out
    · have HB3 := Lib.hid (HB2.out.trans (hb3.mono HB2.out.size))
      clear hb3 HN HB2
      go_wp2_with fail
      go_ret
      exact ⟨rfl, HB3.out⟩
  · have HN := Lib.hid (new_all (P := fun _ => False) (c := c) (wk := wk) (fun b hb => hb.elim) HM.out ((HA.out.below HB1.out (Nat.le_refl _)).below hb2 (Nat.le_refl _)))
    have HB2 := Lib.hid (HB1.out.trans (hb2.mono HB1.out.size))
    have HG := Lib.hid hg
    clear hb2 hg HP HB1 hk
    go_wp2_with fail
    refine HN.out.mono ?_
    rintro e w3 (⟨_, r, rfl, _, hb3⟩ | ⟨h, _⟩)
    · have HB3 := Lib.hid (HB2.out.trans (hb3.mono HB2.out.size))
      clear hb3 HN HB2
      go_wp2_with fail
      go_ret
      exact ⟨rfl, HB3.out⟩
    · exact absurd HG.out h
  · have HN := Lib.hid (new_all (P := fun b => b < w2.heap.size) (c := c) (wk := wk) (fun b hb => hb) HM.out ((HA.out.below HB1.out (Nat.le_refl _)).below hb2 (Nat.le_refl _)))
    have HB2 := Lib.hid (HB1.out.trans (hb2.mono HB1.out.size))
    have HG := Lib.hid hg
    have HBLK := Lib.hid hblk
    have HK := Lib.hid hk
    clear hb2 hg HP HB1 hk hblk
    go_wp2_with fail
    refine HN.out.mono ?_
    rintro e w3 (⟨_, r, rfl, hr3, hb3⟩ | ⟨h, _⟩)
    case inr => exact absurd HG.out h
    have HB3 := Lib.hid (HB2.out.trans (hb3.mono HB2.out.size))
    obtain ⟨c1, c2, u, two⟩ := G.two HG.out.1 (thr_ge wk) HG.out.2.2 HK.out
    have hgl : g < w2.heap.size := (Array.getElem?_eq_some_iff.1 HBLK.out).1
    have hblk3 := (hb3.block g hgl).trans HBLK.out
    have HT := Lib.hid two
    have HR := Lib.hid hr3
    have HBLK3 := Lib.hid hblk3
    have hn1 := HG.out.1
    have hn2 := HG.out.2.1
    have hw2 := HB2.out.size
    have hw3 := hb3.size
    clear hb3 HN HB2 two hr3 hblk3 HBLK
    go_wp2_with fail
    have hw2 : w.heap.size ≤ w2.heap.size := hw2
    have hw3 := hw3
    have hw2 : w.heap.size ≤ w2.heap.size := hw2
    have hw3 := hw3
    obtain ⟨i0, hi, hz0, hz1, hz2⟩ := info_parts info3
    go_loopw [9, 55] (fun v i wr => (i = .int .i64 (0 : Nat) ∧ Hid (PInv w wr w2.heap.size w3.heap.size g r (G.init n (thr wk) f) v []) ∧ w3.heap.size ≤ wr.heap.size ∧ v = .slice none 0 0) ∨
        (i = .int .i64 (1 : Nat) ∧ Hid (PInv w wr w2.heap.size w3.heap.size g r ((G.init n (thr wk) f).step 0) v [c1]) ∧ w3.heap.size ≤ wr.heap.size) ∨
        (i = .int .i64 (2 : Nat) ∧ Hid (PInv w wr w2.heap.size w3.heap.size g r (((G.init n (thr wk) f).step 0).step 0) v [c1, c2]) ∧ w3.heap.size ≤ wr.heap.size)) (fun _ i _ => 2 - (intOf i).toNat)
    case atStart => exact .inl ⟨rfl, ⟨HB3.out, HR.out.less (fun b hb => hb.resolve_right (fun e => by cases e)), HBLK3.out, World.ownsRow_nil _ _ _ _⟩, Nat.le_refl _, rfl⟩
    case round =>
      rcases hrel with ⟨rfl, hinv, hBr, hv0⟩ | ⟨rfl, hinv, hBr⟩ | ⟨rfl, hinv, hBr⟩
      · -- the round 0
        have HIN := Lib.hid (hinv.out.run.Step 0 HT.out.r0)
        have hm1 := HT.out.m0
        have hq := HT.out.p1
        have hblkr := hinv.out.blk
        have kc := cell_of_row wr g 0 _ 3 (0, 0) hblkr
        subst hv0
        have HINV := Lib.hid hinv.out
        have HM1 := Lib.hid hm1
        obtain ⟨hq1, hq2, hq3⟩ := hq
        have HQ3 := Lib.hid hq3
        obtain ⟨pb, po, hAe, hpl, hpc⟩ := HA.out (by omega)
        clear hinv hm1 hblkr hq3
        change wr.cell? ⟨g, 0, none⟩ = some (.int .i64 0) at kc
        have hcell : True := trivial
        go_wp2_with fail
        refine HIN.out.mono ?_
        rintro e w4 ⟨rfl, hr4, hk4⟩
        rw [HM1.out]
        have kp : ∀ o, (w4.alloc o).cell? ⟨pb, po + c1, none⟩ = some (.int .i64 0) := fun o => by
          have hb4 : Below w.heap.size w w4 := HINV.out.bel.trans (hk4.below (fun b hb => .inl (Nat.lt_of_lt_of_le hb hw2)))
          rw [World.cell?_alloc_lt _ _ _ (by have := hb4.size; show pb < _; omega), hb4.cell (p := ⟨pb, po + c1, none⟩) hpl, hpc c1 hq2, HQ3.out]
        subst hAe
        have HR4 := Lib.hid hr4
        have HK4 := Lib.hid hk4
        have hown0 : w4.ownsRow w3.heap.size 3 1 (.slice none 0 0) 0 (intl []) := own_congr HINV.out.own (fun b hb => hk4.block b (.inr hb))
        have HOW := Lib.hid hown0
        have hsz4 := hk4.size
        have hsz3 := hBr
        clear hr4 hk4 HIN hpc hown0
        unfold evV
        go_wp2_with (at_builtin; refine wpList_app1 rfl _ _ 22 rfl w3.heap.size 3 i0 (.int .i64 0) 8 Try.underlying22 hi hz0 hz1 hz2 rfl (by decide) (.slice none 0 0) 0 (intl []) rfl (own_congr HOW.out (fun b hb => (Below.heap_alloc _ _ _ (by have := own_lt HOW.out hb; simp; omega)).trans (Below.heap_alloc _ _ _ (own_lt HOW.out hb)))) ⟨w4.heap.size + 1, 0, none⟩ (.int .i64 (c1 : Nat)) rfl ?_ rfl ?_ ?_ ?_)
        all_goals first | exact cell_new1 _ _ _ | (simp; done) | omega | (simp; omega) | skip
        intro v' w' ho' hg' hat'
        have hP : Hid (PInv w w' w2.heap.size w3.heap.size g r ((G.init n (thr wk) f).step 0) v' [c1]) := HINV.out.next hw2 hw3 hgl hBr HK4.out HR4.out (by simpa using ho') hg' (by simpa using hat')
        have hsz5 : w3.heap.size ≤ w'.heap.size := by have := hg'.size; simp at this; omega
        clear ho' hg' hat' HINV HR4 HK4 HOW kp kc hcell
        go_wp2
        go_roundw
        case rel => exact .inr (.inl ⟨rfl, hP, hsz5⟩)
        case measure => simp [intOf]
      · -- the round 1
        have HIN := Lib.hid (hinv.out.run.Step 0 HT.out.r1)
        have hm1 := HT.out.m1
        have hq := HT.out.p2
        have hblkr := hinv.out.blk
        have kc := cell_of_row wr g 1 _ 3 (0, 0) hblkr
        have HINV := Lib.hid hinv.out
        have HM1 := Lib.hid hm1
        obtain ⟨hq1, hq2, hq3⟩ := hq
        have HQ3 := Lib.hid hq3
        obtain ⟨pb, po, hAe, hpl, hpc⟩ := HA.out (by omega)
        clear hinv hm1 hblkr hq3
        change wr.cell? ⟨g, 1, none⟩ = some (.int .i64 0) at kc
        have hcell : True := trivial
        go_wp2_with fail
        refine HIN.out.mono ?_
        rintro e w4 ⟨rfl, hr4, hk4⟩
        rw [HM1.out]
        have kp : ∀ o, (w4.alloc o).cell? ⟨pb, po + c2, none⟩ = some (.int .i64 0) := fun o => by
          have hb4 : Below w.heap.size w w4 := HINV.out.bel.trans (hk4.below (fun b hb => .inl (Nat.lt_of_lt_of_le hb hw2)))
          rw [World.cell?_alloc_lt _ _ _ (by have := hb4.size; show pb < _; omega), hb4.cell (p := ⟨pb, po + c2, none⟩) hpl, hpc c2 hq2, HQ3.out]
        subst hAe
        have HR4 := Lib.hid hr4
        have HK4 := Lib.hid hk4
        have hown0 : w4.ownsRow w3.heap.size 3 1 u9 1 (intl [c1]) := own_congr HINV.out.own (fun b hb => hk4.block b (.inr hb))
        have HOW := Lib.hid hown0
        have hsz4 := hk4.size
        have hsz3 := hBr
        clear hr4 hk4 HIN hpc hown0
        unfold evV
        go_wp2_with (at_builtin; refine wpList_app1 rfl _ _ 22 rfl w3.heap.size 3 i0 (.int .i64 0) 8 Try.underlying22 hi hz0 hz1 hz2 rfl (by decide) u9 1 (intl [c1]) rfl (own_congr HOW.out (fun b hb => (Below.heap_alloc _ _ _ (by have := own_lt HOW.out hb; simp; omega)).trans (Below.heap_alloc _ _ _ (own_lt HOW.out hb)))) ⟨w4.heap.size + 1, 0, none⟩ (.int .i64 (c2 : Nat)) rfl ?_ rfl ?_ ?_ ?_)
        all_goals first | exact cell_new1 _ _ _ | (simp; done) | omega | (simp; omega) | skip
        intro v' w' ho' hg' hat'
        have hP : Hid (PInv w w' w2.heap.size w3.heap.size g r (((G.init n (thr wk) f).step 0).step 0) v' [c1, c2]) := HINV.out.next hw2 hw3 hgl hBr HK4.out HR4.out (by simpa using ho') hg' (by simpa using hat')
        have hsz5 : w3.heap.size ≤ w'.heap.size := by have := hg'.size; simp at this; omega
        clear ho' hg' hat' HINV HR4 HK4 HOW kp kc hcell
        go_wp2
        go_roundw
        case rel => exact .inr (.inr ⟨rfl, hP, hsz5⟩)
        case measure => simp [intOf]
      · have hown := hinv.out.own
        obtain ⟨g9, c9, rfl⟩ := own_form hown (by simp)
        have HO := Lib.hid (hinv.out.run.Open)
        have HINV := Lib.hid hinv.out
        clear hinv
        go_wp2_with fail
        refine HO.out.mono ?_
        rintro e w6 ⟨v6, rfl, ho6, hb6⟩
        rw [HT.out.len] at ho6
        obtain ⟨g8, c8, rfl⟩ := own_form ho6 (by decide)
        have hop6 := own_below hown hb6
        have hrd : RdL w6 (some ⟨g8, 0, none⟩) (((G.init n (thr wk) f).step 0).step 0).opens := RdL.of_own ho6
        have k1 := hop6.cellAt 0 (by simp)
        have k2 := hop6.cellAt 1 (by simp)
        change w6.cell? ⟨g9, 0, none⟩ = some (.int .i64 (c1 : Nat)) at k1
        change w6.cell? ⟨g9, 1, none⟩ = some (.int .i64 (c2 : Nat)) at k2
        have HC1 := Lib.hid (fun j => contains_list _ 3 c8 _ c1 (w6.drewN j) (hrd.below (below_drewN (Below.refl _ _) j) (Nat.le_refl _)) HT.out.len (by decide) HT.out.mem1)
        have HC2 := Lib.hid (fun j => contains_list _ 3 c8 _ c2 (w6.drewN j) (hrd.below (below_drewN (Below.refl _ _) j) (Nat.le_refl _)) HT.out.len (by decide) HT.out.mem2)
        have HBF := Lib.hid (HINV.out.bel.trans (hb6.mono (by have := HINV.out.bel.size; omega)))
        have hne : ((c1 : Int) != (c2 : Int)) = true := by have := HT.out.ne; simp; omega
        clear hown ho6 hb6 hop6 hrd HO HINV
        go_wp2_with fail
        go_quiet (first | (go_at_call 28; exact Calls.quiet_of_same (HC1.out _)) | (go_at_call 28; exact Calls.quiet_of_same (HC2.out _)))
        go_wp2_with fail
        go_ret
        exact ⟨rfl, below_drewN HBF.out _⟩
end Go.Proofs.Ytlncdkdkoamadaa

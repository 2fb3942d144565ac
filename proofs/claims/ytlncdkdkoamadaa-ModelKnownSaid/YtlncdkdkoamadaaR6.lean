/-
  WALKS: the reference's Copy.
-/
import Derived.Test.YtlncdkdkoamadaaR5
import Derived.Test.YtlncdkdkoamadaaApp3
import Derived.Deep.RegionHeld3
namespace Go.Proofs.Ytlncdkdkoamadaa
open Go.RowKit

/-- In the midst of a copy: the first i stacks are there. -/
structure RCp (w wr : World) (R : RLay) (s : G) (ob : Nat) (vst : Value) (i : Nat) (vs : Nat → Value) : Prop where
  bel : Below w.heap.size w wr
  obg : w.heap.size ≤ ob
  blk : wr.heap[ob]? = some (.cells #[.slice R.A s.n R.c, vst, .slice none 0 0, .slice none 0 0, .int .i64 s.mov] 63 (0, 0))
  st : wr.ownsRow w.heap.size 22 1 vst i ((List.range i).map vs)
  ss : ∀ t, t < i → wr.ownsRow w.heap.size 3 1 (vs t) (s.stk t).length (intl (s.stk t))
  d3 : ∀ t u, t < i → u < i → t ≠ u → Apart (vs t) (vs u)

section
variable {w wr w1 w2 : World} {R : RLay} {s : G} {ob : Nat} {vst v1 v2 : Value} {i : Nat} {vs : Nat → Value}
theorem RCp.drewN (h : RCp w wr R s ob vst i vs) (j : Nat) : RCp w (wr.drewN j) R s ob vst i vs :=
  ⟨below_drewN h.bel j, h.obg, h.blk, own_congr h.st fun _ _ => rfl, fun t ht => own_congr (h.ss t ht) fun _ _ => rfl, h.d3⟩
/-- What the walk reads behind the second append. -/
theorem RCp.outCell (h : RCp w wr R s ob vst i vs) (hb1 : Below wr.heap.size wr w1) {o : Obj} (hg : (w1.alloc o).grownBy w2 vst.ownBlock) : w2.heap[ob]? = some (.cells #[.slice R.A s.n R.c, vst, .slice none 0 0, .slice none 0 0, .int .i64 s.mov] 63 (0, 0)) := by
  have hbo : Below w1.heap.size w1 (w1.alloc o) := (Below.refl _ _).alloc (Nat.le_refl _) o
  have hob := (Array.getElem?_eq_some_iff.1 h.blk).1
  rw [hg.block ob (by have := hb1.size; have := hbo.size; omega) (fun e => own_blk_ne h.st h.blk (by decide) e.symm), hbo.block ob (Nat.lt_of_lt_of_le hob hb1.size), hb1.block ob hob]
  exact h.blk
theorem RCp.next (h : RCp w wr R s ob vst i vs) (hb1 : Below wr.heap.size wr w1) (ho1 : w1.ownsRow wr.heap.size 3 1 v1 (s.stk i).length (intl (s.stk i))) {o : Obj} (hg : (w1.alloc o).grownBy w2 vst.ownBlock)
    (ho2 : w2.ownsRow w.heap.size 22 1 v2 (i + 1) ((List.range i).map vs ++ [v1])) : RCp w (w2.setCell ⟨ob, 1, none⟩ v2) R s ob v2 (i + 1) (fun j => if j = i then v1 else vs j) := by
  have hbo : Below w1.heap.size w1 (w1.alloc o) := (Below.refl _ _).alloc (Nat.le_refl _) o
  have hbs := h.bel.size
  have hs1 := hb1.size
  have hso := hbo.size
  have hblk2 := h.outCell hb1 hg
  have hge : ∀ g, v1.ownBlock = some g → wr.heap.size ≤ g := fun g hg => (ho1.lt g hg).1
  have hrow : ∀ g, vst.ownBlock = some g → w.heap.size ≤ g := fun g hg => (h.st.lt g hg).1
  have keep3 : ∀ {v : Value} {n : Nat} {xs : List Value} {B : Nat}, w1.ownsRow B 3 1 v n xs → w2.ownsRow B 3 1 v n xs := fun {v n xs B} hv => by
    refine far_grown (own_below hv hbo) hg (fun g hgv e => ?_)
    have hst1 := own_below h.st hb1
    have hv' := hv
    exact own_ne hv' hst1 (by decide) hgv e
  refine ⟨?_, h.obg, ?_, ?_, fun t ht => ?_, fun t u ht hu htu => ?_⟩
  · refine (((h.bel.trans (hb1.mono hbs)).trans (hbo.mono (by omega))).grown hg (by omega) hrow).setCell ?_ _
    exact h.obg
  · exact blk_set hblk2 1 v2
  · have e : (List.range (i + 1)).map (fun j => if j = i then v1 else vs j) = (List.range i).map vs ++ [v1] := by
      rw [List.range_succ, List.map_append]
      congr 1
      · apply List.map_congr_left
        intro j hj
        rw [if_neg (by have := List.mem_range.1 hj; omega)]
      · simp
    rw [e]
    exact set_own ho2 _ (fun e => own_blk_ne ho2 hblk2 (by decide) e)
  · show (w2.setCell ⟨ob, 1, none⟩ v2).ownsRow w.heap.size 3 1 (if t = i then v1 else vs t) _ _
    by_cases e : t = i
    · subst e
      rw [if_pos rfl]
      have h1 := keep3 ho1
      exact own_base (set_own h1 _ (fun e => own_blk_ne h1 hblk2 (by decide) e)) hbs
    · rw [if_neg e]
      have h1 := keep3 (own_below (h.ss t (by omega)) hb1)
      exact set_own h1 _ (fun e => own_blk_ne h1 hblk2 (by decide) e)
  · show Apart (if t = i then v1 else vs t) (if u = i then v1 else vs u)
    by_cases e : t = i
    · have e' : ¬ u = i := by omega
      rw [if_pos e, if_neg e']
      exact apart_ge (h.ss u (by omega)) hge
    · rw [if_neg e]
      by_cases e' : u = i
      · rw [if_pos e']; exact (apart_ge (h.ss t (by omega)) hge).symm
      · rw [if_neg e']; exact h.d3 t u (by omega) (by omega) htu
theorem RCp.final {wa wb : World} {v3 v4 : Value} {lab : Nat → Nat} {k k2 : Nat} (h : RCp w wr R s ob vst s.T vs) (H : RefRaw w lab k R s) (hn : 1 ≤ s.n) (hk2 : k2 ≠ 0) (hb1 : Below wr.heap.size wr wa) (ho3 : wa.ownsRow wr.heap.size 4 1 v3 s.n (bools s.beg s.n))
    (hb2 : Below (wa.setCell ⟨ob, 2, none⟩ v3).heap.size (wa.setCell ⟨ob, 2, none⟩ v3) wb) (ho4 : wb.ownsRow (wa.setCell ⟨ob, 2, none⟩ v3).heap.size 4 1 v4 s.n (bools s.fin s.n)) :
    RefRaw (wb.setCell ⟨ob, 3, none⟩ v4) (relab lab w.heap.size k2) k2 ⟨ob, R.A, R.c, vst, v3, v4, vs⟩ s ∧ Below w.heap.size w (wb.setCell ⟨ob, 3, none⟩ v4) := by
  have hbs := h.bel.size
  have hs1 := hb1.size
  have hob := (Array.getElem?_eq_some_iff.1 h.blk).1
  have hs2 : wa.heap.size ≤ wb.heap.size := by have := hb2.size; simpa using this
  have hblk1 := blk_set ((hb1.block ob hob).trans h.blk) 2 v3
  have hblk2 := (hb2.block ob (by simp; omega)).trans hblk1
  have hblk3 := blk_set hblk2 3 v4
  have mv : ∀ {e n : Nat} {v : Value} {xs : List Value} {B : Nat}, e ≠ 63 → wa.ownsRow B e 1 v n xs → (wb.setCell ⟨ob, 3, none⟩ v4).ownsRow B e 1 v n xs := fun {e n v xs B} hne hv => by
    have h1 := set_own hv (g0 := ob) (i := 2) v3 (fun e' => own_blk_ne hv ((hb1.block ob hob).trans h.blk) hne e')
    have h2 := own_below h1 hb2
    exact set_own h2 _ (fun e' => own_blk_ne h2 hblk2 hne e')
  have hbel : Below w.heap.size w (wb.setCell ⟨ob, 3, none⟩ v4) := (((h.bel.trans (hb1.mono hbs)).setCell h.obg _).trans (hb2.mono (by simp; omega))).setCell h.obg _
  have lk : ∀ {e : TypeId} {v : Value} {m : Nat} {xs : List Value} {W : World} {B : Nat}, W.ownsRow B e 1 v m xs → w.heap.size ≤ B → ∀ g, v.ownBlock = some g → relab lab w.heap.size k2 g = k2 := fun h hB g hg => relab_ge (Nat.le_trans hB (h.lt g hg).1)
  refine ⟨{
    k0 := hk2
    blk := hblk3
    pa := H.pa.below hbel (Nat.le_refl _)
    st := own_base (mv (by decide) (own_below h.st hb1)) (Nat.zero_le _)
    be := own_base (mv (by decide) ho3) (Nat.zero_le _)
    en := own_base (set_own ho4 _ (fun e' => own_blk_ne ho4 hblk2 (by decide) e')) (Nat.zero_le _)
    ss := fun t ht => own_base (mv (by decide) (own_below (h.ss t ht) hb1)) (Nat.zero_le _)
    lr := relab_ge h.obg
    lpa := fun ad had => by
      obtain ⟨b, off, hA, hl, _⟩ := H.pa hn
      have had' : R.A = some ad := had
      rw [had'] at hA; cases hA
      rw [relab_lt hl]; exact H.lpa _ had'
    lst := lk h.st (Nat.le_refl _)
    lbe := lk ho3 hbs
    len := lk ho4 (by simp; omega)
    lss := fun t ht => lk (h.ss t ht) (Nat.le_refl _)
    d1 := fun g hg hg' => by
      have h1 := own_lt ho3 hg
      have h2 := (ho4.lt g hg').1
      simp at h2
      omega
    d3 := h.d3 }, hbel⟩
end

set_option maxHeartbeats 6400000 in
set_option maxRecDepth 100000 in
theorem refCopy_any {w : World} {lab : Nat → Nat} {k : Nat} {R : RLay} {s : G} (h : RefRaw w lab k R s) (hI : s.Inv) (hn : s.n ≤ 256) (hT : s.T ≤ 17) (k2 : Nat) (hk2 : k2 ≠ 0) :
    Calls Try.prog 16 #[.pointer (some ⟨R.r, 0, none⟩)] w fun e w' => ∃ R', e = .returned (.pointer (some ⟨R'.r, 0, none⟩)) ∧ RefRaw w' (relab lab w.heap.size k2) k2 R' s ∧ Below w.heap.size w w' := by
  obtain ⟨f0, f1, f2, f3, f4⟩ := h.fields
  obtain ⟨gs, cs, hvs, t1, t2, hgs, s4, _⟩ := h.stacks hI.thr
  obtain ⟨gb, cb, hvb, _, _, hbl, b4, _⟩ := h.begs hI.tree.pos
  obtain ⟨ge, ce, hve, _, _, hel, e4, _⟩ := h.fins hI.tree.pos
  rw [hvs] at f1
  rw [hvb] at f2
  rw [hve] at f3
  have hrl := h.rlt
  have H := Lib.hid h
  have S4 := Lib.hid s4
  have HVS := Lib.hid hvs
  have HVB := Lib.hid hvb
  have HVE := Lib.hid hve
  clear h s4 b4 e4 hvs hvb hve
  unfold maxLen at t2
  go_enter Try.func16, Try.ntmps16
  go_wp2_with fail
  go_region_held3 (fun w' => w'.cell? ⟨R.r, 0, none⟩ = some (.slice R.A s.n R.c) ∧ w'.cell? ⟨R.r, 4, none⟩ = some (.int .i64 s.mov)) (go_keep) (fail)
  have HS : Hid (RCp w (w.alloc (.cells #[.slice R.A s.n R.c, .slice none 0 0, .slice none 0 0, .slice none 0 0, .int .i64 s.mov] 63)).drew R s w.heap.size (.slice none 0 0) 0 (fun _ => .slice none 0 0)) :=
    ⟨((Below.refl _ _).alloc (Nat.le_refl _) _).drew, Nat.le_refl _, heap_alloc_new w _, World.ownsRow_nil _ _ _ _, fun t ht => absurd ht (Nat.not_lt_zero t), fun t u ht => absurd ht (Nat.not_lt_zero t)⟩
  clear f0 f4
  generalize (w.alloc (.cells #[.slice R.A s.n R.c, .slice none 0 0, .slice none 0 0, .slice none 0 0, .int .i64 s.mov] 63)).drew = W0 at *
  generalize hob : w.heap.size = ob at *
  have HOB := Lib.hid hob
  clear hob
  obtain ⟨i3, hi3, hz30, hz31, hz32⟩ := info_parts info3
  obtain ⟨i22, hi22, hz0, hz1, hz2⟩ := info_parts info22
  go_wp2_with fail
  go_loopw [4] (fun i wr => Hid (∃ (i0 : Nat) (vst : Value) (vs : Nat → Value), i0 ≤ s.T ∧ i = .int .i64 (i0 : Nat) ∧ RCp w wr R s ob vst i0 vs)) (fun i _ => s.T - (intOf i).toNat)
  case atStart => exact ⟨0, _, _, Nat.zero_le _, rfl, HS.out⟩
  case round =>
    clear HS
    obtain ⟨i0, vst, vs, hi0, rfl, hC⟩ := hrel.out
    clear hrel
    have hbw : w.heap.size = ob := HOB.out
    have hbel := hC.bel
    rw [hbw] at hbel
    have g1 := (hbel.cell (p := ⟨R.r, 1, none⟩) hrl).trans f1
    by_cases hlt : i0 < s.T
    · skip
      --<round
      obtain ⟨Ad, cd, hvd, _⟩ := own_any hC.st
      subst hvd
      have q1 : wr.cell? ⟨ob, 1, none⟩ = some (.slice Ad i0 cd) := cell_of_row wr ob 1 _ 63 (0, 0) hC.blk
      have st := (hbel.cell (p := ⟨gs, i0, none⟩) hgs).trans (S4.out i0 hlt)
      obtain ⟨A, c, hA⟩ := H.out.stack hlt
      rw [hA] at st
      have hlen := G.stk_len hI hlt
      have hsrc := H.out.ss i0 hlt
      rw [hA] at hsrc
      have HSRC := Lib.hid (own_below hsrc (w' := wr) (by rw [hbw]; exact hbel))
      have HC := Lib.hid hC
      have hobl : ob < wr.heap.size := (Array.getElem?_eq_some_iff.1 hC.blk).1
      have hrl2 : R.r < wr.heap.size := Nat.lt_trans hrl hobl
      have hgs2 : gs < wr.heap.size := Nat.lt_trans hgs hobl
      have hi1 : (0 : Int) ≤ (i0 : Int) := by omega
      have hi2 : (i0 : Int) < (s.T : Int) := by omega
      have hown0 := World.ownsRow_lit (base := wr.heap.size) (e := 3) (size := 1) wr #[] 0 (Nat.le_refl _) (Nat.zero_le _) rfl
      have HOWN0 := Lib.hid hown0
      clear hC hsrc hA hown0 hbw hbel
      go_wp2_with fail
      have kA1 : ∀ o, (wr.alloc o).cell? ⟨R.r, 1, none⟩ = some (.slice (some ⟨gs, 0, none⟩) s.T cs) := fun o => (World.cell?_alloc_lt _ _ _ hrl2).trans g1
      have kA2 : ∀ o, (wr.alloc o).cell? ⟨gs, i0, none⟩ = some (.slice A (s.stk i0).length c) := fun o => (World.cell?_alloc_lt _ _ _ hgs2).trans st
      have kA3 : ∀ o, (wr.alloc o).cell? ⟨ob, 1, none⟩ = some (.slice Ad i0 cd) := fun o => (World.cell?_alloc_lt _ _ _ hobl).trans q1
      go_region_law
        (first
          | (refine step_appR rfl (.tmp 29) (.tmp 36) 22 rfl wr.heap.size 3 i3 (.int .i64 0) 8 Try.underlying22 hi3 hz30 hz31 hz32 rfl (by decide) (.slice (some ⟨wr.heap.size, 0, none⟩) 0 0) 0 [] (by rfl) (own_congr HOWN0.out fun _ _ => rfl) (.slice A (s.stk i0).length c) (s.stk i0).length (intl (s.stk i0)) (b' := 0) (by rfl) (own_congr HSRC.out fun b hb => Below.heap_alloc _ _ _ (own_lt HSRC.out hb)) one_intl (by omega) (by omega) (by simp) ?_; intro v1 w1 ho1 hg1 hat1; simp only [Nat.zero_add, List.nil_append] at ho1; obtain ⟨A1, c1', hv1, _⟩ := own_any ho1
             subst hv1
             have hb1 : Below wr.heap.size wr w1 := (((Below.refl _ _).alloc (Nat.le_refl _) _).drew).grown hg1 (by simp) (fun b hb => by cases hb; exact Nat.le_refl _)
             have HB1 := Lib.hid hb1
             have HO1 := Lib.hid ho1
             have x1 := (hb1.cell (p := ⟨R.r, 1, none⟩) hrl2).trans g1
             have x2 := (hb1.cell (p := ⟨gs, i0, none⟩) hgs2).trans st
             have x3 := (hb1.cell (p := ⟨ob, 1, none⟩) hobl).trans q1
             have x4 : ∀ o, (w1.alloc o).cell? ⟨ob, 1, none⟩ = some (.slice Ad i0 cd) := fun o => (World.cell?_alloc_lt _ _ _ (Nat.lt_of_lt_of_le hobl hb1.size)).trans x3
             clear hb1 ho1 hg1 hat1)
          | (refine step_app1 rfl (.tmp 28) (.tmp 38) 61 rfl w.heap.size 22 i22 (.slice none 0 0) 24 Try.underlying61 hi22 hz0 hz1 hz2 rfl (by decide) (.slice Ad i0 cd) i0 ((List.range i0).map vs) (by rfl) (own_below (own_below HC.out.st HB1.out) ((Below.refl _ _).alloc (Nat.le_refl _) _)) ⟨w1.heap.size, 0, none⟩ (.slice A1 (s.stk i0).length c1') (by rfl) (cell_new1 _ _ _) rfl (by omega) (Nat.le_trans HC.out.bel.size (Nat.le_trans HB1.out.size (by simp))) ?_; intro v2 w2 ho2 hg2 hat2; obtain ⟨A2, c2', hv2, _⟩ := own_any ho2
             subst hv2
             have hb2 : Below w.heap.size w w2 := ((HC.out.bel.trans (HB1.out.mono HC.out.bel.size)).alloc (Nat.le_trans HC.out.bel.size HB1.out.size) _).grown hg2 (Nat.le_trans HC.out.bel.size (Nat.le_trans HB1.out.size (by simp))) (fun b hb => (HC.out.st.lt b hb).1)
             have hob2 := HC.out.outCell HB1.out hg2
             have y1 := (hb2.cell (p := ⟨R.r, 1, none⟩) (by rw [HOB.out]; exact hrl)).trans f1
             have y2 : w2.cell? ⟨gs, i0, none⟩ = some (.slice A (s.stk i0).length c) := ((hb2.cell (p := ⟨gs, i0, none⟩) (by rw [HOB.out]; exact hgs)).trans (HC.out.bel.cell (p := ⟨gs, i0, none⟩) (by rw [HOB.out]; exact hgs)).symm).trans st
             have y3 : w2.cell? ⟨ob, 1, none⟩ = some (.slice Ad i0 cd) := cell_of_row w2 ob 1 _ 63 (0, 0) hob2
             have z3 := frozen_of_row w2 ob 1 _ 63 hob2
             have HO2 := Lib.hid ho2
             have HG2 := Lib.hid hg2
             clear ho2 hg2 hat2 hb2 hob2))
      all_goals
        have HN := Lib.hid ((HC.out.next (v1 := .slice A1 (s.stk i0).length c1') HB1.out HO1.out HG2.out HO2.out))
        clear x1 x2 x3 x4 y1 y2 y3 z3 HO2 HG2 HB1 HO1 kA1 kA2 kA3
        go_wp2_with fail
        exact ⟨⟨i0 + 1, _, _, by omega, by go_num, HN.out⟩, by simp [intOf]; omega⟩
      -->round
    · have e : i0 = s.T := by omega
      subst e
      have hblk := hC.blk
      have q2 : wr.cell? ⟨ob, 2, none⟩ = some (.slice none 0 0) := cell_of_row wr ob 2 _ 63 (0, 0) hblk
      have q3 : wr.cell? ⟨ob, 3, none⟩ = some (.slice none 0 0) := cell_of_row wr ob 3 _ 63 (0, 0) hblk
      have hobl : ob < wr.heap.size := (Array.getElem?_eq_some_iff.1 hblk).1
      have g2 := (hbel.cell (p := ⟨R.r, 2, none⟩) hrl).trans f2
      have g3 := (hbel.cell (p := ⟨R.r, 3, none⟩) hrl).trans f3
      have hrl2 : R.r < wr.heap.size := Nat.lt_trans hrl hobl
      have hnp := hI.tree.pos
      have hn1 : ¬ R.r = ob := by omega
      have hn2 : ¬ ob = R.r := by omega
      have hs1 := own_below H.out.be (w' := wr) (by rw [hbw]; exact hbel)
      have hs2 := own_below H.out.en (w' := wr) (by rw [hbw]; exact hbel)
      rw [HVB.out] at hs1
      rw [HVE.out] at hs2
      have HS1 := Lib.hid hs1
      have HS2 := Lib.hid hs2
      have HC := Lib.hid hC
      have HBLK := Lib.hid hblk
      obtain ⟨i4, hi4, hy0, hy1, hy2⟩ := info_parts info4
      clear hC hblk hs1 hs2 hbw hbel
      go_wp2_with fail
      go_region_law (refine step_appR rfl (.tmp 46) (.tmp 50) 49 rfl wr.heap.size 4 i4 (.bool false) 1 Try.underlying49 hi4 hy0 hy1 hy2 rfl (by decide) (.slice none 0 0) 0 [] (by rfl) (World.ownsRow_nil _ _ _ _) (.slice (some ⟨gb, 0, none⟩) s.n cb) s.n (bools s.beg s.n) (b' := 0) (by rfl) (own_congr HS1.out fun _ _ => rfl) one_bools (by omega) (by omega) (by simp) ?_; intro v3 wa ho3 hga hata; simp only [Nat.zero_add, List.nil_append] at ho3; obtain ⟨g3', c3', hv3⟩ := own_form ho3 (by omega); subst hv3; have hba : Below wr.heap.size wr wa := ((Below.refl _ _).drew).grown hga (by simp) (fun b hb => by cases hb); have y1 := (hba.cell (p := ⟨R.r, 3, none⟩) hrl2).trans g3; have y2 := (hba.cell (p := ⟨ob, 2, none⟩) hobl).trans q2; have y3 := (hba.cell (p := ⟨ob, 3, none⟩) hobl).trans q3; have hblk2 := (hba.block ob hobl).trans HBLK.out; have z2 := frozen_of_row wa ob 2 _ 63 hblk2; have z3 := frozen_of_row wa ob 3 _ 63 hblk2; have HO3 := Lib.hid ho3; have HBA := Lib.hid hba; clear ho3 hga hata hba hblk2)
      all_goals
        have W2 : ∃ W2, W2 = wa.setCell ⟨ob, 2, none⟩ (.slice (some ⟨g3', 0, none⟩) s.n c3') := ⟨_, rfl⟩
        clear q2 q3 g2 g3
        have r2 : (wa.setCell ⟨ob, 2, none⟩ (.slice (some ⟨g3', 0, none⟩) s.n c3')).cell? ⟨R.r, 3, none⟩ = some (.slice (some ⟨ge, 0, none⟩) s.n ce) := by rw [← y1]; exact World.cell?_of_block (set_blk _ hn1)
        have hblk3 := blk_set ((HBA.out.block ob hobl).trans HBLK.out) 2 (.slice (some ⟨g3', 0, none⟩) s.n c3')
        have r3 : (wa.setCell ⟨ob, 2, none⟩ (.slice (some ⟨g3', 0, none⟩) s.n c3')).cell? ⟨ob, 3, none⟩ = some (.slice none 0 0) := cell_of_row _ ob 3 _ 63 (0, 0) hblk3
        have hs3 := set_own (own_below HS2.out HBA.out) (g0 := ob) (i := 2) (.slice (some ⟨g3', 0, none⟩) s.n c3') (fun e' => own_blk_ne (own_below HS2.out HBA.out) ((HBA.out.block ob hobl).trans HBLK.out) (by decide) e')
        have HS3 := Lib.hid hs3
        have HF := Lib.hid (fun (wb : World) (v4 : Value) => HC.out.final (wb := wb) (v4 := v4) H.out hnp hk2 HBA.out HO3.out)
        have hobl2 : ob < (wa.setCell ⟨ob, 2, none⟩ (.slice (some ⟨g3', 0, none⟩) s.n c3')).heap.size := (Array.getElem?_eq_some_iff.1 hblk3).1
        have HBLK3 := Lib.hid hblk3
        clear y1 y2 y3 z2 z3 HS1 HS2 HC HO3 HBA hs3 hblk3 W2 HBLK
        generalize wa.setCell ⟨ob, 2, none⟩ (.slice (some ⟨g3', 0, none⟩) s.n c3') = W2 at *
        go_wp2_with fail
        go_region_law (refine step_appR rfl (.tmp 58) (.tmp 62) 49 rfl W2.heap.size 4 i4 (.bool false) 1 Try.underlying49 hi4 hy0 hy1 hy2 rfl (by decide) (.slice none 0 0) 0 [] (by rfl) (World.ownsRow_nil _ _ _ _) (.slice (some ⟨ge, 0, none⟩) s.n ce) s.n (bools s.fin s.n) (b' := 0) (by rfl) (own_congr HS3.out fun _ _ => rfl) one_bools (by omega) (by omega) (by simp) ?_; intro v4 wb ho4 hgb hatb; simp only [Nat.zero_add, List.nil_append] at ho4; obtain ⟨g4', c4', hv4⟩ := own_form ho4 (by omega); subst hv4; have hbb : Below W2.heap.size W2 wb := ((Below.refl _ _).drew).grown hgb (by simp) (fun b hb => by cases hb); have y3 := (hbb.cell (p := ⟨ob, 3, none⟩) hobl2).trans r3; have hblk4 := (hbb.block ob hobl2).trans HBLK3.out; have z3 := frozen_of_row wb ob 3 _ 63 hblk4; have HFF := Lib.hid (HF.out wb _ hbb ho4); clear ho4 hgb hatb hbb hblk4)
        all_goals
          go_wp2_with fail
          go_ret
          obtain ⟨h1, h2⟩ := HFF.out
          exact ⟨⟨ob, R.A, R.c, vst, _, _, vs⟩, rfl, h1, h2⟩
end Go.Proofs.Ytlncdkdkoamadaa

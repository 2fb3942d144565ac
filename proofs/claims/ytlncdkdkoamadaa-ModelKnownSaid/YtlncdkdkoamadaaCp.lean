/-
  WALKS: Copy of the program's run.
-/
import Derived.Test.YtlncdkdkoamadaaP1
import Derived.Deep.RegionHeld3
namespace Go.Proofs.Ytlncdkdkoamadaa
open Go.RowKit

section
variable {w w' : World} {base n : Nat} {v : Value} {xs : List Value}
theorem clone_own_ints (h : w.ownsRow base 3 1 v n xs) (h1 : ∀ u ∈ xs, u.oneCell' = true) (hn : n ≤ 4096) : Calls Try.prog 10 #[v] w fun e w' => ∃ v', e = .returned v' ∧ w'.ownsRow w.heap.size 3 1 v' n xs ∧ Below w.heap.size w w' := by
  obtain ⟨A, c, rfl, _, hA, hc⟩ := own_any h
  refine clone_ints A n c xs w hA (by have := h.1; omega) (fun ad had j u hu => ?_) h1 (fun ad had j hj => ?_) (by omega)
  · obtain ⟨g, _, _, h2⟩ := hc ad had; exact h2 j u hu
  · obtain ⟨g, rfl, h2, _⟩ := hc ad had
    rw [Addr.add_lit]; exact h2
theorem clone_own_bools (h : w.ownsRow base 4 1 v n xs) (h1 : ∀ u ∈ xs, u.oneCell' = true) (hn : n ≤ 4096) : Calls Try.prog 34 #[v] w fun e w' => ∃ v', e = .returned v' ∧ w'.ownsRow w.heap.size 4 1 v' n xs ∧ Below w.heap.size w w' := by
  obtain ⟨A, c, rfl, _, hA, hc⟩ := own_any h
  refine clone_bools A n c xs w hA (by have := h.1; omega) (fun ad had j u hu => ?_) h1 (fun ad had j hj => ?_) (by omega)
  · obtain ⟨g, _, _, h2⟩ := hc ad had; exact h2 j u hu
  · obtain ⟨g, rfl, h2, _⟩ := hc ad had
    rw [Addr.add_lit]; exact h2
theorem clone_own_rows (h : w.ownsRow base 22 1 v n xs) (h1 : ∀ u ∈ xs, u.oneCell' = true) (hn : n ≤ 4096) : Calls Try.prog 35 #[v] w fun e w' => ∃ v', e = .returned v' ∧ w'.ownsRow w.heap.size 22 1 v' n xs ∧ Below w.heap.size w w' := by
  obtain ⟨A, c, rfl, _, hA, hc⟩ := own_any h
  refine clone_rows A n c xs w hA (by have := h.1; omega) (fun ad had j u hu => ?_) h1 (fun ad had j hj => ?_) (by omega)
  · obtain ⟨g, _, _, h2⟩ := hc ad had; exact h2 j u hu
  · obtain ⟨g, rfl, h2, _⟩ := hc ad had
    rw [Addr.add_lit]; exact h2
theorem one_ints {f : Nat → Nat} {n : Nat} : ∀ u ∈ ints f n, u.oneCell' = true := by
  intro u hu; obtain ⟨i, _, rfl⟩ := List.mem_map.1 hu; rfl
theorem one_intl {l : List Nat} : ∀ u ∈ intl l, u.oneCell' = true := by
  intro u hu; obtain ⟨i, _, rfl⟩ := List.mem_map.1 hu; rfl
theorem one_bools {f : Nat → Bool} {n : Nat} : ∀ u ∈ bools f n, u.oneCell' = true := by
  intro u hu; obtain ⟨i, _, rfl⟩ := List.mem_map.1 hu; rfl
end

/-- In the midst of a copy: the first i stacks are the copy's own. -/
structure CpInv (w wr : World) (L : Lay) (s : D) (cb : Nat) (v1 v2 v3 : Value) (gs cs i : Nat) (vs : Nat → Value) : Prop where
  bel : Below w.heap.size w wr
  cbg : w.heap.size ≤ cb
  blk : wr.heap[cb]? = some (.cells #[L.vch, v1, v2, L.vpa, .slice (some ⟨gs, 0, none⟩) s.T cs, v3, .int .i64 s.mov] 67 (0, 0))
  nx : wr.ownsRow w.heap.size 3 1 v1 s.n (ints s.nx s.n)
  ou : wr.ownsRow w.heap.size 3 1 v2 s.n (ints s.ou s.n)
  op : wr.ownsRow w.heap.size 4 1 v3 s.n (bools s.opn s.n)
  st : wr.ownsRow w.heap.size 22 1 (.slice (some ⟨gs, 0, none⟩) s.T cs) s.T ((List.range s.T).map vs)
  ss : ∀ t, t < i → wr.ownsRow w.heap.size 3 1 (vs t) (s.stk t).length (intl (s.stk t))
  rest : ∀ t, i ≤ t → vs t = L.vs t
  d1 : Apart v1 v2
  d2 : ∀ t, t < i → Apart (vs t) v1 ∧ Apart (vs t) v2
  d3 : ∀ t u, t < i → u < i → t ≠ u → Apart (vs t) (vs u)

section
variable {w wr w1 : World} {L : Lay} {s : D} {cb : Nat} {v1 v2 v3 : Value} {gs cs i : Nat} {vs : Nat → Value}
theorem CpInv.drew (h : CpInv w wr L s cb v1 v2 v3 gs cs i vs) (j : Nat) : CpInv w (wr.drewN j) L s cb v1 v2 v3 gs cs i vs :=
  { h with
    bel := below_drewN h.bel j
    blk := h.blk
    nx := own_congr h.nx fun _ _ => rfl
    ou := own_congr h.ou fun _ _ => rfl
    op := own_congr h.op fun _ _ => rfl
    st := own_congr h.st fun _ _ => rfl
    ss := fun t ht => own_congr (h.ss t ht) fun _ _ => rfl }
theorem CpInv.next (h : CpInv w wr L s cb v1 v2 v3 gs cs i vs) (hi : i < s.T) {v : Value} (hb : Below wr.heap.size wr w1) (ho : w1.ownsRow wr.heap.size 3 1 v (s.stk i).length (intl (s.stk i))) :
    CpInv w (w1.setCell ⟨gs, i, none⟩ v) L s cb v1 v2 v3 gs cs (i + 1) (fun j => if j = i then v else vs j) := by
  have hst1 := own_below h.st hb
  have hgs : (Value.slice (some ⟨gs, 0, none⟩) s.T cs).ownBlock = some gs := rfl
  have hge : ∀ g, v.ownBlock = some g → wr.heap.size ≤ g := fun g hg => (ho.lt g hg).1
  have hbs := h.bel.size
  have hgs2 := (h.st.lt gs hgs).1
  have hcb1 : w1.heap[cb]? = some (.cells #[L.vch, v1, v2, L.vpa, .slice (some ⟨gs, 0, none⟩) s.T cs, v3, .int .i64 s.mov] 67 (0, 0)) := (hb.block cb (Array.getElem?_eq_some_iff.1 h.blk).1).trans h.blk
  exact {
    bel := (h.bel.trans (hb.mono hbs)).setCell (by exact hgs2) _
    cbg := h.cbg
    blk := by rw [set_blk _ (fun e => own_blk_ne hst1 hcb1 (by decide) (by rw [hgs]; exact congrArg some e.symm))]; exact hcb1
    nx := set_own (own_below h.nx hb) _ (fun e => own_ne (own_below h.nx hb) hst1 (by decide) e hgs)
    ou := set_own (own_below h.ou hb) _ (fun e => own_ne (own_below h.ou hb) hst1 (by decide) e hgs)
    op := set_own (own_below h.op hb) _ (fun e => own_ne (own_below h.op hb) hst1 (by decide) e hgs)
    st := by
      have h2 := (hst1.stored i v).1
      rw [vals_set] at h2
      exact h2
    ss := fun t ht => by
      show (w1.setCell ⟨gs, i, none⟩ v).ownsRow w.heap.size 3 1 (if t = i then v else vs t) _ _
      by_cases e : t = i
      · subst e
        rw [if_pos rfl]
        exact own_base (set_own ho _ (fun e => own_ne ho hst1 (by decide) e hgs)) hbs
      · rw [if_neg e]
        have h3 := own_below (h.ss t (by omega)) hb
        exact set_own h3 _ (fun e => own_ne h3 hst1 (by decide) e hgs)
    rest := fun t ht => by
      show (if t = i then v else vs t) = _
      rw [if_neg (by omega)]; exact h.rest t (by omega)
    d1 := h.d1
    d2 := fun t ht => by
      show Apart (if t = i then v else vs t) v1 ∧ Apart (if t = i then v else vs t) v2
      by_cases e : t = i
      · rw [if_pos e]; exact ⟨apart_ge h.nx hge, apart_ge h.ou hge⟩
      · rw [if_neg e]; exact h.d2 t (by omega)
    d3 := fun t u ht hu htu => by
      show Apart (if t = i then v else vs t) (if u = i then v else vs u)
      by_cases e : t = i
      · have e' : ¬ u = i := by omega
        rw [if_pos e, if_neg e']; exact apart_ge (h.ss u (by omega)) hge
      · rw [if_neg e]
        by_cases e' : u = i
        · rw [if_pos e']; exact (apart_ge (h.ss t (by omega)) hge).symm
        · rw [if_neg e']; exact h.d3 t u (by omega) (by omega) htu }

theorem cp_start {w W w0 wa wb wd we : World} {L : Lay} {s : D} {v1 v2 v3 u0 u1 u2 u3 u4 u5 : Value} {b4 d4 : Nat} (hB : Below w.heap.size w W) (hcb : w.heap.size < W.heap.size) (hblk : W.heap[w.heap.size]? = some (.cells #[u0, u1, u2, u3, u4, u5, .int .i64 s.mov] 67 (0, 0))) (e0 : L.vch = u0) (e3 : L.vpa = u3)
    (h0 : Below W.heap.size W w0) (ho1 : wa.ownsRow w0.heap.size 3 1 v1 s.n (ints s.nx s.n)) (hb1 : Below w0.heap.size w0 wa) (ho2 : wb.ownsRow wa.heap.size 3 1 v2 s.n (ints s.ou s.n)) (hb2 : Below wa.heap.size wa wb)
    (ho3 : wd.ownsRow wb.heap.size 4 1 v3 s.n (bools s.opn s.n)) (hb3 : Below wb.heap.size wb wd) (ho4 : we.ownsRow wd.heap.size 22 1 (.slice (some ⟨b4, 0, none⟩) s.T d4) s.T ((List.range s.T).map L.vs)) (hb4 : Below wd.heap.size wd we) :
    CpInv w ((((we.setCell ⟨w.heap.size, 1, none⟩ v1).setCell ⟨w.heap.size, 2, none⟩ v2).setCell ⟨w.heap.size, 5, none⟩ v3).setCell ⟨w.heap.size, 4, none⟩ (.slice (some ⟨b4, 0, none⟩) s.T d4)) L s w.heap.size v1 v2 v3 b4 d4 0 L.vs := by
  have z0 := h0.size
  have z1 := hb1.size
  have z2 := hb2.size
  have z3 := hb3.size
  have z4 := hb4.size
  have hk1 := (h0.trans (hb1.mono z0)).trans (hb2.mono (Nat.le_trans z0 z1))
  have hk := (hk1.trans (hb3.mono hk1.size)).trans (hb4.mono (by omega))
  have hbe : we.heap[w.heap.size]? = some (.cells #[u0, u1, u2, u3, u4, u5, .int .i64 s.mov] 67 (0, 0)) := (hk.block _ hcb).trans hblk
  have far : ∀ {e : TypeId} {v : Value} {m : Nat} {xs : List Value} {B : Nat}, we.ownsRow B e 1 v m xs → w.heap.size < B → ((((we.setCell ⟨w.heap.size, 1, none⟩ v1).setCell ⟨w.heap.size, 2, none⟩ v2).setCell ⟨w.heap.size, 5, none⟩ v3).setCell ⟨w.heap.size, 4, none⟩ (.slice (some ⟨b4, 0, none⟩) s.T d4)).ownsRow w.heap.size e 1 v m xs := fun {e v m xs B} h hB => by
    have hne : v.ownBlock ≠ some w.heap.size := fun e => by have := (h.lt _ e).1; omega
    exact own_base (set_own (set_own (set_own (set_own h _ hne) _ hne) _ hne) _ hne) (by omega)
  exact {
    bel := ((((hB.trans (hk.mono hB.size)).setCell (Nat.le_refl _) _).setCell (Nat.le_refl _) _).setCell (Nat.le_refl _) _).setCell (Nat.le_refl _) _
    cbg := Nat.le_refl _
    blk := by rw [e0, e3]; exact blk_set (blk_set (blk_set (blk_set hbe 1 v1) 2 v2) 5 v3) 4 _
    nx := far (own_below (own_below (own_below ho1 hb2) hb3) hb4) (by omega)
    ou := far (own_below (own_below ho2 hb3) hb4) (by omega)
    op := far (own_below ho3 hb4) (by omega)
    st := far ho4 (by omega)
    ss := fun t ht => absurd ht (Nat.not_lt_zero t)
    rest := fun _ _ => rfl
    d1 := (apart_ge ho1 (fun g hg => (ho2.lt g hg).1)).symm
    d2 := fun t ht => absurd ht (Nat.not_lt_zero t)
    d3 := fun t u ht => absurd ht (Nat.not_lt_zero t) }

/-- The copy, when all stacks are its own. -/
theorem CpInv.run {lab : Nat → Nat} {k k2 : Nat} (h : CpInv w wr L s cb v1 v2 v3 gs cs s.T vs) (hr : RunRaw w lab k L s) (hk2 : k2 ≠ 0) :
    RunRaw wr (relab lab w.heap.size k2) k2 { L with r := cb, vnx := v1, vou := v2, vst := .slice (some ⟨gs, 0, none⟩) s.T cs, vop := v3, vs := vs } s :=
  have lk : ∀ {e : TypeId} {v : Value} {m : Nat} {xs : List Value}, wr.ownsRow w.heap.size e 1 v m xs → ∀ g, v.ownBlock = some g → relab lab w.heap.size k2 g = k2 := fun h g hg => relab_ge (h.lt g hg).1
  have l0 : ∀ {e : TypeId} {v : Value} {m : Nat} {xs : List Value}, w.ownsRow 0 e 1 v m xs → (∀ g, v.ownBlock = some g → lab g = 0) → ∀ g, v.ownBlock = some g → relab lab w.heap.size k2 g = 0 := fun h h' g hg => by rw [relab_lt (h.lt g hg).2]; exact h' g hg
  { k0 := hk2
    blk := h.blk
    ch := own_below hr.ch h.bel
    nx := own_base h.nx (Nat.zero_le _)
    ou := own_base h.ou (Nat.zero_le _)
    pa := own_below hr.pa h.bel
    st := own_base h.st (Nat.zero_le _)
    op := own_base h.op (Nat.zero_le _)
    cs := fun p hp => own_below (hr.cs p hp) h.bel
    ss := fun t ht => own_base (h.ss t ht) (Nat.zero_le _)
    lr := relab_ge h.cbg
    lch := l0 hr.ch hr.lch
    lnx := lk h.nx
    lou := lk h.ou
    lpa := l0 hr.pa hr.lpa
    lst := lk h.st
    lop := lk h.op
    lcs := fun p hp => l0 (hr.cs p hp) (hr.lcs p hp)
    lss := fun t ht => lk (h.ss t ht)
    d1 := h.d1
    d2 := fun t ht g hg => ⟨fun e => (h.d2 t ht).1 g hg e, fun e => (h.d2 t ht).2 g hg e⟩
    d3 := fun t u ht hu htu g hg => h.d3 t u ht hu htu g hg }
end

/-- What Copy answers. -/
def CopyOut (w : World) (lab : Nat → Nat) (k2 : Nat) (s : D) (e : Ending) (w' : World) : Prop :=
  ∃ L', e = .returned (.pointer (some ⟨L'.r, 0, none⟩)) ∧ RunRaw w' (relab lab w.heap.size k2) k2 L' s ∧ Below w.heap.size w w'

set_option maxHeartbeats 4000000 in
set_option maxRecDepth 100000 in
theorem copy_raw {w : World} {lab : Nat → Nat} {k : Nat} {L : Lay} {s : D} (h : RunRaw w lab k L s) (hn1 : 1 ≤ s.n) (hn : s.n ≤ 256) (hT : 2 ≤ s.T) (hT2 : s.T ≤ 17) (hst : ∀ t, t < s.T → (s.stk t).length ≤ 256) (k2 : Nat) (hk2 : k2 ≠ 0) :
    Calls Try.prog 14 #[.pointer (some ⟨L.r, 0, none⟩)] w (CopyOut w lab k2 s) := by
  obtain ⟨f0, f1, f2, f3, f4, f5, f6⟩ := h.fields
  have H := Lib.hid h
  have HST := Lib.hid hst
  have hrl := h.rlt
  obtain ⟨A0, c0, e0, _⟩ := own_any h.ch
  obtain ⟨A1, c1, e1, _⟩ := own_any h.nx
  obtain ⟨A2, c2, e2, _⟩ := own_any h.ou
  obtain ⟨A3, c3, e3, _⟩ := own_any h.pa
  obtain ⟨A4, c4, e4, _⟩ := own_any h.st
  obtain ⟨A5, c5, e5, _⟩ := own_any h.op
  have HC1 := Lib.hid h.nx
  have HC2 := Lib.hid h.ou
  have HC4 := Lib.hid h.st
  have HC5 := Lib.hid h.op
  rw [e0] at f0
  rw [e1] at f1 HC1
  rw [e2] at f2 HC2
  rw [e3] at f3
  rw [e4] at f4 HC4
  rw [e5] at f5 HC5
  have one_vals : ∀ u ∈ (List.range s.T).map L.vs, u.oneCell' = true := fun u hu => by
    obtain ⟨t, ht, rfl⟩ := List.mem_map.1 hu
    obtain ⟨A, c, e⟩ := h.stack (List.mem_range.1 ht)
    rw [e]; rfl
  have E0 := Lib.hid e0
  have E3 := Lib.hid e3
  have OV := Lib.hid one_vals
  clear one_vals h hst e0 e1 e2 e3 e4 e5
  go_enter Try.func14, Try.ntmps14
  go_wp2_with fail
  have hb0 : Below w.heap.size w (w.alloc (.cells #[.slice A0 s.n c0, .slice A1 s.n c1, .slice A2 s.n c2, .slice A3 s.n c3, .slice A4 s.T c4, .slice A5 s.n c5, .int .i64 s.mov] 67)) := (Below.refl _ _).alloc (Nat.le_refl _) _
  have hblk := heap_alloc_new w (.cells #[.slice A0 s.n c0, .slice A1 s.n c1, .slice A2 s.n c2, .slice A3 s.n c3, .slice A4 s.T c4, .slice A5 s.n c5, .int .i64 s.mov] 67)
  have hB := hb0.size
  have g1 := (hb0.cell (p := ⟨L.r, 1, none⟩) hrl).trans f1
  have g2 := (hb0.cell (p := ⟨L.r, 2, none⟩) hrl).trans f2
  have g4 := (hb0.cell (p := ⟨L.r, 4, none⟩) hrl).trans f4
  have g5 := (hb0.cell (p := ⟨L.r, 5, none⟩) hrl).trans f5
  have HC1 := Lib.hid (own_below HC1.out hb0)
  have HC2 := Lib.hid (own_below HC2.out hb0)
  have HC4 := Lib.hid (own_below HC4.out hb0)
  have HC5 := Lib.hid (own_below HC5.out hb0)
  have HB0 := Lib.hid hb0
  have HBLK := Lib.hid hblk
  have hrl2 : w.heap.size < (w.alloc (.cells #[.slice A0 s.n c0, .slice A1 s.n c1, .slice A2 s.n c2, .slice A3 s.n c3, .slice A4 s.T c4, .slice A5 s.n c5, .int .i64 s.mov] 67)).heap.size := by simp
  clear f0 f1 f2 f3 f4 f5 f6 hb0 hblk
  generalize w.alloc (.cells #[.slice A0 s.n c0, .slice A1 s.n c1, .slice A2 s.n c2, .slice A3 s.n c3, .slice A4 s.T c4, .slice A5 s.n c5, .int .i64 s.mov] 67) = W at *
  have hbk : Below W.heap.size W W.drew := below_drewN (Below.refl _ _) 1
  generalize hcb : w.heap.size = cb at *
  have HCB := Lib.hid hcb
  clear hcb
  have hne1 : ¬ L.r = cb := by omega
  have hne2 : ¬ cb = L.r := by omega
  go_region_held3 (fun w' => w'.cell? ⟨L.r, 1, none⟩ = some (.slice A1 s.n c1) ∧ w'.cell? ⟨L.r, 2, none⟩ = some (.slice A2 s.n c2) ∧ w'.cell? ⟨L.r, 4, none⟩ = some (.slice A4 s.T c4) ∧ w'.cell? ⟨L.r, 5, none⟩ = some (.slice A5 s.n c5))
    (first | go_keep | (refine ⟨?_, ?_, ?_, ?_⟩ <;> first | go_keep | (rw [hbk.cell (by show L.r < _; omega)]; assumption)))
    (first
      | (go_at_call 10; (with_reducible refine (clone_own_ints (own_below HC1.out hbk) one_ints (by omega)).mono ?_); rintro e wa ⟨v1, rfl, ho1, hb1⟩; obtain ⟨b1, d1, rfl⟩ := own_form ho1 (by omega); have hbk := hbk.trans (hb1.mono hbk.size))
      | (go_at_call 10; (with_reducible refine (clone_own_ints (own_below HC2.out hbk) one_ints (by omega)).mono ?_); rintro e wb ⟨v2, rfl, ho2, hb2⟩; obtain ⟨b2, d2, rfl⟩ := own_form ho2 (by omega); have hbk := hbk.trans (hb2.mono hbk.size))
      | (go_at_call 34; (with_reducible refine (clone_own_bools (own_below HC5.out hbk) one_bools (by omega)).mono ?_); rintro e wd ⟨v3, rfl, ho3, hb3⟩; obtain ⟨b3, d3, rfl⟩ := own_form ho3 (by omega); have hbk := hbk.trans (hb3.mono hbk.size))
      | (go_at_call 35; (with_reducible refine (clone_own_rows (own_below HC4.out hbk) OV.out (by omega)).mono ?_); rintro e we ⟨v4, rfl, ho4, hb4⟩; obtain ⟨b4, d4, rfl⟩ := own_form ho4 (by omega); have hbk := hbk.trans (hb4.mono hbk.size)
         have hblk2 := (hbk.block cb hrl2).trans HBLK.out
         have kk1 : we.cell? ⟨cb, 1, none⟩ = some (.slice A1 s.n c1) := cell_of_row we cb 1 _ 67 (0, 0) hblk2
         have kk2 : we.cell? ⟨cb, 2, none⟩ = some (.slice A2 s.n c2) := cell_of_row we cb 2 _ 67 (0, 0) hblk2
         have kk4 : we.cell? ⟨cb, 4, none⟩ = some (.slice A4 s.T c4) := cell_of_row we cb 4 _ 67 (0, 0) hblk2
         have kk5 : we.cell? ⟨cb, 5, none⟩ = some (.slice A5 s.n c5) := cell_of_row we cb 5 _ 67 (0, 0) hblk2
         have z1 := frozen_of_row we cb 1 _ 67 hblk2
         have z2 := frozen_of_row we cb 2 _ 67 hblk2
         have z4 := frozen_of_row we cb 4 _ 67 hblk2
         have z5 := frozen_of_row we cb 5 _ 67 hblk2
         have HBLK2 := Lib.hid hblk2
         clear hblk2))
  have HS : Hid (CpInv w ((((we.setCell ⟨cb, 1, none⟩ (.slice (some ⟨b1, 0, none⟩) s.n d1)).setCell ⟨cb, 2, none⟩ (.slice (some ⟨b2, 0, none⟩) s.n d2)).setCell ⟨cb, 5, none⟩ (.slice (some ⟨b3, 0, none⟩) s.n d3)).setCell ⟨cb, 4, none⟩ (.slice (some ⟨b4, 0, none⟩) s.T d4)) L s cb (.slice (some ⟨b1, 0, none⟩) s.n d1) (.slice (some ⟨b2, 0, none⟩) s.n d2) (.slice (some ⟨b3, 0, none⟩) s.n d3) b4 d4 0 L.vs) := by
    have e := HCB.out
    subst e
    exact cp_start HB0.out hrl2 HBLK.out E0.out E3.out (below_drewN (Below.refl _ _) 1) ho1 hb1 ho2 hb2 ho3 hb3 ho4 hb4
  clear ho1 ho2 ho3 ho4 hb1 hb2 hb3 hb4 hbk HBLK HBLK2 kk1 kk2 kk4 kk5 z1 z2 z4 z5 g1 g2 g4 g5 HC1 HC2 HC4 HC5 HB0 hrl2 hB E0 E3 OV
  generalize (((we.setCell ⟨cb, 1, none⟩ (.slice (some ⟨b1, 0, none⟩) s.n d1)).setCell ⟨cb, 2, none⟩ (.slice (some ⟨b2, 0, none⟩) s.n d2)).setCell ⟨cb, 5, none⟩ (.slice (some ⟨b3, 0, none⟩) s.n d3)).setCell ⟨cb, 4, none⟩ (.slice (some ⟨b4, 0, none⟩) s.T d4) = W4 at *
  have q4 : W4.cell? ⟨cb, 4, none⟩ = some (.slice (some ⟨b4, 0, none⟩) s.T d4) := cell_of_row W4 cb 4 _ 67 (0, 0) HS.out.blk
  go_wp2_with fail
  go_loopw [38] (fun i wr => Hid (∃ (i0 : Nat) (vs : Nat → Value), i0 ≤ s.T ∧ i = .int .i64 (i0 : Nat) ∧ CpInv w wr L s cb (.slice (some ⟨b1, 0, none⟩) s.n d1) (.slice (some ⟨b2, 0, none⟩) s.n d2) (.slice (some ⟨b3, 0, none⟩) s.n d3) b4 d4 i0 vs)) (fun i _ => s.T - (intOf i).toNat)
  case atStart => exact ⟨0, _, Nat.zero_le _, rfl, HS.out⟩
  case round =>
    clear HS q4
    obtain ⟨i0, vs, hi0, rfl, hC⟩ := hrel.out
    clear hrel
    by_cases hlt : i0 < s.T
    · have q4 : wr.cell? ⟨cb, 4, none⟩ = some (.slice (some ⟨b4, 0, none⟩) s.T d4) := cell_of_row wr cb 4 _ 67 (0, 0) hC.blk
      obtain ⟨A, c, hA⟩ := H.out.stack hlt
      have qs : wr.cell? ⟨b4, i0, none⟩ = some (.slice A (s.stk i0).length c) := by
        have h1 := hC.st.cellAt i0 (by omega)
        rw [vals_get hlt, hC.rest i0 (Nat.le_refl _), hA] at h1
        exact h1
      have HO := Lib.hid (show (wr.drew).ownsRow 0 3 1 (.slice A (s.stk i0).length c) (s.stk i0).length (intl (s.stk i0)) by rw [← hA]; exact own_below (H.out.ss i0 hlt) (below_drewN hC.bel 1))
      have hlen := HST.out i0 hlt
      have HCI := Lib.hid hC
      have hbk : Below wr.drew.heap.size wr.drew wr.drew := Below.refl _ _
      have hcbl : cb < wr.heap.size := (Array.getElem?_eq_some_iff.1 hC.blk).1
      have hi1 : (0 : Int) ≤ (i0 : Int) := by omega
      have hi2 : (i0 : Int) < (s.T : Int) := by omega
      have hbl : b4 < wr.heap.size := own_lt hC.st rfl
      have hne3 : ¬ cb = b4 := fun e => own_blk_ne hC.st hC.blk (by decide) (by rw [e]; rfl)
      have hne4 : ¬ b4 = cb := fun e => hne3 e.symm
      clear hC hA
      go_wp2_with fail
      go_region_held3 (fun w' => w'.cell? ⟨cb, 4, none⟩ = some (.slice (some ⟨b4, 0, none⟩) s.T d4))
        (first | go_keep | (rw [hbk.cell (by show cb < _; simp; omega)]; assumption))
        ((go_at_call 10; (with_reducible refine (clone_own_ints HO.out one_intl (by omega)).mono ?_); rintro e wa ⟨v1, rfl, ho1, hbk⟩; obtain ⟨A1', c1', rfl, _⟩ := own_any ho1
          have hbw : Below wr.heap.size wr wa := (below_drewN (Below.refl _ _) 1).trans hbk
          have hq : wa.cell? ⟨b4, i0, none⟩ = some (.slice A (s.stk i0).length c) := (hbw.cell (p := ⟨b4, i0, none⟩) hbl).trans qs
          have hz : wa.frozen? ⟨b4, i0, none⟩ = false := (own_below HCI.out.st hbw).frozenAt i0))
      have HN := Lib.hid (HCI.out.next hlt hbw ho1)
      clear hbw hq hz ho1 HCI HO hbk
      go_wp2_with fail
      go_roundw
      case rel => exact ⟨i0 + 1, _, by omega, by go_num, HN.out⟩
      case measure => simp [intOf]; omega
    · have HC := Lib.hid hC
      clear hC
      go_wp2_with fail
      go_ret
      have e : i0 = s.T := by omega
      subst e
      refine ⟨_, rfl, HC.out.run H.out hk2, HC.out.bel⟩
end Go.Proofs.Ytlncdkdkoamadaa

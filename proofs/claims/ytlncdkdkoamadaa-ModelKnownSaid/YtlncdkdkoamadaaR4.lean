/-
  WALKS: the reference's New.
-/
import Derived.Test.YtlncdkdkoamadaaR1
import Derived.Deep.DeepCutAuto
import Derived.RegionCalls
namespace Go.Proofs.Ytlncdkdkoamadaa
open Go.RowKit

theorem own_of_made {W : World} {g base : Nat} {e : TypeId} {z : Value} {n : Nat} (h : W.heap[g]? = some (.cells (madeCells #[z] n) e (0, 0))) (hb : base ≤ g) (hn : n ≤ 1000) :
    W.ownsRow base e 1 (.slice (some ⟨g, 0, none⟩) n n) n (List.replicate n z) := by
  refine ⟨by simp, .inr ⟨g, n, _, rfl, hb, h, Nat.le_refl _, by unfold maxLen; omega, by simp [size_madeCells], ?_⟩⟩
  rw [toList_madeCells_one]
  simp

/-- Just made by the reference's composite literal. -/
structure RefMade (w W : World) (r : Nat) (A : Option Addr) (n c : Nat) (T : Nat) (v1 v2 v3 : Value) : Prop where
  bel : Below w.heap.size w W
  blk : W.heap[r]? = some (.cells #[.slice A n c, v1, v2, v3, .int .i64 0] 63 (0, 0))
  rge : w.heap.size ≤ r
  st : W.ownsRow w.heap.size 22 1 v1 T (List.replicate T (.slice none 0 0))
  be : W.ownsRow w.heap.size 4 1 v2 n (List.replicate n (.bool false))
  en : W.ownsRow w.heap.size 4 1 v3 n (List.replicate n (.bool false))
  ap : Apart v2 v3

theorem heap4 (w : World) (a b c d : Obj) : ((((w.alloc a).alloc b).alloc c).alloc d).drew.heap[w.heap.size]? = some a ∧ ((((w.alloc a).alloc b).alloc c).alloc d).drew.heap[w.heap.size + 1]? = some b ∧
    ((((w.alloc a).alloc b).alloc c).alloc d).drew.heap[w.heap.size + 1 + 1]? = some c ∧ ((((w.alloc a).alloc b).alloc c).alloc d).drew.heap[w.heap.size + 1 + 1 + 1]? = some d := by
  have h1 := heap_alloc_new w a
  have h2 := heap_alloc_new (w.alloc a) b
  have h3 := heap_alloc_new ((w.alloc a).alloc b) c
  have h4 := heap_alloc_new (((w.alloc a).alloc b).alloc c) d
  have e1 : (w.alloc a).heap.size = w.heap.size + 1 := by simp
  have e2 : ((w.alloc a).alloc b).heap.size = w.heap.size + 1 + 1 := by simp
  have e3 : (((w.alloc a).alloc b).alloc c).heap.size = w.heap.size + 1 + 1 + 1 := by simp
  rw [e1] at h2
  rw [e2] at h3
  rw [e3] at h4
  refine ⟨?_, ?_, ?_, h4⟩
  · exact (Below.heap_alloc _ d _ (by omega)).trans ((Below.heap_alloc _ c _ (by omega)).trans ((Below.heap_alloc _ b _ (by omega)).trans h1))
  · exact (Below.heap_alloc _ d _ (by omega)).trans ((Below.heap_alloc _ c _ (by omega)).trans h2)
  · exact (Below.heap_alloc _ d _ (by omega)).trans h3
theorem below4 (w : World) (a b c d : Obj) : Below w.heap.size w ((((w.alloc a).alloc b).alloc c).alloc d).drew :=
  (((((Below.refl _ _).alloc (Nat.le_refl _) a).alloc (by simp) b).alloc (by simp; omega) c).alloc (by simp; omega) d).drew
theorem RefMade.of {w W : World} {r gs gb ge : Nat} {A : Option Addr} {n c T : Nat} (hb : Below w.heap.size w W) (hr : w.heap.size ≤ r) (hblk : W.heap[r]? = some (.cells #[.slice A n c, .slice (some ⟨gs, 0, none⟩) T T, .slice (some ⟨gb, 0, none⟩) n n, .slice (some ⟨ge, 0, none⟩) n n, .int .i64 0] 63 (0, 0)))
    (hs : W.heap[gs]? = some (.cells (madeCells #[.slice none 0 0] T) 22 (0, 0))) (h2 : W.heap[gb]? = some (.cells (madeCells #[.bool false] n) 4 (0, 0))) (h3 : W.heap[ge]? = some (.cells (madeCells #[.bool false] n) 4 (0, 0)))
    (gs0 : w.heap.size ≤ gs) (gb0 : w.heap.size ≤ gb) (ge0 : w.heap.size ≤ ge) (hne : gb ≠ ge) (hn : n ≤ 256) (hT : T ≤ 17) : RefMade w W r A n c T (.slice (some ⟨gs, 0, none⟩) T T) (.slice (some ⟨gb, 0, none⟩) n n) (.slice (some ⟨ge, 0, none⟩) n n) where
  bel := hb
  blk := hblk
  rge := hr
  st := own_of_made hs gs0 (by omega)
  be := own_of_made h2 gb0 (by omega)
  en := own_of_made h3 ge0 (by omega)
  ap := fun g hg hg' => by cases hg; cases hg'; exact hne rfl

theorem RefMade.raw {w W : World} {r : Nat} {A : Option Addr} {n c T : Nat} {f : Nat → Int} {v1 v2 v3 : Value} {lab : Nat → Nat} {k : Nat} (h : RefMade w W r A n c T v1 v2 v3) (hn : 1 ≤ n) (hk : k ≠ 0) (ha : RdI w A n f) (hA : ∀ ad, A = some ad → lab ad.block = 0) :
    RefRaw W (relab lab w.heap.size k) k ⟨r, A, c, v1, v2, v3, fun _ => .slice none 0 0⟩ { n, T, par := f, beg := fun _ => false, fin := fun _ => false, stk := fun _ => [], mov := 0 } :=
  have lk : ∀ {e : TypeId} {v : Value} {m : Nat} {xs : List Value}, W.ownsRow w.heap.size e 1 v m xs → ∀ g, v.ownBlock = some g → relab lab w.heap.size k g = k := fun h g hg => relab_ge (h.lt g hg).1
  { k0 := hk
    blk := h.blk
    pa := ha.below h.bel (Nat.le_refl _)
    st := by rw [vals_const]; exact own_base h.st (Nat.zero_le _)
    be := by
      have e : bools (fun _ => false) n = List.replicate n (.bool false) := vals_const (.bool false) n
      show W.ownsRow 0 4 1 v2 n (bools (fun _ => false) n)
      rw [e]; exact own_base h.be (Nat.zero_le _)
    en := by
      have e : bools (fun _ => false) n = List.replicate n (.bool false) := vals_const (.bool false) n
      show W.ownsRow 0 4 1 v3 n (bools (fun _ => false) n)
      rw [e]; exact own_base h.en (Nat.zero_le _)
    ss := fun t _ => World.ownsRow_nil _ _ _ _
    lr := relab_ge h.rge
    lpa := fun ad had => by
      have had : A = some ad := had
      obtain ⟨b, off, hb, hl, _⟩ := ha hn
      rw [had] at hb
      cases hb
      rw [relab_lt hl]; exact hA _ had
    lst := lk h.st
    lbe := lk h.be
    len := lk h.en
    lss := fun t _ g hg => by cases hg
    d1 := h.ap
    d3 := fun t u _ _ _ g hg => by cases hg }

/-- Behind the two stores: a run at its beginning. -/
theorem RefMade.init {w W : World} {r : Nat} {A : Option Addr} {n c T : Nat} {f : Nat → Int} {gs cs gb cb : Nat} {v3 : Value} {lab : Nat → Nat} {k : Nat} (h : RefMade w W r A n c T (.slice (some ⟨gs, 0, none⟩) T cs) (.slice (some ⟨gb, 0, none⟩) n cb) v3) (hn : 1 ≤ n) (hk : k ≠ 0) (ha : RdI w A n f) (hA : ∀ ad, A = some ad → lab ad.block = 0) :
    ∃ R, R.r = r ∧ R.A = A ∧ R.c = c ∧ RefRaw (((W.setCell ⟨gs, 0, none⟩ (.slice (some ⟨W.heap.size, 0, none⟩) 1 1)).setCell ⟨gb, 0, none⟩ (.bool true)).alloc (.cells #[.int .i64 0] 3)) (relab lab w.heap.size k) k R (G.init n T f) ∧
      Below w.heap.size w (((W.setCell ⟨gs, 0, none⟩ (.slice (some ⟨W.heap.size, 0, none⟩) 1 1)).setCell ⟨gb, 0, none⟩ (.bool true)).alloc (.cells #[.int .i64 0] 3)) := by
  have e1 : ((W.setCell ⟨gs, 0, none⟩ (.slice (some ⟨W.heap.size, 0, none⟩) 1 1)).setCell ⟨gb, 0, none⟩ (.bool true)).alloc (.cells #[.int .i64 0] 3) = ((W.alloc (.cells #[.int .i64 0] 3)).setCell ⟨gs, 0, none⟩ (.slice (some ⟨W.heap.size, 0, none⟩) 1 1)).setCell ⟨gb, 0, none⟩ (.bool true) := by
    rw [World.setCell_alloc_past _ _ _ _ (own_lt h.st rfl), World.setCell_alloc_past _ _ _ _ (by simp; exact own_lt h.be rfl)]
  rw [e1]
  have h0 := h.raw (f := f) hn hk ha hA
  have hal : Below W.heap.size W (W.alloc (.cells #[.int .i64 0] 3)) := (Below.refl _ _).alloc (Nat.le_refl _) _
  have h1 := h0.below hal
  have hown := World.ownsRow_lit (base := W.heap.size) (e := 3) (size := 1) W #[.int .i64 0] 1 (Nat.le_refl _) (by unfold maxLen; omega) rfl
  have h2 := h1.setStk (t := 0) rfl (.slice (some ⟨W.heap.size, 0, none⟩) 1 1) [0] (fun t => if t = 0 then .slice (some ⟨W.heap.size, 0, none⟩) 1 1 else .slice none 0 0) (fun t => if t = 0 then [0] else []) (by simp) (fun u hu => by simp [hu]) (by simp) (fun u hu => by simp [hu])
    (own_base hown (Nat.zero_le _)) (fun b hb => ⟨by cases hb; exact relab_ge h.bel.size, fun u _ _ e => by cases e⟩)
  have h3 := h2.setBeg (i := 0) (g := gb) (c := cb) rfl true (fun i => decide (i = 0)) (by simp) (fun j hj => by simp [hj])
  refine ⟨_, rfl, rfl, rfl, h3, ?_⟩
  refine ((h.bel.trans (hal.mono h.bel.size)).setCell ?_ _).setCell ?_ _
  · exact (h.st.lt gs rfl).1
  · exact (h.be.lt gb rfl).1

section
variable {w : World}
/-- What the reference's New answers. -/
def RefNewOut (w : World) (lab : Nat → Nat) (k : Nat) (n : Nat) (wk : Int) (f : Nat → Int) (e : Ending) (w' : World) : Prop :=
  ∃ R : RLay, e = .returned (.pointer (some ⟨R.r, 0, none⟩)) ∧ RefRaw w' (relab lab w.heap.size k) k R (G.init n (thr wk) f) ∧ Below w.heap.size w w'

set_option maxHeartbeats 6400000 in
set_option maxRecDepth 100000 in
theorem refNew_any (A : Option Addr) (n c : Nat) (wk : Int) (f : Nat → Int) (lab : Nat → Nat) (k : Nat) (hk : k ≠ 0) (hA : ∀ ad, A = some ad → lab ad.block = 0) (hn1 : 1 ≤ n) (hn2 : n ≤ 256) (ha : RdI w A n f) :
    Calls Try.prog 13 #[.slice A n c, .int .i64 wk] w (RefNewOut w lab k n wk f) := by
  have hmk49 := fun u => made 49 4 (.bool false) 1 n Try.underlying49 info4 rfl (by omega) (by omega) u
  have hmk61 := fun u => made 61 22 (.slice none 0 0) 24 (thr wk) Try.underlying61 info22 rfl (by omega) (by have := thr_le wk; omega) u
  have hsum : IntKind.i64.wrap (min (max wk 1) 16 + 1) = (thr wk : Nat) := thr_wrap wk
  have hT1 := thr_ge wk
  have hT2 := thr_le wk
  have HI := Lib.hid (fun (W : World) (r gs cs gb cb : Nat) (v3 : Value) (h : RefMade w W r A n c (thr wk) (.slice (some ⟨gs, 0, none⟩) (thr wk) cs) (.slice (some ⟨gb, 0, none⟩) n cb) v3) => h.init (f := f) (lab := lab) (k := k) hn1 hk ha hA)
  clear ha hA
  go_enter Try.func13, Try.ntmps13
  go_wp2_with fail
  go_cut [5] (fun p wx => Hid (∃ r gs gb ge, p = .pointer (some ⟨r, 0, none⟩) ∧ RefMade w wx r A n c (thr wk) (.slice (some ⟨gs, 0, none⟩) (thr wk) (thr wk)) (.slice (some ⟨gb, 0, none⟩) n n) (.slice (some ⟨ge, 0, none⟩) n n)))
  case first =>
    go_region_with (go_at_call 33; refine (workers_any _ _).mono ?_; rintro e w' ⟨rfl, rfl⟩)
    all_goals (go_wp2_with fail; go_meet)
    all_goals
      refine ⟨_, _, _, _, rfl, RefMade.of (below4 _ _ _ _ _) ?_ (heap4 _ _ _ _ _).2.2.2 ?_ ?_ ?_ ?_ ?_ ?_ ?_ hn2 hT2⟩
      all_goals first | omega | exact (heap4 _ _ _ _ _).1 | exact (heap4 _ _ _ _ _).2.1 | exact (heap4 _ _ _ _ _).2.2.1
  case rest =>
    obtain ⟨r, gs, gb, ge, rfl, hM⟩ := hcut.out
    have HM := Lib.hid hM
    have HF := Lib.hid (HI.out wc r gs _ gb _ _ hM)
    have k1 : wc.cell? ⟨r, 1, none⟩ = some (.slice (some ⟨gs, 0, none⟩) (thr wk) (thr wk)) := cell_of_row wc r 1 _ 63 (0, 0) hM.blk
    have k2 : wc.cell? ⟨r, 2, none⟩ = some (.slice (some ⟨gb, 0, none⟩) n n) := cell_of_row wc r 2 _ 63 (0, 0) hM.blk
    have hrl : r < wc.heap.size := (Array.getElem?_eq_some_iff.1 hM.blk).1
    have hgl := own_lt hM.st rfl
    have hbl := own_lt hM.be rfl
    have ks : wc.cell? ⟨gs, 0, none⟩ = some (.slice none 0 0) := by
      have h := hM.st.cellAt 0 (by omega)
      rw [h]; rw [List.getElem?_replicate, if_pos (by omega)]
    have kb : wc.cell? ⟨gb, 0, none⟩ = some (.bool false) := by
      have h := hM.be.cellAt 0 (by omega)
      rw [h]; rw [List.getElem?_replicate, if_pos (by omega)]
    have zs := hM.st.frozenAt 0
    have zb := hM.be.frozenAt 0
    have n1 : ¬ r = gs := fun e => own_blk_ne hM.st hM.blk (by decide) (by rw [e]; rfl)
    have n2 : ¬ gb = gs := fun e => own_ne hM.st hM.be (by decide) (g := gs) rfl (by rw [e]; rfl)
    have n3 : ¬ gs = r := fun e => n1 e.symm
    have n4 : ¬ gs = gb := fun e => n2 e.symm
    clear hM hcut HI hmk49 hmk61 hsum
    go_wp2_with fail
    go_ret
    obtain ⟨R, e1, _, _, h1, h2⟩ := HF.out
    subst e1
    exact ⟨R, rfl, h1, h2⟩
end
end Go.Proofs.Ytlncdkdkoamadaa

/-
  WALKS: the reference's Step.
-/
import Derived.Test.YtlncdkdkoamadaaR2
import Derived.Test.YtlncdkdkoamadaaApp2
import Derived.Deep.RegionLaw
import Derived.Deep.CutRange
import Derived.Deep.DeepCutAuto
namespace Go.Proofs.Ytlncdkdkoamadaa
open Go.RowKit

section
variable {w W W' : World} {lab lab2 : Nat → Nat} {k : Nat} {R : RLay} {s : G}

/-- An append to a stack, and the store of what it gives. -/
theorem RefRaw.app (h : RefRaw W lab2 k R s) (hn : 1 ≤ s.n) {t : Nat} (ht : t < s.T) (hg : W.grownBy W' (R.vs t).ownBlock) {g c : Nat} (hv : R.vst = .slice (some ⟨g, 0, none⟩) s.T c) (v : Value) (l : List Nat) (vs : Nat → Value) (stk : Nat → List Nat)
    (e1 : vs t = v) (e2 : ∀ u, u ≠ t → vs u = R.vs u) (e3 : stk t = l) (e4 : ∀ u, u ≠ t → stk u = s.stk u)
    (ho : W'.ownsRow 0 3 1 v l.length (intl l)) (hat : v.ownBlock = (R.vs t).ownBlock ∨ v.ownBlock = some W.heap.size) :
    RefRaw (W'.setCell ⟨g, t, none⟩ v) (fun b => if b < W.heap.size then lab2 b else k) k { R with vs := vs } { s with stk := stk } :=
  have hb : R.vst.ownBlock = some g := by rw [hv]; rfl
  have hst := far_grown h.st hg (fun g hg e => own_ne (h.ss t ht) h.st (by decide) e hg)
  have hbe := far_grown h.be hg (fun g hg e => own_ne (h.ss t ht) h.be (by decide) e hg)
  have hen := far_grown h.en hg (fun g hg e => own_ne (h.ss t ht) h.en (by decide) e hg)
  have hblk : W'.heap[R.r]? = some (.cells #[.slice R.A s.n R.c, R.vst, R.vbe, R.ven, .int .i64 s.mov] 63 (0, 0)) := by
    rw [hg.block _ h.rlt (fun e => own_blk_ne (h.ss t ht) h.blk (by decide) e.symm)]; exact h.blk
  have hss : ∀ u, u < s.T → u ≠ t → W'.ownsRow 0 3 1 (R.vs u) (s.stk u).length (intl (s.stk u)) := fun u hu hne => far_grown (h.ss u hu) hg (fun g hg e => h.d3 u t hu ht hne g hg e)
  have hold : ∀ u, u < s.T → u ≠ t → ∀ b, v.ownBlock = some b → (R.vs u).ownBlock ≠ some b := fun u hu hne b hb' hu' => by
    rcases hat with e | e
    · exact h.d3 u t hu ht hne b hu' (by rw [← e]; exact hb')
    · rw [hb'] at e; cases e
      exact Nat.lt_irrefl _ (own_lt (h.ss u hu) hu')
  { k0 := h.k0
    blk := by rw [set_blk _ (fun e => own_blk_ne hst hblk (by decide) (by rw [hb]; exact congrArg some e.symm))]; exact hblk
    pa := (h.pa.frame hg.size fun ad had hlt => hg.block _ hlt (fun e => h.k0 (by rw [← h.lss t ht _ e.symm]; exact h.lpa ad had))).frame (by simp) fun ad had hlt => set_blk _ (fun e => h.k0 (by rw [← h.lst g hb, ← e]; exact h.lpa ad had))
    st := by
      show (W'.setCell ⟨g, t, none⟩ v).ownsRow 0 22 1 R.vst s.T ((List.range s.T).map vs)
      have h1 := hst
      rw [hv] at h1 ⊢
      have h2 := (h1.stored t v).1
      rw [vals_set] at h2
      have e : (List.range s.T).map vs = (List.range s.T).map fun j => if j = t then v else R.vs j := by
        apply List.map_congr_left
        intro j _
        by_cases ej : j = t
        · subst ej; simp [e1]
        · simp [ej, e2 j ej]
      rw [e]; exact h2
    be := set_own hbe _ (fun e => own_ne hbe hst (by decide) e hb)
    en := set_own hen _ (fun e => own_ne hen hst (by decide) e hb)
    ss := fun u hu => by
      show (W'.setCell ⟨g, t, none⟩ v).ownsRow 0 3 1 (vs u) (stk u).length (intl (stk u))
      by_cases e : u = t
      · subst e
        rw [e1, e3]
        exact set_own ho _ (fun e => own_ne ho hst (by decide) e hb)
      · rw [e2 u e, e4 u e]
        exact set_own (hss u hu e) _ (fun e' => own_ne (hss u hu e) hst (by decide) e' hb)
    lr := by simp only [h.rlt, if_true]; exact h.lr
    lpa := fun ad had => by
      have h0 := h.lpa ad had
      show (if ad.block < W.heap.size then lab2 ad.block else k) = 0
      obtain ⟨b, off, hA, hl, _⟩ := h.pa hn
      have had' : R.A = some ad := had
      rw [had'] at hA; cases hA
      rw [if_pos hl]; exact h0
    lst := fun b hb' => by simp only [own_lt h.st hb', if_true]; exact h.lst b hb'
    lbe := fun b hb' => by simp only [own_lt h.be hb', if_true]; exact h.lbe b hb'
    len := fun b hb' => by simp only [own_lt h.en hb', if_true]; exact h.len b hb'
    lss := fun u hu b hb' => by
      change (vs u).ownBlock = some b at hb'
      show (if b < W.heap.size then lab2 b else k) = k
      by_cases e : u = t
      · subst e
        rw [e1] at hb'
        rcases hat with e' | e'
        · rw [e'] at hb'
          rw [if_pos (own_lt (h.ss u hu) hb')]; exact h.lss u hu b hb'
        · rw [hb'] at e'; cases e'
          rw [if_neg (Nat.lt_irrefl _)]
      · rw [e2 u e] at hb'
        rw [if_pos (own_lt (h.ss u hu) hb')]; exact h.lss u hu b hb'
    d1 := h.d1
    d3 := fun u x hu hx hux b hb' => by
      change (vs u).ownBlock = some b at hb'
      show (vs x).ownBlock ≠ some b
      by_cases e : u = t
      · subst e
        rw [e1] at hb'
        rw [e2 x (fun e => hux e.symm)]
        exact hold x hx (fun e => hux e.symm) b hb'
      · rw [e2 u e] at hb'
        by_cases e' : x = t
        · subst e'
          rw [e1]
          intro hv'
          exact hold u hu e b hv' hb'
        · rw [e2 x e']
          exact h.d3 u x hu hx hux b hb' }

/-- What the walk reads behind the append. -/
theorem RefRaw.appFacts {w' : World} (h : RefRaw W lab k R s) {t : Nat} (ht : t < s.T) {o : Obj} {A : Option Addr} {n cg gs cs : Nat} (hA : R.vs t = .slice A n cg) (hvs : R.vst = .slice (some ⟨gs, 0, none⟩) s.T cs)
    (hg : (W.alloc o).drew.grownBy w' (Value.slice A n cg).ownBlock) :
    w'.cell? ⟨R.r, 1, none⟩ = some (.slice (some ⟨gs, 0, none⟩) s.T cs) ∧ w'.cell? ⟨gs, t, none⟩ = some (.slice A n cg) ∧ w'.frozen? ⟨gs, t, none⟩ = false := by
  have h1 : RefRaw (W.alloc o).drew lab k R s := h.below (((Below.refl _ _).alloc (Nat.le_refl _) o).drew)
  rw [← hA] at hg
  have hblk : w'.heap[R.r]? = some (.cells #[.slice R.A s.n R.c, R.vst, R.vbe, R.ven, .int .i64 s.mov] 63 (0, 0)) := by
    rw [hg.block _ h1.rlt (fun e => own_blk_ne (h1.ss t ht) h1.blk (by decide) e.symm)]; exact h1.blk
  have hst := far_grown h1.st hg (fun g hg e => own_ne (h1.ss t ht) h1.st (by decide) e hg)
  rw [hvs] at hst hblk
  refine ⟨cell_of_row w' _ 1 _ 63 (0, 0) hblk, ?_, hst.frozenAt t⟩
  rw [hst.cellAt t (by omega), vals_get ht, hA]

/-- In the midst of a step. -/
structure RMid (w W : World) (lab lab2 : Nat → Nat) (k : Nat) (R : RLay) (s : G) : Prop where
  run : RefRaw W lab2 k R s
  keep : Keeps lab k w W
  la : ∀ b, b < w.heap.size → lab2 b = lab b
theorem RMid.drewN (h : RMid w W lab lab2 k R s) (j : Nat) : RMid w (W.drewN j) lab lab2 k R s :=
  ⟨h.run.frame (Nat.le_refl _) (fun _ _ _ => rfl) (fun _ _ => rfl) (fun _ h => h), h.keep.drewN j, h.la⟩
theorem RMid.store {R' : RLay} {s' : G} {g i : Nat} {u : Value} (h : RMid w W lab lab2 k R s) (hg : lab2 g = k) (hr : RefRaw (W.setCell ⟨g, i, none⟩ u) lab2 k R' s') : RMid w (W.setCell ⟨g, i, none⟩ u) lab lab2 k R' s' :=
  ⟨hr, h.keep.setCell (fun hb => by rw [← h.la g hb]; exact hg) u, h.la⟩
theorem RMid.app (h : RMid w W lab lab2 k R s) (hn : 1 ≤ s.n) {t : Nat} (ht : t < s.T) (hg : W.grownBy W' (R.vs t).ownBlock) {g c : Nat} (hv : R.vst = .slice (some ⟨g, 0, none⟩) s.T c) (v : Value) (l : List Nat) (vs : Nat → Value) (stk : Nat → List Nat)
    (e1 : vs t = v) (e2 : ∀ u, u ≠ t → vs u = R.vs u) (e3 : stk t = l) (e4 : ∀ u, u ≠ t → stk u = s.stk u)
    (ho : W'.ownsRow 0 3 1 v l.length (intl l)) (hat : v.ownBlock = (R.vs t).ownBlock ∨ v.ownBlock = some W.heap.size) :
    RMid w (W'.setCell ⟨g, t, none⟩ v) lab (fun b => if b < W.heap.size then lab2 b else k) k { R with vs := vs } { s with stk := stk } := by
  have hgN : g < W.heap.size := own_lt h.run.st (by rw [hv]; rfl)
  have hlg : lab2 g = k := h.run.lst g (by rw [hv]; rfl)
  have hs := h.keep.size
  refine ⟨h.run.app hn ht hg hv v l vs stk e1 e2 e3 e4 ho hat, ?_, fun b hb => ?_⟩
  · refine (h.keep.grown hg (fun b hb hlt => ?_)).setCell (fun hlt => ?_) _
    · rw [← h.la b hlt]; exact h.run.lss t ht b hb
    · rw [← h.la g hlt]; exact hlg
  · rw [if_pos (Nat.lt_of_lt_of_le hb hs)]; exact h.la b hb
/-- A new block is the run's own. -/
theorem RMid.alloc (h : RMid w W lab lab2 k R s) (hn : 1 ≤ s.n) (o : Obj) : RMid w (W.alloc o) lab (fun b => if b < W.heap.size then lab2 b else k) k R s := by
  have hb : Below W.heap.size W (W.alloc o) := (Below.refl _ _).alloc (Nat.le_refl _) o
  obtain ⟨b, off, hA, hl, _⟩ := h.run.pa hn
  have h1 := h.run.frame (w' := W.alloc o) (lab' := fun b => if b < W.heap.size then lab2 b else k) hb.size (fun b hlt _ => hb.block b hlt) (fun b hb => by simp [hb])
  refine ⟨?_, h.keep.alloc o, fun b hb => by rw [if_pos (Nat.lt_of_lt_of_le hb h.keep.size)]; exact h.la b hb⟩
  have h2 : RefRaw (W.alloc o) lab2 k R s := h.run.below hb
  exact { h2 with
    lr := by rw [if_pos h.run.rlt]; exact h.run.lr
    lpa := fun ad had => by rw [hA] at had; cases had; rw [if_pos hl]; exact h.run.lpa _ hA
    lst := fun b hb' => by rw [if_pos (own_lt h.run.st hb')]; exact h.run.lst b hb'
    lbe := fun b hb' => by rw [if_pos (own_lt h.run.be hb')]; exact h.run.lbe b hb'
    len := fun b hb' => by rw [if_pos (own_lt h.run.en hb')]; exact h.run.len b hb'
    lss := fun u hu b hb' => by rw [if_pos (own_lt (h.run.ss u hu) hb')]; exact h.run.lss u hu b hb' }

theorem G.free?_first {s : G} {u : Nat} (hu : u < s.T) (h0 : 0 < u) (he : (s.stk u).isEmpty = true) (hl : ∀ x, 0 < x → x < u → (s.stk x).isEmpty = false) : s.free? = some u := by
  unfold G.free?
  rw [List.find?_range_eq_some]
  refine ⟨by simp [h0, he], by simpa using hu, fun x hx => ?_⟩
  by_cases h : 0 < x
  · simp [hl x h hx]
  · simp [h]
theorem G.free?_no {s : G} (hl : ∀ x, 0 < x → x < s.T → (s.stk x).isEmpty = false) : s.free? = none := by
  unfold G.free?
  rw [List.find?_eq_none]
  intro x hx
  by_cases h : 0 < x
  · simp [hl x h (List.mem_range.1 hx)]
  · simp [h]

/-- What Step answers, and leaves. -/
def RefStepOut (w : World) (lab : Nat → Nat) (k r : Nat) (s : G) (t : Nat) (e : Ending) (w' : World) : Prop :=
  e = .returned (.tuple #[.int .i64 ((s.move t).1 : Nat), .int .i64 ((s.move t).2.1 : Nat), .bool (s.move t).2.2]) ∧ ∃ lab' R', R'.r = r ∧ RMid w w' lab lab' k R' (s.step t)

set_option maxHeartbeats 3200000 in
set_option maxRecDepth 100000 in
theorem refStep_end (h : RefRaw w lab k R s) (hI : s.Inv) (hn : s.n ≤ 256) (t : Nat) (hr : s.rdy t = true) (hk : s.kid? (s.top t) = none) :
    Calls Try.prog 19 #[.pointer (some ⟨R.r, 0, none⟩), .int .i64 (t : Nat)] w (RefStepOut w lab k R.r s t) := by
  obtain ⟨htT, hne, _⟩ := G.rdy_spec hr
  obtain ⟨m1, m2, m3, m4, m5, m6, m7, m8, m9, m10⟩ := G.end_facts hI hr hk
  have hmv := G.mov_le hI
  have M0 : RMid w w lab lab k R s := ⟨h, Keeps.refl _ _ _, fun _ _ => rfl⟩
  have M1 := M0.store h.lr (h.setMov (s.mov + 1) (↑s.mov + 1) (by omega))
  have f4 := h.fields.2.2.2.2
  have z4 := h.free 4
  have HM := Lib.hid M1
  have HI := Lib.hid hI
  clear M0 M1 h
  go_enter Try.func19, Try.ntmps19
  go_upto_region 2 with (fail)
  clear f4 z4
  generalize w.setCell ⟨R.r, 4, none⟩ (.int .i64 (↑s.mov + 1)) = W1 at *
  obtain ⟨gs, cs, hvs, s1, s2, hgs, s4, s5⟩ := HM.out.run.stacks hI.thr
  obtain ⟨g, c, hA, c1, c2, hgl, hob, htop⟩ := HM.out.run.stackTop (t := t) htT hne
  obtain ⟨ge, ce, hve, _, _, _, e4, e5⟩ := HM.out.run.fins hI.tree.pos
  obtain ⟨f0, f1, f2, f3, _⟩ := HM.out.run.fields
  have hown := HM.out.run.ss t htT
  rw [hvs] at f1
  rw [hve] at f3
  have st := s4 t htT
  have hpos : 0 < (s.stk t).length := by
    cases e : s.stk t with
    | nil => rw [e] at hne; cases hne
    | cons => simp
  have hlen := G.stk_len hI htT
  change W1.cell? ⟨gs, t, none⟩ = some (R.vs t) at st
  change W1.cell? ⟨R.r, 3, none⟩ = some (.slice (some ⟨ge, 0, none⟩) s.n ce) at f3
  change W1.cell? ⟨R.r, 1, none⟩ = some (.slice (some ⟨gs, 0, none⟩) s.T cs) at f1
  change W1.ownsRow 0 3 1 (R.vs t) (s.stk t).length (intl (s.stk t)) at hown
  change R.vs t = .slice (some ⟨g, 0, none⟩) (s.stk t).length c at hA
  change (s.stk t).length ≤ c at c1
  change W1.cell? ⟨g, (s.stk t).length - 1, none⟩ = some (.int .i64 (s.top t : Nat)) at htop
  rw [hA] at st hown
  have et := e4 (s.top t) m2
  have ez := e5 (s.top t)
  change W1.cell? ⟨ge, s.top t, none⟩ = some (.bool (s.fin (s.top t))) at et
  rw [m5] at et
  have HCH := Lib.hid (child_any HM.out.run ⟨hI.tree.pos, hI.tree.par⟩ hn (s.top t) m2)
  have HK : Hid (kidI { s with mov := s.mov + 1 } (s.top t) = -1) := Lib.hid (kidI_none hk)
  have HA := Lib.hid hA
  have HOWN := Lib.hid (own_short hown (show (s.stk t).length - 1 ≤ (s.stk t).length by omega))
  have hdl : (s.stk t).dropLast.length = (s.stk t).length - 1 := by simp
  have hdt : (intl (s.stk t)).take ((s.stk t).length - 1) = intl (s.stk t).dropLast := by
    unfold intl
    rw [← List.map_take, ← List.dropLast_eq_take]
  have HDL := Lib.hid hdl
  have HDT := Lib.hid hdt
  have HVS := Lib.hid hvs
  have HVE := Lib.hid hve
  have hrl := HM.out.run.rlt
  have HMV : Hid (s.move t = (t, s.top t, true)) := m1
  have hst : s.step t = { s with fin := fun i => if i = s.top t then true else s.fin i, stk := fun u => if u = t then (s.stk t).dropLast else s.stk u, mov := s.mov + 1 } := by unfold G.step; rw [hk]
  have HST := Lib.hid hst
  generalize hm : (s.stk t).length = m at *
  have Hm := Lib.hid hm
  generalize hp : s.top t = p at *
  have Hp := Lib.hid hp
  clear hst hvs hve hA hown hdl hdt hne hk e4 e5 s4 m1 m4 m5 m6 m7 m8 m9 m10 hm hp
  unfold maxLen at c2 s2
  go_wp2_with fail
  refine HCH.out.mono ?_
  rintro e w' ⟨rfl, rfl⟩
  rw [HK.out]
  clear HCH HK htop
  go_upto_region 7 with (fail)
  have M2 := HM.out.store (HM.out.run.len ge (by rw [HVE.out]; rfl)) (HM.out.run.setFin (i := p) HVE.out true (fun i => if i = p then true else s.fin i) (by simp) (fun j hj => by simp [hj]))
  have n1 : ¬ R.r = ge := fun e => own_blk_ne HM.out.run.en HM.out.run.blk (by decide) (by rw [HVE.out, e]; rfl)
  have n2 : ¬ gs = ge := fun e => own_ne HM.out.run.st HM.out.run.en (by decide) (g := gs) (by rw [HVS.out]; rfl) (by rw [HVE.out, e]; rfl)
  have f1' : (W1.setCell ⟨ge, p, none⟩ (.bool true)).cell? ⟨R.r, 1, none⟩ = some (.slice (some ⟨gs, 0, none⟩) s.T cs) := by rw [← f1]; exact World.cell?_of_block (set_blk _ n1)
  have st' : (W1.setCell ⟨ge, p, none⟩ (.bool true)).cell? ⟨gs, t, none⟩ = some (.slice (some ⟨g, 0, none⟩) m c) := by rw [← st]; exact World.cell?_of_block (set_blk _ n2)
  have sz' := M2.run.stacks hI.thr
  have hz : (W1.setCell ⟨ge, p, none⟩ (.bool true)).frozen? ⟨gs, t, none⟩ = false := by
    have := M2.run.st
    rw [HVS.out] at this
    exact this.frozenAt t
  have HOWN2 := Lib.hid (set_own HOWN.out (g0 := ge) (i := p) (.bool true) (fun e => own_ne (HM.out.run.ss t htT) HM.out.run.en (by decide) (g := g) (by rw [HA.out]; rfl) (by rw [HVE.out]; exact e.symm)))
  have HM2 := Lib.hid M2
  clear M2 f1 st f3 et ez f0 f2 s5 n1 n2 sz' HOWN
  generalize W1.setCell ⟨ge, p, none⟩ (.bool true) = W2 at *
  go_region
  have hownD : W2.ownsRow 0 3 1 (.slice (some ⟨g, 0, none⟩) (m - 1) c) (s.stk t).dropLast.length (intl (s.stk t).dropLast) := by
    rw [HDL.out, ← HDT.out]
    exact HOWN2.out
  have M3 := (HM2.out.store (g := gs) (HM2.out.run.lst gs (by rw [HVS.out]; rfl)) (HM2.out.run.setStk (t := t) HVS.out (.slice (some ⟨g, 0, none⟩) (m - 1) c) (s.stk t).dropLast (fun u => if u = t then .slice (some ⟨g, 0, none⟩) (m - 1) c else R.vs u) (fun u => if u = t then (s.stk t).dropLast else s.stk u)
    (by simp) (fun u hu => by simp [hu]) (by simp) (fun u hu => by simp [hu]) hownD
    (fun b hb => by
      have hb' : (R.vs t).ownBlock = some b := by rw [HA.out]; exact hb
      exact ⟨HM2.out.run.lss t htT b hb', fun u hu hut e => HM2.out.run.d3 t u htT hu (fun e => hut e.symm) b hb' e⟩))).drewN 1
  have HM3 := Lib.hid M3
  clear M3 hownD HM2 HOWN2 f1' st' hz
  go_wp2_with fail
  go_ret3
  refine ⟨by rw [HMV.out]; rfl, lab, { R with vs := fun u => if u = t then .slice (some ⟨g, 0, none⟩) (m - 1) c else R.vs u }, rfl, ?_⟩
  rw [HST.out]
  exact HM3.out

set_option maxHeartbeats 6400000 in
set_option maxRecDepth 100000 in
theorem refStep_beg (h : RefRaw w lab k R s) (hI : s.Inv) (hn : s.n ≤ 256) (t q : Nat) (hr : s.rdy t = true) (hk : s.kid? (s.top t) = some q) :
    Calls Try.prog 19 #[.pointer (some ⟨R.r, 0, none⟩), .int .i64 (t : Nat)] w (RefStepOut w lab k R.r s t) := by
  obtain ⟨htT, hne, _⟩ := G.rdy_spec hr
  obtain ⟨m1, m2, m3, m4, m5, m6, m7, m8, m9, m10, m11, m12, m13⟩ := G.beg_facts hI hr hk
  have hmv := G.mov_le hI
  have hpn : s.top t < s.n := Nat.lt_trans m7 m2
  have M0 : RMid w w lab lab k R s := ⟨h, Keeps.refl _ _ _, fun _ _ => rfl⟩
  have M1 := M0.store h.lr (h.setMov (s.mov + 1) (↑s.mov + 1) (by omega))
  have f4 := h.fields.2.2.2.2
  have z4 := h.free 4
  have HM := Lib.hid M1
  have HI := Lib.hid hI
  clear M0 M1 h
  go_enter Try.func19, Try.ntmps19
  go_upto_region 2 with (fail)
  clear f4 z4
  generalize w.setCell ⟨R.r, 4, none⟩ (.int .i64 (↑s.mov + 1)) = W1 at *
  obtain ⟨gs, cs, hvs, s1, s2, hgs, s4, s5⟩ := HM.out.run.stacks hI.thr
  obtain ⟨g, c, hA, c1, c2, hgl, hob, htop⟩ := HM.out.run.stackTop (t := t) htT hne
  obtain ⟨gb, cb, hvb, _, _, _, e4, e5⟩ := HM.out.run.begs hI.tree.pos
  obtain ⟨f0, f1, f2, f3, _⟩ := HM.out.run.fields
  rw [hvs] at f1
  rw [hvb] at f2
  have st := s4 t htT
  have hpos : 0 < (s.stk t).length := by
    cases e : s.stk t with
    | nil => rw [e] at hne; cases hne
    | cons => simp
  have hlen := G.stk_len hI htT
  change W1.cell? ⟨gs, t, none⟩ = some (R.vs t) at st
  change W1.cell? ⟨R.r, 2, none⟩ = some (.slice (some ⟨gb, 0, none⟩) s.n cb) at f2
  change W1.cell? ⟨R.r, 1, none⟩ = some (.slice (some ⟨gs, 0, none⟩) s.T cs) at f1
  change R.vs t = .slice (some ⟨g, 0, none⟩) (s.stk t).length c at hA
  change (s.stk t).length ≤ c at c1
  change W1.cell? ⟨g, (s.stk t).length - 1, none⟩ = some (.int .i64 (s.top t : Nat)) at htop
  rw [hA] at st
  have et := e4 q m2
  have ez := e5 q
  change W1.cell? ⟨gb, q, none⟩ = some (.bool (s.beg q)) at et
  rw [m5] at et
  have HCH := Lib.hid (child_any HM.out.run ⟨hI.tree.pos, hI.tree.par⟩ hn (s.top t) hpn)
  have HK : Hid (kidI { s with mov := s.mov + 1 } (s.top t) = (q : Nat)) := Lib.hid (kidI_some hk)
  have HA := Lib.hid hA
  have HVS := Lib.hid hvs
  have HVB := Lib.hid hvb
  have HMV : Hid (s.move t = (s.onto t, q, false)) := m1
  have hst : s.step t = { s with beg := fun i => if i = q then true else s.beg i, stk := fun u => if u = s.onto t then s.stk u ++ [q] else s.stk u, mov := s.mov + 1 } := by unfold G.step; rw [hk]
  have HST := Lib.hid hst
  have hrl := HM.out.run.rlt
  have hpos2 : (0 : Int) < ((s.stk t).length : Int) := by omega
  generalize hm : (s.stk t).length = m at *
  have Hm := Lib.hid hm
  generalize hp : s.top t = p at *
  clear hst hvs hvb hA hne hk e4 e5 s4 m1 m4 m5 m6 m7 m8 m9 m10 m11 m12 m13 hm hp hob
  unfold maxLen at c2 s2
  go_wp2_with fail
  refine HCH.out.mono ?_
  rintro e w' ⟨rfl, rfl⟩
  rw [HK.out]
  clear HCH HK htop
  go_upto_region 10 with (fail)
  have M2 := HM.out.store (HM.out.run.lbe gb (by rw [HVB.out]; rfl)) (HM.out.run.setBeg (i := q) HVB.out true (fun i => if i = q then true else s.beg i) (by simp) (fun j hj => by simp [hj]))
  have HM2 := Lib.hid M2
  clear M2 f1 st f2 et ez f0 f3 s5 HM
  generalize W1.setCell ⟨gb, q, none⟩ (.bool true) = W2 at *
  obtain ⟨gs', cs', hvs', _, _, hgs2, s4, s5⟩ := HM2.out.run.stacks hI.thr
  change R.vst = _ at hvs'
  rw [HVS.out] at hvs'
  simp only [Value.slice.injEq, Option.some.injEq, Addr.mk.injEq, and_true, true_and] at hvs'
  obtain ⟨hv1, _⟩ := hvs'
  subst hv1
  have hownt := HM2.out.run.ss t htT
  change W2.ownsRow 0 3 1 (R.vs t) (s.stk t).length (intl (s.stk t)) at hownt
  rw [HA.out, Hm.out] at hownt
  have HOWN := Lib.hid hownt
  have st2 := s4 t htT
  change W2.cell? ⟨gs, t, none⟩ = some (R.vs t) at st2
  rw [HA.out] at st2
  have ST2 := Lib.hid st2
  have S4 := Lib.hid s4
  have S5 := Lib.hid s5
  clear hownt st2 s4 s5
  have HF1 : Hid (∀ u, u < s.T → 0 < u → (s.stk u).isEmpty = true → (∀ x, 0 < x → x < u → (s.stk x).isEmpty = false) → s.onto t = u) := fun u h1 h2 h3 h4 => by unfold G.onto; rw [G.free?_first h1 h2 h3 h4]; rfl
  have HF2 : Hid ((∀ x, 0 < x → x < s.T → (s.stk x).isEmpty = false) → s.onto t = t) := fun h => by unfold G.onto; rw [G.free?_no h]; rfl
  have hn1 := hI.tree.pos
  have f1 := HM2.out.run.fields.2.1
  rw [HVS.out] at f1
  change W2.cell? ⟨R.r, 1, none⟩ = some (.slice (some ⟨gs, 0, none⟩) s.T cs) at f1
  have hrl2 := HM2.out.run.rlt
  have HSN : Hid (∀ u, (s.stk u).length ≤ s.n ∨ ¬ u < s.T) := fun u => by
    by_cases h : u < s.T
    · exact .inl (G.stk_len hI h)
    · exact .inr h
  go_wp2_with fail
  go_loop [10] (fun i => ∃ u : Nat, 1 ≤ u ∧ u ≤ s.T ∧ i = .int .i64 (u : Nat) ∧ Hid (∀ x, 0 < x → x < u → (s.stk x).isEmpty = false)) (fun i => s.T - (intOf i).toNat)
  case atStart => exact ⟨1, Nat.le_refl _, by omega, rfl, fun x h1 h2 => absurd h2 (by omega)⟩
  case round =>
    obtain ⟨u, hu1, hu2, rfl, hall⟩ := hrel
    by_cases hlt : u < s.T
    · have su := S4.out u hlt
      change W2.cell? ⟨gs, u, none⟩ = some (R.vs u) at su
      obtain ⟨Au, cu, hAu⟩ := HM2.out.run.stack (t := u) hlt
      change R.vs u = .slice Au (s.stk u).length cu at hAu
      rw [hAu] at su
      have zu := S5.out u
      have hlu := (HSN.out u).resolve_right (fun h => h hlt)
      cases hemp : (s.stk u).isEmpty with
      | true =>
        have hl0 : (s.stk u).length = 0 := by simpa using hemp
        have hon := HF1.out u hlt (by omega) hemp hall.out
        rw [hl0] at su
        have HON := Lib.hid hon
        have h0 := HM2.out.alloc hn1 (.cells #[.int .i64 (q : Nat)] 3)
        have hown := World.ownsRow_lit (base := W2.heap.size) (e := 3) (size := 1) W2 #[.int .i64 (q : Nat)] 1 (Nat.le_refl _) (by unfold maxLen; omega) rfl
        have hse : s.stk u = [] := List.isEmpty_iff.1 hemp
        have M3 := h0.store (g := gs) (i := u) (h0.run.lst gs (by rw [HVS.out]; rfl)) (h0.run.setStk (t := u) HVS.out (.slice (some ⟨W2.heap.size, 0, none⟩) 1 1) [q] (fun x => if x = u then .slice (some ⟨W2.heap.size, 0, none⟩) 1 1 else R.vs x) (fun x => if x = u then s.stk x ++ [q] else s.stk x)
          (by simp) (fun x hx => by simp [hx]) (by simp [hse]) (fun x hx => by simp [hx]) (own_base hown (Nat.zero_le _))
          (fun b hb => by cases hb; exact ⟨by rw [if_neg (Nat.lt_irrefl _)], fun x hx _ e => Nat.lt_irrefl _ (own_lt (HM2.out.run.ss x hx) e)⟩))
        rw [World.setCell_alloc_past _ _ _ _ hgs2] at M3
        have HM3 := Lib.hid M3
        clear M3 h0 hown hl0 hAu hon hemp hall hse
        go_wp2_with fail
        go_ret3
        refine ⟨by rw [HMV.out, HON.out]; rfl, (fun b => if b < W2.heap.size then lab b else k), { R with vs := fun x => if x = u then .slice (some ⟨W2.heap.size, 0, none⟩) 1 1 else R.vs x }, rfl, ?_⟩
        rw [HST.out, HON.out]
        exact HM3.out
      | false =>
        have hl0 : 0 < (s.stk u).length := by
          cases e : s.stk u with
          | nil => rw [e] at hemp; cases hemp
          | cons => simp
        have HN : Hid (∀ x, 0 < x → x < u + 1 → (s.stk x).isEmpty = false) := fun x h1 h2 => by
          by_cases e : x = u
          · subst e; exact hemp
          · exact hall.out x h1 (by omega)
        have hd : (((s.stk u).length : Int) == 0) = false := by rw [beq_eq_false_iff_ne]; omega
        generalize (s.stk u).length = mu at *
        clear hall hemp hAu
        go_wp2_with fail
        go_round
        case rel => exact ⟨u + 1, by omega, by omega, by go_num, HN⟩
        case measure => simp [intOf]; omega
    · have hon := HF2.out (fun x h1 h2 => hall.out x h1 (by omega))
      have HON := Lib.hid hon
      clear hall hon
      have kA4 : ∀ o, (W2.alloc o).cell? ⟨R.r, 1, none⟩ = some (.slice (some ⟨gs, 0, none⟩) s.T cs) := fun o => (World.cell?_alloc_lt _ _ _ hrl2).trans f1
      have kA6 : ∀ o, (W2.alloc o).cell? ⟨gs, t, none⟩ = some (.slice (some ⟨g, 0, none⟩) m c) := fun o => (World.cell?_alloc_lt _ _ _ hgs2).trans ST2.out
      have st2 := ST2.out
      have zt := S5.out t
      obtain ⟨i0, hi, hz0, hz1, hz2⟩ := info_parts info3
      go_upto_region 16 with (fail)
      go_cut [] (fun wx => Hid (∃ lab' R', R'.r = R.r ∧ RMid w wx lab lab' k R' (s.step t)))
      case first =>
        go_region_law (refine step_app1 rfl (.tmp 94) (.tmp 96) 22 rfl 0 3 i0 (.int .i64 0) 8 Try.underlying22 hi hz0 hz1 hz2 rfl (by decide) (.slice (some ⟨g, 0, none⟩) m c) m (intl (s.stk t)) (by simp [Act.eval]) (own_congr HOWN.out (fun b hb => Below.heap_alloc _ _ _ (own_lt HOWN.out hb))) ⟨W2.heap.size, 0, none⟩ (.int .i64 q) (by simp [Act.eval]) (cell_new1 _ _ _) rfl (by omega) (Nat.zero_le _) ?_; intro v' w' ho' hg' hat'; obtain ⟨k4, k6, e6⟩ := HM2.out.run.appFacts htT HA.out HVS.out hg'; change w'.cell? ⟨R.r, 1, none⟩ = some (.slice (some ⟨gs, 0, none⟩) s.T cs) at k4; obtain ⟨g', c', hv'⟩ := own_pos ho'; subst hv'; have HO' := Lib.hid ho'; have HG' := Lib.hid hg'; have HAT := Lib.hid hat'; clear ho' hg' hat')
        all_goals
          have MB := (HM2.out.alloc hn1 (.cells #[.int .i64 (q : Nat)] 3)).drewN 1
          have M8 := MB.app hn1 htT (W' := w') (by rw [HA.out]; exact HG'.out) HVS.out (.slice (some ⟨g', 0, none⟩) (m + 1) c') (s.stk t ++ [q]) (fun x => if x = t then .slice (some ⟨g', 0, none⟩) (m + 1) c' else R.vs x) (fun x => if x = t then s.stk x ++ [q] else s.stk x)
            (by simp) (fun x hx => by simp [hx]) (by simp) (fun x hx => by simp [hx]) (by rw [List.length_append, Hm.out, intl_append]; exact HO'.out) (by rw [HA.out]; have := HAT.out; simpa using this)
          have HM8 := Lib.hid M8
          clear M8 MB
          go_wp2_with fail
          go_meet
          case rel => exact ⟨_, { R with vs := fun x => if x = t then .slice (some ⟨g', 0, none⟩) (m + 1) c' else R.vs x }, rfl, by rw [HST.out, HON.out]; exact HM8.out⟩
      case rest =>
        obtain ⟨lab', R', hR, hM⟩ := hcut.out
        have HMF := Lib.hid hM
        clear hcut hM kA4 kA6 st2 zt
        go_wp2_with fail
        go_ret3
        exact ⟨by rw [HMV.out, HON.out]; rfl, lab', R', hR, HMF.out⟩

theorem refStep_any (h : RefRaw w lab k R s) (hI : s.Inv) (hn : s.n ≤ 256) (t : Nat) (hr : s.rdy t = true) :
    Calls Try.prog 19 #[.pointer (some ⟨R.r, 0, none⟩), .int .i64 (t : Nat)] w (RefStepOut w lab k R.r s t) := by
  cases hk : s.kid? (s.top t) with
  | none => exact refStep_end h hI hn t hr hk
  | some q => exact refStep_beg h hI hn t q hr hk
end
end Go.Proofs.Ytlncdkdkoamadaa

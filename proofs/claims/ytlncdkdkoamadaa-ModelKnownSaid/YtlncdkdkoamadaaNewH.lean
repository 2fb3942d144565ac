/-
  MEMORY: a run that is being made.
-/
import Derived.Test.YtlncdkdkoamadaaC1
import Derived.Test.YtlncdkdkoamadaaApp2
namespace Go.Proofs.Ytlncdkdkoamadaa
open Go.RowKit

/-- How many threads a run has, by what was asked. -/
def thr (wk : Int) : Nat := (min (max wk 1) 16).toNat + 1
theorem thr_wrap (wk : Int) : IntKind.i64.wrap (min (max wk 1) 16 + 1) = (thr wk : Nat) := by
  rw [IntKind.wrap_i64]; unfold thr; omega
theorem thr_ge (wk : Int) : 2 ≤ thr wk := by unfold thr; omega
theorem thr_le (wk : Int) : thr wk ≤ 17 := by unfold thr; omega

/-- Two values own no block in common. -/
def Apart (x y : Value) : Prop := ∀ g, x.ownBlock = some g → y.ownBlock ≠ some g
theorem Apart.symm {x y : Value} (h : Apart x y) : Apart y x := fun g hy hx => h g hx hy

section
variable {w w' : World} {base n : Nat} {e : TypeId} {x y : Value} {xs : List Value}
theorem own_below (h : w.ownsRow base e 1 x n xs) (hg : Below w.heap.size w w') : w'.ownsRow base e 1 x n xs := own_congr h fun g hv => hg.block g (own_lt h hv)
theorem apart_ge (h : w.ownsRow base e 1 y n xs) (hx : ∀ g, x.ownBlock = some g → w.heap.size ≤ g) : Apart x y := fun g hg hy => by
  have := own_lt h hy; have := hx g hg; omega
theorem slice_ge (g n c B : Nat) (h : B ≤ g) : ∀ b, (Value.slice (some ⟨g, 0, none⟩) n c).ownBlock = some b → B ≤ b := fun b hb => by cases hb; exact h
theorem own_made (w : World) (B : Nat) (e : TypeId) (z : Value) (n : Nat) (hB : B ≤ w.heap.size) (hn : n ≤ 1000) :
    (w.alloc (.cells (madeCells #[z] n) e)).ownsRow B e 1 (.slice (some ⟨w.heap.size, 0, none⟩) n n) n (List.replicate n z) := by
  have h := World.ownsRow_lit (base := B) (e := e) (size := 1) w (madeCells #[z] n) n hB (by unfold maxLen; omega) (by simp [size_madeCells])
  rw [toList_madeCells_one] at h
  exact h
theorem own_form {v : Value} (h : w.ownsRow base e 1 v n xs) (hn : 0 < n) : ∃ g c, v = .slice (some ⟨g, 0, none⟩) n c := by
  obtain ⟨g, c, hv, _⟩ := own_some h hn
  exact ⟨g, c, hv⟩
theorem blk_below {B : Nat} {o : Obj} (h : ∃ r, x = .pointer (some ⟨r, 0, none⟩) ∧ B ≤ r ∧ w.heap[r]? = some o) (hg : Below w.heap.size w w') : ∃ r, x = .pointer (some ⟨r, 0, none⟩) ∧ B ≤ r ∧ w'.heap[r]? = some o := by
  obtain ⟨r, hx, hr, ho⟩ := h
  exact ⟨r, hx, hr, (hg.block r (Array.getElem?_eq_some_iff.1 ho).1).trans ho⟩
theorem vals_const (v : Value) (n : Nat) : (List.range n).map (fun _ => v) = List.replicate n v := by
  induction n with
  | zero => rfl
  | succ n ih => rw [List.range_succ, List.map_append, ih, List.replicate_succ']; rfl
end

/-- The data of a run that is being made: the first j nodes have been given to their parents. -/
def dNew (n T : Nat) (f : Nat → Int) (j : Nat) : D :=
  { n, T, par := f, ch := fun p => (List.range j).filter (fun i => decide (0 < i) && decide (f i = (p : Int))), nx := fun _ => 0, ou := fun _ => 0, opn := fun _ => false, stk := fun _ => [], mov := 0 }

structure NewAt (w0 wx : World) (lab0 lab : Nat → Nat) (k : Nat) (L : Lay) (d : D) : Prop where
  run : RunRaw wx lab k L d
  bel : Below w0.heap.size w0 wx
  la : ∀ b, b < w0.heap.size → lab b = lab0 b
  lb : ∀ b, w0.heap.size ≤ b → lab b = 0 ∨ lab b = k
  dk : ∀ p q, p < d.n → q < d.n → p ≠ q → Apart (L.vc p) (L.vc q)
  dp : ∀ p, p < d.n → Apart (L.vc p) L.vpa
  gch : ∀ g, L.vch.ownBlock = some g → w0.heap.size ≤ g
  gcs : ∀ p, p < d.n → ∀ g, (L.vc p).ownBlock = some g → w0.heap.size ≤ g

theorem new_start {w0 wx : World} {n : Nat} {wk : Int} {f : Nat → Int} {x19 x21 x23 x25 x30 x32 : Value} {r : Nat} (lab0 : Nat → Nat) (k : Nat) (hk : k ≠ 0)
    (h1 : wx.ownsRow w0.heap.size 22 1 x19 n (List.replicate n (.slice none 0 0))) (h3 : wx.ownsRow w0.heap.size 3 1 x21 n (List.replicate n (.int .i64 0))) (h5 : wx.ownsRow w0.heap.size 3 1 x23 n (List.replicate n (.int .i64 0)))
    (h7 : wx.ownsRow w0.heap.size 3 1 x25 n ((List.range n).map fun i => .int .i64 (f i))) (h12 : wx.ownsRow w0.heap.size 22 1 x30 (thr wk) (List.replicate (thr wk) (.slice none 0 0))) (h14 : wx.ownsRow w0.heap.size 4 1 x32 n (List.replicate n (.bool false)))
    (hr : w0.heap.size ≤ r) (hblk : wx.heap[r]? = some (.cells #[x19, x21, x23, x25, x30, x32, .int .i64 0] 67 (0, 0)))
    (a1 : Apart x21 x23) (a2 : Apart x21 x25) (a3 : Apart x23 x25) (a4 : Apart x19 x30) (hb : Below w0.heap.size w0 wx) :
    ∃ lab L, L.r = r ∧ NewAt w0 wx lab0 lab k L (dNew n (thr wk) f 0) := by
  have lt : ∀ {e : TypeId} {v : Value} {m : Nat} {xs : List Value}, wx.ownsRow w0.heap.size e 1 v m xs → ∀ g, v.ownBlock = some g → w0.heap.size ≤ g := fun h g hg => (h.lt g hg).1
  refine ⟨fun b => if b < w0.heap.size then lab0 b else if x19.ownBlock = some b ∨ x25.ownBlock = some b then 0 else k, ⟨r, x19, x21, x23, x25, x30, x32, fun _ => .slice none 0 0, fun _ => .slice none 0 0⟩, rfl, ?_⟩
  have labk : ∀ {g : Nat}, w0.heap.size ≤ g → x19.ownBlock ≠ some g → x25.ownBlock ≠ some g → (if g < w0.heap.size then lab0 g else if x19.ownBlock = some g ∨ x25.ownBlock = some g then 0 else k) = k := by
    intro g hg h h'
    rw [if_neg (by omega), if_neg (by rintro (e | e); exact h e; exact h' e)]
  refine ⟨?_, hb, (fun b hb => by simp [hb]), fun b hb => ?_, (fun p q _ _ _ g hg => by cases hg), (fun p _ g hg => by cases hg), lt h1, (fun p _ g hg => by cases hg)⟩
  · exact {
      k0 := hk
      blk := hblk
      ch := by rw [vals_const]; exact own_base h1 (Nat.zero_le _)
      nx := by
        have : ints (dNew n (thr wk) f 0).nx (dNew n (thr wk) f 0).n = List.replicate n (.int .i64 0) := vals_const (.int .i64 0) n
        rw [this]; exact own_base h3 (Nat.zero_le _)
      ou := by
        have : ints (dNew n (thr wk) f 0).ou (dNew n (thr wk) f 0).n = List.replicate n (.int .i64 0) := vals_const (.int .i64 0) n
        rw [this]; exact own_base h5 (Nat.zero_le _)
      pa := own_base h7 (Nat.zero_le _)
      st := by rw [vals_const]; exact own_base h12 (Nat.zero_le _)
      op := by
        have : bools (dNew n (thr wk) f 0).opn (dNew n (thr wk) f 0).n = List.replicate n (.bool false) := vals_const (.bool false) n
        rw [this]; exact own_base h14 (Nat.zero_le _)
      cs := fun p _ => World.ownsRow_nil _ _ _ _
      ss := fun t _ => World.ownsRow_nil _ _ _ _
      lr := labk hr (own_blk_ne h1 hblk (by decide)) (own_blk_ne h7 hblk (by decide))
      lch := fun g hg => by
        have hg' : x19.ownBlock = some g := hg
        have := lt h1 g hg
        simp [show ¬ g < w0.heap.size by omega, hg']
      lnx := fun g hg => labk (lt h3 g hg) (own_ne h3 h1 (by decide) hg) (a2 g hg)
      lou := fun g hg => labk (lt h5 g hg) (own_ne h5 h1 (by decide) hg) (a3 g hg)
      lpa := fun g hg => by
        have hg' : x25.ownBlock = some g := hg
        have := lt h7 g hg
        simp [show ¬ g < w0.heap.size by omega, hg']
      lst := fun g hg => labk (lt h12 g hg) (a4.symm g hg) (own_ne h12 h7 (by decide) hg)
      lop := fun g hg => labk (lt h14 g hg) (own_ne h14 h1 (by decide) hg) (own_ne h14 h7 (by decide) hg)
      lcs := fun p _ g hg => by cases hg
      lss := fun p _ g hg => by cases hg
      d1 := a1
      d2 := fun t _ g hg => by cases hg
      d3 := fun t u _ _ _ g hg => by cases hg }
  · rw [if_neg (by omega)]
    by_cases h : x19.ownBlock = some b ∨ x25.ownBlock = some b
    · left; rw [if_pos h]
    · right; rw [if_neg h]
section
variable {w w' : World} {lab lab' : Nat → Nat} {k : Nat} {L : Lay} {s : D}
/-- A children's list grows by append, then its slice is written anew. -/
theorem RunRaw.appKid (h : RunRaw w lab k L s) {p : Nat} (hp : p < s.n) (hg : w.grownBy w' (L.vc p).ownBlock) {g c : Nat} (hv : L.vch = .slice (some ⟨g, 0, none⟩) s.n c) (v : Value) (l : List Nat) (vc : Nat → Value) (ch : Nat → List Nat)
    (e1 : vc p = v) (e2 : ∀ u, u ≠ p → vc u = L.vc u) (e3 : ch p = l) (e4 : ∀ u, u ≠ p → ch u = s.ch u)
    (ho : w'.ownsRow 0 3 1 v l.length (intl l)) (hat : v.ownBlock = (L.vc p).ownBlock ∨ ∃ b, v.ownBlock = some b ∧ w.heap.size ≤ b ∧ lab' b = 0)
    (hl : ∀ b, b < w.heap.size → lab' b = lab b) (dk : ∀ q, q < s.n → q ≠ p → Apart (L.vc p) (L.vc q)) (dp : Apart (L.vc p) L.vpa) :
    RunRaw (w'.setCell ⟨g, p, none⟩ v) lab' k { L with vc := vc } { s with ch := ch } := by
  have hb : L.vch.ownBlock = some g := by rw [hv]; rfl
  have hp0 := h.cs p hp
  have hl0 := h.lcs p hp
  have hblk : w'.heap[L.r]? = some (.cells #[L.vch, L.vnx, L.vou, L.vpa, L.vst, L.vop, .int .i64 s.mov] 67 (0, 0)) := by
    rw [hg.block _ h.rlt (fun e => own_blk_ne hp0 h.blk (by decide) e.symm)]; exact h.blk
  have hch := far_grown h.ch hg (fun g hv e => own_ne hp0 h.ch (by decide) e hv)
  have hnx := far_grown h.nx hg (fun g hv e => h.k0 ((h.lnx g hv).symm.trans (hl0 g e)))
  have hou := far_grown h.ou hg (fun g hv e => h.k0 ((h.lou g hv).symm.trans (hl0 g e)))
  have hpa := far_grown h.pa hg (fun g hv e => dp g e hv)
  have hst := far_grown h.st hg (fun g hv e => own_ne hp0 h.st (by decide) e hv)
  have hop := far_grown h.op hg (fun g hv e => own_ne hp0 h.op (by decide) e hv)
  have hcs := fun q hq (hqp : q ≠ p) => far_grown (h.cs q hq) hg (fun g hv e => dk q hq hqp g e hv)
  have hss := fun t ht => far_grown (h.ss t ht) hg (fun g hv e => h.k0 ((h.lss t ht g hv).symm.trans (hl0 g e)))
  exact {
    k0 := h.k0
    blk := by rw [set_blk _ (fun e => own_blk_ne hch hblk (by decide) (by rw [hb]; exact congrArg some e.symm))]; exact hblk
    ch := by
      show (w'.setCell ⟨g, p, none⟩ v).ownsRow 0 22 1 L.vch s.n ((List.range s.n).map vc)
      rw [hv] at hch ⊢
      have h2 := (hch.stored p v).1
      rw [vals_set] at h2
      have e : (List.range s.n).map vc = (List.range s.n).map fun j => if j = p then v else L.vc j := by
        apply List.map_congr_left
        intro j _
        by_cases ej : j = p
        · subst ej; simp [e1]
        · simp [ej, e2 j ej]
      rw [e]; exact h2
    nx := set_own hnx _ (fun e => own_ne hnx hch (by decide) e hb)
    ou := set_own hou _ (fun e => own_ne hou hch (by decide) e hb)
    pa := set_own hpa _ (fun e => own_ne hpa hch (by decide) e hb)
    st := set_own hst _ (fun e => h.k0 ((h.lst g e).symm.trans (h.lch g hb)))
    op := set_own hop _ (fun e => own_ne hop hch (by decide) e hb)
    cs := fun q hq => by
      show (w'.setCell ⟨g, p, none⟩ v).ownsRow 0 3 1 (vc q) (ch q).length (intl (ch q))
      by_cases e : q = p
      · subst e
        rw [e1, e3]
        exact set_own ho _ (fun e => own_ne ho hch (by decide) e hb)
      · rw [e2 q e, e4 q e]
        exact set_own (hcs q hq e) _ (fun e' => own_ne (hcs q hq e) hch (by decide) e' hb)
    ss := fun t ht => set_own (hss t ht) _ (fun e' => own_ne (hss t ht) hch (by decide) e' hb)
    lr := by rw [hl _ h.rlt]; exact h.lr
    lch := fun g hg => by rw [hl _ (own_lt h.ch hg)]; exact h.lch g hg
    lnx := fun g hg => by rw [hl _ (own_lt h.nx hg)]; exact h.lnx g hg
    lou := fun g hg => by rw [hl _ (own_lt h.ou hg)]; exact h.lou g hg
    lpa := fun g hg => by rw [hl _ (own_lt h.pa hg)]; exact h.lpa g hg
    lst := fun g hg => by rw [hl _ (own_lt h.st hg)]; exact h.lst g hg
    lop := fun g hg => by rw [hl _ (own_lt h.op hg)]; exact h.lop g hg
    lcs := fun q hq b hb' => by
      change (vc q).ownBlock = some b at hb'
      by_cases e : q = p
      · subst e
        rw [e1] at hb'
        rcases hat with e | ⟨b', e, _, hlb⟩
        · rw [hb'] at e
          rw [hl b (own_lt (h.cs q hq) e.symm)]; exact h.lcs q hq b e.symm
        · rw [hb'] at e; cases e; exact hlb
      · rw [e2 q e] at hb'; rw [hl _ (own_lt (h.cs q hq) hb')]; exact h.lcs q hq b hb'
    lss := fun t ht b hb' => by rw [hl _ (own_lt (h.ss t ht) hb')]; exact h.lss t ht b hb'
    d1 := h.d1
    d2 := h.d2
    d3 := h.d3 }

theorem range_filter_succ (p : Nat → Bool) (j : Nat) : (List.range (j + 1)).filter p = (List.range j).filter p ++ if p j then [j] else [] := by
  rw [List.range_succ, List.filter_append]
  cases h : p j <;> simp [h]

/-- The node 0 has no parent. -/
theorem dNew_one (n T : Nat) (f : Nat → Int) : dNew n T f 1 = dNew n T f 0 := by
  have h : (fun p : Nat => (List.range 1).filter (fun i => decide (0 < i) && decide (f i = (p : Int)))) = fun p : Nat => (List.range 0).filter (fun i => decide (0 < i) && decide (f i = (p : Int))) := by
    funext p
    rfl
  unfold dNew
  rw [h]

/-- One node more is given to its parent. -/
theorem dNew_succ {n T : Nat} {f : Nat → Int} {j p : Nat} (hj : 0 < j) (hp : f j = (p : Int)) :
    dNew n T f (j + 1) = { dNew n T f j with ch := fun q => if q = p then (dNew n T f j).ch p ++ [j] else (dNew n T f j).ch q } := by
  unfold dNew
  congr 1
  funext q
  simp only
  rw [range_filter_succ]
  by_cases e : q = p
  · subst e; simp [hj, hp]
  · have : ¬ (p : Int) = (q : Int) := by omega
    simp [e, hp, this]

theorem NewAt.add {w0 : World} {lab0 : Nat → Nat} {n T : Nat} {f : Nat → Int} {j p : Nat} (h : NewAt w0 w lab0 lab k L (dNew n T f j)) (hj : 0 < j) (hp : f j = (p : Int)) (hpn : p < n) {o : Obj}
    (hg : (w.alloc o).drew.grownBy w' (L.vc p).ownBlock) {g c : Nat} (hv : L.vch = .slice (some ⟨g, 0, none⟩) n c) (v : Value) {m : Nat} (hm : ((dNew n T f j).ch p).length = m)
    (ho : w'.ownsRow 0 3 1 v (m + 1) (intl ((dNew n T f j).ch p) ++ [.int .i64 (j : Nat)])) (hat : v.ownBlock = (L.vc p).ownBlock ∨ v.ownBlock = some (w.heap.size + 1)) :
    ∃ lab', NewAt w0 (w'.setCell ⟨g, p, none⟩ v) lab0 lab' k { L with vc := fun q => if q = p then v else L.vc q } (dNew n T f (j + 1)) := by
  have hb1 : Below w.heap.size w (w.alloc o).drew := ((Below.refl _ _).alloc (Nat.le_refl _) o).drew
  have hR := h.run.below hb1
  have hsz : (w.alloc o).drew.heap.size = w.heap.size + 1 := World.size_alloc _ _
  have hw0 := h.bel.size
  refine ⟨fun b => if b < w.heap.size then lab b else 0, ?_⟩
  -- labels in the world with the new block
  have hR2 : RunRaw (w.alloc o).drew (fun b => if b < w.heap.size then lab b else 0) k L (dNew n T f j) := h.run.frame (fun b hb _ => hb1.block b hb) (fun b hb => by simp [hb])
  have hat2 : v.ownBlock = (L.vc p).ownBlock ∨ ∃ b, v.ownBlock = some b ∧ (w.alloc o).drew.heap.size ≤ b ∧ (if b < w.heap.size then lab b else 0) = 0 := by
    refine hat.imp id fun e => ⟨_, e, by rw [hsz]; exact Nat.le_refl _, ?_⟩
    rw [if_neg (by omega)]
  have hfar : ∀ b, v.ownBlock = some b → ∀ q, q < n → q ≠ p → (L.vc q).ownBlock ≠ some b := by
    intro b hb q hq hqp e
    rcases hat with e' | e'
    · rw [hb] at e'; exact h.dk p q hpn hq (fun e => hqp e.symm) b e'.symm e
    · rw [hb] at e'; cases e'
      have := own_lt (h.run.cs q hq) e; omega
  have hfarp : ∀ b, v.ownBlock = some b → L.vpa.ownBlock ≠ some b := by
    intro b hb e
    rcases hat with e' | e'
    · rw [hb] at e'; exact h.dp p hpn b e'.symm e
    · rw [hb] at e'; cases e'
      have := own_lt h.run.pa e; omega
  have hgB : w0.heap.size ≤ g := h.gch g (by rw [hv]; rfl)
  have hcB := h.gcs p hpn
  refine ⟨?_, ?_, ?_, ?_, ?_, ?_, h.gch, ?_⟩
  · rw [dNew_succ hj hp]
    exact hR2.appKid hpn hg hv v ((dNew n T f j).ch p ++ [j]) _ _ (by simp) (fun u hu => by simp [hu]) (by simp) (fun u hu => by simp [hu])
      (by rw [List.length_append, hm]; simpa [intl] using ho) hat2 (fun b _ => rfl) (fun q hq hqp => h.dk p q hpn hq (fun e => hqp e.symm)) (h.dp p hpn)
  · refine ((h.bel.alloc hw0 o).drew.grown hg (by rw [hsz]; omega) hcB).setCell hgB _
  · intro b hb
    rw [if_pos (by omega)]; exact h.la b hb
  · intro b hb
    by_cases e : b < w.heap.size
    · rw [if_pos e]; exact h.lb b hb
    · rw [if_neg e]; exact .inl rfl
  · intro q q' hq hq' hqq
    simp only
    by_cases e : q = p
    · rw [if_pos e, if_neg (fun e' => hqq (e.trans e'.symm))]
      exact fun b hb => hfar b hb q' hq' (fun e' => hqq (e.trans e'.symm))
    · rw [if_neg e]
      by_cases e' : q' = p
      · rw [if_pos e']; exact fun b hb hb' => hfar b hb' q hq e hb
      · rw [if_neg e']; exact h.dk q q' hq hq' hqq
  · intro q hq
    simp only
    by_cases e : q = p
    · rw [if_pos e]; exact hfarp
    · rw [if_neg e]; exact h.dp q hq
  · intro q hq b hb
    simp only at hb
    by_cases e : q = p
    · rw [if_pos e] at hb
      rcases hat with e' | e'
      · rw [hb] at e'; exact hcB b e'.symm
      · rw [hb] at e'; cases e'; omega
    · rw [if_neg e] at hb; exact h.gcs q hq b hb

theorem init_data (n T : Nat) (f : Nat → Int) : (G.init n T f).data = { dNew n T f n with opn := fun i => decide (i = 0), stk := fun t => if t = 0 then [0] else [] } := by
  have hch : ∀ p, ∀ i ∈ (G.init n T f).ch p, i ≠ 0 := fun p i hi => by
    have := (G.mem_ch.1 hi).2
    have := G.kid_pos this
    omega
  have h1 : (G.init n T f).nx = fun _ => 0 := by
    funext p
    unfold G.nx
    rw [List.length_eq_zero_iff, List.filter_eq_nil_iff]
    intro i hi
    have := hch p i hi
    simp [G.init, this]
  have h2 : (G.init n T f).ou = fun _ => 0 := by
    funext p
    unfold G.ou
    rw [List.length_eq_zero_iff, List.filter_eq_nil_iff]
    intro i hi
    have := hch p i hi
    simp [G.opn, G.init, this]
  have h3 : (G.init n T f).opn = fun i => decide (i = 0) := by
    funext i
    simp [G.opn, G.init]
  unfold G.data
  rw [h1, h2, h3]
  rfl

theorem NewAt.fin {w0 : World} {lab0 : Nat → Nat} {n T : Nat} {f : Nat → Int} (h : NewAt w0 w lab0 lab k L (dNew n T f n)) (h0 : ∀ b, b < w0.heap.size → lab0 b ≠ k) {gs c go c' : Nat} (hvs : L.vst = .slice (some ⟨gs, 0, none⟩) T c) (hvo : L.vop = .slice (some ⟨go, 0, none⟩) n c') :
    ∃ lab' L', L'.r = L.r ∧ RunAt (((w.alloc (.cells #[.int .i64 0] 3)).setCell ⟨gs, 0, none⟩ (.slice (some ⟨w.heap.size, 0, none⟩) 1 1)).setCell ⟨go, 0, none⟩ (.bool true)) lab' k L' (G.init n T f) ∧
      Below w0.heap.size w0 (((w.alloc (.cells #[.int .i64 0] 3)).setCell ⟨gs, 0, none⟩ (.slice (some ⟨w.heap.size, 0, none⟩) 1 1)).setCell ⟨go, 0, none⟩ (.bool true)) ∧
      (∀ b, b < w0.heap.size → lab' b = lab0 b) ∧ ∀ b, w0.heap.size ≤ b → lab' b = 0 ∨ lab' b = k := by
  have hb1 : Below w.heap.size w (w.alloc (.cells #[.int .i64 0] 3)) := (Below.refl _ _).alloc (Nat.le_refl _) _
  have hw0 := h.bel.size
  have hR : RunRaw (w.alloc (.cells #[.int .i64 0] 3)) (fun b => if b < w.heap.size then lab b else k) k L (dNew n T f n) := h.run.frame (fun b hb _ => hb1.block b hb) (fun b hb => by simp [hb])
  have hbs : L.vst.ownBlock = some gs := by rw [hvs]; rfl
  have hbo : L.vop.ownBlock = some go := by rw [hvo]; rfl
  have ge : ∀ b, lab b = k → w0.heap.size ≤ b := fun b hb => by
    rcases Nat.lt_or_ge b w0.heap.size with hlt | hge
    · exact absurd ((h.la b hlt).symm.trans hb) (h0 b hlt)
    · exact hge
  have hown : (w.alloc (.cells #[.int .i64 0] 3)).ownsRow 0 3 1 (.slice (some ⟨w.heap.size, 0, none⟩) 1 1) [0].length (intl [0]) :=
    World.ownsRow_lit (base := 0) (e := 3) (size := 1) w #[.int .i64 0] 1 (Nat.zero_le _) (by unfold maxLen; omega) rfl
  have hR2 := hR.setStk (t := 0) hvs (.slice (some ⟨w.heap.size, 0, none⟩) 1 1) [0] (fun t => if t = 0 then .slice (some ⟨w.heap.size, 0, none⟩) 1 1 else L.vs t) (fun t => if t = 0 then [0] else [])
    (by simp) (fun u hu => by simp [hu]) (by simp) (fun u hu => by simp only [hu, if_false]; rfl) hown (fun b hb => by
      cases hb
      refine ⟨by simp, fun e => ?_, fun e => ?_, fun u hu _ e => ?_⟩
      · exact Nat.lt_irrefl _ (own_lt h.run.nx e)
      · exact Nat.lt_irrefl _ (own_lt h.run.ou e)
      · exact Nat.lt_irrefl _ (own_lt (h.run.ss u hu) e))
  have hR3 := hR2.setOpn (g := go) (c := c') (i := 0) hvo true (fun i => decide (i = 0)) (by simp) (fun j hj => by simp only [hj, decide_false]; rfl)
  refine ⟨fun b => if b < w.heap.size then lab b else k, { L with vs := fun t => if t = 0 then .slice (some ⟨w.heap.size, 0, none⟩) 1 1 else L.vs t }, rfl, ?_, ?_, ?_, ?_⟩
  · unfold RunAt
    rw [init_data]
    exact hR3
  · exact ((h.bel.alloc hw0 _).setCell (ge gs (h.run.lst gs hbs)) _).setCell (ge go (h.run.lop go hbo)) _
  · intro b hb
    simp only
    rw [if_pos (by omega)]; exact h.la b hb
  · intro b hb
    simp only
    by_cases e : b < w.heap.size
    · rw [if_pos e]; exact h.lb b hb
    · rw [if_neg e]; exact .inr rfl

/-- Is it a tree? -/
def treeOk (n : Nat) (f : Nat → Int) : Prop := ∀ c, 0 < c → c < n → 0 ≤ f c ∧ f c < c

/-- What New leaves. -/
def NewOut (w0 : World) (lab0 : Nat → Nat) (k n T : Nat) (f : Nat → Int) (e : Ending) (w' : World) : Prop :=
  (treeOk n f ∧ ∃ lab L, e = .returned (.tuple #[.pointer (some ⟨L.r, 0, none⟩), .int .i64 0]) ∧ RunAt w' lab k L (G.init n T f) ∧ Below w0.heap.size w0 w' ∧ (∀ b, b < w0.heap.size → lab b = lab0 b) ∧ ∀ b, w0.heap.size ≤ b → lab b = 0 ∨ lab b = k) ∨
  (¬ treeOk n f ∧ e = .returned (.tuple #[.pointer none, .int .i64 2]) ∧ Below w0.heap.size w0 w')

end
end Go.Proofs.Ytlncdkdkoamadaa

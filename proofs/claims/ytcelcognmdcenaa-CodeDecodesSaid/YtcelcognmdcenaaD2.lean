/-
  WALKS: the program's reader: a unit.
-/
import Derived.Test.YtcelcognmdcenaaD1
import Derived.RegionTactic
import Derived.ChangeAlike
import Derived.Lib.SlBytesConst
import Derived.Lib.SmallJoins
import Derived.Laws.BitsLemmas
namespace Go.Proofs.Ytcelcognmdcenaa
open Go.RowKit

set_option maxHeartbeats 1000000 in
theorem programs27 (ub : Nat) (w : World) : Calls Try.prog 27 #[.pointer (some ⟨ub, 0, none⟩)] w fun e w' => e = .returned (.agg #[.pointer (some ⟨ub, 3, none⟩), .pointer (some ⟨ub, 7, none⟩), .pointer (some ⟨ub, 11, none⟩)]) ∧ Below w.heap.size w w' := by
  go_enter Try.func27, Try.ntmps27
  go_wp2_with fail
  go_region
  all_goals
    go_wp2_with fail
    refine bodyPost_ret (v := .agg #[.pointer (some ⟨ub, 3, none⟩), .pointer (some ⟨ub, 7, none⟩), .pointer (some ⟨ub, 11, none⟩)]) (by simp [results, Try.results27, go_sem]) rfl ⟨rfl, ?_⟩
    exact ((Below.refl _ _).alloc (Nat.le_refl _) _).drew

/-- The mark's bytes. -/
def mkB (j : Nat) : Nat := [65, 78, 86, 49].getD j 0
theorem mk_lt (j : Nat) : mkB j < 256 := by
  unfold mkB
  match j with
  | 0 => decide
  | 1 => decide
  | 2 => decide
  | 3 => decide
  | n + 4 => simp
/-- The mark, so far. -/
def HO (bs : List Nat) : Nat → Nat × Bool → Prop
  | 0, s => s = (0, false)
  | k + 1, s => ∃ (s' : Nat × Bool) (x : Int), HO bs k s' ∧ Out (rNum (mkB k) (mkB k)) bs s' x s
/-- Ahead of the unit. -/
structure DS (w0 wr : World) (r : Nat) (A : Option Addr) (n c : Nat) (bs : List Nat) (st : Nat × Bool) (rb sb mb : Nat) : Prop where
  rd : RdP wr r A n c bs st
  bel : Below w0.heap.size w0 wr
  ab : ∀ b o, A = some ⟨b, o, none⟩ → 0 < n → b < w0.heap.size
  rge : w0.heap.size ≤ rb
  rsb : rb < sb
  sr : sb < r
  rm : r < mb
  rblk : wr.heap[rb]? = some (.cells (Z15 0 0) 28 (0, 0))
  sblk : wr.heap[sb]? = some (.cells #[.int .i64 0, .int .i64 0] 43 (0, 0))
  mblk : wr.heap[mb]? = some (.cells #[.int .u8 65, .int .u8 78, .int .u8 86, .int .u8 49] 5 (4, 5))
section
variable {w0 wr w' : World} {r : Nat} {A : Option Addr} {n c : Nat} {bs : List Nat} {st st' : Nat × Bool} {rb sb mb ub : Nat} {L L' : UnV} {u u' : Un}
theorem DS.keep (h : DS w0 wr r A n c bs st rb sb mb) (hg : wr.grownBy w' (some r)) (hrd : RdP w' r A n c bs st') : DS w0 w' r A n c bs st' rb sb mb where
  rd := hrd
  bel := ⟨hg.os.trans h.bel.os, hg.tape.trans h.bel.tape, hg.output.trans h.bel.output, Nat.le_trans h.bel.size hg.size, fun k hk => (hg.block k (Nat.lt_of_lt_of_le hk h.bel.size) (fun e => by cases e; have := h.rge; have := h.rsb; have := h.sr; omega)).trans (h.bel.block k hk)⟩
  ab := h.ab
  rge := h.rge
  rsb := h.rsb
  sr := h.sr
  rm := h.rm
  rblk := blk_keep h.rblk hg (by have := h.rsb; have := h.sr; omega)
  sblk := blk_keep h.sblk hg (by have := h.sr; omega)
  mblk := blk_keep h.mblk hg (by have := h.rm; omega)
theorem DS.cell (h : DS w0 wr r A n c bs st rb sb mb) {j : Nat} (hj : j < 4) : wr.cell? ⟨mb, j, none⟩ = some (.int .u8 (mkB j : Nat)) := by
  rw [cell_of_row wr mb j _ 5 (4, 5) h.mblk]
  match j, hj with
  | 0, _ => rfl
  | 1, _ => rfl
  | 2, _ => rfl
  | 3, _ => rfl
theorem DS.init {w : World} (h : Reads w 1 (.slice A n c) n (vB bs)) (hb : ∀ x ∈ bs, x < 256) (ab : ∀ b o, A = some ⟨b, o, none⟩ → 0 < n → b < w.heap.size) :
    DS w (((((w.alloc (.cells (Z15 0 0) 28)).alloc (.cells #[.int .i64 0, .int .i64 0] 43)).alloc (.cells #[.slice A n c, .int .i64 0, .bool false] 70))).alloc (.cells #[.int .u8 65, .int .u8 78, .int .u8 86, .int .u8 49] 5 (4, 5))) (w.heap.size + 1 + 1) A n c bs (0, false) w.heap.size (w.heap.size + 1) (w.heap.size + 1 + 1 + 1) := by
  have hb0 : Below w.heap.size w (((((w.alloc (.cells (Z15 0 0) 28)).alloc (.cells #[.int .i64 0, .int .i64 0] 43)).alloc (.cells #[.slice A n c, .int .i64 0, .bool false] 70))).alloc (.cells #[.int .u8 65, .int .u8 78, .int .u8 86, .int .u8 49] 5 (4, 5))) := (((below_a w _).alloc (by simp) _).alloc (by simp; omega) _).alloc (by simp; omega) _
  have e1 : (w.alloc (.cells (Z15 0 0) 28)).heap.size = w.heap.size + 1 := by simp
  have e2 : ((w.alloc (.cells (Z15 0 0) 28)).alloc (.cells #[.int .i64 0, .int .i64 0] 43)).heap.size = w.heap.size + 1 + 1 := by simp
  have e3 : (((w.alloc (.cells (Z15 0 0) 28)).alloc (.cells #[.int .i64 0, .int .i64 0] 43)).alloc (.cells #[.slice A n c, .int .i64 0, .bool false] 70)).heap.size = w.heap.size + 1 + 1 + 1 := by simp
  have h1 := heap_alloc_new w (.cells (Z15 0 0) 28)
  have h2 := heap_alloc_new (w.alloc (.cells (Z15 0 0) 28)) (.cells #[.int .i64 0, .int .i64 0] 43)
  have h3 := heap_alloc_new ((w.alloc (.cells (Z15 0 0) 28)).alloc (.cells #[.int .i64 0, .int .i64 0] 43)) (.cells #[.slice A n c, .int .i64 0, .bool false] 70)
  have h4 := heap_alloc_new (((w.alloc (.cells (Z15 0 0) 28)).alloc (.cells #[.int .i64 0, .int .i64 0] 43)).alloc (.cells #[.slice A n c, .int .i64 0, .bool false] 70)) (.cells #[.int .u8 65, .int .u8 78, .int .u8 86, .int .u8 49] 5 (4, 5))
  rw [e1] at h2
  rw [e2] at h3
  rw [e3] at h4
  exact {
    rd := ⟨by rw [Below.heap_alloc _ _ _ (by rw [e3]; omega)]; exact h3, h.below hb0, Nat.zero_le _, fun b o hA hn => by have := ab b o hA hn; omega, hb⟩
    bel := hb0
    ab := ab
    rge := Nat.le_refl _
    rsb := by omega
    sr := by omega
    rm := by omega
    rblk := by rw [Below.heap_alloc _ _ _ (by rw [e3]; omega), Below.heap_alloc _ _ _ (by rw [e2]; omega), Below.heap_alloc _ _ _ (by rw [e1]; omega)]; exact h1
    sblk := by rw [Below.heap_alloc _ _ _ (by rw [e3]; omega), Below.heap_alloc _ _ _ (by rw [e2]; omega)]; exact h2
    mblk := h4 }
theorem DS.start (h : DS w0 wr r A n c bs st rb sb mb) (a b : Int) : US w0 (wr.alloc (.cells (Z15 a b) 28)) r A n c bs st wr.heap.size rb sb L0 ⟨a, b, [], p0, p0, p0⟩ where
  rd := h.rd.below (below_a _ _)
  bel := h.bel.alloc h.bel.size _
  ab := h.ab
  rge := h.rge
  rsb := h.rsb
  sr := h.sr
  ru := h.rd.rlt
  rblk := by rw [Below.heap_alloc _ _ _ (Array.getElem?_eq_some_iff.1 h.rblk).1]; exact h.rblk
  sblk := by rw [Below.heap_alloc _ _ _ (Array.getElem?_eq_some_iff.1 h.sblk).1]; exact h.sblk
  ublk := heap_alloc_new wr _
  own := UnOwn.zero _ _ _ _
/-- The unit's variable is written. -/
theorem US.changed (h : US w0 wr r A n c bs st ub rb sb L u) (hos : w'.os = wr.os ∧ w'.tape = wr.tape ∧ w'.output = wr.output) (hs : w'.heap.size = wr.heap.size) (hf : ∀ g, g ≠ ub → w'.heap[g]? = wr.heap[g]?) (hu : w'.heap[ub]? = some (.cells (L'.cells u') 28 (0, 0))) (ho : UnOwn (r + 1) wr L' u') : US w0 w' r A n c bs st ub rb sb L' u' where
  rd := RdIn.moved h.rd (by omega) (hf _ (by have := h.ru; omega)) (fun b o hA hn => hf _ (by have := h.ab b o hA hn; have := h.rge; have := h.rsb; have := h.sr; have := h.ru; omega))
  bel := ⟨hos.1.trans h.bel.os, hos.2.1.trans h.bel.tape, hos.2.2.trans h.bel.output, by have := h.bel.size; omega, fun k hk => (hf k (by have := h.rge; have := h.rsb; have := h.sr; have := h.ru; omega)).trans (h.bel.block k hk)⟩
  ab := h.ab
  rge := h.rge
  rsb := h.rsb
  sr := h.sr
  ru := h.ru
  rblk := by rw [hf _ (by have := h.rsb; have := h.sr; have := h.ru; omega)]; exact h.rblk
  sblk := by rw [hf _ (by have := h.sr; have := h.ru; omega)]; exact h.sblk
  ublk := hu
  own := ho.congr fun g _ _ ⟨cs, T, h3, h4⟩ => hf g (fun e => by
    subst e
    rw [h.ublk] at h3
    cases h3
    rcases h4 with e | e | e <;> cases e)
theorem US.setPr (h : US w0 wr r A n c bs st ub rb sb L u) (k : Nat) (a0 a1 a2 a3 : Value) (hx : ((((L.cells u).setIfInBounds k a0).setIfInBounds (k + 1) a1).setIfInBounds (k + 2) a2).setIfInBounds (k + 3) a3 = L'.cells u') (ho : UnOwn (r + 1) wr L' u') :
    US w0 ((((wr.setCell ⟨ub, k, none⟩ a0).setCell ⟨ub, k + 1, none⟩ a1).setCell ⟨ub, k + 2, none⟩ a2).setCell ⟨ub, k + 3, none⟩ a3) r A n c bs st ub rb sb L' u' :=
  h.changed ⟨rfl, rfl, rfl⟩ (by simp [World.setCell]) (fun g hg => by rw [set_blk _ hg, set_blk _ hg, set_blk _ hg, set_blk _ hg])
    (by rw [blk_set (blk_set (blk_set (blk_set h.ublk _ _) _ _) _ _) _ _, hx]) ho
end
theorem Reads.take {w : World} {A : Option Addr} {n c k : Nat} {bs : List Nat} (h : Reads w 1 (.slice A n c) n (vB bs)) (hk : k ≤ n) : Reads w 1 (.slice A k c) k (vB (bs.take k)) := by
  have hl := h.bytes.1
  obtain ⟨h1, h2, A', c', h3, h4, h5⟩ := h
  cases h3
  refine ⟨by rw [vB_len, List.length_take]; omega, Nat.le_trans hk h2, A, c, rfl, fun e => ⟨by have := (h4 e).1; omega, (h4 e).2⟩, fun hn => ?_⟩
  obtain ⟨b, o, h6, h7, h8⟩ := h5 (by omega)
  refine ⟨b, o, h6, h7, fun j u hu => h8 j u ?_⟩
  have hj := (List.getElem?_eq_some_iff.1 hu).1
  rw [vB_len, List.length_take] at hj
  rw [← hu]
  simp only [vB, List.getElem?_map, List.getElem?_take]
  rw [if_pos (by omega)]

theorem cP_one (x : Int × Int) : ∀ u ∈ cP x, u.oneCell' = true := by
  intro u hu
  simp only [cP, List.mem_cons, List.not_mem_nil, or_false] at hu
  rcases hu with rfl | rfl <;> rfl
theorem cP_cells (w : World) (x : Int × Int) : ∀ j u, (cP x)[j]? = some u → (w.alloc (.cells #[.int .i64 x.1, .int .i64 x.2] 48)).cell? ⟨w.heap.size, j, none⟩ = some u := by
  intro j u hu
  rw [cell_of_row _ w.heap.size j _ 48 (0, 0) (heap_alloc_new w _), ← hu]
  simp [cP]

theorem and_mask (K : Nat) (h : K < 65536) : bits BinOp.and IntKind.i64 (K : Int) 255 = ((K % 256 : Nat) : Int) := by
  have := bits_mask .i64 62 (by decide) (fun n h0 h1 => by rw [IntKind.wrap_i64]; omega) 8 (by decide) (K : Int) (by omega) (by omega)
  simpa using this

/-! The plain end. -/
theorem Out.body {bs : List Nat} {s4 s5 s6 s7 s8 s9 s10 s11 : Nat × Bool} {x1 x2 x3 : Int} {pts : List (Int × Int)} {l r b : Pr} (h0 : HO bs 4 s4) (h1 : Out (rNum 1 8) bs s4 x1 s5) (h2 : Out (rNum 1 8) bs s5 x2 s6) (h3 : Out (rNum 0 255) bs s6 x3 s7) (h4 : Out (rMany rPt x3.toNat) bs s7 pts s8) (h5 : Out rPr bs s8 l s9) (h6 : Out rPr bs s9 r s10) (h7 : Out rPr bs s10 b s11) :
    Out rBody bs (0, false) ⟨x1, x2, pts, l, r, b⟩ s11 := by
  obtain ⟨t3, y3, ⟨t2, y2, ⟨t1, y1, ⟨t0, y0, e, m0⟩, m1⟩, m2⟩, m3⟩ := h0
  have e : t0 = (0, false) := e
  subst e
  have g0 : ((mkB 0 : Nat) : Int) = 65 := rfl
  have g1 : ((mkB (0 + 1) : Nat) : Int) = 78 := rfl
  have g2 : ((mkB (0 + 1 + 1) : Nat) : Int) = 86 := rfl
  have g3 : ((mkB (0 + 1 + 1 + 1) : Nat) : Int) = 49 := rfl
  rw [g0] at m0
  rw [show mkB 1 = mkB (0 + 1) from rfl, g1] at m1
  rw [show mkB 2 = mkB (0 + 1 + 1) from rfl, g2] at m2
  rw [show mkB 3 = mkB (0 + 1 + 1 + 1) from rfl, g3] at m3
  have e7 := h6.seq (r2 := fun _ => rPr) h7
  have e6 := h5.seq (r2 := fun _ => seqR rPr fun _ => rPr) e7
  have e5 := h4.seq (r2 := fun _ => seqR rPr fun _ => seqR rPr fun _ => rPr) e6
  have e4 := h3.seq (r2 := fun n => seqR (rMany rPt n.toNat) fun _ => seqR rPr fun _ => seqR rPr fun _ => rPr) e5
  have e3 := h2.seq (r2 := fun _ => seqR (rNum 0 255) fun n => seqR (rMany rPt n.toNat) fun _ => seqR rPr fun _ => seqR rPr fun _ => rPr) e4
  have e2 := h1.seq (r2 := fun _ => seqR (rNum 1 8) fun _ => seqR (rNum 0 255) fun n => seqR (rMany rPt n.toNat) fun _ => seqR rPr fun _ => seqR rPr fun _ => rPr) e3
  have f3 := m3.seq (r2 := fun _ => seqR (rNum 1 8) fun _ => seqR (rNum 1 8) fun _ => seqR (rNum 0 255) fun n => seqR (rMany rPt n.toNat) fun _ => seqR rPr fun _ => seqR rPr fun _ => rPr) e2
  have f2 := m2.seq (r2 := fun _ => seqR (rNum 49 49) fun _ => seqR (rNum 1 8) fun _ => seqR (rNum 1 8) fun _ => seqR (rNum 0 255) fun n => seqR (rMany rPt n.toNat) fun _ => seqR rPr fun _ => seqR rPr fun _ => rPr) f3
  have f1 := m1.seq (r2 := fun _ => seqR (rNum 86 86) fun _ => seqR (rNum 49 49) fun _ => seqR (rNum 1 8) fun _ => seqR (rNum 1 8) fun _ => seqR (rNum 0 255) fun n => seqR (rMany rPt n.toNat) fun _ => seqR rPr fun _ => seqR rPr fun _ => rPr) f2
  have f0 := m0.seq (r2 := fun _ => seqR (rNum 78 78) fun _ => seqR (rNum 86 86) fun _ => seqR (rNum 49 49) fun _ => seqR (rNum 1 8) fun _ => seqR (rNum 1 8) fun _ => seqR (rNum 0 255) fun n => seqR (rMany rPt n.toNat) fun _ => seqR rPr fun _ => seqR rPr fun _ => rPr) f1
  exact f0.map (fun v => (⟨v.2.2.2.2.1, v.2.2.2.2.2.1, v.2.2.2.2.2.2.2.1, v.2.2.2.2.2.2.2.2.1, v.2.2.2.2.2.2.2.2.2.1, v.2.2.2.2.2.2.2.2.2.2⟩ : Un))
theorem body_take {bs : List Nat} {u : Un} {q : Nat} (h : rBody bs 0 = .ok (u, q)) (hq : q ≤ bs.length) : bs.take q = u.body := by
  obtain ⟨_, h2, h3⟩ := good_body.sound _ _ _ _ h
  rw [Nat.zero_add] at h2
  apply List.ext_getElem?
  intro i
  by_cases hi : i < q
  · rw [List.getElem?_take, if_pos hi]
    have := h3 i (by omega)
    rwa [Nat.zero_add] at this
  · rw [List.getElem?_eq_none (by rw [List.length_take]; omega), List.getElem?_eq_none (by omega)]
/-- The check's two bytes. -/
def rChk (n : Nat) : List Nat → Nat → Rd (Int × Int) := seqR (rNum ((n / 256 : Nat) : Int) ((n / 256 : Nat) : Int)) fun _ => rNum ((n % 256 : Nat) : Int) ((n % 256 : Nat) : Int)
theorem rAll_eq : rAll = fun b p => andR (seqR rBody (fun u => rChk (chk u.body)) b p) fun v q => .ok (v.1, q) := by
  funext b p
  unfold rAll rChk
  rfl
theorem Out.w {α : Type} (r : List Nat → Nat → Rd α) (bs : List Nat) (q : Nat) (y : α) : Out r bs (q, true) y (q, true) := rfl
theorem Out.allBad {bs : List Nat} {u : Un} {q : Nat} (h : Out rBody bs (0, false) u (q, true)) : Out rAll bs (0, false) u (q, true) := by
  rw [rAll_eq]
  have e := (h.seq (r2 := fun u => rChk (chk u.body)) (Out.w _ _ _ ((0 : Int), (0 : Int)))).map (fun v : Un × (Int × Int) => v.1)
  exact e
theorem Out.all {bs : List Nat} {u : Un} {q : Nat} {y : Int × Int} {s2 : Nat × Bool} (h : Out rBody bs (0, false) u (q, false)) (hq : q ≤ bs.length) (h1 : Out (rChk (chk (bs.take q))) bs (q, false) y s2) : Out rAll bs (0, false) u s2 := by
  have e : rBody bs 0 = .ok (u, q) := by
    unfold Out at h
    simp only at h
    cases e : rBody bs 0 with
    | error q' => rw [e] at h; exact absurd h (by simp)
    | ok z =>
      obtain ⟨u', q'⟩ := z
      rw [e] at h
      simp only at h
      obtain ⟨rfl, h⟩ := h
      cases h; rfl
  rw [body_take e hq] at h1
  rw [rAll_eq]
  have h2 : Out ((fun v : Un => rChk (chk v.body)) u) bs (q, false) y s2 := h1
  have e1 : Out (seqR rBody fun v => rChk (chk v.body)) bs (0, false) (u, y) s2 := @Out.seq Un (Int × Int) rBody (fun v => rChk (chk v.body)) bs (0, false) (q, false) s2 u y h h2
  exact e1.map (fun v : Un × (Int × Int) => v.1)
theorem body_pos {bs : List Nat} {u : Un} {q : Nat} (h : Out rBody bs (0, false) u (q, false)) : 7 ≤ q := by
  unfold Out at h
  simp only at h
  cases e : rBody bs 0 with
  | error q' => rw [e] at h; exact absurd h (by simp)
  | ok z =>
    obtain ⟨u', q'⟩ := z
    rw [e] at h
    simp only at h
    obtain ⟨rfl, h⟩ := h
    cases h
    have := (good_body.sound _ _ _ _ e).2.1
    unfold Un.body at this
    simp only [List.length_append, List.length_cons, List.length_nil] at this
    omega
theorem dec_bad {bs : List Nat} {u : Un} {q : Nat} {wr : Bool} (h : Out rAll bs (0, false) u (q, wr)) (hw : wr = true ∨ q < bs.length) : dec bs = .error q := by
  unfold Out at h
  unfold dec
  simp only at h
  cases e : rAll bs 0 with
  | error q' => rw [e] at h; simp only at h ⊢; cases h; rfl
  | ok z =>
    obtain ⟨u', q'⟩ := z
    rw [e] at h
    simp only at h ⊢
    obtain ⟨rfl, h⟩ := h
    cases h
    rcases hw with hw | hw
    · cases hw
    · rw [if_pos hw]
theorem dec_good {bs : List Nat} {u : Un} {q : Nat} (h : Out rAll bs (0, false) u (q, false)) (hw : bs.length ≤ q) : dec bs = .ok u := by
  unfold Out at h
  unfold dec
  simp only at h
  cases e : rAll bs 0 with
  | error q' => rw [e] at h; exact absurd h (by simp)
  | ok z =>
    obtain ⟨u', q'⟩ := z
    rw [e] at h
    simp only at h ⊢
    obtain ⟨rfl, h⟩ := h
    cases h
    rw [if_neg (by omega)]

/-- The programs, so far. -/
def PO (bs : List Nat) (s0 : Nat × Bool) (x1 x2 : Int) (pts : List (Int × Int)) (j : Nat) (u : Un) (st : Nat × Bool) : Prop :=
  u.k1 = x1 ∧ u.k2 = x2 ∧ u.pts = pts ∧ match j with
    | 0 => st = s0
    | 1 => Out rPr bs s0 u.left st
    | 2 => ∃ s1, Out rPr bs s0 u.left s1 ∧ Out rPr bs s1 u.right st
    | _ => ∃ s1 s2, Out rPr bs s0 u.left s1 ∧ Out rPr bs s1 u.right s2 ∧ Out rPr bs s2 u.back st

/-- Fifteen stores. -/
abbrev set15 (w : World) (b : Nat) (a0 a1 a2 a3 a4 a5 a6 a7 a8 a9 a10 a11 a12 a13 a14 : Value) : World := ((((((((((((((w.setCell ⟨b, 0, none⟩ a0).setCell ⟨b, 1, none⟩ a1).setCell ⟨b, 2, none⟩ a2).setCell ⟨b, 3, none⟩ a3).setCell ⟨b, 4, none⟩ a4).setCell ⟨b, 5, none⟩ a5).setCell ⟨b, 6, none⟩ a6).setCell ⟨b, 7, none⟩ a7).setCell ⟨b, 8, none⟩ a8).setCell ⟨b, 9, none⟩ a9).setCell ⟨b, 10, none⟩ a10).setCell ⟨b, 11, none⟩ a11).setCell ⟨b, 12, none⟩ a12).setCell ⟨b, 13, none⟩ a13).setCell ⟨b, 14, none⟩ a14
theorem set15_far {w : World} {b g : Nat} {a0 a1 a2 a3 a4 a5 a6 a7 a8 a9 a10 a11 a12 a13 a14 : Value} (h : g ≠ b) : (set15 w b a0 a1 a2 a3 a4 a5 a6 a7 a8 a9 a10 a11 a12 a13 a14).heap[g]? = w.heap[g]? := by
  rw [set_blk _ h, set_blk _ h, set_blk _ h, set_blk _ h, set_blk _ h, set_blk _ h, set_blk _ h, set_blk _ h, set_blk _ h, set_blk _ h, set_blk _ h, set_blk _ h, set_blk _ h, set_blk _ h, set_blk _ h]
theorem set15_size {w : World} {b : Nat} {a0 a1 a2 a3 a4 a5 a6 a7 a8 a9 a10 a11 a12 a13 a14 : Value} : (set15 w b a0 a1 a2 a3 a4 a5 a6 a7 a8 a9 a10 a11 a12 a13 a14).heap.size = w.heap.size := by simp [World.setCell]
theorem set15_blk {w : World} {b : Nat} {T : TypeId} {a0 a1 a2 a3 a4 a5 a6 a7 a8 a9 a10 a11 a12 a13 a14 b0 b1 b2 b3 b4 b5 b6 b7 b8 b9 b10 b11 b12 b13 b14 : Value} (h : w.heap[b]? = some (.cells #[b0, b1, b2, b3, b4, b5, b6, b7, b8, b9, b10, b11, b12, b13, b14] T (0, 0))) : (set15 w b a0 a1 a2 a3 a4 a5 a6 a7 a8 a9 a10 a11 a12 a13 a14).heap[b]? = some (.cells #[a0, a1, a2, a3, a4, a5, a6, a7, a8, a9, a10, a11, a12, a13, a14] T (0, 0)) := by
  have h0 : (w.setCell ⟨b, 0, none⟩ a0).heap[b]? = some (Obj.cells #[a0, b1, b2, b3, b4, b5, b6, b7, b8, b9, b10, b11, b12, b13, b14] T (0, 0)) := blk_set h 0 a0
  have h1 : ((w.setCell ⟨b, 0, none⟩ a0).setCell ⟨b, 1, none⟩ a1).heap[b]? = some (Obj.cells #[a0, a1, b2, b3, b4, b5, b6, b7, b8, b9, b10, b11, b12, b13, b14] T (0, 0)) := blk_set h0 1 a1
  have h2 : (((w.setCell ⟨b, 0, none⟩ a0).setCell ⟨b, 1, none⟩ a1).setCell ⟨b, 2, none⟩ a2).heap[b]? = some (Obj.cells #[a0, a1, a2, b3, b4, b5, b6, b7, b8, b9, b10, b11, b12, b13, b14] T (0, 0)) := blk_set h1 2 a2
  have h3 : ((((w.setCell ⟨b, 0, none⟩ a0).setCell ⟨b, 1, none⟩ a1).setCell ⟨b, 2, none⟩ a2).setCell ⟨b, 3, none⟩ a3).heap[b]? = some (Obj.cells #[a0, a1, a2, a3, b4, b5, b6, b7, b8, b9, b10, b11, b12, b13, b14] T (0, 0)) := blk_set h2 3 a3
  have h4 : (((((w.setCell ⟨b, 0, none⟩ a0).setCell ⟨b, 1, none⟩ a1).setCell ⟨b, 2, none⟩ a2).setCell ⟨b, 3, none⟩ a3).setCell ⟨b, 4, none⟩ a4).heap[b]? = some (Obj.cells #[a0, a1, a2, a3, a4, b5, b6, b7, b8, b9, b10, b11, b12, b13, b14] T (0, 0)) := blk_set h3 4 a4
  have h5 : ((((((w.setCell ⟨b, 0, none⟩ a0).setCell ⟨b, 1, none⟩ a1).setCell ⟨b, 2, none⟩ a2).setCell ⟨b, 3, none⟩ a3).setCell ⟨b, 4, none⟩ a4).setCell ⟨b, 5, none⟩ a5).heap[b]? = some (Obj.cells #[a0, a1, a2, a3, a4, a5, b6, b7, b8, b9, b10, b11, b12, b13, b14] T (0, 0)) := blk_set h4 5 a5
  have h6 : (((((((w.setCell ⟨b, 0, none⟩ a0).setCell ⟨b, 1, none⟩ a1).setCell ⟨b, 2, none⟩ a2).setCell ⟨b, 3, none⟩ a3).setCell ⟨b, 4, none⟩ a4).setCell ⟨b, 5, none⟩ a5).setCell ⟨b, 6, none⟩ a6).heap[b]? = some (Obj.cells #[a0, a1, a2, a3, a4, a5, a6, b7, b8, b9, b10, b11, b12, b13, b14] T (0, 0)) := blk_set h5 6 a6
  have h7 : ((((((((w.setCell ⟨b, 0, none⟩ a0).setCell ⟨b, 1, none⟩ a1).setCell ⟨b, 2, none⟩ a2).setCell ⟨b, 3, none⟩ a3).setCell ⟨b, 4, none⟩ a4).setCell ⟨b, 5, none⟩ a5).setCell ⟨b, 6, none⟩ a6).setCell ⟨b, 7, none⟩ a7).heap[b]? = some (Obj.cells #[a0, a1, a2, a3, a4, a5, a6, a7, b8, b9, b10, b11, b12, b13, b14] T (0, 0)) := blk_set h6 7 a7
  have h8 : (((((((((w.setCell ⟨b, 0, none⟩ a0).setCell ⟨b, 1, none⟩ a1).setCell ⟨b, 2, none⟩ a2).setCell ⟨b, 3, none⟩ a3).setCell ⟨b, 4, none⟩ a4).setCell ⟨b, 5, none⟩ a5).setCell ⟨b, 6, none⟩ a6).setCell ⟨b, 7, none⟩ a7).setCell ⟨b, 8, none⟩ a8).heap[b]? = some (Obj.cells #[a0, a1, a2, a3, a4, a5, a6, a7, a8, b9, b10, b11, b12, b13, b14] T (0, 0)) := blk_set h7 8 a8
  have h9 : ((((((((((w.setCell ⟨b, 0, none⟩ a0).setCell ⟨b, 1, none⟩ a1).setCell ⟨b, 2, none⟩ a2).setCell ⟨b, 3, none⟩ a3).setCell ⟨b, 4, none⟩ a4).setCell ⟨b, 5, none⟩ a5).setCell ⟨b, 6, none⟩ a6).setCell ⟨b, 7, none⟩ a7).setCell ⟨b, 8, none⟩ a8).setCell ⟨b, 9, none⟩ a9).heap[b]? = some (Obj.cells #[a0, a1, a2, a3, a4, a5, a6, a7, a8, a9, b10, b11, b12, b13, b14] T (0, 0)) := blk_set h8 9 a9
  have h10 : (((((((((((w.setCell ⟨b, 0, none⟩ a0).setCell ⟨b, 1, none⟩ a1).setCell ⟨b, 2, none⟩ a2).setCell ⟨b, 3, none⟩ a3).setCell ⟨b, 4, none⟩ a4).setCell ⟨b, 5, none⟩ a5).setCell ⟨b, 6, none⟩ a6).setCell ⟨b, 7, none⟩ a7).setCell ⟨b, 8, none⟩ a8).setCell ⟨b, 9, none⟩ a9).setCell ⟨b, 10, none⟩ a10).heap[b]? = some (Obj.cells #[a0, a1, a2, a3, a4, a5, a6, a7, a8, a9, a10, b11, b12, b13, b14] T (0, 0)) := blk_set h9 10 a10
  have h11 : ((((((((((((w.setCell ⟨b, 0, none⟩ a0).setCell ⟨b, 1, none⟩ a1).setCell ⟨b, 2, none⟩ a2).setCell ⟨b, 3, none⟩ a3).setCell ⟨b, 4, none⟩ a4).setCell ⟨b, 5, none⟩ a5).setCell ⟨b, 6, none⟩ a6).setCell ⟨b, 7, none⟩ a7).setCell ⟨b, 8, none⟩ a8).setCell ⟨b, 9, none⟩ a9).setCell ⟨b, 10, none⟩ a10).setCell ⟨b, 11, none⟩ a11).heap[b]? = some (Obj.cells #[a0, a1, a2, a3, a4, a5, a6, a7, a8, a9, a10, a11, b12, b13, b14] T (0, 0)) := blk_set h10 11 a11
  have h12 : (((((((((((((w.setCell ⟨b, 0, none⟩ a0).setCell ⟨b, 1, none⟩ a1).setCell ⟨b, 2, none⟩ a2).setCell ⟨b, 3, none⟩ a3).setCell ⟨b, 4, none⟩ a4).setCell ⟨b, 5, none⟩ a5).setCell ⟨b, 6, none⟩ a6).setCell ⟨b, 7, none⟩ a7).setCell ⟨b, 8, none⟩ a8).setCell ⟨b, 9, none⟩ a9).setCell ⟨b, 10, none⟩ a10).setCell ⟨b, 11, none⟩ a11).setCell ⟨b, 12, none⟩ a12).heap[b]? = some (Obj.cells #[a0, a1, a2, a3, a4, a5, a6, a7, a8, a9, a10, a11, a12, b13, b14] T (0, 0)) := blk_set h11 12 a12
  have h13 : ((((((((((((((w.setCell ⟨b, 0, none⟩ a0).setCell ⟨b, 1, none⟩ a1).setCell ⟨b, 2, none⟩ a2).setCell ⟨b, 3, none⟩ a3).setCell ⟨b, 4, none⟩ a4).setCell ⟨b, 5, none⟩ a5).setCell ⟨b, 6, none⟩ a6).setCell ⟨b, 7, none⟩ a7).setCell ⟨b, 8, none⟩ a8).setCell ⟨b, 9, none⟩ a9).setCell ⟨b, 10, none⟩ a10).setCell ⟨b, 11, none⟩ a11).setCell ⟨b, 12, none⟩ a12).setCell ⟨b, 13, none⟩ a13).heap[b]? = some (Obj.cells #[a0, a1, a2, a3, a4, a5, a6, a7, a8, a9, a10, a11, a12, a13, b14] T (0, 0)) := blk_set h12 13 a13
  exact blk_set h13 14 a14
theorem set15_below {B : Nat} {w0 w : World} {b : Nat} {a0 a1 a2 a3 a4 a5 a6 a7 a8 a9 a10 a11 a12 a13 a14 : Value} (h : Below B w0 w) (hb : B ≤ b) : Below B w0 (set15 w b a0 a1 a2 a3 a4 a5 a6 a7 a8 a9 a10 a11 a12 a13 a14) :=
  (((((((((((((((h.setCell hb a0).setCell hb a1).setCell hb a2).setCell hb a3).setCell hb a4).setCell hb a5).setCell hb a6).setCell hb a7).setCell hb a8).setCell hb a9).setCell hb a10).setCell hb a11).setCell hb a12).setCell hb a13).setCell hb a14)
set_option maxHeartbeats 1000000 in
theorem dec_ret {W : World} {rb sb : Nat} {a0 a1 a2 a3 a4 a5 a6 a7 a8 a9 a10 a11 a12 a13 a14 e0 e1 : Value} {t : Array Value} (hr : W.heap[rb]? = some (.cells #[a0, a1, a2, a3, a4, a5, a6, a7, a8, a9, a10, a11, a12, a13, a14] 28 (0, 0))) (hs : W.heap[sb]? = some (.cells #[e0, e1] 43 (0, 0))) (h2 : t.getD 2 undef = .pointer (some ⟨rb, 0, none⟩)) (h3 : t.getD 3 undef = .pointer (some ⟨sb, 0, none⟩)) :
    (results Try.f17 t).run Try.prog W = .ok (.tuple #[.agg #[a0, a1, a2, a3, a4, a5, a6, a7, a8, a9, a10, a11, a12, a13, a14], .agg #[e0, e1]]) W := by
  have c0 : W.cell? ⟨rb, 0, none⟩ = some a0 := cell_of_row W rb 0 _ 28 (0, 0) hr
  have c1 : W.cell? ⟨rb, 1, none⟩ = some a1 := cell_of_row W rb 1 _ 28 (0, 0) hr
  have c2 : W.cell? ⟨rb, 2, none⟩ = some a2 := cell_of_row W rb 2 _ 28 (0, 0) hr
  have c3 : W.cell? ⟨rb, 3, none⟩ = some a3 := cell_of_row W rb 3 _ 28 (0, 0) hr
  have c4 : W.cell? ⟨rb, 4, none⟩ = some a4 := cell_of_row W rb 4 _ 28 (0, 0) hr
  have c5 : W.cell? ⟨rb, 5, none⟩ = some a5 := cell_of_row W rb 5 _ 28 (0, 0) hr
  have c6 : W.cell? ⟨rb, 6, none⟩ = some a6 := cell_of_row W rb 6 _ 28 (0, 0) hr
  have c7 : W.cell? ⟨rb, 7, none⟩ = some a7 := cell_of_row W rb 7 _ 28 (0, 0) hr
  have c8 : W.cell? ⟨rb, 8, none⟩ = some a8 := cell_of_row W rb 8 _ 28 (0, 0) hr
  have c9 : W.cell? ⟨rb, 9, none⟩ = some a9 := cell_of_row W rb 9 _ 28 (0, 0) hr
  have c10 : W.cell? ⟨rb, 10, none⟩ = some a10 := cell_of_row W rb 10 _ 28 (0, 0) hr
  have c11 : W.cell? ⟨rb, 11, none⟩ = some a11 := cell_of_row W rb 11 _ 28 (0, 0) hr
  have c12 : W.cell? ⟨rb, 12, none⟩ = some a12 := cell_of_row W rb 12 _ 28 (0, 0) hr
  have c13 : W.cell? ⟨rb, 13, none⟩ = some a13 := cell_of_row W rb 13 _ 28 (0, 0) hr
  have c14 : W.cell? ⟨rb, 14, none⟩ = some a14 := cell_of_row W rb 14 _ 28 (0, 0) hr
  have d0 : W.cell? ⟨sb, 0, none⟩ = some e0 := cell_of_row W sb 0 _ 43 (0, 0) hs
  have d1 : W.cell? ⟨sb, 1, none⟩ = some e1 := cell_of_row W sb 1 _ 43 (0, 0) hs
  clear hr hs
  simp only [Array.getD_eq_getD_getElem?] at h2 h3
  simp [results, Try.results17, go_sem, h2, h3, c0, c1, c2, c3, c4, c5, c6, c7, c8, c9, c10, c11, c12, c13, c14, d0, d1]
/-- Both results are written. -/
abbrev finW (w : World) (rb sb : Nat) (a0 a1 a2 a3 a4 a5 a6 a7 a8 a9 a10 a11 a12 a13 a14 e0 e1 : Value) : World := ((set15 w rb a0 a1 a2 a3 a4 a5 a6 a7 a8 a9 a10 a11 a12 a13 a14).setCell ⟨sb, 0, none⟩ e0).setCell ⟨sb, 1, none⟩ e1
theorem fin_facts {B : Nat} {w0 w : World} {rb sb : Nat} {a0 a1 a2 a3 a4 a5 a6 a7 a8 a9 a10 a11 a12 a13 a14 b0 b1 b2 b3 b4 b5 b6 b7 b8 b9 b10 b11 b12 b13 b14 e0 e1 f0 f1 : Value} (hb : Below B w0 w) (h1 : B ≤ rb) (h2 : rb < sb) (hr : w.heap[rb]? = some (.cells #[b0, b1, b2, b3, b4, b5, b6, b7, b8, b9, b10, b11, b12, b13, b14] 28 (0, 0))) (hs : w.heap[sb]? = some (.cells #[f0, f1] 43 (0, 0))) :
    Below B w0 (finW w rb sb a0 a1 a2 a3 a4 a5 a6 a7 a8 a9 a10 a11 a12 a13 a14 e0 e1) ∧ (finW w rb sb a0 a1 a2 a3 a4 a5 a6 a7 a8 a9 a10 a11 a12 a13 a14 e0 e1).heap[rb]? = some (.cells #[a0, a1, a2, a3, a4, a5, a6, a7, a8, a9, a10, a11, a12, a13, a14] 28 (0, 0)) ∧ (finW w rb sb a0 a1 a2 a3 a4 a5 a6 a7 a8 a9 a10 a11 a12 a13 a14 e0 e1).heap[sb]? = some (.cells #[e0, e1] 43 (0, 0)) ∧ ∀ g, g ≠ rb → g ≠ sb → (finW w rb sb a0 a1 a2 a3 a4 a5 a6 a7 a8 a9 a10 a11 a12 a13 a14 e0 e1).heap[g]? = w.heap[g]? := by
  have hx := set15_blk (a0 := a0) (a1 := a1) (a2 := a2) (a3 := a3) (a4 := a4) (a5 := a5) (a6 := a6) (a7 := a7) (a8 := a8) (a9 := a9) (a10 := a10) (a11 := a11) (a12 := a12) (a13 := a13) (a14 := a14) hr
  have hy : (set15 w rb a0 a1 a2 a3 a4 a5 a6 a7 a8 a9 a10 a11 a12 a13 a14).heap[sb]? = some (Obj.cells #[f0, f1] 43 (0, 0)) := (set15_far (by omega)).trans hs
  have hz := set15_below (a0 := a0) (a1 := a1) (a2 := a2) (a3 := a3) (a4 := a4) (a5 := a5) (a6 := a6) (a7 := a7) (a8 := a8) (a9 := a9) (a10 := a10) (a11 := a11) (a12 := a12) (a13 := a13) (a14 := a14) hb h1
  have hf : ∀ g, g ≠ rb → (set15 w rb a0 a1 a2 a3 a4 a5 a6 a7 a8 a9 a10 a11 a12 a13 a14).heap[g]? = w.heap[g]? := fun g hg => set15_far hg
  unfold finW
  generalize set15 w rb a0 a1 a2 a3 a4 a5 a6 a7 a8 a9 a10 a11 a12 a13 a14 = w2 at *
  have k0 : (w2.setCell ⟨sb, 0, none⟩ e0).heap[sb]? = some (Obj.cells #[e0, f1] 43 (0, 0)) := blk_set hy 0 e0
  refine ⟨(hz.setCell (p := ⟨sb, 0, none⟩) (by show B ≤ sb; omega) e0).setCell (p := ⟨sb, 1, none⟩) (by show B ≤ sb; omega) e1, ?_, blk_set k0 1 e1, fun g h3 h4 => ?_⟩
  · rw [set_blk _ (by omega), set_blk _ (by omega)]; exact hx
  · rw [set_blk _ h4, set_blk _ h4]; exact hf g h3

/-- What Decode answers. -/
def DecOut (w : World) (bs : List Nat) (e : Ending) (w' : World) : Prop :=
  Below w.heap.size w w' ∧ match dec bs with
    | .ok u => ∃ L, e = .returned (.tuple #[L.val u, .agg #[.int .i64 0, .int .i64 0]]) ∧ UnIn w' L u
    | .error q => e = .returned (.tuple #[L0.val u0, .agg #[.int .i64 170, .int .i64 (q : Nat)]])

set_option maxRecDepth 100000 in
set_option maxHeartbeats 8000000 in
theorem decode17 {w : World} {A : Option Addr} {n c : Nat} {bs : List Nat} (h : Reads w 1 (.slice A n c) n (vB bs)) (hb : ∀ x ∈ bs, x < 256) (hn : n ≤ 4294967296) (hnc : n ≤ c) :
    Calls Try.prog 17 #[.slice A n c] w (DecOut w bs) := by
  have kc := Go.Joins.run_convert_bytes_const_at (P := Try.prog) (((w.alloc (.cells #[.int .i64 0, .int .i64 0, .slice none 0 0, .int .i64 0, .int .i64 0, .slice none 0 0, .slice none 0 0, .int .i64 0, .int .i64 0, .slice none 0 0, .slice none 0 0, .int .i64 0, .int .i64 0, .slice none 0 0, .slice none 0 0] 28)).alloc (.cells #[.int .i64 0, .int .i64 0] 43)).alloc (.cells #[.slice A n c, .int .i64 0, .bool false] 70)) 31 5 #[.int .u8 65, .int .u8 78, .int .u8 86, .int .u8 49] 4 4 (w.heap.size + 1 + 1 + 1) (by simp) Try.underlying31 Try.underlying5
  have HH := Lib.hid h
  have HB := Lib.hid hb
  have HAB : Hid (∀ b o, A = some ⟨b, o, none⟩ → 0 < n → b < w.heap.size) := fun b o hA hn => by
    obtain ⟨b', o', e, hlt, _⟩ := h.bytes.2 hn
    rw [hA] at e; cases e; exact hlt
  clear h hb
  go_enter Try.func17, Try.ntmps17
  go_wp2_with fail
  have hds : DS w (((((w.alloc (.cells #[.int .i64 0, .int .i64 0, .slice none 0 0, .int .i64 0, .int .i64 0, .slice none 0 0, .slice none 0 0, .int .i64 0, .int .i64 0, .slice none 0 0, .slice none 0 0, .int .i64 0, .int .i64 0, .slice none 0 0, .slice none 0 0] 28)).alloc (.cells #[.int .i64 0, .int .i64 0] 43)).alloc (.cells #[.slice A n c, .int .i64 0, .bool false] 70))).alloc (.cells #[.int .u8 65, .int .u8 78, .int .u8 86, .int .u8 49] 5 (4, 5))) (w.heap.size + 1 + 1) A n c bs (0, false) w.heap.size (w.heap.size + 1) (w.heap.size + 1 + 1 + 1) := DS.init HH.out HB.out HAB.out
  have HDS := Lib.hid hds
  clear hds kc
  generalize ((((w.alloc (.cells #[.int .i64 0, .int .i64 0, .slice none 0 0, .int .i64 0, .int .i64 0, .slice none 0 0, .slice none 0 0, .int .i64 0, .int .i64 0, .slice none 0 0, .slice none 0 0, .int .i64 0, .int .i64 0, .slice none 0 0, .slice none 0 0] 28)).alloc (.cells #[.int .i64 0, .int .i64 0] 43)).alloc (.cells #[.slice A n c, .int .i64 0, .bool false] 70))).alloc (.cells #[.int .u8 65, .int .u8 78, .int .u8 86, .int .u8 49] 5 (4, 5)) = w1 at *
  generalize hmb : w.heap.size + 1 + 1 + 1 = mb at *
  generalize hr : w.heap.size + 1 + 1 = r at *
  generalize hsb : w.heap.size + 1 = sb at *
  clear hmb hr hsb
  go_loopw [18] (fun k wr => ∃ (j : Nat) (st : Nat × Bool), j ≤ 4 ∧ k = .int .i64 j ∧ Hid (DS w wr r A n c bs st w.heap.size sb mb ∧ HO bs j st)) (fun k _ => 4 - (intOf k).toNat)
  case atStart => exact ⟨0, (0, false), by omega, rfl, HDS.out, rfl⟩
  case round =>
    obtain ⟨j, st, hj, rfl, HR⟩ := hrel
    by_cases hlt : j < 4
    · have hce := HR.out.1.cell hlt
      have hx2 := mk_lt j
      have HNX := Lib.hid (fun (x : Int) (s : Nat × Bool) (h : Out (rNum (mkB j) (mkB j)) bs st x s) => (show HO bs (j + 1) s from ⟨st, x, HR.out.2, h⟩))
      have HC := Lib.hid (within33 HR.out.1.rd (mkB j) (mkB j))
      generalize mkB j = x at *
      go_wp2_with fail
      (with_reducible refine HC.out.mono ?_)
      rintro e w2 ⟨y, s2, rfl, hy, hr2, hg2, ho2⟩
      have HDS2 := Lib.hid (HR.out.1.keep hg2 hr2)
      have HO2 := Lib.hid (HNX.out y s2 ho2)
      clear HC HNX hr2 hg2 ho2 hce
      go_wp2_with fail
      go_roundw
      case rel => exact ⟨j + 1, s2, by omega, by go_num, Lib.hid ⟨HDS2.out, HO2.out⟩⟩
      case measure => simp [intOf]; omega
    · obtain rfl : j = 4 := by omega
      have HM := Lib.hid HR.out.2
      have HC := Lib.hid (within33 HR.out.1.rd 1 8)
      go_wp2_with fail
      (with_reducible refine HC.out.mono ?_)
      rintro e w2 ⟨x1, s1, rfl, hx1, hr1, hg1, ho1⟩
      have HD1 := Lib.hid (HR.out.1.keep hg1 hr1)
      have HC1 := Lib.hid (within33 hr1 1 8)
      have HO1 := Lib.hid ho1
      clear HC HR hr1 hg1 ho1
      go_wp2_with fail
      (with_reducible refine HC1.out.mono ?_)
      rintro e w3 ⟨x2, s2, rfl, hx2, hr2, hg2, ho2⟩
      have hu2 : US w (w3.alloc (.cells #[.int .i64 x1, .int .i64 x2, .slice none 0 0, .int .i64 0, .int .i64 0, .slice none 0 0, .slice none 0 0, .int .i64 0, .int .i64 0, .slice none 0 0, .slice none 0 0, .int .i64 0, .int .i64 0, .slice none 0 0, .slice none 0 0] 28)) r A n c bs s2 w3.heap.size w.heap.size sb L0 ⟨x1, x2, [], p0, p0, p0⟩ := (HD1.out.keep hg2 hr2).start x1 x2
      have HO2 := Lib.hid ho2
      clear HC1 HD1 hr2 hg2 ho2
      go_wp2_with fail
      generalize hub : w3.heap.size = ub at *
      generalize w3.alloc (.cells #[.int .i64 x1, .int .i64 x2, .slice none 0 0, .int .i64 0, .int .i64 0, .slice none 0 0, .slice none 0 0, .int .i64 0, .int .i64 0, .slice none 0 0, .slice none 0 0, .int .i64 0, .int .i64 0, .slice none 0 0, .slice none 0 0] 28) = w4 at *
      clear hub
      have HC2 := Lib.hid (within33 hu2.rd 0 255)
      have HU2 := Lib.hid hu2
      clear hu2
      (with_reducible refine HC2.out.mono ?_)
      rintro e w5 ⟨x3, s3, rfl, hx3, hr3, hg3, ho3⟩
      have HU3 := Lib.hid (HU2.out.keep hg3 hr3)
      have HO3 := Lib.hid ho3
      clear HC2 HU2 hr3 hg3 ho3
      obtain ⟨M, hM⟩ := Int.eq_ofNat_of_zero_le hx3.1
      have hM2 : M < 256 := by omega
      subst hM
      clear hx3
      obtain ⟨i48, hi, hz0, hz1, hz2⟩ := info_parts info48
      go_wp2_with fail
      go_loopw [36] (fun k wr => ∃ (j : Nat) (pts : List (Int × Int)) (P : Option Addr) (cc : Nat) (st : Nat × Bool), j ≤ M ∧ k = .int .i64 j ∧ Hid (US w wr r A n c bs st ub w.heap.size sb ⟨P, cc, Lp0, Lp0, Lp0⟩ ⟨x1, x2, pts, p0, p0, p0⟩ ∧ Out (rMany rPt j) bs s3 pts st ∧ pts.length = j)) (fun k _ => M - (intOf k).toNat)
      case atStart => exact ⟨0, [], none, 0, s3, Nat.zero_le _, rfl, HU3.out, Out.nil _ _ _, rfl⟩
      case round =>
        obtain ⟨j, pts, P, cc, st, hj, rfl, HR⟩ := hrel
        by_cases hlt : j < M
        · have HC := Lib.hid (signed34 HR.out.1.rd)
          have hol : pts.length < 4294967296 := by have := HR.out.2.2; omega
          have HLJ := Lib.hid HR.out.2.2
          go_wp2_with fail
          (with_reducible refine HC.out.mono ?_)
          rintro e w6 ⟨xa, sa, rfl, hxa, hra, hga, hoa⟩
          have HUA := Lib.hid (HR.out.1.keep hga hra)
          have HOA := Lib.hid hoa
          have HRA := Lib.hid (hra.below ((Below.refl w6.heap.size w6).drew))
          have HGA : Hid (w6.grownBy w6.drew (some r)) := ⟨rfl, rfl, rfl, Nat.le_refl _, fun _ _ _ => rfl⟩
          have q2 : w6.cell? ⟨ub, 2, none⟩ = some (.slice P pts.length cc) := HUA.out.cell 2
          clear HC hra hga hoa
          go_wp2_with fail
          go_region_law
            (first
              | (refine step_appS rfl (.tmp 41) (.tmp 46) 22 rfl (r + 1) 48 i48 (.agg #[.int .i64 0, .int .i64 0]) 2 16 Try.underlying22 hi hz0 hz1 hz2 rfl (by decide) (by decide) (.slice P pts.length cc) pts.length (vP pts) (by rfl) (HUB.out.own.pts.alloc _) w7.heap.size (cP (xa, xb)) (by rfl) rfl (cP_cells w7 (xa, xb)) (cP_one _) hol HRB.out ?_; intro v' w8 hob hgb _; obtain ⟨Ab, cb, rfl, _, _⟩ := own_slice hob
                 have q11 : w8.heap[ub]? = some (.cells (UnV.cells ⟨P, cc, Lp0, Lp0, Lp0⟩ ⟨x1, x2, pts, p0, p0, p0⟩) 28 (0, 0)) := (hgb.block ub (Nat.lt_of_lt_of_le hubl (by simp)) (fun e => own_blk_ne HUB.out.own.pts HUB.out.ublk (by decide) e.symm)).trans ((Below.heap_alloc _ _ _ hubl).trans HUB.out.ublk)
                 have c11 : w8.cell? ⟨ub, 2, none⟩ = some (.slice P pts.length cc) := cell_of_row w8 ub 2 _ 28 (0, 0) q11
                 have f11 := frozen_of_row w8 ub 2 _ 28 q11
                 have HU11 := Lib.hid ((HUB.out.alloc (.cells #[.int .i64 xa, .int .i64 xb] 48)).push (x := (xa, xb)) rfl hgb hob)
                 clear hob hgb q11)
              | (go_simp; go_at_call 34; (with_reducible refine (signed34 HRA.out).mono ?_); rintro e w7 ⟨xb, sb', rfl, hxb, hrb, hgb, hob⟩
                 have HUB := Lib.hid (HUA.out.keep (HGA.out.trans' hgb) hrb)
                 have HOB := Lib.hid hob
                 have hubl := HUB.out.ult
                 have HRB : Hid (r + 1 ≤ (w7.alloc (.cells #[.int .i64 xa, .int .i64 xb] 48)).heap.size) := Lib.hid (Nat.le_trans (Nat.le_of_lt (Nat.lt_of_le_of_lt HUB.out.ru hubl)) (by simp))
                 have a2 : w7.cell? ⟨ub, 2, none⟩ = some (.slice P pts.length cc) := HUB.out.cell 2
                 have ka2 : ∀ o, (w7.alloc o).cell? ⟨ub, 2, none⟩ = some (.slice P pts.length cc) := fun o => cell_al a2 o
                 clear hrb hgb hob))
          all_goals
            go_wp2_with fail
            go_roundw
            case rel => exact ⟨j + 1, _, _, _, _, by omega, by go_num, Lib.hid ⟨HU11.out, HR.out.2.1.snoc (HOA.out.seq (r2 := fun _ => rCoord) HOB.out), by rw [List.length_append, HLJ.out]; rfl⟩⟩
            case measure => simp [intOf]; omega
        · obtain rfl : j = M := by omega
          have HU4 := Lib.hid HR.out.1
          have HO4 := Lib.hid HR.out.2.1
          have HP := Lib.hid (programs27 ub wr)
          clear HR
          go_wp2_with fail
          (with_reducible refine HP.out.mono ?_)
          rintro e w6 ⟨rfl, hb6⟩
          have HU6 := Lib.hid (HU4.out.keep (World.grownBy.ofBelow hb6 _) (HU4.out.rd.below hb6))
          clear HP hb6 HU4
          go_wp2_with fail
          have HP0 := Lib.hid (show PO bs st x1 x2 pts 0 ⟨x1, x2, pts, p0, p0, p0⟩ st from ⟨rfl, rfl, rfl, rfl⟩)
          generalize hs8 : st = s8 at *
          clear hs8
          go_loopw [51] (fun k wr => ∃ (j : Nat) (L : UnV) (u : Un) (st : Nat × Bool), j ≤ 3 ∧ k = .int .i64 j ∧ Hid (US w wr r A n c bs st ub w.heap.size sb L u ∧ PO bs s8 x1 x2 pts j u st)) (fun k _ => 3 - (intOf k).toNat)
          case atStart => exact ⟨0, _, _, s8, by omega, rfl, HU6.out, HP0.out⟩
          case round =>
            obtain ⟨k, L, u, st, hk, rfl, HR⟩ := hrel
            by_cases hlt : k < 3
            · have HC := Lib.hid (program35 HR.out.1.rd)
              have HRU : Hid (r + 1 ≤ _) := Lib.hid (Nat.le_trans (Nat.le_of_lt (Nat.lt_of_le_of_lt HR.out.1.ru HR.out.1.ult)) (Nat.le_refl _))
              have hk3 : k = 0 ∨ k = 1 ∨ k = 2 := by omega
              clear hlt hk
              rcases hk3 with rfl | rfl | rfl
              · have i0 : ∀ w, (Instr.index 58 (.agg #[.pointer (some ⟨ub, 3, none⟩), .pointer (some ⟨ub, 7, none⟩), .pointer (some ⟨ub, 11, none⟩)]) (.int .i64 0)).run Try.prog w = .ok (.pointer (some ⟨ub, 3, none⟩)) w := fun _ => by rfl
                rw [show ((0 : Nat) : Int) = 0 from rfl]
                go_wp2_with fail
                (with_reducible refine HC.out.mono ?_)
                rintro e w7 ⟨⟨ins, regs, code, outs⟩, ⟨A1, c1, A2, c2⟩, s9, he, ho9, hr9, hg9, hou⟩
                simp only [PrV.val] at he
                subst he
                have HU7 := Lib.hid (HR.out.1.keep hg9 hr9)
                have y0 := HU7.out.cell 3
                have y1 := HU7.out.cell 4
                have y2 := HU7.out.cell 5
                have y3 := HU7.out.cell 6
                simp only [UnV.cells] at y0 y1 y2 y3
                change w7.cell? _ = some _ at y0
                change w7.cell? _ = some _ at y1
                change w7.cell? _ = some _ at y2
                change w7.cell? _ = some _ at y3
                have f0 := HU7.out.fz 3
                have f1 := HU7.out.fz 4
                have f2 := HU7.out.fz 5
                have f3 := HU7.out.fz 6
                have HU8 := Lib.hid (HU7.out.setPr (L' := { L with l := ⟨A1, c1, A2, c2⟩ }) (u' := { u with left := ⟨ins, regs, code, outs⟩ }) 3 (.int .i64 ins) (.int .i64 regs) (.slice A1 code.length c1) (.slice A2 outs.length c2) (by simp [UnV.cells]) ⟨HU7.out.own.pts, ho9.base HRU.out, HU7.out.own.r, HU7.out.own.b⟩)
                have HPO := Lib.hid (show PO bs s8 x1 x2 pts 1 { u with left := ⟨ins, regs, code, outs⟩ } s9 from ⟨HR.out.2.1, HR.out.2.2.1, HR.out.2.2.2.1, by have e := HR.out.2.2.2.2; have e : _ = s8 := e; rw [← e]; exact hou⟩)
                clear hg9 hr9 ho9 hou HC
                go_wp2_with fail
                go_roundw
                case rel => exact ⟨1, _, _, s9, by omega, by go_num, Lib.hid ⟨HU8.out, HPO.out⟩⟩
                case measure => simp [intOf]
              · have i1 : ∀ w, (Instr.index 58 (.agg #[.pointer (some ⟨ub, 3, none⟩), .pointer (some ⟨ub, 7, none⟩), .pointer (some ⟨ub, 11, none⟩)]) (.int .i64 1)).run Try.prog w = .ok (.pointer (some ⟨ub, 7, none⟩)) w := fun _ => by rfl
                rw [show ((1 : Nat) : Int) = 1 from rfl]
                go_wp2_with fail
                (with_reducible refine HC.out.mono ?_)
                rintro e w7 ⟨⟨ins, regs, code, outs⟩, ⟨A1, c1, A2, c2⟩, s9, he, ho9, hr9, hg9, hou⟩
                simp only [PrV.val] at he
                subst he
                have HU7 := Lib.hid (HR.out.1.keep hg9 hr9)
                have y0 := HU7.out.cell 7
                have y1 := HU7.out.cell 8
                have y2 := HU7.out.cell 9
                have y3 := HU7.out.cell 10
                simp only [UnV.cells] at y0 y1 y2 y3
                change w7.cell? _ = some _ at y0
                change w7.cell? _ = some _ at y1
                change w7.cell? _ = some _ at y2
                change w7.cell? _ = some _ at y3
                have f0 := HU7.out.fz 7
                have f1 := HU7.out.fz 8
                have f2 := HU7.out.fz 9
                have f3 := HU7.out.fz 10
                have HU8 := Lib.hid (HU7.out.setPr (L' := { L with r := ⟨A1, c1, A2, c2⟩ }) (u' := { u with right := ⟨ins, regs, code, outs⟩ }) 7 (.int .i64 ins) (.int .i64 regs) (.slice A1 code.length c1) (.slice A2 outs.length c2) (by simp [UnV.cells]) ⟨HU7.out.own.pts, HU7.out.own.l, ho9.base HRU.out, HU7.out.own.b⟩)
                have HPO := Lib.hid (show PO bs s8 x1 x2 pts 2 { u with right := ⟨ins, regs, code, outs⟩ } s9 from ⟨HR.out.2.1, HR.out.2.2.1, HR.out.2.2.2.1, _, HR.out.2.2.2.2, hou⟩)
                clear hg9 hr9 ho9 hou HC
                go_wp2_with fail
                go_roundw
                case rel => exact ⟨2, _, _, s9, by omega, by go_num, Lib.hid ⟨HU8.out, HPO.out⟩⟩
                case measure => simp [intOf]
              · have i2 : ∀ w, (Instr.index 58 (.agg #[.pointer (some ⟨ub, 3, none⟩), .pointer (some ⟨ub, 7, none⟩), .pointer (some ⟨ub, 11, none⟩)]) (.int .i64 2)).run Try.prog w = .ok (.pointer (some ⟨ub, 11, none⟩)) w := fun _ => by rfl
                rw [show ((2 : Nat) : Int) = 2 from rfl]
                go_wp2_with fail
                (with_reducible refine HC.out.mono ?_)
                rintro e w7 ⟨⟨ins, regs, code, outs⟩, ⟨A1, c1, A2, c2⟩, s9, he, ho9, hr9, hg9, hou⟩
                simp only [PrV.val] at he
                subst he
                have HU7 := Lib.hid (HR.out.1.keep hg9 hr9)
                have y0 := HU7.out.cell 11
                have y1 := HU7.out.cell 12
                have y2 := HU7.out.cell 13
                have y3 := HU7.out.cell 14
                simp only [UnV.cells] at y0 y1 y2 y3
                change w7.cell? _ = some _ at y0
                change w7.cell? _ = some _ at y1
                change w7.cell? _ = some _ at y2
                change w7.cell? _ = some _ at y3
                have f0 := HU7.out.fz 11
                have f1 := HU7.out.fz 12
                have f2 := HU7.out.fz 13
                have f3 := HU7.out.fz 14
                have HU8 := Lib.hid (HU7.out.setPr (L' := { L with b := ⟨A1, c1, A2, c2⟩ }) (u' := { u with back := ⟨ins, regs, code, outs⟩ }) 11 (.int .i64 ins) (.int .i64 regs) (.slice A1 code.length c1) (.slice A2 outs.length c2) (by simp [UnV.cells]) ⟨HU7.out.own.pts, HU7.out.own.l, HU7.out.own.r, ho9.base HRU.out⟩)
                have HPO := Lib.hid (show PO bs s8 x1 x2 pts 3 { u with back := ⟨ins, regs, code, outs⟩ } s9 from ⟨HR.out.2.1, HR.out.2.2.1, HR.out.2.2.2.1, _, _, HR.out.2.2.2.2.choose_spec.1, HR.out.2.2.2.2.choose_spec.2, hou⟩)
                clear hg9 hr9 ho9 hou HC
                go_wp2_with fail
                go_roundw
                case rel => exact ⟨3, _, _, s9, by omega, by go_num, Lib.hid ⟨HU8.out, HPO.out⟩⟩
                case measure => simp [intOf]
            · obtain rfl : k = 3 := by omega
              have hbody : Out rBody bs (0, false) u st := by
                obtain ⟨e1, e2, e3, t1, t2, o1, o2, o3⟩ := HR.out.2
                have := Out.body HM.out HO1.out HO2.out HO3.out HO4.out o1 o2 o3
                obtain ⟨k1, k2, pp, l', r', b'⟩ := u
                simp only at e1 e2 e3
                subst e1 e2 e3
                exact this
              have HBD := Lib.hid hbody
              have HU := Lib.hid HR.out.1
              obtain ⟨q, wr9⟩ := st
              have hq : q ≤ n := HU.out.rd.le
              have d1 := HU.out.rd.c1
              have d2 := HU.out.rd.c2
              simp only at d1 d2
              clear hbody HR HO1 HO2 HO3 HO4 HM HP0 HU6 HU3 HDS
              cases wr9 with
              | true =>
                have HDE : Hid (dec bs = .error q) := Lib.hid (dec_bad HBD.out.allBad (.inl rfl))
                go_wp2_with fail
                have z0 : wr.cell? ⟨w.heap.size, 0, none⟩ = some (.int .i64 0) := cell_of_row wr w.heap.size 0 _ 28 (0, 0) HU.out.rblk
                have zf0 := frozen_of_row wr w.heap.size 0 _ 28 HU.out.rblk
                have z1 : wr.cell? ⟨w.heap.size, 1, none⟩ = some (.int .i64 0) := cell_of_row wr w.heap.size 1 _ 28 (0, 0) HU.out.rblk
                have zf1 := frozen_of_row wr w.heap.size 1 _ 28 HU.out.rblk
                have z2 : wr.cell? ⟨w.heap.size, 2, none⟩ = some (.slice none 0 0) := cell_of_row wr w.heap.size 2 _ 28 (0, 0) HU.out.rblk
                have zf2 := frozen_of_row wr w.heap.size 2 _ 28 HU.out.rblk
                have z3 : wr.cell? ⟨w.heap.size, 3, none⟩ = some (.int .i64 0) := cell_of_row wr w.heap.size 3 _ 28 (0, 0) HU.out.rblk
                have zf3 := frozen_of_row wr w.heap.size 3 _ 28 HU.out.rblk
                have z4 : wr.cell? ⟨w.heap.size, 4, none⟩ = some (.int .i64 0) := cell_of_row wr w.heap.size 4 _ 28 (0, 0) HU.out.rblk
                have zf4 := frozen_of_row wr w.heap.size 4 _ 28 HU.out.rblk
                have z5 : wr.cell? ⟨w.heap.size, 5, none⟩ = some (.slice none 0 0) := cell_of_row wr w.heap.size 5 _ 28 (0, 0) HU.out.rblk
                have zf5 := frozen_of_row wr w.heap.size 5 _ 28 HU.out.rblk
                have z6 : wr.cell? ⟨w.heap.size, 6, none⟩ = some (.slice none 0 0) := cell_of_row wr w.heap.size 6 _ 28 (0, 0) HU.out.rblk
                have zf6 := frozen_of_row wr w.heap.size 6 _ 28 HU.out.rblk
                have z7 : wr.cell? ⟨w.heap.size, 7, none⟩ = some (.int .i64 0) := cell_of_row wr w.heap.size 7 _ 28 (0, 0) HU.out.rblk
                have zf7 := frozen_of_row wr w.heap.size 7 _ 28 HU.out.rblk
                have z8 : wr.cell? ⟨w.heap.size, 8, none⟩ = some (.int .i64 0) := cell_of_row wr w.heap.size 8 _ 28 (0, 0) HU.out.rblk
                have zf8 := frozen_of_row wr w.heap.size 8 _ 28 HU.out.rblk
                have z9 : wr.cell? ⟨w.heap.size, 9, none⟩ = some (.slice none 0 0) := cell_of_row wr w.heap.size 9 _ 28 (0, 0) HU.out.rblk
                have zf9 := frozen_of_row wr w.heap.size 9 _ 28 HU.out.rblk
                have z10 : wr.cell? ⟨w.heap.size, 10, none⟩ = some (.slice none 0 0) := cell_of_row wr w.heap.size 10 _ 28 (0, 0) HU.out.rblk
                have zf10 := frozen_of_row wr w.heap.size 10 _ 28 HU.out.rblk
                have z11 : wr.cell? ⟨w.heap.size, 11, none⟩ = some (.int .i64 0) := cell_of_row wr w.heap.size 11 _ 28 (0, 0) HU.out.rblk
                have zf11 := frozen_of_row wr w.heap.size 11 _ 28 HU.out.rblk
                have z12 : wr.cell? ⟨w.heap.size, 12, none⟩ = some (.int .i64 0) := cell_of_row wr w.heap.size 12 _ 28 (0, 0) HU.out.rblk
                have zf12 := frozen_of_row wr w.heap.size 12 _ 28 HU.out.rblk
                have z13 : wr.cell? ⟨w.heap.size, 13, none⟩ = some (.slice none 0 0) := cell_of_row wr w.heap.size 13 _ 28 (0, 0) HU.out.rblk
                have zf13 := frozen_of_row wr w.heap.size 13 _ 28 HU.out.rblk
                have z14 : wr.cell? ⟨w.heap.size, 14, none⟩ = some (.slice none 0 0) := cell_of_row wr w.heap.size 14 _ 28 (0, 0) HU.out.rblk
                have zf14 := frozen_of_row wr w.heap.size 14 _ 28 HU.out.rblk
                have v0 : wr.cell? ⟨sb, 0, none⟩ = some (.int .i64 0) := cell_of_row wr sb 0 _ 43 (0, 0) HU.out.sblk
                have vf0 := frozen_of_row wr sb 0 _ 43 HU.out.sblk
                have v1 : wr.cell? ⟨sb, 1, none⟩ = some (.int .i64 0) := cell_of_row wr sb 1 _ 43 (0, 0) HU.out.sblk
                have vf1 := frozen_of_row wr sb 1 _ 43 HU.out.sblk
                have hn1 : ¬ w.heap.size = sb := by have := HU.out.rsb; omega
                have hn2 : ¬ sb = w.heap.size := by have := HU.out.rsb; omega
                have hn3 : ¬ w.heap.size = r := by have := HU.out.rsb; have := HU.out.sr; omega
                have hn4 : ¬ r = w.heap.size := by have := HU.out.rsb; have := HU.out.sr; omega
                have hn5 : ¬ sb = r := by have := HU.out.sr; omega
                have hn6 : ¬ r = sb := by have := HU.out.sr; omega
                go_region
                go_wp2_with fail
                obtain ⟨F1, F2, F3, _⟩ := fin_facts (a0 := .int .i64 0) (a1 := .int .i64 0) (a2 := .slice none 0 0) (a3 := .int .i64 0) (a4 := .int .i64 0) (a5 := .slice none 0 0) (a6 := .slice none 0 0) (a7 := .int .i64 0) (a8 := .int .i64 0) (a9 := .slice none 0 0) (a10 := .slice none 0 0) (a11 := .int .i64 0) (a12 := .int .i64 0) (a13 := .slice none 0 0) (a14 := .slice none 0 0) (e0 := .int .i64 170) (e1 := .int .i64 (q : Nat)) HU.out.bel HU.out.rge HU.out.rsb HU.out.rblk HU.out.sblk
                unfold finW set15 at F1 F2 F3
                have F4 := F1.drew
                generalize ((((((((((((((((wr.setCell ⟨w.heap.size, 0, none⟩ (.int .i64 0)).setCell ⟨w.heap.size, 1, none⟩ (.int .i64 0)).setCell ⟨w.heap.size, 2, none⟩ (.slice none 0 0)).setCell ⟨w.heap.size, 3, none⟩ (.int .i64 0)).setCell ⟨w.heap.size, 4, none⟩ (.int .i64 0)).setCell ⟨w.heap.size, 5, none⟩ (.slice none 0 0)).setCell ⟨w.heap.size, 6, none⟩ (.slice none 0 0)).setCell ⟨w.heap.size, 7, none⟩ (.int .i64 0)).setCell ⟨w.heap.size, 8, none⟩ (.int .i64 0)).setCell ⟨w.heap.size, 9, none⟩ (.slice none 0 0)).setCell ⟨w.heap.size, 10, none⟩ (.slice none 0 0)).setCell ⟨w.heap.size, 11, none⟩ (.int .i64 0)).setCell ⟨w.heap.size, 12, none⟩ (.int .i64 0)).setCell ⟨w.heap.size, 13, none⟩ (.slice none 0 0)).setCell ⟨w.heap.size, 14, none⟩ (.slice none 0 0)).setCell ⟨sb, 0, none⟩ (.int .i64 170)).setCell ⟨sb, 1, none⟩ (.int .i64 (q : Nat)) = WF at *
                refine bodyPost_ret (dec_ret (W := WF.drew) (rb := w.heap.size) (sb := sb) F2 F3 rfl rfl) rfl ?_
                refine ⟨F4, ?_⟩
                rw [HDE.out]
                rfl
              | false =>
                have hlen := HU.out.rd.len
                have HLEN := Lib.hid hlen
                have HC := Lib.hid (check29 A q c (bs.take q) wr (HU.out.rd.bytes.take hq) (fun x hx => HB.out x (List.mem_of_mem_take hx)) (by omega))
                have hK := chk_lt (bs.take q)
                have HQ : Hid (q ≤ bs.length) := Lib.hid (by rw [hlen]; exact hq)
                have HCHK := Lib.hid (fun (y : Int × Int) (s2 : Nat × Bool) h => Out.all (y := y) (s2 := s2) HBD.out HQ.out h)
                generalize chk (bs.take q) = K at *
                have HKA := Lib.hid (and_mask K hK)
                have HNN : Hid (A = none → n = 0 ∧ c = 0) := fun e => by
                  obtain ⟨_, _, A', c', h3, h4, _⟩ := HH.out
                  cases h3
                  exact h4 e
                clear hlen
                cases A with
                | none =>
                  have h0 := (HNN.out rfl).1
                  have h7 := body_pos HBD.out
                  omega
                | some ad =>
                  clear HNN
                  go_wp2_with fail
                  (with_reducible refine HC.out.mono ?_)
                  rintro e w9 ⟨rfl, rfl⟩
                  have e1 : ((K / 256 : Nat) : Int) = (K : Int) / 256 := by omega
                  have HC7 := Lib.hid (within33 HU.out.rd ((K / 256 : Nat) : Int) ((K / 256 : Nat) : Int))
                  have HO7 := Lib.hid (fun (y1 y2 : Int) (t1 t2 : Nat × Bool) (h1 : Out (rNum ((K / 256 : Nat) : Int) ((K / 256 : Nat) : Int)) bs (q, false) y1 t1) (h2 : Out (rNum ((K % 256 : Nat) : Int) ((K % 256 : Nat) : Int)) bs t1 y2 t2) => HCHK.out (y1, y2) t2 (show Out (rChk K) bs (q, false) (y1, y2) t2 from h1.seq (r2 := fun _ => rNum ((K % 256 : Nat) : Int) ((K % 256 : Nat) : Int)) h2))
                  rw [e1] at HC7
                  clear HC HCHK e1
                  go_wp2_with fail
                  (with_reducible refine HC7.out.mono ?_)
                  rintro e w10 ⟨y1, t1, rfl, hy1, hrt1, hgt1, hot1⟩
                  have HU10 := Lib.hid (HU.out.keep hgt1 hrt1)
                  have HO8 := Lib.hid (fun y2 t2 h2 => HO7.out y1 y2 t1 t2 (by rw [show ((K / 256 : Nat) : Int) = (K : Int) / 256 by omega]; exact hot1) h2)
                  have HC8 := Lib.hid (within33 hrt1 ((K % 256 : Nat) : Int) ((K % 256 : Nat) : Int))
                  clear HC7 HO7 hrt1 hgt1 hot1 HU d1 d2 hq
                  go_wp2_with fail
                  rw [HKA.out]
                  (with_reducible refine HC8.out.mono ?_)
                  rintro e w11 ⟨y2, ⟨q2, wr2⟩, rfl, hy2, hrt2, hgt2, hot2⟩
                  have HU := Lib.hid (HU10.out.keep hgt2 hrt2)
                  have HOA := Lib.hid (HO8.out y2 _ hot2)
                  have hq2 : q2 ≤ n := HU.out.rd.le
                  have d1 := HU.out.rd.c1
                  have d2 := HU.out.rd.c2
                  simp only at d1 d2
                  clear HC8 HO8 HU10 hrt2 hgt2 hot2
                  cases wr2 with
                  | true =>
                    have HDE : Hid (dec bs = .error q2) := Lib.hid (dec_bad HOA.out (.inl rfl))
                    go_wp2_with fail
                    have z0 : w11.cell? ⟨w.heap.size, 0, none⟩ = some (.int .i64 0) := cell_of_row w11 w.heap.size 0 _ 28 (0, 0) HU.out.rblk
                    have zf0 := frozen_of_row w11 w.heap.size 0 _ 28 HU.out.rblk
                    have z1 : w11.cell? ⟨w.heap.size, 1, none⟩ = some (.int .i64 0) := cell_of_row w11 w.heap.size 1 _ 28 (0, 0) HU.out.rblk
                    have zf1 := frozen_of_row w11 w.heap.size 1 _ 28 HU.out.rblk
                    have z2 : w11.cell? ⟨w.heap.size, 2, none⟩ = some (.slice none 0 0) := cell_of_row w11 w.heap.size 2 _ 28 (0, 0) HU.out.rblk
                    have zf2 := frozen_of_row w11 w.heap.size 2 _ 28 HU.out.rblk
                    have z3 : w11.cell? ⟨w.heap.size, 3, none⟩ = some (.int .i64 0) := cell_of_row w11 w.heap.size 3 _ 28 (0, 0) HU.out.rblk
                    have zf3 := frozen_of_row w11 w.heap.size 3 _ 28 HU.out.rblk
                    have z4 : w11.cell? ⟨w.heap.size, 4, none⟩ = some (.int .i64 0) := cell_of_row w11 w.heap.size 4 _ 28 (0, 0) HU.out.rblk
                    have zf4 := frozen_of_row w11 w.heap.size 4 _ 28 HU.out.rblk
                    have z5 : w11.cell? ⟨w.heap.size, 5, none⟩ = some (.slice none 0 0) := cell_of_row w11 w.heap.size 5 _ 28 (0, 0) HU.out.rblk
                    have zf5 := frozen_of_row w11 w.heap.size 5 _ 28 HU.out.rblk
                    have z6 : w11.cell? ⟨w.heap.size, 6, none⟩ = some (.slice none 0 0) := cell_of_row w11 w.heap.size 6 _ 28 (0, 0) HU.out.rblk
                    have zf6 := frozen_of_row w11 w.heap.size 6 _ 28 HU.out.rblk
                    have z7 : w11.cell? ⟨w.heap.size, 7, none⟩ = some (.int .i64 0) := cell_of_row w11 w.heap.size 7 _ 28 (0, 0) HU.out.rblk
                    have zf7 := frozen_of_row w11 w.heap.size 7 _ 28 HU.out.rblk
                    have z8 : w11.cell? ⟨w.heap.size, 8, none⟩ = some (.int .i64 0) := cell_of_row w11 w.heap.size 8 _ 28 (0, 0) HU.out.rblk
                    have zf8 := frozen_of_row w11 w.heap.size 8 _ 28 HU.out.rblk
                    have z9 : w11.cell? ⟨w.heap.size, 9, none⟩ = some (.slice none 0 0) := cell_of_row w11 w.heap.size 9 _ 28 (0, 0) HU.out.rblk
                    have zf9 := frozen_of_row w11 w.heap.size 9 _ 28 HU.out.rblk
                    have z10 : w11.cell? ⟨w.heap.size, 10, none⟩ = some (.slice none 0 0) := cell_of_row w11 w.heap.size 10 _ 28 (0, 0) HU.out.rblk
                    have zf10 := frozen_of_row w11 w.heap.size 10 _ 28 HU.out.rblk
                    have z11 : w11.cell? ⟨w.heap.size, 11, none⟩ = some (.int .i64 0) := cell_of_row w11 w.heap.size 11 _ 28 (0, 0) HU.out.rblk
                    have zf11 := frozen_of_row w11 w.heap.size 11 _ 28 HU.out.rblk
                    have z12 : w11.cell? ⟨w.heap.size, 12, none⟩ = some (.int .i64 0) := cell_of_row w11 w.heap.size 12 _ 28 (0, 0) HU.out.rblk
                    have zf12 := frozen_of_row w11 w.heap.size 12 _ 28 HU.out.rblk
                    have z13 : w11.cell? ⟨w.heap.size, 13, none⟩ = some (.slice none 0 0) := cell_of_row w11 w.heap.size 13 _ 28 (0, 0) HU.out.rblk
                    have zf13 := frozen_of_row w11 w.heap.size 13 _ 28 HU.out.rblk
                    have z14 : w11.cell? ⟨w.heap.size, 14, none⟩ = some (.slice none 0 0) := cell_of_row w11 w.heap.size 14 _ 28 (0, 0) HU.out.rblk
                    have zf14 := frozen_of_row w11 w.heap.size 14 _ 28 HU.out.rblk
                    have v0 : w11.cell? ⟨sb, 0, none⟩ = some (.int .i64 0) := cell_of_row w11 sb 0 _ 43 (0, 0) HU.out.sblk
                    have vf0 := frozen_of_row w11 sb 0 _ 43 HU.out.sblk
                    have v1 : w11.cell? ⟨sb, 1, none⟩ = some (.int .i64 0) := cell_of_row w11 sb 1 _ 43 (0, 0) HU.out.sblk
                    have vf1 := frozen_of_row w11 sb 1 _ 43 HU.out.sblk
                    have hn1 : ¬ w.heap.size = sb := by have := HU.out.rsb; omega
                    have hn2 : ¬ sb = w.heap.size := by have := HU.out.rsb; omega
                    have hn3 : ¬ w.heap.size = r := by have := HU.out.rsb; have := HU.out.sr; omega
                    have hn4 : ¬ r = w.heap.size := by have := HU.out.rsb; have := HU.out.sr; omega
                    have hn5 : ¬ sb = r := by have := HU.out.sr; omega
                    have hn6 : ¬ r = sb := by have := HU.out.sr; omega
                    go_region
                    go_wp2_with fail
                    obtain ⟨F1, F2, F3, _⟩ := fin_facts (a0 := .int .i64 0) (a1 := .int .i64 0) (a2 := .slice none 0 0) (a3 := .int .i64 0) (a4 := .int .i64 0) (a5 := .slice none 0 0) (a6 := .slice none 0 0) (a7 := .int .i64 0) (a8 := .int .i64 0) (a9 := .slice none 0 0) (a10 := .slice none 0 0) (a11 := .int .i64 0) (a12 := .int .i64 0) (a13 := .slice none 0 0) (a14 := .slice none 0 0) (e0 := .int .i64 170) (e1 := .int .i64 (q2 : Nat)) HU.out.bel HU.out.rge HU.out.rsb HU.out.rblk HU.out.sblk
                    unfold finW set15 at F1 F2 F3
                    have F4 := F1.drew
                    generalize ((((((((((((((((w11.setCell ⟨w.heap.size, 0, none⟩ (.int .i64 0)).setCell ⟨w.heap.size, 1, none⟩ (.int .i64 0)).setCell ⟨w.heap.size, 2, none⟩ (.slice none 0 0)).setCell ⟨w.heap.size, 3, none⟩ (.int .i64 0)).setCell ⟨w.heap.size, 4, none⟩ (.int .i64 0)).setCell ⟨w.heap.size, 5, none⟩ (.slice none 0 0)).setCell ⟨w.heap.size, 6, none⟩ (.slice none 0 0)).setCell ⟨w.heap.size, 7, none⟩ (.int .i64 0)).setCell ⟨w.heap.size, 8, none⟩ (.int .i64 0)).setCell ⟨w.heap.size, 9, none⟩ (.slice none 0 0)).setCell ⟨w.heap.size, 10, none⟩ (.slice none 0 0)).setCell ⟨w.heap.size, 11, none⟩ (.int .i64 0)).setCell ⟨w.heap.size, 12, none⟩ (.int .i64 0)).setCell ⟨w.heap.size, 13, none⟩ (.slice none 0 0)).setCell ⟨w.heap.size, 14, none⟩ (.slice none 0 0)).setCell ⟨sb, 0, none⟩ (.int .i64 170)).setCell ⟨sb, 1, none⟩ (.int .i64 (q2 : Nat)) = WF at *
                    refine bodyPost_ret (dec_ret (W := WF.drew) (rb := w.heap.size) (sb := sb) F2 F3 rfl rfl) rfl ?_
                    refine ⟨F4, ?_⟩
                    rw [HDE.out]
                    rfl
                  | false =>
                    by_cases hfin : q2 < n
                    · have HDE : Hid (dec bs = .error q2) := Lib.hid (dec_bad HOA.out (.inr (by rw [HLEN.out]; exact hfin)))
                      go_wp2_with fail
                      have z0 : w11.cell? ⟨w.heap.size, 0, none⟩ = some (.int .i64 0) := cell_of_row w11 w.heap.size 0 _ 28 (0, 0) HU.out.rblk
                      have zf0 := frozen_of_row w11 w.heap.size 0 _ 28 HU.out.rblk
                      have z1 : w11.cell? ⟨w.heap.size, 1, none⟩ = some (.int .i64 0) := cell_of_row w11 w.heap.size 1 _ 28 (0, 0) HU.out.rblk
                      have zf1 := frozen_of_row w11 w.heap.size 1 _ 28 HU.out.rblk
                      have z2 : w11.cell? ⟨w.heap.size, 2, none⟩ = some (.slice none 0 0) := cell_of_row w11 w.heap.size 2 _ 28 (0, 0) HU.out.rblk
                      have zf2 := frozen_of_row w11 w.heap.size 2 _ 28 HU.out.rblk
                      have z3 : w11.cell? ⟨w.heap.size, 3, none⟩ = some (.int .i64 0) := cell_of_row w11 w.heap.size 3 _ 28 (0, 0) HU.out.rblk
                      have zf3 := frozen_of_row w11 w.heap.size 3 _ 28 HU.out.rblk
                      have z4 : w11.cell? ⟨w.heap.size, 4, none⟩ = some (.int .i64 0) := cell_of_row w11 w.heap.size 4 _ 28 (0, 0) HU.out.rblk
                      have zf4 := frozen_of_row w11 w.heap.size 4 _ 28 HU.out.rblk
                      have z5 : w11.cell? ⟨w.heap.size, 5, none⟩ = some (.slice none 0 0) := cell_of_row w11 w.heap.size 5 _ 28 (0, 0) HU.out.rblk
                      have zf5 := frozen_of_row w11 w.heap.size 5 _ 28 HU.out.rblk
                      have z6 : w11.cell? ⟨w.heap.size, 6, none⟩ = some (.slice none 0 0) := cell_of_row w11 w.heap.size 6 _ 28 (0, 0) HU.out.rblk
                      have zf6 := frozen_of_row w11 w.heap.size 6 _ 28 HU.out.rblk
                      have z7 : w11.cell? ⟨w.heap.size, 7, none⟩ = some (.int .i64 0) := cell_of_row w11 w.heap.size 7 _ 28 (0, 0) HU.out.rblk
                      have zf7 := frozen_of_row w11 w.heap.size 7 _ 28 HU.out.rblk
                      have z8 : w11.cell? ⟨w.heap.size, 8, none⟩ = some (.int .i64 0) := cell_of_row w11 w.heap.size 8 _ 28 (0, 0) HU.out.rblk
                      have zf8 := frozen_of_row w11 w.heap.size 8 _ 28 HU.out.rblk
                      have z9 : w11.cell? ⟨w.heap.size, 9, none⟩ = some (.slice none 0 0) := cell_of_row w11 w.heap.size 9 _ 28 (0, 0) HU.out.rblk
                      have zf9 := frozen_of_row w11 w.heap.size 9 _ 28 HU.out.rblk
                      have z10 : w11.cell? ⟨w.heap.size, 10, none⟩ = some (.slice none 0 0) := cell_of_row w11 w.heap.size 10 _ 28 (0, 0) HU.out.rblk
                      have zf10 := frozen_of_row w11 w.heap.size 10 _ 28 HU.out.rblk
                      have z11 : w11.cell? ⟨w.heap.size, 11, none⟩ = some (.int .i64 0) := cell_of_row w11 w.heap.size 11 _ 28 (0, 0) HU.out.rblk
                      have zf11 := frozen_of_row w11 w.heap.size 11 _ 28 HU.out.rblk
                      have z12 : w11.cell? ⟨w.heap.size, 12, none⟩ = some (.int .i64 0) := cell_of_row w11 w.heap.size 12 _ 28 (0, 0) HU.out.rblk
                      have zf12 := frozen_of_row w11 w.heap.size 12 _ 28 HU.out.rblk
                      have z13 : w11.cell? ⟨w.heap.size, 13, none⟩ = some (.slice none 0 0) := cell_of_row w11 w.heap.size 13 _ 28 (0, 0) HU.out.rblk
                      have zf13 := frozen_of_row w11 w.heap.size 13 _ 28 HU.out.rblk
                      have z14 : w11.cell? ⟨w.heap.size, 14, none⟩ = some (.slice none 0 0) := cell_of_row w11 w.heap.size 14 _ 28 (0, 0) HU.out.rblk
                      have zf14 := frozen_of_row w11 w.heap.size 14 _ 28 HU.out.rblk
                      have v0 : w11.cell? ⟨sb, 0, none⟩ = some (.int .i64 0) := cell_of_row w11 sb 0 _ 43 (0, 0) HU.out.sblk
                      have vf0 := frozen_of_row w11 sb 0 _ 43 HU.out.sblk
                      have v1 : w11.cell? ⟨sb, 1, none⟩ = some (.int .i64 0) := cell_of_row w11 sb 1 _ 43 (0, 0) HU.out.sblk
                      have vf1 := frozen_of_row w11 sb 1 _ 43 HU.out.sblk
                      have hn1 : ¬ w.heap.size = sb := by have := HU.out.rsb; omega
                      have hn2 : ¬ sb = w.heap.size := by have := HU.out.rsb; omega
                      have hn3 : ¬ w.heap.size = r := by have := HU.out.rsb; have := HU.out.sr; omega
                      have hn4 : ¬ r = w.heap.size := by have := HU.out.rsb; have := HU.out.sr; omega
                      have hn5 : ¬ sb = r := by have := HU.out.sr; omega
                      have hn6 : ¬ r = sb := by have := HU.out.sr; omega
                      go_region
                      go_wp2_with fail
                      obtain ⟨F1, F2, F3, _⟩ := fin_facts (a0 := .int .i64 0) (a1 := .int .i64 0) (a2 := .slice none 0 0) (a3 := .int .i64 0) (a4 := .int .i64 0) (a5 := .slice none 0 0) (a6 := .slice none 0 0) (a7 := .int .i64 0) (a8 := .int .i64 0) (a9 := .slice none 0 0) (a10 := .slice none 0 0) (a11 := .int .i64 0) (a12 := .int .i64 0) (a13 := .slice none 0 0) (a14 := .slice none 0 0) (e0 := .int .i64 170) (e1 := .int .i64 (q2 : Nat)) HU.out.bel HU.out.rge HU.out.rsb HU.out.rblk HU.out.sblk
                      unfold finW set15 at F1 F2 F3
                      have F4 := F1.drew
                      generalize ((((((((((((((((w11.setCell ⟨w.heap.size, 0, none⟩ (.int .i64 0)).setCell ⟨w.heap.size, 1, none⟩ (.int .i64 0)).setCell ⟨w.heap.size, 2, none⟩ (.slice none 0 0)).setCell ⟨w.heap.size, 3, none⟩ (.int .i64 0)).setCell ⟨w.heap.size, 4, none⟩ (.int .i64 0)).setCell ⟨w.heap.size, 5, none⟩ (.slice none 0 0)).setCell ⟨w.heap.size, 6, none⟩ (.slice none 0 0)).setCell ⟨w.heap.size, 7, none⟩ (.int .i64 0)).setCell ⟨w.heap.size, 8, none⟩ (.int .i64 0)).setCell ⟨w.heap.size, 9, none⟩ (.slice none 0 0)).setCell ⟨w.heap.size, 10, none⟩ (.slice none 0 0)).setCell ⟨w.heap.size, 11, none⟩ (.int .i64 0)).setCell ⟨w.heap.size, 12, none⟩ (.int .i64 0)).setCell ⟨w.heap.size, 13, none⟩ (.slice none 0 0)).setCell ⟨w.heap.size, 14, none⟩ (.slice none 0 0)).setCell ⟨sb, 0, none⟩ (.int .i64 170)).setCell ⟨sb, 1, none⟩ (.int .i64 (q2 : Nat)) = WF at *
                      refine bodyPost_ret (dec_ret (W := WF.drew) (rb := w.heap.size) (sb := sb) F2 F3 rfl rfl) rfl ?_
                      refine ⟨F4, ?_⟩
                      rw [HDE.out]
                      rfl
                    · have HDE : Hid (dec bs = .ok u) := Lib.hid (dec_good HOA.out (by rw [HLEN.out]; omega))
                      have y0 : w11.cell? ⟨ub, 0, none⟩ = some (.int .i64 u.k1) := HU.out.cell 0
                      have z0 : w11.cell? ⟨w.heap.size, 0, none⟩ = some (.int .i64 0) := cell_of_row w11 w.heap.size 0 _ 28 (0, 0) HU.out.rblk
                      have zf0 := frozen_of_row w11 w.heap.size 0 _ 28 HU.out.rblk
                      have y1 : w11.cell? ⟨ub, 1, none⟩ = some (.int .i64 u.k2) := HU.out.cell 1
                      have z1 : w11.cell? ⟨w.heap.size, 1, none⟩ = some (.int .i64 0) := cell_of_row w11 w.heap.size 1 _ 28 (0, 0) HU.out.rblk
                      have zf1 := frozen_of_row w11 w.heap.size 1 _ 28 HU.out.rblk
                      have y2 : w11.cell? ⟨ub, 2, none⟩ = some (.slice L.P u.pts.length L.c) := HU.out.cell 2
                      have z2 : w11.cell? ⟨w.heap.size, 2, none⟩ = some (.slice none 0 0) := cell_of_row w11 w.heap.size 2 _ 28 (0, 0) HU.out.rblk
                      have zf2 := frozen_of_row w11 w.heap.size 2 _ 28 HU.out.rblk
                      have y3 : w11.cell? ⟨ub, 3, none⟩ = some (.int .i64 u.left.ins) := HU.out.cell 3
                      have z3 : w11.cell? ⟨w.heap.size, 3, none⟩ = some (.int .i64 0) := cell_of_row w11 w.heap.size 3 _ 28 (0, 0) HU.out.rblk
                      have zf3 := frozen_of_row w11 w.heap.size 3 _ 28 HU.out.rblk
                      have y4 : w11.cell? ⟨ub, 4, none⟩ = some (.int .i64 u.left.regs) := HU.out.cell 4
                      have z4 : w11.cell? ⟨w.heap.size, 4, none⟩ = some (.int .i64 0) := cell_of_row w11 w.heap.size 4 _ 28 (0, 0) HU.out.rblk
                      have zf4 := frozen_of_row w11 w.heap.size 4 _ 28 HU.out.rblk
                      have y5 : w11.cell? ⟨ub, 5, none⟩ = some (.slice L.l.A u.left.code.length L.l.c) := HU.out.cell 5
                      have z5 : w11.cell? ⟨w.heap.size, 5, none⟩ = some (.slice none 0 0) := cell_of_row w11 w.heap.size 5 _ 28 (0, 0) HU.out.rblk
                      have zf5 := frozen_of_row w11 w.heap.size 5 _ 28 HU.out.rblk
                      have y6 : w11.cell? ⟨ub, 6, none⟩ = some (.slice L.l.B u.left.outs.length L.l.d) := HU.out.cell 6
                      have z6 : w11.cell? ⟨w.heap.size, 6, none⟩ = some (.slice none 0 0) := cell_of_row w11 w.heap.size 6 _ 28 (0, 0) HU.out.rblk
                      have zf6 := frozen_of_row w11 w.heap.size 6 _ 28 HU.out.rblk
                      have y7 : w11.cell? ⟨ub, 7, none⟩ = some (.int .i64 u.right.ins) := HU.out.cell 7
                      have z7 : w11.cell? ⟨w.heap.size, 7, none⟩ = some (.int .i64 0) := cell_of_row w11 w.heap.size 7 _ 28 (0, 0) HU.out.rblk
                      have zf7 := frozen_of_row w11 w.heap.size 7 _ 28 HU.out.rblk
                      have y8 : w11.cell? ⟨ub, 8, none⟩ = some (.int .i64 u.right.regs) := HU.out.cell 8
                      have z8 : w11.cell? ⟨w.heap.size, 8, none⟩ = some (.int .i64 0) := cell_of_row w11 w.heap.size 8 _ 28 (0, 0) HU.out.rblk
                      have zf8 := frozen_of_row w11 w.heap.size 8 _ 28 HU.out.rblk
                      have y9 : w11.cell? ⟨ub, 9, none⟩ = some (.slice L.r.A u.right.code.length L.r.c) := HU.out.cell 9
                      have z9 : w11.cell? ⟨w.heap.size, 9, none⟩ = some (.slice none 0 0) := cell_of_row w11 w.heap.size 9 _ 28 (0, 0) HU.out.rblk
                      have zf9 := frozen_of_row w11 w.heap.size 9 _ 28 HU.out.rblk
                      have y10 : w11.cell? ⟨ub, 10, none⟩ = some (.slice L.r.B u.right.outs.length L.r.d) := HU.out.cell 10
                      have z10 : w11.cell? ⟨w.heap.size, 10, none⟩ = some (.slice none 0 0) := cell_of_row w11 w.heap.size 10 _ 28 (0, 0) HU.out.rblk
                      have zf10 := frozen_of_row w11 w.heap.size 10 _ 28 HU.out.rblk
                      have y11 : w11.cell? ⟨ub, 11, none⟩ = some (.int .i64 u.back.ins) := HU.out.cell 11
                      have z11 : w11.cell? ⟨w.heap.size, 11, none⟩ = some (.int .i64 0) := cell_of_row w11 w.heap.size 11 _ 28 (0, 0) HU.out.rblk
                      have zf11 := frozen_of_row w11 w.heap.size 11 _ 28 HU.out.rblk
                      have y12 : w11.cell? ⟨ub, 12, none⟩ = some (.int .i64 u.back.regs) := HU.out.cell 12
                      have z12 : w11.cell? ⟨w.heap.size, 12, none⟩ = some (.int .i64 0) := cell_of_row w11 w.heap.size 12 _ 28 (0, 0) HU.out.rblk
                      have zf12 := frozen_of_row w11 w.heap.size 12 _ 28 HU.out.rblk
                      have y13 : w11.cell? ⟨ub, 13, none⟩ = some (.slice L.b.A u.back.code.length L.b.c) := HU.out.cell 13
                      have z13 : w11.cell? ⟨w.heap.size, 13, none⟩ = some (.slice none 0 0) := cell_of_row w11 w.heap.size 13 _ 28 (0, 0) HU.out.rblk
                      have zf13 := frozen_of_row w11 w.heap.size 13 _ 28 HU.out.rblk
                      have y14 : w11.cell? ⟨ub, 14, none⟩ = some (.slice L.b.B u.back.outs.length L.b.d) := HU.out.cell 14
                      have z14 : w11.cell? ⟨w.heap.size, 14, none⟩ = some (.slice none 0 0) := cell_of_row w11 w.heap.size 14 _ 28 (0, 0) HU.out.rblk
                      have zf14 := frozen_of_row w11 w.heap.size 14 _ 28 HU.out.rblk
                      have v0 : w11.cell? ⟨sb, 0, none⟩ = some (.int .i64 0) := cell_of_row w11 sb 0 _ 43 (0, 0) HU.out.sblk
                      have vf0 := frozen_of_row w11 sb 0 _ 43 HU.out.sblk
                      have v1 : w11.cell? ⟨sb, 1, none⟩ = some (.int .i64 0) := cell_of_row w11 sb 1 _ 43 (0, 0) HU.out.sblk
                      have vf1 := frozen_of_row w11 sb 1 _ 43 HU.out.sblk
                      have hn1 : ¬ w.heap.size = sb := by have := HU.out.rsb; omega
                      have hn2 : ¬ sb = w.heap.size := by have := HU.out.rsb; omega
                      obtain ⟨F1, F2, F3, F4⟩ := fin_facts (a0 := .int .i64 u.k1) (a1 := .int .i64 u.k2) (a2 := .slice L.P u.pts.length L.c) (a3 := .int .i64 u.left.ins) (a4 := .int .i64 u.left.regs) (a5 := .slice L.l.A u.left.code.length L.l.c) (a6 := .slice L.l.B u.left.outs.length L.l.d) (a7 := .int .i64 u.right.ins) (a8 := .int .i64 u.right.regs) (a9 := .slice L.r.A u.right.code.length L.r.c) (a10 := .slice L.r.B u.right.outs.length L.r.d) (a11 := .int .i64 u.back.ins) (a12 := .int .i64 u.back.regs) (a13 := .slice L.b.A u.back.code.length L.b.c) (a14 := .slice L.b.B u.back.outs.length L.b.d) (e0 := .int .i64 0) (e1 := .int .i64 0) HU.out.bel HU.out.rge HU.out.rsb HU.out.rblk HU.out.sblk
                      unfold finW set15 at F1 F2 F3 F4
                      have HF1 := Lib.hid F1
                      have HF2 := Lib.hid F2
                      have HF3 := Lib.hid F3
                      have HF4 := Lib.hid F4
                      clear F1 F2 F3 F4
                      go_wp2_with fail
                      generalize ((((((((((((((((w11.setCell ⟨w.heap.size, 0, none⟩ (.int .i64 u.k1)).setCell ⟨w.heap.size, 1, none⟩ (.int .i64 u.k2)).setCell ⟨w.heap.size, 2, none⟩ (.slice L.P u.pts.length L.c)).setCell ⟨w.heap.size, 3, none⟩ (.int .i64 u.left.ins)).setCell ⟨w.heap.size, 4, none⟩ (.int .i64 u.left.regs)).setCell ⟨w.heap.size, 5, none⟩ (.slice L.l.A u.left.code.length L.l.c)).setCell ⟨w.heap.size, 6, none⟩ (.slice L.l.B u.left.outs.length L.l.d)).setCell ⟨w.heap.size, 7, none⟩ (.int .i64 u.right.ins)).setCell ⟨w.heap.size, 8, none⟩ (.int .i64 u.right.regs)).setCell ⟨w.heap.size, 9, none⟩ (.slice L.r.A u.right.code.length L.r.c)).setCell ⟨w.heap.size, 10, none⟩ (.slice L.r.B u.right.outs.length L.r.d)).setCell ⟨w.heap.size, 11, none⟩ (.int .i64 u.back.ins)).setCell ⟨w.heap.size, 12, none⟩ (.int .i64 u.back.regs)).setCell ⟨w.heap.size, 13, none⟩ (.slice L.b.A u.back.code.length L.b.c)).setCell ⟨w.heap.size, 14, none⟩ (.slice L.b.B u.back.outs.length L.b.d)).setCell ⟨sb, 0, none⟩ (.int .i64 0)).setCell ⟨sb, 1, none⟩ (.int .i64 0) = WF at *
                      refine bodyPost_ret (dec_ret (W := WF) (rb := w.heap.size) (sb := sb) HF2.out HF3.out rfl rfl) rfl ?_
                      refine ⟨HF1.out, ?_⟩
                      rw [HDE.out]
                      exact ⟨L, rfl, (HU.out.own.congr fun g h1 _ _ => HF4.out g (by have := HU.out.rsb; have := HU.out.sr; omega) (by have := HU.out.sr; omega)).in⟩
end Go.Proofs.Ytcelcognmdcenaa

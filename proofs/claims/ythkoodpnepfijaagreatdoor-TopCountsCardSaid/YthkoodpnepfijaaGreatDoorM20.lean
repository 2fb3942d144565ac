/-
  Steps towards TopCounts (no conditions of their own): WALKS: dead: nothing, needed. WALKS: dead: Pass. CONSTANTS, PLAINLY: an instruction's plain form; two instructions melted into one.
-/
import Derived.Test.YthkoodpnepfijaaGreatDoorM08
import Derived.Test.YthkoodpnepfijaaGreatDoorM19
/- XN: WALKS: dead: nothing, needed. -/
namespace Go.Proofs.YthkoodpnepfijaaGreatDoor
open Go.RowKit
set_option linter.unusedVariables false
set_option linter.unusedSimpArgs false
set_option maxRecDepth 100000
set_option maxHeartbeats 1000000
theorem c_fr {n : Nat} {ro : Option Nat} {c : Code} {Q : Exit → St → Prop} {x : Fr} {b : Nat → Value} {ds : List Deferred} {own : List Ch} {F : Fz} (y : Fr) (hf : fits x y) (h : ∀ b, C n ro c Q ⟨y, b, ds, own, F⟩) : C n ro c Q ⟨x, b, ds, own, F⟩ := c_frame (s := ⟨x, b, ds, own, F⟩) y hf h
theorem rowM_ice {α : Type} {F : Fz} {r m c : Nat} {f : α → Value} {z0 : α} {l : List α} (hl : l.length = m) (hc : m ≤ c) : RowM (F.add (.c r (l.map f))) (.slice (some ⟨r, 0, none⟩) m c) f z0 l := by
  subst hl
  have := row_ice' (F := F) (r := r) (vs := l.map f) (c := c) (by rw [List.length_map]; exact hc)
  rwa [List.length_map] at this
theorem nothing91 {F : Fz} (i : Ins) : Ps 91 [.agg (vIn i).toArray] F fun u => u = .bool (decide i.idle) := fun own => by
  refine n_fun Tryz.func91 Tryz.ntmps91 rfl rfl rfl ?_
  by_cases h1 : i.op = 1
  · refine go ?_
    intro r
    refine go ?_
    exact b_ret rfl (.cons (.tmp rfl) .nil) Turn.drop ⟨rfl, rfl, by simp [tupV, Ins.idle, h1]⟩
  · refine go ?_
    intro r
    refine go ?_
    exact b_ret rfl (.cons (.tmp rfl) .nil) Turn.drop ⟨rfl, rfl, by simp [tupV, Ins.idle, h1]⟩
theorem asks_eq {i : Ins} {regs : Int} (h : i.ok regs) : asks i = i.asks := by
  have h1 := h.op1
  have h2 := h.op8
  by_cases h3 : i.op = 3 ∨ i.op = 4 <;> simp [asks, Ins.asks, twoOp, h3, h1, h2]
theorem mark_snoc {A : List Bool} {l : List Int} {j : Nat} (h : j < l.length) : mark A (l.take (j + 1)) = (mark A (l.take j)).set (l.getD j 0).toNat true := by
  unfold mark
  rw [List.take_add_one, List.getElem?_eq_getElem h, Option.toList_some, List.foldl_append, List.getD_eq_getElem?_getD, List.getElem?_eq_getElem h]; rfl
theorem vb_set (A : List Bool) (k : Nat) (v : Bool) : (A.map vb).set k (.bool v) = (A.set k v).map vb := by rw [List.map_set]; rfl
/-- The instructions that were gone over, from behind. -/
theorem liv_back {c : List Ins} {i : Nat} (h : i < c.length) (A : List Bool) : c.drop (c.length - 1 - i) = c.getD (c.length - 1 - i) z0I :: c.drop (c.length - i) := by
  have : c.length - 1 - i < c.length := by omega
  rw [List.drop_eq_getElem_cons this, List.getD_eq_getElem?_getD, List.getElem?_eq_getElem this, show c.length - 1 - i + 1 = c.length - i by omega]; rfl
/-- What is told of the instructions, as far as gone over from behind. -/
def outB (c : List Ins) (A : List Bool) (i : Nat) : List Bool := List.replicate (c.length - i) false ++ (liv (c.drop (c.length - i)) A).2
theorem outB_len (c : List Ins) (A : List Bool) {i : Nat} (h : i ≤ c.length) : (outB c A i).length = c.length := by
  unfold outB
  rw [List.length_append, List.length_replicate, (liv_len _ _).2, List.length_drop]; omega
def livA (c : List Ins) (A : List Bool) (i : Nat) : List Bool := (liv (c.drop (c.length - i)) A).1
theorem livA_len (c : List Ins) (A : List Bool) (i : Nat) : (livA c A i).length = A.length := (liv_len _ _).1
theorem livA_no {c : List Ins} {A : List Bool} {i : Nat} (h : i < c.length) (hn : at_ (livA c A i) (c.getD (c.length - 1 - i) z0I).to = false) : livA c A (i + 1) = livA c A i ∧ outB c A (i + 1) = outB c A i := by
  unfold livA outB at *
  rw [show c.length - (i + 1) = c.length - 1 - i by omega, liv_back h A, liv_cons, hn]
  refine ⟨rfl, ?_⟩
  rw [show c.length - i = (c.length - 1 - i) + 1 by omega, List.replicate_succ']
  simp
theorem livA_yes {c : List Ins} {A : List Bool} {i : Nat} (h : i < c.length) (hn : at_ (livA c A i) (c.getD (c.length - 1 - i) z0I).to = true) : livA c A (i + 1) = mark ((livA c A i).set (c.getD (c.length - 1 - i) z0I).to.toNat false) (c.getD (c.length - 1 - i) z0I).asks ∧ outB c A (i + 1) = (outB c A i).set (c.length - 1 - i) true := by
  unfold livA outB at *
  rw [show c.length - (i + 1) = c.length - 1 - i by omega, liv_back h A, liv_cons, if_pos hn]
  refine ⟨rfl, ?_⟩
  rw [show c.length - i = (c.length - 1 - i) + 1 by omega, List.replicate_succ']
  simp
theorem needed90 {F : Fz} {p : Prg} {cv ov : Value} (hP : PrR F cv ov p) (hok : p.ok) : Pu 90 [vPr p cv ov] F fun v F' => RowM F' v vb false (liv p.code (live0 p)).2 := fun own => by
  obtain ⟨A1, c1, e1⟩ := hP.code.dest
  obtain ⟨A2, c2, e2⟩ := hP.outs.dest
  subst e1 e2
  have hO := hP.outs
  have hC := hP.code
  have o1 := hok.ins1
  have o2 := hok.insr
  have o3 := hok.regs
  have o4 := hok.len
  have o6 := hok.outn
  refine n_funD Tryz.func90 Tryz.ntmps90 rfl rfl rfl ?_
  refine go ?_
  intro r1
  refine c_scope (fun _ _ h => h) ?_
  refine go ?_
  refine o_make p.regs.toNat rfl (by omega) (by omega) (by omega) (fun rA => ?_)
  rw [rep_one, show List.replicate p.regs.toNat (Value.bool false) = (mark (List.replicate p.regs.toNat false) (p.outs.take 0)).map vb by simp [mark, vb]]
  refine go ?_
  intro r3
  refine go ?_
  refine c_loopT (fun m X o G => ∃ j : Nat, m = p.outs.length - j ∧ X = [(1, .pointer (some ⟨r1, 0, none⟩)), (3, .pointer (some ⟨r3, 0, none⟩)), (15, .slice A2 p.outs.length c2), (16, .int .i64 (p.outs.length : Nat)), (17, .int .i64 (j : Nat))] ∧ .c r3 [.slice (some ⟨rA, 0, none⟩) p.regs.toNat p.regs.toNat] :: .c rA ((mark (List.replicate p.regs.toNat false) (p.outs.take j)).map vb) :: .c r1 [.int .i64 p.ins, .int .i64 p.regs, .slice A1 p.code.length c1, .slice A2 p.outs.length c2] :: own = o ∧ F = G ∧ j ≤ p.outs.length)
    ⟨_, _, _, _, ⟨0, rfl, rfl, rfl, rfl, by omega⟩, ⟨rfl, rfl, rfl, rfl, rfl, trivial⟩, Turn.refl _ _⟩ ?_
  rintro _ _ _ _ b ⟨j, rfl, rfl, rfl, rfl, hj⟩
  by_cases hjl : j < p.outs.length
  · have hr := hok.outs _ (getD_mem (z := 0) hjl)
    have hml := mark_len (List.replicate p.regs.toNat false) (p.outs.take j)
    rw [List.length_replicate] at hml
    have hsn := mark_snoc (A := List.replicate p.regs.toNat false) hjl
    generalize mark (List.replicate p.regs.toNat false) (p.outs.take j) = M at *
    generalize hq : p.outs.getD j 0 = q at *
    obtain ⟨hr0, hr1⟩ := hr
    obtain ⟨n, rfl⟩ : ∃ n : Nat, q = n := ⟨q.toNat, by omega⟩
    rw [Int.toNat_natCast] at hsn
    refine go ?_
    refine o_val (.int .i64 (n : Nat)) (congrArg vi hq) ?_
    refine go ?_
    exact ⟨_, _, _, _, ⟨j + 1, rfl, rfl, rfl, rfl, by omega⟩, ⟨rfl, rfl, rfl, rfl, eqI (by omega), trivial⟩, by rw [hsn, ← vb_set M n true]; exact Turn.refl _ _, rfl, by omega⟩
  · obtain rfl : j = p.outs.length := by omega
    rw [List.take_length]
    rw [show mark (List.replicate p.regs.toNat false) p.outs = live0 p from rfl]
    refine go ?_
    refine o_make p.code.length rfl rfl (by omega) (by omega) (fun rO => ?_)
    rw [rep_one, show List.replicate p.code.length (Value.bool false) = (outB p.code (live0 p) 0).map vb by simp [outB, vb, liv], show (live0 p).map vb = (livA p.code (live0 p) 0).map vb by simp [livA, liv]]
    refine go ?_
    intro r6
    refine go ?_
    refine o_pu rfl (back130 (p := p) (A1 := A1) (A2 := A2) (c1 := c1) (c2 := c2) (m1 := p.code.length) (m2 := p.outs.length)) (fun v F1 hF1 ⟨A, e, hA⟩ => ?_)
    subst e
    have hC1 := hC.le hF1
    refine go ?_
    have hl0 := live0_len p
    generalize hA0 : live0 p = A0 at *
    refine c_rangeA (ps := [31, 32]) (capt := [.pointer (some A)]) (xs := bwd p.code)
      (fun vs r => (8, .pointer (some ⟨r, 0, none⟩)) :: (7, vs.headD undef) :: (32, (vs.tail).headD undef) :: (31, vs.headD undef) :: [(3, .pointer (some ⟨r3, 0, none⟩)), (6, .pointer (some ⟨r6, 0, none⟩))])
      (fun vs r => [.c r (match (vs.tail).headD undef with | .agg us => us.toList | _ => [])])
      (fun i o G' => o = .c r6 [.slice (some ⟨rO, 0, none⟩) p.code.length p.code.length] :: .c rO ((outB p.code A0 i).map vb) :: .c r3 [.slice (some ⟨rA, 0, none⟩) p.regs.toNat p.regs.toNat] :: .c rA ((livA p.code A0 i).map vb) :: .c r1 [.int .i64 p.ins, .int .i64 p.regs, .slice A1 p.code.length c1, .slice A2 p.outs.length c2] :: own ∧ Fle F1 G') (fun i o G1 G2 ⟨e, h⟩ hl => ⟨e, h.trans hl⟩)
      rfl (back155 hA (hP.le hF1) hok) (fun vs hvs => by obtain ⟨z, _, rfl⟩ := List.mem_map.1 hvs; rfl) ⟨rfl, Fle.refl _⟩ ?_ ?_ ?_
    · intro vs hvs l o G'
      obtain ⟨z, _, rfl⟩ := List.mem_map.1 hvs
      refine c_frame [(32, .agg (vIn (p.code.getD (p.code.length - 1 - z) z0I)).toArray), (31, .int .i64 ((p.code.length - 1 - z : Nat) : Int)), (3, .pointer (some ⟨r3, 0, none⟩)), (6, .pointer (some ⟨r6, 0, none⟩))] ⟨rfl, rfl, rfl, rfl, trivial⟩ fun b => ?_
      refine go ?_
      intro r8
      refine go ?_
      exact ⟨rfl, _, r8, rfl⟩
    · rintro i vs hvs l b r8 _ G' tail ⟨rfl, hF'⟩ hG'
      have hi : i < p.code.length := by have := (List.getElem?_eq_some_iff.1 hvs).1; rwa [bwd_len] at this
      rw [bwd_get hi] at hvs
      cases hvs
      have hno := livA_no (A := A0) hi
      have hyes := livA_yes (A := A0) hi
      have hlA := livA_len p.code A0 i
      have hlO := outB_len p.code A0 (Nat.le_of_lt hi)
      have hik := hok.code _ (getD_mem (z := z0I) (show p.code.length - 1 - i < p.code.length by omega))
      generalize hk : p.code.length - 1 - i = k at *
      generalize hI : p.code.getD k z0I = I at *
      generalize hLA : livA p.code A0 i = LA at *
      generalize hLO : outB p.code A0 i = LO at *
      have i0 := hik.to0
      have i1 := hik.to1
      obtain ⟨t, ht⟩ : ∃ t : Nat, I.to = t := ⟨I.to.toNat, by omega⟩
      refine c_fr [(8, .pointer (some ⟨r8, 0, none⟩)), (7, .int .i64 (k : Nat)), (3, .pointer (some ⟨r3, 0, none⟩)), (6, .pointer (some ⟨r6, 0, none⟩))] ⟨rfl, rfl, rfl, rfl, trivial⟩ fun b => ?_
      refine c_owneq (own' := .c r8 (vIn I) :: .c r6 [.slice (some ⟨rO, 0, none⟩) p.code.length p.code.length] :: .c rO (LO.map vb) :: .c r3 [.slice (some ⟨rA, 0, none⟩) p.regs.toNat p.regs.toNat] :: .c rA (LA.map vb) :: .c r1 [.int .i64 p.ins, .int .i64 p.regs, .slice A1 p.code.length c1, .slice A2 p.outs.length c2] :: (own ++ tail)) rfl ?_
      have hat : at_ LA I.to = LA.getD t false := by unfold at_; rw [ht]; rfl
      rw [hat] at hno hyes
      refine go ?_
      refine o_val (.int .i64 (t : Nat)) (congrArg vi ht) ?_
      refine go ?_
      cases hb : LA.getD t false
      · refine go ?_
        refine ⟨rfl, _, _, ?_, ⟨rfl, hF'⟩, Fle.refl _⟩
        rw [(hno hb).1, (hno hb).2]
        exact Turn.drop
      · obtain ⟨y1, y2⟩ := hyes hb
        rw [ht] at y1
        rw [Int.toNat_natCast] at y1
        refine go ?_
        refine o_val (.int .i64 (t : Nat)) (congrArg vi ht) ?_
        refine go ?_
        rw [vb_set, vb_set]
        refine o_pu rfl (asks83 I) (fun v F2 hF2 hv => ?_) sl
        rw [asks_eq hik] at hv
        obtain ⟨Av, cv, ev⟩ := hv.dest
        subst ev
        have hal : I.asks.length ≤ 2 := by unfold Ins.asks; split <;> simp
        refine go ?_
        refine c_loopT (fun m X o G => ∃ j : Nat, m = I.asks.length - j ∧ X = [(3, .pointer (some ⟨r3, 0, none⟩)), (47, .slice Av I.asks.length cv), (48, .int .i64 (I.asks.length : Nat)), (49, .int .i64 (j : Nat))] ∧ .c r8 (vIn I) :: .c r6 [.slice (some ⟨rO, 0, none⟩) p.code.length p.code.length] :: .c rO ((LO.set k true).map vb) :: .c r3 [.slice (some ⟨rA, 0, none⟩) p.regs.toNat p.regs.toNat] :: .c rA ((mark (LA.set t false) (I.asks.take j)).map vb) :: .c r1 [.int .i64 p.ins, .int .i64 p.regs, .slice A1 p.code.length c1, .slice A2 p.outs.length c2] :: (own ++ tail) = o ∧ F2 = G ∧ j ≤ I.asks.length)
          ⟨_, _, _, _, ⟨0, rfl, rfl, rfl, rfl, by omega⟩, ⟨rfl, rfl, rfl, rfl, trivial⟩, Turn.refl _ _⟩ ?_
        rintro _ _ _ _ b ⟨j, rfl, rfl, rfl, rfl, hj⟩
        by_cases hjl : j < I.asks.length
        · have hr := hik.asks _ (getD_mem (z := 0) hjl)
          have hml := mark_len (LA.set t false) (I.asks.take j)
          rw [List.length_set] at hml
          have hsn := mark_snoc (A := LA.set t false) hjl
          generalize mark (LA.set t false) (I.asks.take j) = M at *
          generalize hq : I.asks.getD j 0 = q at *
          obtain ⟨hr0, hr1⟩ := hr
          obtain ⟨n, rfl⟩ : ∃ n : Nat, q = n := ⟨q.toNat, by omega⟩
          rw [Int.toNat_natCast] at hsn
          refine go ?_
          refine o_val (.int .i64 (n : Nat)) (congrArg vi hq) ?_
          refine go ?_
          exact ⟨_, _, _, _, ⟨j + 1, rfl, rfl, rfl, rfl, by omega⟩, ⟨rfl, rfl, rfl, eqI (by omega), trivial⟩, by rw [hsn, ← vb_set M n true]; exact Turn.refl _ _, rfl, by omega⟩
        · obtain rfl : j = I.asks.length := by omega
          rw [List.take_length, ← y1, ← y2]
          refine go ?_
          exact ⟨rfl, _, _, Turn.drop, ⟨rfl, hF'.trans hF2⟩, hF2⟩
    · rintro D _ G' ⟨rfl, hF'⟩ hG'
      rw [bwd_len]
      refine go ?_
      refine ⟨D, _, rfl, rfl, _, _, _, .cons (.tmp rfl) .nil, Turn.drop.trans (Turn.ice.trans (Turn.skip (Turn.skip Turn.drop))), rfl, (hF1.trans hF').trans (Fz.add_le _ _), ?_⟩
      have h0 : outB p.code A0 p.code.length = (liv p.code A0).2 := by unfold outB; rw [Nat.sub_self]; rfl
      rw [h0]
      exact rowM_ice (liv_len _ _).2 (Nat.le_refl _)
end Go.Proofs.YthkoodpnepfijaaGreatDoor
/- XO: WALKS: dead: Pass. -/
namespace Go.Proofs.YthkoodpnepfijaaGreatDoor
open Go.RowKit
set_option linter.unusedVariables false
set_option linter.unusedSimpArgs false
set_option maxRecDepth 100000
set_option maxHeartbeats 1000000
theorem kept_snoc : ∀ {c : List Ins} {bs : List Bool} {j : Nat}, j < c.length → c.length = bs.length → keptI (c.take (j + 1)) (bs.take (j + 1)) = keptI (c.take j) (bs.take j) ++ (if bs.getD j false = true ∧ ¬ (c.getD j z0I).idle then [c.getD j z0I] else [])
  | [], bs, j, h, _ => absurd h (by simp)
  | i :: c, [], j, _, h => by simp at h
  | i :: c, b :: bs, 0, _, _ => by
    simp only [List.take_succ_cons, List.take_zero, List.getD_cons_zero, keptI]
    split <;> simp [keptI]
  | i :: c, b :: bs, j + 1, h, hl => by
    have ih := kept_snoc (c := c) (bs := bs) (j := j) (by simpa using h) (by simpa using hl)
    rw [List.take_succ_cons, List.take_succ_cons, keptI, ih, List.take_succ_cons, List.take_succ_cons, keptI, List.getD_cons_succ, List.getD_cons_succ]
    split <;> simp
theorem dead53 {F : Fz} {p : Prg} {cv ov : Value} (hP : PrR F cv ov p) (hok : p.ok) : Pu 53 [vPr p cv ov] F fun u F' => ∃ cv' ov', u = .tuple #[vPr (deadP p) cv' ov', .int .i64 0] ∧ PrR F' cv' ov' (deadP p) := fun own => by
  obtain ⟨A1, c1, e1⟩ := hP.code.dest
  obtain ⟨A2, c2, e2⟩ := hP.outs.dest
  subst e1 e2
  have o4 := hok.len
  have o6 := hok.outn
  have hnl := (liv_len p.code (live0 p)).2
  refine n_fun Tryz.func53 Tryz.ntmps53 rfl rfl rfl ?_
  refine go ?_
  intro r1 r2
  refine go ?_
  refine o_pu rfl (check28 hP hok) (fun v F1 hF1 e => ?_) sl
  subst e
  refine go ?_
  refine o_pu rfl (needed90 (hP.le hF1) hok) (fun v F2 hF2 hv => ?_) sl
  obtain ⟨An, cn, en⟩ := hv.dest
  subst en
  rw [hnl] at hv ⊢
  generalize hN : (liv p.code (live0 p)).2 = N at *
  have hP2 := (hP.le hF1).le hF2
  have hC := hP2.code
  have hO := hP2.outs
  refine go ?_
  refine c_loopT (fun m X o G => ∃ (j : Nat) (cv : Value) (cd : List Ins), m = p.code.length - j ∧ X = [(1, .pointer (some ⟨r1, 0, none⟩)), (2, .pointer (some ⟨r2, 0, none⟩)), (6, cv), (19, .slice An p.code.length cn), (20, .int .i64 (p.code.length : Nat)), (21, .int .i64 (j : Nat))] ∧ coC cv cd :: .c r2 [.int .i64 0, .int .i64 0, .slice none 0 0, .slice none 0 0] :: .c r1 [.int .i64 p.ins, .int .i64 p.regs, .slice A1 p.code.length c1, .slice A2 p.outs.length c2] :: own = o ∧ Fle F2 G ∧ j ≤ p.code.length ∧ cd = keptI (p.code.take j) (N.take j) ∧ cd.length ≤ j)
    ⟨_, _, _, _, ⟨0, .slice none 0 0, [], rfl, rfl, rfl, Fle.refl _, by omega, rfl, Nat.le_refl _⟩, ⟨rfl, rfl, rfl, rfl, rfl, rfl, trivial⟩, Turn.nil 119 5⟩ ?_
  rintro _ _ _ G b ⟨j, cv, cd, rfl, rfl, rfl, hG, hj, hcd, hcl⟩
  have hC' := RowS.le hC hG
  have hv' := RowM.le hv hG
  by_cases hjl : j < p.code.length
  · have hsn := kept_snoc (c := p.code) (bs := N) hjl hnl.symm
    rw [← hcd] at hsn
    cases hb : N.getD j false
    · rw [hb] at hsn
      rw [if_neg (by simp), List.append_nil] at hsn
      refine go ?_
      exact ⟨_, _, _, _, ⟨j + 1, cv, cd, rfl, rfl, rfl, hG, by omega, hsn.symm, by omega⟩, ⟨rfl, rfl, rfl, rfl, rfl, eqI (by omega), trivial⟩, Turn.refl _ _, rfl, by omega⟩
    · rw [hb] at hsn
      refine go ?_
      refine o_ps rfl (nothing91 (p.code.getD j z0I)) (fun u e => ?_) sl
      subst e
      by_cases hid : (p.code.getD j z0I).idle
      · rw [if_neg (fun h => h.2 hid), List.append_nil] at hsn
        rw [decide_eq_true hid]
        refine go ?_
        exact ⟨_, _, _, _, ⟨j + 1, cv, cd, rfl, rfl, rfl, hG, by omega, hsn.symm, by omega⟩, ⟨rfl, rfl, rfl, rfl, rfl, eqI (by omega), trivial⟩, Turn.refl _ _, rfl, by omega⟩
      · rw [if_pos ⟨rfl, hid⟩] at hsn
        rw [decide_eq_false hid]
        refine go ?_
        refine o_lit rfl rfl rfl rfl rfl (fun r3 => ?_)
        refine o_app1 0 rfl rfl rfl rfl rfl rfl rfl (by omega) (by omega) (fun _ => rfl) (fun A' c' => ?_)
        refine go ?_
        exact ⟨_, _, _, _, ⟨j + 1, .slice A' (cd.length + 1) c', cd ++ [p.code.getD j z0I], rfl, rfl, rfl, hG, by omega, hsn.symm, by simp; omega⟩, ⟨rfl, rfl, rfl, rfl, rfl, eqI (by omega), trivial⟩, by simp only [coC, List.length_append, List.flatMap_append, List.length_singleton, List.flatMap_cons, List.flatMap_nil, List.append_nil]; exact Turn.refl _ _, rfl, by omega⟩
  · obtain rfl : j = p.code.length := by omega
    rw [List.take_length, ← hnl, List.take_length] at hcd
    subst hcd
    refine c_iceS z0I 0 rfl (fun _ => rfl) rfl (fun hcR => ?_)
    obtain ⟨Ac, cc, ec⟩ := hcR.dest
    subst ec
    refine goT ?_
    refine c_drww [.c r1 [.int .i64 p.ins, .int .i64 p.regs, .slice A1 p.code.length c1, .slice A2 p.outs.length c2]] sl rfl (by decide +kernel) ?_
    refine go ?_
    refine o_pu rfl (clone62 (RowM.le (RowM.le hO hG) (Fz.add_le _ _)) (by omega)) (fun v2 F3 hF3 h2 => ?_) sl
    obtain ⟨A2', c2', e2⟩ := h2.dest
    subst e2
    refine go ?_
    refine o_staF rfl inferInstance rfl rfl rfl get0 rfl rfl sl (.late [] (by decide +kernel) (List.nil_sublist _)) ?_
    refine go ?_
    subst hN
    exact b_ret rfl (.cons (.cella rfl rfl (rdsW 0 rfl)) (.cons (.tmp rfl) .nil)) (Turn.skip Turn.drop) ⟨rfl, (hF1.trans hF2).trans (hG.trans ((Fz.add_le _ _).trans hF3)), _, _, rfl, hcR.le hF3, h2⟩
end Go.Proofs.YthkoodpnepfijaaGreatDoor
/- PD: CONSTANTS, PLAINLY: an instruction's plain form; two instructions melted into one. -/
namespace Go.Proofs.YthkoodpnepfijaaGreatDoor
set_option linter.unusedVariables false

/-- The m of 2 to the m, from 1 on; 0: it is none. -/
def pw2 (c : Int) : Nat := if c = 2 then 1 else if c = 4 then 2 else if c = 8 then 3 else if c = 16 then 4 else if c = 32 then 5 else if c = 64 then 6 else if c = 128 then 7 else if c = 256 then 8 else if c = 512 then 9 else 0
theorem pw2_spec (c : Int) : pw2 c = 0 ∨ (c = 2 ^ pw2 c ∧ 1 ≤ pw2 c ∧ pw2 c ≤ 9) := by
  unfold pw2
  repeat (split; · rename_i h; subst h; exact .inr ⟨by decide, by decide, by decide⟩)
  exact .inl rfl
def plainI (i : Ins) : Ins :=
  if i.op = 3 then (if i.a = i.b then ⟨7, i.to, i.a, 0, 1⟩ else i)
  else if i.op = 5 ∨ i.op = 6 then (if i.c = 1 then ⟨1, i.to, i.a, 0, 0⟩ else if i.c = -1 then ⟨2, i.to, i.a, 0, 0⟩ else if pw2 i.c ≠ 0 then (if i.op = 5 then ⟨7, i.to, i.a, 0, (pw2 i.c : Nat)⟩ else ⟨8, i.to, i.a, 0, (pw2 i.c : Nat)⟩) else i)
  else i
theorem plain_to (i : Ins) : (plainI i).to = i.to := by
  unfold plainI
  repeat' split
  all_goals rfl
theorem plain_ok {i : Ins} {regs : Int} (h : i.ok regs) : (plainI i).ok regs := by
  obtain ⟨h1, h2, h3, h4, h5, h6, h7, h8, h9, h10⟩ := h
  have hp := pw2_spec i.c
  unfold plainI
  repeat' split
  all_goals first
    | exact ⟨h1, h2, h3, h4, h5, h6, h7, h8, h9, h10⟩
    | (refine ⟨by simp, by simp, h3, h4, h5, h6, by simp, by simp; omega, fun _ => rfl, ?_⟩
       simp [constOk]
       try omega)
theorem plain_val {i : Ins} {regs : Int} (h : i.ok regs) (s : Rg) : (plainI i).val s = i.val s := by
  have hp := pw2_spec i.c
  unfold plainI
  by_cases e3 : i.op = 3
  · rw [if_pos e3]
    split
    · rename_i hab
      unfold Ins.val
      simp [e3, ← hab]
      omega
    · rfl
  rw [if_neg e3]
  by_cases e5 : i.op = 5
  · rw [if_pos (.inl e5)]
    split
    · rename_i hc; unfold Ins.val; simp [e5, hc]
    split
    · rename_i hc; unfold Ins.val; simp [e5, hc]
    split
    · rename_i hc
      rcases hp with hp | hp
      · exact absurd hp hc
      · unfold Ins.val; simp [e5]; rw [← hp.1]
    · rfl
  by_cases e6 : i.op = 6
  · rw [if_pos (.inr e6)]
    split
    · rename_i hc; unfold Ins.val; simp [e6, hc]
    split
    · rename_i hc; unfold Ins.val; simp [e6, hc]
    split
    · rename_i hc
      rcases hp with hp | hp
      · exact absurd hp hc
      · unfold Ins.val; simp [e6]; rw [← hp.1]
    · rfl
  rw [if_neg (by omega)]
theorem plain_nodiv {i : Ins} (h : i.op ≠ 6 ∧ i.op ≠ 8) : (plainI i).op ≠ 6 ∧ (plainI i).op ≠ 8 := by
  unfold plainI
  repeat' split
  all_goals first | exact h | (simp; done) | omega

/-- What one operation does that asks one register. -/
def val1 (op c x : Int) : Option Int := (Ins.mk op 0 0 0 c).val fun _ => x
theorem val_val1 {i : Ins} (h : ¬ twoOp i.op) (s : Rg) : i.val s = val1 i.op i.c (s i.a) := by
  have n3 : ¬ i.op = 3 := fun e => h (.inl e)
  have n4 : ¬ i.op = 4 := fun e => h (.inr e)
  unfold val1 Ins.val
  simp only [n3, n4, if_false]
/-- Two operations as one. -/
def tog (first c second d : Int) : Option (Int × Int) :=
  if first = 1 then some (second, d)
  else if first = 2 then (if second = 1 then some (2, 0) else if second = 2 then some (1, 0) else if second = 5 ∨ second = 6 then some (second, -d) else none)
  else if first = 5 then
    (if second = 2 then some (5, -c) else if second = 5 ∧ -512 ≤ c * d ∧ c * d ≤ 512 then some (5, c * d) else if second = 6 ∧ c.tmod d = 0 then some (5, c.tdiv d) else if second = 6 ∧ d.tmod c = 0 then some (6, d.tdiv c) else none)
  else if first = 6 then (if second = 2 then some (6, -c) else if second = 6 ∧ -512 ≤ c * d ∧ c * d ≤ 512 then some (6, c * d) else none)
  else if first = 7 then
    (if second = 7 ∧ c + d ≤ 64 then some (7, c + d) else if second ≠ 8 then none else if c = d then some (1, 0) else if c > d then some (7, c - d) else some (8, d - c))
  else if first = 8 then (if second = 8 ∧ c + d ≤ 64 then some (8, c + d) else none)
  else none
theorem constOk_iff (op c : Int) : constOk op c ↔ ((op = 5 ∨ op = 6) → c ≠ 0 ∧ -512 ≤ c ∧ c ≤ 512) ∧ ((op = 7 ∨ op = 8) → 1 ≤ c ∧ c ≤ 64) ∧ (¬ (op = 5 ∨ op = 6) → ¬ (op = 7 ∨ op = 8) → c = 0) := by
  unfold constOk
  split
  · rename_i h; constructor
    · intro k; exact ⟨fun _ => k, fun h' => by omega, fun h' => absurd h h'⟩
    · intro k; exact k.1 h
  · rename_i h
    split
    · rename_i h2; constructor
      · intro k; exact ⟨fun h' => absurd h' h, fun _ => k, fun _ h' => absurd h2 h'⟩
      · intro k; exact k.2.1 h2
    · rename_i h2; constructor
      · intro k; exact ⟨fun h' => absurd h' h, fun h' => absurd h' h2, fun _ _ => k⟩
      · intro k; exact k.2.2 h h2
theorem tdiv_small {x y : Int} (hx : x ≠ 0) (hy : y ≠ 0) (hb : -512 ≤ x ∧ x ≤ 512) (hm : x.tmod y = 0) : x.tdiv y ≠ 0 ∧ -512 ≤ x.tdiv y ∧ x.tdiv y ≤ 512 := by
  have k := Int.mul_tdiv_add_tmod x y
  rw [hm, Int.add_zero] at k
  refine ⟨fun e => by rw [e, Int.mul_zero] at k; exact hx k.symm, ?_⟩
  have k2 : (x.tdiv y).natAbs ≤ x.natAbs := by
    conv => rhs; rw [← k, Int.natAbs_mul]
    exact Nat.le_mul_of_pos_left _ (by omega)
  omega
def Op1 (o e : Int) : Prop := constOk o e ∧ 1 ≤ o ∧ o ≤ 8 ∧ ¬ twoOp o
theorem op56 {o e : Int} (h : o = 5 ∨ o = 6) (he : e ≠ 0 ∧ -512 ≤ e ∧ e ≤ 512) : Op1 o e := ⟨(constOk_iff _ _).2 ⟨fun _ => he, fun k => by omega, fun k => absurd h k⟩, by omega, by omega, by unfold twoOp; omega⟩
theorem op78 {o e : Int} (h : o = 7 ∨ o = 8) (he : 1 ≤ e ∧ e ≤ 64) : Op1 o e := ⟨(constOk_iff _ _).2 ⟨fun k => by omega, fun _ => he, fun _ k => absurd h k⟩, by omega, by omega, by unfold twoOp; omega⟩
theorem op12 {o : Int} (h : o = 1 ∨ o = 2) : Op1 o 0 := ⟨(constOk_iff _ _).2 ⟨fun k => by omega, fun k => by omega, fun _ _ => rfl⟩, by omega, by omega, by unfold twoOp; omega⟩
theorem tog_ok {f c g d o e : Int} (hf : constOk f c) (hg : constOk g d) (h1 : 1 ≤ g ∧ g ≤ 8) (h2 : ¬ twoOp g) (h : tog f c g d = some (o, e)) : Op1 o e := by
  have hgo : Op1 g d := ⟨hg, h1.1, h1.2, h2⟩
  rw [constOk_iff] at hf hg
  unfold tog at h
  split at h
  · cases h; exact hgo
  split at h
  · split at h
    · cases h; exact op12 (.inr rfl)
    split at h
    · cases h; exact op12 (.inl rfl)
    split at h
    · rename_i k; cases h; have := hg.1 k; exact op56 k (by omega)
    · cases h
  split at h
  · rename_i f5
    have hc := hf.1 (.inl f5)
    split at h
    · cases h; exact op56 (.inl rfl) (by omega)
    split at h
    · rename_i k; cases h; exact op56 (.inl rfl) ⟨Int.mul_ne_zero hc.1 (hg.1 (.inl k.1)).1, k.2⟩
    split at h
    · rename_i k; cases h; have hd := hg.1 (.inr k.1); exact op56 (.inl rfl) (tdiv_small hc.1 hd.1 hc.2 k.2)
    split at h
    · rename_i k; cases h; have hd := hg.1 (.inr k.1); exact op56 (.inr rfl) (tdiv_small hd.1 hc.1 hd.2 k.2)
    · cases h
  split at h
  · rename_i f6
    have hc := hf.1 (.inr f6)
    split at h
    · cases h; exact op56 (.inr rfl) (by omega)
    split at h
    · rename_i k; cases h; exact op56 (.inr rfl) ⟨Int.mul_ne_zero hc.1 (hg.1 (.inr k.1)).1, k.2⟩
    · cases h
  split at h
  · rename_i f7
    have hc := hf.2.1 (.inl f7)
    split at h
    · rename_i k; cases h; have hd := hg.2.1 (.inl k.1); exact op78 (.inl rfl) (by omega)
    split at h
    · cases h
    rename_i k
    have hd := hg.2.1 (.inr (by omega))
    split at h
    · cases h; exact op12 (.inl rfl)
    split at h
    · cases h; exact op78 (.inl rfl) (by omega)
    · cases h; exact op78 (.inr rfl) (by omega)
  split at h
  · rename_i f8
    have hc := hf.2.1 (.inr f8)
    split at h
    · rename_i k; cases h; have hd := hg.2.1 (.inr k.1); exact op78 (.inr rfl) (by omega)
    · cases h
  · cases h
theorem tog_nodiv {f c g d o e : Int} (hf : f ≠ 6 ∧ f ≠ 8) (hg : g ≠ 6 ∧ g ≠ 8) (h : tog f c g d = some (o, e)) : o ≠ 6 ∧ o ≠ 8 := by
  unfold tog at h
  repeat' split at h
  all_goals first
    | (cases h; done)
    | (simp only [Option.some.injEq, Prod.mk.injEq] at h
       obtain ⟨ho, he⟩ := h
       subst ho he
       omega)
theorem tog_val {f c g d o e x y z : Int} (hf : constOk f c) (hg : constOk g d) (h1 : 1 ≤ g ∧ g ≤ 8) (h2 : ¬ twoOp g) (h : tog f c g d = some (o, e)) (hx : val1 f c x = some y) (hy : val1 g d y = some z) : val1 o e x = some z := by
  rw [constOk_iff] at hf hg
  unfold twoOp at h2
  unfold tog at h
  by_cases f1 : f = 1
  · subst f1
    simp only [if_pos] at h
    cases h
    simp [val1, Ins.val] at hx
    rw [hx]; exact hy
  rw [if_neg f1] at h
  by_cases f2 : f = 2
  · subst f2
    rw [if_pos rfl] at h
    have e1 : y = -x := by simp [val1, Ins.val] at hx; omega
    subst e1
    split at h
    · rename_i k; cases h; subst k; simp [val1, Ins.val] at hy ⊢; omega
    split at h
    · rename_i k; cases h; subst k; simp [val1, Ins.val] at hy ⊢; omega
    split at h
    · rename_i k
      cases h
      rcases k with rfl | rfl
      · simp [val1, Ins.val] at hy ⊢; rw [← hy, Int.mul_neg, Int.neg_mul]
      · simp [val1, Ins.val] at hy ⊢
        refine ⟨hy.1, ?_⟩
        rw [← hy.2]
        obtain ⟨q, rfl⟩ := hy.1
        have : d ≠ 0 := (hg.1 (.inr rfl)).1
        rw [← Int.mul_neg, Int.mul_ediv_cancel_left _ this, Int.mul_ediv_cancel_left _ this]
    · cases h
  rw [if_neg f2] at h
  by_cases f5 : f = 5
  · subst f5
    rw [if_pos rfl] at h
    have e1 : y = x * c := by simp [val1, Ins.val] at hx; omega
    subst e1
    have c0 : c ≠ 0 := (hf.1 (.inl rfl)).1
    split at h
    · rename_i k; cases h; subst k; simp [val1, Ins.val] at hy ⊢; rw [← hy, Int.mul_neg]
    split at h
    · rename_i k; cases h; obtain ⟨rfl, k⟩ := k; simp [val1, Ins.val] at hy ⊢; rw [← hy, Int.mul_assoc]
    split at h
    · rename_i k
      cases h
      obtain ⟨rfl, k⟩ := k
      have d0 : d ≠ 0 := (hg.1 (.inr rfl)).1
      have k2 := Int.mul_tdiv_add_tmod c d
      rw [k, Int.add_zero] at k2
      simp [val1, Ins.val] at hy ⊢
      rw [← hy.2]
      conv => rhs; rw [← k2, Int.mul_left_comm, Int.mul_ediv_cancel_left _ d0]
    split at h
    · rename_i k
      cases h
      obtain ⟨rfl, k⟩ := k
      have d0 : d ≠ 0 := (hg.1 (.inr rfl)).1
      have k2 := Int.mul_tdiv_add_tmod d c
      rw [k, Int.add_zero] at k2
      generalize d.tdiv c = q at *
      subst k2
      simp [val1, Ins.val] at hy ⊢
      obtain ⟨⟨w, hw⟩, hz⟩ := hy
      have hw : x = q * w := by
        rw [Int.mul_comm x c, Int.mul_assoc] at hw
        exact Int.eq_of_mul_eq_mul_left c0 hw
      subst hw
      refine ⟨⟨w, rfl⟩, ?_⟩
      have q0 : q ≠ 0 := fun e => d0 (by rw [e, Int.mul_zero])
      rw [← hz, Int.mul_ediv_cancel_left _ q0, Int.mul_comm (q * w) c, ← Int.mul_assoc, Int.mul_ediv_cancel_left _ d0]
    · cases h
  rw [if_neg f5] at h
  by_cases f6 : f = 6
  · subst f6
    rw [if_pos rfl] at h
    have c0 : c ≠ 0 := (hf.1 (.inr rfl)).1
    simp [val1, Ins.val] at hx
    obtain ⟨⟨q, rfl⟩, hx⟩ := hx
    rw [Int.mul_ediv_cancel_left _ c0] at hx
    subst hx
    split at h
    · rename_i k; cases h; subst k; simp [val1, Ins.val] at hy ⊢; rw [← hy]; rw [Int.mul_ediv_cancel_left _ c0]
    split at h
    · rename_i k
      cases h
      obtain ⟨rfl, k⟩ := k
      have d0 : d ≠ 0 := (hg.1 (.inr rfl)).1
      simp [val1, Ins.val] at hy ⊢
      obtain ⟨⟨w, rfl⟩, hz⟩ := hy
      rw [Int.mul_ediv_cancel_left _ d0] at hz
      subst hz
      have cd0 : c * d ≠ 0 := Int.mul_ne_zero c0 d0
      rw [← Int.mul_assoc]
      exact ⟨⟨w, rfl⟩, Int.mul_ediv_cancel_left _ cd0⟩
    · cases h
  rw [if_neg f6] at h
  have p0 : ∀ n : Nat, (2 : Int) ^ n ≠ 0 := fun n => Int.pow_ne_zero (by decide)
  by_cases f7 : f = 7
  · subst f7
    rw [if_pos rfl] at h
    have hc := hf.2.1 (.inl rfl)
    simp [val1, Ins.val] at hx
    subst hx
    split at h
    · rename_i k
      cases h
      obtain ⟨rfl, k⟩ := k
      have hd := hg.2.1 (.inl rfl)
      simp [val1, Ins.val] at hy ⊢
      rw [← hy, Int.mul_assoc, ← Int.pow_add]
      congr 2
      omega
    split at h
    · cases h
    rename_i k1 k2
    obtain rfl : g = 8 := by omega
    have hd := hg.2.1 (.inr rfl)
    simp [val1, Ins.val] at hy
    obtain ⟨hdv, hz⟩ := hy
    split at h
    · rename_i k
      cases h
      subst k
      simp [val1, Ins.val]
      rw [← hz, Int.mul_ediv_cancel _ (p0 _)]
    split at h
    · rename_i k3 k
      cases h
      simp [val1, Ins.val]
      rw [← hz]
      have : c.toNat = (c - d).toNat + d.toNat := by omega
      rw [this, Int.pow_add, ← Int.mul_assoc, Int.mul_ediv_cancel _ (p0 _)]
    · rename_i k3 k
      cases h
      simp [val1, Ins.val]
      have : d.toNat = (d - c).toNat + c.toNat := by omega
      rw [this, Int.pow_add] at hdv hz
      have hdv' : (2 : Int) ^ (d - c).toNat ∣ x := Int.dvd_of_mul_dvd_mul_right (p0 _) hdv
      refine ⟨hdv', ?_⟩
      obtain ⟨w, rfl⟩ := hdv'
      rw [← hz, Int.mul_ediv_cancel_left _ (p0 _), Int.mul_right_comm, Int.mul_ediv_cancel_left _ (Int.mul_ne_zero (p0 _) (p0 _))]
  rw [if_neg f7] at h
  split at h
  · rename_i f8
    subst f8
    have hc := hf.2.1 (.inr rfl)
    split at h
    · rename_i k
      cases h
      obtain ⟨rfl, k⟩ := k
      have hd := hg.2.1 (.inr rfl)
      simp [val1, Ins.val] at hx hy ⊢
      obtain ⟨⟨q, rfl⟩, hx⟩ := hx
      rw [Int.mul_ediv_cancel_left _ (p0 _)] at hx
      subst hx
      obtain ⟨⟨w, rfl⟩, hz⟩ := hy
      rw [Int.mul_ediv_cancel_left _ (p0 _)] at hz
      subst hz
      have : (c + d).toNat = c.toNat + d.toNat := by omega
      rw [this, Int.pow_add, ← Int.mul_assoc]
      exact ⟨⟨w, rfl⟩, Int.mul_ediv_cancel_left _ (Int.mul_ne_zero (p0 _) (p0 _))⟩
    · cases h
  · cases h
/-- What comes of two instructions. -/
def meltI (a b : Ins) : Option Ins :=
  if b.op = 3 ∨ b.op = 4 ∨ b.a ≠ a.to ∨ b.to ≠ a.to then none else (tog a.op a.c b.op b.c).map fun q => plainI ⟨q.1, b.to, a.a, 0, q.2⟩
theorem melt_spec {a b x : Ins} {regs : Int} (ha : a.ok regs) (hb : b.ok regs) (h : meltI a b = some x) :
    x.ok regs ∧ (a.op ≠ 6 ∧ a.op ≠ 8 → b.op ≠ 6 ∧ b.op ≠ 8 → x.op ≠ 6 ∧ x.op ≠ 8) ∧ ∀ s t, exec [a, b] s = some t → exec [x] s = some t := by
  unfold meltI at h
  split at h
  · cases h
  rename_i hn
  obtain ⟨⟨o, e⟩, hq, rfl⟩ := Option.map_eq_some_iff.1 h
  have hb2 : ¬ twoOp b.op := fun k => hn (by rcases k with k | k <;> simp [k])
  have eba : b.a = a.to := Classical.byContradiction fun k => hn (.inr (.inr (.inl k)))
  have ebt : b.to = a.to := Classical.byContradiction fun k => hn (.inr (.inr (.inr k)))
  have ha2 : ¬ twoOp a.op := fun k => by
    unfold tog at hq
    have : ¬ a.op = 1 ∧ ¬ a.op = 2 ∧ ¬ a.op = 5 ∧ ¬ a.op = 6 ∧ ¬ a.op = 7 ∧ ¬ a.op = 8 := by unfold twoOp at k; omega
    simp [this] at hq
  obtain ⟨k1, k2, k3, k4⟩ := tog_ok ha.cc hb.cc ⟨hb.op1, hb.op8⟩ hb2 hq
  have hr : (Ins.mk o b.to a.a 0 e).ok regs := ⟨k2, k3, hb.to0, hb.to1, ha.a0, ha.a1, Int.le_refl _, by have := ha.a0; have := ha.a1; simp; omega, fun _ => rfl, k1⟩
  refine ⟨plain_ok hr, fun u v => plain_nodiv (tog_nodiv u v hq), fun s t hx => ?_⟩
  simp only [exec, stepI] at hx ⊢
  rw [plain_val hr, plain_to]
  rw [val_val1 ha2] at hx
  cases h1 : val1 a.op a.c (s a.a) with
  | none => rw [h1] at hx; simp at hx
  | some y =>
    rw [h1] at hx
    simp only [Option.map_some, Option.bind_some] at hx
    rw [val_val1 hb2, eba, Rg.set_same] at hx
    cases h2 : val1 b.op b.c y with
    | none => rw [h2] at hx; simp at hx
    | some z =>
      rw [h2] at hx
      have h3 := tog_val ha.cc hb.cc ⟨hb.op1, hb.op8⟩ hb2 hq h1 h2
      rw [val_val1 (i := Ins.mk o b.to a.a 0 e) k4]
      simp only [h3, Option.map_some, Option.bind_some] at hx ⊢
      rw [← hx, ebt]
      congr 1
      funext r
      unfold Rg.set
      split <;> rfl
/-- What the pass has made of the first instructions. -/
structure FoldI (p : Prg) (k : Nat) (code : List Ins) : Prop where
  ok : ∀ i ∈ code, i.ok p.regs
  len : code.length ≤ k
  nodiv : NoDiv p → ∀ i ∈ code, i.op ≠ 6 ∧ i.op ≠ 8
  run : ∀ s t, exec (p.code.take k) s = some t → exec code s = some t
theorem fold_nil (p : Prg) : FoldI p 0 [] := ⟨fun i h => (by cases h), Nat.le_refl _, fun _ i h => (by cases h), fun s t h => h⟩
theorem fold_sim {p : Prg} {code : List Ins} (h : p.ok) (hf : FoldI p p.code.length code) : Sim p { p with code := code } := by
  refine ⟨⟨h.ins1, h.insr, h.regs, Nat.le_trans hf.len h.len, h.out1, h.outn, h.outs, hf.ok⟩, rfl, rfl, hf.nodiv, fun l o hl ⟨s, hs, ho⟩ => ⟨s, hf.run _ _ (by rw [List.take_length]; exact hs), ho⟩⟩
theorem fold_plain {p : Prg} {k : Nat} {code : List Ins} {z : Ins} (h : p.ok) (hf : FoldI p k code) (hk : k < p.code.length) : FoldI p (k + 1) (code ++ [plainI (p.code.getD k z)]) := by
  have hg : p.code.getD k z = p.code[k] := by rw [List.getD_eq_getElem?_getD, List.getElem?_eq_getElem hk]; rfl
  have hm : p.code[k] ∈ p.code := List.getElem_mem hk
  rw [hg]
  refine ⟨fun i hi => ?_, by have := hf.len; simp; omega, fun hn i hi => ?_, fun s t hx => ?_⟩
  · rcases List.mem_append.1 hi with hi | hi
    · exact hf.ok i hi
    · rw [List.mem_singleton.1 hi]; exact plain_ok (h.code _ hm)
  · rcases List.mem_append.1 hi with hi | hi
    · exact hf.nodiv hn i hi
    · rw [List.mem_singleton.1 hi]; exact plain_nodiv (hn _ hm)
  · rw [List.take_add_one, List.getElem?_eq_getElem hk, Option.toList_some, exec_app] at hx
    cases hy : exec (p.code.take k) s with
    | none => rw [hy] at hx; cases hx
    | some u =>
      rw [hy] at hx
      rw [exec_app, hf.run _ _ hy]
      simp only [Option.bind_some, exec, stepI, plain_val (h.code _ hm), plain_to] at hx ⊢
      exact hx
theorem fold_melt {p : Prg} {k : Nat} {code : List Ins} {a b x : Ins} (hf : FoldI p (k + 1) (code ++ [a, b])) (hx : meltI a b = some x) : FoldI p (k + 1) (code ++ [x]) := by
  have ha := hf.ok a (by simp)
  have hb := hf.ok b (by simp)
  obtain ⟨h1, h2, h3⟩ := melt_spec ha hb hx
  refine ⟨fun i hi => ?_, by have := hf.len; simp at this ⊢; omega, fun hn i hi => ?_, fun s t hs => ?_⟩
  · rcases List.mem_append.1 hi with hi | hi
    · exact hf.ok i (by simp [hi])
    · rw [List.mem_singleton.1 hi]; exact h1
  · rcases List.mem_append.1 hi with hi | hi
    · exact hf.nodiv hn i (by simp [hi])
    · rw [List.mem_singleton.1 hi]; exact h2 (hf.nodiv hn a (by simp)) (hf.nodiv hn b (by simp))
  · have := hf.run s t hs
    rw [exec_app] at this ⊢
    cases hy : exec code s with
    | none => rw [hy] at this; cases this
    | some u => rw [hy] at this; exact h3 _ _ this
theorem fold_idle {p : Prg} {k : Nat} {code : List Ins} {b : Ins} (hf : FoldI p (k + 1) (code ++ [b])) (h1 : b.op = 1) (h2 : b.to = b.a) : FoldI p (k + 1) code := by
  refine ⟨fun i hi => hf.ok i (by simp [hi]), by have := hf.len; simp at this; omega, fun hn i hi => hf.nodiv hn i (by simp [hi]), fun s t hs => ?_⟩
  have := hf.run s t hs
  rw [exec_app] at this
  cases hy : exec code s with
  | none => rw [hy] at this; cases this
  | some u =>
    rw [hy] at this
    simp only [Option.bind_some, exec, stepI, Ins.val, h1] at this
    simp at this
    rw [← this, h2]
    congr 1
    funext r
    unfold Rg.set
    split
    · rename_i e; rw [e]
    · rfl
end Go.Proofs.YthkoodpnepfijaaGreatDoor

/-
  Steps towards TopCounts (no conditions of their own): WALKS: fold: fits, one, power, plain, together, melt. A DRAWN REGION where several operations that act may come next: the walk branches. WALKS: fold: Pass.
-/
import Derived.Test.YthkoodpnepfijaaGreatDoorM07
import Derived.Test.YthkoodpnepfijaaGreatDoorM20
/- XP: WALKS: fold: fits, one, power, plain, together, melt. -/
namespace Go.Proofs.YthkoodpnepfijaaGreatDoor
open Go.RowKit
set_option linter.unusedVariables false
set_option linter.unusedSimpArgs false
set_option maxRecDepth 100000
set_option maxHeartbeats 1000000
instance fits154 (c : Int) : ScF 154 [.int .i64 c] (.bool (decide (-512 ≤ c ∧ c ≤ 512))) True := ⟨fun _ F own => by
  refine n_fun Tryz.func154 Tryz.ntmps154 rfl rfl rfl ?_
  by_cases h1 : -512 ≤ c
  · refine go ?_
    exact b_ret rfl (.cons (.tmp rfl) .nil) (Turn.refl _ _) ⟨rfl, rfl, by simp [h1, tupV]⟩
  · refine go ?_
    exact b_ret rfl (.cons (.tmp rfl) .nil) (Turn.refl _ _) ⟨rfl, rfl, by simp [h1, tupV]⟩⟩
instance one127 (op to a c : Int) : ScF 127 [.int .i64 op, .int .i64 to, .int .i64 a, .int .i64 c] (.agg (vIn ⟨op, to, a, 0, c⟩).toArray) True := ⟨fun _ F own => by
  refine n_fun Tryz.func127 Tryz.ntmps127 rfl rfl rfl ?_
  refine go ?_
  intro r
  exact b_ret rfl (.cons (.cella rfl rfl (rdsW 0 rfl)) .nil) Turn.drop ⟨rfl, rfl, rfl⟩⟩
theorem pw_and {c : Int} (h1 : 2 ≤ c) (h2 : c ≤ 512) : c.toNat &&& (c.toNat - 1) = 0 ↔ pw2 c ≠ 0 := by
  have hall : ∀ q : Fin 513, 2 ≤ q.val → (q.val &&& (q.val - 1) = 0 ↔ pw2 (q.val : Int) ≠ 0) := by decide +kernel
  have := hall ⟨c.toNat, by omega⟩ (show 2 ≤ c.toNat by omega)
  rwa [show (((⟨c.toNat, by omega⟩ : Fin 513).val : Nat) : Int) = c by simp; omega] at this
theorem power126 {F : Fz} (hG : Gl F) {c : Int} (h1 : -512 ≤ c) (h2 : c ≤ 512) : Ps 126 [.int .i64 c] F fun u => u = .tuple #[.int .i64 (pw2 c : Nat), .bool (decide (pw2 c ≠ 0))] := fun own => by
  refine n_fun Tryz.func126 Tryz.ntmps126 rfl rfl rfl ?_
  by_cases h3 : c < 2
  · have hp : pw2 c = 0 := by unfold pw2; repeat (rw [if_neg (by omega)])
    rw [hp]
    refine go ?_
    exact b_ret rfl (.cons (.tmp rfl) (.cons (.tmp rfl) .nil)) (Turn.refl _ _) ⟨rfl, rfl, by simp [tupV]⟩
  · have hand := pw_and (c := c) (by omega) h2
    have hs := pw2_spec c
    refine go ?_
    refine o_andI c.toNat (c.toNat - 1) rfl rfl (by omega) (by omega) (by omega) (by omega) ?_
    generalize hg : c.toNat &&& (c.toNat - 1) = g at *
    generalize hm : pw2 c = m at *
    by_cases hg0 : g = 0
    · have hm0 := hand.1 hg0
      clear hand
      rcases hs with hs | ⟨hs, k1, k2⟩
      · exact absurd hs hm0
      · refine go ?_
        refine o_val (.int .u64 (c.toNat : Nat)) (congrArg (Value.int .u64) (by omega)) ?_
        refine o_pu rfl (tz75 (x := c.toNat) (v := m) (m := 0) hG (by rw [hs, show (2 : Int) ^ m = ((2 ^ m : Nat) : Int) by simp, Int.toNat_natCast]; simp) (by omega)) (fun u G _ ⟨e1, e2⟩ => ?_)
        subst e1 e2
        refine go ?_
        exact b_ret rfl (.cons (.tmp rfl) (.cons (.tmp rfl) .nil)) (Turn.refl _ _) ⟨rfl, rfl, by simp [tupV, hm0]⟩
    · have hm0 : m = 0 := Classical.byContradiction fun h => hg0 (hand.2 h)
      clear hand
      subst hm0
      refine go ?_
      exact b_ret rfl (.cons (.tmp rfl) (.cons (.tmp rfl) .nil)) (Turn.refl _ _) ⟨rfl, rfl, by simp [tupV]⟩
theorem plain84 {F : Fz} (hG : Gl F) (i : Ins) (h1 : -512 ≤ i.c) (h2 : i.c ≤ 512) : Ps 84 [.agg (vIn i).toArray] F fun u => u = .agg (vIn (plainI i)).toArray := fun own => by
  refine n_fun Tryz.func84 Tryz.ntmps84 rfl rfl rfl ?_
  refine go ?_
  intro r1 r2
  refine go ?_
  refine o_ps rfl (power126 hG h1 h2) (fun u e => ?_) sl
  subst e
  refine go ?_
  generalize hm : pw2 i.c = m at *
  by_cases e3 : i.op = 3
  · refine go ?_
    by_cases eab : i.a = i.b
    · refine go ?_
      exact b_ret rfl (.cons (.cella rfl rfl (rdsW 0 rfl)) .nil) (Turn.skip Turn.drop) ⟨rfl, rfl, by simp [tupV, plainI, e3, eab]⟩
    · refine go ?_
      exact b_ret rfl (.cons (.cella rfl rfl (rdsW 0 rfl)) .nil) (Turn.skip Turn.drop) ⟨rfl, rfl, by simp [tupV, plainI, e3, eab]⟩
  · by_cases e56 : i.op = 5 ∨ i.op = 6
    · by_cases c1 : i.c = 1
      · by_cases e5 : i.op = 5
        all_goals
          refine go ?_
          exact b_ret rfl (.cons (.cella rfl rfl (rdsW 0 rfl)) .nil) (Turn.skip Turn.drop) ⟨rfl, rfl, by simp [tupV, plainI, e3, e56, c1]⟩
      · by_cases c2 : i.c = -1
        · by_cases e5 : i.op = 5
          all_goals
            refine go ?_
            exact b_ret rfl (.cons (.cella rfl rfl (rdsW 0 rfl)) .nil) (Turn.skip Turn.drop) ⟨rfl, rfl, by simp [tupV, plainI, e3, e56, c2]⟩
        · by_cases m0 : m = 0
          · by_cases e5 : i.op = 5
            all_goals
              refine go ?_
              exact b_ret rfl (.cons (.cella rfl rfl (rdsW 0 rfl)) .nil) (Turn.skip Turn.drop) ⟨rfl, rfl, by simp [tupV, plainI, e3, e56, c1, c2, hm, m0]⟩
          · by_cases e5 : i.op = 5
            · refine go ?_
              exact b_ret rfl (.cons (.cella rfl rfl (rdsW 0 rfl)) .nil) (Turn.skip Turn.drop) ⟨rfl, rfl, by simp [tupV, plainI, e5, c1, c2, hm, m0]⟩
            · have e6 : i.op = 6 := by omega
              refine go ?_
              exact b_ret rfl (.cons (.cella rfl rfl (rdsW 0 rfl)) .nil) (Turn.skip Turn.drop) ⟨rfl, rfl, by simp [tupV, plainI, e6, c1, c2, hm, m0]⟩
    · have e5 : ¬ i.op = 5 := by omega
      have e6 : ¬ i.op = 6 := by omega
      refine go ?_
      exact b_ret rfl (.cons (.cella rfl rfl (rdsW 0 rfl)) .nil) (Turn.skip Turn.drop) ⟨rfl, rfl, by simp [tupV, plainI, e3, e56]⟩
/-- What two operations are together, as it is told. -/
def togV (f c g d : Int) : Value := match tog f c g d with
  | some (o, e) => .tuple #[.int .i64 o, .int .i64 e, .bool true]
  | none => .tuple #[.int .i64 0, .int .i64 0, .bool false]
theorem together128 {F : Fz} (f c g d : Int) (hc : -600 ≤ c ∧ c ≤ 600) (hd : -600 ≤ d ∧ d ≤ 600) (h5 : f = 5 → c ≠ 0) (h6 : g = 6 → d ≠ 0) : Ps 128 [.int .i64 f, .int .i64 c, .int .i64 g, .int .i64 d] F fun u => u = togV f c g d := fun own => by
  have hcd := mul_small (a := c) (b := d) (m := 600) (n := 600) (by omega) (by omega)
  refine n_fun Tryz.func128 Tryz.ntmps128 rfl rfl rfl ?_
  generalize hT : togV f c g d = T
  unfold togV tog at hT
  by_cases f1 : f = 1
  · rw [if_pos f1] at hT
    refine go ?_
    exact b_ret rfl (.cons (.tmp rfl) (.cons (.tmp rfl) (.cons (.tmp rfl) .nil))) (Turn.refl _ _) ⟨rfl, rfl, hT⟩
  rw [if_neg f1] at hT
  by_cases f2 : f = 2
  · rw [if_pos f2] at hT
    by_cases g1 : g = 1
    · rw [if_pos g1] at hT
      refine go ?_
      exact b_ret rfl (.cons (.tmp rfl) (.cons (.tmp rfl) (.cons (.tmp rfl) .nil))) (Turn.refl _ _) ⟨rfl, rfl, hT⟩
    rw [if_neg g1] at hT
    by_cases g2 : g = 2
    · rw [if_pos g2] at hT
      refine go ?_
      exact b_ret rfl (.cons (.tmp rfl) (.cons (.tmp rfl) (.cons (.tmp rfl) .nil))) (Turn.refl _ _) ⟨rfl, rfl, hT⟩
    rw [if_neg g2] at hT
    by_cases g5 : g = 5
    · rw [if_pos (.inl g5)] at hT
      refine go ?_
      exact b_ret rfl (.cons (.tmp rfl) (.cons (.tmp rfl) (.cons (.tmp rfl) .nil))) (Turn.refl _ _) ⟨rfl, rfl, hT⟩
    by_cases g6 : g = 6
    · rw [if_pos (.inr g6)] at hT
      refine go ?_
      exact b_ret rfl (.cons (.tmp rfl) (.cons (.tmp rfl) (.cons (.tmp rfl) .nil))) (Turn.refl _ _) ⟨rfl, rfl, hT⟩
    rw [if_neg (by omega)] at hT
    refine go ?_
    exact b_ret rfl (.cons (.tmp rfl) (.cons (.tmp rfl) (.cons (.tmp rfl) .nil))) (Turn.refl _ _) ⟨rfl, rfl, hT⟩
  rw [if_neg f2] at hT
  by_cases f5 : f = 5
  · rw [if_pos f5] at hT
    have c0 := h5 f5
    by_cases g2 : g = 2
    · rw [if_pos g2] at hT
      refine go ?_
      exact b_ret rfl (.cons (.tmp rfl) (.cons (.tmp rfl) (.cons (.tmp rfl) .nil))) (Turn.refl _ _) ⟨rfl, rfl, hT⟩
    rw [if_neg g2] at hT
    by_cases g5 : g = 5
    · by_cases b1 : -512 ≤ c * d
      · by_cases b2 : c * d ≤ 512
        · rw [if_pos ⟨g5, b1, b2⟩] at hT
          refine go ?_
          exact b_ret rfl (.cons (.tmp rfl) (.cons (.tmp rfl) (.cons (.tmp rfl) .nil))) (Turn.refl _ _) ⟨rfl, rfl, hT⟩
        · rw [if_neg (by omega), if_neg (by omega), if_neg (by omega)] at hT
          refine go ?_
          exact b_ret rfl (.cons (.tmp rfl) (.cons (.tmp rfl) (.cons (.tmp rfl) .nil))) (Turn.refl _ _) ⟨rfl, rfl, hT⟩
      · rw [if_neg (by omega), if_neg (by omega), if_neg (by omega)] at hT
        refine go ?_
        exact b_ret rfl (.cons (.tmp rfl) (.cons (.tmp rfl) (.cons (.tmp rfl) .nil))) (Turn.refl _ _) ⟨rfl, rfl, hT⟩
    rw [if_neg (by omega)] at hT
    by_cases g6 : g = 6
    · have d0 := h6 g6
      by_cases b1 : c.tmod d = 0
      · rw [if_pos ⟨g6, b1⟩] at hT
        refine go ?_
        exact b_ret rfl (.cons (.tmp rfl) (.cons (.tmp rfl) (.cons (.tmp rfl) .nil))) (Turn.refl _ _) ⟨rfl, rfl, hT⟩
      rw [if_neg (by omega)] at hT
      by_cases b2 : d.tmod c = 0
      · rw [if_pos ⟨g6, b2⟩] at hT
        refine go ?_
        exact b_ret rfl (.cons (.tmp rfl) (.cons (.tmp rfl) (.cons (.tmp rfl) .nil))) (Turn.refl _ _) ⟨rfl, rfl, hT⟩
      rw [if_neg (by omega)] at hT
      refine go ?_
      exact b_ret rfl (.cons (.tmp rfl) (.cons (.tmp rfl) (.cons (.tmp rfl) .nil))) (Turn.refl _ _) ⟨rfl, rfl, hT⟩
    rw [if_neg (by omega), if_neg (by omega)] at hT
    refine go ?_
    exact b_ret rfl (.cons (.tmp rfl) (.cons (.tmp rfl) (.cons (.tmp rfl) .nil))) (Turn.refl _ _) ⟨rfl, rfl, hT⟩
  rw [if_neg f5] at hT
  by_cases f6 : f = 6
  · rw [if_pos f6] at hT
    by_cases g2 : g = 2
    · rw [if_pos g2] at hT
      refine go ?_
      exact b_ret rfl (.cons (.tmp rfl) (.cons (.tmp rfl) (.cons (.tmp rfl) .nil))) (Turn.refl _ _) ⟨rfl, rfl, hT⟩
    rw [if_neg g2] at hT
    by_cases g6 : g = 6
    · by_cases b1 : -512 ≤ c * d
      · by_cases b2 : c * d ≤ 512
        · rw [if_pos ⟨g6, b1, b2⟩] at hT
          refine go ?_
          exact b_ret rfl (.cons (.tmp rfl) (.cons (.tmp rfl) (.cons (.tmp rfl) .nil))) (Turn.refl _ _) ⟨rfl, rfl, hT⟩
        · rw [if_neg (by omega)] at hT
          refine go ?_
          exact b_ret rfl (.cons (.tmp rfl) (.cons (.tmp rfl) (.cons (.tmp rfl) .nil))) (Turn.refl _ _) ⟨rfl, rfl, hT⟩
      · rw [if_neg (by omega)] at hT
        refine go ?_
        exact b_ret rfl (.cons (.tmp rfl) (.cons (.tmp rfl) (.cons (.tmp rfl) .nil))) (Turn.refl _ _) ⟨rfl, rfl, hT⟩
    rw [if_neg (by omega)] at hT
    refine go ?_
    exact b_ret rfl (.cons (.tmp rfl) (.cons (.tmp rfl) (.cons (.tmp rfl) .nil))) (Turn.refl _ _) ⟨rfl, rfl, hT⟩
  rw [if_neg f6] at hT
  by_cases f7 : f = 7
  · rw [if_pos f7] at hT
    by_cases g7 : g = 7
    · by_cases b1 : c + d ≤ 64
      · rw [if_pos ⟨g7, b1⟩] at hT
        refine go ?_
        exact b_ret rfl (.cons (.tmp rfl) (.cons (.tmp rfl) (.cons (.tmp rfl) .nil))) (Turn.refl _ _) ⟨rfl, rfl, hT⟩
      · rw [if_neg (by omega), if_pos (by omega)] at hT
        refine go ?_
        exact b_ret rfl (.cons (.tmp rfl) (.cons (.tmp rfl) (.cons (.tmp rfl) .nil))) (Turn.refl _ _) ⟨rfl, rfl, hT⟩
    rw [if_neg (by omega)] at hT
    by_cases g8 : g = 8
    · rw [if_neg (by omega)] at hT
      by_cases b1 : c = d
      · rw [if_pos b1] at hT
        refine go ?_
        exact b_ret rfl (.cons (.tmp rfl) (.cons (.tmp rfl) (.cons (.tmp rfl) .nil))) (Turn.refl _ _) ⟨rfl, rfl, hT⟩
      rw [if_neg b1] at hT
      by_cases b2 : c > d
      · rw [if_pos b2] at hT
        refine go ?_
        exact b_ret rfl (.cons (.tmp rfl) (.cons (.tmp rfl) (.cons (.tmp rfl) .nil))) (Turn.refl _ _) ⟨rfl, rfl, hT⟩
      rw [if_neg b2] at hT
      refine go ?_
      exact b_ret rfl (.cons (.tmp rfl) (.cons (.tmp rfl) (.cons (.tmp rfl) .nil))) (Turn.refl _ _) ⟨rfl, rfl, hT⟩
    rw [if_pos g8] at hT
    refine go ?_
    exact b_ret rfl (.cons (.tmp rfl) (.cons (.tmp rfl) (.cons (.tmp rfl) .nil))) (Turn.refl _ _) ⟨rfl, rfl, hT⟩
  rw [if_neg f7] at hT
  by_cases f8 : f = 8
  · rw [if_pos f8] at hT
    by_cases g8 : g = 8
    · by_cases b1 : c + d ≤ 64
      · rw [if_pos ⟨g8, b1⟩] at hT
        refine go ?_
        exact b_ret rfl (.cons (.tmp rfl) (.cons (.tmp rfl) (.cons (.tmp rfl) .nil))) (Turn.refl _ _) ⟨rfl, rfl, hT⟩
      rw [if_neg (by omega)] at hT
      refine go ?_
      exact b_ret rfl (.cons (.tmp rfl) (.cons (.tmp rfl) (.cons (.tmp rfl) .nil))) (Turn.refl _ _) ⟨rfl, rfl, hT⟩
    rw [if_neg (by omega)] at hT
    refine go ?_
    exact b_ret rfl (.cons (.tmp rfl) (.cons (.tmp rfl) (.cons (.tmp rfl) .nil))) (Turn.refl _ _) ⟨rfl, rfl, hT⟩
  rw [if_neg f8] at hT
  refine go ?_
  exact b_ret rfl (.cons (.tmp rfl) (.cons (.tmp rfl) (.cons (.tmp rfl) .nil))) (Turn.refl _ _) ⟨rfl, rfl, hT⟩
theorem const_b {op c : Int} (h : constOk op c) : -512 ≤ c ∧ c ≤ 512 := by
  rw [constOk_iff] at h
  by_cases h1 : op = 5 ∨ op = 6
  · have := h.1 h1; omega
  · by_cases h2 : op = 7 ∨ op = 8
    · have := h.2.1 h2; omega
    · have := h.2.2 h1 h2; omega
def meltV (a b : Ins) : Value := match meltI a b with
  | some x => .tuple #[.agg (vIn x).toArray, .bool true]
  | none => .tuple #[.agg (vIn z0I).toArray, .bool false]
theorem melt85 {F : Fz} (hG : Gl F) {regs : Int} {a b : Ins} (ha : a.ok regs) (hb : b.ok regs) : Ps 85 [.agg (vIn a).toArray, .agg (vIn b).toArray] F fun u => u = meltV a b := fun own => by
  have hca := const_b ha.cc
  have hcb := const_b hb.cc
  have h5 : a.op = 5 → a.c ≠ 0 := fun e => (((constOk_iff _ _).1 ha.cc).1 (.inl e)).1
  have h6 : b.op = 6 → b.c ≠ 0 := fun e => (((constOk_iff _ _).1 hb.cc).1 (.inr e)).1
  refine n_fun Tryz.func85 Tryz.ntmps85 rfl rfl rfl ?_
  generalize hT : meltV a b = T
  unfold meltV meltI at hT
  by_cases g3 : b.op = 3
  · rw [if_pos (.inl g3)] at hT
    refine go ?_
    intro r1 r2 r3
    refine go ?_
    exact b_ret rfl (.cons (.cella rfl rfl (rdsW 0 rfl)) (.cons (.tmp rfl) .nil)) (Turn.skip (Turn.skip Turn.drop)) ⟨rfl, rfl, hT⟩
  by_cases g4 : b.op = 4
  · rw [if_pos (.inr (.inl g4))] at hT
    refine go ?_
    intro r1 r2 r3
    refine go ?_
    exact b_ret rfl (.cons (.cella rfl rfl (rdsW 0 rfl)) (.cons (.tmp rfl) .nil)) (Turn.skip (Turn.skip Turn.drop)) ⟨rfl, rfl, hT⟩
  by_cases gA : b.a = a.to
  · by_cases gT : b.to = a.to
    · rw [if_neg (by omega)] at hT
      refine go ?_
      intro r1 r2 r3
      refine go ?_
      refine o_ps rfl (together128 a.op a.c b.op b.c (by omega) (by omega) h5 h6) (fun u e => ?_) sl
      subst e
      unfold togV
      cases hq : tog a.op a.c b.op b.c with
      | none =>
        rw [hq] at hT
        refine go ?_
        exact b_ret rfl (.cons (.cella rfl rfl (rdsW 0 rfl)) (.cons (.tmp rfl) .nil)) (Turn.skip (Turn.skip Turn.drop)) ⟨rfl, rfl, hT⟩
      | some q =>
        obtain ⟨o, e⟩ := q
        rw [hq] at hT
        have hop := tog_ok ha.cc hb.cc ⟨hb.op1, hb.op8⟩ (by unfold twoOp; omega) hq
        have hbb := const_b hop.1
        refine go ?_
        refine o_ps rfl (plain84 hG ⟨o, b.to, a.a, 0, e⟩ hbb.1 hbb.2) (fun u e => ?_) sl
        subst e
        refine go ?_
        exact b_ret rfl (.cons (.cella rfl rfl (rdsW 0 rfl)) (.cons (.tmp rfl) .nil)) (Turn.skip (Turn.skip Turn.drop)) ⟨rfl, rfl, hT⟩
    · rw [if_pos (.inr (.inr (.inr gT)))] at hT
      refine go ?_
      intro r1 r2 r3
      refine go ?_
      exact b_ret rfl (.cons (.cella rfl rfl (rdsW 0 rfl)) (.cons (.tmp rfl) .nil)) (Turn.skip (Turn.skip Turn.drop)) ⟨rfl, rfl, hT⟩
  · rw [if_pos (.inr (.inr (.inl gA)))] at hT
    refine go ?_
    intro r1 r2 r3
    refine go ?_
    exact b_ret rfl (.cons (.cella rfl rfl (rdsW 0 rfl)) (.cons (.tmp rfl) .nil)) (Turn.skip (Turn.skip Turn.drop)) ⟨rfl, rfl, hT⟩
end Go.Proofs.YthkoodpnepfijaaGreatDoor
/- VG: A DRAWN REGION where several operations that act may come next: the walk branches. -/
namespace Go.Proofs.YthkoodpnepfijaaGreatDoor
open Go.RowKit
set_option linter.unusedVariables false
set_option linter.unusedSimpArgs false
def dcB (ops : Array Oper) (listed : Array Bool) : Bool := (List.range ops.size).all fun k => !(listed.getD k false) || (match ops[k]? with
  | some o => o.after.all fun e => !(Region.binds .any e) || listed.getD e.on false
  | none => true)
theorem dc_of {ops : Array Oper} {listed : Array Bool} (h : dcB ops listed = true) : Dc ops listed := fun k o hk hl e he hb => by
  have hlt := (Array.getElem?_eq_some_iff.1 hk).1
  have h1 := List.all_eq_true.1 h k (List.mem_range.2 hlt)
  rw [hl, hk] at h1
  simp only [Bool.not_true, Bool.false_or] at h1
  have h2 := Array.all_eq_true_iff_forall_mem.1 h1 e he
  rw [hb] at h2
  simpa using h2
/-- What is left of a drawn region; listed: what has come up. -/
structure Gd (n : Nat) (ops : Array Oper) (fuel : Nat) (listed : Array Bool) (K : St → Prop) (wk : List Ch) (s : St) : Prop where
  out : ∀ B w0 w, Inv B w0 s.own s.F w → wpG Tryz.prog ops (fun a' w' => ∃ s' : St, a' = s'.act n ∧ Inv B w0 s'.own s'.F w' ∧ K s') fuel (Inv B w0 wk s.F) listed (s.act n) w
  sub : List.Sublist wk s.own
section
variable {n : Nat} {ops : Array Oper} {fuel : Nat} {listed : Array Bool} {K : St → Prop} {wk : List Ch} {x : Fr} {b : Nat → Value} {ds : List Deferred} {own : List Ch} {F : Fz}
  {d ty : Nat} {pos : String} {af : Array Edge}
theorem c_drawG {ro : Option Nat} {Q : Exit → St → Prop} {id : Nat} {ops : Array Oper} (wk : List Ch) (hok : (noDefer ops) = true) (h : Gd n ops ops.size (Array.replicate ops.size false) (Q .normal) wk ⟨x, b, ds, own, F⟩) : C n ro (.region id ops true) Q ⟨x, b, ds, own, F⟩ := ⟨fun B w0 w hI => by
  have h1 := h.out B w0 { w with drawn := w.drawn + 1 } (hI.drew _)
  refine wpIn_region_draw fun t => ?_
  simp only [Region.schedule, prog_mixed, Bool.true_or, if_true]
  exact wpAnyIn_sound ops.size t _ _ _ (wpAnyIn_of_g hok _ _ _ _ _ h1)⟩
theorem g_end (hr : (Region.ready .any ops listed).isEmpty = true) (hs : List.Sublist wk own) (h : K ⟨x, b, ds, own, F⟩) : Gd n ops fuel listed K wk ⟨x, b, ds, own, F⟩ :=
  ⟨fun B w0 w hI => wpG_done (List.isEmpty_iff.1 hr) ⟨_, rfl, hI, h⟩ fuel, hs⟩
/-- What acts next. -/
def g_all (ops : Array Oper) (n : Nat) (s : St) (L : Nat → St → Prop) : List Nat → Prop
  | [] => True
  | i :: r => O n ops none [ops.getD i default] (L i) s.own s ∧ g_all ops n s L r
theorem g_ef (l : List Nat) (hl : (Region.ready .any ops listed == l && l.all (fun i => (ops[i]?).isSome) && !l.isEmpty) = true) (hs : List.Sublist wk own)
    (h : g_all ops n ⟨x, b, ds, own, F⟩ (fun i s' => (Fle F s'.F ∨ waits ops listed i = true) ∧ ∃ wk', List.Sublist wk' s'.own ∧ (List.Sublist wk wk' ∨ waits ops listed i = true) ∧ Gd n ops fuel (listed.setIfInBounds i true) K wk' s') l) : Gd n ops (fuel + 1) listed K wk ⟨x, b, ds, own, F⟩ := by
  refine ⟨fun B w0 w hI => ?_, hs⟩
  simp only [Bool.and_eq_true, beq_iff_eq, Bool.not_eq_true'] at hl
  obtain ⟨⟨h1, h2⟩, h3⟩ := hl
  refine ⟨fun e => (by rw [h1] at e; rw [e] at h3; cases h3), ?_⟩
  rw [h1]
  clear h1 h3
  induction l with
  | nil => intro i hi; cases hi
  | cons j l ih =>
    obtain ⟨k1, k2⟩ := h
    simp only [List.all_cons, Bool.and_eq_true] at h2
    intro i hi o ho
    rcases List.mem_cons.1 hi with rfl | hi
    · have hgd : ops.getD i default = o := by simp [ho]
      rw [hgd] at k1
      have := k1.out B w0 w hI
      simp only [wpT] at this
      refine stpO_mono (fun a' w' ⟨s', e, hI', hF, wk', q1, q2, q3⟩ => ?_) this
      subst e
      refine ⟨Inv B w0 wk' s'.F, hI'.sub q1, ?_, q3.out B w0 w' hI'⟩
      rcases hF with hF | hF
      · rcases q2 with q2 | q2
        · refine .inl fun u hu => ?_
          have h1 := hu.sub q2
          exact ⟨h1.bel, h1.big, h1.ok, h1.nod, fun a v x => h1.fr a v (hF a v x), fun c hc a v hb x => h1.ex c hc a v hb (hF a v x)⟩
        · exact .inr q2
      · exact .inr hF
    · exact ih k2 h2.2 i hi o ho
/-- An operation that only reads. -/
theorem g_rd (i : Nat) {op : Op} (v : Value) (hi : ops[i]? = some ⟨some d, op, ty, pos, af, none⟩) (hok : (Region.noSelect ops && Region.free .any ops listed i && (Region.ready .any ops listed).contains i && dcB ops listed) = true) (hv : ∀ B w0 w, Inv B w0 wk F w → (execOp (St.act n ⟨x, b, ds, own, F⟩).eval ⟨some d, op, ty, pos, af, none⟩).run Tryz.prog w = .ok (.value v) w)
    (h : Gd n ops fuel (listed.setIfInBounds i true) K wk ⟨(d, v) :: x, b, ds, own, F⟩) : Gd n ops (fuel + 1) listed K wk ⟨x, b, ds, own, F⟩ := ⟨fun B w0 w hI => by
  simp only [Bool.and_eq_true] at hok
  have hh := h.out B w0 w hI
  refine wpG_first hi (Region.noSelect_spec hok.1.1.1) fuel _ listed _ w (Region.free_spec hi hok.1.1.2) (dc_of hok.2) (by simpa using hok.1.2) (.inl ⟨rfl, fun w hw => hv B w0 w hw⟩) (hI.sub h.sub) ?_
  rw [act_put]
  exact hh, h.sub⟩
/-- .. by its rule. -/
theorem g_o (i : Nat) (v : Value) {op : Op} (hi : ops[i]? = some ⟨some d, op, ty, pos, af, none⟩) (hok : (Region.noSelect ops && Region.free .any ops listed i && (Region.ready .any ops listed).contains i && dcB ops listed) = true) (hrd : isRd op = true) (hd : Nat.blt d n = true)
    (ho : ∀ K' : St → Prop, K' ⟨(d, v) :: x, b, ds, wk, F⟩ → O n ops (some []) [⟨some d, op, ty, pos, af, none⟩] K' wk ⟨x, b, ds, wk, F⟩) (h : Gd n ops fuel (listed.setIfInBounds i true) K wk ⟨(d, v) :: x, b, ds, own, F⟩) : Gd n ops (fuel + 1) listed K wk ⟨x, b, ds, own, F⟩ :=
  g_rd i v hi hok (fun B w0 w hw => by
    have h1 := (ho (fun s' => s' = ⟨(d, v) :: x, b, ds, wk, F⟩) rfl).out B w0 w hw
    simp only [zipF, wpL] at h1
    obtain ⟨S', hS, hsub, hh⟩ := h1
    rcases hh with ⟨v', hy, _, s', e, hI, rfl⟩ | ⟨hr, _⟩
    · have hvv : v' = v := by
        have e2 : (St.act n ⟨x, b, ds, wk, F⟩).put (some d) v' = (St.act n ⟨x, b, ds, wk, F⟩).put (some d) v := e.trans (act_put n ⟨x, b, ds, wk, F⟩ (some d) v).symm
        have e3 := congrArg (fun a : Act => a.tmps[d]?) e2
        have hd' : d < n := by simpa using hd
        simp only [Act.put, St.act, Array.getElem?_setIfInBounds, Array.size_ofFn, hd', if_true] at e3
        exact Option.some.inj e3
      subst hvv
      rcases hy with ⟨_, hv⟩ | ⟨hw', _⟩
      · exact hv w hS
      · cases hw'
    · rw [hrd] at hr; cases hr) h
theorem g_perm {own' : List Ch} (hp : own.Perm own') (h : Gd n ops fuel listed K wk ⟨x, b, ds, own', F⟩) (hs : List.Sublist wk own) : Gd n ops fuel listed K wk ⟨x, b, ds, own, F⟩ := ⟨fun B w0 w hI => h.out B w0 w (hI.perm hp), hs⟩
/-- .. in the middle: the slots may be told anew. -/
theorem g_frame (y : Fr) (hf : fits x y) (h : ∀ b, Gd n ops fuel listed K wk ⟨y, b, ds, own, F⟩) : Gd n ops fuel listed K wk ⟨x, b, ds, own, F⟩ := ⟨fun B w0 w hI => by
  rw [act_fits (s := ⟨x, b, ds, own, F⟩) hf]
  exact (h _).out B w0 w hI, (h b).sub⟩
end
end Go.Proofs.YthkoodpnepfijaaGreatDoor
/- XQ: WALKS: fold: Pass. -/
namespace Go.Proofs.YthkoodpnepfijaaGreatDoor
open Go.RowKit
set_option linter.unusedVariables false
set_option linter.unusedSimpArgs false
set_option maxRecDepth 100000
set_option maxHeartbeats 1000000
theorem inv_trunc {B : Nat} {w0 w : World} {own : List Ch} {F : Fz} {p g m c e s m' : Nat} {xs : List Value} (h : Inv B w0 own F w) (hp : own[p]? = some (.g (.slice (some ⟨g, 0, none⟩) m c) e s m xs)) (hm : m' ≤ m) : Inv B w0 (own.set p (.g (.slice (some ⟨g, 0, none⟩) m' c) e s m' (xs.take (m' * s)))) F w := by
  refine h.move hp ⟨rfl, rfl, rfl, Nat.le_refl _, fun _ _ _ => rfl⟩ ?_ (.inl rfl)
  obtain ⟨hl, hk⟩ := h.ok _ (List.mem_of_getElem? hp)
  have hms : m' * s ≤ m * s := Nat.mul_le_mul_right s hm
  refine ⟨by rw [List.length_take, hl]; omega, .inr ?_⟩
  rcases hk with ⟨hv, _⟩ | ⟨g', cap, cur, hv, h1, h2, h3, h4, h5, h6⟩
  · cases hv
  · cases hv
    refine ⟨g, c, cur, rfl, h1, h2, by omega, h4, h5, ?_⟩
    rw [← h6, List.take_take, Nat.min_eq_left hms]
/-- xs[:h] of a row of its own, which goes on as the shorter one. -/
theorem o_cut {n : Nat} {ops : Array Oper} {rest : List Oper} {K : St → Prop} {x : Fr} {b : Nat → Value} {ds : List Deferred} {own own' : List Ch} {F : Fz} {d ty : Nat} {pos : String} {af : Array Edge}
    {a hi : Operand} {t e s g m c : Nat} [ht : SlT t e s] {xs ys : List Value} {k : IntKind} {z : Int} (p h' : Nat) (ha : evS n x a = some (.slice (some ⟨g, 0, none⟩) m c)) (hhi : evS n x hi = some (.int k z)) (hz : z = h') (hm : h' ≤ m) (hmc : m ≤ c) (hp : own[p]? = some (.g (.slice (some ⟨g, 0, none⟩) m c) e s m xs)) (hx : xs.take (h' * s) = ys)
    (ho : setC own p (.g (.slice (some ⟨g, 0, none⟩) h' c) e s h' ys) = some own') (h : O n ops none rest K own' ⟨(d, .slice (some ⟨g, 0, none⟩) h' c) :: x, b, ds, own', F⟩) : O n ops none (⟨some d, .slice t a none (some hi) none, ty, pos, af, none⟩ :: rest) K own ⟨x, b, ds, own, F⟩ := by
  refine o_slice (A' := some ⟨g, 0, none⟩) 0 h' c ha rfl ⟨k, z, hhi, hz⟩ rfl (fun e => by cases e) (Nat.zero_le _) (by omega) (Nat.le_refl _) (by split <;> simp [Addr.add]) ?_
  refine o_turn (fun B w0 w hI => ?_) h
  have := inv_trunc hI hp hm
  rw [hx, setC_eq ho] at this
  exact this
theorem flat_len5 (l : List Ins) : (l.flatMap vIn).length = l.length * 5 := by
  induction l with
  | nil => rfl
  | cons i l ih => rw [List.flatMap_cons, List.length_append, ih, List.length_cons]; simp [vIn]; omega
/-- A row that is not empty has a block, with room. -/
theorem o_gslQ {n : Nat} {ops : Array Oper} {fl : Option (List Nat)} {todo : List Oper} {K : St → Prop} {x : Fr} {b : Nat → Value} {ds : List Deferred} {own wk : List Ch} {F : Fz} {v : Value} {e s m : Nat} {xs : List Value} (p : Nat) (hp : own[p]? = some (.g v e s m xs)) (hm : 0 < m) (hsub : List.Sublist wk own) (h : ∀ g c, m ≤ c → v = .slice (some ⟨g, 0, none⟩) m c → O n ops fl todo K wk ⟨x, b, ds, own, F⟩) : O n ops fl todo K wk ⟨x, b, ds, own, F⟩ := ⟨fun B w0 w hI => by
  have hok := hI.ok _ (List.mem_of_getElem? hp)
  rcases hok.2 with ⟨hv, hm0⟩ | ⟨g, cap, cur, hv, _, _, hc, _⟩
  · omega
  · exact (h _ _ hc hv).out B w0 w hI, hsub⟩
theorem melt_of (a b : Ins) : ∃ (x : Ins) (t : Bool), meltV a b = .tuple #[.agg (vIn x).toArray, .bool t] ∧ (t = true → meltI a b = some x) := by
  unfold meltV
  cases meltI a b with
  | none => exact ⟨z0I, false, rfl, fun h => by cases h⟩
  | some x => exact ⟨x, true, rfl, fun _ => rfl⟩
theorem fold51 {F : Fz} (hG : Gl F) {p : Prg} {cv ov : Value} (hP : PrR F cv ov p) (hok : p.ok) : Pu 51 [vPr p cv ov] F fun u F' => ∃ q cv' ov', u = .tuple #[vPr q cv' ov', .int .i64 0] ∧ PrR F' cv' ov' q ∧ Sim p q := fun own => by
  obtain ⟨A1, c1, e1⟩ := hP.code.dest
  obtain ⟨A2, c2, e2⟩ := hP.outs.dest
  subst e1 e2
  have o4 := hok.len
  have o6 := hok.outn
  refine n_fun Tryz.func51 Tryz.ntmps51 rfl rfl rfl ?_
  refine go ?_
  intro r1 r2
  refine c_scope (fun _ _ h => h) ?_
  refine go ?_
  refine o_pu rfl (check28 hP hok) (fun v F1 hF1 e => ?_) sl
  subst e
  have hP1 := hP.le hF1
  have hC := hP1.code
  have hO := hP1.outs
  have hG1 := hG.le hF1
  refine go ?_
  refine c_loopT (fun m X o G => ∃ (j : Nat) (cv : Value) (cd : List Ins), m = p.code.length - j ∧ X = [(1, .pointer (some ⟨r1, 0, none⟩)), (2, .pointer (some ⟨r2, 0, none⟩)), (6, cv), (22, .slice A1 p.code.length c1), (23, .int .i64 (p.code.length : Nat)), (24, .int .i64 (j : Nat))] ∧ coC cv cd :: .c r2 [.int .i64 0, .int .i64 0, .slice none 0 0, .slice none 0 0] :: .c r1 [.int .i64 p.ins, .int .i64 p.regs, .slice A1 p.code.length c1, .slice A2 p.outs.length c2] :: own = o ∧ F1 = G ∧ j ≤ p.code.length ∧ FoldI p j cd)
    ⟨_, _, _, _, ⟨0, .slice none 0 0, [], rfl, rfl, rfl, rfl, by omega, fold_nil p⟩, ⟨rfl, rfl, rfl, rfl, rfl, rfl, trivial⟩, Turn.nil 119 5⟩ ?_
  rintro _ _ _ _ b ⟨j, cv, cd, rfl, rfl, rfl, rfl, hj, hcd⟩
  by_cases hjl : j < p.code.length
  · have hio := hok.code _ (getD_mem (z := z0I) hjl)
    have hib := const_b hio.cc
    have hpl := fold_plain (z := z0I) hok hcd hjl
    refine go ?_
    intro r8
    refine go ?_
    refine c_scope (fun _ _ h => h) ?_
    refine go ?_
    refine o_ps rfl (plain84 hG1 _ hib.1 hib.2) (fun u e => ?_) sl
    subst e
    refine go ?_
    intro r9
    refine go ?_
    generalize hI : p.code.getD j z0I = I at *
    refine c_loopT (fun m X o G => ∃ (cv : Value) (cd : List Ins) (i : Ins), m = cd.length + 1 ∧ X = [(1, .pointer (some ⟨r1, 0, none⟩)), (2, .pointer (some ⟨r2, 0, none⟩)), (6, cv), (9, .pointer (some ⟨r9, 0, none⟩)), (22, .slice A1 p.code.length c1), (23, .int .i64 (p.code.length : Nat)), (24, .int .i64 (j : Nat))] ∧ .c r9 (vIn i) :: coC cv cd :: .c r2 [.int .i64 0, .int .i64 0, .slice none 0 0, .slice none 0 0] :: .c r1 [.int .i64 p.ins, .int .i64 p.regs, .slice A1 p.code.length c1, .slice A2 p.outs.length c2] :: own = o ∧ F1 = G ∧ FoldI p (j + 1) (cd ++ [i]))
      ⟨_, _, _, _, ⟨cv, cd, plainI I, rfl, rfl, rfl, rfl, hpl⟩, ⟨rfl, rfl, rfl, rfl, rfl, rfl, rfl, trivial⟩, Turn.of sl (Fle.refl _)⟩ ?_
    rintro _ _ _ _ b ⟨cv, cd, i, rfl, rfl, rfl, rfl, hcd⟩
    have hlen := hcd.len
    rw [List.length_append, List.length_singleton] at hlen
    by_cases hid : i.op = 1 ∧ i.to = i.a
    · have h1 := hid.1
      have h2 := hid.2
      refine go ?_
      exact ⟨_, _, _, _, ⟨j + 1, cv, cd, rfl, rfl, rfl, rfl, by omega, fold_idle hcd h1 h2⟩, ⟨rfl, rfl, rfl, rfl, rfl, eqI (by omega), trivial⟩, Turn.drop, rfl, by omega⟩
    · have hbr : ∀ (K : Prop), (i.op = 1 → ¬ i.to = i.a → K) → (¬ i.op = 1 → K) → K := fun K k1 k2 => by
        by_cases h1 : i.op = 1
        · exact k1 h1 (fun e => hid ⟨h1, e⟩)
        · exact k2 h1
      by_cases hne : cd = []
      · subst hne
        have h0 : ([] : List Ins).length = 0 := rfl
        refine hbr _ (fun h1 h2 => ?_) (fun h1 => ?_)
        all_goals
          refine go ?_
          refine o_gslW 1 rfl sl (fun A c e => ?_)
          subst e
          refine go ?_
          refine o_lit rfl rfl rfl rfl rfl (fun r3 => ?_)
          refine o_app1 1 rfl rfl rfl rfl rfl rfl rfl (by simp) (by simp) (fun _ => rfl) (fun A' c' => ?_)
          refine go ?_
          exact ⟨_, _, _, _, ⟨j + 1, .slice A' 1 c', [i], rfl, rfl, rfl, rfl, by omega, hcd⟩, ⟨rfl, rfl, rfl, rfl, rfl, eqI (by omega), trivial⟩, Turn.drop, rfl, by omega⟩
      · obtain ⟨cd', a, rfl⟩ : ∃ cd' a, cd = cd' ++ [a] := ⟨cd.dropLast, cd.getLast hne, (List.dropLast_concat_getLast hne).symm⟩
        have hak := hcd.ok a (by simp)
        have hik := hcd.ok i (by simp)
        have hcl : (cd' ++ [a]).length = cd'.length + 1 := by simp
        have hfl : (cd' ++ [a]).flatMap vIn = cd'.flatMap vIn ++ vIn a := by simp
        rw [hcl] at hlen
        unfold coC
        rw [hcl, hfl]
        have hf5 := flat_len5 cd'
        obtain ⟨y, t, hmv, hmt⟩ := melt_of a i
        refine hbr _ (fun h1 h2 => ?_) (fun h1 => ?_)
        all_goals
          refine go ?_
          refine o_gslQ 1 rfl (by omega) sl (fun g c hgc e => ?_)
          subst e
          refine goT ?_
          refine c_joinT (fun Y o G => ∃ r10, Y = [(1, .pointer (some ⟨r1, 0, none⟩)), (2, .pointer (some ⟨r2, 0, none⟩)), (6, .slice (some ⟨g, 0, none⟩) (cd'.length + 1) c), (9, .pointer (some ⟨r9, 0, none⟩)), (10, .pointer (some ⟨r10, 0, none⟩)), (11, .bool t), (22, .slice A1 p.code.length c1), (23, .int .i64 (p.code.length : Nat)), (24, .int .i64 (j : Nat))] ∧ .c r10 (vIn y) :: .c r9 (vIn i) :: .g (.slice (some ⟨g, 0, none⟩) (cd'.length + 1) c) 119 5 (cd'.length + 1) (cd'.flatMap vIn ++ vIn a) :: .c r2 [.int .i64 0, .int .i64 0, .slice none 0 0, .slice none 0 0] :: .c r1 [.int .i64 p.ins, .int .i64 p.regs, .slice A1 p.code.length c1, .slice A2 p.outs.length c2] :: own = o ∧ F1 = G) ?_ ?_
          · refine c_drawG [.c r9 (vIn i), .g (.slice (some ⟨g, 0, none⟩) (cd'.length + 1) c) 119 5 (cd'.length + 1) (cd'.flatMap vIn ++ vIn a)] (by decide +kernel) ?_
            refine g_o 0 _ rfl (by decide +kernel) rfl rfl (fun _ h => o_move rfl (o_nil sl h)) ?_
            refine g_o 1 _ rfl (by decide +kernel) rfl rfl (fun _ h => o_move rfl (o_nil sl h)) ?_
            refine g_o 2 _ rfl (by decide +kernel) rfl rfl (fun _ h => o_len rfl (o_nil sl h)) ?_
            refine g_o 3 _ rfl (by decide +kernel) rfl rfl (fun _ h => o_ar rfl rfl rfl ⟨by omega, by omega⟩ (o_nil sl h)) ?_
            refine g_o 4 _ rfl (by decide +kernel) rfl rfl (fun _ h => o_idx cd'.length rfl rfl (by omega) (by omega) (o_nil sl h)) ?_
            refine g_o 5 _ rfl (by decide +kernel) rfl rfl (fun _ h => o_loada (vs := vIn a) rfl rfl (fun k v hv => rdG 1 rfl (by rw [Nat.zero_add, List.getElem?_append_right (by omega), hf5, Nat.add_sub_cancel_left]; exact hv)) (o_nil sl h)) ?_
            refine g_o 6 _ rfl (by decide +kernel) rfl rfl (fun _ h => o_loada rfl rfl (rdsW 0 rfl) (o_nil sl h)) ?_
            refine g_ef [7, 11] (by decide +kernel) sl ⟨?_, ?_, trivial⟩
            all_goals simp only [getD_lit, List.getD_cons_succ, List.getD_cons_zero]
            · refine o_ps rfl (melt85 hG1 hak hik) (fun u e => ?_) sl
              subst e
              rw [hmv]
              refine o_nil sl ⟨.inl (Fle.refl _), _, sl, .inl (List.Sublist.refl _), ?_⟩
              refine g_o 8 _ rfl (by decide +kernel) rfl rfl (fun _ h => o_move rfl (o_nil sl h)) ?_
              refine g_o 9 _ rfl (by decide +kernel) rfl rfl (fun _ h => o_ext rfl rfl (o_nil sl h)) ?_
              refine g_o 10 _ rfl (by decide +kernel) rfl rfl (fun _ h => o_ext rfl rfl (o_nil sl h)) ?_
              refine g_ef [11] (by decide +kernel) sl ⟨?_, trivial⟩
              simp only [getD_lit, List.getD_cons_succ, List.getD_cons_zero]
              refine go ?_
              intro r10
              refine ⟨.inl (Fle.refl _), _, sl, .inl (List.Sublist.refl _), ?_⟩
              refine g_ef [12] (by decide +kernel) sl ⟨?_, trivial⟩
              simp only [getD_lit, List.getD_cons_succ, List.getD_cons_zero]
              refine go ?_
              refine ⟨.inl (Fle.refl _), _, sl, .inl (List.Sublist.refl _), ?_⟩
              refine g_ef [13] (by decide +kernel) sl ⟨?_, trivial⟩
              simp only [getD_lit, List.getD_cons_succ, List.getD_cons_zero]
              refine go ?_
              refine ⟨.inl (Fle.refl _), _, sl, .inl (List.Sublist.refl _), ?_⟩
              refine g_end (by decide +kernel) sl ?_
              exact ⟨_, _, _, ⟨r10, rfl, rfl, rfl⟩, ⟨rfl, rfl, rfl, rfl, rfl, rfl, rfl, rfl, rfl, trivial⟩, Turn.refl _ _, rfl⟩
            · refine go ?_
              intro r10
              refine ⟨.inl (Fle.refl _), _, sl, .inl (List.Sublist.refl _), ?_⟩
              refine g_ef [7] (by decide +kernel) sl ⟨?_, trivial⟩
              simp only [getD_lit, List.getD_cons_succ, List.getD_cons_zero]
              refine o_ps rfl (melt85 hG1 hak hik) (fun u e => ?_) sl
              subst e
              rw [hmv]
              refine o_nil sl ⟨.inl (Fle.refl _), _, sl, .inl (List.Sublist.refl _), ?_⟩
              refine g_o 8 _ rfl (by decide +kernel) rfl rfl (fun _ h => o_move rfl (o_nil sl h)) ?_
              refine g_o 9 _ rfl (by decide +kernel) rfl rfl (fun _ h => o_ext rfl rfl (o_nil sl h)) ?_
              refine g_o 10 _ rfl (by decide +kernel) rfl rfl (fun _ h => o_ext rfl rfl (o_nil sl h)) ?_
              refine g_ef [12] (by decide +kernel) sl ⟨?_, trivial⟩
              simp only [getD_lit, List.getD_cons_succ, List.getD_cons_zero]
              refine go ?_
              refine ⟨.inl (Fle.refl _), _, sl, .inl (List.Sublist.refl _), ?_⟩
              refine g_ef [13] (by decide +kernel) sl ⟨?_, trivial⟩
              simp only [getD_lit, List.getD_cons_succ, List.getD_cons_zero]
              refine go ?_
              refine ⟨.inl (Fle.refl _), _, sl, .inl (List.Sublist.refl _), ?_⟩
              refine g_end (by decide +kernel) sl ?_
              exact ⟨_, _, _, ⟨r10, rfl, rfl, rfl⟩, ⟨rfl, rfl, rfl, rfl, rfl, rfl, rfl, rfl, rfl, trivial⟩, Turn.refl _ _, rfl⟩
          · rintro _ _ _ b ⟨r10, rfl, rfl, rfl⟩
            cases t
            · refine go ?_
              refine o_lit rfl rfl rfl rfl rfl (fun r3 => ?_)
              refine o_app1 2 rfl rfl rfl rfl rfl rfl rfl (by omega) (by omega) (fun _ => rfl) (fun A' c' => ?_)
              refine go ?_
              exact ⟨_, _, _, _, ⟨j + 1, .slice A' (cd'.length + 1 + 1) c', cd' ++ [a] ++ [i], rfl, rfl, rfl, rfl, by omega, hcd⟩, ⟨rfl, rfl, rfl, rfl, rfl, eqI (by omega), trivial⟩, by simp only [coC, List.length_append, List.flatMap_append, List.length_singleton, List.flatMap_cons, List.flatMap_nil, List.append_nil]; exact Turn.skip Turn.drop, rfl, by omega⟩
            · have hm := hmt rfl
              refine go ?_
              refine o_cut (ys := cd'.flatMap vIn) 2 cd'.length rfl rfl (by omega) (by omega) hgc rfl (by rw [List.take_append_of_le_length (by omega), List.take_of_length_le (by omega)]) rfl ?_
              refine go ?_
              refine ⟨_, _, _, _, ⟨.slice (some ⟨g, 0, none⟩) cd'.length c, cd', y, rfl, rfl, rfl, rfl, fold_melt (by rw [List.append_assoc] at hcd; exact hcd) hm⟩, ⟨rfl, rfl, rfl, rfl, rfl, rfl, rfl, trivial⟩, Turn.drop, rfl, by omega⟩
  · obtain rfl : j = p.code.length := by omega
    have hS := fold_sim hok hcd
    refine c_iceS z0I 0 rfl (fun _ => rfl) rfl (fun hcR => ?_)
    obtain ⟨Ac, cc, ec⟩ := hcR.dest
    subst ec
    refine goT ?_
    refine c_drww [.c r1 [.int .i64 p.ins, .int .i64 p.regs, .slice A1 p.code.length c1, .slice A2 p.outs.length c2]] sl rfl (by decide +kernel) ?_
    refine go ?_
    refine o_pu rfl (clone62 (RowM.le hO (Fz.add_le _ _)) (by omega)) (fun v2 F3 hF3 h2 => ?_) sl
    refine go ?_
    obtain ⟨A2', c2', e2⟩ := h2.dest
    subst e2
    refine go ?_
    refine o_staF rfl inferInstance rfl rfl rfl get0 rfl rfl sl (.late [] (by decide +kernel) (List.nil_sublist _)) ?_
    refine go ?_
    exact b_ret rfl (.cons (.cella rfl rfl (rdsW 0 rfl)) (.cons (.tmp rfl) .nil)) (Turn.skip Turn.drop) ⟨rfl, hF1.trans ((Fz.add_le _ _).trans hF3), { p with code := cd }, _, _, rfl, ⟨hcR.le hF3, h2⟩, hS⟩
end Go.Proofs.YthkoodpnepfijaaGreatDoor

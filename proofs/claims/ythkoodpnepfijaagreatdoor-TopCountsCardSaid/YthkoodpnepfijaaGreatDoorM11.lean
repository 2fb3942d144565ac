/-
  Steps towards TopCounts (no conditions of their own): WALKS: points: within, In, None, amount, common, norm, One, Det. WALKS: points: Twins, Bezout. JOINS inside a region; calls that know two chunks. WALKS: the smith: add, times, over, power.
-/
import Derived.Test.YthkoodpnepfijaaGreatDoorM10
/- X1: WALKS: points: within, In, None, amount, common, norm, One, Det. -/
namespace Go.Proofs.YthkoodpnepfijaaGreatDoor
open Go.RowKit
set_option linter.unusedVariables false
set_option maxRecDepth 100000
set_option maxHeartbeats 1000000
instance within72 (z : Int) : ScF 72 [.int .i64 z] (.bool (decide (-16 ≤ z ∧ z ≤ 16))) True := ⟨fun _ F own => by
  refine n_fun Tryz.func72 Tryz.ntmps72 rfl rfl rfl ?_
  by_cases h1 : -16 ≤ z
  · by_cases h2 : z ≤ 16
    all_goals
      refine go ?_
      exact b_ret rfl (.cons (.tmp rfl) .nil) (Turn.refl _ _) ⟨rfl, rfl, by simp [h1, h2, tupV]⟩
  · refine go ?_
    exact b_ret rfl (.cons (.tmp rfl) .nil) (Turn.refl _ _) ⟨rfl, rfl, by simp [h1, tupV]⟩⟩
instance in39 (p : Pnt) : ScF 39 [.agg (vPt p).toArray] (.bool (decide (-16 ≤ p.A ∧ p.A ≤ 16 ∧ -16 ≤ p.B ∧ p.B ≤ 16))) True := ⟨fun _ F own => by
  refine n_fun Tryz.func39 Tryz.ntmps39 rfl rfl rfl ?_
  by_cases h1 : -16 ≤ p.A ∧ p.A ≤ 16
  · refine go ?_
    intros
    exact b_ret rfl (.cons (.tmp rfl) .nil) Turn.drop ⟨rfl, rfl, by simp [h1, tupV]⟩
  · refine go ?_
    intros
    exact b_ret rfl (.cons (.tmp rfl) .nil) Turn.drop ⟨rfl, rfl, by simp [tupV]; omega⟩⟩
instance none41 (p : Pnt) : ScF 41 [.agg (vPt p).toArray] (.bool (decide (p.A = 0 ∧ p.B = 0))) True := ⟨fun _ F own => by
  refine n_fun Tryz.func41 Tryz.ntmps41 rfl rfl rfl ?_
  refine go ?_
  intros
  refine o_eqs (zs := [p.A, p.B]) (ys := [0, 0]) (decide (p.A = 0 ∧ p.B = 0)) rfl rfl rfl rfl rfl rfl (by simp) ?_
  refine go ?_
  intros
  exact b_ret rfl (.cons (.tmp rfl) .nil) Turn.drop ⟨rfl, rfl, rfl⟩⟩
instance count38 (z : Int) : ScF 38 [.int .i64 z] (.bool (decide (1 ≤ z ∧ z ≤ 8))) True := ⟨fun _ F own => by
  refine n_fun Tryz.func38 Tryz.ntmps38 rfl rfl rfl ?_
  by_cases h1 : 1 ≤ z
  · by_cases h2 : z ≤ 8
    all_goals
      refine go ?_
      exact b_ret rfl (.cons (.tmp rfl) .nil) (Turn.refl _ _) ⟨rfl, rfl, by simp [h1, h2, tupV]⟩
  · refine go ?_
    exact b_ret rfl (.cons (.tmp rfl) .nil) (Turn.refl _ _) ⟨rfl, rfl, by simp [h1, tupV]⟩⟩
instance amount181 (z : Int) : ScF 181 [.int .i64 z] (.int .i64 (z.natAbs : Nat)) (-9223372036854775807 ≤ z ∧ z ≤ 9223372036854775807) := ⟨fun ⟨hp, hq⟩ F own => by
  refine n_fun Tryz.func181 Tryz.ntmps181 rfl rfl rfl ?_
  by_cases h1 : z < 0
  · refine go ?_
    exact b_ret rfl (.cons (.tmp rfl) .nil) (Turn.refl _ _) ⟨rfl, rfl, by simp [tupV]; omega⟩
  · refine go ?_
    exact b_ret rfl (.cons (.tmp rfl) .nil) (Turn.refl _ _) ⟨rfl, rfl, by simp [tupV]; omega⟩⟩
instance common144 (a b : Int) : ScF 144 [.int .i64 a, .int .i64 b] (.int .i64 (Int.gcd a b : Nat)) (-16 ≤ a ∧ a ≤ 16 ∧ -16 ≤ b ∧ b ≤ 16) := ⟨fun hp F own => by
  refine n_fun Tryz.func144 Tryz.ntmps144 rfl rfl rfl ?_
  refine go ?_
  refine c_loopE (fun m X o G => ∃ x y : Int, m = y.natAbs ∧ X = [(0, .int .i64 x), (1, .int .i64 y)] ∧ own = o ∧ F = G ∧ Int.gcd x y = Int.gcd a b ∧ (-16 ≤ x ∧ x ≤ 16 ∧ -16 ≤ y ∧ y ≤ 16)) ⟨_, _, _, _, ⟨a, b, rfl, rfl, rfl, rfl, rfl, hp⟩, ⟨rfl, rfl, trivial⟩, rfl, rfl⟩ ?_
  rintro _ _ _ _ b' ⟨x, y, rfl, rfl, rfl, rfl, hg, hx⟩
  by_cases h : y = 0
  · refine go ?_
    refine b_ret rfl (.cons (.tmp rfl) .nil) (Turn.refl _ _) ⟨rfl, rfl, ?_⟩
    simp only [tupV]
    rw [← hg, h, Int.gcd_zero_right]
  · refine go ?_
    have h1 : (x.tmod y).natAbs = x.natAbs % y.natAbs := Int.natAbs_tmod x y
    have h2 : x.natAbs % y.natAbs < y.natAbs := Nat.mod_lt _ (by omega)
    refine ⟨_, _, _, _, ⟨y, x.tmod y, rfl, rfl, rfl, rfl, ?_, by omega⟩, ⟨rfl, rfl, trivial⟩, rfl, rfl, rfl, by omega⟩
    rw [← hg]
    simp only [Int.gcd, h1]
    rw [Nat.gcd_comm x.natAbs, Nat.gcd_rec y.natAbs x.natAbs, Nat.gcd_comm]⟩
/-- A point's norm. -/
def normP (p : Pnt) : Pnt := if gcdP p = 0 then p else if p.B < 0 ∨ (p.B = 0 ∧ p.A < 0) then ⟨p.A.tdiv (-gcdP p), p.B.tdiv (-gcdP p)⟩ else ⟨p.A.tdiv (gcdP p), p.B.tdiv (gcdP p)⟩
instance norm114 (p : Pnt) : ScF 114 [.agg (vPt p).toArray] (.agg (vPt (normP p)).toArray) (-16 ≤ p.A ∧ p.A ≤ 16 ∧ -16 ≤ p.B ∧ p.B ≤ 16) := ⟨fun hp F own => by
  refine n_fun Tryz.func114 Tryz.ntmps114 rfl rfl rfl ?_
  by_cases h0 : gcdP p = 0
  · have h0' : Int.gcd p.A p.B = 0 := by unfold gcdP at h0; omega
    refine go ?_
    intros
    exact b_ret rfl (.cons (.cella rfl rfl (rdsW 0 rfl)) .nil) (Turn.skip Turn.drop) ⟨rfl, rfl, by simp [tupV, normP, h0, vPt]⟩
  · have h0' : ¬ Int.gcd p.A p.B = 0 := by unfold gcdP at h0; omega
    have hg : Int.gcd p.A p.B ≤ 16 := by
      have := (bz_ok (p := p) hp (fun e => h0 (by unfold gcdP; rw [e.1, e.2]; rfl))).g16
      unfold gcdP at this; omega
    by_cases h1 : p.B < 0
    · refine go ?_
      intros
      exact b_ret rfl (.cons (.cella rfl rfl (rdsW 0 rfl)) .nil) (Turn.skip Turn.drop) ⟨rfl, rfl, by unfold normP; rw [if_neg h0]; simp only [h1, true_or, if_true]; rfl⟩
    · by_cases h2 : p.B = 0
      · by_cases h3 : p.A < 0
        all_goals
          refine go ?_
          intros
          exact b_ret rfl (.cons (.cella rfl rfl (rdsW 0 rfl)) .nil) (Turn.skip Turn.drop) ⟨rfl, rfl, by unfold normP; rw [if_neg h0]; first | (rw [if_pos (.inr ⟨h2, h3⟩)]; rfl) | (rw [if_neg (by omega)]; rfl)⟩
      · refine go ?_
        intros
        exact b_ret rfl (.cons (.cella rfl rfl (rdsW 0 rfl)) .nil) (Turn.skip Turn.drop) ⟨rfl, rfl, by unfold normP; rw [if_neg h0, if_neg (by omega)]; rfl⟩⟩
theorem pnt_eq {p q : Pnt} : [p.A, p.B] = [q.A, q.B] ↔ p = q := by cases p; cases q; simp
instance one74 (p q : Pnt) : ScF 74 [.agg (vPt p).toArray, .agg (vPt q).toArray] (.tuple #[.bool (decide (normP p = normP q)), .int .i64 0]) ((-16 ≤ p.A ∧ p.A ≤ 16 ∧ -16 ≤ p.B ∧ p.B ≤ 16) ∧ (-16 ≤ q.A ∧ q.A ≤ 16 ∧ -16 ≤ q.B ∧ q.B ≤ 16)) := ⟨fun ⟨hp, hq⟩ F own => by
  refine n_fun Tryz.func74 Tryz.ntmps74 rfl rfl rfl ?_
  refine go ?_
  intros
  refine c_drwo [0, 2, 1, 3, 4, 5, 6] (by kernel_rfl) (by simp only [List.map_cons, List.map_nil, getD_lit, List.getD_cons_zero, List.getD_cons_succ]; exact rfl) ?_
  refine go ?_
  refine o_eqs (zs := [(normP p).A, (normP p).B]) (ys := [(normP q).A, (normP q).B]) (decide (normP p = normP q)) rfl rfl rfl rfl rfl rfl (by simp only [pnt_eq]) ?_
  refine go ?_
  exact b_ret rfl (.cons (.tmp rfl) (.cons (.tmp rfl) .nil)) (Turn.skip Turn.drop) ⟨rfl, rfl, rfl⟩⟩
instance det149 (p q : Pnt) : ScF 149 [.agg (vPt p).toArray, .agg (vPt q).toArray] (.tuple #[.int .i64 (p.A * q.B - q.A * p.B), .int .i64 0]) ((-16 ≤ p.A ∧ p.A ≤ 16 ∧ -16 ≤ p.B ∧ p.B ≤ 16) ∧ (-16 ≤ q.A ∧ q.A ≤ 16 ∧ -16 ≤ q.B ∧ q.B ≤ 16)) := ⟨fun ⟨hp, hq⟩ F own => by
  have key : ∀ a b : Int, -16 ≤ a → a ≤ 16 → -16 ≤ b → b ≤ 16 → -256 ≤ a * b ∧ a * b ≤ 256 := fun a b h1 h2 h3 h4 => by
    have : (a * b).natAbs ≤ 16 * 16 := by rw [Int.natAbs_mul]; exact Nat.mul_le_mul (by omega) (by omega)
    omega
  have k1 := key p.A q.B (by omega) (by omega) (by omega) (by omega)
  have k2 := key q.A p.B (by omega) (by omega) (by omega) (by omega)
  refine n_fun Tryz.func149 Tryz.ntmps149 rfl rfl rfl ?_
  refine go ?_
  intros
  exact b_ret rfl (.cons (.tmp rfl) (.cons (.tmp rfl) .nil)) (Turn.skip Turn.drop) ⟨rfl, rfl, rfl⟩⟩
end Go.Proofs.YthkoodpnepfijaaGreatDoor
/- X2: WALKS: points: Twins, Bezout. -/
namespace Go.Proofs.YthkoodpnepfijaaGreatDoor
open Go.RowKit
set_option linter.unusedVariables false
set_option maxRecDepth 100000
set_option maxHeartbeats 1000000
/-- A function that makes nothing that stays. -/
def Ps (f : FuncId) (args : List Value) (F : Fz) (R : Value → Prop) : Prop := ∀ own, N f args own F fun v own' F' => own' = own ∧ F' = F ∧ R v
theorem o_ps {n : Nat} {ops : Array Oper} {fl : Option (List Nat)} {rest : List Oper} {K : St → Prop} {wk : List Ch} {x : Fr} {b : Nat → Value} {ds : List Deferred} {own : List Ch} {F : Fz} {d ty : Nat} {pos : String} {af : Array Edge}
  {f : FuncId} {os : List Operand} {ats : Array TypeId} {vs : List Value} {R : Value → Prop} [hf : Fn_ f] (ha : evL n x os = some vs) (hN : Ps f vs F R)
    (h : ∀ v, R v → O n ops fl rest K wk ⟨(d, v) :: x, b, ds, own, F⟩) (hsub : List.Sublist wk own := by first | exact List.Sublist.refl _ | exact List.nil_sublist _ | exact List.Sublist.cons _ (List.Sublist.refl _) | exact List.Sublist.cons _ (List.Sublist.cons _ (List.Sublist.refl _)) | exact List.Sublist.cons _ (List.Sublist.cons _ (List.Sublist.cons _ (List.Sublist.refl _)))) :
    O n ops fl (⟨some d, .call { callee := .value (.func f), args := os.toArray, argTypes := ats }, ty, pos, af, none⟩ :: rest) K wk ⟨x, b, ds, own, F⟩ :=
  o_call ha (hN own) (fun v own' F' ⟨e, h1, h2⟩ => ⟨wk, .keep (by rw [e]; exact hsub) (by rw [h1]; exact Fle.refl _), by rw [e, h1]; exact h v h2⟩) hsub
theorem getD_mem {α : Type} {l : List α} {i : Nat} {z : α} (h : i < l.length) : l.getD i z ∈ l := by rw [List.getD_eq_getElem?_getD, List.getElem?_eq_getElem h]; exact List.getElem_mem h
/-- Two of them are one. -/
def TwinP (l : List Pnt) : Prop := ∃ i j, i < j ∧ j < l.length ∧ normP (ptAt l i) = normP (ptAt l j)
theorem twins42 {v : Value} {l : List Pnt} {F : Fz} (hl : PtsR F v l) (hin : ∀ p ∈ l, InP p) (hlen : l.length < 1099511627776) : Ps 42 [v] F fun u => ∃ i j t, u = .tuple #[.int .i64 i, .int .i64 j, .bool t] ∧ (t = true ↔ TwinP l) := fun own => by
  refine n_fun Tryz.func42 Tryz.ntmps42 rfl rfl rfl ?_
  refine go ?_
  refine c_loopT (fun m X o G => ∃ j : Nat, m = l.length - j ∧ X = [(0, v), (11, v), (12, .int .i64 (l.length : Nat)), (13, .int .i64 (j : Nat))] ∧ own = o ∧ F = G ∧ j ≤ l.length ∧ ∀ i k, i < k → k < j → normP (ptAt l i) ≠ normP (ptAt l k)) ⟨_, _, _, _, ⟨0, rfl, rfl, rfl, rfl, Nat.zero_le _, fun i k h1 h2 => by omega⟩, ⟨rfl, rfl, rfl, rfl, trivial⟩, Turn.refl _ _⟩ ?_
  rintro _ _ _ _ b ⟨j, rfl, rfl, rfl, rfl, hj, hno⟩
  by_cases h : j < l.length
  · refine go ?_
    intro r
    refine go ?_
    refine o_slhS j rfl hl rfl rfl hj (fun v1 hv1 => ?_)
    have hlt : (l.take j).length = j := by rw [List.length_take]; omega
    refine go ?_
    refine c_loopT (fun m X o G => ∃ i : Nat, m = j - i ∧ X = [(0, v), (5, .int .i64 (j : Nat)), (6, .pointer (some ⟨r, 0, none⟩)), (11, v), (12, .int .i64 (l.length : Nat)), (13, .int .i64 (j : Nat)), (20, v1), (21, .int .i64 (j : Nat)), (22, .int .i64 (i : Nat))] ∧ .c r (vPt (l.getD j z0P)) :: own = o ∧ F = G ∧ i ≤ j ∧ ∀ k, k < i → normP (ptAt l k) ≠ normP (ptAt l j)) ⟨_, _, _, _, ⟨0, rfl, rfl, rfl, rfl, Nat.zero_le _, fun k h1 => by omega⟩, ⟨rfl, rfl, rfl, rfl, rfl, rfl, rfl, eqI (by omega), rfl, trivial⟩, Turn.refl _ _⟩ ?_
    rintro _ _ _ _ b ⟨i, rfl, rfl, rfl, rfl, hi, hno2⟩
    by_cases h2 : i < j
    · have hp := hin _ (getD_mem (z := z0P) h)
      have hq := hin _ (getD_mem (z := z0P) (show i < l.length by omega))
      have e : (l.take j).getD i z0P = l.getD i z0P := by simp only [List.getD_eq_getElem?_getD, List.getElem?_take, if_pos h2]
      refine go ?_
      intro r2
      refine go ?_
      rw [e]
      have hpq : (-16 ≤ (l.getD i z0P).A ∧ (l.getD i z0P).A ≤ 16 ∧ -16 ≤ (l.getD i z0P).B ∧ (l.getD i z0P).B ≤ 16) ∧ (-16 ≤ (l.getD j z0P).A ∧ (l.getD j z0P).A ≤ 16 ∧ -16 ≤ (l.getD j z0P).B ∧ (l.getD j z0P).B ≤ 16) := ⟨hq, hp⟩
      by_cases h3 : normP (l.getD i z0P) = normP (l.getD j z0P)
      · refine go ?_
        exact b_ret rfl (.cons (.tmp rfl) (.cons (.tmp rfl) (.cons (.tmp rfl) .nil))) (Turn.skip Turn.drop) ⟨rfl, rfl, _, _, _, rfl, by simp; exact ⟨i, j, h2, h, h3⟩⟩
      · refine go ?_
        exact ⟨_, _, _, _, ⟨i + 1, rfl, rfl, rfl, rfl, by omega, fun k hk => by
          by_cases hki : k = i
          · subst hki; exact h3
          · exact hno2 k (by omega)⟩, ⟨rfl, rfl, rfl, rfl, rfl, rfl, rfl, rfl, eqI (by omega), trivial⟩, Turn.drop, rfl, by omega⟩
    · have hij : i = j := by omega
      subst hij
      refine go ?_
      exact ⟨_, _, _, _, ⟨i + 1, rfl, rfl, rfl, rfl, by omega, fun k m h1 h2 => by
        by_cases hm : m = i
        · subst hm; exact hno2 k h1
        · exact hno k m h1 (by omega)⟩, ⟨rfl, rfl, rfl, eqI (by omega), trivial⟩, Turn.drop, rfl, by omega⟩
  · refine go ?_
    exact b_ret rfl (.cons (.tmp rfl) (.cons (.tmp rfl) (.cons (.tmp rfl) .nil))) (Turn.refl _ _) ⟨rfl, rfl, _, _, _, rfl, by
      simp
      rintro ⟨i, k, h1, h2, h3⟩
      exact hno i k h1 (by omega) h3⟩
theorem mul_small {a b : Int} {m n : Nat} (ha : a.natAbs ≤ m) (hb : b.natAbs ≤ n) : -((m * n : Nat) : Int) ≤ a * b ∧ a * b ≤ ((m * n : Nat) : Int) := by
  have : (a * b).natAbs ≤ m * n := by rw [Int.natAbs_mul]; exact Nat.mul_le_mul ha hb
  omega
instance bezout120 (p : Pnt) : ScF 120 [.agg (vPt p).toArray] (.tuple #[.int .i64 (gcdP p), .int .i64 (bezP p).1, .int .i64 (bezP p).2, .int .i64 0]) ((-16 ≤ p.A ∧ p.A ≤ 16 ∧ -16 ≤ p.B ∧ p.B ≤ 16) ∧ ¬ NotP p) := ⟨fun ⟨hp, hn⟩ F own => by
  have hb := bz_ok hp hn
  have hg0 := hb.g0
  have hg16 := hb.g16
  unfold gcdP at hg0 hg16
  have hg0' : ¬ Int.gcd p.A p.B = 0 := by omega
  have fin : ∀ (u v : Int), (u, v) = bezP p → Value.tuple #[.int .i64 (Int.gcd p.A p.B : Nat), .int .i64 u, .int .i64 v, .int .i64 0] = .tuple #[.int .i64 (gcdP p), .int .i64 (bezP p).1, .int .i64 (bezP p).2, .int .i64 0] := fun u v h => by rw [← h]; rfl
  refine n_fun Tryz.func120 Tryz.ntmps120 rfl rfl rfl ?_
  by_cases h0 : p.B = 0
  · refine go ?_
    intros
    exact b_ret rfl (.cons (.tmp rfl) (.cons (.tmp rfl) (.cons (.tmp rfl) (.cons (.tmp rfl) .nil)))) Turn.drop ⟨rfl, rfl, fin _ _ (by unfold bezP; rw [if_neg (by unfold gcdP; omega), if_pos h0]; rfl)⟩
  · have hS : bezP p = bezS p.A p.B (gcdP p) 17 0 := by unfold bezP; rw [if_neg (by unfold gcdP; omega), if_neg h0]
    have hend : ∀ u, bezS p.A p.B (gcdP p) 0 u ≠ bezP p := fun u h => by
      have := hb.eq
      rw [← h] at this
      simp only [bezS] at this
      unfold gcdP at this
      omega
    refine go ?_
    intro r
    refine go ?_
    refine c_loopT (fun m X o G => ∃ u : Nat, m = 17 - u ∧ X = [(1, .pointer (some ⟨r, 0, none⟩)), (6, .int .i64 (Int.gcd p.A p.B : Nat)), (7, .int .i64 (u : Nat))] ∧ .c r (vPt p) :: own = o ∧ F = G ∧ u ≤ 17 ∧ bezP p = bezS p.A p.B (gcdP p) (17 - u) (u : Nat)) ⟨_, _, _, _, ⟨0, rfl, rfl, rfl, rfl, by omega, hS⟩, ⟨rfl, rfl, rfl, trivial⟩, Turn.refl _ _⟩ ?_
    rintro _ _ _ _ b ⟨u, rfl, rfl, rfl, rfl, hu, hbz⟩
    by_cases hu17 : u = 17
    · subst hu17; exact absurd hbz.symm (hend _)
    obtain ⟨f, hf⟩ : ∃ f, 17 - u = f + 1 := ⟨16 - u, by omega⟩
    rw [hf] at hbz
    unfold bezS at hbz
    have b1 := mul_small (a := (u : Int)) (b := p.A) (m := 17) (n := 16) (by omega) (by omega)
    have b2 := mul_small (a := -(u : Int)) (b := p.A) (m := 17) (n := 16) (by omega) (by omega)
    refine go ?_
    refine o_buildA rfl rfl ?_
    refine go ?_
    refine c_loopT (fun m X o G => ∃ i : Nat, m = 2 - i ∧ X = [(1, .pointer (some ⟨r, 0, none⟩)), (6, .int .i64 (Int.gcd p.A p.B : Nat)), (7, .int .i64 (u : Nat)), (36, .agg [.int .i64 (u : Nat), .int .i64 (-(u : Int))].toArray), (37, .int .i64 (i : Nat))] ∧ .c r (vPt p) :: own = o ∧ F = G ∧ i ≤ 2 ∧ (0 < i → ¬ (gcdP p - u * p.A).tmod p.B = 0) ∧ (1 < i → ¬ (gcdP p - -u * p.A).tmod p.B = 0)) ⟨_, _, _, _, ⟨0, rfl, rfl, rfl, rfl, by omega, fun h => by omega, fun h => by omega⟩, ⟨rfl, rfl, rfl, rfl, rfl, trivial⟩, Turn.refl _ _⟩ ?_
    rintro _ _ _ _ b ⟨i, rfl, rfl, rfl, rfl, hi, hi0, hi1⟩
    by_cases hi2 : i = 2
    · subst hi2
      rw [if_neg (hi0 (by omega)), if_neg (hi1 (by omega))] at hbz
      refine go ?_
      exact ⟨_, _, _, _, ⟨u + 1, rfl, rfl, rfl, rfl, by omega, by rw [hbz, show 17 - (u + 1) = f by omega]; rfl⟩, ⟨rfl, rfl, eqI (by omega), trivial⟩, Turn.refl _ _, rfl, by omega⟩
    · by_cases hi00 : i = 0
      · subst hi00
        refine go ?_
        refine o_ixa 0 rfl rfl rfl (by decide) rfl ?_
        by_cases ht : (gcdP p - (u : Int) * p.A).tmod p.B = 0
        · have ht' : ((Int.gcd p.A p.B : Nat) - (u : Int) * p.A : Int).tmod p.B = 0 := ht
          rw [if_pos ht] at hbz
          refine go ?_
          exact b_ret rfl (.cons (.tmp rfl) (.cons (.tmp rfl) (.cons (.tmp rfl) (.cons (.tmp rfl) .nil)))) Turn.drop ⟨rfl, rfl, fin _ _ hbz.symm⟩
        · have ht' : ¬ ((Int.gcd p.A p.B : Nat) - (u : Int) * p.A : Int).tmod p.B = 0 := ht
          refine go ?_
          exact ⟨_, _, _, _, ⟨0 + 1, rfl, rfl, rfl, rfl, by omega, fun _ => ht, fun h => by omega⟩, ⟨rfl, rfl, rfl, rfl, eqI (by omega), trivial⟩, Turn.refl _ _, rfl, by omega⟩
      · obtain rfl : i = 1 := by omega
        refine go ?_
        refine o_ixa 1 rfl rfl rfl (by decide) rfl ?_
        by_cases ht : (gcdP p - -(u : Int) * p.A).tmod p.B = 0
        · have ht' : ((Int.gcd p.A p.B : Nat) - -(u : Int) * p.A : Int).tmod p.B = 0 := ht
          rw [if_neg (hi0 (by omega)), if_pos ht] at hbz
          refine go ?_
          exact b_ret rfl (.cons (.tmp rfl) (.cons (.tmp rfl) (.cons (.tmp rfl) (.cons (.tmp rfl) .nil)))) Turn.drop ⟨rfl, rfl, fin _ _ hbz.symm⟩
        · have ht' : ¬ ((Int.gcd p.A p.B : Nat) - -(u : Int) * p.A : Int).tmod p.B = 0 := ht
          refine go ?_
          exact ⟨_, _, _, _, ⟨1 + 1, rfl, rfl, rfl, rfl, by omega, fun _ => hi0 (by omega), fun _ => ht⟩, ⟨rfl, rfl, rfl, rfl, eqI (by omega), trivial⟩, Turn.refl _ _, rfl, by omega⟩⟩
end Go.Proofs.YthkoodpnepfijaaGreatDoor
/- VD: JOINS inside a region; calls that know two chunks. -/
namespace Go.Proofs.YthkoodpnepfijaaGreatDoor
open Go.RowKit
set_option linter.unusedVariables false
set_option linter.unusedSimpArgs false
section
variable {P : Program} {ops : Array Oper}
theorem wpT_mono {K K' : Act → World → Prop} (h : ∀ a w, K a w → K' a w) : ∀ {l : List Oper} {a : Act} {w : World}, wpT P ops K l a w → wpT P ops K' l a w
  | [], _, _, hk => h _ _ hk
  | o :: rest, _, _, hk => stpO_mono (fun a w k => wpT_mono h k) hk
theorem wpL_mono {K K' : Act → World → Prop} (h : ∀ a w, K a w → K' a w) : ∀ {l : List (Bool × Oper)} {S : World → Prop} {a : Act} {w : World}, wpL P ops K l S a w → wpL P ops K' l S a w
  | [], _, _, _, hk => h _ _ hk
  | (n, o) :: rest, _, _, _, hk => by
    obtain ⟨S', h1, h2, h3⟩ := hk
    refine ⟨S', h1, h2, ?_⟩
    rcases h3 with ⟨v, k1, k2, k3⟩ | ⟨k1, k2⟩
    · exact .inl ⟨v, k1, k2, wpL_mono h k3⟩
    · exact .inr ⟨k1, stpO_mono (fun a w ⟨S'', m1, m2, m3⟩ => ⟨S'', m1, m2, wpL_mono h m3⟩) k2⟩
end
/-- Ways that join at a region's end. -/
theorem o_joinT {n : Nat} {ops : Array Oper} {fl : Option (List Nat)} {todo : List Oper} {K : St → Prop} {wk : List Ch} {x : Fr} {b : Nat → Value} {ds : List Deferred} {own : List Ch} {F : Fz} (P : Pt)
    (h1 : O n ops fl todo (fun s' => ∃ y o F, P y o F ∧ fits s'.x y ∧ Turn s'.own s'.F o F ∧ s'.ds = ds) wk ⟨x, b, ds, own, F⟩)
    (h2 : ∀ y o F b, P y o F → K ⟨y, b, ds, o, F⟩) : O n ops fl todo K wk ⟨x, b, ds, own, F⟩ := by
  have key : ∀ B w0 (a' : Act) (w' : World), (∃ s' : St, a' = s'.act n ∧ Inv B w0 s'.own s'.F w' ∧ ∃ y o F, P y o F ∧ fits s'.x y ∧ Turn s'.own s'.F o F ∧ s'.ds = ds) → ∃ s' : St, a' = s'.act n ∧ Inv B w0 s'.own s'.F w' ∧ K s' := fun B w0 a' w' ⟨s', e, hI, y, o, F, hp, hf, ht, hd⟩ => by
    refine ⟨⟨y, look s'.b s'.x, ds, o, F⟩, ?_, ht B w0 w' hI, h2 y o F _ hp⟩
    rw [e, act_fits hf]
    simp only [St.act, hd]
  refine ⟨fun B w0 w hI => ?_, h1.sub⟩
  have h := h1.out B w0 w hI
  cases fl with
  | none => exact wpT_mono (key B w0) h
  | some l => exact wpL_mono (key B w0) h
theorem eqB {p q : Bool} (h : p = q) : some (Value.bool p) = some (.bool q) := by rw [h]
end Go.Proofs.YthkoodpnepfijaaGreatDoor
/- X3: WALKS: the smith: add, times, over, power. -/
namespace Go.Proofs.YthkoodpnepfijaaGreatDoor
open Go.RowKit
set_option linter.unusedVariables false
set_option maxRecDepth 100000
set_option maxHeartbeats 1000000
theorem perm_get {α : Type} {l : List α} {p : Nat} {c : α} (h : l[p]? = some c) : ∃ r, l.Perm (c :: r) ∧ ∀ d, (d :: r).Perm (l.set p d) := by
  induction l generalizing p with
  | nil => cases h
  | cons a l ih =>
    cases p with
    | zero => cases h; exact ⟨l, .refl _, fun d => .refl _⟩
    | succ p =>
      obtain ⟨r, h1, h2⟩ := ih h
      exact ⟨a :: r, (h1.cons a).trans (.swap ..), fun d => (List.Perm.swap ..).trans ((h2 d).cons a)⟩
theorem perm_get2 {α : Type} {l : List α} {p q : Nat} {c g : α} (h : l[p]? = some c) (k : l[q]? = some g) (hpq : p ≠ q) : ∃ r, l.Perm (c :: g :: r) ∧ ∀ d e, (d :: e :: r).Perm ((l.set p d).set q e) := by
  induction l generalizing p q with
  | nil => cases h
  | cons a l ih =>
    cases p with
    | zero =>
      cases h
      cases q with
      | zero => exact absurd rfl hpq
      | succ q =>
        obtain ⟨r, h1, h2⟩ := perm_get (show l[q]? = some g from k)
        exact ⟨r, h1.cons _, fun d e => (h2 e).cons d⟩
    | succ p =>
      cases q with
      | zero =>
        cases k
        obtain ⟨r, h1, h2⟩ := perm_get (show l[p]? = some c from h)
        exact ⟨r, (h1.cons _).trans (.swap ..), fun d e => (List.Perm.swap ..).trans ((h2 d).cons e)⟩
      | succ q =>
        obtain ⟨r, h1, h2⟩ := ih h k (by omega)
        refine ⟨a :: r, (h1.cons a).trans ((List.Perm.swap ..).trans ((List.Perm.swap ..).cons _)), fun d e => ?_⟩
        exact (((List.Perm.swap ..).cons d).trans (List.Perm.swap ..)).trans ((h2 d e).cons a)
/-- Two chunks, wherever they stand. -/
theorem N.pos {f : FuncId} {args : List Value} {own : List Ch} {F : Fz} {c g : Ch} {p q : Nat} {R : Value → Ch → Ch → Fz → Prop} (h : ∀ rest, N f args (c :: g :: rest) F fun v o F' => ∃ c' g', o = c' :: g' :: rest ∧ R v c' g' F') (hp : own[p]? = some c) (hq : own[q]? = some g) (hpq : p ≠ q) :
    N f args own F fun v o F' => ∃ c' g', o = (own.set p c').set q g' ∧ R v c' g' F' := ⟨fun B w0 w hI => by
  obtain ⟨r, h1, h2⟩ := perm_get2 hp hq hpq
  refine ((h r).out B w0 w (hI.perm h1)).mono fun e w' ⟨v, o, F', he, hI', c', g', ho, hr⟩ => ?_
  subst ho
  exact ⟨v, _, F', he, hI'.perm (h2 c' g'), c', g', rfl, hr⟩⟩
def setC2 (own : List Ch) (p q : Nat) (c g : Ch) : Option (List Ch) := match setC own p c with
  | some o => setC o q g
  | none => none
theorem setC2_eq {own own' : List Ch} {p q : Nat} {c g : Ch} (h : setC2 own p q c g = some own') : (own.set p c).set q g = own' := by
  unfold setC2 at h
  cases h1 : setC own p c with
  | none => rw [h1] at h; cases h
  | some o => rw [h1] at h; rw [setC_eq h1, setC_eq h]
/-- A row that grows is a slice. -/
theorem o_gsl {n : Nat} {ops : Array Oper} {todo : List Oper} {K : St → Prop} {x : Fr} {b : Nat → Value} {ds : List Deferred} {own : List Ch} {F : Fz} {v : Value} {e s m : Nat} {xs : List Value} (p : Nat) (hp : own[p]? = some (.g v e s m xs)) (h : ∀ A c, v = .slice A m c → O n ops none todo K own ⟨x, b, ds, own, F⟩) : O n ops none todo K own ⟨x, b, ds, own, F⟩ := ⟨fun B w0 w hI => by
  have hok := hI.ok _ (List.mem_of_getElem? hp)
  rcases hok.2 with ⟨hv, hm⟩ | ⟨g, cap, cur, hv, _⟩
  · subst hm; exact (h none 0 hv).out B w0 w hI
  · exact (h _ _ hv).out B w0 w hI, List.Sublist.refl _⟩
/-- append(s, x, ..): the new cells' block goes. -/
theorem o_app1 {n : Nat} {ops : Array Oper} {rest : List Oper} {K : St → Prop} {x : Fr} {b : Nat → Value} {ds : List Deferred} {F : Fz} {d ty : Nat} {pos : String} {af : Array Edge}
  {t e s by_ m m' r : Nat} {a a' : Operand} {v : Value} {zs us xs : List Value} {own0 : List Ch} {own' : Value → List Ch} [ht : SlT t e s] [hz : ZrT e zs] [hb : ByT e by_] (p : Nat) (ha : evS n x a = some v) (ha' : evS n x a' = some (.slice (some ⟨r, 0, none⟩) m' m')) (hp : own0[p]? = some (.g v e s m xs))
    (hl : us.length = m' * s) (hone : us.all One = true) (hs : zs.length = s) (hs0 : Nat.blt 0 s = true) (hlt : (m + m') * by_ ≤ 140737488355328) (h63 : m + m' ≤ 9223372036854775807) (ho : ∀ v', setC own0 p (.g v' e s (m + m') (xs ++ us)) = some (own' v'))
    (h : ∀ A c, O n ops none rest K (own' (.slice A (m + m') c)) ⟨(d, .slice A (m + m') c) :: x, b, ds, own' (.slice A (m + m') c), F⟩) :
    O n ops none (⟨some d, .call { callee := .builtin .append, args := #[a, a'], argTypes := #[t, t] }, ty, pos, af, none⟩ :: rest) K (.c r us :: own0) ⟨x, b, ds, .c r us :: own0, F⟩ :=
  o_append (t' := 0) (news := us) (p + 1) ha ha' (by simpa using hp) hl (rdsC 0 rfl (fun i v hi => by rw [Nat.zero_add]; exact hi)) hone hs hs0 hlt h63 (wk' := fun v' => (Ch.c r us :: own0).set (p + 1) (.g v' e s (m + m') (xs ++ us))) (fun v' hv' => by
    rw [List.set_cons_succ, setC_eq (ho v')]
    refine o_turn Turn.drop (o_gsl p (v := v') (m := m + m') (e := e) (s := s) (xs := xs ++ us) ?_ fun A c ev => ?_)
    · rw [← setC_eq (ho v')]; exact List.getElem?_set_self (List.getElem?_eq_some_iff.1 hp).1
    · subst ev; exact h A c) (List.Sublist.refl _) (fun _ => .text)
/-- The smith: its block, its code. -/
abbrev smC (rs n : Nat) (cv wv : Value) : Ch := .c rs [.int .i64 (n : Nat), cv, wv]
abbrev coC (cv : Value) (code : List Ins) : Ch := .g cv 119 5 code.length (code.flatMap vIn)
/-- A call that adds instructions. -/
def Em (n : Nat) (wv : Value) (f : FuncId) (args : Nat → List Value) (F : Fz) (new : List Ins) : Prop := ∀ rs cv code rest, code.length + new.length ≤ 1000000 →
  N f (args rs) (smC rs n cv wv :: coC cv code :: rest) F fun v o F' => ∃ cv', o = smC rs n cv' wv :: coC cv' (code ++ new) :: rest ∧ F' = F
/-- A region that draws its order, walked in a given one; what its reads look at. -/
theorem c_drwoW {n : Nat} {ro : Option Nat} {Q : Exit → St → Prop} {x : Fr} {b : Nat → Value} {ds : List Deferred} {own : List Ch} {F : Fz} {id : Nat} {ops : Array Oper} {l : List Oper} (order : List Nat) (wk : List Ch) (hok : (Region.noSelect ops && noDefer ops && ordOk ops (Array.replicate ops.size false) order && (order.length == ops.size)) = true) (hl : (order.map fun i => ops.getD i default) = l)
    (h : O n ops (some order) l (Q .normal) wk ⟨x, b, ds, own, F⟩) : C n ro (.region id ops true) Q ⟨x, b, ds, own, F⟩ := c_drawo order wk h.sub hok (by rw [hl]; exact h)
theorem o_em {n : Nat} {ops : Array Oper} {fl : Option (List Nat)} {rest : List Oper} {K : St → Prop} {x : Fr} {b : Nat → Value} {ds : List Deferred} {own wk : List Ch} {F : Fz} {d ty : Nat} {pos : String} {af : Array Edge}
  {f : FuncId} {os : List Operand} {ats : Array TypeId} {m rs : Nat} {wv cv : Value} {args : Nat → List Value} {code new : List Ins} {own' wk' : Value → List Ch} [hf : Fn_ f] (p q : Nat) (hN : Em m wv f args F new) (ha : evL n x os = some (args rs)) (hp : own[p]? = some (smC rs m cv wv)) (hq : own[q]? = some (coC cv code)) (hpq : Nat.beq p q = false) (hl : code.length + new.length ≤ 1000000)
    (hs : ∀ cv', setC2 own p q (smC rs m cv' wv) (coC cv' (code ++ new)) = some (own' cv'))
    (h : ∀ v cv', O n ops fl rest K (wk' cv') ⟨(d, v) :: x, b, ds, own' cv', F⟩) (hw : ∀ cv', Wk fl (Fg ops fl rest.length) wk F (own' cv') F (wk' cv') := by first | exact fun _ => Wk.text | exact fun _ => Wk.late _ (by decide +kernel) (List.Sublist.refl _) | exact fun _ => Wk.keep (by first | exact List.nil_sublist _ | exact .cons_cons _ (List.nil_sublist _) | exact .cons_cons _ (.cons_cons _ (List.nil_sublist _))) (Fle.refl _))
    (hsub : List.Sublist wk own := by first | exact List.Sublist.refl _ | exact List.nil_sublist _ | exact .cons_cons _ (List.nil_sublist _) | exact .cons_cons _ (.cons_cons _ (List.nil_sublist _))) :
    O n ops fl (⟨some d, .call { callee := .value (.func f), args := os.toArray, argTypes := ats }, ty, pos, af, none⟩ :: rest) K wk ⟨x, b, ds, own, F⟩ := by
  have hne : p ≠ q := fun e => by rw [e, show Nat.beq q q = true from Nat.beq_refl q] at hpq; cases hpq
  have h1 := N.pos (R := fun v c' g' F' => ∃ cv', c' = smC rs m cv' wv ∧ g' = coC cv' (code ++ new) ∧ F' = F) (fun rest => (hN rs cv code rest hl).mono fun v o F' ⟨cv', e1, e2⟩ => ⟨_, _, e1, cv', rfl, rfl, e2⟩) hp hq hne
  refine o_call ha h1 (fun v o F' ⟨c', g', e1, cv', e2, e3, e4⟩ => ?_) hsub
  subst e1 e2 e3 e4
  rw [setC2_eq (hs cv')]
  exact ⟨_, hw cv', h v cv'⟩
theorem add148 {n : Nat} {wv : Value} {F : Fz} (op to a b c : Int) : Em n wv 148 (fun rs => [.pointer (some ⟨rs, 0, none⟩), .int .i64 op, .int .i64 to, .int .i64 a, .int .i64 b, .int .i64 c]) F [⟨op, to, a, b, c⟩] := fun rs cv code rest hl => by
  simp only [List.length_singleton] at hl
  refine n_fun Tryz.func148 Tryz.ntmps148 rfl rfl rfl ?_
  refine go ?_
  refine o_lit rfl rfl rfl rfl rfl (fun r => ?_)
  refine o_app1 1 rfl rfl rfl rfl rfl rfl rfl (by omega) (by omega) (fun _ => rfl) (fun A' c' => ?_)
  refine go ?_
  refine b_norm rfl .nil (Turn.refl _ _) ⟨.slice A' (code.length + 1) c', ?_, rfl⟩
  simp only [coC, List.length_append, List.flatMap_append, List.length_singleton, List.flatMap_cons, List.flatMap_nil, List.append_nil]
  rfl
theorem times123 {n : Nat} {wv : Value} {F : Fz} (to a c : Int) : Em n wv 123 (fun rs => [.pointer (some ⟨rs, 0, none⟩), .int .i64 to, .int .i64 a, .int .i64 c]) F (tm to a c) := fun rs cv code rest hl => by
  unfold tm at hl ⊢
  refine n_fun Tryz.func123 Tryz.ntmps123 rfl rfl rfl ?_
  by_cases h0 : c = 0
  · rw [if_pos h0] at hl ⊢
    refine go ?_
    refine o_em 0 1 (add148 _ _ _ _ _) rfl rfl rfl rfl hl (fun _ => rfl) (fun v cv' => ?_)
    refine go ?_
    exact b_norm rfl .nil (Turn.refl _ _) ⟨_, rfl, rfl⟩
  rw [if_neg h0] at hl ⊢
  by_cases h1 : c = 1
  · by_cases h2 : to = a
    · rw [if_pos ⟨h1, h2⟩] at hl ⊢
      refine go ?_
      exact b_norm rfl .nil (Turn.refl _ _) ⟨_, by rw [List.append_nil], rfl⟩
    · rw [if_neg (fun h => h2 h.2), if_pos h1] at hl ⊢
      refine go ?_
      refine o_em 0 1 (add148 _ _ _ _ _) rfl rfl rfl rfl hl (fun _ => rfl) (fun v cv' => ?_)
      refine go ?_
      exact b_norm rfl .nil (Turn.refl _ _) ⟨_, rfl, rfl⟩
  rw [if_neg (fun h => h1 h.1), if_neg h1] at hl ⊢
  by_cases h2 : c = -1
  · rw [if_pos h2] at hl ⊢
    refine go ?_
    refine o_em 0 1 (add148 _ _ _ _ _) rfl rfl rfl rfl hl (fun _ => rfl) (fun v cv' => ?_)
    refine go ?_
    exact b_norm rfl .nil (Turn.refl _ _) ⟨_, rfl, rfl⟩
  · rw [if_neg h2] at hl ⊢
    refine go ?_
    refine o_em 0 1 (add148 _ _ _ _ _) rfl rfl rfl rfl hl (fun _ => rfl) (fun v cv' => ?_)
    refine go ?_
    exact b_norm rfl .nil (Turn.refl _ _) ⟨_, rfl, rfl⟩
theorem over121 {n : Nat} {wv : Value} {F : Fz} (to c : Int) : Em n wv 121 (fun rs => [.pointer (some ⟨rs, 0, none⟩), .int .i64 to, .int .i64 c]) F (ov to c) := fun rs cv code rest hl => by
  unfold ov at hl ⊢
  refine n_fun Tryz.func121 Tryz.ntmps121 rfl rfl rfl ?_
  by_cases h1 : c = 1
  · rw [if_pos h1] at hl ⊢
    refine go ?_
    exact b_norm rfl .nil (Turn.refl _ _) ⟨_, by rw [List.append_nil], rfl⟩
  rw [if_neg h1] at hl ⊢
  by_cases h2 : c = -1
  · rw [if_pos h2] at hl ⊢
    refine go ?_
    refine o_em 0 1 (add148 _ _ _ _ _) rfl rfl rfl rfl hl (fun _ => rfl) (fun v cv' => ?_)
    refine go ?_
    exact b_norm rfl .nil (Turn.refl _ _) ⟨_, rfl, rfl⟩
  · rw [if_neg h2] at hl ⊢
    refine go ?_
    refine o_em 0 1 (add148 _ _ _ _ _) rfl rfl rfl rfl hl (fun _ => rfl) (fun v cv' => ?_)
    refine go ?_
    exact b_norm rfl .nil (Turn.refl _ _) ⟨_, rfl, rfl⟩
theorem power150 {n : Nat} {wv : Value} {F : Fz} (to a c : Int) (e : Nat) (hc : -5000 ≤ c ∧ c ≤ 5000) (he : e ≤ 1000) : Em n wv 150 (fun rs => [.pointer (some ⟨rs, 0, none⟩), .int .i64 to, .int .i64 a, .int .i64 c, .int .i64 (e : Nat)]) F (pw to a c e) := fun rs cv code rest hl => by
  unfold pw at hl ⊢
  refine n_fun Tryz.func150 Tryz.ntmps150 rfl rfl rfl ?_
  by_cases h1 : (c = 0 ∧ 0 < e) ∨ c = 1 ∨ c = -1
  · rw [if_pos h1] at hl ⊢
    by_cases h2 : c = -1 ∧ e % 2 = 0
    · rw [if_pos h2] at hl ⊢
      obtain ⟨hc1, he2⟩ := h2
      subst hc1
      refine go ?_
      refine o_em 0 1 (times123 _ _ _) rfl rfl rfl rfl hl (fun _ => rfl) (fun v cv' => ?_)
      refine go ?_
      exact b_ret rfl .nil (Turn.refl _ _) ⟨_, rfl, rfl⟩
    · rw [if_neg h2] at hl ⊢
      rcases h1 with ⟨h1, h3⟩ | h1 | h1
      all_goals
        subst h1
        refine go ?_
        refine o_em 0 1 (times123 _ _ _) rfl rfl rfl rfl hl (fun _ => rfl) (fun v cv' => ?_)
        refine go ?_
        exact b_ret rfl .nil (Turn.refl _ _) ⟨_, rfl, rfl⟩
  · rw [if_neg h1] at hl ⊢
    have h2 : ¬ c = 1 := by omega
    have h3 : ¬ c = -1 := by omega
    have h4 : ¬ (c = 0 ∧ 0 < e) := by omega
    generalize htot : pwL to c e a 1 = tot at hl ⊢
    by_cases h0 : c = 0
    all_goals
      refine go ?_
      clear h0
      refine c_loopT (fun m X o G => ∃ (j : Nat) (fr k : Int) (cv : Value) (dn : List Ins), m = e - j ∧ X = [(0, .pointer (some ⟨rs, 0, none⟩)), (1, .int .i64 to), (3, .int .i64 c), (10, .int .i64 fr), (11, .int .i64 k), (39, .int .i64 (e : Nat)), (40, .int .i64 (j : Nat))] ∧ smC rs n cv wv :: coC cv (code ++ dn) :: rest = o ∧ F = G ∧ j ≤ e ∧ -5000 ≤ k ∧ k ≤ 5000 ∧ dn ++ pwL to c (e - j) fr k = tot)
        ⟨_, _, _, _, ⟨0, a, 1, cv, [], rfl, rfl, rfl, rfl, by omega, by omega, by omega, htot⟩, ⟨rfl, rfl, rfl, rfl, rfl, rfl, rfl, trivial⟩, by rw [List.append_nil]; exact Turn.refl _ _⟩ ?_
      rintro _ _ _ _ b ⟨j, fr, k, cv, dn, rfl, rfl, rfl, rfl, hj, hk1, hk2, hdn⟩
      by_cases hje : j < e
      · rcases Classical.em (c = 0) with hc0 | hc0
        · exact absurd ⟨hc0, by omega⟩ h4
        obtain ⟨m, hm⟩ : ∃ m, e - j = m + 1 := ⟨e - j - 1, by omega⟩
        rw [hm] at hdn
        unfold pwL at hdn
        have hb := mul_small (a := k) (b := c) (m := 5000) (n := 5000) (by omega) (by omega)
        by_cases ht : k * c > 512 ∨ k * c < -512
        · rw [if_pos ht] at hdn
          have hlen : (tm to fr k).length ≤ tot.length - dn.length := by rw [← hdn]; simp
          have hlen2 : dn.length ≤ tot.length := by rw [← hdn]; simp
          by_cases ht1 : k * c > 512
          all_goals
            refine go ?_
            refine o_em 0 1 (times123 _ _ _) rfl rfl rfl rfl (by rw [List.length_append]; omega) (fun _ => rfl) (fun v cv' => ?_)
            refine go ?_
            exact ⟨_, _, _, _, ⟨j + 1, to, 1 * c, cv', dn ++ tm to fr k, rfl, rfl, rfl, rfl, by omega, by omega, by omega, by rw [show e - (j + 1) = m by omega, List.append_assoc]; exact hdn⟩, ⟨rfl, rfl, rfl, rfl, rfl, rfl, eqI (by omega), trivial⟩, by rw [List.append_assoc]; exact Turn.refl _ _, rfl, by omega⟩
        · rw [if_neg ht] at hdn
          refine go ?_
          exact ⟨_, _, _, _, ⟨j + 1, fr, k * c, cv, dn, rfl, rfl, rfl, rfl, by omega, by omega, by omega, by rw [show e - (j + 1) = m by omega]; exact hdn⟩, ⟨rfl, rfl, rfl, rfl, rfl, rfl, eqI (by omega), trivial⟩, Turn.refl _ _, rfl, by omega⟩
      · rw [show e - j = 0 by omega] at hdn
        unfold pwL at hdn
        refine go ?_
        refine o_em 0 1 (times123 _ _ _) rfl rfl rfl rfl (by rw [List.length_append, Nat.add_assoc, ← List.length_append, hdn]; exact hl) (fun _ => rfl) (fun v cv' => ?_)
        refine go ?_
        exact b_norm rfl .nil (Turn.refl _ _) ⟨cv', by rw [← hdn, List.append_assoc], rfl⟩
end Go.Proofs.YthkoodpnepfijaaGreatDoor

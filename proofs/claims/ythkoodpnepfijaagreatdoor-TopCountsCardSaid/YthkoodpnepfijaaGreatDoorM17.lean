/-
  Steps towards TopCounts (no conditions of their own): WALKS: how often two divides a number. WALKS: eval: points, times; calls that add to a program. WALKS: eval: the closures that add to the program; Program. PLAINLY: how long the program that evaluates is.
-/
import Derived.Test.YthkoodpnepfijaaGreatDoorM08
import Derived.Test.YthkoodpnepfijaaGreatDoorM13
import Derived.Test.YthkoodpnepfijaaGreatDoorM15
import Derived.Test.YthkoodpnepfijaaGreatDoorM16
/- WL: WALKS: how often two divides a number. -/
namespace Go.Proofs.YthkoodpnepfijaaGreatDoor
open Go.RowKit
set_option linter.unusedVariables false
set_option linter.unusedSimpArgs false
set_option maxRecDepth 100000
set_option maxHeartbeats 1000000
/-- The table that a constant of de Bruijn makes: which turn brings each window. -/
def tabOf (w c s : Nat) : List Nat := (List.range w).map fun i => ((List.range w).find? fun v => 2 ^ v * c % 2 ^ w / s == i).getD 0
def tab32 : List Nat := tabOf 32 125613361 134217728
def tab64 : List Nat := tabOf 64 285870213051353865 288230376151711744
/-- What the two tables hold. -/
structure Gl (F : Fz) : Prop where
  g0 : Cs F ⟨0, 0, none⟩ (tab32.map fun k => Value.int .u8 (k : Nat))
  g1 : Cs F ⟨1, 0, none⟩ (tab64.map fun k => Value.int .u8 (k : Nat))
theorem Gl.le {F G : Fz} (h : Gl F) (hl : Fle F G) : Gl G := ⟨h.g0.le hl, h.g1.le hl⟩
theorem tabs_ok : (∀ v, v < 32 → tab32[2 ^ v * 125613361 % 4294967296 / 134217728]? = some v) ∧ (∀ v, v < 64 → tab64[2 ^ v * 285870213051353865 % 18446744073709551616 / 288230376151711744]? = some v) := by
  constructor <;> decide +kernel
/-- The lowest bit. -/
theorem low_bit (w : Nat) : ∀ (v m : Nat), 2 ^ v * (2 * m + 1) < 2 ^ w → (2 ^ v * (2 * m + 1)) &&& (2 ^ w - 2 ^ v * (2 * m + 1)) = 2 ^ v := by
  intro v m h
  have hvw : v < w := by
    have h0 : 2 ^ v * 1 ≤ 2 ^ v * (2 * m + 1) := Nat.mul_le_mul_left _ (by omega)
    exact (Nat.pow_lt_pow_iff_right (a := 2) (by decide)).1 (by omega)
  obtain ⟨k, rfl⟩ : ∃ k, w = v + (k + 1) := ⟨w - v - 1, by omega⟩
  rw [Nat.pow_add] at h ⊢
  have h1 : 2 * m + 1 < 2 ^ (k + 1) := Nat.lt_of_mul_lt_mul_left h
  rw [← Nat.mul_sub]
  have hm : m < 2 ^ k := by rw [Nat.pow_succ] at h1; omega
  have e : 2 ^ (k + 1) - (2 * m + 1) = 2 * (2 ^ k - (m + 1)) + 1 := by rw [Nat.pow_succ]; omega
  rw [e]
  apply Nat.eq_of_testBit_eq
  intro i
  rw [Nat.testBit_and, Nat.testBit_two_pow_mul, Nat.testBit_two_pow_mul, Nat.testBit_two_pow]
  by_cases hi : v ≤ i
  · simp only [hi, decide_true, Bool.true_and]
    obtain ⟨j, rfl⟩ : ∃ j, i = v + j := ⟨i - v, by omega⟩
    rw [Nat.add_sub_cancel_left]
    cases j with
    | zero => simp [Nat.testBit_zero]
    | succ j =>
      rw [Nat.testBit_succ, Nat.testBit_succ, show (2 * m + 1) / 2 = m by omega, show (2 * (2 ^ k - (m + 1)) + 1) / 2 = 2 ^ k - (m + 1) by omega, Nat.testBit_two_pow_sub_succ hm]
      rw [show decide (v = v + (j + 1)) = false from decide_eq_false (by omega)]
      cases m.testBit j <;> simp
  · have : ¬ v = i := by omega
    simp [hi, this]
theorem twos_ex : ∀ x : Nat, 0 < x → ∃ v m, x = 2 ^ v * (2 * m + 1) := by
  intro x
  induction x using Nat.strongRecOn with
  | _ x ih =>
    intro h
    by_cases h2 : x % 2 = 0
    · obtain ⟨v, m, e⟩ := ih (x / 2) (by omega) (by omega)
      exact ⟨v + 1, m, by rw [Nat.pow_succ, Nat.mul_comm (2 ^ v) 2, Nat.mul_assoc, ← e]; omega⟩
    · exact ⟨0, x / 2, by omega⟩
section
variable {n : Nat} {ops : Array Oper} {fl : Option (List Nat)} {rest : List Oper} {K : St → Prop} {wk : List Ch} {x : Fr} {b : Nat → Value} {ds : List Deferred} {own : List Ch} {F : Fz}
  {d ty : Nat} {pos : String} {af : Array Edge}
/-- + - *, whatever the kind. -/
theorem o_arX {op : BinOp} {a a' : Operand} {t t' : Nat} {k : IntKind} {p q z : Int} (z' : Int) (ha : evS n x a = some (.int k p)) (ha' : evS n x a' = some (.int k q)) (hz : arV op p q = some z) (he : k.wrap z = z') (h : O n ops fl rest K wk ⟨(d, .int k z') :: x, b, ds, own, F⟩) : O n ops fl (⟨some d, .binOp op t a a' t', ty, pos, af, none⟩ :: rest) K wk ⟨x, b, ds, own, F⟩ :=
  o_rd _ rfl (fun B w0 w hw => by
    subst he
    unfold execOp
    cases op <;> simp only [arV, Option.some.injEq, reduceCtorEq] at hz <;> subst hz <;> simp [evx ha, evx ha', eqGuard, binOp, Op.intArith, Result.andThen]) h
theorem o_negX {a : Operand} {t : Nat} {k : IntKind} {p : Int} (z : Int) (ha : evS n x a = some (.int k p)) (hz : k.wrap (-p) = z) (h : O n ops fl rest K wk ⟨(d, .int k z) :: x, b, ds, own, F⟩) : O n ops fl (⟨some d, .unOp .neg t a, ty, pos, af, none⟩ :: rest) K wk ⟨x, b, ds, own, F⟩ :=
  o_rd _ rfl (fun B w0 w hw => by
    subst hz
    unfold execOp; simp [evx ha, Op.unary, Op.intArith]) h
end
theorem tz115 {x v m : Nat} {F : Fz} (hG : Gl F) (hx : x = 2 ^ v * (2 * m + 1)) (hb : x < 4294967296) : Pu 115 [.int .u32 (x : Nat)] F fun u F' => F' = F ∧ u = .int .i64 (v : Nat) := fun own => by
  have hlow := low_bit 32 v m (by rw [← hx]; exact hb)
  rw [← hx] at hlow
  have hv : v < 32 := by
    have h0 : 2 ^ v * 1 ≤ 2 ^ v * (2 * m + 1) := Nat.mul_le_mul_left _ (by omega)
    exact (Nat.pow_lt_pow_iff_right (a := 2) (by decide)).1 (by omega)
  have hpos : 0 < x := by rw [hx]; exact Nat.mul_pos (Nat.pow_pos (by decide)) (by omega)
  clear hx
  have htab := tabs_ok.1 v hv
  refine n_fun Tryz.func115 Tryz.ntmps115 rfl rfl rfl ?_
  refine go ?_
  refine o_negX ((4294967296 - x : Nat) : Int) rfl (by simp only [IntKind.wrap, IntKind.signed, IntKind.bits]; simp; omega) ?_
  refine go ?_
  refine o_val (.int .u32 ((2 ^ v : Nat) : Int)) (by rw [← hlow]) ?_
  refine o_arX ((2 ^ v * 125613361 % 4294967296 : Nat) : Int) rfl rfl rfl (by simp only [IntKind.wrap, IntKind.signed, IntKind.bits]; simp) ?_
  refine o_shr (q := 27) rfl rfl (by decide) ?_
  have hj : (2 ^ v * 125613361 % 4294967296) / 134217728 < 32 := by omega
  refine o_idxa ((2 ^ v * 125613361 % 4294967296) / 134217728) rfl rfl (by simp) hj ?_
  refine o_load rfl (.inl (hG.g0 _ (.int .u8 (v : Nat)) (by rw [Nat.mul_one, List.getElem?_map, htab]; rfl))) ?_
  refine go ?_
  exact b_ret rfl (.cons (.tmp rfl) .nil) (Turn.refl _ _) ⟨rfl, Fle.refl _, rfl, rfl⟩
theorem tz116 {x v m : Nat} {F : Fz} (hG : Gl F) (hx : x = 2 ^ v * (2 * m + 1)) (hb : x < 18446744073709551616) : Pu 116 [.int .u64 (x : Nat)] F fun u F' => F' = F ∧ u = .int .i64 (v : Nat) := fun own => by
  have hlow := low_bit 64 v m (by rw [← hx]; exact hb)
  rw [← hx] at hlow
  have hv : v < 64 := by
    have h0 : 2 ^ v * 1 ≤ 2 ^ v * (2 * m + 1) := Nat.mul_le_mul_left _ (by omega)
    exact (Nat.pow_lt_pow_iff_right (a := 2) (by decide)).1 (by omega)
  have hpos : 0 < x := by rw [hx]; exact Nat.mul_pos (Nat.pow_pos (by decide)) (by omega)
  clear hx
  have htab := tabs_ok.2 v hv
  refine n_fun Tryz.func116 Tryz.ntmps116 rfl rfl rfl ?_
  refine go ?_
  refine o_negX ((18446744073709551616 - x : Nat) : Int) rfl (by simp only [IntKind.wrap, IntKind.signed, IntKind.bits]; simp; omega) ?_
  refine go ?_
  refine o_val (.int .u64 ((2 ^ v : Nat) : Int)) (by rw [← hlow]) ?_
  refine o_arX ((2 ^ v * 285870213051353865 % 18446744073709551616 : Nat) : Int) rfl rfl rfl (by simp only [IntKind.wrap, IntKind.signed, IntKind.bits]; simp) ?_
  refine o_shr (q := 58) rfl rfl (by decide) ?_
  have hj : (2 ^ v * 285870213051353865 % 18446744073709551616) / 288230376151711744 < 64 := by omega
  refine o_idxa ((2 ^ v * 285870213051353865 % 18446744073709551616) / 288230376151711744) rfl rfl (by simp) hj ?_
  refine o_load rfl (.inl (hG.g1 _ (.int .u8 (v : Nat)) (by rw [Nat.mul_one, List.getElem?_map, htab]; rfl))) ?_
  refine go ?_
  exact b_ret rfl (.cons (.tmp rfl) .nil) (Turn.refl _ _) ⟨rfl, Fle.refl _, rfl, rfl⟩
theorem tz75 {x v m : Nat} {F : Fz} (hG : Gl F) (hx : x = 2 ^ v * (2 * m + 1)) (hb : x < 18446744073709551616) : Pu 75 [.int .u64 (x : Nat)] F fun u F' => F' = F ∧ u = .int .i64 (v : Nat) := fun own => by
  refine n_fun Tryz.func75 Tryz.ntmps75 rfl rfl rfl ?_
  refine go ?_
  refine o_pu rfl (tz116 hG hx hb) (fun u F1 hF ⟨e1, e2⟩ => ?_)
  subst e1 e2
  refine go ?_
  exact b_ret rfl (.cons (.tmp rfl) .nil) (Turn.refl _ _) ⟨rfl, Fle.refl _, rfl, rfl⟩
/-- The lowest limb that is not nought. -/
theorem twos_row {l : List Nat} (hd : Dig l) {i : Nat} (hi : i < l.length) (hz : ∀ j, j < i → l.getD j 0 = 0) {v m : Nat} (he : l.getD i 0 = 2 ^ v * (2 * m + 1)) : ∃ m', num l = 2 ^ (32 * i + v) * (2 * m' + 1) := by
  have hv : v < 32 := by
    have h0 : 2 ^ v * 1 ≤ 2 ^ v * (2 * m + 1) := Nat.mul_le_mul_left _ (by omega)
    have := hd i hi
    exact (Nat.pow_lt_pow_iff_right (a := 2) (by decide)).1 (by omega)
  have h1 := num_drop l i (by omega)
  have h2 : numF (fun i => l.getD i 0) i = 0 := (numF_zero (Nat.zero_le i) (fun j _ hj => hz j hj))
  rw [h2, Nat.zero_add] at h1
  have h3 := num_drop (l.drop i) 1 (by simp; omega)
  rw [show numF (fun j => (l.drop i).getD j 0) 1 = l.getD i 0 from by simp [numF, getD_drop]] at h3
  have h4 : (4294967296 : Nat) = 2 ^ v * (2 * 2 ^ (31 - v)) := by
    rw [← Nat.mul_assoc, Nat.mul_comm (2 ^ v) 2, Nat.mul_assoc, ← Nat.pow_add, show v + (31 - v) = 31 by omega]
  have h5 : (4294967296 : Nat) ^ i = 2 ^ (32 * i) := by rw [Nat.pow_mul]
  rw [h1, h3, he, Nat.pow_one, h5, Nat.pow_add]
  refine ⟨m + 2 ^ (31 - v) * num (List.drop 1 (List.drop i l)), ?_⟩
  generalize num (List.drop 1 (List.drop i l)) = q
  rw [h4]
  generalize 2 ^ (31 - v) = p
  rw [Nat.mul_assoc (2 ^ (32 * i))]
  congr 1
  rw [Nat.mul_assoc, ← Nat.mul_add]
  congr 1
  rw [Nat.mul_add, Nat.mul_assoc]
  omega
theorem twos213 {u : Value} {l : List Nat} {F : Fz} (hG : Gl F) (hr : Lr F u l) (hl : l.length < 1099511627776) (h0 : 0 < num l) : Pu 213 [u] F fun w F' => F' = F ∧ ∃ v m : Nat, w = .int .i64 (v : Nat) ∧ num l = 2 ^ v * (2 * m + 1) := fun own => by
  have hr1 := hr.row
  refine n_fun Tryz.func213 Tryz.ntmps213 rfl rfl rfl ?_
  refine go ?_
  refine c_loopE (fun m y o G => ∃ i : Nat, i ≤ l.length ∧ (∀ j, j < i → l.getD j 0 = 0) ∧ m = l.length - i ∧ y = [(5, u), (6, .int .i64 (l.length : Nat)), (7, .int .i64 (i : Nat))] ∧ own = o ∧ F = G) ⟨_, _, _, _, ⟨0, Nat.zero_le _, fun j hj => by omega, rfl, rfl, rfl, rfl⟩, ⟨rfl, rfl, rfl, trivial⟩, rfl, rfl⟩ ?_
  rintro m y o G b ⟨i, hi, hz, rfl, rfl, rfl, rfl⟩
  have hlt : i < l.length := by
    rcases Nat.lt_or_ge i l.length with h | h
    · exact h
    · exfalso
      have : num l = 0 := by
        have := numF_zero (f := fun j => l.getD j 0) (Nat.zero_le l.length) (fun j _ hj => hz j (by omega))
        exact this
      omega
  by_cases ha : 0 < l.getD i 0
  · obtain ⟨v, m, he⟩ := twos_ex _ ha
    have hdi := hr.dig i hlt
    have h32 : v < 32 := by
      have h0 : 2 ^ v * 1 ≤ 2 ^ v * (2 * m + 1) := Nat.mul_le_mul_left _ (by omega)
      exact (Nat.pow_lt_pow_iff_right (a := 2) (by decide)).1 (by omega)
    have heH : Hid (l.getD i 0 = 2 ^ v * (2 * m + 1)) := he
    clear he
    refine go ?_
    refine o_pu rfl (tz115 hG heH hdi) (fun u F1 hF ⟨e1, e2⟩ => ?_)
    subst e1 e2
    refine go ?_
    obtain ⟨m', hm'⟩ := twos_row hr.dig hlt hz heH
    exact b_ret rfl (.cons (.tmp rfl) .nil) (Turn.refl _ _) ⟨rfl, Fle.refl _, rfl, _, m', by simp [tupV], hm'⟩
  · refine go ?_
    refine ⟨_, _, _, _, ⟨i + 1, by omega, fun j hj => ?_, rfl, rfl, rfl, rfl⟩, ⟨rfl, rfl, rfl, trivial⟩, rfl, rfl, rfl, by omega⟩
    by_cases e : j = i
    · subst e; omega
    · exact hz j (by omega)
theorem twos200 {u : Value} {z : Int} {k : Nat} {F : Fz} (hG : Gl F) (hu : IntR F u z) (h0 : z ≠ 0) (hx : z.natAbs < 2 ^ k) (hk : k ≤ 8796093022208) : Pu 200 [u] F fun w F' => F' = F ∧ ∃ v m : Nat, w = .int .i64 (v : Nat) ∧ z.natAbs = 2 ^ v * (2 * m + 1) := fun own => by
  have hu0 := hu
  obtain ⟨neg, v, l, rfl, hv, ht, hz, hp⟩ := hu
  have hxa : z.natAbs = num l := by rw [hz, sg_abs]
  have hl := len_le ht (by rw [← hxa]; exact hx)
  clear hx
  obtain ⟨A, c, hA⟩ := hv.row.dest
  subst hA
  refine n_fun Tryz.func200 Tryz.ntmps200 rfl rfl rfl ?_
  refine go ?_
  intro r1
  refine o_pu rfl (sign143 hu0) (fun v2 F2 hF2 ⟨h2, h3⟩ => ?_)
  subst h2 h3
  have hs : z.sign ≠ 0 := fun e => h0 (Int.sign_eq_zero_iff_zero.1 e)
  refine go ?_
  refine o_pu rfl (twos213 hG hv (by omega) (by omega)) (fun v2 F2 hF2 ⟨h2, v, m, h3, h4⟩ => ?_)
  subst h2 h3
  refine go ?_
  exact b_ret rfl (.cons (.tmp rfl) .nil) Turn.drop ⟨rfl, Fle.refl _, rfl, v, m, rfl, by rw [hxa]; exact h4⟩
theorem pow_le_twos {c v m q : Nat} (h : 2 ^ v * (2 * m + 1) = 2 ^ c * q) : c ≤ v := by
  rcases Nat.lt_or_ge v c with h1 | h1
  · exfalso
    obtain ⟨d, rfl⟩ : ∃ d, c = v + (d + 1) := ⟨c - v - 1, by omega⟩
    rw [Nat.pow_add, Nat.mul_assoc] at h
    have := Nat.eq_of_mul_eq_mul_left (Nat.pow_pos (by decide)) h
    rw [Nat.pow_succ, Nat.mul_assoc, Nat.mul_left_comm] at this
    omega
  · exact h1
/-- Exact: the quotient; else an error. -/
theorem shr179 {u : Value} {x : Int} {c k : Nat} {F : Fz} (hG : Gl F) (hu : IntR F u x) (hc : c < 1099511627776) (hx : x.natAbs < 2 ^ k) (hk : k ≤ 8796093022208) : Pu 179 [u, .int .i64 (c : Nat)] F fun v F' => ∃ v' e, v = .tuple #[v', .int .i64 e] ∧ (e = 0 ∨ e = 20) ∧ (∃ y, IntR F' v' y) ∧ ((∃ q, x = 2 ^ c * q) → e = 0) ∧ (e = 0 → ∃ q, x = 2 ^ c * q ∧ IntR F' v' q) := fun own => by
  have hu0 := hu
  obtain ⟨neg, v, l, rfl, hv, ht, hz, hp⟩ := hu
  have hxa : x.natAbs = num l := by rw [hz, sg_abs]
  have hl := len_le ht (by rw [← hxa]; exact hx)
  obtain ⟨A, c0, hA⟩ := hv.row.dest
  subst hA
  refine n_fun Tryz.func179 Tryz.ntmps179 rfl rfl rfl ?_
  have hxH : Hid (x.natAbs < 2 ^ k) := hx
  clear hx
  refine go ?_
  intro r1 r2
  refine o_pu rfl (sign143 hu0) (fun v2 F2 hF2 ⟨h2, h3⟩ => ?_)
  subst h2 h3
  by_cases h0 : x = 0
  · subst h0
    have hs : (0 : Int).sign = 0 := rfl
    refine go ?_
    exact b_ret rfl (.cons (.cella rfl rfl (rdsW 0 rfl)) (.cons (.tmp rfl) .nil)) (Turn.sub (List.Sublist.cons _ (List.sublist_cons_self ..))) ⟨rfl, Fle.refl _, _, 0, rfl, .inl rfl, ⟨0, IntR.zero _⟩, fun _ => rfl, fun _ => ⟨0, by simp, IntR.zero _⟩⟩
  · have hs : x.sign ≠ 0 := fun e => h0 (Int.sign_eq_zero_iff_zero.1 e)
    refine go ?_
    refine o_pu rfl (twos200 hG hu0 h0 hxH hk) (fun v2 F2 hF2 ⟨h2, v, m, h3, h4⟩ => ?_)
    subst h2 h3
    have h4H : Hid (x.natAbs = 2 ^ v * (2 * m + 1)) := h4
    clear h4
    by_cases hvc : v < c
    · refine go ?_
      refine b_ret rfl (.cons (.cella rfl rfl (rdsW 0 rfl)) (.cons (.tmp rfl) .nil)) (Turn.sub (List.Sublist.cons _ (List.sublist_cons_self ..))) ⟨rfl, Fle.refl _, _, 20, rfl, .inr rfl, ⟨0, IntR.zero _⟩, fun ⟨q, hq⟩ => ?_, fun h => absurd h (by decide)⟩
      exfalso
      have h5 : x.natAbs = 2 ^ c * q.natAbs := by rw [hq, Int.natAbs_mul, Int.natAbs_pow]; rfl
      have h4 : x.natAbs = 2 ^ v * (2 * m + 1) := h4H
      have := pow_le_twos (h4.symm.trans h5)
      omega
    · refine go ?_
      refine o_pu rfl (shr201 hv (by omega) hc) (fun v2 F2 hF2 ⟨v', l', hv2, hr', ht', hn', _⟩ => ?_)
      subst hv2
      refine go ?_
      refine o_pu rfl (made70 hr' ht') (fun u F3 hF3 hu => ?_)
      obtain ⟨neg4, v4, l4, rfl, hv4, ht4, hn4, hp4⟩ := hu
      obtain ⟨A4, c4, hA4⟩ := hv4.row.dest
      subst hA4
      refine go ?_
      have hI : IntR F3 (.agg #[.bool neg4, .slice A4 l4.length c4]) (sg neg (num l / 2 ^ c)) := ⟨neg4, _, l4, rfl, hv4, ht4, by rw [← hn']; exact hn4, hp4⟩
      refine b_ret rfl (.cons (.cella rfl rfl (rdsW 0 rfl)) (.cons (.tmp rfl) .nil)) (Turn.sub (List.Sublist.cons _ (List.sublist_cons_self ..))) ⟨rfl, hF2.trans hF3, _, 0, rfl, .inl rfl, ⟨_, hI⟩, fun _ => rfl, fun _ => ⟨_, ?_, hI⟩⟩
      have h4 : x.natAbs = 2 ^ v * (2 * m + 1) := h4H
      have h6 : num l = 2 ^ c * (num l / 2 ^ c) := by
        rw [← hxa, h4]
        obtain ⟨d, rfl⟩ : ∃ d, v = c + d := ⟨v - c, by omega⟩
        rw [Nat.pow_add, Nat.mul_assoc, Nat.mul_div_cancel_left _ (Nat.pow_pos (by decide))]
      rw [hz]
      generalize hq : num l / 2 ^ c = q at h6 ⊢
      rw [h6]
      cases neg <;> simp [sg, Int.mul_neg]
end Go.Proofs.YthkoodpnepfijaaGreatDoor
/- XC: WALKS: eval: points, times; calls that add to a program. -/
namespace Go.Proofs.YthkoodpnepfijaaGreatDoor
open Go.RowKit
set_option linter.unusedVariables false
set_option linter.unusedSimpArgs false
set_option maxRecDepth 100000
set_option maxHeartbeats 1000000
theorem o_andI {n : Nat} {ops : Array Oper} {fl : Option (List Nat)} {rest : List Oper} {K : St → Prop} {wk : List Ch} {x : Fr} {b : Nat → Value} {ds : List Deferred} {own : List Ch} {F : Fz} {d ty : Nat} {pos : String} {af : Array Edge}
  {a a' : Operand} {t t' : Nat} {p q : Int} (i j : Nat) (ha : evS n x a = some (.int .i64 p)) (ha' : evS n x a' = some (.int .i64 q)) (hp : p = i) (hq : q = j) (hi : i < 9223372036854775808) (hj : j < 9223372036854775808) (h : O n ops fl rest K wk ⟨(d, .int .i64 ((i &&& j : Nat) : Int)) :: x, b, ds, own, F⟩) : O n ops fl (⟨some d, .binOp .and t a a' t', ty, pos, af, none⟩ :: rest) K wk ⟨x, b, ds, own, F⟩ :=
  o_rd _ rfl (fun B w0 w hw => by
    subst hp hq
    have m1 : i % 2 ^ 64 = i := Nat.mod_eq_of_lt (by omega)
    have m2 : j % 2 ^ 64 = j := Nat.mod_eq_of_lt (by omega)
    have hlt : i &&& j < 2 ^ 63 := Nat.and_lt_two_pow _ (by omega)
    have hwr : IntKind.i64.wrap ((i &&& j : Nat) : Int) = ((i &&& j : Nat) : Int) := by
      generalize i &&& j = r at hlt
      exact wrap_in ⟨by omega, by omega⟩
    have hb' : (BitVec.ofNat 64 i &&& BitVec.ofNat 64 j).toNat = i &&& j := by rw [BitVec.toNat_and, BitVec.toNat_ofNat, BitVec.toNat_ofNat, m1, m2]
    unfold execOp
    simp [evx ha, evx ha', eqGuard, binOp, Op.intBits, Result.andThen, IntKind.bits]
    exact (congrArg (fun r : Nat => IntKind.i64.wrap (r : Nat)) hb').trans hwr) h
theorem points43 {v : Value} {l : List Pnt} {F : Fz} (hl : PtsR F v l) (hlen : l.length < 1099511627776) : Ps 43 [v] F fun u => ∃ t, u = .bool t ∧ (t = true ↔ (∀ p ∈ l, InP p) ∧ 1 ≤ l.length ∧ l.length ≤ 15) := fun own => by
  refine n_fun Tryz.func43 Tryz.ntmps43 rfl rfl rfl ?_
  refine go ?_
  refine c_loopT (fun mm X o G => ∃ i : Nat, mm = l.length - i ∧ X = [(0, v), (5, v), (6, .int .i64 (l.length : Nat)), (7, .int .i64 (i : Nat))] ∧ own = o ∧ F = G ∧ i ≤ l.length ∧ ∀ j, j < i → InP (l.getD j z0P)) ⟨_, _, _, _, ⟨0, rfl, rfl, rfl, rfl, by omega, fun j h => by omega⟩, ⟨rfl, rfl, rfl, rfl, trivial⟩, Turn.refl _ _⟩ ?_
  rintro _ _ _ _ b ⟨i, rfl, rfl, rfl, rfl, hi, hq⟩
  by_cases hil : i < l.length
  · generalize hp : l.getD i z0P = p at *
    have hpm : p ∈ l := by rw [← hp]; exact getD_mem hil
    by_cases h1 : InP p
    · have h1' : -16 ≤ p.A ∧ p.A ≤ 16 ∧ -16 ≤ p.B ∧ p.B ≤ 16 := h1
      refine go ?_
      intro r
      rw [hp]
      refine go ?_
      exact ⟨_, _, _, _, ⟨i + 1, rfl, rfl, rfl, rfl, by omega, fun j hj => by
        by_cases hji : j = i
        · subst hji; rw [hp]; exact h1
        · exact hq j (by omega)⟩, ⟨rfl, rfl, rfl, eqI (by omega), trivial⟩, Turn.drop, rfl, by omega⟩
    · have h1' : ¬ (-16 ≤ p.A ∧ p.A ≤ 16 ∧ -16 ≤ p.B ∧ p.B ≤ 16) := h1
      refine go ?_
      intro r
      rw [hp]
      refine go ?_
      exact b_ret rfl (.cons (.tmp rfl) .nil) Turn.drop ⟨rfl, rfl, false, rfl, by simp; exact fun h => absurd (h p hpm) h1⟩
  · have hall : ∀ p ∈ l, InP p := fun p hp => by
      obtain ⟨j, hj, rfl⟩ := List.getElem_of_mem hp
      have := hq j (by omega)
      rwa [List.getD_eq_getElem?_getD, List.getElem?_eq_getElem hj] at this
    by_cases hb : 1 ≤ l.length
    · refine go ?_
      exact b_ret rfl (.cons (.tmp rfl) .nil) (Turn.refl _ _) ⟨rfl, rfl, _, rfl, by simp; exact ⟨fun h => ⟨hall, hb, by omega⟩, fun h => by omega⟩⟩
    · refine go ?_
      exact b_ret rfl (.cons (.tmp rfl) .nil) (Turn.refl _ _) ⟨rfl, rfl, _, rfl, by simp; exact fun _ h => absurd h (by omega)⟩
theorem times46 {F : Fz} (hG : Gl F) (to a c : Int) (hc : -16 ≤ c ∧ c ≤ 16) : Ps 46 [.int .i64 to, .int .i64 a, .int .i64 c] F fun u => u = .agg (vIn (evTimes to a c)).toArray := fun own => by
  refine n_fun Tryz.func46 Tryz.ntmps46 rfl rfl rfl ?_
  by_cases h1 : c = 1
  · refine go ?_
    intro r
    exact b_ret rfl (.cons (.cella rfl rfl (rdsW 0 rfl)) .nil) Turn.drop ⟨rfl, rfl, by simp [tupV, evTimes, h1, vIn]⟩
  by_cases h2 : c = -1
  · refine go ?_
    intro r
    exact b_ret rfl (.cons (.cella rfl rfl (rdsW 0 rfl)) .nil) Turn.drop ⟨rfl, rfl, by simp [tupV, evTimes, h2, vIn]⟩
  by_cases h3 : 0 < c
  · have hand : c.toNat &&& (c.toNat - 1) = 0 ↔ c = 2 ∨ c = 4 ∨ c = 8 ∨ c = 16 := by
      have hall : ∀ q : Fin 17, 2 ≤ q.val → (q.val &&& (q.val - 1) = 0 ↔ q.val = 2 ∨ q.val = 4 ∨ q.val = 8 ∨ q.val = 16) := by decide
      have := hall ⟨c.toNat, by omega⟩ (show 2 ≤ c.toNat by omega)
      simp only at this
      rw [this]
      omega
    refine go ?_
    intro r
    refine go ?_
    refine o_andI c.toNat (c.toNat - 1) rfl rfl (by omega) (by omega) (by omega) (by omega) ?_
    generalize hg : c.toNat &&& (c.toNat - 1) = g at *
    by_cases hg0 : g = 0
    · have hcs := hand.1 hg0
      clear hand
      rcases hcs with rfl | rfl | rfl | rfl
      · refine go ?_
        refine o_pu rfl (tz75 (x := 2) (v := 1) (m := 0) hG rfl (by omega)) (fun u G _ ⟨e1, e2⟩ => ?_)
        subst e1 e2
        refine go ?_
        exact b_ret rfl (.cons (.cella rfl rfl (rdsW 0 rfl)) .nil) Turn.drop ⟨rfl, rfl, rfl⟩
      · refine go ?_
        refine o_pu rfl (tz75 (x := 4) (v := 2) (m := 0) hG rfl (by omega)) (fun u G _ ⟨e1, e2⟩ => ?_)
        subst e1 e2
        refine go ?_
        exact b_ret rfl (.cons (.cella rfl rfl (rdsW 0 rfl)) .nil) Turn.drop ⟨rfl, rfl, rfl⟩
      · refine go ?_
        refine o_pu rfl (tz75 (x := 8) (v := 3) (m := 0) hG rfl (by omega)) (fun u G _ ⟨e1, e2⟩ => ?_)
        subst e1 e2
        refine go ?_
        exact b_ret rfl (.cons (.cella rfl rfl (rdsW 0 rfl)) .nil) Turn.drop ⟨rfl, rfl, rfl⟩
      · refine go ?_
        refine o_pu rfl (tz75 (x := 16) (v := 4) (m := 0) hG rfl (by omega)) (fun u G _ ⟨e1, e2⟩ => ?_)
        subst e1 e2
        refine go ?_
        exact b_ret rfl (.cons (.cella rfl rfl (rdsW 0 rfl)) .nil) Turn.drop ⟨rfl, rfl, rfl⟩
    · refine go ?_
      have hcn : ¬ (c = 2 ∨ c = 4 ∨ c = 8 ∨ c = 16) := fun h => hg0 (hand.2 h)
      exact b_ret rfl (.cons (.cella rfl rfl (rdsW 0 rfl)) .nil) Turn.drop ⟨rfl, rfl, by
        have e : evTimes to a c = ⟨5, to, a, 0, c⟩ := by unfold evTimes; rw [if_neg h1, if_neg h2, if_neg (by omega), if_neg (by omega), if_neg (by omega), if_neg (by omega)]
        rw [e]; rfl⟩
  · refine go ?_
    intro r
    exact b_ret rfl (.cons (.cella rfl rfl (rdsW 0 rfl)) .nil) Turn.drop ⟨rfl, rfl, by
      have e : evTimes to a c = ⟨5, to, a, 0, c⟩ := by unfold evTimes; rw [if_neg h1, if_neg h2, if_neg (by omega), if_neg (by omega), if_neg (by omega), if_neg (by omega)]
      rw [e]; rfl⟩
end Go.Proofs.YthkoodpnepfijaaGreatDoor
/- XD: WALKS: eval: the closures that add to the program; Program. -/
namespace Go.Proofs.YthkoodpnepfijaaGreatDoor
open Go.RowKit
set_option linter.unusedVariables false
set_option linter.unusedSimpArgs false
set_option maxRecDepth 100000
set_option maxHeartbeats 2000000
/-- The program's block. -/
abbrev pbC (r : Nat) (a b : Int) (cv ov : Value) : Ch := .c r [.int .i64 a, .int .i64 b, cv, ov]
/-- A call that adds instructions to the program at r. -/
def EmR (r : Nat) (f : FuncId) (args : List Value) (F : Fz) (new : List Ins) : Prop := ∀ a b cv ov code rest, code.length + new.length ≤ 1000000 →
  N f args (pbC r a b cv ov :: coC cv code :: rest) F fun v o F' => ∃ cv', o = pbC r a b cv' ov :: coC cv' (code ++ new) :: rest ∧ F' = F
theorem o_emR {n : Nat} {ops : Array Oper} {fl : Option (List Nat)} {rest : List Oper} {K : St → Prop} {x : Fr} {b : Nat → Value} {ds : List Deferred} {own wk : List Ch} {F : Fz} {d ty : Nat} {pos : String} {af : Array Edge}
  {f : FuncId} {g : Operand} {us ws vs args : List Value} {os : List Operand} {ats : Array TypeId} {r : Nat} {ai bi : Int} {cv ov : Value} {code new : List Ins} {own' wk' : Value → List Ch} [hf : Fn_ f] (p q : Nat) (hN : EmR r f args F new) (hg : evS n x g = some (.func (.func f) us.toArray ws.toArray)) (ha : evL n x os = some vs) (hall : us ++ vs ++ ws = args) (hp : own[p]? = some (pbC r ai bi cv ov)) (hq : own[q]? = some (coC cv code)) (hpq : Nat.beq p q = false) (hl : code.length + new.length ≤ 1000000)
    (hs : ∀ cv', setC2 own p q (pbC r ai bi cv' ov) (coC cv' (code ++ new)) = some (own' cv'))
    (h : ∀ v cv', O n ops fl rest K (wk' cv') ⟨(d, v) :: x, b, ds, own' cv', F⟩) (hw : ∀ cv', Wk fl (Fg ops fl rest.length) wk F (own' cv') F (wk' cv') := by first | exact fun _ => Wk.text | exact fun _ => Wk.late _ (by decide +kernel) (List.Sublist.refl _) | exact fun _ => Wk.keep sl (Fle.refl _))
    (hsub : List.Sublist wk own := by exact sl) :
    O n ops fl (⟨some d, .call { callee := .value g, args := os.toArray, argTypes := ats }, ty, pos, af, none⟩ :: rest) K wk ⟨x, b, ds, own, F⟩ := by
  have hne : p ≠ q := fun e => by rw [e, show Nat.beq q q = true from Nat.beq_refl q] at hpq; cases hpq
  have h1 := N.pos (R := fun v c' g' F' => ∃ cv', c' = pbC r ai bi cv' ov ∧ g' = coC cv' (code ++ new) ∧ F' = F) (fun rest => (hN ai bi cv ov code rest hl).mono fun v o F' ⟨cv', e1, e2⟩ => ⟨_, _, e1, cv', rfl, rfl, e2⟩) hp hq hne
  refine o_callv hg ha hall h1 (fun v o F' ⟨c', g', e1, cv', e2, e3, e4⟩ => ?_) hsub
  subst e1 e2 e3 e4
  rw [setC2_eq (hs cv')]
  exact ⟨_, hw cv', h v cv'⟩
theorem add44 {r : Nat} {F : Fz} (i : Ins) : EmR r 44 [.agg (vIn i).toArray, .pointer (some ⟨r, 0, none⟩)] F (evAdd i) := fun a b cv ov code rest hl => by
  unfold evAdd at hl ⊢
  refine n_fun Tryz.func44 Tryz.ntmps44 rfl rfl rfl ?_
  by_cases h : i.op ≠ 1 ∨ i.to ≠ i.a
  · rw [if_pos h] at hl ⊢
    simp only [List.length_singleton] at hl
    by_cases h1 : i.op = 1
    all_goals
      refine go ?_
      intro r2
      refine go ?_
      refine o_lit rfl rfl rfl rfl rfl (fun r3 => ?_)
      refine o_app1 2 rfl rfl rfl rfl rfl rfl rfl (by omega) (by omega) (fun _ => rfl) (fun A' c' => ?_)
      refine go ?_
      refine b_norm rfl .nil Turn.drop ⟨.slice A' (code.length + 1) c', ?_, rfl⟩
      simp only [coC, List.length_append, List.flatMap_append, List.length_singleton, List.flatMap_cons, List.flatMap_nil, List.append_nil]
      rfl
  · rw [if_neg h] at hl ⊢
    have h1 : i.op = 1 := by omega
    have h2 : i.to = i.a := by omega
    refine go ?_
    intro r2
    refine go ?_
    exact b_norm rfl .nil Turn.drop ⟨cv, by rw [List.append_nil], rfl⟩
theorem scaled45 {r r7 : Nat} {F : Fz} (hG : Gl F) (h7 : F ⟨r7, 0, none⟩ (.func (.func 44) #[] #[.pointer (some ⟨r, 0, none⟩)])) (to a c : Int) (n : Nat) (hc : -16 ≤ c ∧ c ≤ 16) (hn : n ≤ 1000) :
    EmR r 45 [.int .i64 to, .int .i64 a, .int .i64 c, .int .i64 (n : Nat), .pointer (some ⟨r7, 0, none⟩)] F (scaledL to c n a) := fun ai bi cv ov code rest hl => by
  refine n_fun Tryz.func45 Tryz.ntmps45 rfl rfl rfl ?_
  generalize htot : scaledL to c n a = tot at *
  refine go ?_
  refine c_loopT (fun mm X o G => ∃ (i : Nat) (fr : Int) (cv : Value) (dn : List Ins), mm = n - i ∧ X = [(0, .int .i64 to), (1, .int .i64 fr), (2, .int .i64 c), (4, .pointer (some ⟨r7, 0, none⟩)), (9, .int .i64 (n : Nat)), (10, .int .i64 (i : Nat))] ∧ pbC r ai bi cv ov :: coC cv (code ++ dn) :: rest = o ∧ F = G ∧ i ≤ n ∧ dn ++ scaledL to c (n - i) fr = tot)
    ⟨_, _, _, _, ⟨0, a, cv, [], rfl, rfl, rfl, rfl, by omega, htot⟩, ⟨rfl, rfl, rfl, rfl, rfl, rfl, trivial⟩, by rw [List.append_nil]; exact Turn.refl _ _⟩ ?_
  rintro _ _ _ _ b ⟨i, fr, cv, dn, rfl, rfl, rfl, rfl, hi, hdn⟩
  by_cases hin : i < n
  · obtain ⟨m, hm⟩ : ∃ m, n - i = m + 1 := ⟨n - i - 1, by omega⟩
    rw [hm, scaledL] at hdn
    have hL := congrArg List.length hdn
    simp only [List.length_append] at hL
    refine goT ?_
    refine c_drww [] sl rfl (by decide +kernel) ?_
    refine go ?_
    refine o_ps rfl (times46 hG to fr c hc) (fun u e => ?_)
    subst e
    refine go ?_
    refine o_emR 0 1 (add44 (evTimes to fr c)) rfl rfl rfl rfl rfl rfl (by rw [List.length_append]; omega) (fun _ => rfl) (fun _ cv2 => ?_)
    refine go ?_
    exact ⟨_, _, _, _, ⟨i + 1, to, cv2, dn ++ evAdd (evTimes to fr c), rfl, rfl, rfl, rfl, by omega, by rw [show n - (i + 1) = m by omega, List.append_assoc]; exact hdn⟩, ⟨rfl, rfl, rfl, rfl, rfl, eqI (by omega), trivial⟩, by rw [← List.append_assoc]; exact Turn.refl _ _, rfl, by omega⟩
  · rw [show n - i = 0 by omega, scaledL, List.append_nil] at hdn
    subst hdn
    refine go ?_
    exact b_norm rfl .nil (Turn.refl _ _) ⟨cv, rfl, rfl⟩
end Go.Proofs.YthkoodpnepfijaaGreatDoor
/- PX: PLAINLY: how long the program that evaluates is. -/
namespace Go.Proofs.YthkoodpnepfijaaGreatDoor
set_option linter.unusedVariables false
theorem evAdd_len (i : Ins) : (evAdd i).length ≤ 1 := by unfold evAdd; split <;> simp
theorem scaledL_len (to c : Int) : ∀ (n : Nat) (a : Int), (scaledL to c n a).length ≤ n
  | 0, _ => by simp [scaledL]
  | n + 1, a => by
    rw [scaledL, List.length_append]
    have := evAdd_len (evTimes to a c)
    have := scaledL_len to c n to
    omega
theorem evTerm_len (to term : Int) (q : Pnt) (n j : Nat) : (evTerm to term q n j).length ≤ n + 1 := by
  unfold evTerm
  split
  · simp
  split
  · simp
  · rw [List.length_append, List.length_singleton]
    have := scaledL_len term q.B n (j : Nat)
    omega
theorem evJ_len (e : Nat) (to term : Int) (q : Pnt) : ∀ (j : Nat) (fr : Int), (evJ e to term q j fr).length ≤ j * (e + 2)
  | 0, _ => by simp [evJ]
  | j + 1, fr => by
    rw [evJ, List.length_append, List.length_append, Nat.add_mul, Nat.one_mul]
    have h1 := evAdd_len (evTimes to fr q.A)
    have h2 := evTerm_len to term q (e - j) j
    have h3 := evJ_len e to term q j to
    omega
theorem evPt_len (k n i : Nat) (q : Pnt) (hk : k ≤ 8) : (evPt k n i q).length ≤ 100 := by
  unfold evPt
  split
  · simp
  split
  · simp
  split
  · have := scaledL_len (k + i : Nat) q.B (k - 1) 0; omega
  split
  · have := scaledL_len (k + i : Nat) q.A (k - 1) (k - 1 : Nat); omega
  · have h := evJ_len (k - 1) (k + i : Nat) (k + n : Nat) q (k - 1) (k - 1 : Nat)
    have h2 : (k - 1) * (k - 1 + 2) ≤ 7 * 9 := Nat.mul_le_mul (by omega) (by omega)
    omega
theorem evalC_len (k : Nat) (l : List Pnt) (hk : k ≤ 8) (hl : l.length ≤ 15) : (evalC k l).length ≤ 1500 := by
  unfold evalC
  have := flatMap_len (fun i => evPt k l.length i (ptAt l i)) 100 (List.range l.length) (fun i _ => evPt_len k l.length i (ptAt l i) hk)
  rw [List.length_range] at this
  omega
end Go.Proofs.YthkoodpnepfijaaGreatDoor

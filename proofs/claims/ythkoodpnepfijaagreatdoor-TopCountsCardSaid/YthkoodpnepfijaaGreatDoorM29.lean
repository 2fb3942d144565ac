/-
  Steps towards TopCounts (no conditions of their own): WALKS: whole numbers: Add, Sub, Of, Times. WALKS: whole numbers: Of. WALKS: whole numbers: Cmp, Mul, Add, Sub. WALKS: limbs: what DivMod needs: a full row that grows, one list for one number, leading noughts. LIMBS AS NUMBERS: one step of a long division.
-/
import Derived.Test.YthkoodpnepfijaaGreatDoorM15
import Derived.Test.YthkoodpnepfijaaGreatDoorM16
import Derived.Test.YthkoodpnepfijaaGreatDoorM28
/- WH: WALKS: whole numbers: Add, Sub, Of, Times. -/
namespace Go.Proofs.YthkoodpnepfijaaGreatDoor
open Go.RowKit
set_option linter.unusedVariables false
set_option linter.unusedSimpArgs false
set_option maxRecDepth 100000
set_option maxHeartbeats 1000000
theorem sg_add (b : Bool) (p q : Nat) : sg b (p + q) = sg b p + sg b q := by cases b <;> simp [sg] <;> omega
theorem sg_sub (b : Bool) (p q : Nat) (h : q ≤ p) : sg b (p - q) = sg b p + sg (!b) q := by cases b <;> simp [sg] <;> omega
theorem add65 {u w : Value} {x y : Int} {k : Nat} {F : Fz} (hu : IntR F u x) (hw : IntR F w y) (hx : x.natAbs < 2 ^ k) (hy : y.natAbs < 2 ^ k) (hk : k ≤ 8796093022208) : Pu 65 [u, w] F fun v F' => IntR F' v (x + y) := fun own => by
  obtain ⟨neg, v, l, rfl, hv, ht, hz, hp⟩ := hu
  obtain ⟨neg', v', l', rfl, hv', ht', hz', hp'⟩ := hw
  have hl := len_le ht (by rw [hz, sg_abs] at hx; exact hx)
  have hl' := len_le ht' (by rw [hz', sg_abs] at hy; exact hy)
  clear hx hy
  obtain ⟨A, c, hA⟩ := hv.row.dest
  obtain ⟨A', c', hA'⟩ := hv'.row.dest
  subst hA hA'
  refine n_fun Tryz.func65 Tryz.ntmps65 rfl rfl rfl ?_
  refine go ?_
  intro r1 r2 r3
  by_cases he : neg = neg'
  · subst he
    have he : eqbV .eql neg neg = some true := by cases neg <;> rfl
    refine go ?_
    refine o_eqb rfl rfl he ?_
    refine go ?_
    refine o_pu rfl (add105 hv hv' (by omega) (by omega)) (fun v2 F2 hF2 ⟨l2, hv2, ht2, hn2⟩ => ?_)
    refine go ?_
    refine o_pu rfl (made70 hv2 ht2) (fun u F3 hF3 hu => ?_)
    obtain ⟨neg4, v4, l4, rfl, hv4, ht4, hn4, hp4⟩ := hu
    obtain ⟨A4, c4, hA4⟩ := hv4.row.dest
    subst hA4
    refine go ?_
    exact b_ret rfl (.cons (.cella rfl rfl (rdsW 0 rfl)) .nil) (Turn.sub (List.Sublist.cons _ (List.Sublist.cons _ (List.sublist_cons_self ..)))) ⟨rfl, hF2.trans hF3, neg4, _, l4, rfl, hv4, ht4, by rw [← hn4, hn2, sg_add, hz, hz'], hp4⟩
  · have he2 : eqbV .eql neg neg' = some false := by cases neg <;> cases neg' <;> first | rfl | exact absurd rfl he
    have he3 : neg' = !neg := by cases neg <;> cases neg' <;> simp_all
    refine go ?_
    refine o_eqb rfl rfl he2 ?_
    refine go ?_
    refine o_pu rfl (cmp106 hv hv' (by omega) (by omega)) (fun v2 F2 hF2 h2 => ?_)
    subst h2
    have hv := hv.le hF2
    have hv' := hv'.le hF2
    by_cases h : num l < num l'
    · rw [sgn_lt h]
      refine go ?_
      refine o_pu rfl (sub107 hv' hv (by omega) (by omega) ht (by omega)) (fun u3 F3 hF3 ⟨v3, l3, hu3, hv3, ht3, hn3, hle3⟩ => ?_)
      subst hu3
      refine go ?_
      refine o_pu rfl (made70 hv3 ht3) (fun u F4 hF4 hu => ?_)
      obtain ⟨neg4, v4, l4, rfl, hv4, ht4, hn4, hp4⟩ := hu
      obtain ⟨A4, c4, hA4⟩ := hv4.row.dest
      subst hA4
      refine go ?_
      exact b_ret rfl (.cons (.cella rfl rfl (rdsW 0 rfl)) .nil) (Turn.sub (List.Sublist.cons _ (List.Sublist.cons _ (List.sublist_cons_self ..)))) ⟨rfl, (hF2.trans hF3).trans hF4, neg4, _, l4, rfl, hv4, ht4, by rw [← hn4, hn3, sg_sub _ _ _ (by omega), hz, hz', he3, Bool.not_not, Int.add_comm], hp4⟩
    · have hs : ¬ sgn (num l) (num l') < 0 := by unfold sgn; rw [if_neg h]; split <;> omega
      refine go ?_
      refine o_pu rfl (sub107 hv hv' (by omega) (by omega) ht' (by omega)) (fun u3 F3 hF3 ⟨v3, l3, hu3, hv3, ht3, hn3, hle3⟩ => ?_)
      subst hu3
      refine go ?_
      refine o_pu rfl (made70 hv3 ht3) (fun u F4 hF4 hu => ?_)
      obtain ⟨neg4, v4, l4, rfl, hv4, ht4, hn4, hp4⟩ := hu
      obtain ⟨A4, c4, hA4⟩ := hv4.row.dest
      subst hA4
      refine go ?_
      exact b_ret rfl (.cons (.cella rfl rfl (rdsW 0 rfl)) .nil) (Turn.sub (List.Sublist.cons _ (List.Sublist.cons _ (List.sublist_cons_self ..)))) ⟨rfl, (hF2.trans hF3).trans hF4, neg4, _, l4, rfl, hv4, ht4, by rw [← hn4, hn3, sg_sub _ _ _ (by omega), hz, hz', he3], hp4⟩
theorem sub172 {u w : Value} {x y : Int} {k : Nat} {F : Fz} (hu : IntR F u x) (hw : IntR F w y) (hx : x.natAbs < 2 ^ k) (hy : y.natAbs < 2 ^ k) (hk : k ≤ 8796093022208) : Pu 172 [u, w] F fun v F' => IntR F' v (x - y) := fun own => by
  have hu0 := hu
  have hw0 := hw
  obtain ⟨neg, v, l, rfl, hv, ht, hz, hp⟩ := hu
  obtain ⟨neg', v', l', rfl, hv', ht', hz', hp'⟩ := hw
  obtain ⟨A, c, hA⟩ := hv.row.dest
  obtain ⟨A', c', hA'⟩ := hv'.row.dest
  subst hA hA'
  refine n_fun Tryz.func172 Tryz.ntmps172 rfl rfl rfl ?_
  refine go ?_
  intro r1 r2 r3
  refine o_pu rfl (neg171 hw0) (fun v2 F2 hF2 h2 => ?_)
  refine go ?_
  refine o_pu rfl (add65 (hu0.le hF2) h2 hx (by rw [Int.natAbs_neg]; exact hy) hk) (fun u F3 hF3 hu => ?_)
  obtain ⟨neg4, v4, l4, rfl, hv4, ht4, hn4, hp4⟩ := hu
  obtain ⟨A4, c4, hA4⟩ := hv4.row.dest
  subst hA4
  refine go ?_
  exact b_ret rfl (.cons (.cella rfl rfl (rdsW 0 rfl)) .nil) (Turn.sub (List.Sublist.cons _ (List.Sublist.cons _ (List.sublist_cons_self ..)))) ⟨rfl, hF2.trans hF3, neg4, _, l4, rfl, hv4, ht4, by rw [← hn4]; omega, hp4⟩
end Go.Proofs.YthkoodpnepfijaaGreatDoor
/- WI: WALKS: whole numbers: Of. -/
namespace Go.Proofs.YthkoodpnepfijaaGreatDoor
open Go.RowKit
set_option linter.unusedVariables false
set_option linter.unusedSimpArgs false
set_option maxRecDepth 100000
set_option maxHeartbeats 1000000
section
variable {n : Nat} {ops : Array Oper} {fl : Option (List Nat)} {rest : List Oper} {K : St → Prop} {wk : List Ch} {x : Fr} {b : Nat → Value} {ds : List Deferred} {own : List Ch} {F : Fz}
  {d ty : Nat} {pos : String} {af : Array Edge}
/-- -x, without a sign. -/
theorem o_negU {a : Operand} {t : Nat} {p : Int} (z : Int) (ha : evS n x a = some (.int .u64 p)) (hz : (-p) % 18446744073709551616 = z) (h : O n ops fl rest K wk ⟨(d, .int .u64 z) :: x, b, ds, own, F⟩) : O n ops fl (⟨some d, .unOp .neg t a, ty, pos, af, none⟩ :: rest) K wk ⟨x, b, ds, own, F⟩ :=
  o_rd _ rfl (fun B w0 w hw => by
    subst hz
    unfold execOp; simp [evx ha, Op.unary, Op.intArith, IntKind.wrap, IntKind.signed, IntKind.bits]) h
end
theorem num_two (a b : Nat) : num [a, b] = a + 4294967296 * b := by simp [num, numF]; omega
theorem Of22 {z : Int} {F : Fz} (h1 : -9223372036854775808 ≤ z) (h2 : z ≤ 9223372036854775807) : Pu 22 [.int .i64 z] F fun u F' => IntR F' u z := fun own => by
  have fin : ∀ (m : Nat) (G : Fz) (r : Nat), m ≤ 9223372036854775808 → Lr (Fz.add G (.c r [vu (m % 4294967296), vu (m / 4294967296)])) (.slice (some ⟨r, 0, none⟩) 2 2) [m % 4294967296, m / 4294967296] := fun m G r hm =>
    lr_ice (l := [m % 4294967296, m / 4294967296]) (fun i hi => by
      rcases i with _ | _ | i
      · exact Nat.mod_lt _ (by decide)
      · show m / 4294967296 < _; omega
      · exact absurd hi (by simp)) rfl (Nat.le_refl _)
  refine n_fun Tryz.func22 Tryz.ntmps22 rfl rfl rfl ?_
  by_cases hz : 0 ≤ z
  · obtain ⟨m, rfl⟩ := Int.eq_ofNat_of_zero_le hz
    refine go ?_
    intro r
    refine o_lit rfl rfl rfl rfl rfl (fun r2 => ?_)
    refine o_owneq (own' := .c r2 [vu (m % 4294967296), vu (m / 4294967296)] :: .c r [.bool false, .slice none 0 0] :: own) (own1 (by rw [vu_eq (d := m % 4294967296) (by simp), vu_eq (d := m / 4294967296) (by simp)])) ?_
    refine o_turn Turn.ice ?_
    refine o_pu rfl (Make37 (fin m F r2 (by omega)) (by simp)) (fun u F2 hF2 hu => ?_)
    rw [num_two, Nat.mod_add_div] at hu
    obtain ⟨neg4, v4, l4, rfl, hv4, ht4, hn4, hp4⟩ := hu
    obtain ⟨A4, c4, hA4⟩ := hv4.row.dest
    subst hA4
    refine go ?_
    refine b_ret rfl (.cons (.cella rfl rfl (rdsW 0 rfl)) .nil) Turn.drop ⟨rfl, Fle.trans (Fz.add_le _ _) hF2, neg4, _, l4, rfl, hv4, ht4, ?_, hp4⟩
    rw [← hn4, show decide ((m : Int) < 0) = false from decide_eq_false (by omega)]; rfl
  · obtain ⟨m, rfl⟩ : ∃ m : Nat, z = -(m : Int) := ⟨z.natAbs, by omega⟩
    refine go ?_
    intro r
    refine o_conv (y := ((18446744073709551616 - m : Nat) : Int)) rfl (by simp only [IntKind.wrap, IntKind.signed, IntKind.bits]; simp; omega) ?_
    refine go ?_
    refine o_negU (m : Nat) rfl (by omega) ?_
    refine go ?_
    refine o_lit rfl rfl rfl rfl rfl (fun r2 => ?_)
    refine o_owneq (own' := .c r2 [vu (m % 4294967296), vu (m / 4294967296)] :: .c r [.bool false, .slice none 0 0] :: own) (own1 (by rw [vu_eq (d := m % 4294967296) (by simp), vu_eq (d := m / 4294967296) (by simp)])) ?_
    refine o_turn Turn.ice ?_
    refine o_pu rfl (Make37 (fin m F r2 (by omega)) (by simp)) (fun u F2 hF2 hu => ?_)
    rw [num_two, Nat.mod_add_div] at hu
    obtain ⟨neg4, v4, l4, rfl, hv4, ht4, hn4, hp4⟩ := hu
    obtain ⟨A4, c4, hA4⟩ := hv4.row.dest
    subst hA4
    refine go ?_
    refine b_ret rfl (.cons (.cella rfl rfl (rdsW 0 rfl)) .nil) Turn.drop ⟨rfl, Fle.trans (Fz.add_le _ _) hF2, neg4, _, l4, rfl, hv4, ht4, ?_, hp4⟩
    rw [← hn4, show decide (-(m : Int) < 0) = true from decide_eq_true (by omega)]; rfl
end Go.Proofs.YthkoodpnepfijaaGreatDoor
/- WG: WALKS: whole numbers: Cmp, Mul, Add, Sub. -/
namespace Go.Proofs.YthkoodpnepfijaaGreatDoor
open Go.RowKit
set_option linter.unusedVariables false
set_option linter.unusedSimpArgs false
set_option maxRecDepth 100000
set_option maxHeartbeats 1000000
/-- How two whole numbers stand. -/
def sgnI (x y : Int) : Int := if x < y then -1 else if y < x then 1 else 0
/-- Numbers of at most so many bits. -/
abbrev KM : Nat := 8796093022208
theorem cmp99 {u w : Value} {x y : Int} {k : Nat} {F : Fz} (hu : IntR F u x) (hw : IntR F w y) (hx : x.natAbs < 2 ^ k) (hy : y.natAbs < 2 ^ k) (hk : k ≤ 8796093022208) : Pu 99 [u, w] F fun v F' => v = .int .i64 (sgnI x y) := fun own => by
  obtain ⟨neg, v, l, rfl, hv, ht, hz, hp⟩ := hu
  obtain ⟨neg', v', l', rfl, hv', ht', hz', hp'⟩ := hw
  have hl := len_le ht (by rw [hz, sg_abs] at hx; exact hx)
  have hl' := len_le ht' (by rw [hz', sg_abs] at hy; exact hy)
  clear hx hy
  obtain ⟨A, c, hA⟩ := hv.row.dest
  obtain ⟨A', c', hA'⟩ := hv'.row.dest
  subst hA hA'
  refine n_fun Tryz.func99 Tryz.ntmps99 rfl rfl rfl ?_
  refine go ?_
  intro r1 r2
  cases neg
  · cases neg'
    · refine go ?_
      refine o_pu rfl (cmp106 hv hv' (by omega) (by omega)) (fun v2 F2 hF2 h2 => ?_)
      subst h2
      refine go ?_
      refine b_ret rfl (.cons (.tmp rfl) .nil) (Turn.sub (List.Sublist.cons _ (List.sublist_cons_self ..))) ⟨rfl, hF2, ?_⟩
      show Value.int _ _ = _
      congr 1
      rw [hz, hz']
      unfold sgn sgnI sg
      simp only
      by_cases h1 : num l < num l'
      · rw [if_pos h1, if_pos (by omega)]
      · by_cases h2 : num l' < num l
        · rw [if_neg h1, if_pos h2, if_neg (by omega), if_pos (by omega)]
        · rw [if_neg h1, if_neg h2, if_neg (by omega), if_neg (by omega)]
    · have := hp' rfl
      refine go ?_
      refine b_ret rfl (.cons (.tmp rfl) .nil) (Turn.sub (List.Sublist.cons _ (List.sublist_cons_self ..))) ⟨rfl, Fle.refl _, ?_⟩
      show Value.int _ _ = _
      congr 1
      rw [hz, hz']
      unfold sgnI sg
      simp only
      rw [if_neg (by omega), if_pos (by omega)]
  · cases neg'
    · have := hp rfl
      refine go ?_
      refine b_ret rfl (.cons (.tmp rfl) .nil) (Turn.sub (List.Sublist.cons _ (List.sublist_cons_self ..))) ⟨rfl, Fle.refl _, ?_⟩
      show Value.int _ _ = _
      congr 1
      rw [hz, hz']
      unfold sgnI sg
      simp only
      rw [if_pos (by omega)]
    · refine go ?_
      refine o_pu rfl (cmp106 hv' hv (by omega) (by omega)) (fun v2 F2 hF2 h2 => ?_)
      subst h2
      refine go ?_
      refine b_ret rfl (.cons (.tmp rfl) .nil) (Turn.sub (List.Sublist.cons _ (List.sublist_cons_self ..))) ⟨rfl, hF2, ?_⟩
      show Value.int _ _ = _
      congr 1
      rw [hz, hz']
      unfold sgn sgnI sg
      simp only
      by_cases h1 : num l' < num l
      · rw [if_pos h1, if_pos (by omega)]
      · by_cases h2 : num l < num l'
        · rw [if_neg h1, if_pos h2, if_neg (by omega), if_pos (by omega)]
        · rw [if_neg h1, if_neg h2, if_neg (by omega), if_neg (by omega)]
theorem mul66 {u w : Value} {x y : Int} {k : Nat} {F : Fz} (hu : IntR F u x) (hw : IntR F w y) (hx : x.natAbs < 2 ^ k) (hy : y.natAbs < 2 ^ k) (hk : k ≤ 8796093022208) : Pu 66 [u, w] F fun v F' => IntR F' v (x * y) := fun own => by
  obtain ⟨neg, v, l, rfl, hv, ht, hz, hp⟩ := hu
  obtain ⟨neg', v', l', rfl, hv', ht', hz', hp'⟩ := hw
  have hl := len_le ht (by rw [hz, sg_abs] at hx; exact hx)
  have hl' := len_le ht' (by rw [hz', sg_abs] at hy; exact hy)
  clear hx hy
  obtain ⟨A, c, hA⟩ := hv.row.dest
  obtain ⟨A', c', hA'⟩ := hv'.row.dest
  subst hA hA'
  refine n_fun Tryz.func66 Tryz.ntmps66 rfl rfl rfl ?_
  refine go ?_
  intro r1 r2 r3
  have fin : ∀ neg3, eqbV .neq neg neg' = some neg3 → sg neg3 (num l * num l') = x * y := fun neg3 h => by
    rw [hz, hz']
    cases neg <;> cases neg' <;> simp only [eqbV, Option.some.injEq] at h <;> subst h <;> simp [sg, Int.mul_neg, Int.neg_mul]
  obtain ⟨neg3, h3⟩ : ∃ neg3, eqbV .neq neg neg' = some neg3 := by cases neg <;> cases neg' <;> exact ⟨_, rfl⟩
  refine go ?_
  refine o_eqb rfl rfl h3 ?_
  refine go ?_
  refine o_pu rfl (mul108 hv hv' (by omega) (by omega)) (fun v2 F2 hF2 ⟨l2, hv2, ht2, hn2, hle2⟩ => ?_)
  refine go ?_
  refine o_pu rfl (made70 hv2 ht2) (fun u F3 hF3 hu => ?_)
  obtain ⟨neg4, v4, l4, rfl, hv4, ht4, hn4, hp4⟩ := hu
  obtain ⟨A4, c4, hA4⟩ := hv4.row.dest
  subst hA4
  refine go ?_
  exact b_ret rfl (.cons (.cella rfl rfl (rdsW 0 rfl)) .nil) (Turn.sub (List.Sublist.cons _ (List.Sublist.cons _ (List.sublist_cons_self ..)))) ⟨rfl, hF2.trans hF3, neg4, _, l4, rfl, hv4, ht4, by rw [← hn4, hn2]; exact (fin _ h3).symm, hp4⟩
end Go.Proofs.YthkoodpnepfijaaGreatDoor
/- WD: WALKS: limbs: what DivMod needs: a full row that grows, one list for one number, leading noughts. -/
namespace Go.Proofs.YthkoodpnepfijaaGreatDoor
open Go.RowKit
set_option linter.unusedVariables false
set_option linter.unusedSimpArgs false
set_option maxRecDepth 100000
set_option maxHeartbeats 1000000
theorem Trm.tail {d : Nat} {l : List Nat} (h : Trm (d :: l)) : Trm l := by
  cases l with
  | nil => exact .inl rfl
  | cons e l =>
    rcases h with h | h
    · cases h
    · exact .inr (by simpa using h)
theorem Trm.pos {l : List Nat} (h : Trm l) (hn : l ≠ []) : 0 < num l := by
  rcases h with h | h
  · exact absurd (List.eq_nil_of_length_eq_zero h) hn
  · have : l.length ≠ 0 := fun e => hn (List.eq_nil_of_length_eq_zero e)
    obtain ⟨m, hm⟩ : ∃ m, l.length = m + 1 := ⟨l.length - 1, by omega⟩
    unfold num
    rw [hm] at h ⊢
    have := numF_ge (f := fun i => l.getD i 0) (m := m) (by simpa using h)
    have := pow_pos' m
    omega
theorem num_inj : ∀ {l k : List Nat}, Dig l → Dig k → Trm l → Trm k → num l = num k → l = k
  | [], [], _, _, _, _, _ => rfl
  | [], e :: k, _, _, _, hk, h => by have := hk.pos (by simp); rw [← h] at this; exact absurd this (by simp [num, numF])
  | d :: l, [], _, _, hl, _, h => by have := hl.pos (by simp); rw [h] at this; exact absurd this (by simp [num, numF])
  | d :: l, e :: k, h1, h2, h3, h4, h => by
    have hd := h1 0 (by simp)
    have he := h2 0 (by simp)
    simp only [List.getD_cons_zero] at hd he
    rw [num_cons, num_cons] at h
    have e1 : d = e := by omega
    have e2 : num l = num k := by omega
    rw [e1, num_inj (fun i hi => by have := h1 (i + 1) (by simpa using hi); simpa using this) (fun i hi => by have := h2 (i + 1) (by simpa using hi); simpa using this) h3.tail h4.tail e2]
theorem num_app (a b : List Nat) : num (a ++ b) = num a + 4294967296 ^ a.length * num b := by
  induction a with
  | nil => simp [num_nil]
  | cons d a ih =>
    rw [List.cons_append, num_cons, num_cons, ih, List.length_cons, Nat.pow_succ, Nat.mul_add]
    have : 4294967296 * (4294967296 ^ a.length * num b) = 4294967296 ^ a.length * 4294967296 * num b := by rw [← Nat.mul_assoc, Nat.mul_comm 4294967296]
    omega
/-- The limbs of a power of two. -/
theorem pow2_list {k : List Nat} {c : Nat} (hd : Dig k) (ht : Trm k) (h : num k = 2 ^ c) : k = List.replicate (c / 32) 0 ++ [2 ^ (c % 32)] := by
  have h31 : 2 ^ (c % 32) ≤ 2 ^ 31 := Nat.pow_le_pow_right (by decide) (by omega)
  have hp := Nat.two_pow_pos (c % 32)
  refine num_inj hd ?_ ht ?_ ?_
  · exact (Dig.rep (c / 32)).snoc (by omega)
  · refine .inr ?_
    rw [List.length_append, List.length_singleton, Nat.add_sub_cancel, getD_app, if_neg (by simp)]
    simp <;> omega
  · rw [h, num_app, num_rep, List.length_replicate]
    have : (4294967296 : Nat) = 2 ^ 32 := rfl
    rw [num_cons, num_nil, this, ← Nat.pow_mul, Nat.mul_zero, Nat.add_zero, Nat.zero_add, ← Nat.pow_add, Nat.div_add_mod]
theorem lead211 {j : Nat} {F : Fz} (hj : j < 32) : Pu 211 [.int .u32 ((2 ^ j : Nat) : Int)] F fun u F' => u = .int .i64 ((31 - j : Nat) : Int) := fun own => by
  refine n_fun Tryz.func211 Tryz.ntmps211 rfl rfl rfl ?_
  refine go ?_
  refine o_pu rfl (len32_191 hj) (fun u F' hF hu => ?_)
  subst hu
  refine go ?_
  exact b_ret rfl (.cons (.tmp rfl) .nil) (Turn.refl _ _) ⟨rfl, hF, Option.some.inj (eqI (by omega))⟩
section
variable {n : Nat} {ops : Array Oper} {fl : Option (List Nat)} {rest : List Oper} {K : St → Prop} {wk : List Ch} {x : Fr} {b : Nat → Value} {ds : List Deferred} {own : List Ch} {F : Fz}
  {d ty : Nat} {pos : String} {af : Array Edge}
/-- append to a row without room, which is only read: a new block. -/
theorem o_appendF {t e by_ : Nat} {a a' : Operand} {v z : Value} {news xs : List Value} {A : Addr} {m' c : Nat} [ht : SlT t e 1] [hz : ZrT e [z]] [hb : ByT e by_] (ha : evS n x a = some v) (hf : Full v) (hr : Row F v xs) (ha' : evS n x a' = some (.slice (some A) m' c))
    (hl : news.length = m') (hm : 0 < m') (hrd : Rds own F A news) (hlt : (xs.length + m') * by_ ≤ 140737488355328) (h63 : xs.length + m' ≤ 9223372036854775807)
    (h : ∀ r k, O n ops none rest K (.c r (xs ++ news ++ List.replicate k z) :: own) ⟨(d, .slice (some ⟨r, 0, none⟩) (xs.length + m') (xs.length + m' + k)) :: x, b, ds, .c r (xs ++ news ++ List.replicate k z) :: own, F⟩) :
    O n ops none (⟨some d, .call { callee := .builtin .append, args := #[a, a'], argTypes := #[t, t] }, ty, pos, af, none⟩ :: rest) K own ⟨x, b, ds, own, F⟩ :=
  o_ef (List.Sublist.refl _) rfl fun B w0 w hI => by
    obtain ⟨z0, hz0, hzc⟩ := Option.map_eq_some_iff.1 hz.h
    obtain ⟨i, hi, hzi⟩ := Option.bind_eq_some_iff.1 hz0
    obtain ⟨i', hi', hbi⟩ := Option.map_eq_some_iff.1 hb.h
    obtain ⟨i'', hi'', hsi⟩ := Option.map_eq_some_iff.1 ht.hs
    rw [hi] at hi' hi''
    cases hi'; cases hi''
    obtain ⟨A1, c1, rfl, h2, h3⟩ := hr
    obtain ⟨A2, n2, e2⟩ := hf
    cases e2
    have hnw : ∀ j u, news[j]? = some u → w.cell? (A.add j) = some u := fun j u hu => hI.rd (hrd j u hu)
    have zc : ∀ k, (Builtin.zeroCells z0.cells k).toList = List.replicate k z := fun k => by
      rw [hzc]
      have := toList_madeCells_one z k
      unfold Builtin.zeroCells
      unfold madeCells at this
      simpa using this
    have fin : ∀ cap, xs.length + m' ≤ cap → (Builtin.append_ #[t, t] ty #[.slice A1 xs.length xs.length, .slice (some A) m' c]).run Tryz.prog w = .ok (.slice (some ⟨w.heap.size, 0, none⟩) (xs.length + m') cap) (w.drew.alloc (.cells (xs.toArray ++ news.toArray ++ Builtin.zeroCells z0.cells (cap - (xs.length + m'))) e)) →
        upK Tryz.prog ⟨some d, .call { callee := .builtin .append, args := #[a, a'], argTypes := #[t, t] }, ty, pos, af, none⟩ (St.act n ⟨x, b, ds, own, F⟩) (fun a' w' => ∃ s' wk', a' = s'.act n ∧ Inv B w0 s'.own s'.F w' ∧ Wk none (Fg ops none rest.length) own F s'.own s'.F wk' ∧ O n ops none rest K wk' s')
          ((execOp (St.act n ⟨x, b, ds, own, F⟩).eval ⟨some d, .call { callee := .builtin .append, args := #[a, a'], argTypes := #[t, t] }, ty, pos, af, none⟩).run Tryz.prog w) := fun cap hc hrun => by
      unfold execOp
      simp only [resolve, invoke, builtin, Sem.run_bind, Sem.run_pure, Result.andThen, List.map_toArray, List.map_cons, List.map_nil, evx ha, evx ha', hrun, upK]
      have hk := h w.heap.size (cap - (xs.length + m'))
      rw [show xs.length + m' + (cap - (xs.length + m')) = cap by omega] at hk
      refine ⟨_, _, act_putx .., ?_, .text, hk⟩
      have := (hI.drew (w.drawn + 1)).newc (xs.toArray ++ news.toArray ++ Builtin.zeroCells z0.cells (cap - (xs.length + m'))) e
      simp only [Array.toList_append, zc] at this
      simpa using this
    by_cases hx : xs.length = 0
    · have : xs = [] := List.eq_nil_of_length_eq_zero hx
      subst this
      cases A1 with
      | none =>
        have hrun := run_append_nil (P := Tryz.prog) (w := w) t ty e i z0 ht.h hi hzi A m' c news (by rw [hsi]; omega) hnw hm (by omega) (by rw [hbi]; simp at hlt; omega)
        have hge := grownCap_ge w m' 0 e
        refine fin (grownCap w m' 0 e) (by simpa using hge) ?_
        simpa using hrun
      | some A1 =>
        have hrun := run_append_grow (P := Tryz.prog) (w := w) t ty e i z0 ht.h hi hzi A1 0 0 [] (by simp) (fun j v hj => by cases hj) A m' c news (by rw [hsi]; omega) hnw (by omega) (by omega) (by rw [hbi]; exact growslice_fits (by omega) (by simpa using hlt))
        have hge := grownCap_ge w (0 + m') 0 e
        exact fin (grownCap w (0 + m') 0 e) hge hrun
    · obtain ⟨A0, rfl, _⟩ := h3 0 xs[0] (List.getElem?_eq_getElem (by omega))
      have hrun := run_append_grow (P := Tryz.prog) (w := w) t ty e i z0 ht.h hi hzi A0 xs.length xs.length xs (by rw [hsi]; omega) (fun j v hj => by obtain ⟨B', e', k⟩ := h3 j v hj; cases e'; exact hI.fr _ _ k) A m' c news (by rw [hsi]; omega) hnw (by omega) (by omega) (by rw [hbi]; exact growslice_fits (by omega) hlt)
      have hge := grownCap_ge w (xs.length + m') xs.length e
      exact fin _ hge hrun
end
end Go.Proofs.YthkoodpnepfijaaGreatDoor
/- WP: LIMBS AS NUMBERS: one step of a long division. -/
namespace Go.Proofs.YthkoodpnepfijaaGreatDoor
open Go.RowKit
set_option linter.unusedVariables false
set_option linter.unusedSimpArgs false
/-- Ahead of the digit m - 1: what is left, and the digits that are known. -/
structure DvI (U V n m : Nat) (ws qs : List Nat) : Prop where
  lt : numF (fun i => ws.getD (m + i) 0) n < V
  eq : U = numF (fun i => ws.getD i 0) m + 4294967296 ^ m * numF (fun i => ws.getD (m + i) 0) n + V * 4294967296 ^ m * num qs
  zer : ∀ p, m + n ≤ p → ws.getD p 0 = 0
theorem getD_mid {a u : List Nat} {z : List Nat} {o i : Nat} (ho : a.length = o) : (a ++ u ++ z).getD i 0 = if i < o then a.getD i 0 else if i < o + u.length then u.getD (i - o) 0 else z.getD (i - o - u.length) 0 := by
  rw [getD_app, List.length_append, ho]
  by_cases h1 : i < o
  · rw [if_pos (by omega), if_pos h1, getD_app, ho, if_pos h1]
  · rw [if_neg h1]
    by_cases h2 : i < o + u.length
    · rw [if_pos h2, if_pos h2, getD_app, ho, if_neg h1]
    · rw [if_neg h2, if_neg h2]; congr 1; omega
theorem DvI.step {U V n m : Nat} {ws qs us : List Nat} (h : DvI U V n m ws qs) (hm : 1 ≤ m) (hV : V ≤ 4294967296 ^ n) (hwd : Dig ws) (hws : m + n ≤ ws.length) (hul : us.length = n + 1) (hud : Dig us) (hun : num us = numF (fun i => ws.getD (m - 1 + i) 0) (n + 1) % V) :
    DvI U V n (m - 1) (ws.take (m - 1) ++ us ++ ws.drop (m - 1 + n + 1)) (numF (fun i => ws.getD (m - 1 + i) 0) (n + 1) / V :: qs) := by
  obtain ⟨j, rfl⟩ : ∃ j, m = j + 1 := ⟨m - 1, by omega⟩
  simp only [Nat.add_sub_cancel] at *
  have hV0 : 0 < V := Nat.lt_of_le_of_lt (Nat.zero_le _) h.lt
  have hlo : (ws.take j).length = j := by rw [List.length_take]; omega
  have hX : numF (fun i => ws.getD (j + i) 0) (n + 1) = ws.getD j 0 + 4294967296 * numF (fun i => ws.getD (j + 1 + i) 0) n := by
    rw [numF_succ]
    congr 1
    congr 1
    exact numF_congr fun i _ => by congr 1; omega
  have hlt : num us < V := by rw [hun]; exact Nat.mod_lt _ hV0
  have htop : us.getD n 0 = 0 := by
    by_cases h0 : us.getD n 0 = 0
    · exact h0
    · have h1 : 4294967296 ^ n ≤ num us := by unfold num; rw [hul]; exact numF_ge h0
      omega
  have hnu : numF (fun i => us.getD i 0) n = num us := by
    unfold num; rw [hul]; show _ = numF _ n + us.getD n 0 * _; rw [htop]; omega
  have hg : ∀ i, (ws.take j ++ us ++ ws.drop (j + n + 1)).getD i 0 = if i < j then ws.getD i 0 else if i < j + (n + 1) then us.getD (i - j) 0 else ws.getD i 0 := fun i => by
    rw [getD_mid hlo, hul]
    split
    · rename_i h1; rw [getD_take h1]
    · split
      · rfl
      · rw [getD_drop]; congr 1; omega
  have e1 : numF (fun i => (ws.take j ++ us ++ ws.drop (j + n + 1)).getD (j + i) 0) n = num us := by
    rw [← hnu]
    exact numF_congr fun i hi => by rw [hg, if_neg (by omega), if_pos (by omega)]; congr 1; omega
  have e2 : numF (fun i => (ws.take j ++ us ++ ws.drop (j + n + 1)).getD i 0) j = numF (fun i => ws.getD i 0) j := numF_congr fun i hi => by rw [hg, if_pos hi]
  refine ⟨by rw [e1]; exact hlt, ?_, fun p hp => ?_⟩
  · rw [e1, e2, h.eq, num_cons, hun]
    generalize hXX : numF (fun i => ws.getD (j + i) 0) (n + 1) = X at *
    show (numF _ j + ws.getD j 0 * 4294967296 ^ j) + _ + _ = _
    have e3 := Nat.mod_add_div X V
    generalize X / V = Q at *
    generalize X % V = R at *
    generalize numF (fun i => ws.getD (j + 1 + i) 0) n = S at *
    rw [Nat.pow_succ]
    generalize 4294967296 ^ j = P at *
    have e4 : ws.getD j 0 * P + P * 4294967296 * S = X * P := by rw [hX, Nat.add_mul, Nat.mul_comm (4294967296 * S), ← Nat.mul_assoc]
    have e5 : P * R + V * P * Q = X * P := by rw [← e3, Nat.add_mul, Nat.mul_comm R, Nat.mul_assoc V, Nat.mul_assoc V, Nat.mul_comm Q]
    have e6 : V * (P * 4294967296) * num qs = V * P * (4294967296 * num qs) := by simp only [Nat.mul_assoc]
    rw [Nat.mul_add]
    omega
  · rw [hg, if_neg (by omega)]
    split
    · have : p - j = n := by omega
      rw [this]; exact htop
    · exact h.zer p (by omega)
theorem DvI.small {U V n m : Nat} {ws qs : List Nat} (h : DvI U V n m ws qs) (hm : 1 ≤ m) (hwd : Dig ws) (hws : m + n ≤ ws.length) : numF (fun i => ws.getD (m - 1 + i) 0) (n + 1) < V * 4294967296 := by
  obtain ⟨j, rfl⟩ : ∃ j, m = j + 1 := ⟨m - 1, by omega⟩
  simp only [Nat.add_sub_cancel]
  rw [numF_succ]
  have e : numF (fun i => ws.getD (j + (i + 1)) 0) n = numF (fun i => ws.getD (j + 1 + i) 0) n := numF_congr fun i _ => by congr 1; omega
  rw [e]
  have h1 := h.lt
  have h2 := hwd j (by omega)
  show ws.getD (j + 0) 0 + _ < _
  rw [Nat.add_zero]
  omega
theorem Dig.app {a b : List Nat} (h : Dig a) (k : Dig b) : Dig (a ++ b) := fun i hi => by
  rw [getD_app]
  rw [List.length_append] at hi
  split
  · rename_i h1; exact h i h1
  · exact k _ (by omega)
/-- At the beginning. -/
theorem DvI.init {u : List Nat} {V n sp : Nat} (hud : Dig u) (hn : n ≤ u.length) (hn1 : 1 ≤ n) (hV : 4294967296 ^ (n - 1) ≤ V) : DvI (num u) V n (u.length + 1 - n) (u ++ [0] ++ List.replicate sp 0) [] := by
  have hg : ∀ i, (u ++ [0] ++ List.replicate sp 0).getD i 0 = u.getD i 0 := fun i => by
    rw [getD_app]
    split
    · rw [getD_app]
      split
      · rfl
      · rename_i h1 h2
        rw [getD_none h2]
        simp at h1
        rw [show i - u.length = 0 by omega]; rfl
    · rename_i h1
      rw [getD_rep, getD_none (by simp at h1; omega)]
  have e1 : numF (fun i => (u ++ [0] ++ List.replicate sp 0).getD (u.length + 1 - n + i) 0) n = num (u.drop (u.length + 1 - n)) := by
    unfold num
    rw [List.length_drop]
    rw [numF_congr (g := fun i => (u.drop (u.length + 1 - n)).getD i 0) fun i _ => by rw [hg, getD_drop]]
    exact numF_zero (by omega) fun i h1 _ => getD_none (by rw [List.length_drop]; omega)
  have e2 : numF (fun i => (u ++ [0] ++ List.replicate sp 0).getD i 0) (u.length + 1 - n) = numF (fun i => u.getD i 0) (u.length + 1 - n) := numF_congr fun i _ => hg i
  refine ⟨?_, ?_, fun p hp => by rw [hg]; exact getD_none (by omega)⟩
  · rw [e1]
    have : num (u.drop (u.length + 1 - n)) < 4294967296 ^ (u.drop (u.length + 1 - n)).length := numF_lt fun i hi => hud.drop _ i hi
    rw [List.length_drop, show u.length - (u.length + 1 - n) = n - 1 by omega] at this
    omega
  · rw [e1, e2, num_nil, Nat.mul_zero, Nat.add_zero]
    exact num_drop u _ (by omega)
end Go.Proofs.YthkoodpnepfijaaGreatDoor

/-
  Steps towards TopCounts (no conditions of their own): WALKS: whole numbers: DivMod, where the division goes up; rows: Over. WALKS: rows of whole numbers: Cmp, Same (equal rows), Zero, Unit, Clone; power.
-/
import Derived.Test.YthkoodpnepfijaaGreatDoorM21
import Derived.Test.YthkoodpnepfijaaGreatDoorM30
/- Y3: WALKS: whole numbers: DivMod, where the division goes up; rows: Over. -/
namespace Go.Proofs.YthkoodpnepfijaaGreatDoor
open Go.RowKit
set_option linter.unusedVariables false
set_option linter.unusedSimpArgs false
set_option maxRecDepth 100000
set_option maxHeartbeats 1000000
theorem num_nil_of {l : List Nat} (ht : Trm l) (h : num l = 0) : l = [] := List.length_eq_zero_iff.1 (ht.zero.1 h)
theorem sg_div {x c q : Int} (hq : x = c * q) (hc : c ≠ 0) : (0 ≤ x → 0 < c → 0 ≤ q) ∧ (0 ≤ x → c < 0 → q ≤ 0) ∧ (x ≤ 0 → 0 < c → q ≤ 0) ∧ (x ≤ 0 → c < 0 → 0 ≤ q) := by
  refine ⟨fun h1 h2 => ?_, fun h1 h2 => ?_, fun h1 h2 => ?_, fun h1 h2 => ?_⟩
  · rcases Int.lt_or_le q 0 with h | h
    · have := Int.mul_neg_of_pos_of_neg h2 h; omega
    · exact h
  · rcases Int.lt_or_le 0 q with h | h
    · have := Int.mul_neg_of_neg_of_pos h2 h; omega
    · exact h
  · rcases Int.lt_or_le 0 q with h | h
    · have := Int.mul_pos h2 h; omega
    · exact h
  · rcases Int.lt_or_le q 0 with h | h
    · have := Int.mul_pos_of_neg_of_neg h2 h; omega
    · exact h
theorem divMod197 {u w : Value} {x c q : Int} {k : Nat} {F : Fz} (hu : IntR F u x) (hw : IntR F w c) (hq : x = c * q) (hc : (0 < c.natAbs ∧ c.natAbs < 4294967296) ∨ ∃ e, e < 1024 ∧ c.natAbs = 2 ^ e) (hx : x.natAbs < 2 ^ k) (hk : k ≤ 8796093022208) :
    Pu 197 [u, w] F fun v F' => ∃ p r : IZ, v = .tuple #[.agg (vIz p).toArray, .agg (vIz r).toArray, .int .i64 0] ∧ IntR F' (.agg (vIz p).toArray) q ∧ IntR F' (.agg (vIz r).toArray) 0 := fun own => by
  have hc0 : 0 < c.natAbs := by
    rcases hc with h | ⟨e, _, h⟩
    · exact h.1
    · rw [h]; exact Nat.pow_pos (by decide)
  obtain ⟨neg, v, l, rfl, hv, ht, hz, hp⟩ := hu
  obtain ⟨neg', v', l', rfl, hv', ht', hz', hp'⟩ := hw
  have hxa : x.natAbs = num l := by rw [hz, sg_abs]
  have hca : c.natAbs = num l' := by rw [hz', sg_abs]
  have hl := len_le ht (by rw [← hxa]; exact hx)
  have hl' : l'.length ≤ 64 := by
    rcases hc with h | ⟨e, h1, h2⟩
    · have := len_le (k := 32) ht' (by rw [← hca]; exact h.2)
      omega
    · have := len_le (k := e + 1) ht' (by rw [← hca, h2]; exact Nat.pow_lt_pow_right (by decide) (by omega))
      omega
  clear hx
  obtain ⟨A, c0, hA⟩ := hv.row.dest
  obtain ⟨A', c0', hA'⟩ := hv'.row.dest
  subst hA hA'
  refine n_fun Tryz.func197 Tryz.ntmps197 rfl rfl rfl ?_
  refine go ?_
  intro r2 r3 r4 r5
  refine go ?_
  refine o_pu rfl (divMod198 hv hv' (by omega) (by omega) (by omega) (by rw [← hca]; exact hc.imp And.right id)) (fun u F5 hF5 ⟨v1, v2, l1, l2, hu5, hv1, hv2, ht1, ht2, hn1, hn2, hle1, hle2⟩ => ?_) sl
  subst hu5
  rw [← hxa, ← hca] at hn1 hn2
  rw [hq, Int.natAbs_mul] at hn1 hn2
  rw [Nat.mul_div_cancel_left _ hc0] at hn1
  rw [Nat.mul_mod_right] at hn2
  obtain rfl := num_nil_of ht2 hn2
  obtain ⟨neg3, h3⟩ : ∃ neg3, eqbV .neq neg neg' = some neg3 := by cases neg <;> cases neg' <;> exact ⟨_, rfl⟩
  have hsg : sg neg3 (num l1) = q := by
    rw [hn1]
    have e1 : x = sg neg x.natAbs := by rw [hxa]; exact hz
    have e2 : c = sg neg' c.natAbs := by rw [hca]; exact hz'
    have hcz : c ≠ 0 := by omega
    have ⟨d1, d2, d3, d4⟩ := sg_div hq hcz
    cases neg <;> cases neg' <;> simp only [eqbV, Option.some.injEq] at h3 <;> subst h3 <;> simp only [sg] at e1 e2 <;> show _ = q <;> simp only [sg, bne_self_eq_false, bne, Bool.not_false, Bool.not_true, beq_self_eq_true] <;> omega
  obtain ⟨A1, c1, hA1⟩ := hv1.row.dest
  obtain ⟨A2, c2, hA2⟩ := hv2.row.dest
  subst hA1 hA2
  have hr1 := hv1.row
  refine goT ?_
  refine c_joinT (fun Y o G => ∃ (ra rb : Nat) (p r : IZ), Y = [(2, .pointer (some ⟨r2, 0, none⟩)), (3, .pointer (some ⟨r3, 0, none⟩)), (4, .pointer (some ⟨r4, 0, none⟩)), (5, .pointer (some ⟨r5, 0, none⟩)), (10, .pointer (some ⟨ra, 0, none⟩)), (11, .pointer (some ⟨rb, 0, none⟩))] ∧ .c rb (vIz r) :: .c ra (vIz p) :: .c r5 [.bool false, .slice none 0 0] :: .c r4 [.bool false, .slice none 0 0] :: .c r3 [.bool neg', .slice A' l'.length c0'] :: .c r2 [.bool neg, .slice A l.length c0] :: own = o ∧ Fle F G ∧ IntR G (.agg (vIz p).toArray) q ∧ IntR G (.agg (vIz r).toArray) 0) ?_ ?_
  · refine c_drawG [.c r3 [.bool neg', .slice A' l'.length c0'], .c r2 [.bool neg, .slice A l.length c0]] (by decide +kernel) ?_
    refine g_o 0 _ rfl (by decide +kernel) rfl rfl (fun _ h => o_fa rfl (o_nil sl h)) ?_
    refine g_o 1 _ rfl (by decide +kernel) rfl rfl (fun _ h => o_load rfl (rdC 1 rfl rfl) (o_nil sl h)) ?_
    refine g_o 2 _ rfl (by decide +kernel) rfl rfl (fun _ h => o_fa rfl (o_nil sl h)) ?_
    refine g_o 3 _ rfl (by decide +kernel) rfl rfl (fun _ h => o_load rfl (rdC 0 rfl rfl) (o_nil sl h)) ?_
    refine g_o 4 _ rfl (by decide +kernel) rfl rfl (fun _ h => o_eqb rfl rfl h3 (o_nil sl h)) ?_
    refine g_o 5 _ rfl (by decide +kernel) rfl rfl (fun _ h => o_move rfl (o_nil sl h)) ?_
    refine g_o 7 _ rfl (by decide +kernel) rfl rfl (fun _ h => o_fa rfl (o_nil sl h)) ?_
    refine g_o 8 _ rfl (by decide +kernel) rfl rfl (fun _ h => o_load rfl (rdC 1 rfl rfl) (o_nil sl h)) ?_
    refine g_o 9 _ rfl (by decide +kernel) rfl rfl (fun _ h => o_move rfl (o_nil sl h)) ?_
    refine g_ef [6, 11, 12] (by decide +kernel) sl ⟨?_, ?_, ?_, trivial⟩
    · simp only [getD_lit, List.getD_cons_succ, List.getD_cons_zero]
      refine o_pu rfl (made70 hv1 ht1) (fun u F6 hF6 h6 => ?_) sl
      rw [hsg] at h6
      obtain ⟨q6, e, h6⟩ := h6.iz
      subst e
      refine o_nil sl ⟨.inl hF6, _, sl, .inl (List.Sublist.refl _), ?_⟩
      refine g_ef [10, 11, 12] (by decide +kernel) sl ⟨?_, ?_, ?_, trivial⟩
      · simp only [getD_lit, List.getD_cons_succ, List.getD_cons_zero]
        refine o_pu rfl (made70 (hv2.le hF6) ht2) (fun u F10 hF10 h10 => ?_) sl
        rw [show sg neg (num []) = 0 by cases neg <;> rfl] at h10
        obtain ⟨q10, e, h10⟩ := h10.iz
        subst e
        refine o_nil sl ⟨.inl hF10, _, sl, .inl (List.Sublist.refl _), ?_⟩
        refine g_ef [11, 12] (by decide +kernel) sl ⟨?_, ?_, trivial⟩
        · simp only [getD_lit, List.getD_cons_succ, List.getD_cons_zero]
          refine go ?_
          intro ra
          refine ⟨.inl (Fle.refl _), _, sl, .inl (List.Sublist.refl _), ?_⟩
          refine g_ef [12] (by decide +kernel) sl ⟨?_, trivial⟩
          simp only [getD_lit, List.getD_cons_succ, List.getD_cons_zero]
          refine go ?_
          intro rb
          refine ⟨.inl (Fle.refl _), _, sl, .inl (List.Sublist.refl _), ?_⟩
          refine g_ef [13] (by decide +kernel) sl ⟨?_, trivial⟩
          simp only [getD_lit, List.getD_cons_succ, List.getD_cons_zero]
          refine go ?_
          refine ⟨.inl (Fle.refl _), _, sl, .inl (List.Sublist.refl _), ?_⟩
          refine g_ef [14] (by decide +kernel) sl ⟨?_, trivial⟩
          simp only [getD_lit, List.getD_cons_succ, List.getD_cons_zero]
          refine go ?_
          refine ⟨.inl (Fle.refl _), _, sl, .inl (List.Sublist.refl _), ?_⟩
          refine g_end (by decide +kernel) sl ?_
          exact ⟨_, _, _, ⟨ra, rb, q6, q10, rfl, rfl, (hF5.trans hF6).trans hF10, h6.le hF10, h10⟩, ⟨rfl, rfl, rfl, rfl, rfl, rfl, trivial⟩, Turn.refl _ _, rfl⟩
        · simp only [getD_lit, List.getD_cons_succ, List.getD_cons_zero]
          refine go ?_
          intro rb
          refine ⟨.inl (Fle.refl _), _, sl, .inl (List.Sublist.refl _), ?_⟩
          refine g_ef [11] (by decide +kernel) sl ⟨?_, trivial⟩
          simp only [getD_lit, List.getD_cons_succ, List.getD_cons_zero]
          refine go ?_
          intro ra
          refine ⟨.inl (Fle.refl _), _, sl, .inl (List.Sublist.refl _), ?_⟩
          refine g_ef [13] (by decide +kernel) sl ⟨?_, trivial⟩
          simp only [getD_lit, List.getD_cons_succ, List.getD_cons_zero]
          refine go ?_
          refine ⟨.inl (Fle.refl _), _, sl, .inl (List.Sublist.refl _), ?_⟩
          refine g_ef [14] (by decide +kernel) sl ⟨?_, trivial⟩
          simp only [getD_lit, List.getD_cons_succ, List.getD_cons_zero]
          refine go ?_
          refine ⟨.inl (Fle.refl _), _, sl, .inl (List.Sublist.refl _), ?_⟩
          refine g_end (by decide +kernel) sl ?_
          exact ⟨_, _, _, ⟨ra, rb, q6, q10, rfl, rfl, (hF5.trans hF6).trans hF10, h6.le hF10, h10⟩, ⟨rfl, rfl, rfl, rfl, rfl, rfl, trivial⟩, Turn.perm (.swap ..), rfl⟩
      · simp only [getD_lit, List.getD_cons_succ, List.getD_cons_zero]
        refine go ?_
        intro ra
        refine ⟨.inl (Fle.refl _), _, sl, .inl (List.Sublist.refl _), ?_⟩
        refine g_ef [10, 12] (by decide +kernel) sl ⟨?_, ?_, trivial⟩
        · simp only [getD_lit, List.getD_cons_succ, List.getD_cons_zero]
          refine o_pu rfl (made70 (hv2.le hF6) ht2) (fun u F10 hF10 h10 => ?_) sl
          rw [show sg neg (num []) = 0 by cases neg <;> rfl] at h10
          obtain ⟨q10, e, h10⟩ := h10.iz
          subst e
          refine o_nil sl ⟨.inl hF10, _, sl, .inl (List.Sublist.refl _), ?_⟩
          refine g_ef [12] (by decide +kernel) sl ⟨?_, trivial⟩
          simp only [getD_lit, List.getD_cons_succ, List.getD_cons_zero]
          refine go ?_
          intro rb
          refine ⟨.inl (Fle.refl _), _, sl, .inl (List.Sublist.refl _), ?_⟩
          refine g_ef [13] (by decide +kernel) sl ⟨?_, trivial⟩
          simp only [getD_lit, List.getD_cons_succ, List.getD_cons_zero]
          refine go ?_
          refine ⟨.inl (Fle.refl _), _, sl, .inl (List.Sublist.refl _), ?_⟩
          refine g_ef [14] (by decide +kernel) sl ⟨?_, trivial⟩
          simp only [getD_lit, List.getD_cons_succ, List.getD_cons_zero]
          refine go ?_
          refine ⟨.inl (Fle.refl _), _, sl, .inl (List.Sublist.refl _), ?_⟩
          refine g_end (by decide +kernel) sl ?_
          exact ⟨_, _, _, ⟨ra, rb, q6, q10, rfl, rfl, (hF5.trans hF6).trans hF10, h6.le hF10, h10⟩, ⟨rfl, rfl, rfl, rfl, rfl, rfl, trivial⟩, Turn.refl _ _, rfl⟩
        · simp only [getD_lit, List.getD_cons_succ, List.getD_cons_zero]
          refine go ?_
          intro rb
          refine ⟨.inl (Fle.refl _), _, sl, .inl (List.Sublist.refl _), ?_⟩
          refine g_ef [10] (by decide +kernel) sl ⟨?_, trivial⟩
          simp only [getD_lit, List.getD_cons_succ, List.getD_cons_zero]
          refine o_pu rfl (made70 (hv2.le hF6) ht2) (fun u F10 hF10 h10 => ?_) sl
          rw [show sg neg (num []) = 0 by cases neg <;> rfl] at h10
          obtain ⟨q10, e, h10⟩ := h10.iz
          subst e
          refine o_nil sl ⟨.inl hF10, _, sl, .inl (List.Sublist.refl _), ?_⟩
          refine g_ef [13] (by decide +kernel) sl ⟨?_, trivial⟩
          simp only [getD_lit, List.getD_cons_succ, List.getD_cons_zero]
          refine go ?_
          refine ⟨.inl (Fle.refl _), _, sl, .inl (List.Sublist.refl _), ?_⟩
          refine g_ef [14] (by decide +kernel) sl ⟨?_, trivial⟩
          simp only [getD_lit, List.getD_cons_succ, List.getD_cons_zero]
          refine go ?_
          refine ⟨.inl (Fle.refl _), _, sl, .inl (List.Sublist.refl _), ?_⟩
          refine g_end (by decide +kernel) sl ?_
          exact ⟨_, _, _, ⟨ra, rb, q6, q10, rfl, rfl, (hF5.trans hF6).trans hF10, h6.le hF10, h10⟩, ⟨rfl, rfl, rfl, rfl, rfl, rfl, trivial⟩, Turn.refl _ _, rfl⟩
      · simp only [getD_lit, List.getD_cons_succ, List.getD_cons_zero]
        refine go ?_
        intro rb
        refine ⟨.inl (Fle.refl _), _, sl, .inl (List.Sublist.refl _), ?_⟩
        refine g_ef [10, 11] (by decide +kernel) sl ⟨?_, ?_, trivial⟩
        · simp only [getD_lit, List.getD_cons_succ, List.getD_cons_zero]
          refine o_pu rfl (made70 (hv2.le hF6) ht2) (fun u F10 hF10 h10 => ?_) sl
          rw [show sg neg (num []) = 0 by cases neg <;> rfl] at h10
          obtain ⟨q10, e, h10⟩ := h10.iz
          subst e
          refine o_nil sl ⟨.inl hF10, _, sl, .inl (List.Sublist.refl _), ?_⟩
          refine g_ef [11] (by decide +kernel) sl ⟨?_, trivial⟩
          simp only [getD_lit, List.getD_cons_succ, List.getD_cons_zero]
          refine go ?_
          intro ra
          refine ⟨.inl (Fle.refl _), _, sl, .inl (List.Sublist.refl _), ?_⟩
          refine g_ef [13] (by decide +kernel) sl ⟨?_, trivial⟩
          simp only [getD_lit, List.getD_cons_succ, List.getD_cons_zero]
          refine go ?_
          refine ⟨.inl (Fle.refl _), _, sl, .inl (List.Sublist.refl _), ?_⟩
          refine g_ef [14] (by decide +kernel) sl ⟨?_, trivial⟩
          simp only [getD_lit, List.getD_cons_succ, List.getD_cons_zero]
          refine go ?_
          refine ⟨.inl (Fle.refl _), _, sl, .inl (List.Sublist.refl _), ?_⟩
          refine g_end (by decide +kernel) sl ?_
          exact ⟨_, _, _, ⟨ra, rb, q6, q10, rfl, rfl, (hF5.trans hF6).trans hF10, h6.le hF10, h10⟩, ⟨rfl, rfl, rfl, rfl, rfl, rfl, trivial⟩, Turn.perm (.swap ..), rfl⟩
        · simp only [getD_lit, List.getD_cons_succ, List.getD_cons_zero]
          refine go ?_
          intro ra
          refine ⟨.inl (Fle.refl _), _, sl, .inl (List.Sublist.refl _), ?_⟩
          refine g_ef [10] (by decide +kernel) sl ⟨?_, trivial⟩
          simp only [getD_lit, List.getD_cons_succ, List.getD_cons_zero]
          refine o_pu rfl (made70 (hv2.le hF6) ht2) (fun u F10 hF10 h10 => ?_) sl
          rw [show sg neg (num []) = 0 by cases neg <;> rfl] at h10
          obtain ⟨q10, e, h10⟩ := h10.iz
          subst e
          refine o_nil sl ⟨.inl hF10, _, sl, .inl (List.Sublist.refl _), ?_⟩
          refine g_ef [13] (by decide +kernel) sl ⟨?_, trivial⟩
          simp only [getD_lit, List.getD_cons_succ, List.getD_cons_zero]
          refine go ?_
          refine ⟨.inl (Fle.refl _), _, sl, .inl (List.Sublist.refl _), ?_⟩
          refine g_ef [14] (by decide +kernel) sl ⟨?_, trivial⟩
          simp only [getD_lit, List.getD_cons_succ, List.getD_cons_zero]
          refine go ?_
          refine ⟨.inl (Fle.refl _), _, sl, .inl (List.Sublist.refl _), ?_⟩
          refine g_end (by decide +kernel) sl ?_
          exact ⟨_, _, _, ⟨ra, rb, q6, q10, rfl, rfl, (hF5.trans hF6).trans hF10, h6.le hF10, h10⟩, ⟨rfl, rfl, rfl, rfl, rfl, rfl, trivial⟩, Turn.perm (.swap ..), rfl⟩
    · simp only [getD_lit, List.getD_cons_succ, List.getD_cons_zero]
      refine go ?_
      intro ra
      refine ⟨.inl (Fle.refl _), _, sl, .inl (List.Sublist.refl _), ?_⟩
      refine g_ef [6, 12] (by decide +kernel) sl ⟨?_, ?_, trivial⟩
      · simp only [getD_lit, List.getD_cons_succ, List.getD_cons_zero]
        refine o_pu rfl (made70 hv1 ht1) (fun u F6 hF6 h6 => ?_) sl
        rw [hsg] at h6
        obtain ⟨q6, e, h6⟩ := h6.iz
        subst e
        refine o_nil sl ⟨.inl hF6, _, sl, .inl (List.Sublist.refl _), ?_⟩
        refine g_ef [10, 12] (by decide +kernel) sl ⟨?_, ?_, trivial⟩
        · simp only [getD_lit, List.getD_cons_succ, List.getD_cons_zero]
          refine o_pu rfl (made70 (hv2.le hF6) ht2) (fun u F10 hF10 h10 => ?_) sl
          rw [show sg neg (num []) = 0 by cases neg <;> rfl] at h10
          obtain ⟨q10, e, h10⟩ := h10.iz
          subst e
          refine o_nil sl ⟨.inl hF10, _, sl, .inl (List.Sublist.refl _), ?_⟩
          refine g_ef [12] (by decide +kernel) sl ⟨?_, trivial⟩
          simp only [getD_lit, List.getD_cons_succ, List.getD_cons_zero]
          refine go ?_
          intro rb
          refine ⟨.inl (Fle.refl _), _, sl, .inl (List.Sublist.refl _), ?_⟩
          refine g_ef [13] (by decide +kernel) sl ⟨?_, trivial⟩
          simp only [getD_lit, List.getD_cons_succ, List.getD_cons_zero]
          refine go ?_
          refine ⟨.inl (Fle.refl _), _, sl, .inl (List.Sublist.refl _), ?_⟩
          refine g_ef [14] (by decide +kernel) sl ⟨?_, trivial⟩
          simp only [getD_lit, List.getD_cons_succ, List.getD_cons_zero]
          refine go ?_
          refine ⟨.inl (Fle.refl _), _, sl, .inl (List.Sublist.refl _), ?_⟩
          refine g_end (by decide +kernel) sl ?_
          exact ⟨_, _, _, ⟨ra, rb, q6, q10, rfl, rfl, (hF5.trans hF6).trans hF10, h6.le hF10, h10⟩, ⟨rfl, rfl, rfl, rfl, rfl, rfl, trivial⟩, Turn.refl _ _, rfl⟩
        · simp only [getD_lit, List.getD_cons_succ, List.getD_cons_zero]
          refine go ?_
          intro rb
          refine ⟨.inl (Fle.refl _), _, sl, .inl (List.Sublist.refl _), ?_⟩
          refine g_ef [10] (by decide +kernel) sl ⟨?_, trivial⟩
          simp only [getD_lit, List.getD_cons_succ, List.getD_cons_zero]
          refine o_pu rfl (made70 (hv2.le hF6) ht2) (fun u F10 hF10 h10 => ?_) sl
          rw [show sg neg (num []) = 0 by cases neg <;> rfl] at h10
          obtain ⟨q10, e, h10⟩ := h10.iz
          subst e
          refine o_nil sl ⟨.inl hF10, _, sl, .inl (List.Sublist.refl _), ?_⟩
          refine g_ef [13] (by decide +kernel) sl ⟨?_, trivial⟩
          simp only [getD_lit, List.getD_cons_succ, List.getD_cons_zero]
          refine go ?_
          refine ⟨.inl (Fle.refl _), _, sl, .inl (List.Sublist.refl _), ?_⟩
          refine g_ef [14] (by decide +kernel) sl ⟨?_, trivial⟩
          simp only [getD_lit, List.getD_cons_succ, List.getD_cons_zero]
          refine go ?_
          refine ⟨.inl (Fle.refl _), _, sl, .inl (List.Sublist.refl _), ?_⟩
          refine g_end (by decide +kernel) sl ?_
          exact ⟨_, _, _, ⟨ra, rb, q6, q10, rfl, rfl, (hF5.trans hF6).trans hF10, h6.le hF10, h10⟩, ⟨rfl, rfl, rfl, rfl, rfl, rfl, trivial⟩, Turn.refl _ _, rfl⟩
      · simp only [getD_lit, List.getD_cons_succ, List.getD_cons_zero]
        refine go ?_
        intro rb
        refine ⟨.inl (Fle.refl _), _, sl, .inl (List.Sublist.refl _), ?_⟩
        refine g_ef [6] (by decide +kernel) sl ⟨?_, trivial⟩
        simp only [getD_lit, List.getD_cons_succ, List.getD_cons_zero]
        refine o_pu rfl (made70 hv1 ht1) (fun u F6 hF6 h6 => ?_) sl
        rw [hsg] at h6
        obtain ⟨q6, e, h6⟩ := h6.iz
        subst e
        refine o_nil sl ⟨.inl hF6, _, sl, .inl (List.Sublist.refl _), ?_⟩
        refine g_ef [10] (by decide +kernel) sl ⟨?_, trivial⟩
        simp only [getD_lit, List.getD_cons_succ, List.getD_cons_zero]
        refine o_pu rfl (made70 (hv2.le hF6) ht2) (fun u F10 hF10 h10 => ?_) sl
        rw [show sg neg (num []) = 0 by cases neg <;> rfl] at h10
        obtain ⟨q10, e, h10⟩ := h10.iz
        subst e
        refine o_nil sl ⟨.inl hF10, _, sl, .inl (List.Sublist.refl _), ?_⟩
        refine g_ef [13] (by decide +kernel) sl ⟨?_, trivial⟩
        simp only [getD_lit, List.getD_cons_succ, List.getD_cons_zero]
        refine go ?_
        refine ⟨.inl (Fle.refl _), _, sl, .inl (List.Sublist.refl _), ?_⟩
        refine g_ef [14] (by decide +kernel) sl ⟨?_, trivial⟩
        simp only [getD_lit, List.getD_cons_succ, List.getD_cons_zero]
        refine go ?_
        refine ⟨.inl (Fle.refl _), _, sl, .inl (List.Sublist.refl _), ?_⟩
        refine g_end (by decide +kernel) sl ?_
        exact ⟨_, _, _, ⟨ra, rb, q6, q10, rfl, rfl, (hF5.trans hF6).trans hF10, h6.le hF10, h10⟩, ⟨rfl, rfl, rfl, rfl, rfl, rfl, trivial⟩, Turn.refl _ _, rfl⟩
    · simp only [getD_lit, List.getD_cons_succ, List.getD_cons_zero]
      refine go ?_
      intro rb
      refine ⟨.inl (Fle.refl _), _, sl, .inl (List.Sublist.refl _), ?_⟩
      refine g_ef [6, 11] (by decide +kernel) sl ⟨?_, ?_, trivial⟩
      · simp only [getD_lit, List.getD_cons_succ, List.getD_cons_zero]
        refine o_pu rfl (made70 hv1 ht1) (fun u F6 hF6 h6 => ?_) sl
        rw [hsg] at h6
        obtain ⟨q6, e, h6⟩ := h6.iz
        subst e
        refine o_nil sl ⟨.inl hF6, _, sl, .inl (List.Sublist.refl _), ?_⟩
        refine g_ef [10, 11] (by decide +kernel) sl ⟨?_, ?_, trivial⟩
        · simp only [getD_lit, List.getD_cons_succ, List.getD_cons_zero]
          refine o_pu rfl (made70 (hv2.le hF6) ht2) (fun u F10 hF10 h10 => ?_) sl
          rw [show sg neg (num []) = 0 by cases neg <;> rfl] at h10
          obtain ⟨q10, e, h10⟩ := h10.iz
          subst e
          refine o_nil sl ⟨.inl hF10, _, sl, .inl (List.Sublist.refl _), ?_⟩
          refine g_ef [11] (by decide +kernel) sl ⟨?_, trivial⟩
          simp only [getD_lit, List.getD_cons_succ, List.getD_cons_zero]
          refine go ?_
          intro ra
          refine ⟨.inl (Fle.refl _), _, sl, .inl (List.Sublist.refl _), ?_⟩
          refine g_ef [13] (by decide +kernel) sl ⟨?_, trivial⟩
          simp only [getD_lit, List.getD_cons_succ, List.getD_cons_zero]
          refine go ?_
          refine ⟨.inl (Fle.refl _), _, sl, .inl (List.Sublist.refl _), ?_⟩
          refine g_ef [14] (by decide +kernel) sl ⟨?_, trivial⟩
          simp only [getD_lit, List.getD_cons_succ, List.getD_cons_zero]
          refine go ?_
          refine ⟨.inl (Fle.refl _), _, sl, .inl (List.Sublist.refl _), ?_⟩
          refine g_end (by decide +kernel) sl ?_
          exact ⟨_, _, _, ⟨ra, rb, q6, q10, rfl, rfl, (hF5.trans hF6).trans hF10, h6.le hF10, h10⟩, ⟨rfl, rfl, rfl, rfl, rfl, rfl, trivial⟩, Turn.perm (.swap ..), rfl⟩
        · simp only [getD_lit, List.getD_cons_succ, List.getD_cons_zero]
          refine go ?_
          intro ra
          refine ⟨.inl (Fle.refl _), _, sl, .inl (List.Sublist.refl _), ?_⟩
          refine g_ef [10] (by decide +kernel) sl ⟨?_, trivial⟩
          simp only [getD_lit, List.getD_cons_succ, List.getD_cons_zero]
          refine o_pu rfl (made70 (hv2.le hF6) ht2) (fun u F10 hF10 h10 => ?_) sl
          rw [show sg neg (num []) = 0 by cases neg <;> rfl] at h10
          obtain ⟨q10, e, h10⟩ := h10.iz
          subst e
          refine o_nil sl ⟨.inl hF10, _, sl, .inl (List.Sublist.refl _), ?_⟩
          refine g_ef [13] (by decide +kernel) sl ⟨?_, trivial⟩
          simp only [getD_lit, List.getD_cons_succ, List.getD_cons_zero]
          refine go ?_
          refine ⟨.inl (Fle.refl _), _, sl, .inl (List.Sublist.refl _), ?_⟩
          refine g_ef [14] (by decide +kernel) sl ⟨?_, trivial⟩
          simp only [getD_lit, List.getD_cons_succ, List.getD_cons_zero]
          refine go ?_
          refine ⟨.inl (Fle.refl _), _, sl, .inl (List.Sublist.refl _), ?_⟩
          refine g_end (by decide +kernel) sl ?_
          exact ⟨_, _, _, ⟨ra, rb, q6, q10, rfl, rfl, (hF5.trans hF6).trans hF10, h6.le hF10, h10⟩, ⟨rfl, rfl, rfl, rfl, rfl, rfl, trivial⟩, Turn.perm (.swap ..), rfl⟩
      · simp only [getD_lit, List.getD_cons_succ, List.getD_cons_zero]
        refine go ?_
        intro ra
        refine ⟨.inl (Fle.refl _), _, sl, .inl (List.Sublist.refl _), ?_⟩
        refine g_ef [6] (by decide +kernel) sl ⟨?_, trivial⟩
        simp only [getD_lit, List.getD_cons_succ, List.getD_cons_zero]
        refine o_pu rfl (made70 hv1 ht1) (fun u F6 hF6 h6 => ?_) sl
        rw [hsg] at h6
        obtain ⟨q6, e, h6⟩ := h6.iz
        subst e
        refine o_nil sl ⟨.inl hF6, _, sl, .inl (List.Sublist.refl _), ?_⟩
        refine g_ef [10] (by decide +kernel) sl ⟨?_, trivial⟩
        simp only [getD_lit, List.getD_cons_succ, List.getD_cons_zero]
        refine o_pu rfl (made70 (hv2.le hF6) ht2) (fun u F10 hF10 h10 => ?_) sl
        rw [show sg neg (num []) = 0 by cases neg <;> rfl] at h10
        obtain ⟨q10, e, h10⟩ := h10.iz
        subst e
        refine o_nil sl ⟨.inl hF10, _, sl, .inl (List.Sublist.refl _), ?_⟩
        refine g_ef [13] (by decide +kernel) sl ⟨?_, trivial⟩
        simp only [getD_lit, List.getD_cons_succ, List.getD_cons_zero]
        refine go ?_
        refine ⟨.inl (Fle.refl _), _, sl, .inl (List.Sublist.refl _), ?_⟩
        refine g_ef [14] (by decide +kernel) sl ⟨?_, trivial⟩
        simp only [getD_lit, List.getD_cons_succ, List.getD_cons_zero]
        refine go ?_
        refine ⟨.inl (Fle.refl _), _, sl, .inl (List.Sublist.refl _), ?_⟩
        refine g_end (by decide +kernel) sl ?_
        exact ⟨_, _, _, ⟨ra, rb, q6, q10, rfl, rfl, (hF5.trans hF6).trans hF10, h6.le hF10, h10⟩, ⟨rfl, rfl, rfl, rfl, rfl, rfl, trivial⟩, Turn.perm (.swap ..), rfl⟩
  · rintro _ _ G b ⟨ra, rb, p, r, rfl, rfl, hG, hp1, hr1⟩
    have hrn : r.neg = false := by
      obtain ⟨n1, v1, l1, e, _, _, hz1, hp1⟩ := hr1
      have e1 : r.neg = n1 := by
        have := congrArg (fun v => match v with | Value.agg a => a[0]? | _ => none) e
        simpa [vIz] using this
      rw [e1]
      cases n1 with
      | false => rfl
      | true => have := hp1 rfl; simp only [sg] at hz1; omega
    refine goT ?_
    refine c_drww [.c rb (vIz r), .c ra (vIz p)] sl rfl (by decide +kernel) ?_
    refine go ?_
    exact b_ret rfl (.cons (.cella rfl rfl (rdsW 3 rfl)) (.cons (.cella rfl rfl (rdsW 2 rfl)) (.cons (.tmp rfl) .nil))) (Turn.of sl (Fle.refl _)) ⟨rfl, hG, p, r, rfl, hp1, hr1⟩
theorem over167 {F : Fz} {v w : Value} {xs ys : List Int} {c : Int} {k : Nat} (hx : RowI F v xs) (hw : IntR F w c) (hl : xs.length ≤ 1000000) (hy : ys.length = xs.length) (hd : ∀ i, i < xs.length → xs.getD i 0 = c * ys.getD i 0)
    (hc : (0 < c.natAbs ∧ c.natAbs < 4294967296) ∨ ∃ e, e < 1024 ∧ c.natAbs = 2 ^ e) (bx : Bnd k xs) (hk : k ≤ 8796093022208) : Pu 167 [v, w] F fun u F' => ∃ v', u = .tuple #[v', .int .i64 0] ∧ RowI F' v' ys := fun own => by
  have hc0 : 0 < c.natAbs := by
    rcases hc with h | ⟨e, _, h⟩
    · exact h.1
    · rw [h]; exact Nat.pow_pos (by decide)
  have hcs : ¬ c.sign = 0 := fun h => by rw [Int.sign_eq_zero_iff_zero] at h; omega
  obtain ⟨qs, hS, hZ⟩ := hx
  have hql := hZ.1
  rw [← hql] at hl hd hy
  obtain ⟨A, c0, rfl⟩ := hS.dest
  obtain ⟨qc, rfl, hqc⟩ := hw.iz
  refine n_fun Tryz.func167 Tryz.ntmps167 rfl rfl rfl ?_
  refine go ?_
  intro r3
  refine go ?_
  refine o_pu rfl (sign143 hqc) (fun u F1 _ ⟨e1, e2⟩ => ?_) sl
  subst e1 e2
  refine go ?_
  refine c_loopT (fun m X o G => ∃ (j : Nat) (cv : Value) (ps : List IZ), m = qs.length - j ∧ X = [(3, .pointer (some ⟨r3, 0, none⟩)), (6, cv), (15, .slice A qs.length c0), (16, .int .i64 (qs.length : Nat)), (17, .int .i64 (j : Nat))] ∧ zC cv ps :: .c r3 (vIz qc) :: own = o ∧ Fle F1 G ∧ IzR G ps ((List.range j).map fun i => ys.getD i 0) ∧ j ≤ qs.length)
    ⟨_, _, _, _, ⟨0, .slice none 0 0, [], rfl, rfl, rfl, Fle.refl _, IzR.nil _, by omega⟩, ⟨rfl, rfl, rfl, rfl, rfl, trivial⟩, Turn.nil 70 2⟩ ?_
  rintro _ _ _ G b ⟨j, cv, ps, rfl, rfl, rfl, hG, hps, hj⟩
  have hS' := RowS.le hS hG
  have hpl : ps.length = j := by rw [hps.1]; simp
  by_cases hjl : j < qs.length
  · have hz := (hZ.2 j (by omega)).le hG
    refine go ?_
    intro r8
    refine go ?_
    refine o_pu rfl (divMod197 hz (hqc.le hG) (hd j hjl) hc (bx _ (getD_mem' (by omega))) hk) (fun u F2 hF2 ⟨p, r, e, hp, hr⟩ => ?_) sl
    subst e
    refine go ?_
    intro r9 r10
    refine go ?_
    refine o_pu rfl (sign143 hr) (fun u F3 _ ⟨e1, e2⟩ => ?_) sl
    subst e1
    have e2 : u = .int .i64 0 := e2
    subst e2
    refine go ?_
    refine o_lit rfl rfl rfl rfl rfl (fun rl => ?_)
    refine o_app1 3 rfl rfl rfl rfl rfl rfl rfl (by omega) (by omega) (fun _ => rfl) (fun A' c' => ?_)
    refine go ?_
    exact ⟨_, _, _, _, ⟨j + 1, .slice A' (ps.length + 1) c', ps ++ [p], rfl, rfl, rfl, hG.trans hF2, by rw [range_snoc]; exact (hps.le hF2).snoc hp, by omega⟩, ⟨rfl, rfl, rfl, rfl, eqI (by omega), trivial⟩, by rw [← zC_snoc]; exact Turn.of sl (Fle.refl _), rfl, by omega⟩
  · obtain rfl : j = qs.length := by omega
    refine c_iceS (f := vIz) (l := ps) z0Z 0 rfl (fun _ => rfl) rfl (fun hcR => ?_)
    refine go ?_
    refine b_ret rfl (.cons (.tmp rfl) (.cons (.tmp rfl) .nil)) Turn.drop ⟨rfl, hG.trans (Fz.add_le _ _), _, rfl, ps, hcR, ?_⟩
    rw [map_of_get (zs := ys) hy (fun i hi => rfl)] at hps
    exact hps.le (Fz.add_le _ _)
end Go.Proofs.YthkoodpnepfijaaGreatDoor
/- Y4: WALKS: rows of whole numbers: Cmp, Same (equal rows), Zero, Unit, Clone; power. -/
namespace Go.Proofs.YthkoodpnepfijaaGreatDoor
open Go.RowKit
set_option linter.unusedVariables false
set_option linter.unusedSimpArgs false
set_option maxRecDepth 100000
set_option maxHeartbeats 1000000
theorem setL_mid : ∀ (us pre vs post : List Value), vs.length = us.length → setL (pre ++ (vs ++ post)) pre.length us = pre ++ (us ++ post)
  | [], pre, vs, post, h => by
    have : vs = [] := List.eq_nil_of_length_eq_zero h
    subst this; rfl
  | u :: us, pre, [], post, h => by cases h
  | u :: us, pre, v :: vs, post, h => by
    have ih := setL_mid us (pre ++ [u]) vs post (by simpa using h)
    rw [List.length_append] at ih
    rw [setL]
    have e : (pre ++ (v :: vs ++ post)).set pre.length u = pre ++ [u] ++ (vs ++ post) := by
      rw [List.set_append_right _ _ (Nat.le_refl _), Nat.sub_self]; simp
    rw [e]
    simpa using ih
theorem flat_len {α : Type} {f : α → List Value} {s : Nat} (hf : ∀ a, (f a).length = s) : ∀ l : List α, (l.flatMap f).length = l.length * s
  | [] => by simp
  | a :: l => by rw [List.flatMap_cons, List.length_append, hf, flat_len hf l, List.length_cons, Nat.add_mul]; omega
theorem setL_flat {α : Type} {f : α → List Value} {s : Nat} (hf : ∀ a, (f a).length = s) {l : List α} {j : Nat} (q : α) (hj : j < l.length) : setL (l.flatMap f) (j * s) (f q) = (l.set j q).flatMap f := by
  have e : l = l.take j ++ l[j] :: l.drop (j + 1) := by rw [List.getElem_cons_drop, List.take_append_drop]
  have hl : ((l.take j).flatMap f).length = j * s := by rw [flat_len hf, List.length_take]; congr 1; omega
  have h1 := setL_mid (f q) ((l.take j).flatMap f) (f l[j]) ((l.drop (j + 1)).flatMap f) (by rw [hf, hf])
  rw [hl] at h1
  rw [List.set_eq_take_append_cons_drop, if_pos hj, List.flatMap_append, List.flatMap_cons]
  rw [← h1]
  congr 1
  conv => lhs; rw [e]
  rw [List.flatMap_append, List.flatMap_cons]
theorem rowS_ice {α : Type} {F : Fz} {r m c s : Nat} {f : α → List Value} (z0 : α) {l : List α} (hf : ∀ a, (f a).length = s) (hl : l.length = m) (hc : m ≤ c) : RowS (F.add (.c r (l.flatMap f))) (.slice (some ⟨r, 0, none⟩) m c) f s z0 l := by
  refine ⟨some ⟨r, 0, none⟩, c, by rw [List.length_map, hl], by rw [List.length_map]; omega, fun i us hu => ?_⟩
  rw [List.getElem?_map] at hu
  obtain ⟨a, ha, rfl⟩ := Option.map_eq_some_iff.1 hu
  have hil := (List.getElem?_eq_some_iff.1 ha).1
  refine ⟨hf a, _, rfl, fun j u hj => .inr ?_⟩
  have : Of (((⟨r, 0, none⟩ : Addr).add (i * s)).add j) r (0 + i * s + j) := inferInstance
  rw [at_c this, Nat.zero_add]
  have e : l = l.take i ++ a :: l.drop (i + 1) := by
    rw [← (List.getElem?_eq_some_iff.1 ha).2, List.getElem_cons_drop, List.take_append_drop]
  have hl2 : ((l.take i).flatMap f).length = i * s := by rw [flat_len hf, List.length_take]; congr 1; omega
  have hjl := (List.getElem?_eq_some_iff.1 hj).1
  conv => lhs; rw [e]
  rw [List.flatMap_append, List.flatMap_cons, List.getElem?_append_right (by omega), hl2, Nat.add_sub_cancel_left, List.getElem?_append_left hjl]
  exact hj
theorem vIz_len (q : IZ) : (vIz q).length = 2 := rfl
theorem sgnI_self (x : Int) : sgnI x x = 0 := by unfold sgnI; rw [if_neg (by omega), if_neg (by omega)]
theorem cmp140 {F : Fz} {v w : Value} {xs : List Int} {k : Nat} (hx : RowI F v xs) (hy : RowI F w xs) (hl : xs.length ≤ 1000000) (bx : Bnd k xs) (hk : k ≤ 8796093022208) : Pu 140 [v, w] F fun u F' => u = .int .i64 0 := fun own => by
  obtain ⟨qs, hS, hZ⟩ := hx
  obtain ⟨ps, hT, hY⟩ := hy
  have hql := hZ.1
  have hpl := hY.1
  rw [← hql] at hl
  have hpq : ps.length = qs.length := by omega
  obtain ⟨A, c, rfl⟩ := hS.dest
  obtain ⟨A', c', e⟩ := hT.dest
  subst e
  refine n_fun Tryz.func140 Tryz.ntmps140 rfl rfl rfl ?_
  refine go ?_
  refine c_loopT (fun m X o G => ∃ j : Nat, m = qs.length - j ∧ X = [(1, .slice A' ps.length c'), (20, .slice A qs.length c), (21, .int .i64 (qs.length : Nat)), (22, .int .i64 (j : Nat))] ∧ own = o ∧ Fle F G ∧ j ≤ qs.length)
    ⟨_, _, _, _, ⟨0, rfl, rfl, rfl, Fle.refl _, by omega⟩, ⟨rfl, rfl, rfl, rfl, trivial⟩, Turn.refl _ _⟩ ?_
  rintro _ _ _ G b ⟨j, rfl, rfl, rfl, hG, hj⟩
  have hS' := RowS.le hS hG
  have hT' := RowS.le hT hG
  by_cases hjl : j < qs.length
  · have hz := (hZ.2 j (by omega)).le hG
    have hy := (hY.2 j (by omega)).le hG
    have hb := bx _ (getD_mem' (show j < xs.length by omega))
    refine goT ?_
    intro r6
    refine goT ?_
    refine c_drww [.c r6 (vIz (qs.getD j z0Z))] sl rfl (by decide +kernel) ?_
    refine go ?_
    refine o_pu rfl (cmp99 hz hy hb hb hk) (fun u F2 hF2 e => ?_) sl
    rw [sgnI_self] at e
    subst e
    refine go ?_
    exact ⟨_, _, _, _, ⟨j + 1, rfl, rfl, rfl, hG.trans hF2, by omega⟩, ⟨rfl, rfl, rfl, eqI (by omega), trivial⟩, Turn.drop, rfl, by omega⟩
  · obtain rfl : j = qs.length := by omega
    refine go ?_
    exact b_ret rfl (.cons (.tmp rfl) .nil) (Turn.refl _ _) ⟨rfl, hG, rfl⟩
theorem same102 {F : Fz} {v w : Value} {xs : List Int} {k : Nat} (hx : RowI F v xs) (hy : RowI F w xs) (hl : xs.length ≤ 1000000) (bx : Bnd k xs) (hk : k ≤ 8796093022208) : Pu 102 [v, w] F fun u F' => u = .bool true := fun own => by
  obtain ⟨A, c, e⟩ := hx.dest
  obtain ⟨A', c', e'⟩ := hy.dest
  subst e e'
  refine n_fun Tryz.func102 Tryz.ntmps102 rfl rfl rfl ?_
  refine go ?_
  refine o_pu rfl (cmp140 hx hy hl bx hk) (fun u F2 hF2 e => ?_) sl
  subst e
  refine go ?_
  exact b_ret rfl (.cons (.tmp rfl) .nil) (Turn.refl _ _) ⟨rfl, hF2, rfl⟩
theorem rep_two (n : Nat) : rep n 2 [.bool false, .slice none 0 0] = (List.replicate n z0Z).flatMap vIz := by
  rw [show rep n 2 [.bool false, .slice none 0 0] = repF n (vIz z0Z) from rep_eq (zs := vIz z0Z)]
  induction n with
  | zero => rfl
  | succ n ih => rw [repF, List.replicate_succ, List.flatMap_cons, ih]
theorem zero139 {F : Fz} {n : Nat} (h1 : 1 ≤ n) (hn : n ≤ 4096) (own : List Ch) : N 139 [.int .i64 (n : Nat)] own F fun u o F' => ∃ r, u = .tuple #[.slice (some ⟨r, 0, none⟩) n n, .int .i64 0] ∧ o = .c r ((List.replicate n z0Z).flatMap vIz) :: own ∧ F' = F := by
  refine n_fun Tryz.func139 Tryz.ntmps139 rfl rfl rfl ?_
  refine go ?_
  refine o_make n rfl rfl (by omega) (by omega) (fun r => ?_)
  refine go ?_
  exact b_ret rfl (.cons (.tmp rfl) (.cons (.tmp rfl) .nil)) (Turn.refl _ _) ⟨r, rfl, by rw [rep_two], rfl⟩
def unitL (n j : Nat) : List Int := (List.range n).map fun i => if i = j then 1 else 0
theorem unit101 {F : Fz} {n j : Nat} (hn : n ≤ 4096) (hj : j < n) : Pu 101 [.int .i64 (n : Nat), .int .i64 (j : Nat)] F fun u F' => ∃ v, u = .tuple #[v, .int .i64 0] ∧ RowI F' v (unitL n j) := fun own => by
  refine n_fun Tryz.func101 Tryz.ntmps101 rfl rfl rfl ?_
  refine go ?_
  refine o_call rfl (zero139 (by omega) hn own) (fun u o F' ⟨r, e1, e2, e3⟩ => ⟨_, .text, ?_⟩) (List.Sublist.refl _)
  subst e1 e2 e3
  refine go ?_
  refine o_pu rfl (Of22 (by omega) (by omega)) (fun u F1 hF1 h1 => ?_) sl
  obtain ⟨q, e, hq⟩ := h1.iz
  subst e
  refine go ?_
  refine o_staN rfl inferInstance rfl rfl rfl get0 (by rw [setL_flat vIz_len q (by simpa using hj)]; rfl) (by rw [flat_len vIz_len, List.length_replicate]; show j * 2 + 2 ≤ n * 2; omega) sl .text ?_
  refine o_turn Turn.ice ?_
  refine go ?_
  have hR := rowS_ice (F := F1) (r := r) (c := n) z0Z vIz_len (l := (List.replicate n z0Z).set j q) (m := n) (by simp) (Nat.le_refl _)
  refine b_ret rfl (.cons (.tmp rfl) (.cons (.tmp rfl) .nil)) (Turn.refl _ _) ⟨rfl, hF1.trans (Fz.add_le _ _), _, rfl, _, hR, by simp [unitL], fun i hi => ?_⟩
  have hin : i < n := by simpa [unitL] using hi
  unfold unitL
  rw [getD_map_range (fun i => if i = j then (1 : Int) else 0) hin]
  dsimp only
  rw [List.getD_eq_getElem?_getD, List.getElem?_set]
  by_cases h : i = j
  · subst h
    rw [if_pos rfl, if_pos rfl, List.length_replicate, if_pos hj]
    exact hq.le (Fz.add_le _ _)
  · rw [if_neg (fun e => h e.symm), if_neg h, List.getElem?_replicate, if_pos hin]
    exact IntR.zero _
theorem vIz_one : ∀ l : List IZ, (l.flatMap vIz).all One = true
  | [] => rfl
  | a :: l => by rw [List.flatMap_cons, List.all_append, vIz_one l]; rfl
theorem clone137 {F : Fz} {v : Value} {xs : List Int} (hx : RowI F v xs) (hlen : xs.length ≤ 1000000) : Pu 137 [v] F fun u F' => RowI F' u xs := fun own => by
  obtain ⟨l, hl, hZ⟩ := hx
  have hql := hZ.1
  rw [← hql] at hlen
  refine n_fun Tryz.func137 Tryz.ntmps137 rfl rfl rfl ?_
  have hl' := hl
  obtain ⟨A, c, rfl, h2, h3⟩ := hl
  rw [List.length_map] at h2 ⊢
  cases A with
  | none =>
    have hnil : l = [] := by
      cases l with
      | nil => rfl
      | cons i l => obtain ⟨_, B, e, _⟩ := h3 0 (vIz i) rfl; cases e
    subst hnil
    refine go ?_
    refine o_eqnil true rfl (by decide +kernel) rfl rfl ?_
    refine go ?_
    exact b_ret rfl (.cons (.tmp rfl) .nil) (Turn.refl _ _) ⟨rfl, Fle.refl _, [], ⟨none, 0, rfl, Nat.le_refl _, fun i us h => by simp at h⟩, hZ⟩
  | some A =>
    have hcs : ∀ i u, (l.map vIz).flatten[i]? = some u → F (A.add (0 * 2 + i)) u := rowsCells (m := 0) (c := 0) (fun i us hu => by
      obtain ⟨q, B, e, hB⟩ := h3 i us hu
      cases e
      rw [Nat.zero_add]
      exact ⟨q, hB⟩)
    refine go ?_
    refine o_eqnil false rfl (by decide +kernel) rfl rfl ?_
    refine go ?_
    refine o_litg (fun r => ?_)
    refine go ?_
    refine o_append (t' := 0) (news := l.flatMap vIz) 0 rfl rfl rfl (flat_len vIz_len l) (fun i u hu => .inl (by rw [List.flatMap_def] at hu; have := hcs i u hu; rwa [Nat.zero_mul, Nat.zero_add] at this)) (vIz_one l) rfl rfl (by omega) (by omega) (fun v' _ => ?_)
    rw [List.set_cons_zero, Nat.zero_add, List.nil_append]
    refine o_iceS (l := l) (f := vIz) z0Z 0 rfl (fun _ => rfl) rfl (fun hC => ?_)
    refine go ?_
    exact b_ret rfl (.cons (.tmp rfl) .nil) (Turn.refl _ _) ⟨rfl, Fz.add_le _ _, l, hC, hZ.le (Fz.add_le _ _)⟩
theorem power194 {F : Fz} {c : Nat} (hc : c ≤ 65536) : Pu 194 [.int .i64 (c : Nat)] F fun u F' => IntR F' u (2 ^ c) := fun own => by
  refine n_fun Tryz.func194 Tryz.ntmps194 rfl rfl rfl ?_
  refine go ?_
  intro r2
  refine go ?_
  refine o_pu rfl (Of22 (by omega) (by omega)) (fun u F1 hF1 h1 => ?_) sl
  obtain ⟨q, e, hq⟩ := h1.iz
  subst e
  refine go ?_
  refine o_pu rfl (shl177 (k := 1) hq hc (by decide) (by omega)) (fun u F2 hF2 ⟨v', e, h2⟩ => ?_) sl
  rw [Int.one_mul] at h2
  obtain ⟨q2, e2, hq2⟩ := h2.iz
  subst e e2
  refine go ?_
  intro r3
  refine go ?_
  exact b_ret rfl (.cons (.cella rfl rfl (rdsW 1 rfl)) .nil) (Turn.of sl (Fle.refl _)) ⟨rfl, hF1.trans hF2, hq2⟩
end Go.Proofs.YthkoodpnepfijaaGreatDoor

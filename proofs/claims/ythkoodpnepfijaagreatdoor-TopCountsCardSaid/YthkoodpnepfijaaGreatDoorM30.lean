/-
  Steps towards TopCounts (no conditions of their own): WALKS: limbs: DivMod, by one limb or by a power of two. WALKS: whole numbers: Times, Shl, Over. WALKS: rows of whole numbers: both, Add, Sub, Scale.
-/
import Derived.Test.YthkoodpnepfijaaGreatDoorM28
import Derived.Test.YthkoodpnepfijaaGreatDoorM29
/- WE: WALKS: limbs: DivMod, by one limb or by a power of two. -/
namespace Go.Proofs.YthkoodpnepfijaaGreatDoor
open Go.RowKit
set_option linter.unusedVariables false
set_option linter.unusedSimpArgs false
set_option maxRecDepth 100000
set_option maxHeartbeats 1000000
theorem num_one {l : List Nat} (h : l.length = 1) : num l = l.getD 0 0 := by
  unfold num; rw [h]; show numF _ 0 + _ = _; simp [numF]
theorem len_one {l : List Nat} (hd : Dig l) (ht : Trm l) (h0 : 0 < num l) (h : num l < 4294967296) : l.length = 1 := by
  rcases ht with h1 | h1
  · have : l = [] := List.eq_nil_of_length_eq_zero h1
    subst this; simp [num, numF] at h0
  · have hne : l.length ≠ 0 := fun e => by have : l = [] := List.eq_nil_of_length_eq_zero e; subst this; simp at h1
    obtain ⟨m, hm⟩ : ∃ m, l.length = m + 1 := ⟨l.length - 1, by omega⟩
    rw [hm] at h1
    have h2 : 4294967296 ^ m ≤ num l := by unfold num; rw [hm]; exact numF_ge (by simpa using h1)
    by_cases hm0 : m = 0
    · omega
    · have : 4294967296 ^ 1 ≤ 4294967296 ^ m := Nat.pow_le_pow_right (by decide) (by omega)
      omega
theorem divMod198 {v w : Value} {l k : List Nat} {F : Fz} (hr : Lr F v l) (hw : Lr F w k) (hl : l.length < 549755813888) (hk : k.length < 549755813888) (hk0 : 0 < num k) (hc : num k < 4294967296 ∨ ∃ c, c < 1024 ∧ num k = 2 ^ c) :
    Pu 198 [v, w] F fun u F' => ∃ v1 v2 l1 l2, u = .tuple #[v1, v2, .int .i64 0] ∧ Lr F' v1 l1 ∧ Lr F' v2 l2 ∧ Trm l1 ∧ Trm l2 ∧ num l1 = num l / num k ∧ num l2 = num l % num k ∧ l1.length ≤ l.length + 33 ∧ l2.length ≤ l.length + 33 := fun own => by
  refine n_fun Tryz.func198 Tryz.ntmps198 rfl rfl rfl ?_
  refine go ?_
  refine o_pu rfl (trim113 hw (by omega)) (fun w1 F1 hF1 ⟨k1, hw1, ht1, hn1, hle1, hfull1⟩ => ?_)
  have hr := hr.le hF1
  have hkr := hw1.row
  rw [← hn1] at hk0 hc ⊢
  have hne : ¬ k1.length = 0 := fun e => by have : k1 = [] := List.eq_nil_of_length_eq_zero e; subst this; simp [num, numF] at hk0
  clear hw
  refine go ?_
  refine o_pu rfl (cmp106 hr hw1 (by omega) (by omega)) (fun u F2 hF2 hu => ?_)
  subst hu
  have hr := hr.le hF2
  have hw1 := hw1.le hF2
  have hkr := hw1.row
  have hF := hF1.trans hF2
  by_cases h1 : num l < num k1
  · rw [sgn_lt h1]
    refine go ?_
    refine o_pu rfl (norm71 hr (by omega)) (fun v2 F3 hF3 ⟨l2, hv2, ht2, hn2, hle2⟩ => ?_)
    refine go ?_
    exact b_ret rfl (.cons (.tmp rfl) (.cons (.tmp rfl) (.cons (.tmp rfl) .nil))) (Turn.refl _ _) ⟨rfl, hF.trans hF3, _, v2, [], l2, rfl, ⟨Row.nil _, fun i hi => by simp at hi⟩, hv2, .inl rfl, ht2, by rw [Nat.div_eq_of_lt h1]; rfl, by rw [hn2, Nat.mod_eq_of_lt h1], by simp, by omega⟩
  · have hs : ¬ sgn (num l) (num k1) < 0 := by unfold sgn; rw [if_neg h1]; split <;> omega
    by_cases h2 : k1.length = 1
    · have hd0 := hw1.d 0
      have hk1 := num_one h2
      refine go ?_
      refine o_pu rfl (divSmall210 hr (by omega) (by omega) (by omega) (c := k1.getD 0 0)) (fun u F3 hF3 ⟨v1, l1, hu, hv1, ht1, hn1, hle1⟩ => ?_)
      subst hu
      have hmod : num l % k1.getD 0 0 < 4294967296 := Nat.lt_trans (Nat.mod_lt _ (by omega)) hd0
      refine go ?_
      refine o_lit (m := 1) rfl rfl rfl rfl rfl (fun r => ?_)
      refine o_turn Turn.ice ?_
      refine go ?_
      have hrow : Lr (Fz.add F3 (.c r [.int .u32 ((num l % k1.getD 0 0 : Nat) : Int)])) (.slice (some ⟨r, 0, none⟩) 1 1) [num l % k1.getD 0 0] := lr_ice (l := [num l % k1.getD 0 0]) (Dig.cons hmod (fun i hi => by simp at hi)) rfl (Nat.le_refl _)
      refine o_pu rfl (norm71 hrow (by simp)) (fun v2 F4 hF4 ⟨l2, hv2, ht2, hn2, hle2⟩ => ?_)
      refine go ?_
      exact b_ret rfl (.cons (.tmp rfl) (.cons (.tmp rfl) (.cons (.tmp rfl) .nil))) (Turn.refl _ _) ⟨rfl, (hF.trans hF3).trans (Fle.trans (Fz.add_le _ _) hF4), v1, v2, l1, l2, rfl, hv1.le (Fle.trans (Fz.add_le _ _) hF4), hv2, ht1, ht2, by rw [hn1, hk1], by rw [hn2, num_cons, num_nil, hk1]; omega, by omega, by simp at hle2; omega⟩
    · -- the divisor is a power of two of two limbs or more
      have hge : 2 ≤ k1.length := by omega
      have hbig : 4294967296 ≤ num k1 := by
        rcases ht1 with h | h
        · omega
        · obtain ⟨m, hm⟩ : ∃ m, k1.length = m + 1 := ⟨k1.length - 1, by omega⟩
          rw [hm] at h
          have h3 : 4294967296 ^ m ≤ num k1 := by unfold num; rw [hm]; exact numF_ge (by simpa using h)
          have : 4294967296 ^ 1 ≤ 4294967296 ^ m := Nat.pow_le_pow_right (by decide) (by omega)
          omega
      obtain ⟨c, hc1, hc2⟩ : ∃ c, c < 1024 ∧ num k1 = 2 ^ c := hc.resolve_left (by omega)
      have hkl := pow2_list hw1.dig ht1 hc2
      have hlen : k1.length = c / 32 + 1 := by rw [hkl]; simp
      have htop : k1.getD (k1.length - 1) 0 = 2 ^ (c % 32) := by
        rw [hlen, Nat.add_sub_cancel, hkl, getD_app, if_neg (by simp)]; simp
      have hc32 : 1 ≤ c / 32 := by omega
      have hj : c % 32 < 32 := by omega
      have hcH : Hid (num k1 = 2 ^ c) := hc2
      have hklH : Hid (k1 = List.replicate (c / 32) 0 ++ [2 ^ (c % 32)]) := hkl
      have hbigH : Hid (4294967296 ≤ num k1 ∧ ¬ num l < num k1) := ⟨hbig, h1⟩
      clear hkl hc2 hbig hc
      refine go ?_
      rw [show vu (k1.getD (k1.length - 1) 0) = .int .u32 ((2 ^ (c % 32) : Nat) : Int) by rw [htop]; rfl]
      refine o_pu rfl (lead211 hj) (fun u F3 hF3 hu => ?_)
      subst hu
      have hw1 := hw1.le hF3
      have hr := hr.le hF3
      refine go ?_
      refine o_pu rfl (shl199 (k := 31 - c % 32) hw1 (by omega) (by omega)) (fun u F4 hF4 ⟨v3, l3, hu, hv3, ht3, hn3, hle3, hfull3⟩ => ?_)
      subst hu
      have hr := hr.le hF4
      refine go ?_
      refine o_pu rfl (shl199 (k := 31 - c % 32) hr (by omega) (by omega)) (fun u F5 hF5 ⟨v4, l4, hu, hv4, ht4, hn4, hle4, hfull4⟩ => ?_)
      subst hu
      have hv3 := hv3.le hF5
      have hv3r := hv3.row
      have hv4r := hv4.row
      -- the divisor, shifted
      have hn3' : num l3 = 2 ^ (31 + 32 * (c / 32)) := by
        rw [hn3, hcH.out, ← Nat.pow_add]; congr 1; omega
      have hl3 := pow2_list hv3.dig ht3 hn3'
      rw [show (31 + 32 * (c / 32)) / 32 = c / 32 by omega, show (31 + 32 * (c / 32)) % 32 = 31 by omega] at hl3
      have hlen3 : l3.length = c / 32 + 1 := by rw [hl3]; simp
      have htop2 : Top2 l3 l3.length := ⟨rfl, by omega, by rw [hlen3, Nat.add_sub_cancel, hl3, getD_app, if_neg (by simp)]; simp, fun i hi => by rw [hlen3] at hi; rw [hl3, getD_app, if_pos (by simp; omega)]; exact getD_rep _ _⟩
      have hn3H : Hid (num l3 = num k1 * 2 ^ (31 - c % 32)) := hn3
      have hn4H : Hid (num l4 = num l * 2 ^ (31 - c % 32)) := hn4
      clear hn3 hn4 hn3' hl3
      refine go ?_
      refine o_lit (m := 1) rfl rfl rfl rfl rfl (fun r0 => ?_)
      refine o_appendF (news := [vu 0]) rfl hfull4 hv4r.row rfl (by rfl) (by omega) (rdsC 0 rfl (fun i v h => by rw [Nat.zero_add]; exact h)) (by simp; omega) (by simp; omega) (fun r sp => ?_)
      rw [List.length_map]
      have hws : l4.map vu ++ [vu 0] ++ List.replicate sp (vu 0) = (l4 ++ [0] ++ List.replicate sp 0).map vu := by simp
      refine o_turn (own' := .c r ((l4 ++ [0] ++ List.replicate sp 0).map vu) :: own) (F' := F5) (by rw [← hws]; exact Turn.sub (List.Sublist.cons_cons _ (List.sublist_cons_self ..))) ?_
      have hn43 : l3.length ≤ l4.length := by
        by_cases h : l4.length < l3.length
        · have h3 := num_len hv4.dig ht3 h
          rw [hn3H.out, hn4H.out] at h3
          have := Nat.lt_of_mul_lt_mul_right h3
          exact absurd this hbigH.out.2
        · omega
      refine go ?_
      refine o_make (l4.length + 1 - l3.length) rfl (by omega) (by omega) (by omega) (fun rq => ?_)
      rw [rep_one]
      refine o_turn (Turn.perm (List.Perm.swap ..)) ?_
      have hdw : Dig (l4 ++ [0] ++ List.replicate sp 0) := (hv4.dig.snoc (by decide)).app (Dig.rep sp)
      have hVn : num l3 ≤ 4294967296 ^ l3.length := Nat.le_of_lt (numF_lt fun i hi => hv3.dig i hi)
      have hV1 : 4294967296 ^ (l3.length - 1) ≤ num l3 := by
        rw [htop2.num]; omega
      have hVH : Hid (num l3 ≤ 4294967296 ^ l3.length) := hVn
      have hinit : DvI (num l4) (num l3) l3.length (l4.length + 1 - l3.length) (l4 ++ [0] ++ List.replicate sp 0) [] := DvI.init hv4.dig hn43 (by omega) hV1
      clear hVn hV1
      refine go ?_
      refine c_loopE (fun q X o G => ∃ (m : Nat) (ws qs : List Nat), m = q ∧ X = [(10, .int .i64 ((31 - c % 32 : Nat) : Int)), (11, v3), (13, .slice (some ⟨r, 0, none⟩) (l4.length + 1) (l4.length + 1 + sp)), (15, .int .i64 (l3.length : Nat)), (16, .slice (some ⟨rq, 0, none⟩) (l4.length + 1 - l3.length) (l4.length + 1 - l3.length)), (17, .int .i64 ((m : Int) - 1))] ∧
        .c r (ws.map vu) :: .c rq ((List.replicate m 0 ++ qs).map vu) :: own = o ∧ F5 = G ∧ m + qs.length = l4.length + 1 - l3.length ∧ ws.length = l4.length + 1 + sp ∧ Dig ws ∧ Dig qs ∧ DvI (num l4) (num l3) l3.length m ws qs) ?_ ?_
      · exact ⟨_, _, _, _, ⟨l4.length + 1 - l3.length, _, [], rfl, rfl, rfl, rfl, by simp, by simp; omega, hdw, fun i hi => by simp at hi, hinit⟩, ⟨rfl, rfl, rfl, rfl, rfl, eqI (by omega), trivial⟩, by rw [List.append_nil, List.map_replicate]; rfl, rfl⟩
      · rintro _ _ _ _ b ⟨m, ws, qs, rfl, rfl, rfl, rfl, hmq, hwl, hwd, hqd, hdv⟩
        by_cases hm : 1 ≤ m
        · have hsm := hdv.small hm hwd (by omega)
          have hst : Hid (∀ us : List Nat, us.length = l3.length + 1 → Dig us → num us = numF (fun i => ws.getD (m - 1 + i) 0) (l3.length + 1) % num l3 → DvI (num l4) (num l3) l3.length (m - 1) (ws.take (m - 1) ++ us ++ ws.drop (m - 1 + l3.length + 1)) (numF (fun i => ws.getD (m - 1 + i) 0) (l3.length + 1) / num l3 :: qs)) := fun us h1 h2 h3 => hdv.step hm hVH.out hwd (by omega) h1 h2 h3
          have hsmH : Hid (numF (fun i => ws.getD (m - 1 + i) 0) (l3.length + 1) < num l3 * 4294967296) := hsm
          clear hsm
          refine go ?_
          refine o_slice (A' := some ⟨r, m - 1, none⟩) (m - 1) (m + l3.length) (l4.length + 1 + sp) rfl ⟨_, _, rfl, by omega⟩ ⟨_, _, rfl, by omega⟩ rfl (fun e => by cases e) (by omega) (by omega) (Nat.le_refl _) (by rw [if_neg (by omega)]; simp [Addr.add_lit]) ?_
          refine o_val (.slice (some ⟨r, m - 1, none⟩) (l3.length + 1) (l4.length + 1 + sp - (m - 1))) (by rw [show m + l3.length - (m - 1) = l3.length + 1 by omega]) ?_
          refine go ?_
          refine o_call rfl (digit212 (o := m - 1) (n := l3.length) hv3 htop2 (by omega) (by omega) hwd hsmH.out _) (fun u o' F' hp => ?_)
          obtain ⟨rfl, us, rfl, rfl, hul, hud, hun⟩ := hp
          refine ⟨_, .text, ?_⟩
          have hst := hst.out us hul hud hun
          have hqlt : numF (fun i => ws.getD (m - 1 + i) 0) (l3.length + 1) / num l3 < 4294967296 := by
            have hv0 : 0 < num l3 := Nat.lt_of_le_of_lt (Nat.zero_le _) hst.lt
            rw [Nat.div_lt_iff_lt_mul hv0, Nat.mul_comm]; exact hsmH.out
          have hlen2 : (ws.take (m - 1) ++ us ++ ws.drop (m - 1 + l3.length + 1)).length = l4.length + 1 + sp := by
            simp [hul]; omega
          have hd2 : Dig (ws.take (m - 1) ++ us ++ ws.drop (m - 1 + l3.length + 1)) := ((hwd.take _).app hud).app (hwd.drop _)
          generalize numF (fun i => ws.getD (m - 1 + i) 0) (l3.length + 1) / num l3 = Q at *
          generalize ws.take (m - 1) ++ us ++ ws.drop (m - 1 + l3.length + 1) = ws2 at *
          have hlq : (List.replicate m 0 ++ qs).length = l4.length + 1 - l3.length := by simp; omega
          refine go ?_
          exact ⟨_, _, _, _, ⟨m - 1, ws2, Q :: qs, rfl, rfl, rfl, rfl, by simp; omega, hlen2, hd2, hqd.cons hqlt, hst⟩, ⟨rfl, rfl, rfl, rfl, rfl, eqI (by omega), trivial⟩, congrArg (fun q => Ch.c r (ws2.map vu) :: Ch.c rq q :: own) (down_set hm rfl), rfl, rfl, by omega⟩
        · have e0 : m = 0 := by omega
          subst e0
          simp only [List.replicate_zero, List.nil_append]
          have hql : qs.length = l4.length + 1 - l3.length := by omega
          -- what is left, and the quotient
          have hrem : numF (fun i => ws.getD i 0) l3.length < num l3 ∧ num l4 = numF (fun i => ws.getD i 0) l3.length + num l3 * num qs := by
            have h3 := hdv.lt
            have h4 := hdv.eq
            simp only [Nat.zero_add, Nat.pow_zero, Nat.one_mul, Nat.mul_one] at h3 h4
            refine ⟨h3, ?_⟩
            rw [h4]; simp [numF]
          have hnw : num (ws.take (l4.length + 1)) = numF (fun i => ws.getD i 0) l3.length := by
            rw [num_take (by omega)]
            exact numF_zero (by omega) fun i h1 _ => hdv.zer i (by omega)
          have hp2 : 0 < 2 ^ (31 - c % 32) := Nat.two_pow_pos _
          have hquo : num qs = num l / num k1 := by
            have h5 := hrem.2
            have h6 : num l4 / num l3 = num qs := by
              rw [h5, Nat.add_mul_div_left _ _ (Nat.lt_of_le_of_lt (Nat.zero_le _) hrem.1), Nat.div_eq_of_lt hrem.1, Nat.zero_add]
            rw [← h6, hn3H.out, hn4H.out, Nat.mul_div_mul_right _ _ hp2]
          have hmod : numF (fun i => ws.getD i 0) l3.length / 2 ^ (31 - c % 32) = num l % num k1 := by
            have h5 := hrem.2
            have h6 : num l4 % num l3 = numF (fun i => ws.getD i 0) l3.length := by
              rw [h5, Nat.add_mul_mod_self_left, Nat.mod_eq_of_lt hrem.1]
            rw [← h6, hn3H.out, hn4H.out, Nat.mul_mod_mul_right, Nat.mul_div_cancel _ hp2]
          clear hrem
          refine go ?_
          refine o_turn Turn.ice ?_
          have hLu : Lr (Fz.add F5 (.c r (ws.map vu))) (.slice (some ⟨r, 0, none⟩) (l4.length + 1) (l4.length + 1 + sp)) (ws.take (l4.length + 1)) := by
            refine ⟨?_, hwd.take _⟩
            have := row_ice (F := F5) (r := r) (vs := ws.map vu) (m := l4.length + 1) (c := l4.length + 1 + sp) (by simp; omega) (by omega)
            rw [← List.map_take] at this
            exact this
          refine o_pu rfl (shr201 (k := 31 - c % 32) hLu (by rw [List.length_take]; omega) (by omega)) (fun u F6 hF6 ⟨v5, l5, hu, hv5, ht5, hn5, hle5⟩ => ?_)
          subst hu
          rw [hnw, hmod] at hn5
          refine go ?_
          refine o_turn Turn.ice ?_
          refine o_pu rfl (trim113 (lr_ice hqd hql.symm (Nat.le_refl _)) (by omega)) (fun v6 F7 hF7 ⟨l6, hv6, ht6, hn6, hle6, _⟩ => ?_)
          refine go ?_
          have hlt : (ws.take (l4.length + 1)).length ≤ l4.length + 1 := by rw [List.length_take]; omega
          exact b_ret rfl (.cons (.tmp rfl) (.cons (.tmp rfl) (.cons (.tmp rfl) .nil))) (Turn.refl _ _) ⟨rfl, ((((hF.trans hF3).trans hF4).trans hF5).trans ((Fz.add_le _ _).trans hF6)).trans ((Fz.add_le _ _).trans hF7), v6, v5, l6, l5, rfl, hv6, hv5.le ((Fz.add_le _ _).trans hF7), ht6, ht5, by rw [hn6, hquo], hn5, by omega, by omega⟩
end Go.Proofs.YthkoodpnepfijaaGreatDoor
/- WJ: WALKS: whole numbers: Times, Shl, Over. -/
namespace Go.Proofs.YthkoodpnepfijaaGreatDoor
open Go.RowKit
set_option linter.unusedVariables false
set_option linter.unusedSimpArgs false
set_option maxRecDepth 100000
set_option maxHeartbeats 1000000
theorem pow_mono2 {a : Nat} {j k : Nat} (h : a < 2 ^ j) (hk : j ≤ k) : a < 2 ^ k := Nat.lt_of_lt_of_le h (Nat.pow_le_pow_right (by decide) hk)
theorem times138 {u : Value} {x c : Int} {k : Nat} {F : Fz} (hu : IntR F u x) (h1 : -9223372036854775808 ≤ c) (h2 : c ≤ 9223372036854775807) (hx : x.natAbs < 2 ^ k) (hk : k ≤ 4398046511104) : Pu 138 [u, .int .i64 c] F fun v F' => IntR F' v (x * c) := fun own => by
  have hu0 := hu
  obtain ⟨neg, v, l, rfl, hv, ht, hz, hp⟩ := hu
  obtain ⟨A, c0, hA⟩ := hv.row.dest
  subst hA
  refine n_fun Tryz.func138 Tryz.ntmps138 rfl rfl rfl ?_
  refine go ?_
  intro r1 r2
  refine o_pu rfl (Of22 h1 h2) (fun v2 F2 hF2 h2 => ?_)
  refine go ?_
  refine o_pu rfl (mul66 (k := k + 64) (hu0.le hF2) h2 (pow_mono2 hx (by omega)) (Nat.lt_of_lt_of_le (m := 2 ^ 64) (by omega) (Nat.pow_le_pow_right (by decide) (by omega))) (by omega)) (fun u F3 hF3 hu => ?_)
  obtain ⟨neg4, v4, l4, rfl, hv4, ht4, hn4, hp4⟩ := hu
  obtain ⟨A4, c4, hA4⟩ := hv4.row.dest
  subst hA4
  refine go ?_
  exact b_ret rfl (.cons (.cella rfl rfl (rdsW 0 rfl)) .nil) (Turn.sub (List.Sublist.cons _ (List.sublist_cons_self ..))) ⟨rfl, hF2.trans hF3, neg4, _, l4, rfl, hv4, ht4, hn4, hp4⟩
theorem shl177 {u : Value} {x : Int} {k c : Nat} {F : Fz} (hu : IntR F u x) (hc : c ≤ 65536) (hx : x.natAbs < 2 ^ k) (hk : k ≤ 8796093022208) : Pu 177 [u, .int .i64 (c : Nat)] F fun v F' => ∃ v', v = .tuple #[v', .int .i64 0] ∧ IntR F' v' (x * 2 ^ c) := fun own => by
  have hu0 := hu
  obtain ⟨neg, v, l, rfl, hv, ht, hz, hp⟩ := hu
  have hl := len_le ht (by rw [hz, sg_abs] at hx; exact hx)
  clear hx
  obtain ⟨A, c0, hA⟩ := hv.row.dest
  subst hA
  refine n_fun Tryz.func177 Tryz.ntmps177 rfl rfl rfl ?_
  refine go ?_
  intro r1 r2
  refine o_pu rfl (shl199 hv (by omega) hc) (fun v2 F2 hF2 ⟨v', l', hv2, hr', ht', hn', _, _⟩ => ?_)
  subst hv2
  refine go ?_
  refine o_pu rfl (made70 hr' ht') (fun u F3 hF3 hu => ?_)
  obtain ⟨neg4, v4, l4, rfl, hv4, ht4, hn4, hp4⟩ := hu
  obtain ⟨A4, c4, hA4⟩ := hv4.row.dest
  subst hA4
  refine go ?_
  refine b_ret rfl (.cons (.cella rfl rfl (rdsW 0 rfl)) (.cons (.tmp rfl) .nil)) (Turn.sub (List.Sublist.cons _ (List.sublist_cons_self ..))) ⟨rfl, hF2.trans hF3, _, rfl, neg4, _, l4, rfl, hv4, ht4, ?_, hp4⟩
  rw [← hn4, hn', hz]
  cases neg <;> simp [sg, Int.neg_mul]
theorem sg_mul (a b : Bool) (p q : Nat) : sg (a != b) (p * q) = sg a p * sg b q := by cases a <;> cases b <;> simp [sg, Int.neg_mul, Int.mul_neg]
theorem dvd_abs {x c : Int} {n : Nat} (h : x = c * n) (hc : c ≠ 0) : x.natAbs / c.natAbs = n ∧ x.natAbs % c.natAbs = 0 := by
  rw [h, Int.natAbs_mul]
  have h1 : (n : Int).natAbs = n := Int.natAbs_natCast n
  rw [h1]
  exact ⟨Nat.mul_div_cancel_left _ (by omega), Nat.mul_mod_right ..⟩
/-- Exact: the quotient; else an error. -/
theorem over175 {u : Value} {x c : Int} {k : Nat} {F : Fz} (hu : IntR F u x) (hc0 : c ≠ 0) (hc : c.natAbs < 4294967296) (hx : x.natAbs < 2 ^ k) (hk : k ≤ 8796093022208) : Pu 175 [u, .int .i64 c] F fun v F' => ∃ v' e, v = .tuple #[v', .int .i64 e] ∧ (e = 0 ∨ e = 20) ∧ (∃ y, IntR F' v' y) ∧ ((∃ q, x = c * q) → e = 0) ∧ (e = 0 → ∃ q, x = c * q ∧ IntR F' v' q) := fun own => by
  have hu0 := hu
  obtain ⟨neg, v, l, rfl, hv, ht, hz, hp⟩ := hu
  have hxa : x.natAbs = num l := by rw [hz, sg_abs]
  have hl := len_le ht (by rw [← hxa]; exact hx)
  clear hx
  obtain ⟨A, c0, hA⟩ := hv.row.dest
  subst hA
  refine n_fun Tryz.func175 Tryz.ntmps175 rfl rfl rfl ?_
  refine go ?_
  intro r1 r2
  refine o_pu rfl (Of22 (z := c) (by omega) (by omega)) (fun u F3 hF3 hu => ?_)
  obtain ⟨neg4, v4, l4, rfl, hv4, ht4, hn4, hp4⟩ := hu
  have hca : c.natAbs = num l4 := by rw [hn4, sg_abs]
  have hl4 := len_le (k := 32) ht4 (by rw [← hca]; exact hc)
  obtain ⟨A4, c4, hA4⟩ := hv4.row.dest
  subst hA4
  have hv := hv.le hF3
  refine go ?_
  intro r3
  refine go ?_
  refine o_pu rfl (divMod198 hv hv4 (by omega) (by omega) (by omega) (.inl (by omega))) (fun u F5 hF5 ⟨v1, v2, l1, l2, hu5, hv1, hv2, ht1, ht2, hn1, hn2, hle1, hle2⟩ => ?_)
  subst hu5
  have hz2 := ht2.zero
  rw [← hxa, ← hca] at hn1 hn2
  by_cases h : l2.length = 0
  · have h0 := hz2.2 h
    have hx2 : x.natAbs = c.natAbs * num l1 := by have := Nat.div_add_mod x.natAbs c.natAbs; rw [hn1]; omega
    have hx3 : x = c * sg (neg != neg4) (num l1) := by
      rw [hz, hn4]
      rw [hxa, hca] at hx2
      rw [hx2]
      cases neg <;> cases neg4 <;> simp [sg, Int.neg_mul, Int.mul_neg]
    have hb : eqbV .neq neg neg4 = some (neg != neg4) := by cases neg <;> cases neg4 <;> rfl
    have hr2 := hv2.row
    refine go ?_
    refine o_eqb rfl rfl hb ?_
    refine go ?_
    refine o_pu rfl (made70 hv1 ht1) (fun u F6 hF6 hu => ?_)
    obtain ⟨neg7, v7, l7, rfl, hv7, ht7, hn7, hp7⟩ := hu
    obtain ⟨A7, c7, hA7⟩ := hv7.row.dest
    subst hA7
    refine go ?_
    have hI : IntR F6 (.agg #[.bool neg7, .slice A7 l7.length c7]) (sg (neg != neg4) (num l1)) := ⟨neg7, _, l7, rfl, hv7, ht7, hn7, hp7⟩
    exact b_ret rfl (.cons (.cella rfl rfl (rdsW 1 rfl)) (.cons (.tmp rfl) .nil)) (Turn.sub (List.Sublist.cons _ (List.Sublist.cons _ (List.sublist_cons_self ..)))) ⟨rfl, (hF3.trans hF5).trans hF6, _, 0, rfl, .inl rfl, ⟨_, hI⟩, fun _ => rfl, fun _ => ⟨_, hx3, hI⟩⟩
  · have hr2 := hv2.row
    refine go ?_
    refine b_ret rfl (.cons (.cella rfl rfl (rdsW 1 rfl)) (.cons (.tmp rfl) .nil)) (Turn.sub (List.Sublist.cons _ (List.Sublist.cons _ (List.sublist_cons_self ..)))) ⟨rfl, hF3.trans hF5, _, 20, rfl, .inr rfl, ⟨0, IntR.zero _⟩, fun ⟨q, hq⟩ => ?_, fun h => absurd h (by decide)⟩
    exfalso
    apply h
    apply hz2.1
    rw [hn2, hq, Int.natAbs_mul]
    exact Nat.mul_mod_right ..
end Go.Proofs.YthkoodpnepfijaaGreatDoor
/- Y2: WALKS: rows of whole numbers: both, Add, Sub, Scale. -/
namespace Go.Proofs.YthkoodpnepfijaaGreatDoor
open Go.RowKit
set_option linter.unusedVariables false
set_option linter.unusedSimpArgs false
set_option maxRecDepth 100000
set_option maxHeartbeats 1000000
theorem N.perm {f : FuncId} {args : List Value} {own own' : List Ch} {F : Fz} {Post : Value → List Ch → Fz → Prop} (h : N f args own F Post) (hp : own'.Perm own) : N f args own' F Post := ⟨fun B w0 w hI => h.out B w0 w (hI.perm hp)⟩
theorem N.turn {f : FuncId} {args : List Value} {own : List Ch} {F : Fz} {Post Post' : Value → List Ch → Fz → Prop} (h : N f args own F Post) (hp : ∀ v o F', Post v o F' → ∃ o', o.Perm o' ∧ Post' v o' F') : N f args own F Post' := ⟨fun B w0 w hI => (h.out B w0 w hI).mono fun e w' ⟨v, o, F', he, h1, h2⟩ => by
  obtain ⟨o', h3, h4⟩ := hp v o F' h2
  exact ⟨v, o', F', he, h1.perm h3, h4⟩⟩
theorem both208 {F : Fz} {f : FuncId} [Fn_ f] {u v : Value} {x z : Int} {r8 r5 r4 i : Nat} {qs : List IZ} (hu : IntR F u x) (hr : RowS F v vIz 2 z0Z qs) (hi : i < qs.length) (hl : qs.length ≤ 1000000)
    (hop : Pu f [u, .agg (vIz (qs.getD i z0Z)).toArray] F fun v F' => IntR F' v z) (own : List Ch) :
    N 208 [u, .pointer (some ⟨r8, 0, none⟩), .pointer (some ⟨r5, 0, none⟩), .pointer (some ⟨r4, 0, none⟩)] (.c r8 [.int .i64 ((i : Int) - 1)] :: .c r5 [.func (.func f) #[] #[]] :: .c r4 [v] :: own) F
      fun v' o F' => o = .c r8 [.int .i64 (i : Nat)] :: .c r5 [.func (.func f) #[] #[]] :: .c r4 [v] :: own ∧ Fle F F' ∧ IntR F' v' z := by
  obtain ⟨q, rfl, hq⟩ := hu.iz
  obtain ⟨A, c, rfl⟩ := hr.dest
  refine n_fun Tryz.func208 Tryz.ntmps208 rfl rfl rfl ?_
  refine goT ?_
  intro rb rr
  rw [show ((i : Int) - 1 + 1) = ((i : Nat) : Int) by omega]
  refine c_drww [.c rb (vIz q), .c r8 [.int .i64 (i : Nat)], .c r5 [.func (.func f) #[] #[]], .c r4 [.slice A qs.length c]] sl rfl (by decide +kernel) ?_
  refine go ?_
  refine o_callv (us := []) (ws := []) rfl rfl rfl (hop _) (fun v' o F' ⟨e1, hF', hv'⟩ => ⟨_, .keep (by rw [e1]; exact sl) hF', ?_⟩) sl
  subst e1
  obtain ⟨q', rfl, hq'⟩ := hv'.iz
  refine go ?_
  refine o_staF rfl inferInstance rfl rfl rfl get0 rfl rfl sl (.keep sl (Fle.refl _)) ?_
  refine o_nil sl ?_
  refine go ?_
  exact b_ret rfl (.cons (.cella rfl rfl (rdsW 0 rfl)) .nil) (Turn.skip Turn.drop) ⟨rfl, hF', hq'⟩
theorem both196 {F : Fz} {f : FuncId} [Fn_ f] {v w : Value} {xs ys : List Int} (g : Nat → Int) (hx : RowI F v xs) (hy : RowI F w ys) (hl : xs.length ≤ 1000000) (hxy : ys.length = xs.length)
    (hop : ∀ i, i < xs.length → ∀ (F1 : Fz) (u u' : Value), Fle F F1 → IntR F1 u (xs.getD i 0) → IntR F1 u' (ys.getD i 0) → Pu f [u, u'] F1 fun v F' => IntR F' v (g i)) :
    Pu 196 [v, w, .func (.func f) #[] #[]] F fun u F' => ∃ v', u = .tuple #[v', .int .i64 0] ∧ RowI F' v' ((List.range xs.length).map g) := fun own => by
  have hx0 := hx
  obtain ⟨qs, hS, hZ⟩ := hx
  obtain ⟨ps, hS', hZ'⟩ := hy
  have hql := hZ.1
  have hpl := hZ'.1
  have hpq : ps.length = qs.length := by omega
  obtain ⟨A, c, rfl⟩ := hS.dest
  obtain ⟨A', c', e⟩ := hS'.dest
  subst e
  refine n_fun Tryz.func196 Tryz.ntmps196 rfl rfl rfl ?_
  have hl2 : qs.length ≤ 1000000 := by omega
  refine go ?_
  intro r4 r5 r8
  have hN := each195 (us := []) (ws := [.pointer (some ⟨r8, 0, none⟩), .pointer (some ⟨r5, 0, none⟩), .pointer (some ⟨r4, 0, none⟩)]) (f := 208) g (fun i => .c r8 [.int .i64 ((i : Int) - 1)] :: .c r5 [.func (.func f) #[] #[]] :: .c r4 [.slice A' ps.length c'] :: own) hx0 hl (fun i hi ex F1 u hF1 hu => by
    have h1 := both208 (r8 := r8) (r5 := r5) (r4 := r4) hu (hS'.le hF1) (i := i) (by omega) (by omega) (hop i hi F1 _ _ hF1 hu ((hZ'.2 i (by omega)).le hF1)) (ex ++ own)
    refine (N.perm h1 (own' := ex ++ _) ?_).turn fun v o F' ⟨e, h1, h2⟩ => ⟨ex ++ (.c r8 [.int .i64 (((i + 1 : Nat) : Int) - 1)] :: .c r5 [.func (.func f) #[] #[]] :: .c r4 [.slice A' ps.length c'] :: own), ?_, rfl, h1, h2⟩
    · exact (List.perm_append_comm (l₁ := ex)).trans (.cons _ (.cons _ (.cons _ List.perm_append_comm)))
    · rw [e, show (((i + 1 : Nat) : Int) - 1) = ((i : Nat) : Int) by omega]
      exact ((List.perm_append_comm (l₁ := ex)).trans (.cons _ (.cons _ (.cons _ List.perm_append_comm)))).symm)
  refine o_call rfl hN (fun u o F' ⟨e1, hF', hu⟩ => ⟨_, .text, ?_⟩) (List.Sublist.refl _)
  subst e1
  obtain ⟨A2, c2, e'⟩ := hu.dest
  subst e'
  refine go ?_
  exact b_ret rfl (.cons (.tmp rfl) (.cons (.tmp rfl) .nil)) (Turn.of sl (Fle.refl _)) ⟨rfl, hF', _, rfl, hu⟩
theorem map_of_get {zs : List Int} {n : Nat} {g : Nat → Int} (h : zs.length = n) (h2 : ∀ i, i < n → g i = zs.getD i 0) : (List.range n).map g = zs := by
  subst h
  exact list_eqI (by simp) fun i hi => by rw [getD_map_range _ (by simpa using hi)]; exact h2 i (by simpa using hi)
/-- Every number of a row has at most k bits. -/
def Bnd (k : Nat) (zs : List Int) : Prop := ∀ z ∈ zs, z.natAbs < 2 ^ k
theorem getD_mem' {zs : List Int} {i : Nat} (h : i < zs.length) : zs.getD i 0 ∈ zs := getD_mem (z := 0) h
theorem zip_len {xs ys : List Int} (op : Int → Int → Int) (h : ys.length = xs.length) : (List.zipWith op xs ys).length = xs.length := by simp [h]
theorem zip_get {xs ys : List Int} (op : Int → Int → Int) {i : Nat} (h : i < xs.length) (h' : i < ys.length) : op (xs.getD i 0) (ys.getD i 0) = (List.zipWith op xs ys).getD i 0 := by
  simp [List.getD_eq_getElem?_getD, List.getElem?_zipWith, h, h']
theorem add162 {F : Fz} {v w : Value} {xs ys : List Int} {k : Nat} (hx : RowI F v xs) (hy : RowI F w ys) (hl : xs.length ≤ 1000000) (hxy : ys.length = xs.length) (bx : Bnd k xs) (b_y : Bnd k ys) (hk : k ≤ 8796093022208) :
    Pu 162 [v, w] F fun u F' => ∃ v', u = .tuple #[v', .int .i64 0] ∧ RowI F' v' (List.zipWith (· + ·) xs ys) := fun own => by
  obtain ⟨A, c, e⟩ := hx.dest
  obtain ⟨A', c', e'⟩ := hy.dest
  subst e e'
  refine n_fun Tryz.func162 Tryz.ntmps162 rfl rfl rfl ?_
  refine go ?_
  refine o_pu rfl (both196 (f := 65) (fun i => xs.getD i 0 + ys.getD i 0) hx hy hl hxy (fun i hi F1 u u' hF1 hu hu' => add65 hu hu' (bx _ (getD_mem' hi)) (b_y _ (getD_mem' (by omega))) hk)) (fun u F1 hF1 ⟨v', e, hv'⟩ => ?_) sl
  subst e
  rw [map_of_get (zs := List.zipWith (· + ·) xs ys) (zip_len _ hxy) (fun i hi => zip_get (· + ·) hi (by omega))] at hv'
  obtain ⟨A2, c2, e2⟩ := hv'.dest
  subst e2
  refine go ?_
  exact b_ret rfl (.cons (.tmp rfl) (.cons (.tmp rfl) .nil)) (Turn.refl _ _) ⟨rfl, hF1, _, rfl, hv'⟩
theorem sub164 {F : Fz} {v w : Value} {xs ys : List Int} {k : Nat} (hx : RowI F v xs) (hy : RowI F w ys) (hl : xs.length ≤ 1000000) (hxy : ys.length = xs.length) (bx : Bnd k xs) (b_y : Bnd k ys) (hk : k ≤ 8796093022208) :
    Pu 164 [v, w] F fun u F' => ∃ v', u = .tuple #[v', .int .i64 0] ∧ RowI F' v' (List.zipWith (· - ·) xs ys) := fun own => by
  obtain ⟨A, c, e⟩ := hx.dest
  obtain ⟨A', c', e'⟩ := hy.dest
  subst e e'
  refine n_fun Tryz.func164 Tryz.ntmps164 rfl rfl rfl ?_
  refine go ?_
  refine o_pu rfl (both196 (f := 172) (fun i => xs.getD i 0 - ys.getD i 0) hx hy hl hxy (fun i hi F1 u u' hF1 hu hu' => sub172 hu hu' (bx _ (getD_mem' hi)) (b_y _ (getD_mem' (by omega))) hk)) (fun u F1 hF1 ⟨v', e, hv'⟩ => ?_) sl
  subst e
  rw [map_of_get (zs := List.zipWith (· - ·) xs ys) (zip_len _ hxy) (fun i hi => zip_get (· - ·) hi (by omega))] at hv'
  obtain ⟨A2, c2, e2⟩ := hv'.dest
  subst e2
  refine go ?_
  exact b_ret rfl (.cons (.tmp rfl) (.cons (.tmp rfl) .nil)) (Turn.refl _ _) ⟨rfl, hF1, _, rfl, hv'⟩
theorem scale165 {F : Fz} {v u : Value} {xs : List Int} {z : Int} {k : Nat} (hx : RowI F v xs) (hu : IntR F u z) (hl : xs.length ≤ 1000000) (bx : Bnd k xs) (hz : z.natAbs < 2 ^ k) (hk : k ≤ 8796093022208) :
    Pu 165 [v, u] F fun w F' => RowI F' w (xs.map fun x => z * x) := fun own => by
  obtain ⟨A, c, e⟩ := hx.dest
  obtain ⟨q, e', hq⟩ := hu.iz
  subst e e'
  refine n_fun Tryz.func165 Tryz.ntmps165 rfl rfl rfl ?_
  refine go ?_
  intro r3
  refine o_call rfl (each195 (us := [.agg (vIz q).toArray]) (ws := []) (f := 66) (fun i => z * xs.getD i 0) (fun _ => .c r3 (vIz q) :: own) hx hl (fun i hi ex F1 u' hF1 hu' => (mul66 (hq.le hF1) hu' hz (bx _ (getD_mem' hi)) hk (ex ++ (.c r3 (vIz q) :: own))).mono fun v' o F' ⟨e, h1, h2⟩ => ⟨e, h1, h2⟩)) (fun u o F' ⟨e1, hF', hu⟩ => ⟨_, .text, ?_⟩) (List.Sublist.refl _)
  subst e1
  rw [map_of_get (zs := xs.map fun x => z * x) (by simp) (fun i hi => by simp [List.getD_eq_getElem?_getD, hi])] at hu
  obtain ⟨A2, c2, e2⟩ := hu.dest
  subst e2
  refine go ?_
  exact b_ret rfl (.cons (.tmp rfl) .nil) Turn.drop ⟨rfl, hF', hu⟩
end Go.Proofs.YthkoodpnepfijaaGreatDoor

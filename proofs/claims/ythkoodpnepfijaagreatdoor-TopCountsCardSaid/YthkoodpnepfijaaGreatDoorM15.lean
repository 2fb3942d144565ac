/-
  Steps towards TopCounts (no conditions of their own): WALKS: limbs: DivSmall. WALKS: limbs: Shr. WALKS: limbs: Shl. WALKS: limbs: less, digit: a divisor v = noughts and a highest limb 2^31 (a power of two). WALKS: limbs: digit, where the divisor is a power of two. WALKS: limbs: how many bits a limb has.
-/
import Derived.Test.YthkoodpnepfijaaGreatDoorM14
/- W7: WALKS: limbs: DivSmall. -/
namespace Go.Proofs.YthkoodpnepfijaaGreatDoor
open Go.RowKit
set_option linter.unusedVariables false
set_option linter.unusedSimpArgs false
set_option maxRecDepth 100000
set_option maxHeartbeats 1000000
theorem numF_succ (f : Nat → Nat) : ∀ m, numF f (m + 1) = f 0 + 4294967296 * numF (fun i => f (i + 1)) m
  | 0 => by simp [numF]
  | m + 1 => by
    rw [show numF f (m + 1 + 1) = numF f (m + 1) + f (m + 1) * 4294967296 ^ (m + 1) from rfl, numF_succ f m]
    show _ = f 0 + 4294967296 * (numF _ m + f (m + 1) * 4294967296 ^ m)
    rw [Nat.mul_add, Nat.pow_succ, Nat.mul_comm (4294967296 ^ m), Nat.mul_left_comm (f (m + 1)), Nat.add_assoc]
theorem num_cons (d : Nat) (l : List Nat) : num (d :: l) = d + 4294967296 * num l := by
  unfold num
  rw [List.length_cons, numF_succ]
  rfl
theorem num_nil : num [] = 0 := rfl
theorem drop_at {l : List Nat} {m : Nat} (h : m < l.length) : l.drop m = l.getD m 0 :: l.drop (m + 1) := by
  rw [List.drop_eq_getElem_cons h, List.getD_eq_getElem?_getD, List.getElem?_eq_getElem h]; rfl
theorem Dig.cons {d : Nat} {l : List Nat} (hd : d < 4294967296) (h : Dig l) : Dig (d :: l) := fun i hi => by
  cases i with
  | zero => exact hd
  | succ i => exact h i (by simpa using hi)
theorem down_set {m : Nat} {qs : List Nat} {q : Nat} {u : Value} (h : 0 < m) (hu : u = vu q) : (((List.replicate m 0 ++ qs).map vu).set (m - 1) u) = (List.replicate (m - 1) 0 ++ q :: qs).map vu := by
  obtain ⟨j, rfl⟩ : ∃ j, m = j + 1 := ⟨m - 1, by omega⟩
  subst hu
  rw [← List.map_set]
  congr 1
  rw [Nat.add_sub_cancel, List.replicate_succ', List.append_assoc, List.singleton_append, set_app _ _ _ _ (by simp)]
theorem divSmall210 {v : Value} {l : List Nat} {c : Nat} {F : Fz} (hr : Lr F v l) (hl : l.length < 1099511627776) (hc : 0 < c) (hcb : c < 4294967296) :
    Pu 210 [v, .int .u32 (c : Nat)] F fun u F' => ∃ v' l', u = .tuple #[v', .int .u32 (num l % c : Nat), .int .i64 0] ∧ Lr F' v' l' ∧ Trm l' ∧ num l' = num l / c ∧ l'.length ≤ l.length := fun own => by
  have hr1 := hr.row
  refine n_fun Tryz.func210 Tryz.ntmps210 rfl rfl rfl ?_
  refine go ?_
  refine o_make l.length rfl rfl (by omega) (by omega) (fun r => ?_)
  rw [rep_one]
  refine go ?_
  refine c_loopE (fun q X o G => ∃ (m : Nat) (qs : List Nat) (s : Nat), m = q ∧ X = [(0, v), (1, .int .u32 (c : Nat)), (7, .slice (some ⟨r, 0, none⟩) l.length l.length), (8, .int .u64 (s : Nat)), (9, .int .i64 ((m : Int) - 1))] ∧ .c r ((List.replicate m 0 ++ qs).map vu) :: own = o ∧ F = G ∧
      m + qs.length = l.length ∧ Dig qs ∧ s < c ∧ num (l.drop m) = num qs * c + s) ?_ ?_
  · exact ⟨_, _, _, _, ⟨l.length, [], 0, rfl, rfl, rfl, rfl, by simp, fun i hi => by simp at hi, hc, by rw [List.drop_length]; simp [num_nil]⟩, ⟨rfl, rfl, rfl, rfl, rfl, trivial⟩, own1 (by rw [List.append_nil, List.map_replicate]; rfl), rfl⟩
  · rintro _ _ _ _ b ⟨m, qs, s, rfl, rfl, rfl, rfl, hm, hqd, hs, hinv⟩
    by_cases h1 : 1 ≤ m
    · have hd := hr.d (m - 1)
      have hq1 : (s * 4294967296 + l.getD (m - 1) 0) / c < 4294967296 := by
        rw [Nat.div_lt_iff_lt_mul hc]
        have : (s + 1) * 4294967296 ≤ c * 4294967296 := Nat.mul_le_mul_right _ hs
        rw [Nat.mul_comm 4294967296]
        omega
      have hr2 : (s * 4294967296 + l.getD (m - 1) 0) % c < c := Nat.mod_lt _ hc
      have hlen : (List.replicate m 0 ++ qs).length = l.length := by simp; omega
      refine go ?_
      refine ⟨_, _, _, _, ⟨m - 1, (s * 4294967296 + l.getD (m - 1) 0) / c :: qs, (s * 4294967296 + l.getD (m - 1) 0) % c, rfl, rfl, rfl, rfl, by simp; omega, hqd.cons hq1, hr2, ?_⟩, ⟨rfl, rfl, rfl, rfl, eqI (by omega), trivial⟩, own1 (down_set h1 (vu_eq (Int.emod_eq_of_lt (Int.natCast_nonneg _) (Int.ofNat_lt.2 hq1)))), rfl, rfl, by omega⟩
      rw [drop_at (by omega), num_cons, num_cons, show m - 1 + 1 = m by omega, hinv]
      have e1 := Nat.mod_add_div (s * 4294967296 + l.getD (m - 1) 0) c
      generalize (s * 4294967296 + l.getD (m - 1) 0) / c = g at *
      generalize (s * 4294967296 + l.getD (m - 1) 0) % c = g2 at *
      rw [Nat.add_mul, Nat.mul_add, Nat.mul_comm g c, ← Nat.mul_assoc]
      omega
    · have e0 : m = 0 := by omega
      subst e0
      simp only [List.replicate_zero, List.nil_append]
      have hqs : qs.length = l.length := by omega
      have hsr : num l % c = s ∧ num l / c = num qs := by
        rw [List.drop_zero] at hinv
        rw [hinv]
        exact ⟨by rw [Nat.mul_comm, Nat.mul_add_mod, Nat.mod_eq_of_lt hs], by rw [Nat.mul_comm, Nat.mul_add_div hc, Nat.div_eq_of_lt hs]; rfl⟩
      refine go ?_
      refine o_turn Turn.ice ?_
      refine go ?_
      refine o_pu rfl (trim113 (lr_ice hqd hqs.symm (Nat.le_refl _)) (by omega)) (fun v' F' hF ⟨l', hv, ht, hn, hle2, hfull⟩ => ?_)
      refine go ?_
      exact b_ret rfl (.cons (.tmp rfl) (.cons (.tmp rfl) (.cons (.tmp rfl) .nil))) (Turn.refl _ _) ⟨rfl, Fle.trans (Fz.add_le _ _) hF, v', l', by rw [hsr.1]; rfl, hv, ht, by rw [hn, hsr.2], by omega⟩
end Go.Proofs.YthkoodpnepfijaaGreatDoor
/- W8: WALKS: limbs: Shr. -/
namespace Go.Proofs.YthkoodpnepfijaaGreatDoor
open Go.RowKit
set_option linter.unusedVariables false
set_option linter.unusedSimpArgs false
set_option maxRecDepth 100000
set_option maxHeartbeats 1000000
theorem num_drop (l : List Nat) : ∀ m, m ≤ l.length → num l = numF (fun i => l.getD i 0) m + 4294967296 ^ m * num (l.drop m)
  | 0, _ => by simp [numF]
  | m + 1, h => by
    rw [num_drop l m (by omega), drop_at (by omega), num_cons]
    show _ = (numF _ m + _ * _) + _
    rw [Nat.mul_add, Nat.pow_succ, Nat.mul_comm (l.getD m 0), Nat.mul_assoc, Nat.add_assoc]
theorem getD_drop {l : List Nat} {m i : Nat} : (l.drop m).getD i 0 = l.getD (m + i) 0 := by
  simp [List.getD_eq_getElem?_getD, List.getElem?_drop]
theorem Dig.drop {l : List Nat} (h : Dig l) (m : Nat) : Dig (l.drop m) := fun i hi => by
  rw [List.length_drop] at hi
  rw [getD_drop]; exact h _ (by omega)
theorem num_shift {l : List Nat} (hd : Dig l) {m : Nat} (h : m ≤ l.length) : num (l.drop m) = num l / 4294967296 ^ m := by
  rw [num_drop l m h]
  have : numF (fun i => l.getD i 0) m < 4294967296 ^ m := numF_lt fun i hi => hd i (by omega)
  rw [Nat.add_mul_div_left _ _ (pow_pos' m), Nat.div_eq_of_lt this, Nat.zero_add]
/-- A limb of what is shifted down. -/
theorem shr_limb {x y p : Nat} (hp : p ≤ 31) (hx : x < 4294967296) (hy : y < 4294967296) : 2 ^ p * ((x + y * 4294967296) / 2 ^ p % 4294967296) + x % 2 ^ p = x + y % 2 ^ p * 4294967296 := by
  have hB : 4294967296 = 2 ^ p * 2 ^ (32 - p) := by rw [← Nat.pow_add, show p + (32 - p) = 32 by omega]
  have hh : 0 < 2 ^ p := Nat.two_pow_pos p
  have hH : 0 < 2 ^ (32 - p) := Nat.two_pow_pos _
  generalize hhd : 2 ^ p = h at *
  generalize hHd : 2 ^ (32 - p) = H at *
  have e1 : (x + y * 4294967296) / h = x / h + y * H := by
    rw [hB, show y * (h * H) = h * (y * H) by rw [Nat.mul_left_comm], Nat.add_mul_div_left _ _ hh]
  have e2 : y * H % (h * H) = y % h * H := by rw [Nat.mul_comm h H, Nat.mul_comm y H, Nat.mul_mod_mul_left, Nat.mul_comm]
  have e3 : x / h < H := by rw [Nat.div_lt_iff_lt_mul hh, Nat.mul_comm, ← hB]; exact hx
  have e4 : (x / h + y * H) % 4294967296 = x / h + y % h * H := by
    rw [hB, Nat.add_mod, e2, Nat.mod_eq_of_lt (show x / h < h * H from Nat.lt_of_lt_of_le e3 (Nat.le_mul_of_pos_left _ hh))]
    refine Nat.mod_eq_of_lt ?_
    have h5 : y % h + 1 ≤ h := Nat.mod_lt _ hh
    have h6 : (y % h + 1) * H ≤ h * H := Nat.mul_le_mul_right _ h5
    rw [Nat.add_mul, Nat.one_mul] at h6
    omega
  rw [e1, e4, Nat.mul_add, hB]
  have e5 := Nat.mod_add_div x h
  have e6 : h * (y % h * H) = y % h * (h * H) := by rw [Nat.mul_left_comm]
  omega
theorem shr201 {v : Value} {l : List Nat} {k : Nat} {F : Fz} (hr : Lr F v l) (hl : l.length < 1099511627776) (hk : k < 1099511627776) :
    Pu 201 [v, .int .i64 (k : Nat)] F fun u F' => ∃ v' l', u = .tuple #[v', .int .i64 0] ∧ Lr F' v' l' ∧ Trm l' ∧ num l' = num l / 2 ^ k ∧ l'.length ≤ l.length := fun own => by
  refine n_fun Tryz.func201 Tryz.ntmps201 rfl rfl rfl ?_
  refine go ?_
  refine o_pu rfl (trim113 hr (by omega)) (fun v1 F1 hF1 ⟨l1, hv1, ht1, hn1, hle1, hfull1⟩ => ?_)
  have hr1 := hv1.row
  rw [← hn1]
  have hpk : 2 ^ k = 4294967296 ^ (k / 32) * 2 ^ (k % 32) := by
    have : (4294967296 : Nat) = 2 ^ 32 := rfl
    rw [this, ← Nat.pow_mul, ← Nat.pow_add, Nat.div_add_mod]
  by_cases h1 : l1.length ≤ k / 32
  · refine go ?_
    refine b_ret rfl (.cons (.tmp rfl) (.cons (.tmp rfl) .nil)) (Turn.refl _ _) ⟨rfl, hF1, _, [], rfl, ⟨Row.nil _, fun i hi => by simp at hi⟩, .inl rfl, ?_, by simp⟩
    have h2 : num l1 < 4294967296 ^ l1.length := numF_lt fun i hi => hv1.dig i hi
    have h3 : 4294967296 ^ l1.length ≤ 4294967296 ^ (k / 32) := Nat.pow_le_pow_right (by decide) h1
    rw [hpk, ← Nat.div_div_eq_div_mul, Nat.div_eq_of_lt (Nat.lt_of_lt_of_le h2 h3)]
    rw [Nat.zero_div]; rfl
  · refine go ?_
    refine o_slicel (k / 32) rfl hr1.row rfl rfl (by rw [List.length_map]; omega) (fun v2 hv2 => ?_)
    have hv2' : Lr F1 v2 (l1.drop (k / 32)) := ⟨by rw [← List.map_drop] at hv2; exact hv2, hv1.dig.drop _⟩
    have hr2 := hv2'.row
    have hns := num_shift hv1.dig (show k / 32 ≤ l1.length by omega)
    have hll : (l1.drop (k / 32)).length ≤ l1.length := by rw [List.length_drop]; omega
    rw [hpk, ← Nat.div_div_eq_div_mul, ← hns]
    generalize hL : l1.drop (k / 32) = L at *
    refine go ?_
    refine o_make L.length rfl rfl (by omega) (by omega) (fun r => ?_)
    rw [rep_one]
    have hp : k % 32 ≤ 31 := by omega
    refine go ?_
    refine c_loopE (fun q X o G => ∃ (dn : List Nat), L.length - dn.length = q ∧ X = [(0, v2), (6, .int .i64 (k % 32 : Nat)), (7, .slice (some ⟨r, 0, none⟩) L.length L.length), (29, v2), (30, .int .i64 (L.length : Nat)), (31, .int .i64 (dn.length : Nat))] ∧ .c r (dn.map vu ++ List.replicate (L.length - dn.length) (vu 0)) :: own = o ∧ F1 = G ∧
      dn.length ≤ L.length ∧ Dig dn ∧ 2 ^ (k % 32) * num dn + L.getD 0 0 % 2 ^ (k % 32) = numF (fun i => L.getD i 0) dn.length + L.getD dn.length 0 % 2 ^ (k % 32) * 4294967296 ^ dn.length) ?_ ?_
    · exact ⟨_, _, _, _, ⟨[], rfl, rfl, rfl, rfl, by simp, fun i hi => by simp at hi, by simp [num, numF]⟩, ⟨rfl, rfl, rfl, rfl, rfl, rfl, trivial⟩, rfl, rfl⟩
    · rintro _ _ _ _ b ⟨dn, rfl, rfl, rfl, rfl, hdl, hdd, hinv⟩
      have hd1 := hv2'.d dn.length
      have hd2 := hv2'.d (dn.length + 1)
      have hlimb := shr_limb hp hd1 hd2
      have step : num (dn ++ [(L.getD dn.length 0 + L.getD (dn.length + 1) 0 * 4294967296) / 2 ^ (k % 32) % 4294967296]) * 2 ^ (k % 32) + L.getD 0 0 % 2 ^ (k % 32) = numF (fun i => L.getD i 0) (dn.length + 1) + L.getD (dn.length + 1) 0 % 2 ^ (k % 32) * 4294967296 ^ (dn.length + 1) := by
        rw [num_snoc, Nat.add_mul, Nat.mul_comm (num dn)]
        show _ = (numF _ dn.length + L.getD dn.length 0 * _) + _
        generalize (L.getD dn.length 0 + L.getD (dn.length + 1) 0 * 4294967296) / 2 ^ (k % 32) % 4294967296 = e at *
        generalize 2 ^ (k % 32) = h at *
        rw [Nat.pow_succ]
        generalize 4294967296 ^ dn.length = P at *
        have h1 : (h * e + L.getD dn.length 0 % h) * P = (L.getD dn.length 0 + L.getD (dn.length + 1) 0 % h * 4294967296) * P := by rw [hlimb]
        rw [Nat.add_mul, Nat.add_mul] at h1
        have h2 : e * P * h = h * e * P := by rw [Nat.mul_comm, ← Nat.mul_assoc]
        have h3 : L.getD (dn.length + 1) 0 % h * (P * 4294967296) = L.getD (dn.length + 1) 0 % h * 4294967296 * P := by rw [Nat.mul_comm P, ← Nat.mul_assoc]
        omega
      by_cases h2 : dn.length < L.length
      · by_cases h3 : dn.length + 1 < L.length
        · refine go ?_
          refine ⟨_, _, _, _, ⟨dn ++ [(L.getD dn.length 0 + L.getD (dn.length + 1) 0 * 4294967296) / 2 ^ (k % 32) % 4294967296], rfl, rfl, rfl, rfl, by simp; omega, hdd.snoc (Nat.mod_lt _ (by decide)), ?_⟩, ⟨rfl, rfl, rfl, rfl, rfl, eqI (by simp), trivial⟩, own1 (fill_end (by omega) (vu_eq (by simp))), rfl, rfl, by simp; omega⟩
          rw [List.length_append, List.length_singleton, Nat.mul_comm]; exact step
        · have h30 := getD_none h3
          rw [h30] at step
          refine go ?_
          refine ⟨_, _, _, _, ⟨dn ++ [(L.getD dn.length 0 + 0 * 4294967296) / 2 ^ (k % 32) % 4294967296], rfl, rfl, rfl, rfl, by simp; omega, hdd.snoc (Nat.mod_lt _ (by decide)), ?_⟩, ⟨rfl, rfl, rfl, rfl, rfl, eqI (by simp), trivial⟩, own1 (fill_end (by omega) (vu_eq (by simp))), rfl, rfl, by simp; omega⟩
          rw [List.length_append, List.length_singleton, Nat.mul_comm, h30]; exact step
      · have e0 : dn.length = L.length := by omega
        have e1 : num dn = num L / 2 ^ (k % 32) := by
          have e2 : L.getD dn.length 0 = 0 := getD_none h2
          rw [e2, Nat.zero_mod, Nat.zero_mul, Nat.add_zero, e0] at hinv
          have e3 : num L = 2 ^ (k % 32) * num dn + L.getD 0 0 % 2 ^ (k % 32) := hinv.symm
          rw [e3, Nat.mul_add_div (Nat.two_pow_pos _), Nat.div_eq_of_lt (Nat.mod_lt _ (Nat.two_pow_pos _)), Nat.add_zero]
        refine go ?_
        refine o_turn Turn.ice ?_
        refine go ?_
        rw [e0, Nat.sub_self, List.replicate_zero, List.append_nil]
        refine o_pu rfl (trim113 (lr_ice hdd e0.symm (Nat.le_refl _)) (by omega)) (fun v' F' hF ⟨l', hv, ht, hn, hle2, hfull⟩ => ?_)
        refine go ?_
        exact b_ret rfl (.cons (.tmp rfl) (.cons (.tmp rfl) .nil)) (Turn.refl _ _) ⟨rfl, hF1.trans (Fle.trans (Fz.add_le _ _) hF), v', l', rfl, hv, ht, by rw [hn, e1], by omega⟩
end Go.Proofs.YthkoodpnepfijaaGreatDoor
/- W9: WALKS: limbs: Shl. -/
namespace Go.Proofs.YthkoodpnepfijaaGreatDoor
open Go.RowKit
set_option linter.unusedVariables false
set_option linter.unusedSimpArgs false
set_option maxRecDepth 100000
set_option maxHeartbeats 1000000
theorem or_of_mod {k a b : Nat} (ha : a < 2 ^ k) (hb : b % 2 ^ k = 0) : a ||| b = a + b := by
  have := Nat.two_pow_add_eq_or_of_lt (i := k) (b := a) ha (b / 2 ^ k)
  have e : 2 ^ k * (b / 2 ^ k) = b := by have := Nat.mod_add_div b (2 ^ k); omega
  rw [e] at this
  rw [Nat.or_comm, ← this, Nat.add_comm]
/-- Shl: out is 'off' noughts, then the shifted limbs; by < 32. -/
theorem shl199 {v : Value} {l : List Nat} {k : Nat} {F : Fz} (hr : Lr F v l) (hl : l.length < 1099511627776) (hk : k ≤ 65536) :
    Pu 199 [v, .int .i64 (k : Nat)] F fun u F' => ∃ v' l', u = .tuple #[v', .int .i64 0] ∧ Lr F' v' l' ∧ Trm l' ∧ num l' = num l * 2 ^ k ∧ l'.length ≤ l.length + k / 32 + 1 ∧ Full v' := fun own => by
  have hr1 := hr.row
  have hpk : 2 ^ k = 4294967296 ^ (k / 32) * 2 ^ (k % 32) := by
    have : (4294967296 : Nat) = 2 ^ 32 := rfl
    rw [this, ← Nat.pow_mul, ← Nat.pow_add, Nat.div_add_mod]
  have hp : k % 32 ≤ 31 := by omega
  have hp2 : 2 ^ (k % 32) ≤ 2147483648 := (Nat.pow_le_pow_right (by decide) hp : 2 ^ (k % 32) ≤ 2 ^ 31)
  refine n_fun Tryz.func199 Tryz.ntmps199 rfl rfl rfl ?_
  refine go ?_
  refine o_make (l.length + k / 32 + 1) rfl (by simp) (by omega) (by omega) (fun r => ?_)
  rw [rep_one]
  refine go ?_
  -- m limbs are in: out holds off + m limbs and one more (what went over), then noughts
  refine c_loopE (fun q X o G => ∃ (m : Nat) (ws : List Nat), l.length - m = q ∧ X = [(0, v), (1, .int .i64 (k : Nat)), (6, .slice (some ⟨r, 0, none⟩) (l.length + k / 32 + 1) (l.length + k / 32 + 1)), (7, .int .i64 (k % 32 : Nat)), (24, v), (25, .int .i64 (l.length : Nat)), (26, .int .i64 (m : Nat))] ∧ .c r (ws.map vu) :: own = o ∧ F = G ∧
      m ≤ l.length ∧ ws.length = l.length + k / 32 + 1 ∧ Dig ws ∧ (∀ p, m + k / 32 < p → ws.getD p 0 = 0) ∧ ws.getD (m + k / 32) 0 < 2 ^ (k % 32) ∧ num ws = numF (fun i => l.getD i 0) m * 2 ^ k) ?_ ?_
  · exact ⟨_, _, _, _, ⟨0, List.replicate (l.length + k / 32 + 1) 0, rfl, rfl, rfl, rfl, by omega, by simp, Dig.rep _, fun p _ => getD_rep _ p, by rw [getD_rep]; exact Nat.two_pow_pos _, by rw [num_rep]; simp [numF]⟩, ⟨rfl, rfl, rfl, rfl, rfl, rfl, rfl, trivial⟩, own1 (by rw [List.map_replicate]; rfl), rfl⟩
  · rintro _ _ _ _ b ⟨m, ws, rfl, rfl, rfl, rfl, hm, hws, hwd, hz, hlow, hinv⟩
    have hd1 := hr.d m
    by_cases h1 : m < l.length
    · have hy : l.getD m 0 * 2 ^ (k % 32) < 9223372036854775808 := by
        have := Nat.mul_le_mul (show l.getD m 0 ≤ 4294967295 by omega) hp2
        omega
      have hwrap : IntKind.u64.wrap ((l.getD m 0 : Int) * 2 ^ (k % 32)) = ((l.getD m 0 * 2 ^ (k % 32) : Nat) : Int) := by
        simp [IntKind.wrap, IntKind.signed, IntKind.bits]
        have : ((l.getD m 0 : Int) * 2 ^ (k % 32)) = ((l.getD m 0 * 2 ^ (k % 32) : Nat) : Int) := by simp
        rw [List.getD_eq_getElem?_getD] at this hy
        rw [this]
        omega
      refine go ?_
      refine o_shl (q := k % 32) rfl rfl (by simp only [IntKind.bits]; omega) hwrap ?_
      generalize hyy : l.getD m 0 * 2 ^ (k % 32) = y at *
      have hdv : 4294967296 = 2 ^ (k % 32) * 2 ^ (32 - k % 32) := by rw [← Nat.pow_add, show k % 32 + (32 - k % 32) = 32 by omega]
      have hy1 : y % 4294967296 % 2 ^ (k % 32) = 0 := by
        rw [hdv, Nat.mod_mul_right_mod, ← hyy]; exact Nat.mul_mod_left _ _
      have hor := or_of_mod hlow hy1
      have hyd : y / 4294967296 < 2 ^ (k % 32) := by
        rw [Nat.div_lt_iff_lt_mul (by decide), ← hyy, Nat.mul_comm (2 ^ _)]
        exact Nat.mul_lt_mul_of_pos_right hd1 (Nat.two_pow_pos _)
      have hsum : ws.getD (m + k / 32) 0 + y % 4294967296 < 4294967296 := by
        rw [← hor]; exact Nat.or_lt_two_pow (n := 32) (by omega) (by omega)
      have hz1 := hz (m + k / 32 + 1) (by omega)
      refine go ?_
      refine o_owneq (own1 (map_set (d := ws.getD (m + k / 32) 0 + y % 4294967296) (vu_eq (by rw [hor])))) ?_
      have hg1 : (ws.set (m + k / 32) (ws.getD (m + k / 32) 0 + y % 4294967296)).getD (m + k / 32 + 1) 0 = 0 := by
        rw [getD_set (by omega), if_neg (by omega)]; exact hz1
      have hl1 : (ws.set (m + k / 32) (ws.getD (m + k / 32) 0 + y % 4294967296)).length = l.length + k / 32 + 1 := by rw [List.length_set]; exact hws
      have hn1 := num_set (l := ws) (p := m + k / 32) (d := ws.getD (m + k / 32) 0 + y % 4294967296) (by omega)
      have hd1' : Dig (ws.set (m + k / 32) (ws.getD (m + k / 32) 0 + y % 4294967296)) := hwd.set hsum
      have hz2 : ∀ p, m + k / 32 < p → (ws.set (m + k / 32) (ws.getD (m + k / 32) 0 + y % 4294967296)).getD p 0 = 0 := fun p hp => by rw [getD_set (by omega), if_neg (by omega)]; exact hz p hp
      generalize ws.set (m + k / 32) (ws.getD (m + k / 32) 0 + y % 4294967296) = us at *
      by_cases h3 : m + k / 32 + 1 < l.length + k / 32 + 1
      · refine go ?_
        have hn2 := num_set (l := us) (p := m + k / 32 + 1) (d := y / 4294967296) (by omega)
        refine ⟨_, _, _, _, ⟨m + 1, us.set (m + k / 32 + 1) (y / 4294967296), rfl, rfl, rfl, rfl, by omega, by rw [List.length_set]; exact hl1, hd1'.set (by omega), fun p hp => by rw [getD_set (by omega), if_neg (by omega)]; exact hz2 p (by omega), by rw [show m + 1 + k / 32 = m + k / 32 + 1 by omega, getD_set (by omega), if_pos rfl]; exact hyd, ?_⟩, ⟨rfl, rfl, rfl, rfl, rfl, rfl, eqI (by simp), trivial⟩, own1 (map_set (vu_eq (by rw [hg1, Nat.zero_or]))), rfl, rfl, by omega⟩
        rw [hg1, Nat.zero_mul, Nat.add_zero] at hn2
        rw [hn2]
        show _ = (numF _ m + l.getD m 0 * 4294967296 ^ m) * 2 ^ k
        rw [Nat.add_mul, ← hinv, hpk]
        have e1 : l.getD m 0 * 4294967296 ^ m * (4294967296 ^ (k / 32) * 2 ^ (k % 32)) = y * 4294967296 ^ (m + k / 32) := by
          rw [← hyy, Nat.pow_add]; simp only [Nat.mul_comm, Nat.mul_left_comm, Nat.mul_assoc]
        have e2 : y % 4294967296 * 4294967296 ^ (m + k / 32) + y / 4294967296 * 4294967296 ^ (m + k / 32 + 1) = y * 4294967296 ^ (m + k / 32) := by
          rw [Nat.pow_succ, Nat.mul_comm (4294967296 ^ (m + k / 32)) 4294967296, ← Nat.mul_assoc, ← Nat.add_mul, Nat.mul_comm (y / _), Nat.mod_add_div]
        rw [Nat.add_mul] at hn1
        omega
      · omega
    · have e0 : m = l.length := by omega
      refine go ?_
      refine o_turn Turn.ice ?_
      refine go ?_
      refine o_pu rfl (trim113 (lr_ice hwd hws.symm (Nat.le_refl _)) (by omega)) (fun v' F' hF ⟨l', hv, ht, hn, hle2, hfull⟩ => ?_)
      refine go ?_
      exact b_ret rfl (.cons (.tmp rfl) (.cons (.tmp rfl) .nil)) (Turn.refl _ _) ⟨rfl, Fle.trans (Fz.add_le _ _) hF, v', l', rfl, hv, ht, by rw [hn, hinv, e0]; rfl, by omega, hfull⟩
end Go.Proofs.YthkoodpnepfijaaGreatDoor
/- WA: WALKS: limbs: less, digit: a divisor v = noughts and a highest limb 2^31 (a power of two). -/
namespace Go.Proofs.YthkoodpnepfijaaGreatDoor
open Go.RowKit
set_option linter.unusedVariables false
set_option linter.unusedSimpArgs false
set_option maxRecDepth 100000
set_option maxHeartbeats 1000000
theorem mid_set {α β : Type} {f : α → β} (a dn : List α) (z : List α) (o : Nat) {x : α} {u : β} (ho : a.length = o) (hu : u = f x) (y : α) : ((a ++ dn ++ y :: z).map f).set (o + dn.length) u = (a ++ (dn ++ [x]) ++ z).map f := by
  rw [hu, ← List.map_set, set_app _ _ _ _ (by simp; omega)]
  simp
theorem num_len_eq (l : List Nat) (m : Nat) (h : m ≤ l.length) (hz : ∀ i, m ≤ i → l.getD i 0 = 0) : num l = numF (fun i => l.getD i 0) m := numF_zero h fun i h1 _ => hz i h1
theorem numF_list {l : List Nat} {m : Nat} (h : l.length ≤ m) : numF (fun i => l.getD i 0) m = num l := numF_zero h fun i h1 _ => getD_none (by omega)
/-- u, a stretch of a block of its own: n limbs from place o on. -/
theorem less215 {w : Value} {r o n cap : Nat} {ws k : List Nat} {t : Nat} {F : Fz} (hw : Lr F w k) (hn : n < 1099511627776) (hkn : k.length ≤ n) (hws : o + n ≤ ws.length) (hwd : Dig ws) (ht : t < 4294967296) (hle : num k * t ≤ numF (fun i => ws.getD (o + i) 0) n) (own : List Ch) :
    N 215 [.slice (some ⟨r, o, none⟩) n cap, w, .int .u64 (t : Nat)] (.c r (ws.map vu) :: own) F fun u o' F' => F' = F ∧ ∃ us, u = .bool false ∧ o' = .c r ((ws.take o ++ us ++ ws.drop (o + n)).map vu) :: own ∧ us.length = n ∧ Dig us ∧ num us = numF (fun i => ws.getD (o + i) 0) n - num k * t := by
  have hw1 := hw.row
  refine n_fun Tryz.func215 Tryz.ntmps215 rfl rfl rfl ?_
  refine go ?_
  refine c_loopE (fun q X o' G => ∃ (dn : List Nat) (cy bw : Nat), n - dn.length = q ∧ X = [(0, .slice (some ⟨r, o, none⟩) n cap), (1, w), (2, .int .u64 (t : Nat)), (7, .int .u64 (cy : Nat)), (8, .int .u64 (bw : Nat)), (11, .slice (some ⟨r, o, none⟩) n cap), (12, .int .i64 (n : Nat)), (13, .int .i64 (dn.length : Nat))] ∧ .c r ((ws.take o ++ dn ++ ws.drop (o + dn.length)).map vu) :: own = o' ∧ F = G ∧
      dn.length ≤ n ∧ Dig dn ∧ bw ≤ 1 ∧ cy < 4294967296 ∧ numF (fun i => ws.getD (o + i) 0) dn.length + (cy + bw) * 4294967296 ^ dn.length = num dn + numF (fun i => k.getD i 0) dn.length * t) ?_ ?_
  · exact ⟨_, _, _, _, ⟨[], 0, 0, rfl, rfl, rfl, rfl, by simp, fun i hi => by simp at hi, by omega, by omega, by simp [num, numF]⟩, ⟨rfl, rfl, rfl, rfl, rfl, rfl, rfl, rfl, trivial⟩, own1 (by simp), rfl⟩
  · rintro _ _ _ _ b ⟨dn, cy, bw, rfl, rfl, rfl, rfl, hdl, hdd, hbw, hcy, hinv⟩
    have hk1 := hw.d dn.length
    have hkt := mul_lt hk1 ht
    have hlo : (ws.take o).length = o := by rw [List.length_take]; omega
    by_cases h1 : dn.length < n
    · have hu1 := hwd (o + dn.length) (by omega)
      have hdrop := drop_at (l := ws) (m := o + dn.length) (by omega)
      have hlen : (ws.take o ++ dn ++ ws.drop (o + dn.length)).length = ws.length := by simp [hlo]; omega
      have hget : (ws.take o ++ dn ++ ws.drop (o + dn.length)).getD (o + dn.length) 0 = ws.getD (o + dn.length) 0 := by
        rw [hdrop, getD_app, if_neg (by simp [hlo])]
        simp [hlo]
      refine go ?_
      refine c_joinE (fun X o' G => ∃ (cz : Nat), X = [(0, .slice (some ⟨r, o, none⟩) n cap), (1, w), (2, .int .u64 (t : Nat)), (7, .int .u64 (cz : Nat)), (8, .int .u64 (bw : Nat)), (9, .int .i64 (dn.length : Nat)), (11, .slice (some ⟨r, o, none⟩) n cap), (12, .int .i64 (n : Nat)), (13, .int .i64 (dn.length : Nat))] ∧ .c r ((ws.take o ++ dn ++ ws.drop (o + dn.length)).map vu) :: own = o' ∧ F = G ∧ cz = cy + k.getD dn.length 0 * t) ?_ ?_
      · by_cases h2 : dn.length < k.length
        · refine go ?_
          exact ⟨_, _, _, ⟨cy + k.getD dn.length 0 * t, rfl, rfl, rfl, rfl⟩, ⟨rfl, rfl, rfl, eqI (by simp), rfl, rfl, rfl, rfl, rfl, trivial⟩, rfl, rfl, rfl⟩
        · have h20 := getD_none h2
          refine go ?_
          exact ⟨_, _, _, ⟨cy, rfl, rfl, rfl, by rw [h20]; omega⟩, ⟨rfl, rfl, rfl, rfl, rfl, rfl, rfl, rfl, rfl, trivial⟩, rfl, rfl, rfl⟩
      · rintro _ _ _ b' ⟨cz, rfl, rfl, rfl, hcz⟩
        have hczl : cz < 18446744073709551616 := by omega
        have hcn : cz / 4294967296 < 4294967296 := by omega
        -- one step of the sums
        have step : ∀ (e bz : Nat), ws.getD (o + dn.length) 0 + bz * 4294967296 = e + cz % 4294967296 + bw → numF (fun i => ws.getD (o + i) 0) (dn.length + 1) + (cz / 4294967296 + bz) * 4294967296 ^ (dn.length + 1) = num (dn ++ [e]) + numF (fun i => k.getD i 0) (dn.length + 1) * t := fun e bz he => by
          rw [num_snoc]
          show (numF _ dn.length + ws.getD (o + dn.length) 0 * _) + _ = _ + (numF _ dn.length + k.getD dn.length 0 * _) * t
          rw [Nat.pow_succ]
          generalize 4294967296 ^ dn.length = P at *
          have e1 : (ws.getD (o + dn.length) 0 + bz * 4294967296) * P = (e + cz % 4294967296 + bw) * P := by rw [he]
          have e2 : (cz % 4294967296 + cz / 4294967296 * 4294967296) * P = (cy + k.getD dn.length 0 * t) * P := by rw [Nat.mul_comm (cz / _), Nat.mod_add_div, hcz]
          simp only [Nat.add_mul] at e1 e2 hinv ⊢
          have e3 : k.getD dn.length 0 * P * t = k.getD dn.length 0 * t * P := by rw [Nat.mul_assoc, Nat.mul_comm P, Nat.mul_assoc]
          have e4 : cz / 4294967296 * (P * 4294967296) = cz / 4294967296 * 4294967296 * P := by rw [Nat.mul_comm P, Nat.mul_assoc]
          have e5 : bz * (P * 4294967296) = bz * 4294967296 * P := by rw [Nat.mul_comm P, Nat.mul_assoc]
          omega
        have fz : ∀ e : Nat, e < 4294967296 → (e / 4294967296 &&& 1) = 0 := fun e h => by rw [Nat.div_eq_of_lt h]; rfl
        have fo : ∀ e : Nat, 18446744069414584320 ≤ e → e < 18446744073709551616 → (e / 4294967296 &&& 1) = 1 := fun e h h' => by
          have : e / 4294967296 = 4294967295 := by omega
          rw [this]; rfl
        have ends : ∀ (e bz : Nat) (z1 z2 : Int) (X : Fr) (u : Value), e < 4294967296 → bz ≤ 1 → ws.getD (o + dn.length) 0 + bz * 4294967296 = e + cz % 4294967296 + bw → z1 = (bz : Nat) → u = vu e →
            lookS X 0 = some (.slice (some ⟨r, o, none⟩) n cap) → lookS X 1 = some w → lookS X 2 = some (.int .u64 (t : Nat)) → lookS X 7 = some (.int .u64 z2) → z2 = (cz / 4294967296 : Nat) → lookS X 8 = some (.int .u64 z1) → lookS X 11 = some (.slice (some ⟨r, o, none⟩) n cap) → lookS X 12 = some (.int .i64 (n : Nat)) → lookS X 13 = some (.int .i64 ((dn.length : Nat) + 1 : Int)) →
            ∃ m' y o' F', (∃ (dn : List Nat) (cy bw : Nat), n - dn.length = m' ∧ y = [(0, .slice (some ⟨r, o, none⟩) n cap), (1, w), (2, .int .u64 (t : Nat)), (7, .int .u64 (cy : Nat)), (8, .int .u64 (bw : Nat)), (11, .slice (some ⟨r, o, none⟩) n cap), (12, .int .i64 (n : Nat)), (13, .int .i64 (dn.length : Nat))] ∧ .c r ((ws.take o ++ dn ++ ws.drop (o + dn.length)).map vu) :: own = o' ∧ F = F' ∧
              dn.length ≤ n ∧ Dig dn ∧ bw ≤ 1 ∧ cy < 4294967296 ∧ numF (fun i => ws.getD (o + i) 0) dn.length + (cy + bw) * 4294967296 ^ dn.length = num dn + numF (fun i => k.getD i 0) dn.length * t) ∧ fits X y ∧
              .c r (((ws.take o ++ dn ++ ws.drop (o + dn.length)).map vu).set (o + dn.length) u) :: own = o' ∧ F = F' ∧ m' < n - dn.length := fun e bz z1 z2 X u he hbz hst hz1 hu x0 x1 x2 x7 hz2 x8 x11 x12 x13 => by
          subst hz1 hz2
          refine ⟨_, _, _, _, ⟨dn ++ [e], cz / 4294967296, bz, rfl, rfl, rfl, rfl, by simp; omega, hdd.snoc he, hbz, hcn, ?_⟩, ⟨x0, x1, x2, x7, x8, x11, x12, by rw [x13]; exact eqI (by simp), trivial⟩, own1 ?_, rfl, by simp; omega⟩
          · rw [List.length_append, List.length_singleton]; exact step e bz hst
          · rw [hdrop, mid_set _ _ _ o hlo hu]
            simp [Nat.add_assoc]
        by_cases h3 : cz % 4294967296 ≤ ws.getD (o + dn.length) 0
        · by_cases h4 : cz % 4294967296 + bw ≤ ws.getD (o + dn.length) 0
          · refine go ?_
            refine ends (ws.getD (o + dn.length) 0 - cz % 4294967296 - bw) 0 _ _ _ _ (by omega) (by omega) (by omega) (by rw [fz _ (by omega)]) (vu_eq (by omega)) rfl rfl rfl rfl ?_ rfl rfl rfl rfl |> fun ⟨m', y, o', F', a1, a2, a3, a4, a5⟩ => ⟨m', y, o', F', a1, a2, a3, a4, rfl, a5⟩
            simp
          · have h5 : bw = 1 := by omega
            subst h5
            refine go ?_
            refine o_arW ((18446744073709551615 : Nat) : Int) rfl rfl rfl (by omega) ?_
            refine go ?_
            refine ends 4294967295 1 _ _ _ _ (by omega) (by omega) (by omega) (by rw [fo _ (by omega) (by omega)]) (vu_eq (by omega)) rfl rfl rfl rfl ?_ rfl rfl rfl rfl |> fun ⟨m', y, o', F', a1, a2, a3, a4, a5⟩ => ⟨m', y, o', F', a1, a2, a3, a4, rfl, a5⟩
            simp
        · refine go ?_
          refine o_arW ((18446744073709551616 + ws.getD (o + dn.length) 0 - cz % 4294967296 : Nat) : Int) rfl rfl rfl (by omega) ?_
          refine go ?_
          refine ends (4294967296 + ws.getD (o + dn.length) 0 - cz % 4294967296 - bw) 1 _ _ _ _ (by omega) (by omega) (by omega) (by rw [fo _ (by omega) (by omega)]) (vu_eq (by omega)) rfl rfl rfl rfl ?_ rfl rfl rfl rfl |> fun ⟨m', y, o', F', a1, a2, a3, a4, a5⟩ => ⟨m', y, o', F', a1, a2, a3, a4, rfl, a5⟩
          simp
    · have e0 : dn.length = n := by omega
      have e1 : numF (fun i => k.getD i 0) dn.length = num k := numF_list (by omega)
      have e2 : num dn < 4294967296 ^ dn.length := numF_lt fun i hi => hdd i hi
      rw [e1, e0] at hinv
      rw [e0] at e2
      have e3 : cy + bw = 0 := by
        rcases Nat.eq_zero_or_pos (cy + bw) with h | h
        · exact h
        · have := Nat.mul_le_mul_right (4294967296 ^ n) h
          omega
      have e4 : bw = 0 := by omega
      subst e4
      refine go ?_
      refine b_ret rfl (.cons (.tmp rfl) .nil) (Turn.refl _ _) ⟨rfl, dn, rfl, by rw [← e0], e0, hdd, ?_⟩
      rw [e3, Nat.zero_mul] at hinv
      omega
end Go.Proofs.YthkoodpnepfijaaGreatDoor
/- WB: WALKS: limbs: digit, where the divisor is a power of two. -/
namespace Go.Proofs.YthkoodpnepfijaaGreatDoor
open Go.RowKit
set_option linter.unusedVariables false
set_option linter.unusedSimpArgs false
set_option maxRecDepth 100000
set_option maxHeartbeats 1000000
/-- n limbs, the highest one 2^31, the others noughts. -/
structure Top2 (k : List Nat) (n : Nat) : Prop where
  len : k.length = n
  big : 2 ≤ n
  top : k.getD (n - 1) 0 = 2147483648
  low : ∀ i, i < n - 1 → k.getD i 0 = 0
theorem Top2.num {k : List Nat} {n : Nat} (h : Top2 k n) : num k = 2147483648 * 4294967296 ^ (n - 1) := by
  obtain ⟨m, rfl⟩ : ∃ m, n = m + 1 := ⟨n - 1, by have := h.big; omega⟩
  unfold YthkoodpnepfijaaGreatDoor.num
  rw [h.len]
  show numF _ m + k.getD m 0 * _ = _
  have h1 := h.top
  rw [Nat.add_sub_cancel] at h1 ⊢
  rw [h1, numF_zero (k := 0) (by omega) fun i _ hi => h.low i (by omega)]
  show 0 + _ = _
  omega
theorem digit_facts {o : Nat} {ws k : List Nat} (hk : Top2 k k.length) (hws : o + k.length + 1 ≤ ws.length) (hwd : Dig ws) (hlt : numF (fun i => ws.getD (o + i) 0) (k.length + 1) < num k * 4294967296) :
    (ws.getD (o + k.length) 0 * 4294967296 + ws.getD (o + (k.length - 1)) 0) / k.getD (k.length - 1) 0 < 4294967296 ∧ (ws.getD (o + k.length) 0 * 4294967296 + ws.getD (o + (k.length - 1)) 0) % k.getD (k.length - 1) 0 < 2147483648 ∧
    (ws.getD (o + k.length) 0 * 4294967296 + ws.getD (o + (k.length - 1)) 0) / k.getD (k.length - 1) 0 * k.getD (k.length - 2) 0 = 0 ∧
    Hid (numF (fun i => ws.getD (o + i) 0) (k.length + 1) / num k = (ws.getD (o + k.length) 0 * 4294967296 + ws.getD (o + (k.length - 1)) 0) / k.getD (k.length - 1) 0 ∧
      num k * ((ws.getD (o + k.length) 0 * 4294967296 + ws.getD (o + (k.length - 1)) 0) / k.getD (k.length - 1) 0) ≤ numF (fun i => ws.getD (o + i) 0) (k.length + 1) ∧
      numF (fun i => ws.getD (o + i) 0) (k.length + 1) - num k * ((ws.getD (o + k.length) 0 * 4294967296 + ws.getD (o + (k.length - 1)) 0) / k.getD (k.length - 1) 0) = numF (fun i => ws.getD (o + i) 0) (k.length + 1) % num k) := by
  have hbig := hk.big
  have htop := hk.top
  have hlow := hk.low (k.length - 2) (by omega)
  have hu1 := hwd (o + k.length) (by omega)
  have hu2 := hwd (o + (k.length - 1)) (by omega)
  have hu3 := hwd (o + (k.length - 2)) (by omega)
  have hkn := hk.num
  have hU : numF (fun i => ws.getD (o + i) 0) (k.length + 1) = numF (fun i => ws.getD (o + i) 0) (k.length - 1) + (ws.getD (o + (k.length - 1)) 0 + ws.getD (o + k.length) 0 * 4294967296) * 4294967296 ^ (k.length - 1) := by
    generalize k.length = n at *
    obtain ⟨m, rfl⟩ : ∃ m, n = m + 1 := ⟨n - 1, by omega⟩
    show numF _ m + ws.getD (o + m) 0 * _ + ws.getD (o + (m + 1)) 0 * _ = _
    rw [Nat.add_sub_cancel, Nat.add_mul, Nat.pow_succ, Nat.mul_comm (4294967296 ^ m), ← Nat.mul_assoc]
    omega
  have hL : numF (fun i => ws.getD (o + i) 0) (k.length - 1) < 4294967296 ^ (k.length - 1) := numF_lt fun i hi => hwd (o + i) (by omega)
  have hP := pow_pos' (k.length - 1)
  have hq : numF (fun i => ws.getD (o + i) 0) (k.length + 1) / num k = (ws.getD (o + k.length) 0 * 4294967296 + ws.getD (o + (k.length - 1)) 0) / k.getD (k.length - 1) 0 := by
    rw [hU, hkn, htop, Nat.mul_comm 2147483648, ← Nat.div_div_eq_div_mul, Nat.add_mul_div_right _ _ hP, Nat.div_eq_of_lt hL, Nat.zero_add, Nat.add_comm]
  have hhigh : ws.getD (o + k.length) 0 * 4294967296 + ws.getD (o + (k.length - 1)) 0 < 2147483648 * 4294967296 := by
    rw [hU, hkn] at hlt
    have : (ws.getD (o + (k.length - 1)) 0 + ws.getD (o + k.length) 0 * 4294967296) * 4294967296 ^ (k.length - 1) < 2147483648 * 4294967296 * 4294967296 ^ (k.length - 1) := by
      have e : 2147483648 * 4294967296 ^ (k.length - 1) * 4294967296 = 2147483648 * 4294967296 * 4294967296 ^ (k.length - 1) := by rw [Nat.mul_assoc, Nat.mul_comm (4294967296 ^ _), ← Nat.mul_assoc]
      omega
    have := Nat.lt_of_mul_lt_mul_right this
    omega
  have hg1 : (ws.getD (o + k.length) 0 * 4294967296 + ws.getD (o + (k.length - 1)) 0) / k.getD (k.length - 1) 0 < 4294967296 := by rw [htop, Nat.div_lt_iff_lt_mul (by decide)]; omega
  have hg2 : (ws.getD (o + k.length) 0 * 4294967296 + ws.getD (o + (k.length - 1)) 0) % k.getD (k.length - 1) 0 < 2147483648 := by rw [htop]; omega
  have hg3 : (ws.getD (o + k.length) 0 * 4294967296 + ws.getD (o + (k.length - 1)) 0) / k.getD (k.length - 1) 0 * k.getD (k.length - 2) 0 = 0 := by rw [hlow, Nat.mul_zero]
  have hle : num k * ((ws.getD (o + k.length) 0 * 4294967296 + ws.getD (o + (k.length - 1)) 0) / k.getD (k.length - 1) 0) ≤ numF (fun i => ws.getD (o + i) 0) (k.length + 1) := by rw [← hq]; exact Nat.mul_div_le _ _
  have hmod : numF (fun i => ws.getD (o + i) 0) (k.length + 1) - num k * ((ws.getD (o + k.length) 0 * 4294967296 + ws.getD (o + (k.length - 1)) 0) / k.getD (k.length - 1) 0) = numF (fun i => ws.getD (o + i) 0) (k.length + 1) % num k := by
    rw [← hq]; have := Nat.mod_add_div (numF (fun i => ws.getD (o + i) 0) (k.length + 1)) (num k); omega
  exact ⟨hg1, hg2, hg3, hq, hle, hmod⟩
theorem digit212 {w : Value} {r o n cap : Nat} {ws k : List Nat} {F : Fz} (hw : Lr F w k) (hk : Top2 k n) (hn : n + 1 < 1099511627776) (hws : o + n + 1 ≤ ws.length) (hwd : Dig ws) (hlt : numF (fun i => ws.getD (o + i) 0) (n + 1) < num k * 4294967296) (own : List Ch) :
    N 212 [.slice (some ⟨r, o, none⟩) (n + 1) cap, w] (.c r (ws.map vu) :: own) F fun u o' F' => F' = F ∧ ∃ us, u = .int .u32 (numF (fun i => ws.getD (o + i) 0) (n + 1) / num k : Nat) ∧ o' = .c r ((ws.take o ++ us ++ ws.drop (o + n + 1)).map vu) :: own ∧ us.length = n + 1 ∧ Dig us ∧ num us = numF (fun i => ws.getD (o + i) 0) (n + 1) % num k := by
  obtain rfl := hk.len
  have hw1 := hw.row
  have hbig := hk.big
  have htop := hk.top
  have hlow := hk.low (k.length - 2) (by omega)
  have hu1 := hwd (o + k.length) (by omega)
  have hu2 := hwd (o + (k.length - 1)) (by omega)
  have hu3 := hwd (o + (k.length - 2)) (by omega)
  obtain ⟨hg1, hg2, hg3, hH⟩ := digit_facts hk hws hwd hlt
  have hltH : Hid (numF (fun i => ws.getD (o + i) 0) (k.length + 1) < num k * 4294967296) := hlt
  clear hlt
  refine n_fun Tryz.func212 Tryz.ntmps212 rfl rfl rfl ?_
  refine go ?_
  refine c_scope (fun _ _ h => h) ?_
  refine go ?_
  generalize (ws.getD (o + k.length) 0 * 4294967296 + ws.getD (o + (k.length - 1)) 0) / k.getD (k.length - 1) 0 = g at *
  generalize (ws.getD (o + k.length) 0 * 4294967296 + ws.getD (o + (k.length - 1)) 0) % k.getD (k.length - 1) 0 = rs at *
  refine c_loopE (fun q X o' G => q = 0 ∧ X = [(0, .slice (some ⟨r, o, none⟩) (k.length + 1) cap), (1, w), (5, .int .i64 (k.length : Nat)), (7, .int .u64 (g : Nat)), (8, .int .u64 (rs : Nat))] ∧ .c r (ws.map vu) :: own = o' ∧ F = G) ?_ ?_
  · exact ⟨_, _, _, _, ⟨rfl, rfl, rfl, rfl⟩, ⟨rfl, rfl, rfl, rfl, rfl, trivial⟩, rfl, rfl⟩
  · rintro _ _ _ _ b ⟨rfl, rfl, rfl, rfl⟩
    refine go ?_
    obtain ⟨hq, hle, hmod⟩ := hH.out
    refine o_call rfl (less215 (o := o) (n := k.length + 1) hw (by omega) (by omega) (by omega) hwd hg1 hle own) (fun u o' F' hp => ?_)
    obtain ⟨rfl, us, rfl, rfl, hul, hud, hun⟩ := hp
    refine ⟨_, .text, ?_⟩
    refine go ?_
    refine b_ret rfl (.cons (.tmp rfl) .nil) (Turn.refl _ _) ⟨rfl, us, by rw [hq]; rfl, rfl, hul, hud, by rw [hun, hmod]⟩
end Go.Proofs.YthkoodpnepfijaaGreatDoor
/- WC: WALKS: limbs: how many bits a limb has. -/
namespace Go.Proofs.YthkoodpnepfijaaGreatDoor
open Go.RowKit
set_option linter.unusedVariables false
set_option linter.unusedSimpArgs false
set_option maxRecDepth 100000
set_option maxHeartbeats 1000000
section
variable {n : Nat} {ops : Array Oper} {fl : Option (List Nat)} {rest : List Oper} {K : St → Prop} {wk : List Ch} {x : Fr} {b : Nat → Value} {ds : List Deferred} {own : List Ch} {F : Fz}
  {d ty : Nat} {pos : String} {af : Array Edge}
/-- s[i], a string's byte. -/
theorem o_sidx {a i : Operand} {t : Nat} {s : ByteArray} {k : IntKind} {z : Int} {c : UInt8} (ht : Tryz.prog.underlying t = some .string) (j m : Nat) (ha : evS n x a = some (.string s)) (hi : evS n x i = some (.int k z)) (hz : z = j) (hc : s[j]? = some c) (hm : c.toNat = m) (h : O n ops fl rest K wk ⟨(d, .int .u8 (m : Nat)) :: x, b, ds, own, F⟩) : O n ops fl (⟨some d, .index t a i, ty, pos, af, none⟩ :: rest) K wk ⟨x, b, ds, own, F⟩ :=
  o_rd _ rfl (fun B w0 w hw => by
    subst hz hm
    unfold execOp
    simp [evx ha, evx hi, Instr.index, asIntOf, run_underlying ht, hc, Result.andThen]) h
end
theorem str9 : Tryz.prog.underlying 9 = some .string := by kernel_rfl
theorem len32_191 {j : Nat} {F : Fz} (hj : j < 32) : Pu 191 [.int .u32 ((2 ^ j : Nat) : Int)] F fun u F' => u = .int .i64 ((j : Int) + 1) := fun own => by
  have hall : j = 0 ∨ j = 1 ∨ j = 2 ∨ j = 3 ∨ j = 4 ∨ j = 5 ∨ j = 6 ∨ j = 7 ∨ j = 8 ∨ j = 9 ∨ j = 10 ∨ j = 11 ∨ j = 12 ∨ j = 13 ∨ j = 14 ∨ j = 15 ∨ j = 16 ∨ j = 17 ∨ j = 18 ∨ j = 19 ∨ j = 20 ∨ j = 21 ∨ j = 22 ∨ j = 23 ∨ j = 24 ∨ j = 25 ∨ j = 26 ∨ j = 27 ∨ j = 28 ∨ j = 29 ∨ j = 30 ∨ j = 31 := by omega
  refine n_fun Tryz.func191 Tryz.ntmps191 rfl rfl rfl ?_
  rcases hall with rfl | rfl | rfl | rfl | rfl | rfl | rfl | rfl | rfl | rfl | rfl | rfl | rfl | rfl | rfl | rfl | rfl | rfl | rfl | rfl | rfl | rfl | rfl | rfl | rfl | rfl | rfl | rfl | rfl | rfl | rfl | rfl
  all_goals
    simp only [Nat.reducePow]
    refine go ?_
    first
      | refine o_sidx str9 1 1 rfl rfl (by omega) rfl rfl ?_
      | refine o_sidx str9 2 2 rfl rfl (by omega) rfl rfl ?_
      | refine o_sidx str9 4 3 rfl rfl (by omega) rfl rfl ?_
      | refine o_sidx str9 8 4 rfl rfl (by omega) rfl rfl ?_
      | refine o_sidx str9 16 5 rfl rfl (by omega) rfl rfl ?_
      | refine o_sidx str9 32 6 rfl rfl (by omega) rfl rfl ?_
      | refine o_sidx str9 64 7 rfl rfl (by omega) rfl rfl ?_
      | refine o_sidx str9 128 8 rfl rfl (by omega) rfl rfl ?_
    refine go ?_
    exact b_ret rfl (.cons (.tmp rfl) .nil) (Turn.refl _ _) ⟨rfl, Fle.refl _, rfl⟩
end Go.Proofs.YthkoodpnepfijaaGreatDoor

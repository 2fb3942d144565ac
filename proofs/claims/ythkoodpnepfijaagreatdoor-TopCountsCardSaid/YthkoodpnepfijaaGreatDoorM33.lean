/-
  Steps towards TopCounts (no conditions of their own): WALKS: point.Powers, synth.Grid. WALKS: synth.Grid. WALKS: eval.units. WALKS: synth.Interpolates. WALKS: eval.Evaluates. WALKS: scheme: Clone of points, IndexFunc, ContainsFunc of None. WALKS: scheme.New. WALKS: check: programs, the parts.
-/
import Derived.Test.YthkoodpnepfijaaGreatDoorM16
import Derived.Test.YthkoodpnepfijaaGreatDoorM17
import Derived.Test.YthkoodpnepfijaaGreatDoorM32
/- Y9: WALKS: point.Powers, synth.Grid. -/
namespace Go.Proofs.YthkoodpnepfijaaGreatDoor
open Go.RowKit
set_option linter.unusedVariables false
set_option linter.unusedSimpArgs false
set_option maxRecDepth 100000
set_option maxHeartbeats 1000000
def powL (p : Pnt) (n : Nat) : List Int := (List.range n).map fun i => p.A ^ i * p.B ^ (n - 1 - i)
theorem pow_sm {a : Int} {i : Nat} (h : -16 ≤ a ∧ a ≤ 16) (hi : i ≤ 20) : (a ^ i).natAbs < 2 ^ 200 := by
  rw [Int.natAbs_pow]
  have h1 : a.natAbs ^ i ≤ 16 ^ i := Nat.pow_le_pow_left (by omega) i
  have h2 : 16 ^ i ≤ 16 ^ 20 := Nat.pow_le_pow_right (by decide) hi
  have h3 : (16 : Nat) ^ 20 < 2 ^ 200 := by decide +kernel
  omega
theorem flat_at {α : Type} {s : Nat} {f : α → List Value} (z0 : α) (hf : ∀ a, (f a).length = s) {l : List α} {t i : Nat} {v : Value} (ht : t < l.length) (h : (f (l.getD t z0))[i]? = some v) : (l.flatMap f)[t * s + i]? = some v := by
  have e : l = l.take t ++ l.getD t z0 :: l.drop (t + 1) := by
    rw [List.getD_eq_getElem?_getD, List.getElem?_eq_getElem ht]
    show l = l.take t ++ l[t] :: l.drop (t + 1)
    rw [List.getElem_cons_drop, List.take_append_drop]
  have hl2 : ((l.take t).flatMap f).length = t * s := by rw [flat_len hf, List.length_take]; congr 1; omega
  have hjl := (List.getElem?_eq_some_iff.1 h).1
  conv => lhs; rw [e]
  rw [List.flatMap_append, List.flatMap_cons, List.getElem?_append_right (by omega), hl2, Nat.add_sub_cancel_left, List.getElem?_append_left hjl]
  exact h
theorem powers98 {F : Fz} {p : Pnt} {n : Nat} (hA : -16 ≤ p.A ∧ p.A ≤ 16) (hB : -16 ≤ p.B ∧ p.B ≤ 16) (h1 : 1 ≤ n) (hn : n ≤ 16) : Pu 98 [.agg (vPt p).toArray, .int .i64 (n : Nat)] F fun u F' => ∃ v, u = .tuple #[v, .int .i64 0] ∧ RowI F' v (powL p n) := fun own => by
  refine n_fun Tryz.func98 Tryz.ntmps98 rfl rfl rfl ?_
  refine go ?_
  intro r2
  refine o_make n rfl rfl ?_ ?_ (fun rz => ?_)
  · omega
  · omega
  rw [rep_two]
  refine go ?_
  refine o_pu rfl (Of22 (by omega) (by omega)) (fun u F1 hF1 h1 => ?_) sl
  obtain ⟨qa, e, hqa⟩ := h1.iz
  subst e
  refine go ?_
  refine o_pu rfl (Of22 (by omega) (by omega)) (fun u F2 hF2 h2 => ?_) sl
  obtain ⟨qb, e, hqb⟩ := h2.iz
  subst e
  have hqa := hqa.le hF2
  refine go ?_
  intro r7 r8
  refine go ?_
  refine c_loopT (fun m X o G => ∃ (j : Nat) (ps : List IZ) (q : IZ), m = n - j ∧ X = [(1, .int .i64 (n : Nat)), (2, .pointer (some ⟨r2, 0, none⟩)), (6, .slice (some ⟨rz, 0, none⟩) n n), (7, .pointer (some ⟨r7, 0, none⟩)), (8, .pointer (some ⟨r8, 0, none⟩)), (27, .int .i64 (n : Nat)), (28, .int .i64 (j : Nat))] ∧ .c r8 (vIz qb) :: .c r7 (vIz q) :: .c rz (ps.flatMap vIz) :: .c r2 (vPt p) :: own = o ∧ Fle F2 G ∧ ps.length = n ∧ IntR G (.agg (vIz q).toArray) (p.A ^ j) ∧ (∀ i, i < j → IntR G (.agg (vIz (ps.getD i z0Z)).toArray) (p.A ^ i)) ∧ j ≤ n)
    ⟨_, _, _, _, ⟨0, _, qa, rfl, rfl, rfl, Fle.refl _, List.length_replicate .., by rw [Int.pow_zero]; exact hqa, fun i hi => absurd hi (by omega), by omega⟩, ⟨rfl, rfl, rfl, rfl, rfl, rfl, rfl, trivial⟩, Turn.refl _ _⟩ ?_
  rintro _ _ _ G b ⟨j, ps, q, rfl, rfl, rfl, hG, hpl, hq, hps, hj⟩
  by_cases hjl : j < n
  · have hjp : j < ps.length := by omega
    refine go ?_
    refine o_staN rfl inferInstance rfl rfl rfl get2 (by rw [setL_flat vIz_len q hjp]; rfl) (by rw [flat_len vIz_len, hpl]; show j * 2 + 2 ≤ n * 2; omega) sl .text ?_
    refine go ?_
    refine o_pu rfl (times138 (k := 200) hq (by omega) (by omega) (pow_sm hA (by omega)) (by omega)) (fun u F3 hF3 h3 => ?_) sl
    obtain ⟨q3, e, hq3⟩ := h3.iz
    subst e
    refine go ?_
    exact ⟨_, _, _, _, ⟨j + 1, ps.set j q, q3, rfl, rfl, rfl, hG.trans hF3, by simpa using hpl, by rw [Int.pow_succ]; exact hq3, fun i hi => by
      rw [List.getD_eq_getElem?_getD, List.getElem?_set]
      by_cases h : j = i
      · subst h; rw [if_pos rfl, if_pos hjp]; exact hq.le hF3
      · rw [if_neg h, ← List.getD_eq_getElem?_getD]; exact (hps i (by omega)).le hF3, by omega⟩, ⟨rfl, rfl, rfl, rfl, rfl, rfl, eqI (by omega), trivial⟩, Turn.refl _ _, rfl, by omega⟩
  · obtain rfl : j = n := by omega
    refine go ?_
    refine c_loopT (fun m X o G' => ∃ (i : Nat) (ps : List IZ) (q' : IZ), m = i + 1 ∧ X = [(2, .pointer (some ⟨r2, 0, none⟩)), (6, .slice (some ⟨rz, 0, none⟩) j j), (8, .pointer (some ⟨r8, 0, none⟩)), (10, .int .i64 ((i : Int) - 1))] ∧ .c r8 (vIz q') :: .c r7 (vIz q) :: .c rz (ps.flatMap vIz) :: .c r2 (vPt p) :: own = o ∧ Fle G G' ∧ ps.length = j ∧ IntR G' (.agg (vIz q').toArray) (p.B ^ (j - i)) ∧ (∀ r, r < j → IntR G' (.agg (vIz (ps.getD r z0Z)).toArray) (if i ≤ r then p.A ^ r * p.B ^ (j - 1 - r) else p.A ^ r)) ∧ i ≤ j)
      ⟨_, _, _, _, ⟨j, ps, qb, rfl, rfl, rfl, Fle.refl _, hpl, by rw [Nat.sub_self, Int.pow_zero]; exact hqb.le hG, fun r hr => by rw [if_neg (by omega)]; exact hps r hr, by omega⟩, ⟨rfl, rfl, rfl, rfl, trivial⟩, Turn.refl _ _⟩ ?_
    rintro _ _ _ G' b ⟨i, ps', q', rfl, rfl, rfl, hG', hpl', hq', hps', hi⟩
    rcases i with _ | t
    · refine go ?_
      refine b_ret rfl (.cons (.tmp rfl) (.cons (.tmp rfl) .nil)) (Turn.drop.trans (Turn.drop.trans (Turn.ice.trans Turn.drop))) ⟨rfl, ((hF1.trans hF2).trans (hG.trans hG')).trans (Fz.add_le _ _), _, rfl, ps', rowS_ice z0Z vIz_len hpl' (Nat.le_refl _), by simp [powL, hpl'], fun i hi => ?_⟩
      have hi : i < j := by simpa [powL] using hi
      unfold powL
      rw [getD_map_range (fun i => p.A ^ i * p.B ^ (j - 1 - i)) hi]
      have := hps' i hi
      rw [if_pos (by omega)] at this
      exact this.le (Fz.add_le _ _)
    · refine c_fr [(2, .pointer (some ⟨r2, 0, none⟩)), (6, .slice (some ⟨rz, 0, none⟩) j j), (8, .pointer (some ⟨r8, 0, none⟩)), (10, .int .i64 (t : Nat))] ⟨rfl, rfl, rfl, eqI (by omega), trivial⟩ fun b => ?_
      have htp : t < ps'.length := by omega
      have ht := hps' t (by omega)
      rw [if_neg (by omega)] at ht
      refine goT ?_
      refine c_drww [.c r8 (vIz q'), .c rz (ps'.flatMap vIz)] sl rfl (by decide +kernel) ?_
      refine go ?_
      refine o_loada (vs := vIz (ps'.getD t z0Z)) rfl rfl (rdsC 1 rfl (fun i v hv => flat_at z0Z vIz_len htp hv)) ?_
      refine go ?_
      refine o_pu rfl (mul66 (k := 200) ht hq' (pow_sm hA (by omega)) (pow_sm hB (by omega)) (by omega)) (fun u F3 hF3 h3 => ?_) sl
      obtain ⟨q3, e, hq3⟩ := h3.iz
      subst e
      refine go ?_
      refine o_staN rfl inferInstance rfl rfl rfl get2 (by rw [setL_flat vIz_len q3 htp]; rfl) (by rw [flat_len vIz_len, hpl']; show t * 2 + 2 ≤ j * 2; omega) sl (.late [] (by decide +kernel) (List.nil_sublist _)) ?_
      refine go ?_
      refine o_pu rfl (times138 (k := 200) (hq'.le hF3) (by omega) (by omega) (pow_sm hB (by omega)) (by omega)) (fun u F4 hF4 h4 => ?_) sl
      obtain ⟨q4, e, hq4⟩ := h4.iz
      subst e
      rw [← Int.pow_succ, show (j - (t + 1)).succ = j - t by omega] at hq4
      refine go ?_
      refine ⟨_, _, _, _, ⟨t, ps'.set t q3, q4, rfl, rfl, rfl, (hG'.trans hF3).trans hF4, by simpa using hpl', hq4, fun r hr => ?_, by omega⟩, ⟨rfl, rfl, rfl, rfl, trivial⟩, Turn.refl _ _, rfl, by omega⟩
      rw [List.getD_eq_getElem?_getD, List.getElem?_set]
      by_cases h : t = r
      · subst h
        rw [if_pos rfl, if_pos htp, if_pos (Nat.le_refl _)]
        rw [show j - (t + 1) = j - 1 - t by omega] at hq3
        exact hq3.le hF4
      · rw [if_neg h, ← List.getD_eq_getElem?_getD]
        have := (hps' r hr).le (hF3.trans hF4)
        by_cases h2 : t ≤ r
        · rw [if_pos h2]; rw [if_pos (by omega)] at this; exact this
        · rw [if_neg h2]; rw [if_neg (by omega)] at this; exact this
end Go.Proofs.YthkoodpnepfijaaGreatDoor
/- YA: WALKS: synth.Grid. -/
namespace Go.Proofs.YthkoodpnepfijaaGreatDoor
open Go.RowKit
set_option linter.unusedVariables false
set_option linter.unusedSimpArgs false
set_option maxRecDepth 100000
set_option maxHeartbeats 1000000
theorem grid100 {F : Fz} {v : Value} {l : List Pnt} (hl : PtsR F v l) (hR : RightQ l) (hin : ∀ p ∈ l, InP p) (h1 : 1 ≤ l.length) (hn : l.length ≤ 15) : Pu 100 [v] F fun u F' => ∃ v', u = .tuple #[v', .int .i64 0] ∧ RowsR F' v' l.length fun j => powL (l.getD j z0P) l.length := fun own => by
  obtain ⟨A, c, e⟩ := hl.dest
  subst e
  refine n_fun Tryz.func100 Tryz.ntmps100 rfl rfl rfl ?_
  refine go ?_
  refine o_ps rfl (right76 hl (by omega)) (fun u ⟨t, e, ht⟩ => ?_) sl
  subst e
  obtain rfl : t = true := ht.2 hR
  refine go ?_
  refine c_loopT (fun m X o G => ∃ (j : Nat) (cv : Value) (ps : List SZ), m = l.length - j ∧ X = [(0, .slice A l.length c), (4, cv), (12, .slice A l.length c), (13, .int .i64 (l.length : Nat)), (14, .int .i64 (j : Nat))] ∧ .g cv 42 1 ps.length (ps.map vS) :: own = o ∧ Fle F G ∧ ps.length = j ∧ RegR G ps (fun j => powL (l.getD j z0P) l.length) ∧ j ≤ l.length)
    ⟨_, _, _, _, ⟨0, .slice none 0 0, [], rfl, rfl, rfl, Fle.refl _, rfl, fun r hr => absurd hr (by simp), by omega⟩, ⟨rfl, rfl, rfl, rfl, rfl, trivial⟩, Turn.nil 42 1⟩ ?_
  rintro _ _ _ G b ⟨j, cv, ps, rfl, rfl, rfl, hG, hpl, hps, hj⟩
  have hl' := RowS.le hl hG
  by_cases hjl : j < l.length
  · have hp := hin _ (getD_mem (z := z0P) hjl)
    obtain ⟨p1, p2, p3, p4⟩ : -16 ≤ (l.getD j z0P).A ∧ (l.getD j z0P).A ≤ 16 ∧ -16 ≤ (l.getD j z0P).B ∧ (l.getD j z0P).B ≤ 16 := hp
    refine go ?_
    intro r6
    refine go ?_
    refine o_pu rfl (powers98 (F := G) ⟨p1, p2⟩ ⟨p3, p4⟩ h1 (by omega)) (fun u F3 hF3 ⟨v', e, hv'⟩ => ?_) sl
    obtain ⟨qn, e2, hqn⟩ := hv'.sz
    subst e e2
    refine go ?_
    refine o_lit rfl rfl rfl rfl rfl (fun rl => ?_)
    refine o_app1 1 rfl rfl rfl rfl rfl rfl rfl (by omega) (by omega) (fun _ => rfl) (fun A' c' => ?_)
    refine go ?_
    exact ⟨_, _, _, _, ⟨j + 1, .slice A' (ps.length + 1) c', ps ++ [qn], rfl, rfl, rfl, hG.trans hF3, by simp [hpl], fun r hr => by
      rw [getD_snoc]
      by_cases h : r < ps.length
      · rw [if_pos h]; exact (hps r h).le hF3
      · have : r = ps.length := by simp at hr; omega
        rw [if_neg h, if_pos this, this, hpl]; exact hqn, by omega⟩, ⟨rfl, rfl, rfl, rfl, eqI (by omega), trivial⟩, by simp only [List.length_append, List.map_append, List.length_singleton, List.map_cons, List.map_nil]; exact Turn.drop, rfl, by omega⟩
  · obtain rfl : j = l.length := by omega
    refine c_iceM (l := ps) (f := vS) z0S 0 rfl (fun hR => ?_)
    refine go ?_
    exact b_ret rfl (.cons (.tmp rfl) (.cons (.tmp rfl) .nil)) (Turn.refl _ _) ⟨rfl, hG.trans (Fz.add_le _ _), _, rfl, ps, hR, hpl, hps.le (Fz.add_le _ _)⟩
end Go.Proofs.YthkoodpnepfijaaGreatDoor
/- YB: WALKS: eval.units. -/
namespace Go.Proofs.YthkoodpnepfijaaGreatDoor
open Go.RowKit
set_option linter.unusedVariables false
set_option linter.unusedSimpArgs false
set_option maxRecDepth 100000
set_option maxHeartbeats 1000000
theorem unit_row {F : Fz} {n j rz : Nat} {q : IZ} (hj : j < n) (hq : IntR F (.agg (vIz q).toArray) 1) : RowI (F.add (.c rz (((List.replicate n z0Z).set j q).flatMap vIz))) (vS ⟨some ⟨rz, 0, none⟩, n, n⟩) (unitL n j) := by
  have hR := rowS_ice (F := F) (r := rz) (c := n) z0Z vIz_len (l := (List.replicate n z0Z).set j q) (m := n) (by simp) (Nat.le_refl _)
  refine ⟨_, hR, by simp [unitL], fun i hi => ?_⟩
  have hin : i < n := by simpa [unitL] using hi
  unfold unitL
  rw [getD_map_range (fun i => if i = j then (1 : Int) else 0) hin]
  rw [List.getD_eq_getElem?_getD, List.getElem?_set]
  by_cases h : i = j
  · subst h
    rw [if_pos rfl, if_pos rfl, List.length_replicate, if_pos hj]
    exact hq.le (Fz.add_le _ _)
  · rw [if_neg (fun e => h e.symm), if_neg h, List.getElem?_replicate, if_pos hin]
    exact IntR.zero _
theorem units97 {F : Fz} {k : Nat} (h1 : 1 ≤ k) (hk : k ≤ 4096) : Pu 97 [.int .i64 (k : Nat)] F fun u F' => RowsR F' u k fun j => unitL k j := fun own => by
  refine n_fun Tryz.func97 Tryz.ntmps97 rfl rfl rfl ?_
  refine go ?_
  refine c_loopT (fun m X o G => ∃ (j : Nat) (cv : Value) (ps : List SZ), m = k - j ∧ X = [(0, .int .i64 (k : Nat)), (3, cv), (6, .int .i64 (k : Nat)), (7, .int .i64 (j : Nat))] ∧ .g cv 42 1 ps.length (ps.map vS) :: own = o ∧ Fle F G ∧ ps.length = j ∧ RegR G ps (fun j => unitL k j) ∧ j ≤ k)
    ⟨_, _, _, _, ⟨0, .slice none 0 0, [], rfl, rfl, rfl, Fle.refl _, rfl, fun r hr => absurd hr (by simp), by omega⟩, ⟨rfl, rfl, rfl, rfl, trivial⟩, Turn.nil 42 1⟩ ?_
  rintro _ _ _ G b ⟨j, cv, ps, rfl, rfl, rfl, hG, hpl, hps, hj⟩
  by_cases hjl : j < k
  · refine go ?_
    refine o_make k rfl rfl ?_ ?_ (fun rz => ?_)
    · omega
    · omega
    rw [rep_two]
    refine go ?_
    refine o_pu rfl (Of22 (by omega) (by omega)) (fun u F1 hF1 h1 => ?_) sl
    obtain ⟨q, e, hq⟩ := h1.iz
    subst e
    refine go ?_
    refine o_staN rfl inferInstance rfl rfl rfl get0 (by rw [setL_flat vIz_len q (by simpa using hjl)]; rfl) (by rw [flat_len vIz_len, List.length_replicate]; show j * 2 + 2 ≤ k * 2; omega) sl .text ?_
    refine o_turn Turn.ice ?_
    have hrow := unit_row (F := F1) (rz := rz) hjl hq
    refine go ?_
    refine o_lit rfl rfl rfl rfl rfl (fun rl => ?_)
    refine o_app1 0 rfl rfl rfl rfl rfl rfl rfl (by omega) (by omega) (fun _ => rfl) (fun A' c' => ?_)
    refine go ?_
    exact ⟨_, _, _, _, ⟨j + 1, .slice A' (ps.length + 1) c', ps ++ [⟨some ⟨rz, 0, none⟩, k, k⟩], rfl, rfl, rfl, hG.trans (hF1.trans (Fz.add_le _ (.c rz (((List.replicate k z0Z).set j q).flatMap vIz)))), by simp [hpl], fun r hr => by
      rw [getD_snoc]
      by_cases h : r < ps.length
      · rw [if_pos h]; exact (hps r h).le (hF1.trans (Fz.add_le _ _))
      · have : r = ps.length := by simp at hr; omega
        rw [if_neg h, if_pos this, this, hpl]; exact hrow, by omega⟩, ⟨rfl, rfl, rfl, eqI (by omega), trivial⟩, by simp only [List.length_append, List.map_append, List.length_singleton, List.map_cons, List.map_nil]; exact Turn.refl _ _, rfl, by omega⟩
  · obtain rfl : j = k := by omega
    refine c_iceM (l := ps) (f := vS) z0S 0 rfl (fun hR => ?_)
    refine go ?_
    exact b_ret rfl (.cons (.tmp rfl) .nil) (Turn.refl _ _) ⟨rfl, hG.trans (Fz.add_le _ _), ps, hR, hpl, hps.le (Fz.add_le _ _)⟩
end Go.Proofs.YthkoodpnepfijaaGreatDoor
/- YC: WALKS: synth.Interpolates. -/
namespace Go.Proofs.YthkoodpnepfijaaGreatDoor
open Go.RowKit
set_option linter.unusedVariables false
set_option linter.unusedSimpArgs false
set_option maxRecDepth 100000
set_option maxHeartbeats 1000000
/-- A column of the grid; of the unit. -/
def colG (l : List Pnt) (n i : Nat) : List Int := (List.range l.length).map fun r => (powL (l.getD r z0P) n).getD i 0
theorem RegR.congr {F : Fz} {qs : List SZ} {R R' : Nat → List Int} (h : RegR F qs R) (e : ∀ r, r < qs.length → R r = R' r) : RegR F qs R' := fun r hr => by rw [← e r hr]; exact h r hr
theorem unitL_get {n i j : Nat} (h : i < n) : (unitL n j).getD i 0 = if i = j then 1 else 0 := getD_map_range (fun i => if i = j then (1 : Int) else 0) h
theorem unit_bnd (n j : Nat) : Bnd 100 (unitL n j) := fun z hz => by
  obtain ⟨i, _, rfl⟩ := List.mem_map.1 hz
  split <;> decide +kernel
theorem powL_len (p : Pnt) (n : Nat) : (powL p n).length = n := by simp [powL]
theorem powL_get {p : Pnt} {n i : Nat} (h : i < n) : (powL p n).getD i 0 = p.A ^ i * p.B ^ (n - 1 - i) := getD_map_range (fun i => p.A ^ i * p.B ^ (n - 1 - i)) h
theorem powL_lt {p : Pnt} {n i : Nat} (hA : -16 ≤ p.A ∧ p.A ≤ 16) (hB : -16 ≤ p.B ∧ p.B ≤ 16) (hn : n ≤ 16) (h : i < n) : ((powL p n).getD i 0).natAbs < 2 ^ 400 := by
  rw [powL_get h, Int.natAbs_mul]
  have h1 := pow_sm hA (i := i) (by omega)
  have h2 := pow_sm hB (i := n - 1 - i) (by omega)
  have h3 := Nat.mul_lt_mul'' h1 h2
  rw [← Nat.pow_add, show 200 + 200 = 400 from rfl] at h3
  exact h3
theorem bnd_up {z k m : Nat} (h : z < 2 ^ k) (hm : k ≤ m) : z < 2 ^ m := Nat.lt_of_lt_of_le h (Nat.pow_le_pow_right (by decide) hm)
theorem colG_len (l : List Pnt) (n i : Nat) : (colG l n i).length = l.length := by simp [colG]
theorem colG_row {l : List Pnt} {n r : Nat} (h : r < l.length) : powL (l.getD r z0P) n = rw_ n (fun i => rg0 (colG l n i)) (r : Nat) := by
  refine list_eqI (by rw [powL_len, rw_len]) fun i hi => ?_
  rw [powL_len] at hi
  rw [rw_get _ _ hi]
  unfold rg0
  rw [if_pos (by omega), Int.toNat_natCast]
  exact (getD_map_range (fun r => (powL (l.getD r z0P) n).getD i 0) h).symm
theorem colG_bnd {l : List Pnt} {i : Nat} (hR : RightQ l) (hi : i < l.length) : ∀ x ∈ colG l l.length i, x.natAbs < 2 ^ 400 := fun x hx => by
  obtain ⟨r, hr, rfl⟩ := List.mem_map.1 hx
  have hp := hR.inp _ (getD_mem (z := z0P) (List.mem_range.1 hr))
  obtain ⟨p1, p2, p3, p4⟩ : -16 ≤ (l.getD r z0P).A ∧ (l.getD r z0P).A ≤ 16 ∧ -16 ≤ (l.getD r z0P).B ∧ (l.getD r z0P).B ≤ 16 := hp
  have := hR.len15
  exact powL_lt ⟨p1, p2⟩ ⟨p3, p4⟩ (by omega) hi
theorem unit_sym {n j : Nat} (h : j < n) : ((List.range n).map fun i => (unitL n i).getD j 0) = unitL n j := by
  refine List.map_congr_left fun i hi => ?_
  rw [unitL_get h]
  by_cases e : i = j
  · rw [if_pos e, if_pos e.symm]
  · rw [if_neg e, if_neg (fun h => e h.symm)]
theorem interpolates60 {F : Fz} {p : Prg} {cv ov v : Value} {l : List Pnt} (hP : PrR F cv ov p) (hok : p.ok) (hl : PtsR F v l) (hR : RightQ l) (hins : p.ins = l.length) (houts : p.outs.length = l.length) (hr : ∀ i, i < l.length → Runs p (colG l l.length i) (unitL l.length i)) :
    Pu 60 [vPr p cv ov, v] F fun u F' => u = .tuple #[.bool true, .int .i64 0] := fun own => by
  obtain ⟨A1, c1, A2, c2, e1, e2, hP⟩ := hP.sl
  obtain ⟨A, c, e⟩ := hl.dest
  subst e1 e2 e
  have n1 := hR.len
  have n2 := hR.len15
  refine n_fun Tryz.func60 Tryz.ntmps60 rfl rfl rfl ?_
  refine go ?_
  intro r2
  refine go ?_
  refine o_pu rfl (grid100 hl hR hR.inp n1 n2) (fun u F1 hF1 ⟨v1, e, hg⟩ => ?_) sl
  subst e
  have hl1 := RowS.le hl hF1
  obtain ⟨qg, hqg, hqgl, hqgr⟩ := hg
  obtain ⟨Ag, cg, e⟩ := hqg.dest
  subst e
  refine go ?_
  refine o_pu rfl (check28 (hP.le hF1) hok) (fun v G1 hG1 e => ?_) sl
  subst e
  have hP1 := (hP.le hF1).le hG1
  have hO1 := hP1.outs
  have hl2 := RowS.le hl1 hG1
  refine go ?_
  have hrows := rows96 (n := l.length) (k := 400) (L := fun i => colG l l.length i) (O := fun i => unitL l.length i) hP1 hok n1 (by omega) (by omega) (by omega) (fun i hi => by rw [colG_len, hins]) (fun i hi => colG_bnd hR hi) (⟨qg, hqg.le hG1, by rw [hqgl, hins]; omega, (hqgr.le hG1).congr fun r hr => colG_row (by omega)⟩ : RowsR G1 (.slice Ag qg.length cg) p.ins.toNat fun r => rw_ l.length (fun i => rg0 (colG l l.length i)) r) hr
  refine o_pu rfl hrows (fun u F3 hF3 ⟨v3, e, hg3⟩ => ?_) sl
  subst e
  obtain ⟨qo, hqo, hqol, hqor⟩ := hg3
  obtain ⟨Ao, co, e⟩ := hqo.dest
  subst e
  have hl3 := RowS.le hl2 hF3
  refine go ?_
  refine c_loopT (fun m X o G => ∃ j : Nat, m = qo.length - j ∧ X = [(1, .slice A l.length c), (52, .slice Ao qo.length co), (53, .int .i64 (qo.length : Nat)), (54, .int .i64 (j : Nat))] ∧ .c r2 [.int .i64 p.ins, .int .i64 p.regs, .slice A1 p.code.length c1, .slice A2 p.outs.length c2] :: own = o ∧ Fle F3 G ∧ j ≤ qo.length)
    ⟨_, _, _, _, ⟨0, rfl, rfl, rfl, Fle.refl _, by omega⟩, ⟨rfl, rfl, rfl, rfl, trivial⟩, Turn.refl _ _⟩ ?_
  rintro _ _ _ G b ⟨j, rfl, rfl, rfl, hG, hj⟩
  have hqo' := RowM.le hqo hG
  have hl4 := RowS.le hl3 hG
  by_cases hjl : j < qo.length
  · have hrow : RowI G (vS (qo.getD j z0S)) ((List.range l.length).map fun i => (unitL l.length i).getD j 0) := (hqor j hjl).le hG
    rw [unit_sym (by omega)] at hrow
    refine go ?_
    refine o_pu rfl (unit101 (n := l.length) (j := j) (by omega) (by omega)) (fun u F4 hF4 ⟨v4, e, hu4⟩ => ?_) sl
    obtain ⟨qn, e2, hqn⟩ := hu4.sz
    subst e e2
    refine go ?_
    refine o_pu rfl (same102 (k := 100) (hrow.le hF4) hqn (by simp [unitL]; omega) (unit_bnd _ _) (by omega)) (fun u F5 hF5 e => ?_) sl
    subst e
    refine go ?_
    exact ⟨_, _, _, _, ⟨j + 1, rfl, rfl, rfl, (hG.trans hF4).trans hF5, by omega⟩, ⟨rfl, rfl, rfl, eqI (by omega), trivial⟩, Turn.refl _ _, rfl, by omega⟩
  · obtain rfl : j = qo.length := by omega
    refine go ?_
    exact b_ret rfl (.cons (.tmp rfl) (.cons (.tmp rfl) .nil)) Turn.drop ⟨rfl, ((hF1.trans hG1).trans hF3).trans hG, rfl⟩
end Go.Proofs.YthkoodpnepfijaaGreatDoor
/- YD: WALKS: eval.Evaluates. -/
namespace Go.Proofs.YthkoodpnepfijaaGreatDoor
open Go.RowKit
set_option linter.unusedVariables false
set_option linter.unusedSimpArgs false
set_option maxRecDepth 100000
set_option maxHeartbeats 1000000
/-- What the values are at the points, of the i-th unit. -/
def outE (l : List Pnt) (k i : Nat) : List Int := l.map fun q => (powL q k).getD i 0
theorem outE_get {l : List Pnt} {k i j : Nat} (h : j < l.length) : (outE l k i).getD j 0 = (powL (l.getD j z0P) k).getD i 0 := by
  unfold outE
  simp [List.getD_eq_getElem?_getD, h]
theorem outE_row {l : List Pnt} {k j : Nat} (h : j < l.length) : ((List.range k).map fun i => (outE l k i).getD j 0) = powL (l.getD j z0P) k := by
  refine list_eqI (by rw [powL_len]; simp) fun i hi => ?_
  have hi : i < k := by simpa using hi
  rw [getD_map_range (fun i => (outE l k i).getD j 0) hi, outE_get h]
theorem unit_reg {k r : Nat} (h : r < k) : unitL k r = rw_ k (fun i => rg0 (unitL k i)) (r : Nat) := by
  refine list_eqI (by rw [rw_len]; simp [unitL]) fun i hi => ?_
  have hi : i < k := by simpa [unitL] using hi
  rw [rw_get _ _ hi, unitL_get hi]
  have e2 : rg0 (unitL k i) (r : Nat) = if r = i then 1 else 0 := by unfold rg0; rw [if_pos (Int.natCast_nonneg r), Int.toNat_natCast, unitL_get h]
  rw [e2]
  by_cases e : i = r
  · rw [if_pos e, if_pos e.symm]
  · rw [if_neg e, if_neg (fun h => e h.symm)]
theorem evaluates57 {F : Fz} (hGl : Gl F) {p : Prg} {cv ov v : Value} {l : List Pnt} {k : Nat} (hP : PrR F cv ov p) (hok : p.ok) (hl : PtsR F v l) (hin : ∀ p ∈ l, InP p) (n1 : 1 ≤ l.length) (n2 : l.length ≤ 15) (k1 : 1 ≤ k) (k8 : k ≤ 8) (hnd : NoDiv p) (hins : p.ins = k) (houts : p.outs.length = l.length)
    (hr : ∀ i, i < k → Runs p (unitL k i) (outE l k i)) : Pu 57 [vPr p cv ov, .int .i64 (k : Nat), v] F fun u F' => u = .tuple #[.bool true, .int .i64 0] := fun own => by
  obtain ⟨A1, c1, A2, c2, e1, e2, hP⟩ := hP.sl
  obtain ⟨A, c, e⟩ := hl.dest
  subst e1 e2 e
  have o4 := hok.len
  refine n_fun Tryz.func57 Tryz.ntmps57 rfl rfl rfl ?_
  refine go ?_
  intro r3
  refine go ?_
  refine o_ps rfl (points43 hl (by omega)) (fun u ⟨t, e, ht⟩ => ?_) sl
  subst e
  obtain rfl : t = true := ht.2 ⟨hin, n1, n2⟩
  refine go ?_
  refine o_pu rfl (check28 hP hok) (fun v G1 hG1 e => ?_) sl
  subst e
  have hP1 := hP.le hG1
  have hO1 := hP1.outs
  have hC1 := hP1.code
  have hl1 := RowS.le hl hG1
  refine go ?_
  refine c_loopT (fun m X o G => ∃ j : Nat, m = p.code.length - j ∧ X = [(1, .int .i64 (k : Nat)), (2, .slice A l.length c), (3, .pointer (some ⟨r3, 0, none⟩)), (52, .slice A1 p.code.length c1), (53, .int .i64 (p.code.length : Nat)), (54, .int .i64 (j : Nat))] ∧ .c r3 [.int .i64 p.ins, .int .i64 p.regs, .slice A1 p.code.length c1, .slice A2 p.outs.length c2] :: own = o ∧ G1 = G ∧ j ≤ p.code.length)
    ⟨_, _, _, _, ⟨0, rfl, rfl, rfl, rfl, by omega⟩, ⟨rfl, rfl, rfl, rfl, rfl, rfl, trivial⟩, Turn.refl _ _⟩ ?_
  rintro _ _ _ _ b ⟨j, rfl, rfl, rfl, rfl, hj⟩
  by_cases hjl : j < p.code.length
  · obtain ⟨d1, d2⟩ := hnd _ (getD_mem (z := z0I) hjl)
    refine go ?_
    intro r11
    refine go ?_
    exact ⟨_, _, _, _, ⟨j + 1, rfl, rfl, rfl, rfl, by omega⟩, ⟨rfl, rfl, rfl, rfl, rfl, eqI (by omega), trivial⟩, Turn.drop, rfl, by omega⟩
  · obtain rfl : j = p.code.length := by omega
    refine goT ?_
    refine c_drwoW [0, 1, 2, 3, 4, 5, 6, 7, 8, 9, 10] [.c r3 [.int .i64 p.ins, .int .i64 p.regs, .slice A1 p.code.length c1, .slice A2 p.outs.length c2]] (by kernel_rfl) (by simp only [List.map_cons, List.map_nil, getD_lit, List.getD_cons_zero, List.getD_cons_succ]; exact rfl) ?_
    refine go ?_
    refine o_pu rfl (units97 k1 (by omega)) (fun u F2 hF2 hu => ?_) sl
    obtain ⟨qu, hqu, hqul, hqur⟩ := hu
    obtain ⟨Au, cu, e⟩ := hqu.dest
    subst e
    refine go ?_
    have hrows := rows96 (n := k) (k := 400) (L := fun i => unitL k i) (O := fun i => outE l k i) (hP1.le hF2) hok k1 (by omega) (by omega) (by omega) (fun i hi => by rw [hins]; simp [unitL]) (fun i hi x hx => bnd_up (k := 100) (m := 400) (unit_bnd k i x hx) (by decide)) (⟨qu, hqu, by rw [hqul, hins]; omega, hqur.congr fun r hr => unit_reg (by omega)⟩ : RowsR F2 (.slice Au qu.length cu) p.ins.toNat fun r => rw_ k (fun i => rg0 (unitL k i)) r) hr
    refine o_pu rfl hrows (fun u F3 hF3 ⟨v3, e, hg3⟩ => ?_) sl
    subst e
    obtain ⟨qo, hqo, hqol, hqor⟩ := hg3
    obtain ⟨Ao, co, e⟩ := hqo.dest
    subst e
    have hl3 := (RowS.le hl1 hF2).le hF3
    refine go ?_
    refine c_loopT (fun m X o G => ∃ j : Nat, m = l.length - j ∧ X = [(1, .int .i64 (k : Nat)), (12, .slice Ao qo.length co), (77, .slice A l.length c), (78, .int .i64 (l.length : Nat)), (79, .int .i64 (j : Nat))] ∧ .c r3 [.int .i64 p.ins, .int .i64 p.regs, .slice A1 p.code.length c1, .slice A2 p.outs.length c2] :: own = o ∧ Fle F3 G ∧ j ≤ l.length)
      ⟨_, _, _, _, ⟨0, rfl, rfl, rfl, Fle.refl _, by omega⟩, ⟨rfl, rfl, rfl, rfl, rfl, trivial⟩, Turn.refl _ _⟩ ?_
    rintro _ _ _ G b ⟨j, rfl, rfl, rfl, hG, hj⟩
    have hl4 := RowS.le hl3 hG
    by_cases hjl : j < l.length
    · have hp := hin _ (getD_mem (z := z0P) hjl)
      obtain ⟨p1, p2, p3, p4⟩ : -16 ≤ (l.getD j z0P).A ∧ (l.getD j z0P).A ≤ 16 ∧ -16 ≤ (l.getD j z0P).B ∧ (l.getD j z0P).B ≤ 16 := hp
      have hjo : j < qo.length := by omega
      have hrow : RowI G (vS (qo.getD j z0S)) ((List.range k).map fun i => (outE l k i).getD j 0) := (hqor j hjo).le hG
      rw [outE_row hjl] at hrow
      refine go ?_
      intro r15
      refine go ?_
      refine o_pu rfl (powers98 (F := G) ⟨p1, p2⟩ ⟨p3, p4⟩ k1 (by omega)) (fun u F4 hF4 ⟨v4, e, hv4⟩ => ?_) sl
      subst e
      have hqo4 := (RowM.le hqo hG).le hF4
      have hrow4 := hrow.le hF4
      obtain ⟨ms, hms, hmz⟩ := hv4
      obtain ⟨Am, cm, e⟩ := hms.dest
      subst e
      obtain ⟨ls, hls, hlz⟩ := hrow4
      obtain ⟨Al, cl, el⟩ := hls.dest
      have hml : ms.length = k := by rw [hmz.1, powL_len]
      have hll : ls.length = k := by rw [hlz.1, powL_len]
      obtain ⟨qq, hqq⟩ : ∃ qq, qo.getD j z0S = qq := ⟨_, rfl⟩
      rw [hqq] at el hls
      obtain ⟨Aq, mq, cq⟩ := qq
      cases el
      refine go ?_
      rw [hqq]
      refine c_loopT (fun m X o G' => ∃ i : Nat, m = ls.length - i ∧ X = [(1, .int .i64 (k : Nat)), (12, .slice Ao qo.length co), (16, .slice Am ms.length cm), (77, .slice A l.length c), (78, .int .i64 (l.length : Nat)), (79, .int .i64 (j : Nat)), (93, .slice Aq ls.length cq), (94, .int .i64 (ls.length : Nat)), (95, .int .i64 (i : Nat))] ∧ .c r15 (vPt (l.getD j z0P)) :: .c r3 [.int .i64 p.ins, .int .i64 p.regs, .slice A1 p.code.length c1, .slice A2 p.outs.length c2] :: own = o ∧ Fle F4 G' ∧ i ≤ ls.length)
        ⟨_, _, _, _, ⟨0, rfl, rfl, rfl, Fle.refl _, by omega⟩, ⟨rfl, rfl, rfl, rfl, rfl, rfl, rfl, rfl, rfl, trivial⟩, Turn.refl _ _⟩ ?_
      rintro _ _ _ G' b ⟨i, rfl, rfl, rfl, hG', hi⟩
      have hls' : RowS G' (.slice Aq ls.length cq) vIz 2 z0Z ls := RowS.le hls hG'
      have hms' := RowS.le hms hG'
      by_cases hil : i < ls.length
      · have him : i < ms.length := by omega
        have ha := (hlz.2 i (by rw [powL_len]; omega)).le hG'
        have hb := (hmz.2 i (by rw [powL_len]; omega)).le hG'
        have hbd := powL_lt (p := l.getD j z0P) (n := k) (i := i) ⟨p1, p2⟩ ⟨p3, p4⟩ (by omega) (by omega)
        refine goT ?_
        intro r19
        refine goT ?_
        refine c_drww [.c r19 (vIz (ls.getD i z0Z))] sl rfl (by decide +kernel) ?_
        refine go ?_
        refine o_pu rfl (cmp99 (k := 400) ha hb hbd hbd (by omega)) (fun u F5 hF5 e => ?_) sl
        rw [sgnI_self] at e
        subst e
        refine go ?_
        exact ⟨_, _, _, _, ⟨i + 1, rfl, rfl, rfl, hG'.trans hF5, by omega⟩, ⟨rfl, rfl, rfl, rfl, rfl, rfl, rfl, rfl, eqI (by omega), trivial⟩, Turn.drop, rfl, by omega⟩
      · obtain rfl : i = ls.length := by omega
        refine go ?_
        exact ⟨_, _, _, _, ⟨j + 1, rfl, rfl, rfl, (hG.trans hF4).trans hG', by omega⟩, ⟨rfl, rfl, rfl, rfl, eqI (by omega), trivial⟩, Turn.drop, rfl, by omega⟩
    · obtain rfl : j = l.length := by omega
      refine go ?_
      exact b_ret rfl (.cons (.tmp rfl) (.cons (.tmp rfl) .nil)) Turn.drop ⟨rfl, ((hG1.trans hF2).trans hF3).trans hG, rfl⟩
end Go.Proofs.YthkoodpnepfijaaGreatDoor
/- YE: WALKS: scheme: Clone of points, IndexFunc, ContainsFunc of None. -/
namespace Go.Proofs.YthkoodpnepfijaaGreatDoor
open Go.RowKit
set_option linter.unusedVariables false
set_option linter.unusedSimpArgs false
set_option maxRecDepth 100000
set_option maxHeartbeats 1000000
theorem vPt_one : ∀ l : List Pnt, (l.flatMap vPt).all One = true
  | [] => rfl
  | a :: l => by rw [List.flatMap_cons, List.all_append, vPt_one l]; rfl
theorem clone25 {F : Fz} {v : Value} {l : List Pnt} (hl : PtsR F v l) (hlen : l.length ≤ 1000000) : Pu 25 [v] F fun u F' => PtsR F' u l := fun own => by
  refine n_fun Tryz.func25 Tryz.ntmps25 rfl rfl rfl ?_
  have hl' := hl
  obtain ⟨A, c, rfl, h2, h3⟩ := hl
  rw [List.length_map] at h2 ⊢
  cases A with
  | none =>
    have hnil : l = [] := by
      cases l with
      | nil => rfl
      | cons i l => obtain ⟨_, B, e, _⟩ := h3 0 (vPt i) rfl; cases e
    subst hnil
    refine go ?_
    refine o_eqnil true rfl (by decide +kernel) rfl rfl ?_
    refine go ?_
    exact b_ret rfl (.cons (.tmp rfl) .nil) (Turn.refl _ _) ⟨rfl, Fle.refl _, none, 0, rfl, Nat.le_refl _, fun i us h => by simp at h⟩
  | some A =>
    have hcs : ∀ i u, (l.map vPt).flatten[i]? = some u → F (A.add (0 * 2 + i)) u := rowsCells (m := 0) (c := 0) (fun i us hu => by
      obtain ⟨q, B, e, hB⟩ := h3 i us hu
      cases e
      rw [Nat.zero_add]
      exact ⟨q, hB⟩)
    refine go ?_
    refine o_eqnil false rfl (by decide +kernel) rfl rfl ?_
    refine go ?_
    refine o_litg (fun r => ?_)
    refine go ?_
    refine o_append (t' := 0) (news := l.flatMap vPt) 0 rfl rfl rfl (flat_len (f := vPt) (s := 2) (fun _ => rfl) l) (fun i u hu => .inl (by rw [List.flatMap_def] at hu; have := hcs i u hu; rwa [Nat.zero_mul, Nat.zero_add] at this)) (vPt_one l) rfl rfl (by omega) (by omega) (fun v' _ => ?_)
    rw [List.set_cons_zero, Nat.zero_add, List.nil_append]
    refine o_iceS (l := l) (f := vPt) z0P 0 rfl (fun _ => rfl) rfl (fun hC => ?_)
    refine go ?_
    exact b_ret rfl (.cons (.tmp rfl) .nil) (Turn.refl _ _) ⟨rfl, Fz.add_le _ _, hC⟩
theorem index73 {F : Fz} {v : Value} {l : List Pnt} (hl : PtsR F v l) (hlen : l.length ≤ 1000000) (hn : ∀ p ∈ l, ¬ (p.A = 0 ∧ p.B = 0)) : Ps 73 [v, .func (.func 41) #[] #[]] F fun u => u = .int .i64 (-1) := fun own => by
  obtain ⟨A, c, e⟩ := hl.dest
  subst e
  refine n_fun Tryz.func73 Tryz.ntmps73 rfl rfl rfl ?_
  refine go ?_
  refine c_loopT (fun m X o G => ∃ j : Nat, m = l.length - j ∧ X = [(0, .slice A l.length c), (1, .func (.func 41) #[] #[]), (7, .int .i64 (l.length : Nat)), (8, .int .i64 (j : Nat))] ∧ own = o ∧ F = G ∧ j ≤ l.length)
    ⟨_, _, _, _, ⟨0, rfl, rfl, rfl, rfl, by omega⟩, ⟨rfl, rfl, rfl, rfl, trivial⟩, Turn.refl _ _⟩ ?_
  rintro _ _ _ _ b ⟨j, rfl, rfl, rfl, rfl, hj⟩
  by_cases hjl : j < l.length
  · have hp := hn _ (getD_mem (z := z0P) hjl)
    refine go ?_
    refine o_callv (us := []) (ws := []) rfl rfl rfl ((none41 (l.getD j z0P)).h trivial F own) (fun v o G ⟨e1, e2, e3⟩ => ⟨_, .text, ?_⟩) (List.Sublist.refl _)
    subst e1 e2 e3
    refine go ?_
    exact ⟨_, _, _, _, ⟨j + 1, rfl, rfl, rfl, rfl, by omega⟩, ⟨rfl, rfl, rfl, eqI (by omega), trivial⟩, Turn.refl _ _, rfl, by omega⟩
  · obtain rfl : j = l.length := by omega
    refine go ?_
    exact b_ret rfl (.cons (.tmp rfl) .nil) (Turn.refl _ _) ⟨rfl, rfl, rfl⟩
theorem contains40 {F : Fz} {v : Value} {l : List Pnt} (hl : PtsR F v l) (hlen : l.length ≤ 1000000) (hn : ∀ p ∈ l, ¬ (p.A = 0 ∧ p.B = 0)) : Ps 40 [v, .func (.func 41) #[] #[]] F fun u => u = .bool false := fun own => by
  obtain ⟨A, c, e⟩ := hl.dest
  subst e
  refine n_fun Tryz.func40 Tryz.ntmps40 rfl rfl rfl ?_
  refine go ?_
  refine o_ps rfl (index73 hl hlen hn) (fun u e => ?_) sl
  subst e
  refine go ?_
  exact b_ret rfl (.cons (.tmp rfl) .nil) (Turn.refl _ _) ⟨rfl, rfl, rfl⟩
end Go.Proofs.YthkoodpnepfijaaGreatDoor
/- YF: WALKS: scheme.New. -/
namespace Go.Proofs.YthkoodpnepfijaaGreatDoor
open Go.RowKit
set_option linter.unusedVariables false
set_option linter.unusedSimpArgs false
set_option maxRecDepth 100000
set_option maxHeartbeats 1000000
theorem new24 {F : Fz} {v : Value} {l : List Pnt} {a b : Nat} (hl : PtsR F v l) (hR : RightQ l) (a1 : 1 ≤ a) (a8 : a ≤ 8) (b1 : 1 ≤ b) (b8 : b ≤ 8) (hab : l.length = a + b - 1) : Pu 24 [.int .i64 (a : Nat), .int .i64 (b : Nat), v] F fun u F' => ∃ r : Nat, u = .tuple #[.pointer (some ⟨r, 0, none⟩), .int .i64 0] := fun own => by
  obtain ⟨A, c, e⟩ := hl.dest
  subst e
  have n2 := hR.len15
  have hnn : ∀ p ∈ l, ¬ (p.A = 0 ∧ p.B = 0) := hR.notp
  refine n_fun Tryz.func24 Tryz.ntmps24 rfl rfl rfl ?_
  refine go ?_
  refine c_loopT (fun m X o G => ∃ j : Nat, m = l.length - j ∧ X = [(0, .int .i64 (a : Nat)), (1, .int .i64 (b : Nat)), (2, .slice A l.length c), (21, .slice A l.length c), (22, .int .i64 (l.length : Nat)), (23, .int .i64 (j : Nat))] ∧ own = o ∧ F = G ∧ j ≤ l.length)
    ⟨_, _, _, _, ⟨0, rfl, rfl, rfl, rfl, by omega⟩, ⟨rfl, rfl, rfl, rfl, rfl, rfl, trivial⟩, Turn.refl _ _⟩ ?_
  rintro _ _ _ _ b' ⟨j, rfl, rfl, rfl, rfl, hj⟩
  by_cases hjl : j < l.length
  · have hp := hR.inp _ (getD_mem (z := z0P) hjl)
    obtain ⟨p1, p2, p3, p4⟩ : -16 ≤ (l.getD j z0P).A ∧ (l.getD j z0P).A ≤ 16 ∧ -16 ≤ (l.getD j z0P).B ∧ (l.getD j z0P).B ≤ 16 := hp
    refine go ?_
    intro r9
    refine go ?_
    exact ⟨_, _, _, _, ⟨j + 1, rfl, rfl, rfl, rfl, by omega⟩, ⟨rfl, rfl, rfl, rfl, rfl, eqI (by omega), trivial⟩, Turn.drop, rfl, by omega⟩
  · obtain rfl : j = l.length := by omega
    refine go ?_
    refine o_ps rfl (contains40 hl (by omega) hnn) (fun u e => ?_) sl
    subst e
    refine go ?_
    refine o_ps rfl (twins42 hl hR.inp (by omega)) (fun u ⟨i, j, t, e, ht⟩ => ?_) sl
    subst e
    obtain rfl : t = false := by
      cases t with
      | false => rfl
      | true => exact absurd (ht.1 rfl) hR.twin
    refine go ?_
    refine o_pu rfl (clone25 hl (by omega)) (fun v2 F3 hF3 h2 => ?_) sl
    obtain ⟨A2, c2, e2⟩ := h2.dest
    subst e2
    refine go ?_
    intro r
    refine go ?_
    exact b_ret rfl (.cons (.tmp rfl) (.cons (.tmp rfl) .nil)) Turn.drop ⟨rfl, hF3, r, rfl⟩
end Go.Proofs.YthkoodpnepfijaaGreatDoor
/- YG: WALKS: check: programs, the parts. -/
namespace Go.Proofs.YthkoodpnepfijaaGreatDoor
open Go.RowKit
set_option linter.unusedVariables false
set_option linter.unusedSimpArgs false
set_option maxRecDepth 100000
set_option maxHeartbeats 1000000
theorem parts56 {F : Fz} (hGl : Gl F) {A : Addr} {p : Prg} {cv ov v : Value} {l : List Pnt} {a : Nat} {rest : List Value} {b : Int} (hA : Cs F A ([.int .i64 (a : Nat), .int .i64 b, v] ++ rest)) (hP : PrR F cv ov p) (hok : p.ok) (hl : PtsR F v l) (hR : RightQ l) (a1 : 1 ≤ a) (a8 : a ≤ 8) (hnd : NoDiv p) (hins : p.ins = a) (houts : p.outs.length = l.length)
    (hr : ∀ i, i < a → Runs p (unitL a i) (outE l a i)) : Pu 56 [vPr p cv ov, .pointer (some A)] F fun u F' => u = .tuple #[.bool true, .int .i64 0] := fun own => by
  obtain ⟨A1, c1, A2, c2, e1, e2, hP⟩ := hP.sl
  obtain ⟨Al, cl, e⟩ := hl.dest
  subst e1 e2 e
  have h0 : F (A.add 0) (.int .i64 (a : Nat)) := hA 0 _ rfl
  have h2 : F (A.add 2) (.slice Al l.length cl) := hA 2 _ rfl
  refine n_fun Tryz.func56 Tryz.ntmps56 rfl rfl rfl ?_
  refine go ?_
  intro r2
  refine go ?_
  refine o_pu rfl (evaluates57 hGl hP hok hl hR.inp hR.len hR.len15 a1 a8 hnd hins houts hr) (fun u F1 hF1 e => ?_) sl
  subst e
  refine go ?_
  exact b_ret rfl (.cons (.tmp rfl) (.cons (.tmp rfl) .nil)) Turn.drop ⟨rfl, hF1, rfl⟩
theorem parts58 {F : Fz} (hGl : Gl F) {A : Addr} {p : Prg} {cv ov v : Value} {l : List Pnt} {a : Nat} {rest : List Value} {b : Int} (hA : Cs F A ([.int .i64 b, .int .i64 (a : Nat), v] ++ rest)) (hP : PrR F cv ov p) (hok : p.ok) (hl : PtsR F v l) (hR : RightQ l) (a1 : 1 ≤ a) (a8 : a ≤ 8) (hnd : NoDiv p) (hins : p.ins = a) (houts : p.outs.length = l.length)
    (hr : ∀ i, i < a → Runs p (unitL a i) (outE l a i)) : Pu 58 [vPr p cv ov, .pointer (some A)] F fun u F' => u = .tuple #[.bool true, .int .i64 0] := fun own => by
  obtain ⟨A1, c1, A2, c2, e1, e2, hP⟩ := hP.sl
  obtain ⟨Al, cl, e⟩ := hl.dest
  subst e1 e2 e
  have h0 : F (A.add 1) (.int .i64 (a : Nat)) := hA 1 _ rfl
  have h2 : F (A.add 2) (.slice Al l.length cl) := hA 2 _ rfl
  refine n_fun Tryz.func58 Tryz.ntmps58 rfl rfl rfl ?_
  refine go ?_
  intro r2
  refine go ?_
  refine o_pu rfl (evaluates57 hGl hP hok hl hR.inp hR.len hR.len15 a1 a8 hnd hins houts hr) (fun u F1 hF1 e => ?_) sl
  subst e
  refine go ?_
  exact b_ret rfl (.cons (.tmp rfl) (.cons (.tmp rfl) .nil)) Turn.drop ⟨rfl, hF1, rfl⟩
theorem parts59 {F : Fz} {A : Addr} {p : Prg} {cv ov v : Value} {l : List Pnt} {a b : Int} {rest : List Value} (hA : Cs F A ([.int .i64 a, .int .i64 b, v] ++ rest)) (hP : PrR F cv ov p) (hok : p.ok) (hl : PtsR F v l) (hR : RightQ l) (hins : p.ins = l.length) (houts : p.outs.length = l.length)
    (hr : ∀ i, i < l.length → Runs p (colG l l.length i) (unitL l.length i)) : Pu 59 [vPr p cv ov, .pointer (some A)] F fun u F' => u = .tuple #[.bool true, .int .i64 0] := fun own => by
  obtain ⟨A1, c1, A2, c2, e1, e2, hP⟩ := hP.sl
  obtain ⟨Al, cl, e⟩ := hl.dest
  subst e1 e2 e
  have h2 : F (A.add 2) (.slice Al l.length cl) := hA 2 _ rfl
  refine n_fun Tryz.func59 Tryz.ntmps59 rfl rfl rfl ?_
  refine go ?_
  intro r2
  refine go ?_
  refine o_pu rfl (interpolates60 hP hok hl hR hins houts hr) (fun u F1 hF1 e => ?_) sl
  subst e
  refine go ?_
  exact b_ret rfl (.cons (.tmp rfl) (.cons (.tmp rfl) .nil)) Turn.drop ⟨rfl, hF1, rfl⟩
end Go.Proofs.YthkoodpnepfijaaGreatDoor

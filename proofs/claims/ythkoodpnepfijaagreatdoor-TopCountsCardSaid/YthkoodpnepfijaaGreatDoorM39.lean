/-
  Steps towards TopCounts (no conditions of their own): WALKS: Small of a small number; the law's small ones. WALKS: the law's own: list, same, small, points, convolution. WALKS: the law's wakes. WALKS: the law.
-/
import Derived.Test.YthkoodpnepfijaaGreatDoorM38
/- YY: WALKS: Small of a small number; the law's small ones. -/
namespace Go.Proofs.YthkoodpnepfijaaGreatDoor
open Go.RowKit
set_option linter.unusedVariables false
set_option linter.unusedSimpArgs false
set_option maxRecDepth 100000
set_option maxHeartbeats 1000000
section
variable {n : Nat} {ops : Array Oper} {fl : Option (List Nat)} {rest : List Oper} {K : St → Prop} {wk : List Ch} {x : Fr} {b : Nat → Value} {ds : List Deferred} {own : List Ch} {F : Fz}
  {d ty : Nat} {pos : String} {af : Array Edge}
theorem o_negW {a : Operand} {t : Nat} {k : IntKind} {p z : Int} (ha : evS n x a = some (.int k p)) (hz : k.wrap (-p) = z) (h : O n ops fl rest K wk ⟨(d, .int k z) :: x, b, ds, own, F⟩) : O n ops fl (⟨some d, .unOp .neg t a, ty, pos, af, none⟩ :: rest) K wk ⟨x, b, ds, own, F⟩ :=
  o_rd _ rfl (fun B w0 w hw => by
    subst hz
    unfold execOp; simp [evx ha, Op.unary, Op.intArith]) h
end
theorem small23 {F : Fz} {u : Value} {z : Int} (hu : IntR F u z) (hz : z.natAbs < 2147483648) : Ps 23 [u] F fun w => w = .tuple #[.int .i64 z, .bool true] := fun own => by
  obtain ⟨neg, v, l, rfl, hv, ht, e, hp⟩ := hu
  have hza : z.natAbs = num l := by rw [e, sg_abs]
  have hll := len_le (k := 31) ht (by rw [← hza]; exact hz)
  have hl1 : l.length ≤ 1 := by omega
  have hrow := hv.row
  obtain ⟨A, c, e2⟩ := hrow.dest
  subst e2
  have hnum : num l = l.getD 0 0 := by
    match l, hl1 with
    | [], _ => rfl
    | [y], _ => simp [num, numF]
  have hd := hv.d 0
  refine n_fun Tryz.func23 Tryz.ntmps23 rfl rfl rfl ?_
  refine go ?_
  intro r1
  refine go ?_
  refine c_loopT (fun mm X o G => ∃ (i t : Nat), mm = l.length - i ∧ X = [(1, .pointer (some ⟨r1, 0, none⟩)), (4, .int .u64 (t : Nat)), (12, .slice A l.length c), (13, .int .i64 (l.length : Nat)), (14, .int .i64 (i : Nat))] ∧ .c r1 [.bool neg, .slice A l.length c] :: own = o ∧ F = G ∧ (i = 0 → t = 0) ∧ (i = 1 → t = l.getD 0 0) ∧ i ≤ l.length)
    ⟨_, _, _, _, ⟨0, 0, rfl, rfl, rfl, rfl, fun _ => rfl, fun h => absurd h (by decide), by omega⟩, ⟨rfl, rfl, rfl, rfl, rfl, trivial⟩, Turn.refl _ _⟩ ?_
  rintro _ _ _ _ b ⟨i, t, rfl, rfl, rfl, rfl, h0, h1, hi⟩
  by_cases hil : i < l.length
  · obtain rfl : i = 0 := by omega
    obtain rfl := h0 rfl
    clear h0 h1
    have hd0 : 0 ≤ ((l.getD 0 0 : Nat) : Int) := by omega
    refine go ?_
    refine o_shl (q := 0) (z := (l.getD 0 0 : Nat)) rfl rfl (by simp [IntKind.bits]) (by simp [IntKind.wrap, IntKind.signed, IntKind.bits, -List.getD_eq_getElem?_getD]; omega) ?_
    refine o_orS rfl rfl inferInstance inferInstance True.intro True.intro (by decide) hd rfl (by decide) ?_
    refine go ?_
    exact ⟨_, _, _, _, ⟨1, l.getD 0 0, rfl, rfl, rfl, rfl, fun h => absurd h (by decide), fun _ => rfl, by omega⟩, ⟨rfl, eqI (by omega), rfl, rfl, eqI (by omega), trivial⟩, Turn.refl _ _, rfl, by omega⟩
  · have ht : t = num l := by
      rcases (show l.length = 0 ∨ l.length = 1 by omega) with h | h
      · rw [h0 (by omega), hnum, List.getD_eq_getElem?_getD, List.getElem?_eq_none (by omega)]; rfl
      · rw [h1 (by omega), hnum]
    clear h0 h1
    have htl : t < 2147483648 := by omega
    refine go ?_
    cases neg with
    | true =>
      have hp := hp rfl
      refine go ?_
      refine o_negW (z := 18446744073709551616 - (t : Nat)) rfl (by simp [IntKind.wrap, IntKind.signed, IntKind.bits]; omega) ?_
      refine o_conv (y := -(t : Nat)) rfl (by simp [IntKind.wrap, IntKind.signed, IntKind.bits]; omega) ?_
      refine go ?_
      exact b_ret rfl (.cons (.tmp rfl) (.cons (.tmp rfl) .nil)) Turn.drop ⟨rfl, rfl, by rw [e, ht]; rfl⟩
    | false =>
      clear hp
      refine o_gdF rfl rfl rfl rfl ?_
      refine o_gdF rfl rfl rfl rfl ?_
      refine o_pickf rfl rfl ?_
      refine o_assign rfl ?_
      refine o_nil (List.Sublist.refl _) ?_
      refine norm_Thn ?_
      refine c_F rfl rfl ?_
      refine c_seq ?_
      refine c_txt rfl (by kernel_rfl) ?_
      refine o_fa rfl ?_
      refine o_load rfl (rdC 0 rfl rfl) ?_
      refine o_not rfl ?_
      refine o_move rfl ?_
      refine o_gdT rfl rfl rfl rfl ?_
      refine o_move rfl ?_
      refine o_gdT rfl rfl rfl rfl ?_
      refine o_cmp (c := decide ((t : Int) < 9223372036854775808)) rfl rfl rfl ?_
      refine o_pickt rfl rfl ?_
      refine o_assign rfl ?_
      refine o_nil (List.Sublist.refl _) ?_
      refine norm_Thn ?_
      refine c_T rfl (by simp; omega) ?_
      refine c_seq ?_
      refine c_txt rfl (by kernel_rfl) ?_
      refine o_move rfl ?_
      refine o_conv (y := (t : Nat)) rfl (by simp [IntKind.wrap, IntKind.signed, IntKind.bits]; omega) ?_
      refine go ?_
      exact b_ret rfl (.cons (.tmp rfl) (.cons (.tmp rfl) .nil)) Turn.drop ⟨rfl, rfl, by rw [e, ht]; rfl⟩
end Go.Proofs.YthkoodpnepfijaaGreatDoor
/- YZ: WALKS: the law's own: list, same, small, points, convolution. -/
namespace Go.Proofs.YthkoodpnepfijaaGreatDoor
open Go.RowKit
set_option linter.unusedVariables false
set_option linter.unusedSimpArgs false
set_option maxRecDepth 100000
set_option maxHeartbeats 1000000
section
variable {n : Nat} {ops : Array Oper} {fl : Option (List Nat)} {rest : List Oper} {K : St → Prop} {wk : List Ch} {x : Fr} {b : Nat → Value} {ds : List Deferred} {own : List Ch} {F : Fz}
  {d ty : Nat} {pos : String} {af : Array Edge}
/-- A sum that may run over. -/
theorem o_addW {a a' : Operand} {t t' : Nat} {k : IntKind} {p q : Int} (ha : evS n x a = some (.int k p)) (ha' : evS n x a' = some (.int k q)) (h : O n ops fl rest K wk ⟨(d, .int k (k.wrap (p + q))) :: x, b, ds, own, F⟩) : O n ops fl (⟨some d, .binOp .add t a a' t', ty, pos, af, none⟩ :: rest) K wk ⟨x, b, ds, own, F⟩ :=
  o_rd _ rfl (fun B w0 w hw => by
    unfold execOp
    simp [evx ha, evx ha', eqGuard, binOp, Op.intArith, Result.andThen]) h
end
/-- Small enough. -/
def Sml (M : Nat) (l : List Int) : Prop := ∀ z ∈ l, z.natAbs ≤ M
theorem list10 {F : Fz} {v : Value} {l : List Int} (hl : IntsR F v l) (hlen : l.length ≤ 1000000) (hs : Sml 1000000000 l) : Pu 10 [v] F fun w F' => RowI F' w l := fun own => by
  obtain ⟨A, c, e⟩ := hl.dest
  subst e
  refine n_fun Tryz.func10 Tryz.ntmps10 rfl rfl rfl ?_
  refine go ?_
  refine c_loopT (fun m X o G => ∃ (j : Nat) (cv : Value) (ps : List IZ), m = l.length - j ∧ X = [(3, cv), (6, .slice A l.length c), (7, .int .i64 (l.length : Nat)), (8, .int .i64 (j : Nat))] ∧ zC cv ps :: own = o ∧ Fle F G ∧ IzR G ps ((List.range j).map fun i => l.getD i 0) ∧ j ≤ l.length)
    ⟨_, _, _, _, ⟨0, .slice none 0 0, [], rfl, rfl, rfl, Fle.refl _, IzR.nil _, by omega⟩, ⟨rfl, rfl, rfl, rfl, trivial⟩, Turn.nil 70 2⟩ ?_
  rintro _ _ _ G b ⟨j, cv, ps, rfl, rfl, rfl, hG, hps, hj⟩
  have hl' := RowM.le hl hG
  have hpl : ps.length = j := by rw [hps.1]; simp
  by_cases hjl : j < l.length
  · have hz := hs _ (getD_mem (z := 0) hjl)
    refine go ?_
    refine o_pu rfl (Of22 (z := l.getD j 0) (by omega) (by omega)) (fun u F2 hF2 h2 => ?_) sl
    obtain ⟨q, e, hq⟩ := h2.iz
    subst e
    refine go ?_
    refine o_lit rfl rfl rfl rfl rfl (fun rl => ?_)
    refine o_app1 0 rfl rfl rfl rfl rfl rfl rfl (by omega) (by omega) (fun _ => rfl) (fun A' c' => ?_)
    refine go ?_
    exact ⟨_, _, _, _, ⟨j + 1, .slice A' (ps.length + 1) c', ps ++ [q], rfl, rfl, rfl, hG.trans hF2, by rw [range_snoc]; exact (hps.le hF2).snoc hq, by omega⟩, ⟨rfl, rfl, rfl, eqI (by omega), trivial⟩, by rw [← zC_snoc]; exact Turn.refl _ _, rfl, by omega⟩
  · obtain rfl : j = l.length := by omega
    refine c_iceS (f := vIz) (l := ps) z0Z 0 rfl (fun _ => rfl) rfl (fun hcR => ?_)
    refine go ?_
    refine b_ret rfl (.cons (.tmp rfl) .nil) (Turn.refl _ _) ⟨rfl, hG.trans (Fz.add_le _ _), ps, hcR, ?_⟩
    rw [map_of_get (zs := l) rfl (fun i hi => rfl)] at hps
    exact hps.le (Fz.add_le _ _)
theorem same11 {F : Fz} {v w : Value} {zs : List Int} (hx : RowI F v zs) (hy : IntsR F w zs) (hlen : zs.length ≤ 1000000) (hs : Sml 2147483647 zs) : Ps 11 [v, w] F fun u => u = .bool true := fun own => by
  obtain ⟨qs, hS, hZ⟩ := hx
  have hql := hZ.1
  obtain ⟨A, c, rfl⟩ := hS.dest
  obtain ⟨A', c', e⟩ := hy.dest
  subst e
  refine n_fun Tryz.func11 Tryz.ntmps11 rfl rfl rfl ?_
  refine go ?_
  refine c_loopT (fun m X o G => ∃ j : Nat, m = qs.length - j ∧ X = [(0, .slice A qs.length c), (1, .slice A' zs.length c'), (14, .int .i64 (qs.length : Nat)), (15, .int .i64 (j : Nat))] ∧ own = o ∧ F = G ∧ j ≤ qs.length)
    ⟨_, _, _, _, ⟨0, rfl, rfl, rfl, rfl, by omega⟩, ⟨rfl, rfl, rfl, rfl, trivial⟩, Turn.refl _ _⟩ ?_
  rintro _ _ _ _ b ⟨j, rfl, rfl, rfl, rfl, hj⟩
  by_cases hjl : j < qs.length
  · have hjz : j < zs.length := by omega
    have hz := hs _ (getD_mem (z := 0) hjz)
    refine go ?_
    refine o_ps rfl (small23 (hZ.2 j hjz) (by omega)) (fun u e => ?_) sl
    subst e
    refine go ?_
    exact ⟨_, _, _, _, ⟨j + 1, rfl, rfl, rfl, rfl, by omega⟩, ⟨rfl, rfl, rfl, eqI (by omega), trivial⟩, Turn.refl _ _, rfl, by omega⟩
  · obtain rfl : j = qs.length := by omega
    refine go ?_
    exact b_ret rfl (.cons (.tmp rfl) .nil) (Turn.refl _ _) ⟨rfl, rfl, rfl⟩
instance small8 (z : Int) : ScF 8 [.int .i64 z] (.int .i64 (z.tmod 1000)) True := ⟨fun _ F own => by
  refine n_fun Tryz.func8 Tryz.ntmps8 rfl rfl rfl ?_
  refine go ?_
  exact b_ret rfl (.cons (.tmp rfl) .nil) (Turn.refl _ _) ⟨rfl, rfl, rfl⟩⟩
theorem points13 {F : Fz} {v : Value} {l : List Int} {m : Nat} (hl : IntsR F v l) (hm : l.length = 2 * m) (hm1 : m ≤ 100) : Pu 13 [v] F fun w F' => PtsR F' w ((List.range m).map fun j => (⟨l.getD (2 * j) 0, l.getD (2 * j + 1) 0⟩ : Pnt)) := fun own => by
  obtain ⟨A, c, e⟩ := hl.dest
  subst e
  refine n_fun Tryz.func13 Tryz.ntmps13 rfl rfl rfl ?_
  refine go ?_
  refine c_loopT (fun mm X o G => ∃ (j : Nat) (cv : Value) (ps : List Pnt), mm = m - j ∧ X = [(0, .slice A l.length c), (3, cv), (4, .int .i64 ((2 * j : Nat) : Int))] ∧ .g cv 75 2 ps.length (ps.flatMap vPt) :: own = o ∧ F = G ∧ ps = ((List.range j).map fun j => (⟨l.getD (2 * j) 0, l.getD (2 * j + 1) 0⟩ : Pnt)) ∧ j ≤ m)
    ⟨_, _, _, _, ⟨0, .slice none 0 0, [], rfl, rfl, rfl, rfl, rfl, by omega⟩, ⟨rfl, rfl, rfl, trivial⟩, Turn.nil 75 2⟩ ?_
  rintro _ _ _ _ b ⟨j, cv, ps, rfl, rfl, rfl, rfl, hps, hj⟩
  have hpl : ps.length = j := by rw [hps]; simp
  by_cases hjl : j < m
  · refine goT ?_
    refine c_drww [] sl rfl (by decide +kernel) ?_
    refine go ?_
    refine o_lit rfl rfl rfl rfl rfl (fun rl => ?_) sl (fun _ => .keep sl (Fle.refl _))
    refine o_appW 0 rfl rfl rfl rfl rfl rfl rfl (by omega) (by omega) (fun _ => rfl) (fun _ => sl) sl (fun A' c' => ?_)
    refine go ?_
    exact ⟨_, _, _, _, ⟨j + 1, .slice A' (ps.length + 1) c', ps ++ [⟨l.getD (2 * j) 0, l.getD (2 * j + 1) 0⟩], rfl, rfl, rfl, rfl, by rw [hps, List.range_succ, List.map_append]; rfl, by omega⟩, ⟨rfl, rfl, eqI (by omega), trivial⟩, by simp only [List.length_append, List.length_singleton, List.flatMap_append, List.flatMap_cons, List.flatMap_nil, List.append_nil]; exact Turn.refl _ _, rfl, by omega⟩
  · obtain rfl : j = m := by omega
    refine c_iceS (f := vPt) (l := ps) z0P 0 rfl (fun _ => rfl) rfl (fun hcR => ?_)
    refine go ?_
    exact b_ret rfl (.cons (.tmp rfl) .nil) (Turn.refl _ _) ⟨rfl, Fz.add_le _ _, by rw [← hps]; exact hcR⟩
/-- The product of two rows, so far. -/
def cvS (xs ys : List Int) (i k q : Nat) : Int := sm i (fun t => sm ys.length fun u => if t + u = q then xs.getD t 0 * ys.getD u 0 else 0) + sm k (fun u => if i + u = q then xs.getD i 0 * ys.getD u 0 else 0)
theorem cvS_step (xs ys : List Int) (i k q : Nat) : cvS xs ys i (k + 1) q = cvS xs ys i k q + (if i + k = q then xs.getD i 0 * ys.getD k 0 else 0) := by
  unfold cvS
  simp only [sm]
  omega
theorem cvS_next (xs ys : List Int) (i q : Nat) : cvS xs ys i ys.length q = cvS xs ys (i + 1) 0 q := by
  unfold cvS
  simp only [sm]
  omega
theorem Sml.get {M : Nat} {l : List Int} (h : Sml M l) (i : Nat) : (l.getD i 0).natAbs ≤ M := by
  rw [List.getD_eq_getElem?_getD]
  by_cases hi : i < l.length
  · rw [List.getElem?_eq_getElem hi]; exact h _ (List.getElem_mem hi)
  · rw [List.getElem?_eq_none (by omega)]; simp
theorem cvS_le {xs ys : List Int} {M i k q : Nat} (hx : Sml M xs) (hy : Sml M ys) : (cvS xs ys i k q).natAbs ≤ (i * ys.length + k) * (M * M) := by
  have hxy : ∀ t u, (xs.getD t 0 * ys.getD u 0).natAbs ≤ M * M := fun t u => by rw [Int.natAbs_mul]; exact Nat.mul_le_mul (hx.get t) (hy.get u)
  have h1 : (sm i (fun t => sm ys.length fun u => if t + u = q then xs.getD t 0 * ys.getD u 0 else 0)).natAbs ≤ i * (ys.length * (M * M)) := sm_le fun t _ => sm_le fun u _ => by
    split
    · exact hxy t u
    · simp
  have h2 : (sm k (fun u => if i + u = q then xs.getD i 0 * ys.getD u 0 else 0)).natAbs ≤ k * (M * M) := sm_le fun u _ => by
    split
    · exact hxy i u
    · simp
  unfold cvS
  have := Int.natAbs_add_le (sm i (fun t => sm ys.length fun u => if t + u = q then xs.getD t 0 * ys.getD u 0 else 0)) (sm k (fun u => if i + u = q then xs.getD i 0 * ys.getD u 0 else 0))
  have e : (i * ys.length + k) * (M * M) = i * (ys.length * (M * M)) + k * (M * M) := by rw [Nat.add_mul, Nat.mul_assoc]
  omega
theorem cvS_conv (xs ys : List Int) : ((List.range (xs.length + ys.length - 1)).map fun q => cvS xs ys xs.length 0 q) = conv xs ys := by
  unfold conv
  refine List.map_congr_left fun q _ => ?_
  unfold cvS cvF
  simp [sm]
theorem convolution12 {F : Fz} {v w : Value} {xs ys : List Int} (hx : IntsR F v xs) (hy : IntsR F w ys) (x1 : 1 ≤ xs.length) (y1 : 1 ≤ ys.length) (xl : xs.length ≤ 2048) (yl : ys.length ≤ 2048) (sx : Sml 1000 xs) (sy : Sml 1000 ys) : Pu 12 [v, w] F fun u F' => IntsR F' u (conv xs ys) := fun own => by
  obtain ⟨A, c, e⟩ := hx.dest
  obtain ⟨A', c', e'⟩ := hy.dest
  subst e e'
  refine n_fun Tryz.func12 Tryz.ntmps12 rfl rfl rfl ?_
  refine go ?_
  refine o_make (xs.length + ys.length - 1) rfl (by omega) (by omega) (by omega) (fun r5 => ?_)
  rw [rep_one]
  refine go ?_
  refine c_loopT (fun m X o G => ∃ (i : Nat) (ps : List Int), m = xs.length - i ∧ X = [(1, .slice A' ys.length c'), (5, .slice (some ⟨r5, 0, none⟩) (xs.length + ys.length - 1) (xs.length + ys.length - 1)), (25, .slice A xs.length c), (26, .int .i64 (xs.length : Nat)), (27, .int .i64 (i : Nat))] ∧ .c r5 (ps.map vi) :: own = o ∧ F = G ∧ ps.length = xs.length + ys.length - 1 ∧ (∀ q, q < xs.length + ys.length - 1 → ps.getD q 0 = cvS xs ys i 0 q) ∧ i ≤ xs.length)
    ⟨_, _, _, _, ⟨0, List.replicate (xs.length + ys.length - 1) 0, rfl, rfl, by rw [List.map_replicate]; rfl, rfl, List.length_replicate .., fun q hq => by rw [List.getD_eq_getElem?_getD, List.getElem?_replicate, if_pos hq]; rfl, by omega⟩, ⟨rfl, rfl, rfl, rfl, rfl, trivial⟩, Turn.refl _ _⟩ ?_
  rintro _ _ _ _ b ⟨i, ps, rfl, rfl, rfl, rfl, hpl, hps, hi⟩
  have hps := Wrp.mk hps
  by_cases hil : i < xs.length
  · have hxi := sx.get i
    refine go ?_
    refine c_loopT (fun m X o G => ∃ (k : Nat) (ps : List Int), m = ys.length - k ∧ X = [(1, .slice A' ys.length c'), (5, .slice (some ⟨r5, 0, none⟩) (xs.length + ys.length - 1) (xs.length + ys.length - 1)), (25, .slice A xs.length c), (26, .int .i64 (xs.length : Nat)), (27, .int .i64 (i : Nat)), (6, .int .i64 (i : Nat)), (7, vi (xs.getD i 0)), (32, .slice A' ys.length c'), (33, .int .i64 (ys.length : Nat)), (34, .int .i64 (k : Nat))] ∧ .c r5 (ps.map vi) :: own = o ∧ F = G ∧ ps.length = xs.length + ys.length - 1 ∧ (∀ q, q < xs.length + ys.length - 1 → ps.getD q 0 = cvS xs ys i k q) ∧ k ≤ ys.length)
      ⟨_, _, _, _, ⟨0, ps, rfl, rfl, rfl, rfl, hpl, hps.out, by omega⟩, ⟨rfl, rfl, rfl, rfl, rfl, rfl, rfl, rfl, rfl, rfl, trivial⟩, Turn.refl _ _⟩ ?_
    rintro _ _ _ _ b ⟨k, ps, rfl, rfl, rfl, rfl, hpl, hps, hk⟩
    have hps := Wrp.mk hps
    by_cases hkl : k < ys.length
    · have hyk := sy.get k
      have hik : i + k < ps.length := by omega
      have hval := hps.out (i + k) (by omega)
      have hb := cvS_le (i := i) (k := k) (q := i + k) sx sy
      have hb2 : (i * ys.length + k) * (1000 * 1000) ≤ (2048 * 2048 + 2048) * (1000 * 1000) := Nat.mul_le_mul_right _ (Nat.add_le_add (Nat.mul_le_mul (by omega) yl) (by omega))
      rw [← hval] at hb
      have hm1 : (xs.getD i 0 * ys.getD k 0).natAbs ≤ 1000 * 1000 := by rw [Int.natAbs_mul]; exact Nat.mul_le_mul hxi hyk
      have hm2 : -1000000 ≤ xs.getD i 0 * ys.getD k 0 ∧ xs.getD i 0 * ys.getD k 0 ≤ 1000000 := by omega
      have hb3 : -10000000000000 ≤ ps.getD (i + k) 0 ∧ ps.getD (i + k) 0 ≤ 10000000000000 := by omega
      clear hb hb2 hm1 hval hxi hyk
      refine go ?_
      refine ⟨_, _, _, _, ⟨k + 1, ps.set (i + k) (ps.getD (i + k) 0 + xs.getD i 0 * ys.getD k 0), rfl, rfl, rfl, rfl, by simpa using hpl, fun q hq => ?_, by omega⟩, ⟨rfl, rfl, rfl, rfl, rfl, rfl, rfl, rfl, rfl, eqI (by omega), trivial⟩, by rw [List.map_set]; exact Turn.refl _ _, rfl, by omega⟩
      rw [cvS_step, List.getD_eq_getElem?_getD, List.getElem?_set]
      by_cases h : i + k = q
      · subst h; rw [if_pos rfl, if_pos hik, if_pos rfl, ← hps.out _ (by omega)]; rfl
      · rw [if_neg h, if_neg h, Int.add_zero, ← List.getD_eq_getElem?_getD]; exact hps.out q hq
    · obtain rfl : k = ys.length := by omega
      refine go ?_
      exact ⟨_, _, _, _, ⟨i + 1, ps, rfl, rfl, rfl, rfl, hpl, fun q hq => by rw [← cvS_next]; exact hps.out q hq, by omega⟩, ⟨rfl, rfl, rfl, rfl, eqI (by omega), trivial⟩, Turn.refl _ _, rfl, by omega⟩
  · obtain rfl : i = xs.length := by omega
    have hpc : ps = conv xs ys := by
      rw [← cvS_conv]
      refine list_eqI (by simp [hpl]) fun q hq => ?_
      rw [getD_map_range (fun q => cvS xs ys xs.length 0 q) (by omega)]
      exact hps.out q (by omega)
    have hrow := row_ice' (F := F) (r := r5) (vs := ps.map vi) (c := xs.length + ys.length - 1) (by simp [hpl])
    rw [List.length_map, hpl] at hrow
    refine go ?_
    exact b_ret rfl (.cons (.tmp rfl) .nil) Turn.ice ⟨rfl, Fz.add_le _ _, by rw [← hpc]; exact hrow⟩
end Go.Proofs.YthkoodpnepfijaaGreatDoor
/- ZA: WALKS: the law's wakes. -/
namespace Go.Proofs.YthkoodpnepfijaaGreatDoor
open Go.RowKit
set_option linter.unusedVariables false
set_option linter.unusedSimpArgs false
set_option maxRecDepth 100000
set_option maxHeartbeats 1000000
abbrev lWk : List Pnt := [⟨0, 1⟩, ⟨1, 1⟩, ⟨1, 0⟩]
theorem wk_right : RightQ lWk := by
  refine ⟨by decide, by decide, by decide, by decide, ?_⟩
  rintro ⟨i, j, h1, h2, h3⟩
  have hj : j < 3 := h2
  rcases (show (i = 0 ∧ j = 1) ∨ (i = 0 ∧ j = 2) ∨ (i = 1 ∧ j = 2) by omega) with ⟨rfl, rfl⟩ | ⟨rfl, rfl⟩ | ⟨rfl, rfl⟩ <;> revert h3 <;> decide
theorem wk_ok1 : (evalP 2 lWk).ok := by rw [Prg.ok_iff]; decide +kernel
theorem wk_ok2 : (madeP lWk).ok := by rw [Prg.ok_iff]; decide +kernel
theorem wk_conv : conv [1, 2, 3, 4] [1, 1, 1, 1] = [1, 3, 6, 10, 9, 7, 4] := by decide +kernel
theorem wakes4 {F : Fz} (hGl : Gl F) : Pu 4 [] F fun u F' => u = .bool true := fun own => by
  refine n_fun Tryz.func4 Tryz.ntmps4 rfl rfl rfl ?_
  refine go ?_
  refine o_lit (m := 6) rfl rfl rfl rfl rfl (fun r7 => ?_)
  refine o_turn Turn.ice ?_
  have hI := row_ice' (F := F) (r := r7) (vs := [0, 1, 1, 1, 1, 0].map vi) (c := 6) (Nat.le_refl _)
  have hp := points13 (l := [0, 1, 1, 1, 1, 0]) (m := 3) hI rfl (by omega)
  refine o_pu rfl hp (fun w F1 hF1 h1 => ?_) sl
  have h1 : PtsR F1 w lWk := h1
  obtain ⟨A1, c1, e⟩ := h1.dest
  subst e
  have hG1 := (hGl.le (Fz.add_le F (.c r7 ([0, 1, 1, 1, 1, 0].map vi)))).le hF1
  refine go ?_
  refine o_pu rfl (compile5 hG1 h1 wk_right (K := 2) (by omega) (by omega) rfl) (fun w F2 hF2 ⟨⟨e, h⟩, hh⟩ => ?_) sl
  obtain ⟨u0, e0⟩ := hh wk_ok1 wk_ok2
  clear hh
  obtain ⟨u, e1, hR, hok, hK, hl⟩ : ∃ u : UnC, w = .tuple #[.agg (vUn u).toArray, .int .i64 0] ∧ UnR F2 u ∧ UnOk u ∧ u.K = 2 ∧ u.l = lWk := by
    rcases h with ⟨he, e1⟩ | ⟨_, h⟩
    · rw [e0] at e1
      cases e1
      exact absurd rfl he
    · exact h
  clear h e0
  subst e1
  have hG2 := hG1.le hF2
  refine go ?_
  intro r1
  refine go ?_
  refine o_pu rfl (new6 hG2 hR hok) (fun w F3 hF3 ⟨B, v, e, hm, hS⟩ => ?_) sl
  subst e
  have hG3 := hG2.le hF3
  have hvK : v.K = 2 := by rw [hS.hk, hK]
  have hvl : v.l = lWk := by rw [hS.hl, hl]
  refine go ?_
  refine o_eqp rfl ?_
  refine go ?_
  refine o_lit (m := 4) rfl rfl rfl rfl rfl (fun ra => ?_)
  refine o_turn Turn.ice ?_
  have hIa := row_ice' (F := F3) (r := ra) (vs := [1, 2, 3, 4].map vi) (c := 4) (Nat.le_refl _)
  refine o_pu rfl (list10 (l := [1, 2, 3, 4]) hIa (by decide) (by intro z hz; revert z; decide)) (fun w F4 hF4 ha => ?_) sl
  obtain ⟨Aa, ca, e⟩ := ha.dest
  subst e
  refine go ?_
  refine o_lit (m := 4) rfl rfl rfl rfl rfl (fun rb => ?_)
  refine o_turn Turn.ice ?_
  have hIb := row_ice' (F := F4) (r := rb) (vs := [1, 1, 1, 1].map vi) (c := 4) (Nat.le_refl _)
  refine o_pu rfl (list10 (l := [1, 1, 1, 1]) hIb (by decide) (by intro z hz; revert z; decide)) (fun w F5 hF5 hb => ?_) sl
  obtain ⟨Ab, cb, e⟩ := hb.dest
  subst e
  have h45 : Fle F4 F5 := (Fz.add_le _ _).trans hF5
  have h35 : Fle F3 F5 := ((Fz.add_le _ _).trans hF4).trans h45
  have hmul := mul9 (hG3.le h35) (hm.le h35) (by omega) (d := 2) (k := 10) (ha.le h45) hb (by rw [hvK]; rfl) (by rw [hvK]; rfl) (by rw [hvK]; decide) (by rw [hvl]; decide) (by intro z hz; revert z; decide) (by intro z hz; revert z; decide) (by decide)
  rw [hvl, show List.length lWk = 3 from rfl, show lvN 3 2 = 4 from rfl, wk_conv] at hmul
  generalize 4 * stepsN v = stp at hmul
  refine go ?_
  refine o_pu rfl hmul (fun w F6 hF6 ⟨v', e, hc⟩ => ?_) sl
  subst e
  obtain ⟨Ac, cc, e⟩ := hc.dest
  subst e
  refine go ?_
  intro r5
  refine go ?_
  refine o_lit (m := 7) rfl rfl rfl rfl rfl (fun rc => ?_)
  refine o_turn Turn.ice ?_
  have hIc := row_ice' (F := F6) (r := rc) (vs := [1, 3, 6, 10, 9, 7, 4].map vi) (c := 7) (Nat.le_refl _)
  refine go ?_
  refine o_ps rfl (same11 (hc.le (Fz.add_le _ (.c rc ([1, 3, 6, 10, 9, 7, 4].map vi)))) hIc (by decide) (by intro z hz; revert z; decide)) (fun w e => ?_) sl
  subst e
  refine go ?_
  exact b_ret rfl (.cons (.tmp rfl) .nil) (Turn.of sl (Fle.refl _)) ⟨rfl, (Fz.add_le _ _).trans (hF1.trans (hF2.trans (hF3.trans (h35.trans (hF6.trans (Fz.add_le _ _)))))), by simp [tupV]⟩
end Go.Proofs.YthkoodpnepfijaaGreatDoor
/- ZB: WALKS: the law. -/
namespace Go.Proofs.YthkoodpnepfijaaGreatDoor
open Go.RowKit
set_option linter.unusedVariables false
set_option linter.unusedSimpArgs false
set_option maxRecDepth 100000
set_option maxHeartbeats 1000000
theorem sm_pick {f : Nat → Int} {i q : Nat} : ∀ m : Nat, sm m (fun k => if i + k = q then f k else 0) = if i ≤ q ∧ q - i < m then f (q - i) else 0
  | 0 => by simp [sm]
  | m + 1 => by
    simp only [sm]
    rw [sm_pick m]
    by_cases h : i + m = q
    · have h1 : ¬ (i ≤ q ∧ q - i < m) := by omega
      have h2 : i ≤ q ∧ q - i < m + 1 := by omega
      have h3 : q - i = m := by omega
      rw [if_neg h1, if_pos h, if_pos h2, h3, Int.zero_add]
    · by_cases h1 : i ≤ q ∧ q - i < m
      · rw [if_pos h1, if_neg h, if_pos (by omega), Int.add_zero]
      · rw [if_neg h1, if_neg h, if_neg (by omega)]; rfl
theorem conv_sml {M : Nat} {a b : List Int} (ha : Sml M a) (hb : Sml M b) : Sml (a.length * (M * M)) (conv a b) := fun z hz => by
  obtain ⟨q, _, rfl⟩ := List.mem_map.1 hz
  refine sm_le fun i _ => ?_
  rw [sm_pick (f := fun k => a.getD i 0 * b.getD k 0)]
  split
  · rw [Int.natAbs_mul]; exact Nat.mul_le_mul (ha.get i) (hb.get _)
  · simp
theorem pow_few : ∀ K, K < 9 → ∀ d, d < 12 → 2 ≤ K → K ^ d ≤ 2048 → (K + K - 1) ^ d ≤ 200000 := by decide +kernel
theorem pow_big : ∀ K, K < 9 → ∀ d, d < 12 → K ^ d ≤ 8589934592 ∧ (K + K - 1) ^ d ≤ 8649755859375 := by decide +kernel
/-- The law's row. -/
def lawL (seed : Int) (n : Nat) : List Int := (List.range n).map fun i => (IntKind.wrap .i64 (seed + (i : Nat))).tmod 1000
theorem tmod_sml (z : Int) : (z.tmod 1000).natAbs ≤ 999 := by
  have := Int.tmod_lt_of_pos z (show (0 : Int) < 1000 by decide)
  have h2 := Int.neg_emod_two 0
  rw [Int.natAbs_tmod]
  have := Nat.mod_lt z.natAbs (show 0 < (1000 : Int).natAbs by decide)
  have e : (1000 : Int).natAbs = 1000 := rfl
  rw [e] at this ⊢
  omega
theorem lawL_sml (seed : Int) (n : Nat) : Sml 999 (lawL seed n) := fun z hz => by
  obtain ⟨i, _, rfl⟩ := List.mem_map.1 hz
  exact tmod_sml _
theorem lawL_len (seed : Int) (n : Nat) : (lawL seed n).length = n := by simp [lawL]
theorem top3 {F : Fz} (hGl : Gl F) {v : Value} {l : List Pnt} {k d seed : Int} (hl : PtsR F v l) (hlen : l.length ≤ 17592186044416) : Pu 3 [.int .i64 k, v, .int .i64 d, .int .i64 seed] F fun u F' => u = .bool true := fun own => by
  obtain ⟨Al, cl, e⟩ := hl.dest
  subst e
  refine n_fun Tryz.func3 Tryz.ntmps3 rfl rfl rfl ?_
  refine go ?_
  refine o_pu rfl (wakes4 hGl) (fun w F1 hF1 e => ?_) sl
  subst e
  have hl1 := RowS.le hl hF1
  have hGl1 := hGl.le hF1
  refine go ?_
  by_cases hgood : GoodS k k l
  · obtain ⟨k1, k8, _, _, hr, hab⟩ := hgood
    obtain ⟨K, rfl⟩ : ∃ K : Nat, k = K := ⟨k.toNat, by omega⟩
    refine o_pu rfl (compile5 hGl1 hl1 hr (K := K) (by omega) (by omega) (by omega)) (fun w F2 hF2 ⟨⟨e, h⟩, _⟩ => ?_) sl
    rcases h with ⟨he, e1⟩ | ⟨rfl, u, e1, hR, hok, hK, hul⟩
    · subst e1
      refine go ?_
      intro r9
      refine go ?_
      exact b_ret rfl (.cons (.tmp rfl) .nil) Turn.drop ⟨rfl, hF1.trans hF2, rfl⟩
    · subst e1
      refine go ?_
      intro r9
      by_cases hk2 : (K : Int) < 2
      · refine go ?_
        exact b_ret rfl (.cons (.tmp rfl) .nil) Turn.drop ⟨rfl, hF1.trans hF2, rfl⟩
      · by_cases hd0 : d < 0
        · refine go ?_
          exact b_ret rfl (.cons (.tmp rfl) .nil) Turn.drop ⟨rfl, hF1.trans hF2, rfl⟩
        · by_cases hd11 : d ≤ 11
          · obtain ⟨D, rfl⟩ : ∃ D : Nat, d = D := ⟨d.toNat, by omega⟩
            refine go ?_
            refine o_pu rfl (new6 (hGl1.le hF2) hR hok) (fun w F3 hF3 ⟨A, v, e, hm, hS⟩ => ?_) sl
            subst e
            have hGl3 := (hGl1.le hF2).le hF3
            have hvK : v.K = K := by rw [hS.hk, hK]
            have hPK : v.l.length = K + K - 1 := by rw [hm.ok.len, hvK]
            have hbig := fun j (hj : j ≤ D) => pow_big K (by omega) j (by omega)
            rw [← hPK] at hbig
            have hP2 : 2 * ((K : Nat) : Int) - 1 = ((v.l.length : Nat) : Int) := by omega
            have hbig := Wrp.mk hbig
            refine go ?_
            refine c_loopT (fun m X o G => ∃ j : Nat, m = D - j ∧ X = [(0, .int .i64 (K : Nat)), (3, .int .i64 seed), (11, .pointer (some A)), (12, .int .i64 (K ^ j : Nat)), (13, .int .i64 (v.l.length ^ j : Nat)), (49, .int .i64 (D : Nat)), (50, .int .i64 (j : Nat))] ∧ .c r9 (vUn u) :: own = o ∧ F3 = G ∧ j ≤ D)
              ⟨_, _, _, _, ⟨0, rfl, rfl, rfl, rfl, by omega⟩, ⟨rfl, rfl, rfl, rfl, rfl, rfl, rfl, trivial⟩, Turn.refl _ _⟩ ?_
            rintro _ _ _ _ b ⟨j, rfl, rfl, rfl, rfl, hj⟩
            by_cases hjl : j < D
            · have hb1 := hbig.out (j + 1) hjl
              rw [Nat.pow_succ, Nat.pow_succ] at hb1
              have hs1 : K ^ (j + 1) = K ^ j * K := Nat.pow_succ ..
              have hs2 : v.l.length ^ (j + 1) = v.l.length ^ j * v.l.length := Nat.pow_succ ..
              have hg0 := hbig.out j hj
              generalize K ^ j = kj at *
              generalize v.l.length ^ j = pj at *
              have g1 : ((kj : Nat) : Int) * ((K : Nat) : Int) = ((kj * K : Nat) : Int) := by simp
              have g2 : ((pj : Nat) : Int) * (2 * ((K : Nat) : Int) - 1) = ((pj * v.l.length : Nat) : Int) := by rw [hP2]; simp
              refine go ?_
              exact ⟨_, _, _, _, ⟨j + 1, rfl, rfl, rfl, rfl, by omega⟩, ⟨rfl, rfl, rfl, eqI (by rw [hs1]; exact g1), eqI (by rw [hs2]; exact g2), rfl, eqI (by omega), trivial⟩, Turn.refl _ _, rfl, by omega⟩
            · obtain rfl : j = D := by omega
              by_cases hn : K ^ j ≤ 2048
              · have hp := pow_few K (by omega) j (by omega) (by omega) hn
                rw [← hPK] at hp
                have hfor := foretell7 hm (d := j) (by omega) (by rw [hvK]; exact hn) hp
                rw [hvK] at hfor
                refine go ?_
                refine o_pu rfl hfor (fun w F4 hF4 e => ?_) sl
                subst e
                have hP3 : 2 ≤ v.l.length := by omega
                have hlv := lvN_le hP3 j
                have hLP : lvN v.l.length j * v.l.length ≤ 200000 * 15 := Nat.mul_le_mul (by omega) hm.ok.right.len15
                have g3 : ((lvN v.l.length j : Nat) : Int) * (2 * ((K : Nat) : Int) - 1) = ((lvN v.l.length j * v.l.length : Nat) : Int) := by rw [hP2]; simp
                refine go ?_
                intro r14
                by_cases h15 : lvN v.l.length j * v.l.length ≤ 1500
                · have hN1 : 1 ≤ K ^ j := Nat.pow_pos (by omega)
                  refine go ?_
                  refine o_make (K ^ j) rfl rfl (by omega) (by omega) (fun r15 => ?_)
                  rw [rep_one]
                  refine go ?_
                  refine c_loopT (fun m X o G => ∃ (i : Nat) (ps : List Int), m = K ^ j - i ∧ X = [(3, .int .i64 seed), (11, .pointer (some A)), (14, .pointer (some ⟨r14, 0, none⟩)), (15, .slice (some ⟨r15, 0, none⟩) (K ^ j) (K ^ j)), (95, .int .i64 (K ^ j : Nat)), (96, .int .i64 (i : Nat))] ∧ .c r15 (ps.map vi) :: .c r14 (tal (lvN v.l.length j : Nat) (lvN v.l.length j * v.l.length : Nat) (v.l.length ^ j : Nat) (lvN v.l.length j * stepsN v : Nat)) :: .c r9 (vUn u) :: own = o ∧ F4 = G ∧ ps.length = K ^ j ∧ (∀ q, q < i → ps.getD q 0 = (IntKind.wrap .i64 (seed + (q : Nat))).tmod 1000) ∧ i ≤ K ^ j)
                    ⟨_, _, _, _, ⟨0, List.replicate (K ^ j) 0, rfl, rfl, by rw [List.map_replicate]; rfl, rfl, List.length_replicate .., fun q hq => absurd hq (by omega), by omega⟩, ⟨rfl, rfl, rfl, rfl, rfl, rfl, trivial⟩, Turn.refl _ _⟩ ?_
                  rintro _ _ _ _ b2 ⟨i, ps, rfl, rfl, rfl, rfl, hpl, hps, hi⟩
                  have hps := Wrp.mk hps
                  by_cases hil : i < K ^ j
                  · have hip : i < ps.length := by omega
                    refine go ?_
                    refine o_addW rfl rfl ?_
                    refine go ?_
                    refine ⟨_, _, _, _, ⟨i + 1, ps.set i ((IntKind.wrap .i64 (seed + (i : Nat))).tmod 1000), rfl, rfl, rfl, rfl, by simpa using hpl, fun q hq => ?_, by omega⟩, ⟨rfl, rfl, rfl, rfl, rfl, eqI (by omega), trivial⟩, by rw [List.map_set]; exact Turn.refl _ _, rfl, by omega⟩
                    rw [List.getD_eq_getElem?_getD, List.getElem?_set]
                    by_cases h : i = q
                    · subst h; rw [if_pos rfl, if_pos hip]; rfl
                    · rw [if_neg h, ← List.getD_eq_getElem?_getD]; exact hps.out q (by omega)
                  · obtain rfl : i = K ^ j := by omega
                    have hla : ps = lawL seed (K ^ j) := by
                      refine list_eqI (by rw [hpl, lawL_len]) fun q hq => ?_
                      unfold lawL
                      rw [getD_map_range (fun i => (IntKind.wrap .i64 (seed + (i : Nat))).tmod 1000) (by omega)]
                      exact hps.out q (by omega)
                    have hrow := row_ice' (F := F4) (r := r15) (vs := ps.map vi) (c := K ^ j) (by simp [hpl])
                    rw [List.length_map, hpl] at hrow
                    have hIR : IntsR (F4.add (.c r15 (ps.map vi))) (.slice (some ⟨r15, 0, none⟩) (K ^ j) (K ^ j)) (lawL seed (K ^ j)) := by rw [← hla]; exact hrow
                    have hle : Fle F4 (F4.add (.c r15 (ps.map vi))) := Fz.add_le _ _
                    clear hrow
                    refine c_turn Turn.ice ?_
                    generalize F4.add (.c r15 (ps.map vi)) = F5 at *
                    clear hps hla hpl
                    have hsm := lawL_sml seed (K ^ j)
                    have hll := lawL_len seed (K ^ j)
                    generalize lawL seed (K ^ j) = la at *
                    have hGl5 := (hGl3.le hF4).le hle
                    have hm5 := (hm.le hF4).le hle
                    have hsm2 : Sml 1000000000 la := fun z hz => Nat.le_trans (hsm z hz) (by decide)
                    have hsm3 : Sml 1000 la := fun z hz => Nat.le_trans (hsm z hz) (by decide)
                    have hbd : BdF 10 la := fun z hz => Nat.lt_of_le_of_lt (hsm z hz) (by decide)
                    refine go ?_
                    refine o_pu rfl (list10 hIR (by omega) hsm2) (fun w F6 hF6 ha => ?_) sl
                    obtain ⟨Aa, ca, e⟩ := ha.dest
                    subst e
                    have hIR6 := RowM.le hIR hF6
                    refine go ?_
                    refine o_pu rfl (list10 hIR6 (by omega) hsm2) (fun w F7 hF7 hb => ?_) sl
                    obtain ⟨Ab, cb, e⟩ := hb.dest
                    subst e
                    have hIR7 := RowM.le hIR6 hF7
                    have hmul := mul9 ((hGl5.le hF6).le hF7) ((hm5.le hF6).le hF7) (by omega) (d := j) (k := 10) (ha.le hF7) hb (by rw [hll, hvK]) (by rw [hll, hvK]) (by rw [hvK]; exact hn) hp hbd hbd (by omega)
                    refine go ?_
                    refine o_pu rfl hmul (fun w F8 hF8 ⟨v', e, hc⟩ => ?_) sl
                    subst e
                    obtain ⟨Ac, cc, e⟩ := hc.dest
                    subst e
                    have hIR8 := RowM.le hIR7 hF8
                    have hcs := conv_sml hsm hsm
                    have hcs2 : Sml 2147483647 (conv la la) := fun z hz => Nat.le_trans (hcs z hz) (by rw [hll]; have := Nat.mul_le_mul_right (999 * 999) hn; omega)
                    have hcl := conv_len la la
                    refine go ?_
                    intro r18
                    refine go ?_
                    refine o_eqs (zs := [((lvN v.l.length j : Nat) : Int), ((lvN v.l.length j * v.l.length : Nat) : Int), ((v.l.length ^ j : Nat) : Int), ((lvN v.l.length j * stepsN v : Nat) : Int)]) (ys := [((lvN v.l.length j : Nat) : Int), ((lvN v.l.length j * v.l.length : Nat) : Int), ((v.l.length ^ j : Nat) : Int), ((lvN v.l.length j * stepsN v : Nat) : Int)]) true rfl rfl rfl rfl rfl rfl (by simp) ?_
                    refine go ?_
                    refine o_pu rfl (convolution12 hIR8 hIR8 (by omega) (by omega) (by omega) (by omega) hsm3 hsm3) (fun w F9 hF9 h9 => ?_) sl
                    obtain ⟨A9, c9, e⟩ := h9.dest
                    subst e
                    refine go ?_
                    refine o_ps rfl (same11 (hc.le hF9) h9 (by omega) hcs2) (fun w e => ?_) sl
                    subst e
                    refine go ?_
                    exact b_ret rfl (.cons (.tmp rfl) .nil) (Turn.of sl (Fle.refl _)) ⟨rfl, hF1.trans (hF2.trans (hF3.trans (hF4.trans (hle.trans (hF6.trans (hF7.trans (hF8.trans hF9))))))), rfl⟩
                · refine go ?_
                  exact b_ret rfl (.cons (.tmp rfl) .nil) (Turn.of sl (Fle.refl _)) ⟨rfl, hF1.trans (hF2.trans (hF3.trans hF4)), rfl⟩
              · refine go ?_
                exact b_ret rfl (.cons (.tmp rfl) .nil) Turn.drop ⟨rfl, hF1.trans (hF2.trans hF3), rfl⟩
          · refine go ?_
            exact b_ret rfl (.cons (.tmp rfl) .nil) Turn.drop ⟨rfl, hF1.trans hF2, rfl⟩
  · refine o_pu rfl (compile5n hl1 hlen hgood) (fun w F2 hF2 ⟨e, e1, he⟩ => ?_) sl
    subst e1
    refine go ?_
    intro r9
    refine go ?_
    exact b_ret rfl (.cons (.tmp rfl) .nil) Turn.drop ⟨rfl, hF1.trans hF2, rfl⟩
end Go.Proofs.YthkoodpnepfijaaGreatDoor

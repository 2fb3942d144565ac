/-
  Steps towards TopCounts (no conditions of their own): WALKS: split.Parts; poly.Degree; poly.Mul of one coefficient each. WALKS: split.Join. WALKS: vm.Done, Outs, Run.
-/
import Derived.Test.YthkoodpnepfijaaGreatDoorM35
/- YN: WALKS: split.Parts; poly.Degree; poly.Mul of one coefficient each. -/
namespace Go.Proofs.YthkoodpnepfijaaGreatDoor
open Go.RowKit
set_option linter.unusedVariables false
set_option linter.unusedSimpArgs false
set_option maxRecDepth 100000
set_option maxHeartbeats 1000000
section
variable {n : Nat} {ops : Array Oper} {fl : Option (List Nat)} {rest : List Oper} {K : St → Prop} {wk wk' : List Ch} {x : Fr} {b : Nat → Value} {ds : List Deferred} {own : List Ch} {F : Fz}
  {d ty : Nat} {pos : String} {af : Array Edge}
/-- copy(dst, src) of structs: so many as there is room for. -/
theorem o_copyT {α : Type} {f : α → List Value} {z0 : α} {l : List α} {a a' : Operand} {t t' e s m c r : Nat} [ht : SlT t e s] {v : Value} {vs : List Value} (p : Nat) (ha : evS n x a = some (.slice (some ⟨r, 0, none⟩) m c)) (ha' : evS n x a' = some v) (hr : RowS F v f s z0 l) (hf : ∀ a, (f a).length = s) (hone : ((l.take m).flatMap f).all One = true) (hm : m ≤ l.length) (hp : own[p]? = some (.c r vs)) (hl : vs.length = m * s)
    (hsub : List.Sublist wk own) (hw : Wk fl (Fg ops fl rest.length) wk F (own.set p (.c r ((l.take m).flatMap f))) F wk') (h : O n ops fl rest K wk' ⟨(d, .int .i64 (m : Nat)) :: x, b, ds, own.set p (.c r ((l.take m).flatMap f)), F⟩) : O n ops fl (⟨some d, .call { callee := .builtin .copy, args := #[a, a'], argTypes := #[t, t'] }, ty, pos, af, none⟩ :: rest) K wk ⟨x, b, ds, own, F⟩ :=
  o_ef hsub rfl fun B w0 w hI => by
    obtain ⟨A, c', rfl, h2, h3⟩ := hr
    rw [List.length_map] at *
    have hfl := flat_len hf (l.take m)
    have htl : (l.take m).length = m := by rw [List.length_take]; omega
    rw [htl] at hfl
    obtain ⟨w', e1, e2⟩ := Inv.stores (A := ⟨r, 0, none⟩) (k := 0) rfl ((l.take m).flatMap f) 0 own vs w hI hp (fun u hu' => List.all_eq_true.1 hone u hu') (by omega)
    rw [setL_full (by omega)] at e2
    have hfc : (Builtin.firstCells s m (.slice A l.length c')).run Tryz.prog w = .ok ((l.take m).flatMap f).toArray w := by
      cases A with
      | none =>
        have : l = [] := by
          cases l with
          | nil => rfl
          | cons u us => obtain ⟨_, B, e, _⟩ := h3 0 (f u) rfl; cases e
        subst this
        have : m = 0 := by simpa using hm
        subst this
        rfl
      | some A =>
        have hcs : ∀ i u, ((l.take m).map f).flatten[i]? = some u → F (A.add (0 * s + i)) u := rowsCells (m := 0) (c := 0) (fun i us hu => by
          have hu' : (l.map f)[i]? = some us := by
            rw [List.getElem?_map] at hu ⊢
            rw [List.getElem?_take] at hu
            split at hu
            · exact hu
            · cases hu
          obtain ⟨q, B, e, hB⟩ := h3 i us hu'
          cases e
          rw [Nat.zero_add]
          exact ⟨q, hB⟩)
        have := run_firstCells_some (P := Tryz.prog) w s m A l.length c' ((l.take m).flatMap f) (by omega) (fun j u hu => by
          rw [List.flatMap_def] at hu
          have := hcs j u hu
          rw [Nat.zero_mul, Nat.zero_add] at this
          exact hI.fr _ _ this)
        exact this
    have hmin : Nat.min l.length m = m := Nat.min_eq_right hm
    unfold execOp
    simp only [resolve, invoke, builtin, Sem.run_bind, Sem.run_pure, Result.andThen, List.map_toArray, List.map_cons, List.map_nil, evx ha, evx ha']
    simp [Builtin.copy_, run_underlying ht.h, Builtin.lenOf, size_run ht.hs, Result.andThen, hmin, hfc, e1, goInt, upK]
    exact ⟨⟨(d, .int .i64 (m : Nat)) :: x, b, ds, own.set p (.c r ((l.take m).flatMap f)), F⟩, act_putx .., e2, _, hw, h⟩
end
theorem getD_dropG {α : Type} (l : List α) (k i : Nat) (z : α) : (l.drop k).getD i z = l.getD (k + i) z := by
  simp [List.getD_eq_getElem?_getD, List.getElem?_drop]
theorem getD_take' {α : Type} (l : List α) {k i : Nat} (z : α) (h : i < k) : (l.take k).getD i z = l.getD i z := by
  simp [List.getD_eq_getElem?_getD, List.getElem?_take, h]
theorem parts67 {F : Fz} {v : Value} {a : List Int} {k m : Nat} (ha : RowI F v a) (hl : a.length = k * m) (k1 : 1 ≤ k) (k8 : k ≤ 8) (m1 : 1 ≤ m) (hm : m ≤ 4096) (hkm : k * m ≤ 4096) : Pu 67 [v, .int .i64 (k : Nat), .int .i64 (m : Nat)] F fun u F' => ∃ v', u = .tuple #[v', .int .i64 0] ∧ RowsR F' v' k fun r => partL m a r := fun own => by
  obtain ⟨qs, hS, hZ⟩ := ha
  have hql := hZ.1
  obtain ⟨A, c, rfl⟩ := hS.dest
  have hqk : qs.length = k * m := by omega
  have hkz : ((k : Nat) : Int) * ((m : Nat) : Int) = ((k * m : Nat) : Int) := by simp
  refine n_fun Tryz.func67 Tryz.ntmps67 rfl rfl rfl ?_
  refine go ?_
  refine c_loopT (fun mm X o G => ∃ (j : Nat) (v' cv : Value) (ps : List SZ), mm = k - j ∧ X = [(0, v'), (1, .int .i64 (k : Nat)), (2, .int .i64 (m : Nat)), (8, cv), (37, .int .i64 (k : Nat)), (38, .int .i64 (j : Nat))] ∧ gC cv ps.length ps :: own = o ∧ Fle F G ∧ ps.length = j ∧ RowS G v' vIz 2 z0Z (qs.drop (j * m)) ∧ RegR G ps (fun r => partL m a r) ∧ j ≤ k)
    ⟨_, _, _, _, ⟨0, _, .slice none 0 0, [], rfl, rfl, rfl, Fle.refl _, rfl, by rw [Nat.zero_mul, List.drop_zero]; exact hS, fun r hr => absurd hr (by simp), by omega⟩, ⟨rfl, rfl, rfl, rfl, rfl, rfl, trivial⟩, Turn.nil 42 1⟩ ?_
  rintro _ _ _ G b ⟨j, v', cv, ps, rfl, rfl, rfl, hG, hpl, hdr, hps, hj⟩
  have hps := Wrp.mk hps
  by_cases hjl : j < k
  · have hjm : (j + 1) * m ≤ k * m := Nat.mul_le_mul_right _ hjl
    have hj1 : (j + 1) * m = j * m + m := by rw [Nat.add_mul, Nat.one_mul]
    obtain ⟨A', c', e⟩ := hdr.dest
    subst e
    have hdl : (qs.drop (j * m)).length = qs.length - j * m := List.length_drop
    refine go ?_
    refine o_make m rfl rfl (by omega) (by omega) (fun r9 => ?_)
    rw [rep_two]
    refine go ?_
    refine o_copyT (l := qs.drop (j * m)) 0 rfl rfl hdr vIz_len (vIz_one _) (by omega) rfl (by rw [flat_len vIz_len, List.length_replicate]) sl .text ?_
    rw [List.set_cons_zero]
    refine go ?_
    refine o_sllS m rfl hdr rfl rfl (by omega) (fun v2 hv2 => ?_)
    rw [List.drop_drop] at hv2
    obtain ⟨A2, c2, e2⟩ := hv2.dest
    subst e2
    refine go ?_
    refine o_lit rfl rfl rfl rfl rfl (fun rl => ?_)
    refine o_app1 1 rfl rfl rfl rfl rfl rfl rfl (by omega) (by omega) (fun _ => rfl) (fun A3 c3 => ?_)
    refine go ?_
    have hle : Fle G (G.add (.c r9 (((qs.drop (j * m)).take m).flatMap vIz))) := Fz.add_le _ _
    have htl : ((qs.drop (j * m)).take m).length = m := by rw [List.length_take]; omega
    have hnew : RowI (G.add (.c r9 (((qs.drop (j * m)).take m).flatMap vIz))) (vS ⟨some ⟨r9, 0, none⟩, m, m⟩) (partL m a j) := ⟨_, rowS_ice z0Z vIz_len htl (Nat.le_refl _), by rw [htl]; simp [partL], fun i hi => by
      have hi' : i < m := by simpa [partL] using hi
      unfold partL
      rw [getDr _ hi', getD_take' _ _ hi', getD_dropG]
      exact (hZ.2 (j * m + i) (by omega)).le (hG.trans hle)⟩
    exact ⟨_, _, _, _, ⟨j + 1, _, .slice A3 (ps.length + 1) c3, ps ++ [⟨some ⟨r9, 0, none⟩, m, m⟩], rfl, rfl, rfl, hG.trans hle, by simp [hpl], by rw [hj1]; exact hv2.le hle, fun r hr => by
      have := regs_snoc (R := fun r => partL m a r) hle hpl (fun r hr => hps.out r (by omega)) hnew r (by simp [hpl] at hr; omega)
      exact this, by omega⟩, ⟨rfl, rfl, rfl, rfl, rfl, eqI (by omega), trivial⟩, by simp only [gC, List.length_append, List.length_singleton, List.map_append, List.map_cons, List.map_nil]; exact Turn.ice, rfl, by omega⟩
  · obtain rfl : j = k := by omega
    refine c_iceM (l := ps) (f := vS) z0S 0 rfl (fun hR => ?_)
    refine go ?_
    exact b_ret rfl (.cons (.tmp rfl) (.cons (.tmp rfl) .nil)) (Turn.refl _ _) ⟨rfl, hG.trans (Fz.add_le _ _), _, rfl, ps, hR, hpl, hps.out.le (Fz.add_le _ _)⟩
theorem degree112 {F : Fz} {v : Value} {a : List Int} (ha : RowI F v a) (hl : a.length ≤ 1000000) : Pu 112 [v] F fun u F' => ∃ z : Int, u = .int .i64 z ∧ z < a.length := fun own => by
  obtain ⟨qs, hS, hZ⟩ := ha
  have hql := hZ.1
  obtain ⟨A, c, rfl⟩ := hS.dest
  refine n_fun Tryz.func112 Tryz.ntmps112 rfl rfl rfl ?_
  refine go ?_
  refine c_scope (fun _ _ h => h) ?_
  refine go ?_
  refine c_loopT (fun mm X o G => ∃ j : Nat, mm = j + 1 ∧ X = [(0, .slice A qs.length c), (3, .int .i64 ((j : Int) - 1))] ∧ own = o ∧ F = G ∧ j ≤ qs.length)
    ⟨_, _, _, _, ⟨qs.length, rfl, rfl, rfl, rfl, by omega⟩, ⟨rfl, rfl, trivial⟩, Turn.refl _ _⟩ ?_
  rintro _ _ _ _ b ⟨j, rfl, rfl, rfl, rfl, hj⟩
  rcases j with _ | j
  · refine go ?_
    exact b_ret rfl (.cons (.tmp rfl) .nil) (Turn.refl _ _) ⟨rfl, Fle.refl _, _, rfl, by omega⟩
  · refine c_fr [(0, .slice A qs.length c), (3, .int .i64 (j : Nat))] ⟨rfl, eqI (by omega), trivial⟩ fun b => ?_
    have hjl : j < qs.length := by omega
    have hz := hZ.2 j (by omega)
    refine go ?_
    refine o_pu rfl (sign143 hz) (fun u F3 _ ⟨e1, e2⟩ => ?_) sl
    subst e1 e2
    by_cases h0 : (a.getD j 0).sign = 0
    · refine go ?_
      exact ⟨_, _, _, _, ⟨j, rfl, rfl, rfl, rfl, by omega⟩, ⟨rfl, rfl, trivial⟩, Turn.refl _ _, rfl, by omega⟩
    · refine go ?_
      exact b_ret rfl (.cons (.tmp rfl) .nil) (Turn.refl _ _) ⟨rfl, Fle.refl _, _, rfl, by omega⟩
theorem mul34 {F : Fz} {v w : Value} {x y : Int} {k : Nat} (hx : RowI F v [x]) (hy : RowI F w [y]) (bx : x.natAbs < 2 ^ k) (b_y : y.natAbs < 2 ^ k) (hk : k ≤ 1000000000) : Pu 34 [v, w] F fun u F' => ∃ v', u = .tuple #[v', .int .i64 1] ∧ RowI F' v' [x * y] := fun own => by
  obtain ⟨qs, hS, hZ⟩ := hx
  obtain ⟨ps, hT, hY⟩ := hy
  have hql : qs.length = 1 := hZ.1
  have hpl : ps.length = 1 := hY.1
  obtain ⟨A, c, rfl⟩ := hS.dest
  obtain ⟨A', c', e⟩ := hT.dest
  subst e
  have hq0 : 0 < qs.length := by omega
  have hp0 : 0 < ps.length := by omega
  have hx0 : IntR F (.agg (vIz (qs.getD 0 z0Z)).toArray) x := hZ.2 0 (by simp)
  have hy0 : IntR F (.agg (vIz (ps.getD 0 z0Z)).toArray) y := hY.2 0 (by simp)
  have hxy : (x * y).natAbs < 2 ^ (k + k) := by rw [Int.natAbs_mul, Nat.pow_add]; exact Nat.mul_lt_mul'' bx b_y
  have h00 : (0 : Int).natAbs < 2 ^ (k + k) := Nat.pow_pos (by decide)
  refine n_fun Tryz.func34 Tryz.ntmps34 rfl rfl rfl ?_
  refine go ?_
  refine o_make 1 rfl (by omega) (by omega) (by omega) (fun r6 => ?_)
  rw [rep_two]
  refine go ?_
  refine c_loopT (fun m X o G => ∃ (i : Nat) (q : IZ), m = 1 - i ∧ X = [(1, .slice A' ps.length c'), (6, .slice (some ⟨r6, 0, none⟩) 1 1), (7, .int .i64 (i : Nat)), (27, .slice A qs.length c), (28, .int .i64 (qs.length : Nat)), (29, .int .i64 (i : Nat))] ∧ .c r6 ([q].flatMap vIz) :: own = o ∧ Fle F G ∧ IntR G (.agg (vIz q).toArray) (if i = 0 then 0 else x * y) ∧ i ≤ 1)
    ⟨_, _, _, _, ⟨0, z0Z, rfl, rfl, rfl, Fle.refl _, IntR.zero _, by omega⟩, ⟨rfl, rfl, rfl, rfl, rfl, rfl, trivial⟩, Turn.refl _ _⟩ ?_
  rintro _ _ _ G b ⟨i, q, rfl, rfl, rfl, hG, hq, hi⟩
  have hS1 := RowS.le hS hG
  have hT1 := RowS.le hT hG
  rcases (show i = 0 ∨ i = 1 by omega) with rfl | rfl
  · rw [if_pos rfl] at hq
    refine go ?_
    intro r9
    refine go ?_
    refine c_loopT (fun m X o G' => ∃ (j : Nat) (q : IZ), m = 1 - j ∧ X = [(1, .slice A' ps.length c'), (6, .slice (some ⟨r6, 0, none⟩) 1 1), (7, .int .i64 (j : Nat)), (8, .int .i64 0), (9, .pointer (some ⟨r9, 0, none⟩)), (27, .slice A qs.length c), (28, .int .i64 (qs.length : Nat)), (29, .int .i64 0), (34, .slice A' ps.length c'), (35, .int .i64 (ps.length : Nat)), (36, .int .i64 (j : Nat))] ∧ .c r9 (vIz (qs.getD 0 z0Z)) :: .c r6 ([q].flatMap vIz) :: own = o ∧ Fle G G' ∧ IntR G' (.agg (vIz q).toArray) (if j = 0 then 0 else x * y) ∧ j ≤ 1)
      ⟨_, _, _, _, ⟨0, q, rfl, rfl, rfl, Fle.refl _, hq, by omega⟩, ⟨rfl, rfl, rfl, rfl, rfl, rfl, rfl, rfl, rfl, rfl, rfl, trivial⟩, Turn.refl _ _⟩ ?_
    rintro _ _ _ G' b ⟨j, q, rfl, rfl, rfl, hG', hq, hj⟩
    have hS2 := RowS.le hS1 hG'
    have hT2 := RowS.le hT1 hG'
    rcases (show j = 0 ∨ j = 1 by omega) with rfl | rfl
    · rw [if_pos rfl] at hq
      refine goT ?_
      intro r11
      refine goT ?_
      refine c_drww [.c r11 (vIz (ps.getD 0 z0Z)), .c r9 (vIz (qs.getD 0 z0Z)), .c r6 ([q].flatMap vIz)] sl rfl (by decide +kernel) ?_
      refine go ?_
      refine o_pu rfl (mul66 (k := k) (hx0.le (hG.trans hG')) (hy0.le (hG.trans hG')) bx b_y (by omega)) (fun u F3 hF3 h3 => ?_) sl
      obtain ⟨q3, e, hq3⟩ := h3.iz
      subst e
      refine o_pu rfl (add65 (k := k + k) (hq.le hF3) hq3 h00 hxy (by omega)) (fun u F4 hF4 h4 => ?_) sl
      rw [Int.zero_add] at h4
      obtain ⟨q4, e, hq4⟩ := h4.iz
      subst e
      refine go ?_
      exact ⟨_, _, _, _, ⟨1, q4, rfl, rfl, rfl, (hG'.trans hF3).trans hF4, by rw [if_neg (by decide)]; exact h4, by omega⟩, ⟨rfl, rfl, rfl, rfl, rfl, rfl, rfl, rfl, rfl, rfl, rfl, trivial⟩, Turn.drop, rfl, by omega⟩
    · rw [if_neg (by decide)] at hq
      refine go ?_
      exact ⟨_, _, _, _, ⟨1, q, rfl, rfl, rfl, hG.trans hG', by rw [if_neg (by decide)]; exact hq, by omega⟩, ⟨rfl, rfl, rfl, rfl, rfl, rfl, trivial⟩, Turn.drop, rfl, by omega⟩
  · rw [if_neg (by decide)] at hq
    refine go ?_
    refine b_ret rfl (.cons (.tmp rfl) (.cons (.tmp rfl) .nil)) Turn.ice ⟨rfl, hG.trans (Fz.add_le _ _), _, rfl, [q], rowS_ice z0Z vIz_len rfl (Nat.le_refl _), rfl, fun i hi => ?_⟩
    obtain rfl : i = 0 := by simpa using hi
    exact hq.le (Fz.add_le _ _)
end Go.Proofs.YthkoodpnepfijaaGreatDoor
/- YO: WALKS: split.Join. -/
namespace Go.Proofs.YthkoodpnepfijaaGreatDoor
open Go.RowKit
set_option linter.unusedVariables false
set_option linter.unusedSimpArgs false
set_option maxRecDepth 100000
set_option maxHeartbeats 1000000
/-- What stands at the place q when i blocks, and j coefficients of the next one, are laid. -/
def jnF (blk : Nat → List Int) (W m i j q : Nat) : Int := sm i (fun t => sm W fun u => if t * m + u = q then (blk t).getD u 0 else 0) + sm j (fun u => if i * m + u = q then (blk i).getD u 0 else 0)
theorem jn_step (blk : Nat → List Int) (W m i j q : Nat) : jnF blk W m i (j + 1) q = jnF blk W m i j q + (if i * m + j = q then (blk i).getD j 0 else 0) := by
  unfold jnF
  simp only [sm]
  omega
theorem jn_next (blk : Nat → List Int) (W m i q : Nat) : jnF blk W m i W q = jnF blk W m (i + 1) 0 q := by
  unfold jnF
  simp only [sm]
  omega
theorem jn_le {blk : Nat → List Int} {W m i j q k : Nat} (h : ∀ t, BdF k (blk t)) (hi : i ≤ 15) (hW : W ≤ 8192) (hj : j ≤ 8192) : (jnF blk W m i j q).natAbs < 2 ^ (k + 18) := by
  have h1 : (sm i (fun t => sm W fun u => if t * m + u = q then (blk t).getD u 0 else 0)).natAbs ≤ i * (W * 2 ^ k) := sm_le fun t _ => sm_le fun u _ => by
    split
    · exact (h t).get u
    · simp
  have h2 : (sm j (fun u => if i * m + u = q then (blk i).getD u 0 else 0)).natAbs ≤ j * 2 ^ k := sm_le fun u _ => by
    split
    · exact (h i).get u
    · simp
  have h3 : i * (W * 2 ^ k) ≤ 15 * (8192 * 2 ^ k) := Nat.mul_le_mul hi (Nat.mul_le_mul hW (Nat.le_refl _))
  have h4 : j * 2 ^ k ≤ 8192 * 2 ^ k := Nat.mul_le_mul hj (Nat.le_refl _)
  have h0 : 0 < 2 ^ k := Nat.pow_pos (by decide)
  have h5 : 2 ^ (k + 18) = 2 ^ k * 262144 := by rw [Nat.pow_add]
  unfold jnF
  have := Int.natAbs_add_le (sm i (fun t => sm W fun u => if t * m + u = q then (blk t).getD u 0 else 0)) (sm j (fun u => if i * m + u = q then (blk i).getD u 0 else 0))
  omega
theorem join69 {F : Fz} {v : Value} {P W m n k : Nat} {blk : Nat → List Int} (hv : RowsR F v P blk) (hl : ∀ t, t < P → (blk t).length = W) (hb : ∀ t, BdF k (blk t)) (P1 : 1 ≤ P) (P15 : P ≤ 15) (m1 : 1 ≤ m) (hm : m ≤ 4096) (hW : W ≤ 8192) (W1 : 1 ≤ W) (hn : n = (P - 1) * m + W) (hn2 : n ≤ 8192) (hk : k ≤ 1000000000) :
    Pu 69 [v, .int .i64 (m : Nat), .int .i64 (n : Nat)] F fun u F' => ∃ v', u = .tuple #[v', .int .i64 0] ∧ RowI F' v' ((List.range n).map fun q => jnF blk W m P 0 q) := fun own => by
  obtain ⟨qs, hq, hql, hqr⟩ := hv
  obtain ⟨A, c, rfl⟩ := hq.dest
  have hmW : ∀ i, i < P → (qs.getD i z0S).m = W := fun i hi => (hqr i (by omega)).msz (hl i hi)
  have him : ∀ i, i < P → i * m + W ≤ n := fun i hi => by
    have := Nat.mul_le_mul_right m (show i ≤ P - 1 by omega)
    omega
  have hmW := Wrp.mk hmW
  have him := Wrp.mk him
  have hb := Wrp.mk hb
  have hl := Wrp.mk hl
  have hnW := Wrp.mk hn
  clear hn
  refine n_fun Tryz.func69 Tryz.ntmps69 rfl rfl rfl ?_
  refine go ?_
  refine c_loopT (fun mm X o G => ∃ i : Nat, mm = P - i ∧ X = [(0, .slice A qs.length c), (1, .int .i64 (m : Nat)), (2, .int .i64 (n : Nat)), (8, .int .i64 (n : Nat)), (34, .slice A qs.length c), (35, .int .i64 (qs.length : Nat)), (36, .int .i64 (i : Nat))] ∧ own = o ∧ F = G ∧ i ≤ P)
    ⟨_, _, _, _, ⟨0, rfl, rfl, rfl, rfl, by omega⟩, ⟨rfl, rfl, rfl, rfl, rfl, rfl, rfl, trivial⟩, Turn.refl _ _⟩ ?_
  rintro _ _ _ _ b ⟨i, rfl, rfl, rfl, rfl, hi⟩
  by_cases hil : i < P
  · have hmi := hmW.out i hil
    have hin := him.out i hil
    have hiq : i < qs.length := by omega
    have hz : ((i : Nat) : Int) * ((m : Nat) : Int) = ((i * m : Nat) : Int) := by simp
    refine go ?_
    refine o_max rfl rfl ?_
    refine o_val (.int .i64 (n : Nat)) (congrArg (Value.int .i64) (Int.max_eq_left (by omega))) ?_
    refine go ?_
    exact ⟨_, _, _, _, ⟨i + 1, rfl, rfl, rfl, rfl, by omega⟩, ⟨rfl, rfl, rfl, rfl, rfl, rfl, eqI (by omega), trivial⟩, Turn.refl _ _, rfl, by omega⟩
  · obtain rfl : i = P := by omega
    refine go ?_
    refine o_make n rfl rfl (by omega) (by omega) (fun r11 => ?_)
    rw [rep_two]
    refine go ?_
    refine c_loopT (fun mm X o G => ∃ (j : Nat) (ps : List IZ), mm = i - j ∧ X = [(1, .int .i64 (m : Nat)), (2, .int .i64 (n : Nat)), (11, .slice (some ⟨r11, 0, none⟩) n n), (55, .slice A qs.length c), (56, .int .i64 (qs.length : Nat)), (57, .int .i64 (j : Nat))] ∧ .c r11 (ps.flatMap vIz) :: own = o ∧ Fle F G ∧ ps.length = n ∧ (∀ q, q < n → IntR G (.agg (vIz (ps.getD q z0Z)).toArray) (jnF blk W m j 0 q)) ∧ j ≤ i)
      ⟨_, _, _, _, ⟨0, _, rfl, rfl, rfl, Fle.refl _, List.length_replicate .., fun q hq => by
        rw [List.getD_eq_getElem?_getD, List.getElem?_replicate, if_pos hq]; exact IntR.zero _, by omega⟩, ⟨rfl, rfl, rfl, rfl, rfl, rfl, trivial⟩, Turn.refl _ _⟩ ?_
    rintro _ _ _ G b ⟨j, ps, rfl, rfl, rfl, hG, hpl, hps, hj⟩
    have hps := Wrp.mk hps
    have hq1 := RowM.le hq hG
    by_cases hjl : j < i
    · have hmi := hmW.out j hjl
      have hin := him.out j hjl
      have hjq : j < qs.length := by omega
      obtain ⟨ls, hls, hlz⟩ := (hqr j hjq).le hG
      have hlW : ls.length = W := by rw [hlz.1]; exact hl.out j hjl
      refine go ?_
      rw [hmi]
      refine c_loopT (fun mm X o G' => ∃ (u : Nat) (ps : List IZ), mm = W - u ∧ X = [(1, .int .i64 (m : Nat)), (2, .int .i64 (n : Nat)), (11, .slice (some ⟨r11, 0, none⟩) n n), (55, .slice A qs.length c), (56, .int .i64 (qs.length : Nat)), (57, .int .i64 (j : Nat)), (12, .int .i64 (j : Nat)), (62, vS (qs.getD j z0S)), (63, .int .i64 (W : Nat)), (64, .int .i64 (u : Nat))] ∧ .c r11 (ps.flatMap vIz) :: own = o ∧ Fle G G' ∧ ps.length = n ∧ (∀ q, q < n → IntR G' (.agg (vIz (ps.getD q z0Z)).toArray) (jnF blk W m j u q)) ∧ u ≤ W)
        ⟨_, _, _, _, ⟨0, ps, rfl, rfl, rfl, Fle.refl _, hpl, hps.out, by omega⟩, ⟨rfl, rfl, rfl, rfl, rfl, rfl, rfl, rfl, rfl, rfl, trivial⟩, Turn.refl _ _⟩ ?_
      rintro _ _ _ G' b ⟨u, ps, rfl, rfl, rfl, hG', hpl, hps, hu⟩
      have hps := Wrp.mk hps
      have hls' := RowS.le hls hG'
      by_cases hul : u < W
      · have hul' : u < ls.length := by omega
        have hx := (hlz.2 u (by rw [hl.out j hjl]; exact hul)).le hG'
        have hpu : j * m + u < ps.length := by omega
        have hz : ((j : Nat) : Int) * ((m : Nat) : Int) = ((j * m : Nat) : Int) := by simp
        refine goT ?_
        intro r15
        refine goT ?_
        refine c_drww [.c r15 (vIz (ls.getD u z0Z)), .c r11 (ps.flatMap vIz)] sl rfl (by decide +kernel) ?_
        refine go ?_
        refine o_loada (vs := vIz (ps.getD (j * m + u) z0Z)) rfl rfl (rdsC 1 rfl (fun i v hv => flat_at z0Z vIz_len hpu hv)) ?_
        refine go ?_
        have hbj := jn_le (m := m) (i := j) (j := u) (q := j * m + u) hb.out (by omega) hW (by omega)
        have hbx : ((blk j).getD u 0).natAbs < 2 ^ (k + 18) := Nat.lt_of_lt_of_le (hb.out j _ (getD_mem' (by rw [hl.out j hjl]; exact hul))) (Nat.pow_le_pow_right (by decide) (by omega))
        refine o_pu rfl (add65 (k := k + 18) (hps.out _ (by omega)) hx hbj hbx (by omega)) (fun u' F3 hF3 h3 => ?_) sl
        obtain ⟨q3, e, hq3⟩ := h3.iz
        subst e
        refine go ?_
        refine o_staN rfl inferInstance rfl rfl rfl get1 (by rw [setL_flat vIz_len q3 hpu]; rfl) (by rw [flat_len vIz_len, hpl]; show (j * m + u) * 2 + 2 ≤ n * 2; omega) sl (.late [] (by decide +kernel) (List.nil_sublist _)) ?_
        refine go ?_
        refine ⟨_, _, _, _, ⟨u + 1, ps.set (j * m + u) q3, rfl, rfl, rfl, hG'.trans hF3, by simpa using hpl, fun q hq => ?_, by omega⟩, ⟨rfl, rfl, rfl, rfl, rfl, rfl, rfl, rfl, rfl, eqI (by omega), trivial⟩, Turn.drop, rfl, by omega⟩
        rw [jn_step, List.getD_eq_getElem?_getD, List.getElem?_set]
        by_cases h : j * m + u = q
        · subst h; rw [if_pos rfl, if_pos hpu, if_pos rfl]; exact hq3
        · rw [if_neg h, if_neg h, Int.add_zero, ← List.getD_eq_getElem?_getD]; exact (hps.out q hq).le hF3
      · obtain rfl : u = W := by omega
        refine go ?_
        exact ⟨_, _, _, _, ⟨j + 1, ps, rfl, rfl, rfl, hG.trans hG', hpl, fun q hq => by rw [← jn_next]; exact hps.out q hq, by omega⟩, ⟨rfl, rfl, rfl, rfl, rfl, eqI (by omega), trivial⟩, Turn.refl _ _, rfl, by omega⟩
    · obtain rfl : j = i := by omega
      have hle : Fle G (G.add (.c r11 (ps.flatMap vIz))) := Fz.add_le _ _
      have hrow : RowI (G.add (.c r11 (ps.flatMap vIz))) (.slice (some ⟨r11, 0, none⟩) n n) ((List.range n).map fun q => jnF blk W m j 0 q) := ⟨ps, rowS_ice z0Z vIz_len hpl (Nat.le_refl _), by simp [hpl], fun q hq => by
        have hq' : q < n := by simpa using hq
        rw [getD_map_range (fun q => jnF blk W m j 0 q) hq']
        exact (hps.out q hq').le hle⟩
      refine c_turn Turn.ice ?_
      refine go ?_
      refine o_pu rfl (degree112 hrow (by simp; omega)) (fun u' F3 hF3 ⟨z, e, hz⟩ => ?_) sl
      subst e
      have hz : z < n := by simpa using hz
      have hnz : ¬ (n : Int) ≤ z := by omega
      have hn1 : 1 ≤ n := by have := him.out 0 (by omega); omega
      refine go ?_
      refine o_slice (A' := some ⟨r11, 0, none⟩) 0 n n rfl rfl ⟨_, _, rfl, rfl⟩ ⟨_, _, rfl, rfl⟩ (fun _ => rfl) (Nat.zero_le _) (Nat.le_refl _) (by omega) (by split <;> simp [Addr.add]) ?_
      refine go ?_
      exact b_ret rfl (.cons (.tmp rfl) (.cons (.tmp rfl) .nil)) (Turn.refl _ _) ⟨rfl, (hG.trans hle).trans hF3, _, rfl, hrow.le hF3⟩
end Go.Proofs.YthkoodpnepfijaaGreatDoor
/- YP: WALKS: vm.Done, Outs, Run. -/
namespace Go.Proofs.YthkoodpnepfijaaGreatDoor
open Go.RowKit
set_option linter.unusedVariables false
set_option linter.unusedSimpArgs false
set_option maxRecDepth 100000
set_option maxHeartbeats 1000000
theorem done142 {F : Fz} {p : Prg} {A1 A2 : Option Addr} {c1 c2 rm : Nat} {gv : Value} (rest : List Ch) : N 142 [.pointer (some ⟨rm, 0, none⟩)] (mC rm p (.slice A1 p.code.length c1) (.slice A2 p.outs.length c2) gv p.code.length :: rest) F fun u o F' => u = .bool true ∧ F' = F ∧ o = mC rm p (.slice A1 p.code.length c1) (.slice A2 p.outs.length c2) gv p.code.length :: rest := by
  refine n_fun Tryz.func142 Tryz.ntmps142 rfl rfl rfl ?_
  refine goT ?_
  refine c_drww [mC rm p (.slice A1 p.code.length c1) (.slice A2 p.outs.length c2) gv p.code.length] sl rfl (by decide +kernel) ?_
  refine go ?_
  refine o_nep rfl ?_
  refine go ?_
  exact b_ret rfl (.cons (.tmp rfl) .nil) (Turn.refl _ _) ⟨by simp [tupV], rfl, rfl⟩
theorem step110e {F : Fz} {p : Prg} {A1 A2 : Option Addr} {c1 c2 rm : Nat} {gv : Value} (rest : List Ch) : N 110 [.pointer (some ⟨rm, 0, none⟩)] (mC rm p (.slice A1 p.code.length c1) (.slice A2 p.outs.length c2) gv p.code.length :: rest) F fun u o F' => u = .int .i64 4 ∧ F' = F ∧ o = mC rm p (.slice A1 p.code.length c1) (.slice A2 p.outs.length c2) gv p.code.length :: rest := by
  refine n_fun Tryz.func110 Tryz.ntmps110 rfl rfl rfl ?_
  refine goT ?_
  refine o_eqp rfl ?_
  refine goT ?_
  refine c_drww [mC rm p (.slice A1 p.code.length c1) (.slice A2 p.outs.length c2) gv p.code.length] sl rfl (by decide +kernel) ?_
  refine goT ?_
  exact b_ret rfl (.cons (.tmp rfl) .nil) (Turn.refl _ _) ⟨rfl, rfl, rfl⟩
theorem outs111 {F : Fz} {n : Nat} {p : Prg} {A1 A2 : Option Addr} {c1 c2 rm g c : Nat} {qs : List SZ} {S : Nat → Rg} (hP : PrR F (.slice A1 p.code.length c1) (.slice A2 p.outs.length c2) p) (hok : p.ok) (hn1 : 1 ≤ n) (hn : n ≤ 1000000) (hql : qs.length = p.regs.toNat) (hR : RegR F qs fun r => rw_ n S r) (own : List Ch) :
    N 111 [.pointer (some ⟨rm, 0, none⟩)] (mC rm p (.slice A1 p.code.length c1) (.slice A2 p.outs.length c2) (.slice (some ⟨g, 0, none⟩) p.regs.toNat c) p.code.length :: gC (.slice (some ⟨g, 0, none⟩) p.regs.toNat c) p.regs.toNat qs :: own) F fun u o F' => o = mC rm p (.slice A1 p.code.length c1) (.slice A2 p.outs.length c2) (.slice (some ⟨g, 0, none⟩) p.regs.toNat c) p.code.length :: gC (.slice (some ⟨g, 0, none⟩) p.regs.toNat c) p.regs.toNat qs :: own ∧ Fle F F' ∧ ∃ v', u = .tuple #[v', .int .i64 0] ∧ RowsR F' v' p.outs.length fun j => rw_ n S (p.outs.getD j 0) := by
  have o3 := hok.regs
  have o6 := hok.outn
  have hO := hP.outs
  refine n_fun Tryz.func111 Tryz.ntmps111 rfl rfl rfl ?_
  refine go ?_
  refine o_eqp rfl ?_
  refine go ?_
  refine o_call rfl (done142 _) (fun u o F' ⟨e1, e2, e3⟩ => ⟨_, .text, ?_⟩) (List.Sublist.refl _)
  subst e1 e2 e3
  refine go ?_
  refine c_loopT (fun m X o G => ∃ (j : Nat) (cv : Value) (ps : List SZ), m = p.outs.length - j ∧ X = [(0, .pointer (some ⟨rm, 0, none⟩)), (4, cv), (18, .slice A2 p.outs.length c2), (19, .int .i64 (p.outs.length : Nat)), (20, .int .i64 (j : Nat))] ∧ gC cv ps.length ps :: mC rm p (.slice A1 p.code.length c1) (.slice A2 p.outs.length c2) (.slice (some ⟨g, 0, none⟩) p.regs.toNat c) p.code.length :: gC (.slice (some ⟨g, 0, none⟩) p.regs.toNat c) p.regs.toNat qs :: own = o ∧ Fle F' G ∧ ps.length = j ∧ RegR G ps (fun j => rw_ n S (p.outs.getD j 0)) ∧ j ≤ p.outs.length)
    ⟨_, _, _, _, ⟨0, .slice none 0 0, [], rfl, rfl, rfl, Fle.refl _, rfl, fun r hr => absurd hr (by simp), by omega⟩, ⟨rfl, rfl, rfl, rfl, rfl, trivial⟩, Turn.nil 42 1⟩ ?_
  rintro _ _ _ G b ⟨j, cv, ps, rfl, rfl, rfl, hG, hpl, hps, hj⟩
  have hO' := RowM.le hO hG
  have hps := Wrp.mk hps
  by_cases hjl : j < p.outs.length
  · have hro := hok.outs _ (getD_mem (z := 0) hjl)
    obtain ⟨hr0, hr1⟩ := hro
    obtain ⟨m, hq⟩ : ∃ m : Nat, p.outs.getD j 0 = m := ⟨(p.outs.getD j 0).toNat, by omega⟩
    rw [hq] at hr0 hr1
    have hml : m < qs.length := by omega
    have hrow : RowI G (vS (qs.getD m z0S)) (rw_ n S (p.outs.getD j 0)) := by
      rw [hq]
      exact (hR m hml).le hG
    refine go ?_
    refine o_val (.int .i64 (m : Nat)) (congrArg vi hq) ?_
    refine go ?_
    refine o_load rfl (rdG 2 rfl (map_getD z0S hml)) ?_
    refine go ?_
    refine o_pu rfl (clone137 hrow (by simp; omega)) (fun u F3 hF3 hu => ?_) sl
    obtain ⟨qn, e, hqn⟩ := hu.sz
    subst e
    refine go ?_
    refine o_lit rfl rfl rfl rfl rfl (fun rl => ?_)
    refine o_app1 0 rfl rfl rfl rfl rfl rfl rfl (by omega) (by omega) (fun _ => rfl) (fun A' c' => ?_)
    refine go ?_
    exact ⟨_, _, _, _, ⟨j + 1, .slice A' (ps.length + 1) c', ps ++ [qn], rfl, rfl, rfl, hG.trans hF3, by simp [hpl], fun r hr => by
      have := regs_snoc (R := fun j => rw_ n S (p.outs.getD j 0)) hF3 hpl (fun r hr => hps.out r (by omega)) hqn r (by simp [hpl] at hr; omega)
      exact this, by omega⟩, ⟨rfl, rfl, rfl, rfl, eqI (by omega), trivial⟩, by simp only [gC, List.length_append, List.map_append, List.length_singleton, List.map_cons, List.map_nil]; exact Turn.refl _ _, rfl, by omega⟩
  · obtain rfl : j = p.outs.length := by omega
    refine c_iceM (l := ps) (f := vS) z0S 0 rfl (fun hR => ?_)
    refine go ?_
    exact b_ret rfl (.cons (.tmp rfl) (.cons (.tmp rfl) .nil)) (Turn.refl _ _) ⟨rfl, hG.trans (Fz.add_le _ _), _, rfl, ps, hR, hpl, hps.out.le (Fz.add_le _ _)⟩
theorem run68 {F : Fz} (hGl : Gl F) {n k : Nat} {p : Prg} {cv ov v : Value} {L O : Nat → List Int} (hP : PrR F cv ov p) (hok : p.ok) (hn1 : 1 ≤ n) (hn : n ≤ 4096) (hk : k ≤ 3000000000) (hL : ∀ i, i < n → ((L i).length : Int) = p.ins) (hb : ∀ i, i < n → ∀ x ∈ L i, x.natAbs < 2 ^ k)
    (hv : RowsR F v p.ins.toNat fun r => rw_ n (fun i => rg0 (L i)) r) (hr : ∀ i, i < n → Runs p (L i) (O i)) : Pu 68 [vPr p cv ov, v] F fun u F' => ∃ v', u = .tuple #[v', .int .i64 (p.code.length : Nat), .int .i64 0] ∧ RowsR F' v' p.outs.length fun j => (List.range n).map fun i => (O i).getD j 0 := fun own => by
  obtain ⟨A1, c1, A2, c2, e1, e2, hP⟩ := hP.sl
  subst e1 e2
  have o1 := hok.len
  have hv0 := hv
  obtain ⟨qs0, hq0, hql0, _⟩ := hv
  obtain ⟨A, c, rfl⟩ := hq0.dest
  have hr := Wrp.mk hr
  have hb := Wrp.mk hb
  have hL := Wrp.mk hL
  refine n_fun Tryz.func68 Tryz.ntmps68 rfl rfl rfl ?_
  refine go ?_
  intro r2
  refine go ?_
  refine c_scope (fun _ _ h => h) ?_
  refine go ?_
  refine o_call rfl (new109 (n := n) hP hok hn1 hn hv0 (fun i hi r h => rg0_hi (by rw [hL.out i hi]; exact h)) _) (fun u o F1 ⟨rm, g, c', B1, d1, B2, d2, qs, e1, e2, hF1, hP1, hql, hqr⟩ => ⟨_, .text, ?_⟩) (List.Sublist.refl _)
  subst e1 e2
  refine go ?_
  refine c_loopT (fun m X o G => ∃ (j : Nat) (qs : List SZ) (S : Nat → Rg), m = p.code.length - j ∧ X = [(7, .pointer (some ⟨rm, 0, none⟩))] ∧ mC rm p (.slice B1 p.code.length d1) (.slice B2 p.outs.length d2) (.slice (some ⟨g, 0, none⟩) p.regs.toNat c') j :: gC (.slice (some ⟨g, 0, none⟩) p.regs.toNat c') p.regs.toNat qs :: .c r2 [.int .i64 p.ins, .int .i64 p.regs, .slice A1 p.code.length c1, .slice A2 p.outs.length c2] :: own = o ∧ Fle F1 G ∧ qs.length = p.regs.toNat ∧ RegR G qs (fun r => rw_ n S r) ∧ AtI p L n j S ∧ j ≤ p.code.length)
    ⟨_, _, _, _, ⟨0, qs, _, rfl, rfl, rfl, Fle.refl _, hql, hqr, fun i hi => by rw [List.take_zero]; rfl, by omega⟩, ⟨rfl, trivial⟩, Turn.refl _ _⟩ ?_
  rintro _ _ _ G b ⟨j, qs, S, rfl, rfl, rfl, hG, hpl, hRG, hAt, hj⟩
  by_cases hjl : j < p.code.length
  · obtain ⟨w, hw, hAt'⟩ := atI_step hAt hjl (fun i hi => by obtain ⟨s, hs, _⟩ := hr.out i hi; exact ⟨s, hs⟩)
    have hlt := atI_lt hok hAt hb.out
    refine go ?_
    refine o_call rfl (step110 ((hGl.le hF1).le hG) (hP1.le hG) hok hn1 (by omega) (by omega) hjl hpl hRG hlt hw _) (fun u o F2 ⟨e1, hF2, qs', e2, hql', hqr'⟩ => ⟨_, .text, ?_⟩) (List.Sublist.refl _)
    subst e1 e2
    have hqr' := Wrp.mk hqr'
    have hAt' := Wrp.mk hAt'
    clear hlt hw hAt hRG
    refine go ?_
    exact ⟨_, _, _, _, ⟨j + 1, qs', _, rfl, rfl, rfl, hG.trans hF2, hql', hqr'.out, hAt'.out, by omega⟩, ⟨rfl, trivial⟩, Turn.refl _ _, rfl, by omega⟩
  · obtain rfl : j = p.code.length := by omega
    have hRG := Wrp.mk hRG
    have hAt := Wrp.mk hAt
    refine go ?_
    refine o_call rfl (step110e _) (fun u o F2 ⟨e1, e2, e3⟩ => ⟨_, .text, ?_⟩) (List.Sublist.refl _)
    subst e1 e2 e3
    refine go ?_
    refine o_call rfl (outs111 (hP1.le hG) hok hn1 (by omega) hpl hRG.out _) (fun u o F3 ⟨e1, hF3, v', e2, hv'⟩ => ⟨_, .text, ?_⟩) (List.Sublist.refl _)
    subst e1 e2
    obtain ⟨ps, hps, hpsl, hpsr⟩ := hv'
    obtain ⟨A3, c3, e⟩ := hps.dest
    subst e
    refine goT ?_
    refine c_drww [mC rm p (.slice B1 p.code.length d1) (.slice B2 p.outs.length d2) (.slice (some ⟨g, 0, none⟩) p.regs.toNat c') p.code.length] sl rfl (by decide +kernel) ?_
    refine go ?_
    refine b_ret rfl (.cons (.tmp rfl) (.cons (.tmp rfl) (.cons (.tmp rfl) .nil))) (Turn.of sl (Fle.refl _)) ⟨rfl, hF1.trans (hG.trans hF3), _, rfl, ps, hps, hpsl, hpsr.congr fun r hr' => ?_⟩
    refine List.map_congr_left fun i hi => ?_
    have hi := List.mem_range.1 hi
    obtain ⟨s, hs, ho⟩ := hr.out i hi
    have := hAt.out i hi
    rw [List.take_length, hs] at this
    rw [ho, Option.some.inj this]
    have hrl : r < p.outs.length := by omega
    simp [List.getD_eq_getElem?_getD, hrl]
end Go.Proofs.YthkoodpnepfijaaGreatDoor

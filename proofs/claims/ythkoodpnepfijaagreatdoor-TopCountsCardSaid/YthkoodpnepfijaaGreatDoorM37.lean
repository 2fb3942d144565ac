/-
  Steps towards TopCounts (no conditions of their own): WALKS: check: a unit in memory; parts, Unit. WALKS: check: Raw, programs, Compile. WALKS: toom: copied, New, Levels.
-/
import Derived.Test.YthkoodpnepfijaaGreatDoorM36
/- YQ: WALKS: check: a unit in memory; parts, Unit. -/
namespace Go.Proofs.YthkoodpnepfijaaGreatDoor
open Go.RowKit
set_option linter.unusedVariables false
set_option linter.unusedSimpArgs false
set_option maxRecDepth 100000
set_option maxHeartbeats 1000000
/-- A unit in memory. -/
structure UnC where
  K : Nat
  l : List Pnt
  Al : Option Addr
  cl : Nat
  pl : Prg
  A1 : Option Addr
  c1 : Nat
  A2 : Option Addr
  c2 : Nat
  pr : Prg
  A3 : Option Addr
  c3 : Nat
  A4 : Option Addr
  c4 : Nat
  pb : Prg
  A5 : Option Addr
  c5 : Nat
  A6 : Option Addr
  c6 : Nat
def vUn (u : UnC) : List Value := [.int .i64 (u.K : Nat), .int .i64 (u.K : Nat), .slice u.Al u.l.length u.cl, .int .i64 u.pl.ins, .int .i64 u.pl.regs, .slice u.A1 u.pl.code.length u.c1, .slice u.A2 u.pl.outs.length u.c2, .int .i64 u.pr.ins, .int .i64 u.pr.regs, .slice u.A3 u.pr.code.length u.c3, .slice u.A4 u.pr.outs.length u.c4, .int .i64 u.pb.ins, .int .i64 u.pb.regs, .slice u.A5 u.pb.code.length u.c5, .slice u.A6 u.pb.outs.length u.c6]
/-- A unit that is right: split counts, points, programs that do what they must. -/
structure UnOk (u : UnC) : Prop where
  k1 : 1 ≤ u.K
  k8 : u.K ≤ 8
  right : RightQ u.l
  len : u.l.length = u.K + u.K - 1
  okL : u.pl.ok
  okR : u.pr.ok
  okB : u.pb.ok
  ndL : NoDiv u.pl
  ndR : NoDiv u.pr
  insL : u.pl.ins = u.K
  insR : u.pr.ins = u.K
  insB : u.pb.ins = u.l.length
  outL : u.pl.outs.length = u.l.length
  outR : u.pr.outs.length = u.l.length
  outB : u.pb.outs.length = u.l.length
  runL : ∀ c : List Int, c.length = u.K → Runs u.pl c (vals (fun j => c.getD j 0) (u.K - 1) u.l)
  runR : ∀ c : List Int, c.length = u.K → Runs u.pr c (vals (fun j => c.getD j 0) (u.K - 1) u.l)
  runB : ∀ c : Nat → Int, (∀ j, u.l.length ≤ j → c j = 0) → Runs u.pb (vals c (u.l.length - 1) u.l) ((List.range u.l.length).map c)
structure UnR (F : Fz) (u : UnC) : Prop where
  pts : PtsR F (.slice u.Al u.l.length u.cl) u.l
  L : PrR F (.slice u.A1 u.pl.code.length u.c1) (.slice u.A2 u.pl.outs.length u.c2) u.pl
  R : PrR F (.slice u.A3 u.pr.code.length u.c3) (.slice u.A4 u.pr.outs.length u.c4) u.pr
  B : PrR F (.slice u.A5 u.pb.code.length u.c5) (.slice u.A6 u.pb.outs.length u.c6) u.pb
theorem UnR.le {F G : Fz} {u : UnC} (h : UnR F u) (hl : Fle F G) : UnR G u := ⟨RowS.le h.pts hl, h.L.le hl, h.R.le hl, h.B.le hl⟩
theorem V_unit {A B : Int} {e i : Nat} (h : i ≤ e) : V (fun j => if j = i then 1 else 0) e A B = A ^ i * B ^ (e - i) := by
  rw [V_sm]
  have : ∀ j, (if j = i then (1 : Int) else 0) * (A ^ j * B ^ (e - j)) = if i = j then A ^ i * B ^ (e - i) else 0 := fun j => by
    by_cases hj : j = i
    · subst hj; rw [if_pos rfl, if_pos rfl, Int.one_mul]
    · rw [if_neg hj, if_neg (fun h => hj h.symm), Int.zero_mul]
  rw [sm_congr fun j _ => this j, sm_one, if_pos (by omega)]
theorem UnOk.uL {u : UnC} (h : UnOk u) : ∀ i, i < u.K → Runs u.pl (unitL u.K i) (outE u.l u.K i) := fun i hi => by
  have h1 := h.runL (unitL u.K i) (by simp [unitL])
  have e : vals (fun j => (unitL u.K i).getD j 0) (u.K - 1) u.l = outE u.l u.K i := by
    unfold vals outE
    refine List.map_congr_left fun q _ => ?_
    rw [powL_get hi, ← V_unit (show i ≤ u.K - 1 by omega)]
    exact V_congr fun j hj => unitL_get (by omega)
  rwa [e] at h1
theorem UnOk.uR {u : UnC} (h : UnOk u) : ∀ i, i < u.K → Runs u.pr (unitL u.K i) (outE u.l u.K i) := fun i hi => by
  have h1 := h.runR (unitL u.K i) (by simp [unitL])
  have e : vals (fun j => (unitL u.K i).getD j 0) (u.K - 1) u.l = outE u.l u.K i := by
    unfold vals outE
    refine List.map_congr_left fun q _ => ?_
    rw [powL_get hi, ← V_unit (show i ≤ u.K - 1 by omega)]
    exact V_congr fun j hj => unitL_get (by omega)
  rwa [e] at h1
theorem UnOk.uB {u : UnC} (h : UnOk u) : ∀ i, i < u.l.length → Runs u.pb (colG u.l u.l.length i) (unitL u.l.length i) := fun i hi => by
  have h1 := h.runB (fun j => if j = i then 1 else 0) (fun j hj => if_neg (by omega))
  have e : vals (fun j => if j = i then 1 else 0) (u.l.length - 1) u.l = colG u.l u.l.length i := by
    refine List.ext_getElem (by simp [vals, colG]) fun j h1 h2 => ?_
    have hj : j < u.l.length := by simpa [vals] using h1
    have h3 := vals_get (c := fun j => if j = i then 1 else 0) (e := u.l.length - 1) hj
    rw [List.getD_eq_getElem?_getD, List.getElem?_eq_getElem h1] at h3
    simp only [Option.getD_some] at h3
    rw [h3, V_unit (show i ≤ u.l.length - 1 by omega)]
    simp only [colG, List.getElem_map, List.getElem_range]
    rw [powL_get hi]
  rw [e] at h1
  exact h1
/-- A program of a unit, and what it must do. -/
structure PaC where
  p : Prg
  A : Option Addr
  c : Nat
  B : Option Addr
  d : Nat
  f : Nat
  r : Nat
def vPa (x : PaC) : List Value := [.int .i64 x.p.ins, .int .i64 x.p.regs, .slice x.A x.p.code.length x.c, .slice x.B x.p.outs.length x.d, .func (.func x.f) #[] #[.pointer (some ⟨x.r, 0, none⟩)]]
abbrev z0Pa : PaC := ⟨⟨0, 0, [], []⟩, none, 0, none, 0, 0, 0⟩
abbrev paL (u : UnC) (r : Nat) : List PaC := [⟨u.pl, u.A1, u.c1, u.A2, u.c2, 56, r⟩, ⟨u.pr, u.A3, u.c3, u.A4, u.c4, 58, r⟩, ⟨u.pb, u.A5, u.c5, u.A6, u.c6, 59, r⟩]
def vPg (p : Prg) (A : Option Addr) (c : Nat) (B : Option Addr) (d : Nat) : List Value := [.int .i64 p.ins, .int .i64 p.regs, .slice A p.code.length c, .slice B p.outs.length d]
theorem un_at0 {u : UnC} : ∀ i v, (vUn u)[i]? = some v → (vUn u)[0 + i]? = some v := fun i v hv => by rw [Nat.zero_add]; exact hv
theorem un_atL {u : UnC} : ∀ i v, (vPg u.pl u.A1 u.c1 u.A2 u.c2)[i]? = some v → (vUn u)[3 + i]? = some v := fun i v hv => by
  rcases i with _ | _ | _ | _ | i <;> first | exact hv | simp [vPg] at hv
theorem un_atR {u : UnC} : ∀ i v, (vPg u.pr u.A3 u.c3 u.A4 u.c4)[i]? = some v → (vUn u)[7 + i]? = some v := fun i v hv => by
  rcases i with _ | _ | _ | _ | i <;> first | exact hv | simp [vPg] at hv
theorem un_atB {u : UnC} : ∀ i v, (vPg u.pb u.A5 u.c5 u.A6 u.c6)[i]? = some v → (vUn u)[11 + i]? = some v := fun i v hv => by
  rcases i with _ | _ | _ | _ | i <;> first | exact hv | simp [vPg] at hv
theorem parts30 {F : Fz} {u : UnC} : Pu 30 [.agg (vUn u).toArray] F fun v F' => ∃ (A : Option Addr) (r : Nat) (lp : List PaC), v = .slice A lp.length 3 ∧ lp = paL u r ∧ RowS F' (.slice A lp.length 3) vPa 5 z0Pa lp ∧ Cs F' ⟨r, 0, none⟩ (vUn u) := fun own => by
  refine n_fun Tryz.func30 Tryz.ntmps30 rfl rfl rfl ?_
  refine go ?_
  intro r1
  refine go ?_
  refine o_loada (vs := vPg u.pl u.A1 u.c1 u.A2 u.c2) rfl rfl (rdsC 0 rfl un_atL) ?_
  refine go ?_
  refine o_loada (vs := vPg u.pr u.A3 u.c3 u.A4 u.c4) rfl rfl (rdsC 0 rfl un_atR) ?_
  refine go ?_
  refine o_loada (vs := vPg u.pb u.A5 u.c5 u.A6 u.c6) rfl rfl (rdsC 0 rfl un_atB) ?_
  refine go ?_
  refine o_lit (m := 3) rfl rfl rfl rfl rfl (fun rs => ?_)
  refine go ?_
  exact b_ret rfl (.cons (.tmp rfl) .nil) (Turn.ice.trans Turn.ice) ⟨rfl, (Fz.add_le _ _).trans (Fz.add_le _ _), some ⟨rs, 0, none⟩, r1, paL u r1, rfl, rfl, RowS.le (rowS_ice (f := vPa) (l := paL u r1) z0Pa (fun _ => rfl) rfl (Nat.le_refl _)) (Fz.add_le _ _), ice_cs⟩
theorem unit17 {F : Fz} (hGl : Gl F) {u : UnC} (hR : UnR F u) (hok : UnOk u) : Pu 17 [.agg (vUn u).toArray] F fun v F' => v = .tuple #[.int .i64 0, .int .i64 0] := fun own => by
  have k1 := hok.k1
  have k8 := hok.k8
  refine n_fun Tryz.func17 Tryz.ntmps17 rfl rfl rfl ?_
  refine go ?_
  intro r1
  refine go ?_
  refine o_pu rfl (new24 hR.pts hok.right k1 k8 k1 k8 hok.len) (fun v F1 hF1 ⟨r, e⟩ => ?_) sl
  subst e
  refine go ?_
  refine o_pu rfl (parts30 (u := u)) (fun v F2 hF2 ⟨A, r, lp, e, elp, hpa, hcs⟩ => ?_) sl
  subst e
  have hl3 : lp.length = 3 := by rw [elp]; rfl
  have h0 : lp.getD 0 z0Pa = ⟨u.pl, u.A1, u.c1, u.A2, u.c2, 56, r⟩ := by rw [elp]; rfl
  have h1 : lp.getD 1 z0Pa = ⟨u.pr, u.A3, u.c3, u.A4, u.c4, 58, r⟩ := by rw [elp]; rfl
  have h2 : lp.getD 2 z0Pa = ⟨u.pb, u.A5, u.c5, u.A6, u.c6, 59, r⟩ := by rw [elp]; rfl
  clear elp
  refine go ?_
  have hR2 := (hR.le hF1).le hF2
  have hGl2 := (hGl.le hF1).le hF2
  refine c_loopT (fun m X o G => ∃ i : Nat, m = 3 - i ∧ X = [(25, .slice A lp.length 3), (26, .int .i64 (lp.length : Nat)), (27, .int .i64 (i : Nat))] ∧ .c r1 (vUn u) :: own = o ∧ Fle F2 G ∧ i ≤ 3)
    ⟨_, _, _, _, ⟨0, rfl, rfl, rfl, Fle.refl _, by omega⟩, ⟨rfl, rfl, rfl, trivial⟩, Turn.refl _ _⟩ ?_
  rintro _ _ _ G b ⟨i, rfl, rfl, rfl, hG, hi⟩
  have hR3 := hR2.le hG
  have hGl3 := hGl2.le hG
  have hpa' : RowS G (.slice A lp.length 3) vPa 5 z0Pa lp := RowS.le hpa hG
  have hcs' : Cs G ⟨r, 0, none⟩ (vUn u) := fun i v h => hG _ _ (hcs i v h)
  rcases (show i = 0 ∨ i = 1 ∨ i = 2 ∨ i = 3 by omega) with rfl | rfl | rfl | rfl
  · refine go ?_
    intro r7
    rw [h0]
    refine go ?_
    refine o_loada (vs := vPg u.pl u.A1 u.c1 u.A2 u.c2) rfl rfl (rdsC 0 rfl (fun i v hv => by
      rcases i with _ | _ | _ | _ | i <;> first | exact hv | simp [vPg] at hv)) ?_
    refine go ?_
    refine o_pu rfl (check28 hR3.L hok.okL) (fun v F3 hF3 e => ?_) sl
    subst e
    refine go ?_
    refine o_loada (vs := vPg u.pl u.A1 u.c1 u.A2 u.c2) rfl rfl (rdsC 0 rfl (fun i v hv => by
      rcases i with _ | _ | _ | _ | i <;> first | exact hv | simp [vPg] at hv)) ?_
    refine go ?_
    refine o_callv (us := []) (ws := [.pointer (some ⟨r, 0, none⟩)]) (vs := [vPr u.pl _ _]) rfl rfl rfl (parts56 (hGl3.le hF3) (rest := (vUn u).drop 3) (fun i v h => hF3 _ _ (hcs' i v h)) (hR3.L.le hF3) hok.okL (RowS.le hR3.pts hF3) hok.right k1 k8 hok.ndL hok.insL hok.outL hok.uL _) (fun v o F4 ⟨e1, hF4, e2⟩ => ⟨_, .text, ?_⟩) (List.Sublist.refl _)
    subst e1 e2
    refine go ?_
    exact ⟨_, _, _, _, ⟨1, rfl, rfl, rfl, (hG.trans hF3).trans hF4, by omega⟩, ⟨rfl, rfl, rfl, trivial⟩, Turn.drop, rfl, by omega⟩
  · refine go ?_
    intro r7
    rw [h1]
    refine go ?_
    refine o_loada (vs := vPg u.pr u.A3 u.c3 u.A4 u.c4) rfl rfl (rdsC 0 rfl (fun i v hv => by
      rcases i with _ | _ | _ | _ | i <;> first | exact hv | simp [vPg] at hv)) ?_
    refine go ?_
    refine o_pu rfl (check28 hR3.R hok.okR) (fun v F3 hF3 e => ?_) sl
    subst e
    refine go ?_
    refine o_loada (vs := vPg u.pr u.A3 u.c3 u.A4 u.c4) rfl rfl (rdsC 0 rfl (fun i v hv => by
      rcases i with _ | _ | _ | _ | i <;> first | exact hv | simp [vPg] at hv)) ?_
    refine go ?_
    refine o_callv (us := []) (ws := [.pointer (some ⟨r, 0, none⟩)]) (vs := [vPr u.pr _ _]) rfl rfl rfl (parts58 (hGl3.le hF3) (rest := (vUn u).drop 3) (fun i v h => hF3 _ _ (hcs' i v h)) (hR3.R.le hF3) hok.okR (RowS.le hR3.pts hF3) hok.right k1 k8 hok.ndR hok.insR hok.outR hok.uR _) (fun v o F4 ⟨e1, hF4, e2⟩ => ⟨_, .text, ?_⟩) (List.Sublist.refl _)
    subst e1 e2
    refine go ?_
    exact ⟨_, _, _, _, ⟨2, rfl, rfl, rfl, (hG.trans hF3).trans hF4, by omega⟩, ⟨rfl, rfl, rfl, trivial⟩, Turn.drop, rfl, by omega⟩
  · refine go ?_
    intro r7
    rw [h2]
    refine go ?_
    refine o_loada (vs := vPg u.pb u.A5 u.c5 u.A6 u.c6) rfl rfl (rdsC 0 rfl (fun i v hv => by
      rcases i with _ | _ | _ | _ | i <;> first | exact hv | simp [vPg] at hv)) ?_
    refine go ?_
    refine o_pu rfl (check28 hR3.B hok.okB) (fun v F3 hF3 e => ?_) sl
    subst e
    refine go ?_
    refine o_loada (vs := vPg u.pb u.A5 u.c5 u.A6 u.c6) rfl rfl (rdsC 0 rfl (fun i v hv => by
      rcases i with _ | _ | _ | _ | i <;> first | exact hv | simp [vPg] at hv)) ?_
    refine go ?_
    refine o_callv (us := []) (ws := [.pointer (some ⟨r, 0, none⟩)]) (vs := [vPr u.pb _ _]) rfl rfl rfl (parts59 (rest := (vUn u).drop 3) (fun i v h => hF3 _ _ (hcs' i v h)) (hR3.B.le hF3) hok.okB (RowS.le hR3.pts hF3) hok.right hok.insB hok.outB hok.uB _) (fun v o F4 ⟨e1, hF4, e2⟩ => ⟨_, .text, ?_⟩) (List.Sublist.refl _)
    subst e1 e2
    refine go ?_
    exact ⟨_, _, _, _, ⟨3, rfl, rfl, rfl, (hG.trans hF3).trans hF4, by omega⟩, ⟨rfl, rfl, rfl, trivial⟩, Turn.drop, rfl, by omega⟩
  · refine go ?_
    exact b_ret rfl (.cons (.tmp rfl) (.cons (.tmp rfl) .nil)) Turn.drop ⟨rfl, (hF1.trans hF2).trans hG, rfl⟩
end Go.Proofs.YthkoodpnepfijaaGreatDoor
/- YR: WALKS: check: Raw, programs, Compile. -/
namespace Go.Proofs.YthkoodpnepfijaaGreatDoor
open Go.RowKit
set_option linter.unusedVariables false
set_option linter.unusedSimpArgs false
set_option maxRecDepth 100000
set_option maxHeartbeats 1000000
theorem evalP_hull {K : Nat} {l : List Pnt} (hr : RightQ l) (k1 : 1 ≤ K) (k8 : K ≤ 8) : (evalP K l).hull := by
  have h1 := hr.len
  have h2 := hr.len15
  have h3 := evalC_len K l k8 h2
  refine ⟨?_, ?_, ?_, ?_, ?_, ?_, fun r hr => ?_⟩
  · show (1 : Int) ≤ (K : Nat); omega
  · show ((K : Nat) : Int) ≤ ((K + l.length + 1 : Nat) : Int); omega
  · show ((K + l.length + 1 : Nat) : Int) ≤ 128; omega
  · show (evalC K l).length ≤ 100000; omega
  · simp [evalP]; omega
  · simp [evalP]; omega
  · simp only [evalP, List.mem_map, List.mem_range] at hr
    obtain ⟨i, hi, e⟩ := hr
    show 0 ≤ r ∧ r < ((K + l.length + 1 : Nat) : Int)
    split at e <;> omega
theorem madeP_hull {l : List Pnt} (hr : RightQ l) : (madeP l).hull := by
  have h1 := hr.len
  have h2 := hr.len15
  have h3 := madeC_len h2
  refine ⟨?_, ?_, ?_, ?_, ?_, ?_, fun r hr => ?_⟩
  · show (1 : Int) ≤ (l.length : Nat); omega
  · show ((l.length : Nat) : Int) ≤ ((3 * l.length + 1 : Nat) : Int); omega
  · show ((3 * l.length + 1 : Nat) : Int) ≤ 128; omega
  · show (madeC l).length ≤ 100000; omega
  · simp [madeP]; omega
  · simp [madeP]; omega
  · simp only [madeP, List.mem_map, List.mem_range] at hr
    obtain ⟨i, hi, e⟩ := hr
    show 0 ≤ r ∧ r < ((3 * l.length + 1 : Nat) : Int)
    omega
abbrev z15 : List Value := [.int .i64 0, .int .i64 0, .slice none 0 0, .int .i64 0, .int .i64 0, .slice none 0 0, .slice none 0 0, .int .i64 0, .int .i64 0, .slice none 0 0, .slice none 0 0, .int .i64 0, .int .i64 0, .slice none 0 0, .slice none 0 0]
theorem raw14n {F : Fz} {v : Value} {l : List Pnt} {a b : Int} (hl : PtsR F v l) (hlen : l.length ≤ 17592186044416) (h : ¬ GoodS a b l) : Pu 14 [.int .i64 a, .int .i64 b, v] F fun u F' => ∃ e : Int, u = .tuple #[.agg z15.toArray, .int .i64 e] ∧ e ≠ 0 := fun own => by
  obtain ⟨A, c, e⟩ := hl.dest
  subst e
  refine n_fun Tryz.func14 Tryz.ntmps14 rfl rfl rfl ?_
  refine go ?_
  intro r6
  refine go ?_
  refine o_pu rfl (new24n hl hlen h) (fun u F1 hF1 ⟨e, e1, he⟩ => ?_) sl
  subst e1
  refine go ?_
  exact b_ret rfl (.cons (.cella rfl rfl (rdsW 0 rfl)) (.cons (.tmp rfl) .nil)) (Turn.of sl (Fle.refl _)) ⟨rfl, hF1, e, rfl, he⟩
theorem raw14 {F : Fz} (hGl : Gl F) {v : Value} {l : List Pnt} {K : Nat} (hl : PtsR F v l) (hr : RightQ l) (k1 : 1 ≤ K) (k8 : K ≤ 8) (hab : l.length = K + K - 1) : Pu 14 [.int .i64 (K : Nat), .int .i64 (K : Nat), v] F fun w F' => ∃ u : UnC, w = .tuple #[.agg (vUn u).toArray, .int .i64 0] ∧ UnR F' u ∧ u.K = K ∧ u.l = l ∧ u.pl = evalP K l ∧ u.pr = evalP K l ∧ u.pb = madeP l := fun own => by
  obtain ⟨A, c, e⟩ := hl.dest
  subst e
  have n2 := hr.len15
  refine n_fun Tryz.func14 Tryz.ntmps14 rfl rfl rfl ?_
  refine go ?_
  intro r6
  refine go ?_
  refine o_pu rfl (new24 hl hr k1 k8 k1 k8 hab) (fun u F1 hF1 ⟨r, e⟩ => ?_) sl
  subst e
  have hl1 := RowS.le hl hF1
  refine go ?_
  refine o_pu rfl (clone25 hl1 (by omega)) (fun v2 F2 hF2 h2 => ?_) sl
  obtain ⟨A2, c2, e2⟩ := h2.dest
  subst e2
  have hl2 := RowS.le hl1 hF2
  refine go ?_
  intro r10
  refine go ?_
  refine o_pu rfl (eval26 ((hGl.le hF1).le hF2) hl2 hr k1 k8) (fun v3 F3 hF3 ⟨cv, ov, e, hP3⟩ => ?_) sl
  obtain ⟨B1, d1, B2, d2, e1, e2, hP3⟩ := hP3.sl
  subst e1 e2 e
  have hl3 := RowS.le hl2 hF3
  refine go ?_
  refine o_pu rfl (eval26 (((hGl.le hF1).le hF2).le hF3) hl3 hr k1 k8) (fun v4 F4 hF4 ⟨cv, ov, e, hP4⟩ => ?_) sl
  obtain ⟨B3, d3, B4, d4, e1, e2, hP4⟩ := hP4.sl
  subst e1 e2 e
  have hl4 := RowS.le hl3 hF4
  refine go ?_
  refine o_pu rfl (program27 hl4 hr) (fun v5 F5 hF5 ⟨cv, ov, e, hP5⟩ => ?_) sl
  obtain ⟨B5, d5, B6, d6, e1, e2, hP5⟩ := hP5.sl
  subst e1 e2 e
  refine go ?_
  exact b_ret rfl (.cons (.cella rfl rfl (rdsW 1 rfl)) (.cons (.tmp rfl) .nil)) (Turn.of sl (Fle.refl _)) ⟨rfl, hF1.trans (hF2.trans (hF3.trans (hF4.trans hF5))), ⟨K, l, A2, c2, evalP K l, B1, d1, B2, d2, evalP K l, B3, d3, B4, d4, madeP l, B5, d5, B6, d6⟩, rfl, ⟨RowS.le h2 (hF3.trans (hF4.trans hF5)), hP3.le (hF4.trans hF5), hP4.le hF5, hP5⟩, rfl, rfl, rfl, rfl, rfl⟩
abbrev ptA (r : Nat) (k : Nat) : Value := .pointer (some ((⟨r, 0, none⟩ : Addr).add k))
theorem programs15 {F : Fz} {r : Nat} : Pu 15 [.pointer (some ⟨r, 0, none⟩)] F fun v F' => ∃ (A : Option Addr) (lp : List Nat), v = .slice A lp.length 3 ∧ lp = [3, 7, 11] ∧ RowM F' (.slice A lp.length 3) (ptA r) 0 lp := fun own => by
  refine n_fun Tryz.func15 Tryz.ntmps15 rfl rfl rfl ?_
  refine goT ?_
  refine c_drww [] sl rfl (by decide +kernel) ?_
  refine go ?_
  refine o_lit (m := 3) rfl rfl rfl rfl rfl (fun rs => ?_) sl (fun _ => .keep sl (Fle.refl _))
  refine go ?_
  exact b_ret rfl (.cons (.tmp rfl) .nil) Turn.ice ⟨rfl, Fz.add_le _ _, some ⟨rs, 0, none⟩, [3, 7, 11], rfl, rfl, row_ice' (vs := [3, 7, 11].map (ptA r)) (Nat.le_refl _)⟩
/-- Compile's loop: so many programs are done. -/
structure Stg (K : Nat) (l : List Pnt) (i : Nat) (u : UnC) : Prop where
  hk : u.K = K
  hl : u.l = l
  l0 : i = 0 → u.pl = evalP K l
  l1 : 0 < i → Sim (evalP K l) u.pl
  r0 : i ≤ 1 → u.pr = evalP K l
  r1 : 1 < i → Sim (evalP K l) u.pr
  b0 : i ≤ 2 → u.pb = madeP l
  b1 : 2 < i → Sim (madeP l) u.pb
theorem Stg.fin {K : Nat} {l : List Pnt} {u : UnC} (h : Stg K l 3 u) (hr : RightQ l) (k1 : 1 ≤ K) (k8 : K ≤ 8) (hab : l.length = K + K - 1) : UnOk u := by
  have sL := h.l1 (by decide)
  have sR := h.r1 (by decide)
  have sB := h.b1 (by decide)
  have hk := h.hk
  have hl := h.hl
  obtain ⟨K', l', Al, cl, pl, A1, c1, A2, c2, pr, A3, c3, A4, c4, pb, A5, c5, A6, c6⟩ := u
  simp only at hk hl sL sR sB
  subst hk hl
  have n1 := hr.len
  refine ⟨k1, k8, hr, hab, sL.ok, sR.ok, sB.ok, sL.nodiv (eval_nodiv _ _), sR.nodiv (eval_nodiv _ _), sL.ins, sR.ins, sB.ins, ?_, ?_, ?_, fun c hc => ?_, fun c hc => ?_, fun c hc => ?_⟩
  · rw [sL.outs]; simp [evalP]
  · rw [sR.outs]; simp [evalP]
  · rw [sB.outs]; simp [madeP]
  · exact sL.runs _ _ (by rw [hc]; rfl) (eval_runs k1 c hc)
  · exact sR.runs _ _ (by rw [hc]; rfl) (eval_runs k1 c hc)
  · exact sB.runs _ _ (by simp [vals, madeP]) (made_runs hr.right c hc)
theorem compile5n {F : Fz} {v : Value} {l : List Pnt} {a b : Int} (hl : PtsR F v l) (hlen : l.length ≤ 17592186044416) (h : ¬ GoodS a b l) : Pu 5 [.int .i64 a, .int .i64 b, v] F fun u F' => ∃ e : Int, u = .tuple #[.agg z15.toArray, .int .i64 e] ∧ e ≠ 0 := fun own => by
  obtain ⟨A, c, e⟩ := hl.dest
  subst e
  refine n_fun Tryz.func5 Tryz.ntmps5 rfl rfl rfl ?_
  refine go ?_
  intro r6
  refine go ?_
  refine o_pu rfl (raw14n hl hlen h) (fun u F1 hF1 ⟨e, e1, he⟩ => ?_) sl
  subst e1
  refine go ?_
  intro r8
  refine go ?_
  exact b_ret rfl (.cons (.cella rfl rfl (rdsW 1 rfl)) (.cons (.tmp rfl) .nil)) (Turn.of sl (Fle.refl _)) ⟨rfl, hF1, e, rfl, he⟩
theorem all16z {F : Fz} {p : Prg} {cv ov : Value} (hP : PrR F cv ov p) (hh : p.hull) (hn : ¬ p.ok) : Pu 16 [vPr p cv ov] F fun u F' => ∃ e : Int, u = .tuple #[.agg #[.int .i64 0, .int .i64 0, .slice none 0 0, .slice none 0 0], .int .i64 e] ∧ e ≠ 0 := fun own => by
  obtain ⟨A1, c1, A2, c2, e1, e2, hP⟩ := hP.sl
  subst e1 e2
  refine n_fun Tryz.func16 Tryz.ntmps16 rfl rfl rfl ?_
  refine go ?_
  intro r1 r2
  refine go ?_
  refine o_pu rfl (check28n hP hh hn) (fun v G1 hG1 ⟨z, e, e1, he⟩ => ?_) sl
  subst e1
  refine go ?_
  exact b_ret rfl (.cons (.cella rfl rfl (rdsW 0 rfl)) (.cons (.tmp rfl) .nil)) (Turn.of sl (Fle.refl _)) ⟨rfl, hG1, e, rfl, he⟩
/-- A unit, or an error. -/
def CompR (F : Fz) (K : Nat) (l : List Pnt) (w : Value) : Prop := ∃ e : Int, (e ≠ 0 ∧ w = .tuple #[.agg z15.toArray, .int .i64 e]) ∨ (e = 0 ∧ ∃ u : UnC, w = .tuple #[.agg (vUn u).toArray, .int .i64 0] ∧ UnR F u ∧ UnOk u ∧ u.K = K ∧ u.l = l)
theorem compile5 {F : Fz} (hGl : Gl F) {v : Value} {l : List Pnt} {K : Nat} (hl : PtsR F v l) (hr : RightQ l) (k1 : 1 ≤ K) (k8 : K ≤ 8) (hab : l.length = K + K - 1) : Pu 5 [.int .i64 (K : Nat), .int .i64 (K : Nat), v] F fun w F' => CompR F' K l w ∧ ((evalP K l).ok → (madeP l).ok → ∃ u, w = .tuple #[u, .int .i64 0]) := fun own => by
  obtain ⟨A, c, e⟩ := hl.dest
  subst e
  refine n_fun Tryz.func5 Tryz.ntmps5 rfl rfl rfl ?_
  refine go ?_
  intro r6
  refine go ?_
  refine o_pu rfl (raw14 hGl hl hr k1 k8 hab) (fun w F1 hF1 ⟨u0, e1, hR0, hK0, hl0, hpl0, hpr0, hpb0⟩ => ?_) sl
  subst e1
  refine go ?_
  intro r8
  refine go ?_
  refine o_pu rfl (programs15 (r := r8)) (fun w F2 hF2 ⟨B, lp, e, elp, hlp⟩ => ?_) sl
  subst e
  have hl3 : lp.length = 3 := by rw [elp]; rfl
  have h0 : lp.getD 0 0 = 3 := by rw [elp]; rfl
  have h1 : lp.getD 1 0 = 7 := by rw [elp]; rfl
  have h2 : lp.getD 2 0 = 11 := by rw [elp]; rfl
  clear elp
  refine go ?_
  refine c_loopT (fun m X o G => ∃ (i : Nat) (u : UnC), m = 3 - i ∧ X = [(6, .pointer (some ⟨r6, 0, none⟩)), (8, .pointer (some ⟨r8, 0, none⟩)), (25, .slice B lp.length 3), (26, .int .i64 (lp.length : Nat)), (27, .int .i64 (i : Nat))] ∧ .c r8 (vUn u) :: .c r6 z15 :: own = o ∧ Fle F2 G ∧ UnR G u ∧ Stg K l i u ∧ i ≤ 3)
    ⟨_, _, _, _, ⟨0, u0, rfl, rfl, rfl, Fle.refl _, hR0.le hF2, ⟨hK0, hl0, fun _ => hpl0, fun h => absurd h (by decide), fun _ => hpr0, fun h => absurd h (by decide), fun _ => hpb0, fun h => absurd h (by decide)⟩, by omega⟩, ⟨rfl, rfl, rfl, rfl, rfl, trivial⟩, Turn.refl _ _⟩ ?_
  rintro _ _ _ G b ⟨i, u, rfl, rfl, rfl, hG, hRu, hSt, hi⟩
  have hlp' := RowM.le hlp hG
  have hGl3 := ((hGl.le hF1).le hF2).le hG
  rcases (show i = 0 ∨ i = 1 ∨ i = 2 ∨ i = 3 by omega) with rfl | rfl | rfl | rfl
  · refine go ?_
    rw [h0]
    refine go ?_
    refine o_loada (vs := vPg u.pl u.A1 u.c1 u.A2 u.c2) rfl rfl (rdsC 0 rfl un_atL) ?_
    refine go ?_
    have hpe := hSt.l0 rfl
    by_cases hok : u.pl.ok
    · refine o_pu rfl (all16 hGl3 hRu.L hok) (fun w F3 hF3 ⟨q, cv', ov', e, hP', hS⟩ => ?_) sl
      obtain ⟨E1, f1, E2, f2, e1, e2, hP'⟩ := hP'.sl
      subst e1 e2 e
      rw [hpe] at hS
      refine go ?_
      intro r12
      refine go ?_
      exact ⟨_, _, _, _, ⟨1, { u with pl := q, A1 := E1, c1 := f1, A2 := E2, c2 := f2 }, rfl, rfl, rfl, hG.trans hF3, ⟨RowS.le hRu.pts hF3, hP', hRu.R.le hF3, hRu.B.le hF3⟩, ⟨hSt.hk, hSt.hl, fun h => absurd h (by decide), fun _ => hS, fun _ => hSt.r0 (by decide), fun h => absurd h (by decide), fun _ => hSt.b0 (by decide), fun h => absurd h (by decide)⟩, by omega⟩, ⟨rfl, rfl, rfl, rfl, rfl, trivial⟩, Turn.drop, rfl, by omega⟩
    · refine o_pu rfl (all16z hRu.L (by rw [hpe]; exact evalP_hull hr k1 k8) hok) (fun w F3 hF3 ⟨e, e1, he⟩ => ?_) sl
      subst e1
      refine go ?_
      intro r12
      refine go ?_
      exact b_ret rfl (.cons (.cella rfl rfl (rdsW 2 rfl)) (.cons (.tmp rfl) .nil)) (Turn.of sl (Fle.refl _)) ⟨rfl, hF1.trans (hF2.trans (hG.trans hF3)), ⟨e, .inl ⟨he, rfl⟩⟩, fun h1 h2 => absurd (by rw [hpe]; exact h1) hok⟩
  · refine go ?_
    rw [h1]
    refine go ?_
    refine o_loada (vs := vPg u.pr u.A3 u.c3 u.A4 u.c4) rfl rfl (rdsC 0 rfl un_atR) ?_
    refine go ?_
    have hpe := hSt.r0 (by decide)
    by_cases hok : u.pr.ok
    · refine o_pu rfl (all16 hGl3 hRu.R hok) (fun w F3 hF3 ⟨q, cv', ov', e, hP', hS⟩ => ?_) sl
      obtain ⟨E1, f1, E2, f2, e1, e2, hP'⟩ := hP'.sl
      subst e1 e2 e
      rw [hpe] at hS
      refine go ?_
      intro r12
      refine go ?_
      exact ⟨_, _, _, _, ⟨2, { u with pr := q, A3 := E1, c3 := f1, A4 := E2, c4 := f2 }, rfl, rfl, rfl, hG.trans hF3, ⟨RowS.le hRu.pts hF3, hRu.L.le hF3, hP', hRu.B.le hF3⟩, ⟨hSt.hk, hSt.hl, fun h => absurd h (by decide), fun _ => hSt.l1 (by decide), fun h => absurd h (by decide), fun _ => hS, fun _ => hSt.b0 (by decide), fun h => absurd h (by decide)⟩, by omega⟩, ⟨rfl, rfl, rfl, rfl, rfl, trivial⟩, Turn.drop, rfl, by omega⟩
    · refine o_pu rfl (all16z hRu.R (by rw [hpe]; exact evalP_hull hr k1 k8) hok) (fun w F3 hF3 ⟨e, e1, he⟩ => ?_) sl
      subst e1
      refine go ?_
      intro r12
      refine go ?_
      exact b_ret rfl (.cons (.cella rfl rfl (rdsW 2 rfl)) (.cons (.tmp rfl) .nil)) (Turn.of sl (Fle.refl _)) ⟨rfl, hF1.trans (hF2.trans (hG.trans hF3)), ⟨e, .inl ⟨he, rfl⟩⟩, fun h1 h2 => absurd (by rw [hpe]; exact h1) hok⟩
  · refine go ?_
    rw [h2]
    refine go ?_
    refine o_loada (vs := vPg u.pb u.A5 u.c5 u.A6 u.c6) rfl rfl (rdsC 0 rfl un_atB) ?_
    refine go ?_
    have hpe := hSt.b0 (by decide)
    by_cases hok : u.pb.ok
    · refine o_pu rfl (all16 hGl3 hRu.B hok) (fun w F3 hF3 ⟨q, cv', ov', e, hP', hS⟩ => ?_) sl
      obtain ⟨E1, f1, E2, f2, e1, e2, hP'⟩ := hP'.sl
      subst e1 e2 e
      rw [hpe] at hS
      refine go ?_
      intro r12
      refine go ?_
      exact ⟨_, _, _, _, ⟨3, { u with pb := q, A5 := E1, c5 := f1, A6 := E2, c6 := f2 }, rfl, rfl, rfl, hG.trans hF3, ⟨RowS.le hRu.pts hF3, hRu.L.le hF3, hRu.R.le hF3, hP'⟩, ⟨hSt.hk, hSt.hl, fun h => absurd h (by decide), fun _ => hSt.l1 (by decide), fun h => absurd h (by decide), fun _ => hSt.r1 (by decide), fun h => absurd h (by decide), fun _ => hS⟩, by omega⟩, ⟨rfl, rfl, rfl, rfl, rfl, trivial⟩, Turn.drop, rfl, by omega⟩
    · refine o_pu rfl (all16z hRu.B (by rw [hpe]; exact madeP_hull hr) hok) (fun w F3 hF3 ⟨e, e1, he⟩ => ?_) sl
      subst e1
      refine go ?_
      intro r12
      refine go ?_
      exact b_ret rfl (.cons (.cella rfl rfl (rdsW 2 rfl)) (.cons (.tmp rfl) .nil)) (Turn.of sl (Fle.refl _)) ⟨rfl, hF1.trans (hF2.trans (hG.trans hF3)), ⟨e, .inl ⟨he, rfl⟩⟩, fun h1 h2 => absurd (by rw [hpe]; exact h2) hok⟩
  · have hfin := hSt.fin hr k1 k8 hab
    refine go ?_
    exact b_ret rfl (.cons (.cella rfl rfl (rdsW 1 rfl)) (.cons (.tmp rfl) .nil)) (Turn.of sl (Fle.refl _)) ⟨rfl, hF1.trans (hF2.trans hG), ⟨0, .inr ⟨rfl, u, rfl, hRu, hfin, hSt.hk, hSt.hl⟩⟩, fun _ _ => ⟨_, rfl⟩⟩
end Go.Proofs.YthkoodpnepfijaaGreatDoor
/- YS: WALKS: toom: copied, New, Levels. -/
namespace Go.Proofs.YthkoodpnepfijaaGreatDoor
open Go.RowKit
set_option linter.unusedVariables false
set_option linter.unusedSimpArgs false
set_option maxRecDepth 100000
set_option maxHeartbeats 1000000
/-- The same unit, elsewhere. -/
structure UnS (u v : UnC) : Prop where
  hk : v.K = u.K
  hl : v.l = u.l
  pl : v.pl = u.pl
  pr : v.pr = u.pr
  pb : v.pb = u.pb
theorem UnOk.of {u v : UnC} (h : UnOk u) (s : UnS u v) : UnOk v := by
  obtain ⟨s1, s2, s3, s4, s5⟩ := s
  obtain ⟨K, l, Al, cl, pl, A1, c1, A2, c2, pr, A3, c3, A4, c4, pb, A5, c5, A6, c6⟩ := v
  simp only at s1 s2 s3 s4 s5
  subst s1 s2 s3 s4 s5
  exact ⟨h.k1, h.k8, h.right, h.len, h.okL, h.okR, h.okB, h.ndL, h.ndR, h.insL, h.insR, h.insB, h.outL, h.outR, h.outB, h.runL, h.runR, h.runB⟩
theorem copied18 {F : Fz} {u : UnC} (hR : UnR F u) (hok : UnOk u) : Pu 18 [.agg (vUn u).toArray] F fun w F' => ∃ v : UnC, w = .agg (vUn v).toArray ∧ UnR F' v ∧ UnS u v := fun own => by
  have n2 := hok.right.len15
  refine n_fun Tryz.func18 Tryz.ntmps18 rfl rfl rfl ?_
  refine go ?_
  intro r1 r2
  refine go ?_
  refine o_pu rfl (clone25 hR.pts (by omega)) (fun v2 F1 hF1 h2 => ?_) sl
  obtain ⟨A2, c2, e2⟩ := h2.dest
  subst e2
  have hR1 := hR.le hF1
  refine go ?_
  refine o_buildA rfl rfl ?_
  refine go ?_
  refine c_loopT (fun m X o G => ∃ (i : Nat) (v : UnC), m = 3 - i ∧ X = [(1, .pointer (some ⟨r1, 0, none⟩)), (2, .pointer (some ⟨r2, 0, none⟩)), (12, .agg [ptA r1 3, ptA r1 7, ptA r1 11].toArray), (13, .int .i64 (i : Nat))] ∧ .c r2 z15 :: .c r1 (vUn v) :: own = o ∧ Fle F1 G ∧ UnR G v ∧ UnS u v ∧ i ≤ 3)
    ⟨_, _, _, _, ⟨0, { u with Al := A2, cl := c2 }, rfl, rfl, rfl, Fle.refl _, ⟨h2, hR1.L, hR1.R, hR1.B⟩, ⟨rfl, rfl, rfl, rfl, rfl⟩, by omega⟩, ⟨rfl, rfl, rfl, rfl, trivial⟩, Turn.refl _ _⟩ ?_
  rintro _ _ _ G b ⟨i, v, rfl, rfl, rfl, hG, hRv, hS, hi⟩
  have hov := hok.of hS
  have l1 := hov.okL.len
  have l2 := hov.okL.outn
  have l3 := hov.okR.len
  have l4 := hov.okR.outn
  have l5 := hov.okB.len
  have l6 := hov.okB.outn
  rcases (show i = 0 ∨ i = 1 ∨ i = 2 ∨ i = 3 by omega) with rfl | rfl | rfl | rfl
  · refine go ?_
    refine o_ixa 0 rfl rfl rfl (by decide) rfl ?_
    refine go ?_
    refine o_loada (vs := vPg v.pl v.A1 v.c1 v.A2 v.c2) rfl rfl (rdsC 1 rfl un_atL) ?_
    refine go ?_
    refine o_pu rfl (copy31 hRv.L (by omega) (by omega)) (fun w F3 hF3 ⟨cv', ov', e, hP'⟩ => ?_) sl
    obtain ⟨E1, f1, E2, f2, e1, e2, hP'⟩ := hP'.sl
    subst e1 e2 e
    refine go ?_
    exact ⟨_, _, _, _, ⟨1, { v with A1 := E1, c1 := f1, A2 := E2, c2 := f2 }, rfl, rfl, rfl, hG.trans hF3, ⟨RowS.le hRv.pts hF3, hP', hRv.R.le hF3, hRv.B.le hF3⟩, ⟨hS.hk, hS.hl, hS.pl, hS.pr, hS.pb⟩, by omega⟩, ⟨rfl, rfl, rfl, rfl, trivial⟩, Turn.refl _ _, rfl, by omega⟩
  · refine go ?_
    refine o_ixa 1 rfl rfl rfl (by decide) rfl ?_
    refine go ?_
    refine o_loada (vs := vPg v.pr v.A3 v.c3 v.A4 v.c4) rfl rfl (rdsC 1 rfl un_atR) ?_
    refine go ?_
    refine o_pu rfl (copy31 hRv.R (by omega) (by omega)) (fun w F3 hF3 ⟨cv', ov', e, hP'⟩ => ?_) sl
    obtain ⟨E1, f1, E2, f2, e1, e2, hP'⟩ := hP'.sl
    subst e1 e2 e
    refine go ?_
    exact ⟨_, _, _, _, ⟨2, { v with A3 := E1, c3 := f1, A4 := E2, c4 := f2 }, rfl, rfl, rfl, hG.trans hF3, ⟨RowS.le hRv.pts hF3, hRv.L.le hF3, hP', hRv.B.le hF3⟩, ⟨hS.hk, hS.hl, hS.pl, hS.pr, hS.pb⟩, by omega⟩, ⟨rfl, rfl, rfl, rfl, trivial⟩, Turn.refl _ _, rfl, by omega⟩
  · refine go ?_
    refine o_ixa 2 rfl rfl rfl (by decide) rfl ?_
    refine go ?_
    refine o_loada (vs := vPg v.pb v.A5 v.c5 v.A6 v.c6) rfl rfl (rdsC 1 rfl un_atB) ?_
    refine go ?_
    refine o_pu rfl (copy31 hRv.B (by omega) (by omega)) (fun w F3 hF3 ⟨cv', ov', e, hP'⟩ => ?_) sl
    obtain ⟨E1, f1, E2, f2, e1, e2, hP'⟩ := hP'.sl
    subst e1 e2 e
    refine go ?_
    exact ⟨_, _, _, _, ⟨3, { v with A5 := E1, c5 := f1, A6 := E2, c6 := f2 }, rfl, rfl, rfl, hG.trans hF3, ⟨RowS.le hRv.pts hF3, hRv.L.le hF3, hRv.R.le hF3, hP'⟩, ⟨hS.hk, hS.hl, hS.pl, hS.pr, hS.pb⟩, by omega⟩, ⟨rfl, rfl, rfl, rfl, trivial⟩, Turn.refl _ _, rfl, by omega⟩
  · refine go ?_
    exact b_ret rfl (.cons (.cella rfl rfl (rdsW 0 rfl)) .nil) (Turn.of sl (Fle.refl _)) ⟨rfl, hF1.trans hG, v, rfl, hRv, hS⟩
/-- A machine. -/
structure MachR (F : Fz) (A : Addr) (u : UnC) : Prop where
  cs : Cs F A (vUn u)
  un : UnR F u
  ok : UnOk u
theorem MachR.le {F G : Fz} {A : Addr} {u : UnC} (h : MachR F A u) (hl : Fle F G) : MachR G A u := ⟨fun i v x => hl _ _ (h.cs i v x), h.un.le hl, h.ok⟩
theorem MachR.at {F : Fz} {A : Addr} {u : UnC} (h : MachR F A u) (i : Nat) {v : Value} (hv : (vUn u)[i]? = some v) : F ((A.add 0).add i) v := by
  rw [Addr.add_add, Nat.zero_add]
  exact h.cs i v hv
theorem new6 {F : Fz} (hGl : Gl F) {u : UnC} (hR : UnR F u) (hok : UnOk u) : Pu 6 [.agg (vUn u).toArray] F fun w F' => ∃ (A : Addr) (v : UnC), w = .tuple #[.pointer (some A), .int .i64 0] ∧ MachR F' A v ∧ UnS u v := fun own => by
  refine n_fun Tryz.func6 Tryz.ntmps6 rfl rfl rfl ?_
  refine go ?_
  intro r1
  refine go ?_
  refine o_pu rfl (unit17 hGl hR hok) (fun w F1 hF1 e => ?_) sl
  subst e
  refine go ?_
  refine o_pu rfl (copied18 (hR.le hF1) hok) (fun w F2 hF2 ⟨v, e, hRv, hS⟩ => ?_) sl
  subst e
  refine go ?_
  intro rm
  refine go ?_
  exact b_ret rfl (.cons (.tmp rfl) (.cons (.tmp rfl) .nil)) (Turn.ice.trans Turn.drop) ⟨rfl, hF1.trans (hF2.trans (Fz.add_le _ _)), ⟨rm, 0, none⟩, v, rfl, ⟨ice_cs, hRv.le (Fz.add_le _ _), hok.of hS⟩, hS⟩
theorem up_pow {K e : Nat} (hK : 1 ≤ K) : (K ^ (e + 1) + K - 1) / K = K ^ e := by
  rw [Nat.pow_succ, Nat.mul_comm, show K * K ^ e + K - 1 = K * K ^ e + (K - 1) by omega, Nat.mul_add_div (by omega), Nat.div_eq_of_lt (by omega), Nat.add_zero]
theorem enters33p {F : Fz} {A : Addr} {u : UnC} (hm : MachR F A u) {e : Nat} (k2 : 2 ≤ u.K) (hn : u.K ^ (e + 1) ≤ 4096) : Ps 33 [.pointer (some A), .int .i64 (u.K ^ (e + 1) : Nat), .int .i64 (u.K ^ (e + 1) : Nat), .int .i64 1] F fun w => w = .tuple #[.int .i64 (u.K ^ e : Nat), .bool true] := fun own => (enters33 (hm.at 0 rfl) (hm.at 1 rfl) hn k2 hm.ok.k8 own).mono fun v o F' ⟨h1, h2, h3⟩ => ⟨h1, h2, by
  rw [h3, up_pow (by omega)]
  have : 1 < u.K ^ (e + 1) := Nat.one_lt_pow (by omega) (by omega)
  simp [this]⟩
theorem enters33o {F : Fz} {A : Addr} {u : UnC} (hm : MachR F A u) (k2 : 2 ≤ u.K) : Ps 33 [.pointer (some A), .int .i64 (1 : Nat), .int .i64 (1 : Nat), .int .i64 1] F fun w => ∃ z : Nat, w = .tuple #[.int .i64 (z : Nat), .bool false] := fun own => (enters33 (n := 1) (hm.at 0 rfl) (hm.at 1 rfl) (by omega) k2 hm.ok.k8 own).mono fun v o F' ⟨h1, h2, h3⟩ => ⟨h1, h2, _, h3⟩
/-- The levels: blocks, and how many there are. -/
def lvs (K P d : Nat) : List (List Value) := (List.range d).map fun i => [.int .i64 (K ^ (d - 1 - i) : Nat), .int .i64 (P ^ i : Nat)]
theorem lvs_get {K P d i : Nat} (h : i < d) : (lvs K P d)[i]? = some [.int .i64 (K ^ (d - 1 - i) : Nat), .int .i64 (P ^ i : Nat)] := by simp [lvs, h]
theorem levels32 {F : Fz} {A a1 a2 a3 a4 : Addr} {u : UnC} {d : Nat} (hm : MachR F A u) (k2 : 2 ≤ u.K) (h1 : F a1 (.pointer (some A))) (h2 : F a2 (.int .i64 (u.K ^ d : Nat))) (h3 : F a3 (.int .i64 (u.K ^ d : Nat))) (h4 : F a4 (.int .i64 1)) (hn : u.K ^ d ≤ 2048) (hp : u.l.length ^ d ≤ 1000000) :
    Iter 32 [.pointer (some a1), .pointer (some a2), .pointer (some a3), .pointer (some a4)] (lvs u.K u.l.length d) F := fun L J hM hJ own G hj hF => by
  have h1' := hF _ _ h1
  have h2' := hF _ _ h2
  have h3' := hF _ _ h3
  have h4' := hF _ _ h4
  have hm' := hm.le hF
  have hPl := hm.ok.right.len
  have hPl2 := hm.ok.right.len15
  refine n_fun Tryz.func32 Tryz.ntmps32 rfl rfl rfl ?_
  refine go ?_
  refine o_eqp rfl ?_
  refine goT ?_
  refine c_drww [] sl rfl (by decide +kernel) ?_
  refine go ?_
  refine c_loopT (fun m X o G' => ∃ i : Nat, m = d + 1 - i ∧ X = [(0, .func (.yield L) #[] #[]), (1, .pointer (some a1)), (2, .pointer (some a2)), (3, .pointer (some a3)), (4, .pointer (some a4)), (6, .int .i64 (u.l.length ^ i : Nat)), (7, .int .i64 (u.K ^ (d - i) : Nat)), (8, .int .i64 (u.K ^ (d - i) : Nat))] ∧ J i o G' ∧ Fle G G' ∧ i ≤ d)
    ⟨_, _, own, G, ⟨0, rfl, rfl, hj, Fle.refl _, by omega⟩, ⟨rfl, rfl, rfl, rfl, rfl, eqI (by simp), rfl, rfl, trivial⟩, Turn.refl _ _⟩ ?_
  rintro _ _ o G' b ⟨i, rfl, rfl, hj, hG, hi⟩
  have hm2 := hm'.le hG
  have hat2 := hm2.at 2 rfl
  have h1' := hG _ _ h1'
  have h4' := hG _ _ h4'
  by_cases hil : i < d
  · obtain ⟨e, he⟩ : ∃ e, d - i = e + 1 := ⟨d - i - 1, by omega⟩
    have he1 : d - (i + 1) = e := by omega
    have he2 : d - 1 - i = e := by omega
    have hpw : u.K ^ (e + 1) ≤ 2048 := Nat.le_trans (Nat.pow_le_pow_right (by omega) (by omega)) hn
    have hpw2 : u.K ^ e ≤ 2048 := Nat.le_trans (Nat.pow_le_pow_right (by omega) (by omega)) hn
    have hp1 : u.l.length ^ i * u.l.length ≤ 1000000 := by rw [← Nat.pow_succ]; exact Nat.le_trans (Nat.pow_le_pow_right hPl hil) hp
    have hy := hJ i _ (lvs_get hil) [] o G' hj (hF.trans hG)
    rw [List.append_nil, he2] at hy
    have hen := enters33p hm2 (e := e) k2 (by omega)
    rw [he]
    have hsucc : u.l.length ^ (i + 1) = u.l.length ^ i * u.l.length := Nat.pow_succ ..
    generalize hgp : u.l.length ^ i = p at *
    generalize hg1 : u.K ^ (e + 1) = n1 at *
    generalize hg0 : u.K ^ e = n0 at *
    clear hgp hg1
    have hz : ((p : Nat) : Int) * ((u.l.length : Nat) : Int) = ((p * u.l.length : Nat) : Int) := by simp
    refine go ?_
    refine o_ps rfl hen (fun w e => ?_) sl
    subst e
    refine go ?_
    refine o_yield rfl rfl hy (fun own' F' ⟨o2, e, h1, h2⟩ => ⟨_, .text, ?_⟩) (List.Sublist.refl _)
    rw [List.append_nil] at e
    subst e
    have hat3 := h2 _ _ hat2
    have h1'' := h2 _ _ h1'
    refine go ?_
    exact ⟨_, _, _, _, ⟨i + 1, rfl, rfl, h1, hG.trans h2, by omega⟩, ⟨rfl, rfl, rfl, rfl, rfl, eqI (by rw [hsucc]; exact hz), eqI (by rw [he1, hg0]), eqI (by rw [he1, hg0]), trivial⟩, Turn.refl _ _, rfl, by omega⟩
  · obtain rfl : i = d := by omega
    rw [Nat.sub_self, Nat.pow_zero]
    refine go ?_
    refine o_ps rfl (enters33o hm2 k2) (fun w ⟨z, e⟩ => ?_) sl
    subst e
    refine go ?_
    exact b_ret rfl .nil (Turn.refl _ _) ⟨by simpa [lvs] using hj, hG⟩
end Go.Proofs.YthkoodpnepfijaaGreatDoor

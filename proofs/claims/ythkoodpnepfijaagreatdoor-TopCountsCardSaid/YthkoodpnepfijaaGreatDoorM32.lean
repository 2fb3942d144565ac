/-
  Steps towards TopCounts (no conditions of their own): WALKS: exact: the rows' operations, do. WALKS: exact: right, run. WALKS: exact: laid, Rows. WALKS: exact: Rows.
-/
import Derived.Test.YthkoodpnepfijaaGreatDoorM08
import Derived.Test.YthkoodpnepfijaaGreatDoorM31
/- Y5: WALKS: exact: the rows' operations, do. -/
namespace Go.Proofs.YthkoodpnepfijaaGreatDoor
open Go.RowKit
set_option linter.unusedVariables false
set_option linter.unusedSimpArgs false
set_option maxRecDepth 100000
set_option maxHeartbeats 1000000
theorem rows135 {F : Fz} : Ps 135 [] F fun u => u = .agg #[.func (.func 160) #[] #[], .func (.func 161) #[] #[], .func (.func 163) #[] #[], .func (.func 165) #[] #[], .func (.func 166) #[] #[]] := fun own => by
  refine n_fun Tryz.func135 Tryz.ntmps135 rfl rfl rfl ?_
  refine go ?_
  intro r
  refine go ?_
  exact b_ret rfl (.cons (.cella rfl rfl (rdsW 0 rfl)) .nil) Turn.drop ⟨rfl, rfl, rfl⟩
theorem rows161 {F : Fz} {v w : Value} {xs ys : List Int} {k : Nat} (hx : RowI F v xs) (hy : RowI F w ys) (hl : xs.length ≤ 1000000) (hxy : ys.length = xs.length) (bx : Bnd k xs) (b_y : Bnd k ys) (hk : k ≤ 8796093022208) :
    Pu 161 [v, w] F fun u F' => RowI F' u (List.zipWith (· + ·) xs ys) := fun own => by
  obtain ⟨A, c, e⟩ := hx.dest
  obtain ⟨A', c', e'⟩ := hy.dest
  subst e e'
  refine n_fun Tryz.func161 Tryz.ntmps161 rfl rfl rfl ?_
  refine go ?_
  refine o_pu rfl (add162 hx hy hl hxy bx b_y hk) (fun u F1 hF1 ⟨v', e, hv'⟩ => ?_) sl
  obtain ⟨A2, c2, e2⟩ := hv'.dest
  subst e e2
  refine go ?_
  exact b_ret rfl (.cons (.tmp rfl) .nil) (Turn.refl _ _) ⟨rfl, hF1, hv'⟩
theorem rows163 {F : Fz} {v w : Value} {xs ys : List Int} {k : Nat} (hx : RowI F v xs) (hy : RowI F w ys) (hl : xs.length ≤ 1000000) (hxy : ys.length = xs.length) (bx : Bnd k xs) (b_y : Bnd k ys) (hk : k ≤ 8796093022208) :
    Pu 163 [v, w] F fun u F' => RowI F' u (List.zipWith (· - ·) xs ys) := fun own => by
  obtain ⟨A, c, e⟩ := hx.dest
  obtain ⟨A', c', e'⟩ := hy.dest
  subst e e'
  refine n_fun Tryz.func163 Tryz.ntmps163 rfl rfl rfl ?_
  refine go ?_
  refine o_pu rfl (sub164 hx hy hl hxy bx b_y hk) (fun u F1 hF1 ⟨v', e, hv'⟩ => ?_) sl
  obtain ⟨A2, c2, e2⟩ := hv'.dest
  subst e e2
  refine go ?_
  exact b_ret rfl (.cons (.tmp rfl) .nil) (Turn.refl _ _) ⟨rfl, hF1, hv'⟩
theorem rows166 {F : Fz} {v w : Value} {xs ys : List Int} {c : Int} {k : Nat} (hx : RowI F v xs) (hw : IntR F w c) (hl : xs.length ≤ 1000000) (hy : ys.length = xs.length) (hd : ∀ i, i < xs.length → xs.getD i 0 = c * ys.getD i 0)
    (hc : (0 < c.natAbs ∧ c.natAbs < 4294967296) ∨ ∃ e, e < 1024 ∧ c.natAbs = 2 ^ e) (bx : Bnd k xs) (hk : k ≤ 8796093022208) : Pu 166 [v, w] F fun u F' => ∃ v', u = .tuple #[v', .bool true] ∧ RowI F' v' ys := fun own => by
  obtain ⟨A, c0, e⟩ := hx.dest
  obtain ⟨q, e', hq⟩ := hw.iz
  subst e e'
  refine n_fun Tryz.func166 Tryz.ntmps166 rfl rfl rfl ?_
  refine go ?_
  intro r3
  refine go ?_
  refine o_pu rfl (over167 hx hq hl hy hd hc bx hk) (fun u F1 hF1 ⟨v', e, hv'⟩ => ?_) sl
  obtain ⟨A2, c2, e2⟩ := hv'.dest
  subst e e2
  refine go ?_
  exact b_ret rfl (.cons (.tmp rfl) (.cons (.tmp rfl) .nil)) Turn.drop ⟨rfl, hF1, _, rfl, hv'⟩
/-- A slice's three parts. -/
structure SZ where
  A : Option Addr
  m : Nat
  c : Nat
def vS (q : SZ) : Value := .slice q.A q.m q.c
abbrev z0S : SZ := ⟨none, 0, 0⟩
theorem RowI.sz {F : Fz} {v : Value} {zs : List Int} (h : RowI F v zs) : ∃ q : SZ, v = vS q ∧ RowI F (vS q) zs := by
  obtain ⟨A, c, e⟩ := h.dest
  subst e
  exact ⟨⟨A, _, c⟩, rfl, h⟩
/-- Rows in a block. -/
def RegR (F : Fz) (qs : List SZ) (R : Nat → List Int) : Prop := ∀ r, r < qs.length → RowI F (vS (qs.getD r z0S)) (R r)
theorem RegR.le {F G : Fz} {qs : List SZ} {R : Nat → List Int} (h : RegR F qs R) (hl : Fle F G) : RegR G qs R := fun r hr => (h r hr).le hl
abbrev rw_ (n : Nat) (S : Nat → Rg) (r : Int) : List Int := (List.range n).map fun i => S i r
theorem rw_len (n : Nat) (S : Nat → Rg) (r : Int) : (rw_ n S r).length = n := by simp
theorem rw_get {n i : Nat} (S : Nat → Rg) (r : Int) (h : i < n) : (rw_ n S r).getD i 0 = S i r := getD_map_range (fun i => S i r) h
theorem rw_bnd {n k : Nat} {S : Nat → Rg} (h : ∀ i, i < n → ∀ r, (S i r).natAbs < 2 ^ k) (r : Int) : Bnd k (rw_ n S r) := fun z hz => by
  obtain ⟨i, hi, rfl⟩ := List.mem_map.1 hz
  exact h i (List.mem_range.1 hi) r
theorem do159 {F : Fz} {n k rR t a b : Nat} {op c : Int} {regs : Int} {S : Nat → Rg} {w : Nat → Int} {qs : List SZ} (hn : n ≤ 1000000) (hI : (⟨op, (t : Nat), (a : Nat), (b : Nat), c⟩ : Ins).ok regs) (hqs : qs.length = regs.toNat) (hR : RegR F qs fun r => rw_ n S r)
    (hb : ∀ i, i < n → ∀ r, (S i r).natAbs < 2 ^ k) (hk : k ≤ 8796093022000) (hk1 : 100 ≤ k) (hw : ∀ i, i < n → (⟨op, (t : Nat), (a : Nat), (b : Nat), c⟩ : Ins).val (S i) = some (w i)) (own : List Ch) :
    N 159 [.agg #[.func (.func 160) #[] #[], .func (.func 161) #[] #[], .func (.func 163) #[] #[], .func (.func 165) #[] #[], .func (.func 166) #[] #[]], .slice (some ⟨rR, 0, none⟩) qs.length qs.length, .agg #[.int .i64 op, .int .i64 (t : Nat), .int .i64 (a : Nat), .int .i64 (b : Nat), .int .i64 c]] (.c rR (qs.map vS) :: own) F
      fun u o F' => o = .c rR (qs.map vS) :: own ∧ Fle F F' ∧ ∃ v', u = .tuple #[v', .bool true] ∧ RowI F' v' ((List.range n).map w) := by
  have h1 := hI.op1
  have h8 := hI.op8
  have ha1 := hI.a1
  have hb1 := hI.b1
  have hcc := hI.cc
  simp only at h1 h8 ha1 hb1 hcc
  have hal : a < qs.length := by omega
  have hbl : b < qs.length := by omega
  have hRa : RowI F (vS (qs.getD a z0S)) (rw_ n S (a : Int)) := hR a hal
  have hRb : RowI F (vS (qs.getD b z0S)) (rw_ n S (b : Int)) := hR b hbl
  refine n_fun Tryz.func159 Tryz.ntmps159 rfl rfl rfl ?_
  refine go ?_
  intro r3 r5
  refine go ?_
  refine o_load rfl (rdC 2 rfl (map_getD z0S hal)) ?_
  refine go ?_
  refine o_load rfl (rdC 2 rfl (map_getD z0S hbl)) ?_
  have hfin : ∀ (zs : List Int), zs.length = n → (∀ i, i < n → w i = zs.getD i 0) → (List.range n).map w = zs := fun zs h1 h2 => map_of_get h1 h2
  have hla := rw_len n S (a : Int)
  have hlb := rw_len n S (b : Int)
  have ga := fun i (h : i < n) => rw_get S (a : Int) h
  have gb := fun i (h : i < n) => rw_get S (b : Int) h
  have ba : Bnd k (rw_ n S (a : Int)) := rw_bnd hb _
  have bb : Bnd k (rw_ n S (b : Int)) := rw_bnd hb _
  generalize hxa : rw_ n S (a : Int) = xa at *
  generalize hxb : rw_ n S (b : Int) = xb at *
  generalize qs.getD a z0S = va at *
  generalize qs.getD b z0S = vb' at *
  have hka : c.natAbs < 2 ^ k → True := fun _ => trivial
  have h10 : 2 ^ 100 ≤ 2 ^ k := Nat.pow_le_pow_right (by decide) hk1
  rcases (show op = 1 ∨ op = 2 ∨ op = 3 ∨ op = 4 ∨ op = 5 ∨ op = 6 ∨ op = 7 ∨ op = 8 by omega) with rfl | rfl | rfl | rfl | rfl | rfl | rfl | rfl
  · simp only [Ins.val] at hw
    simp at hw
    refine go ?_
    exact b_ret rfl (.cons (.tmp rfl) (.cons (.tmp rfl) .nil)) (Turn.of sl (Fle.refl _)) ⟨rfl, Fle.refl _, _, rfl, by rw [hfin xa hla (fun i hi => by rw [ga i hi, hw i hi])]; exact hRa⟩
  · simp only [Ins.val] at hw
    simp at hw
    refine go ?_
    refine o_callv (us := []) (ws := []) rfl rfl rfl (neg160 hRa (by omega) _) (fun v o F1 ⟨e1, hF1, hv⟩ => ⟨_, .text, ?_⟩) (List.Sublist.refl _)
    subst e1
    obtain ⟨q, e, hv⟩ := hv.sz
    subst e
    refine go ?_
    exact b_ret rfl (.cons (.tmp rfl) (.cons (.tmp rfl) .nil)) (Turn.of sl (Fle.refl _)) ⟨rfl, hF1, _, rfl, by rw [hfin (xa.map fun z => -z) (by simp [hla]) (fun i hi => by rw [← hw i hi, ← ga i hi]; simp [List.getD_eq_getElem?_getD, hla, hi])]; exact hv⟩
  · simp only [Ins.val] at hw
    simp at hw
    refine go ?_
    refine o_callv (us := []) (ws := []) rfl rfl rfl (rows161 hRa hRb (by omega) (by omega) ba bb (by omega) _) (fun v o F1 ⟨e1, hF1, hv⟩ => ⟨_, .text, ?_⟩) (List.Sublist.refl _)
    subst e1
    obtain ⟨q, e, hv⟩ := hv.sz
    subst e
    refine go ?_
    exact b_ret rfl (.cons (.tmp rfl) (.cons (.tmp rfl) .nil)) (Turn.of sl (Fle.refl _)) ⟨rfl, hF1, _, rfl, by rw [hfin (List.zipWith (· + ·) xa xb) (by rw [zip_len _ (by omega)]; exact hla) (fun i hi => by rw [← hw i hi, ← ga i hi, ← gb i hi]; exact zip_get (· + ·) (by omega) (by omega))]; exact hv⟩
  · simp only [Ins.val] at hw
    simp at hw
    refine go ?_
    refine o_callv (us := []) (ws := []) rfl rfl rfl (rows163 hRa hRb (by omega) (by omega) ba bb (by omega) _) (fun v o F1 ⟨e1, hF1, hv⟩ => ⟨_, .text, ?_⟩) (List.Sublist.refl _)
    subst e1
    obtain ⟨q, e, hv⟩ := hv.sz
    subst e
    refine go ?_
    exact b_ret rfl (.cons (.tmp rfl) (.cons (.tmp rfl) .nil)) (Turn.of sl (Fle.refl _)) ⟨rfl, hF1, _, rfl, by rw [hfin (List.zipWith (· - ·) xa xb) (by rw [zip_len _ (by omega)]; exact hla) (fun i hi => by rw [← hw i hi, ← ga i hi, ← gb i hi]; exact zip_get (· - ·) (by omega) (by omega))]; exact hv⟩
  · simp only [Ins.val] at hw
    have hcb : c ≠ 0 ∧ -512 ≤ c ∧ c ≤ 512 := by simpa [constOk] using hcc
    obtain ⟨c0, c1, c2⟩ := hcb
    simp at hw
    refine goT ?_
    refine c_drww [.c r5 [.int .i64 5, .int .i64 (t : Nat), .int .i64 (a : Nat), .int .i64 (b : Nat), .int .i64 c], .c r3 [.func (.func 160) #[] #[], .func (.func 161) #[] #[], .func (.func 163) #[] #[], .func (.func 165) #[] #[], .func (.func 166) #[] #[]]] sl rfl (by decide +kernel) ?_
    refine go ?_
    refine o_pu rfl (Of22 (by omega) (by omega)) (fun u F1 hF1 h1 => ?_) sl
    obtain ⟨q, e0, hq⟩ := h1.iz
    subst e0
    refine go ?_
    refine o_callv (us := []) (ws := []) rfl rfl rfl (scale165 (hRa.le hF1) hq (by omega) ba (by omega) (by omega) _) (fun v o F2 ⟨e1, hF2, hv⟩ => ⟨_, .keep (by rw [e1]; exact sl) hF2, ?_⟩) sl
    subst e1
    obtain ⟨q2, e2, hv⟩ := hv.sz
    subst e2
    refine go ?_
    exact b_ret rfl (.cons (.tmp rfl) (.cons (.tmp rfl) .nil)) (Turn.of sl (Fle.refl _)) ⟨rfl, hF1.trans hF2, _, rfl, by rw [hfin (xa.map fun z => c * z) (by simp [hla]) (fun i hi => by rw [← hw i hi, ← ga i hi, Int.mul_comm]; simp [List.getD_eq_getElem?_getD, hla, hi])]; exact hv⟩
  · simp only [Ins.val] at hw
    have hcb : c ≠ 0 ∧ -512 ≤ c ∧ c ≤ 512 := by simpa [constOk] using hcc
    obtain ⟨c0, c1, c2⟩ := hcb
    simp at hw
    refine goT ?_
    refine c_drww [.c r5 [.int .i64 6, .int .i64 (t : Nat), .int .i64 (a : Nat), .int .i64 (b : Nat), .int .i64 c], .c r3 [.func (.func 160) #[] #[], .func (.func 161) #[] #[], .func (.func 163) #[] #[], .func (.func 165) #[] #[], .func (.func 166) #[] #[]]] sl rfl (by decide +kernel) ?_
    refine go ?_
    refine o_pu rfl (Of22 (by omega) (by omega)) (fun u F1 hF1 h1 => ?_) sl
    obtain ⟨q, e0, hq⟩ := h1.iz
    subst e0
    refine go ?_
    have hdv : ∀ i, i < n → xa.getD i 0 = c * w i := fun i hi => by
      obtain ⟨d1, d2⟩ := hw i hi
      rw [ga i hi, ← d2, Int.mul_ediv_cancel' d1]
    refine o_callv (us := []) (ws := []) rfl rfl rfl (rows166 (ys := (List.range n).map w) (hRa.le hF1) hq (by omega) (by simp [hla]) (fun i hi => by rw [getD_map_range w (by omega)]; exact hdv i (by omega)) (.inl ⟨by omega, by omega⟩) ba (by omega) _) (fun v o F2 ⟨e1, hF2, v2, e2, hv⟩ => ⟨_, .keep (by rw [e1]; exact sl) hF2, ?_⟩) sl
    subst e1
    obtain ⟨q2, e3, hv⟩ := hv.sz
    subst e3 e2
    refine go ?_
    exact b_ret rfl (.cons (.tmp rfl) (.cons (.tmp rfl) .nil)) (Turn.of sl (Fle.refl _)) ⟨rfl, hF1.trans hF2, _, rfl, hv⟩
  · simp only [Ins.val] at hw
    have hcb : 1 ≤ c ∧ c ≤ 64 := by simpa [constOk] using hcc
    obtain ⟨c1, c2⟩ := hcb
    obtain ⟨e, rfl⟩ : ∃ e : Nat, c = e := ⟨c.toNat, by omega⟩
    simp at hw
    refine goT ?_
    refine c_drww [.c r5 [.int .i64 7, .int .i64 (t : Nat), .int .i64 (a : Nat), .int .i64 (b : Nat), .int .i64 (e : Nat)], .c r3 [.func (.func 160) #[] #[], .func (.func 161) #[] #[], .func (.func 163) #[] #[], .func (.func 165) #[] #[], .func (.func 166) #[] #[]]] sl rfl (by decide +kernel) ?_
    refine go ?_
    refine o_pu rfl (power194 (c := e) (by omega)) (fun u F1 hF1 h1 => ?_) sl
    obtain ⟨q, e0, hq⟩ := h1.iz
    subst e0
    refine go ?_
    refine o_callv (us := []) (ws := []) rfl rfl rfl (scale165 (hRa.le hF1) hq (by omega) ba (by have := Nat.pow_lt_pow_right (a := 2) (m := e) (n := 100) (by decide) (by omega); rw [Int.natAbs_pow]; exact Nat.lt_of_lt_of_le this h10) (by omega) _) (fun v o F2 ⟨e1, hF2, hv⟩ => ⟨_, .keep (by rw [e1]; exact sl) hF2, ?_⟩) sl
    subst e1
    obtain ⟨q2, e2, hv⟩ := hv.sz
    subst e2
    refine go ?_
    exact b_ret rfl (.cons (.tmp rfl) (.cons (.tmp rfl) .nil)) (Turn.of sl (Fle.refl _)) ⟨rfl, hF1.trans hF2, _, rfl, by rw [hfin (xa.map fun z => (2 ^ e) * z) (by simp [hla]) (fun i hi => by rw [← hw i hi, ← ga i hi, Int.mul_comm]; simp [List.getD_eq_getElem?_getD, hla, hi])]; exact hv⟩
  · simp only [Ins.val] at hw
    have hcb : 1 ≤ c ∧ c ≤ 64 := by simpa [constOk] using hcc
    obtain ⟨c1, c2⟩ := hcb
    obtain ⟨e, rfl⟩ : ∃ e : Nat, c = e := ⟨c.toNat, by omega⟩
    simp at hw
    refine goT ?_
    refine c_drww [.c r5 [.int .i64 8, .int .i64 (t : Nat), .int .i64 (a : Nat), .int .i64 (b : Nat), .int .i64 (e : Nat)], .c r3 [.func (.func 160) #[] #[], .func (.func 161) #[] #[], .func (.func 163) #[] #[], .func (.func 165) #[] #[], .func (.func 166) #[] #[]]] sl rfl (by decide +kernel) ?_
    refine go ?_
    refine o_pu rfl (power194 (c := e) (by omega)) (fun u F1 hF1 h1 => ?_) sl
    obtain ⟨q, e0, hq⟩ := h1.iz
    subst e0
    refine go ?_
    have hdv : ∀ i, i < n → xa.getD i 0 = (2 ^ e) * w i := fun i hi => by
      obtain ⟨d1, d2⟩ := hw i hi
      rw [ga i hi, ← d2, Int.mul_ediv_cancel' d1]
    refine o_callv (us := []) (ws := []) rfl rfl rfl (rows166 (ys := (List.range n).map w) (hRa.le hF1) hq (by omega) (by simp [hla]) (fun i hi => by rw [getD_map_range w (by omega)]; exact hdv i (by omega)) (.inr ⟨e, by omega, by rw [Int.natAbs_pow]; rfl⟩) ba (by omega) _) (fun v o F2 ⟨e1, hF2, v2, e2, hv⟩ => ⟨_, .keep (by rw [e1]; exact sl) hF2, ?_⟩) sl
    subst e1
    obtain ⟨q2, e3, hv⟩ := hv.sz
    subst e3 e2
    refine go ?_
    exact b_ret rfl (.cons (.tmp rfl) (.cons (.tmp rfl) .nil)) (Turn.of sl (Fle.refl _)) ⟨rfl, hF1.trans hF2, _, rfl, hv⟩
end Go.Proofs.YthkoodpnepfijaaGreatDoor
/- Y6: WALKS: exact: right, run. -/
namespace Go.Proofs.YthkoodpnepfijaaGreatDoor
open Go.RowKit
set_option linter.unusedVariables false
set_option linter.unusedSimpArgs false
set_option maxRecDepth 100000
set_option maxHeartbeats 1000000
theorem right158 {F : Fz} {p : Prg} {cv ov : Value} (hP : PrR F cv ov p) (hok : p.ok) : Pu 158 [vPr p cv ov, .int .i64 p.ins] F fun u F' => u = .int .i64 0 := fun own => by
  obtain ⟨A1, c1, A2, c2, e1, e2, hP⟩ := hP.sl
  subst e1 e2
  refine n_fun Tryz.func158 Tryz.ntmps158 rfl rfl rfl ?_
  refine go ?_
  intro r2
  refine go ?_
  refine o_pu rfl (check28 hP hok) (fun v G1 hG1 e => ?_) sl
  subst e
  refine go ?_
  exact b_ret rfl (.cons (.tmp rfl) .nil) Turn.drop ⟨rfl, hG1, rfl⟩
theorem rows136 {F : Fz} {i : Int} {v : Value} : Ps 136 [.int .i64 i, v] F fun u => u = .bool true := fun own => by
  refine n_fun Tryz.func136 Tryz.ntmps136 rfl rfl rfl ?_
  refine go ?_
  exact b_ret rfl (.cons (.tmp rfl) .nil) (Turn.refl _ _) ⟨rfl, rfl, rfl⟩
theorem vS_set (l : List SZ) (t : Nat) (q : SZ) : (l.map vS).set t (vS q) = (l.set t q).map vS := by rw [List.map_set]
theorem RegR.step {F : Fz} {ps : List SZ} {n t : Nat} {S : Nat → Rg} {w : Nat → Int} {q : SZ} (h : RegR F ps fun r => rw_ n S r) (ht : t < ps.length) (hq : RowI F (vS q) ((List.range n).map w)) : RegR F (ps.set t q) fun r => rw_ n (fun i => (S i).set (t : Nat) (w i)) r := fun r hr => by
  rw [List.length_set] at hr
  rw [List.getD_eq_getElem?_getD, List.getElem?_set]
  by_cases h1 : t = r
  · subst h1
    rw [if_pos rfl, if_pos ht]
    have : (rw_ n (fun i => (S i).set (t : Nat) (w i)) (t : Nat)) = (List.range n).map w := List.map_congr_left fun i _ => Rg.set_same ..
    show RowI F (vS q) (rw_ n (fun i => (S i).set (t : Nat) (w i)) (t : Nat))
    rw [this]
    exact hq
  · rw [if_neg h1, ← List.getD_eq_getElem?_getD]
    have : (rw_ n (fun i => (S i).set (t : Nat) (w i)) (r : Nat)) = rw_ n S (r : Nat) := List.map_congr_left fun i _ => Rg.set_ne _ _ (by omega)
    show RowI F _ (rw_ n (fun i => (S i).set (t : Nat) (w i)) (r : Nat))
    rw [this]
    exact h r hr
/-- How far the run is: t instructions. -/
def AtI (p : Prg) (L : Nat → List Int) (n t : Nat) (S : Nat → Rg) : Prop := ∀ i, i < n → exec (p.code.take t) (rg0 (L i)) = some (S i)
theorem atI_step {p : Prg} {L : Nat → List Int} {n t : Nat} {S : Nat → Rg} (h : AtI p L n t S) (ht : t < p.code.length) (hr : ∀ i, i < n → ∃ s, exec p.code (rg0 (L i)) = some s) :
    ∃ w : Nat → Int, (∀ i, i < n → (p.code.getD t z0I).val (S i) = some (w i)) ∧ AtI p L n (t + 1) fun i => (S i).set (p.code.getD t z0I).to (w i) := by
  have hsn : p.code.take (t + 1) = p.code.take t ++ [p.code.getD t z0I] := by
    rw [List.take_add_one, List.getD_eq_getElem?_getD, List.getElem?_eq_getElem ht]; rfl
  have hv : ∀ i, i < n → ∃ w, (p.code.getD t z0I).val (S i) = some w := fun i hi => by
    obtain ⟨s, hs⟩ := hr i hi
    rw [← List.take_append_drop (t + 1) p.code, hsn, exec_app, exec_snoc, h i hi] at hs
    cases hv : (p.code.getD t z0I).val (S i) with
    | none => simp [stepI, -List.getD_eq_getElem?_getD, hv] at hs
    | some w => exact ⟨w, rfl⟩
  refine ⟨fun i => ((p.code.getD t z0I).val (S i)).getD 0, fun i hi => ?_, fun i hi => ?_⟩
  · obtain ⟨w, hw⟩ := hv i hi
    show _ = some (((p.code.getD t z0I).val (S i)).getD 0)
    rw [hw]; rfl
  · obtain ⟨w, hw⟩ := hv i hi
    rw [hsn, exec_snoc, h i hi]
    show stepI _ (S i) = some ((S i).set _ (((p.code.getD t z0I).val (S i)).getD 0))
    rw [stepI, hw]; rfl
theorem atI_lt {p : Prg} {L : Nat → List Int} {n t k : Nat} {S : Nat → Rg} (hok : p.ok) (h : AtI p L n t S) (hL : ∀ i, i < n → ∀ x ∈ L i, x.natAbs < 2 ^ k) : ∀ i, i < n → ∀ r, (S i r).natAbs < 2 ^ (k + 64 * p.code.length) := fun i hi r => by
  have h1 := exec_lt (regs := p.regs) (code := p.code.take t) (fun j hj => hok.code j (List.mem_of_mem_take hj)) (rg0_lt (hL i hi)) (h i hi) r
  refine Nat.lt_of_lt_of_le h1 (Nat.pow_le_pow_right (by decide) ?_)
  have := List.length_take_le t p.code
  rw [List.length_take]
  omega
theorem run134 {F : Fz} {n k rR : Nat} {p : Prg} {cv ov : Value} {L : Nat → List Int} {qs : List SZ} {S0 : Nat → Rg} (hP : PrR F cv ov p) (hok : p.ok) (hn : n ≤ 1000000) (hk : k ≤ 4000000000) (hk1 : 100 ≤ k) (hL : ∀ i, i < n → ∀ x ∈ L i, x.natAbs < 2 ^ k)
    (hr : ∀ i, i < n → ∃ s, exec p.code (rg0 (L i)) = some s) (hqs : qs.length = p.regs.toNat) (hR : RegR F qs fun r => rw_ n S0 r) (hS0 : ∀ i, i < n → rg0 (L i) = S0 i) (own : List Ch) :
    N 134 [.agg #[.func (.func 160) #[] #[], .func (.func 161) #[] #[], .func (.func 163) #[] #[], .func (.func 165) #[] #[], .func (.func 166) #[] #[]], vPr p cv ov, .slice (some ⟨rR, 0, none⟩) p.regs.toNat p.regs.toNat, .func (.func 136) #[] #[]] (.c rR (qs.map vS) :: own) F
      fun u o F' => u = .int .i64 (-1) ∧ Fle F F' ∧ ∃ (qs' : List SZ) (S : Nat → Rg), o = .c rR (qs'.map vS) :: own ∧ qs'.length = p.regs.toNat ∧ RegR F' qs' (fun r => rw_ n S r) ∧ AtI p L n p.code.length S := by
  obtain ⟨A1, c1, A2, c2, e1, e2, hP⟩ := hP.sl
  subst e1 e2
  have o1 := hok.len
  have hC := hP.code
  refine n_fun Tryz.func134 Tryz.ntmps134 rfl rfl rfl ?_
  refine go ?_
  intro r4 r5
  refine go ?_
  refine c_scope (fun _ _ h => h) ?_
  refine go ?_
  refine c_loopT (fun m X o G => ∃ (j : Nat) (ps : List SZ) (S : Nat → Rg), m = p.code.length - j ∧ X = [(2, .slice (some ⟨rR, 0, none⟩) p.regs.toNat p.regs.toNat), (3, .func (.func 136) #[] #[]), (4, .pointer (some ⟨r4, 0, none⟩)), (5, .pointer (some ⟨r5, 0, none⟩)), (14, .slice A1 p.code.length c1), (15, .int .i64 (p.code.length : Nat)), (16, .int .i64 (j : Nat))] ∧ .c r5 [.int .i64 p.ins, .int .i64 p.regs, .slice A1 p.code.length c1, .slice A2 p.outs.length c2] :: .c r4 [.func (.func 160) #[] #[], .func (.func 161) #[] #[], .func (.func 163) #[] #[], .func (.func 165) #[] #[], .func (.func 166) #[] #[]] :: .c rR (ps.map vS) :: own = o ∧ Fle F G ∧ ps.length = p.regs.toNat ∧ RegR G ps (fun r => rw_ n S r) ∧ AtI p L n j S ∧ j ≤ p.code.length)
    ⟨_, _, _, _, ⟨0, qs, S0, rfl, rfl, rfl, Fle.refl _, hqs, hR, fun i hi => by rw [List.take_zero]; exact congrArg some (hS0 i hi), by omega⟩, ⟨rfl, rfl, rfl, rfl, rfl, rfl, rfl, trivial⟩, Turn.refl _ _⟩ ?_
  rintro _ _ _ G b ⟨j, ps, S, rfl, rfl, rfl, hG, hpl, hRG, hAt, hj⟩
  have hC' := RowS.le hC hG
  by_cases hjl : j < p.code.length
  · have hok' := hok.code _ (getD_mem (z := z0I) hjl)
    obtain ⟨w, hw, hAt'⟩ := atI_step hAt hjl hr
    have hlt := atI_lt hok hAt hL
    obtain ⟨op, t, a, bb, c, hI, i1⟩ : ∃ (op : Int) (t a bb : Nat) (c : Int), p.code.getD j z0I = ⟨op, (t : Nat), (a : Nat), (bb : Nat), c⟩ ∧ (t : Int) < p.regs := by
      refine ⟨(p.code.getD j z0I).op, (p.code.getD j z0I).to.toNat, (p.code.getD j z0I).a.toNat, (p.code.getD j z0I).b.toNat, (p.code.getD j z0I).c, ?_, ?_⟩
      · have h1 := hok'.to0
        have h2 := hok'.a0
        have h3 := hok'.b0
        rw [Int.toNat_of_nonneg h1, Int.toNat_of_nonneg h2, Int.toNat_of_nonneg h3]
      · have h1 := hok'.to0
        have h2 := hok'.to1
        omega
    rw [hI] at hok' hw hAt'
    have hd := fun ow => do159 (rR := rR) (qs := ps) hn hok' hpl hRG hlt (by omega) (by omega) hw ow
    refine go ?_
    intro r10
    refine go ?_
    rw [hI]
    rw [hpl] at hd
    refine o_perm (pick_perm (p := 3) rfl) ?_
    refine o_call rfl (hd _) (fun u o F2 ⟨e1, hF2, v', e2, hv⟩ => ⟨_, .text, ?_⟩) (List.Sublist.refl _)
    subst e1 e2
    obtain ⟨q, e, hv⟩ := hv.sz
    subst e
    refine o_perm (pick_perm (p := 3) rfl : List.Perm (_ :: _ :: _ :: _ :: own) _).symm ?_
    refine go ?_
    refine o_callv (us := []) (ws := []) rfl rfl rfl (rows136 _) (fun v o F3 ⟨e1, e2, e3⟩ => ⟨_, .text, ?_⟩) (List.Sublist.refl _)
    subst e1 e2 e3
    refine go ?_
    exact ⟨_, _, _, _, ⟨j + 1, ps.set t q, fun i => (S i).set (t : Nat) (w i), rfl, rfl, rfl, hG.trans hF2, by simpa using hpl, (hRG.le hF2).step (by omega) hv, hAt', by omega⟩, ⟨rfl, rfl, rfl, rfl, rfl, rfl, eqI (by omega), trivial⟩, by rw [← vS_set]; exact Turn.of sl (Fle.refl _), rfl, by omega⟩
  · obtain rfl : j = p.code.length := by omega
    refine go ?_
    exact b_ret rfl (.cons (.tmp rfl) .nil) (Turn.of sl (Fle.refl _)) ⟨rfl, hG, ps, S, rfl, hpl, hRG, hAt⟩
end Go.Proofs.YthkoodpnepfijaaGreatDoor
/- Y7: WALKS: exact: laid, Rows. -/
namespace Go.Proofs.YthkoodpnepfijaaGreatDoor
open Go.RowKit
set_option linter.unusedVariables false
set_option linter.unusedSimpArgs false
set_option maxRecDepth 100000
set_option maxHeartbeats 1000000
section
variable {n : Nat} {ops : Array Oper} {fl : Option (List Nat)} {rest : List Oper} {K : St → Prop} {wk wk' : List Ch} {x : Fr} {b : Nat → Value} {ds : List Deferred} {own : List Ch} {F : Fz}
  {d ty : Nat} {pos : String} {af : Array Edge}
/-- copy(dst, src) of structs: the row that is read fills a block of its own. -/
theorem o_copyS {α : Type} {f : α → List Value} {z0 : α} {l : List α} {a a' : Operand} {t t' e s m c r : Nat} [ht : SlT t e s] {v : Value} {vs : List Value} (p : Nat) (ha : evS n x a = some (.slice (some ⟨r, 0, none⟩) m c)) (ha' : evS n x a' = some v) (hr : RowS F v f s z0 l) (hf : ∀ a, (f a).length = s) (hone : (l.flatMap f).all One = true) (hm : l.length = m) (hp : own[p]? = some (.c r vs)) (hl : vs.length = m * s)
    (hsub : List.Sublist wk own) (hw : Wk fl (Fg ops fl rest.length) wk F (own.set p (.c r (l.flatMap f))) F wk') (h : O n ops fl rest K wk' ⟨(d, .int .i64 (m : Nat)) :: x, b, ds, own.set p (.c r (l.flatMap f)), F⟩) : O n ops fl (⟨some d, .call { callee := .builtin .copy, args := #[a, a'], argTypes := #[t, t'] }, ty, pos, af, none⟩ :: rest) K wk ⟨x, b, ds, own, F⟩ :=
  o_ef hsub rfl fun B w0 w hI => by
    obtain ⟨A, c', rfl, h2, h3⟩ := hr
    subst hm
    rw [List.length_map] at *
    have hfl := flat_len hf l
    obtain ⟨w', e1, e2⟩ := Inv.stores (A := ⟨r, 0, none⟩) (k := 0) rfl (l.flatMap f) 0 own vs w hI hp (fun u hu' => List.all_eq_true.1 hone u hu') (by omega)
    rw [setL_full (by omega)] at e2
    have hfc : (Builtin.firstCells s l.length (.slice A l.length c')).run Tryz.prog w = .ok (l.flatMap f).toArray w := by
      cases A with
      | none =>
        have : l = [] := by
          cases l with
          | nil => rfl
          | cons u us => obtain ⟨_, B, e, _⟩ := h3 0 (f u) rfl; cases e
        subst this
        rfl
      | some A =>
        have hcs : ∀ i u, (l.map f).flatten[i]? = some u → F (A.add (0 * s + i)) u := rowsCells (m := 0) (c := 0) (fun i us hu => by
          obtain ⟨q, B, e, hB⟩ := h3 i us hu
          cases e
          rw [Nat.zero_add]
          exact ⟨q, hB⟩)
        have := run_firstCells_some (P := Tryz.prog) w s l.length A l.length c' (l.flatMap f) (by omega) (fun j u hu => by
          rw [List.flatMap_def] at hu
          have := hcs j u hu
          rw [Nat.zero_mul, Nat.zero_add] at this
          exact hI.fr _ _ this)
        exact this
    unfold execOp
    simp only [resolve, invoke, builtin, Sem.run_bind, Sem.run_pure, Result.andThen, List.map_toArray, List.map_cons, List.map_nil, evx ha, evx ha']
    simp [Builtin.copy_, run_underlying ht.h, Builtin.lenOf, size_run ht.hs, Result.andThen, hfc, e1, goInt, upK]
    exact ⟨⟨(d, .int .i64 (l.length : Nat)) :: x, b, ds, own.set p (.c r (l.flatMap f)), F⟩, act_putx .., e2, _, hw, h⟩
end
/-- Rows that come in. -/
def RowsR (F : Fz) (v : Value) (m : Nat) (R : Nat → List Int) : Prop := ∃ qs : List SZ, RowM F v vS z0S qs ∧ qs.length = m ∧ RegR F qs R
theorem RowsR.le {F G : Fz} {v : Value} {m : Nat} {R : Nat → List Int} (h : RowsR F v m R) (hl : Fle F G) : RowsR G v m R := by
  obtain ⟨qs, h1, h2, h3⟩ := h
  exact ⟨qs, h1.le hl, h2, h3.le hl⟩
theorem reg_next {F G : Fz} {ps : List SZ} {j : Nat} {R : Nat → List Int} {q : SZ} (hl : Fle F G) (h : ∀ r, r < j → RowI F (vS (ps.getD r z0S)) (R r)) (hj : j < ps.length) (hq : RowI G (vS q) (R j)) : ∀ r, r < j + 1 → RowI G (vS ((ps.set j q).getD r z0S)) (R r) := fun r hr => by
  rw [List.getD_eq_getElem?_getD, List.getElem?_set]
  by_cases h1 : j = r
  · subst h1
    rw [if_pos rfl, if_pos hj]
    exact hq
  · rw [if_neg h1, ← List.getD_eq_getElem?_getD]
    exact (h r (by omega)).le hl
theorem zeros_row {F : Fz} {n rz : Nat} {zs : List Int} (hz : zs.length = n) (h0 : ∀ i, i < n → zs.getD i 0 = 0) : RowI (F.add (.c rz ((List.replicate n z0Z).flatMap vIz))) (vS ⟨some ⟨rz, 0, none⟩, n, n⟩) zs :=
  ⟨_, rowS_ice (F := F) (r := rz) (c := n) z0Z vIz_len (l := List.replicate n z0Z) (m := n) (by simp) (Nat.le_refl _), by simp [hz], fun i hi => by
    rw [h0 i (by omega), List.getD_eq_getElem?_getD, List.getElem?_replicate, if_pos (by omega)]
    exact IntR.zero _⟩
theorem laid133 {F : Fz} {n : Nat} {p : Prg} {cv ov v : Value} {S0 : Nat → Rg} (hP : PrR F cv ov p) (hok : p.ok) (hn1 : 1 ≤ n) (hn : n ≤ 4096) (hv : RowsR F v p.ins.toNat fun r => rw_ n S0 r) (hS : ∀ i, i < n → ∀ r : Int, p.ins ≤ r → S0 i r = 0) (own : List Ch) :
    N 133 [vPr p cv ov, v] own F fun u o F' => ∃ (rR : Nat) (qs : List SZ), u = .tuple #[.slice (some ⟨rR, 0, none⟩) p.regs.toNat p.regs.toNat, .int .i64 0] ∧ o = .c rR (qs.map vS) :: own ∧ Fle F F' ∧ qs.length = p.regs.toNat ∧ RegR F' qs fun r => rw_ n S0 r := by
  obtain ⟨A1, c1, A2, c2, e1, e2, hP⟩ := hP.sl
  subst e1 e2
  have o1 := hok.ins1
  have o2 := hok.insr
  have o3 := hok.regs
  obtain ⟨qs, hq, hql, hqr⟩ := hv
  obtain ⟨A, c, rfl⟩ := hq.dest
  have hq0 := hqr 0 (by omega)
  refine n_fun Tryz.func133 Tryz.ntmps133 rfl rfl rfl ?_
  refine go ?_
  intro r2
  refine go ?_
  refine o_val (.int .i64 p.ins) (congrArg (Value.int .i64) (by omega)) ?_
  refine o_pu rfl (right158 hP hok) (fun u F1 hF1 e => ?_) sl
  subst e
  have hq1 := hq.le hF1
  have hql0 : 0 < qs.length := by omega
  obtain ⟨A0, c0, e0⟩ := hq0.dest
  have e0 : vS (qs.getD 0 z0S) = .slice A0 n c0 := by rw [e0]; simp
  have hm0 : (qs.getD 0 z0S).m = n := by
    generalize qs.getD 0 z0S = q at e0
    cases q
    cases e0
    rfl
  refine go ?_
  rw [hm0]
  refine o_make p.regs.toNat rfl (by omega) ?_ ?_ (fun rR => ?_)
  · omega
  · omega
  rw [rep_one, show List.replicate p.regs.toNat (Value.slice none 0 0) = (List.replicate p.regs.toNat z0S).map vS by rw [List.map_replicate]; rfl]
  refine go ?_
  refine c_loopT (fun m X o G => ∃ (j : Nat) (ps : List SZ), m = p.regs.toNat - j ∧ X = [(1, .slice A qs.length c), (7, .int .i64 (n : Nat)), (8, .slice (some ⟨rR, 0, none⟩) p.regs.toNat p.regs.toNat), (24, .slice (some ⟨rR, 0, none⟩) p.regs.toNat p.regs.toNat), (25, .int .i64 (p.regs.toNat : Nat)), (26, .int .i64 (j : Nat))] ∧ .c rR (ps.map vS) :: .c r2 [.int .i64 p.ins, .int .i64 p.regs, .slice A1 p.code.length c1, .slice A2 p.outs.length c2] :: own = o ∧ Fle F1 G ∧ ps.length = p.regs.toNat ∧ (∀ r, r < j → RowI G (vS (ps.getD r z0S)) (rw_ n S0 (r : Nat))) ∧ j ≤ p.regs.toNat)
    ⟨_, _, _, _, ⟨0, _, rfl, rfl, rfl, Fle.refl _, List.length_replicate .., fun r hr => absurd hr (by omega), by omega⟩, ⟨rfl, rfl, rfl, rfl, rfl, rfl, trivial⟩, Turn.refl _ _⟩ ?_
  rintro _ _ _ G b ⟨j, ps, rfl, rfl, rfl, hG, hpl, hps, hj⟩
  have hq2 := hq1.le hG
  by_cases hjl : j < p.regs.toNat
  · have hjp : j < ps.length := by omega
    refine go ?_
    refine o_make n rfl rfl ?_ ?_ (fun rz => ?_)
    · omega
    · omega
    rw [rep_two]
    by_cases hji : j < qs.length
    · have hqj := (hqr j hji).le (hF1.trans hG)
      obtain ⟨ls, hls, hlz⟩ := hqj
      have hmj : (qs.getD j z0S).m = n := by
        obtain ⟨A', c', e'⟩ := hls.dest
        generalize qs.getD j z0S = q at e'
        cases q
        cases e'
        rw [hlz.1]; simp
      refine goT ?_
      refine c_owneq (own' := .c rz ((List.replicate n z0Z).flatMap vIz) :: .c rR ((ps.set j ⟨some ⟨rz, 0, none⟩, n, n⟩).map vS) :: .c r2 [.int .i64 p.ins, .int .i64 p.regs, .slice A1 p.code.length c1, .slice A2 p.outs.length c2] :: own) (by rw [← vS_set]; rfl) ?_
      refine c_drww [.c rR ((ps.set j ⟨some ⟨rz, 0, none⟩, n, n⟩).map vS)] sl rfl (by decide +kernel) ?_
      refine go ?_
      refine o_load (v := vS ⟨some ⟨rz, 0, none⟩, n, n⟩) rfl (rdC 0 rfl (by rw [List.getElem?_map, List.getElem?_set, if_pos rfl, if_pos hjp]; rfl)) ?_
      refine go ?_
      have hln : ls.length = n := by rw [hlz.1]; simp
      refine o_copyS (l := ls) 0 rfl rfl hls vIz_len (vIz_one ls) hln rfl (by rw [flat_len vIz_len, List.length_replicate]) sl (.keep sl (Fle.refl _)) ?_
      rw [List.set_cons_zero]
      refine o_nil sl ?_
      refine go ?_
      exact ⟨_, _, _, _, ⟨j + 1, ps.set j ⟨some ⟨rz, 0, none⟩, n, n⟩, rfl, rfl, rfl, hG.trans (Fz.add_le _ (.c rz (ls.flatMap vIz))), by simpa using hpl, reg_next (R := fun r => rw_ n S0 (r : Nat)) (Fz.add_le _ _) hps hjp ⟨ls, rowS_ice z0Z vIz_len hln (Nat.le_refl _), hlz.le (Fz.add_le _ _)⟩, by omega⟩, ⟨rfl, rfl, rfl, rfl, rfl, eqI (by omega), trivial⟩, Turn.ice, rfl, by omega⟩
    · refine go ?_
      exact ⟨_, _, _, _, ⟨j + 1, ps.set j ⟨some ⟨rz, 0, none⟩, n, n⟩, rfl, rfl, rfl, hG.trans (Fz.add_le _ (.c rz ((List.replicate n z0Z).flatMap vIz))), by simpa using hpl, reg_next (R := fun r => rw_ n S0 (r : Nat)) (Fz.add_le _ _) hps hjp (zeros_row (rw_len ..) (fun i hi => by rw [rw_get _ _ hi]; exact hS i hi _ (by omega))), by omega⟩, ⟨rfl, rfl, rfl, rfl, rfl, eqI (by omega), trivial⟩, by rw [← vS_set]; exact Turn.ice, rfl, by omega⟩
  · obtain rfl : j = p.regs.toNat := by omega
    refine go ?_
    exact b_ret rfl (.cons (.tmp rfl) (.cons (.tmp rfl) .nil)) (Turn.of sl (Fle.refl _)) ⟨rR, ps, rfl, rfl, hF1.trans hG, hpl, fun r hr => hps r (by omega)⟩
end Go.Proofs.YthkoodpnepfijaaGreatDoor
/- Y8: WALKS: exact: Rows. -/
namespace Go.Proofs.YthkoodpnepfijaaGreatDoor
open Go.RowKit
set_option linter.unusedVariables false
set_option linter.unusedSimpArgs false
set_option maxRecDepth 100000
set_option maxHeartbeats 1000000
theorem rg0_hi {l : List Int} {r : Int} (h : (l.length : Int) ≤ r) : rg0 l r = 0 := by
  unfold rg0
  split
  · rw [List.getD_eq_getElem?_getD, List.getElem?_eq_none (by omega)]; rfl
  · rfl
theorem rows96 {F : Fz} {n k : Nat} {p : Prg} {cv ov v : Value} {L O : Nat → List Int} (hP : PrR F cv ov p) (hok : p.ok) (hn1 : 1 ≤ n) (hn : n ≤ 4096) (hk : k ≤ 4000000000) (hk1 : 100 ≤ k) (hL : ∀ i, i < n → ((L i).length : Int) = p.ins) (hb : ∀ i, i < n → ∀ x ∈ L i, x.natAbs < 2 ^ k)
    (hv : RowsR F v p.ins.toNat fun r => rw_ n (fun i => rg0 (L i)) r) (hr : ∀ i, i < n → Runs p (L i) (O i)) : Pu 96 [vPr p cv ov, v] F fun u F' => ∃ v', u = .tuple #[v', .int .i64 0, .int .i64 0] ∧ RowsR F' v' p.outs.length fun j => (List.range n).map fun i => (O i).getD j 0 := fun own => by
  obtain ⟨A1, c1, A2, c2, e1, e2, hP⟩ := hP.sl
  subst e1 e2
  have o1 := hok.ins1
  have o2 := hok.insr
  have o3 := hok.regs
  have o6 := hok.outn
  have hv0 := hv
  obtain ⟨qs0, hq0, hql0, _⟩ := hv
  obtain ⟨A, c, rfl⟩ := hq0.dest
  refine n_fun Tryz.func96 Tryz.ntmps96 rfl rfl rfl ?_
  refine go ?_
  intro r2
  refine go ?_
  refine o_call rfl (laid133 (n := n) hP hok hn1 hn hv0 (fun i hi r h => rg0_hi (by rw [hL i hi]; exact h)) _) (fun u o F1 ⟨rR, qs, e1, e2, hF1, hql, hqr⟩ => ⟨_, .text, ?_⟩) (List.Sublist.refl _)
  subst e1 e2
  have hP1 := hP.le hF1
  refine goT ?_
  refine c_drwoW [1, 2, 0, 3, 4] [.c r2 [.int .i64 p.ins, .int .i64 p.regs, .slice A1 p.code.length c1, .slice A2 p.outs.length c2]] (by kernel_rfl) (by simp only [List.map_cons, List.map_nil, getD_lit, List.getD_cons_zero, List.getD_cons_succ]; exact rfl) ?_
  refine go ?_
  refine o_ps rfl rows135 (fun u e => ?_) sl
  subst e
  refine go ?_
  refine o_call rfl (run134 hP1 hok (by omega) hk hk1 hb (fun i hi => by obtain ⟨s, hs, _⟩ := hr i hi; exact ⟨s, hs⟩) hql hqr (fun i hi => rfl) _) (fun u o F2 ⟨e1, hF2, qs', S, e2, hql', hqr', hAt⟩ => ⟨_, .keep (by rw [e2]; exact sl) hF2, ?_⟩) sl
  subst e1 e2
  refine go ?_
  have hO := (hP1.le hF2).outs
  refine o_nil sl ?_
  refine go ?_
  have hout : ∀ i, i < n → O i = p.outs.map (S i) := fun i hi => by
    obtain ⟨s, hs, ho⟩ := hr i hi
    have := hAt i hi
    rw [List.take_length, hs] at this
    rw [ho, Option.some.inj this]
  refine c_loopT (fun m X o G => ∃ (j : Nat) (cv : Value) (ps : List SZ), m = p.outs.length - j ∧ X = [(7, .slice (some ⟨rR, 0, none⟩) p.regs.toNat p.regs.toNat), (10, cv), (30, .slice A2 p.outs.length c2), (31, .int .i64 (p.outs.length : Nat)), (32, .int .i64 (j : Nat))] ∧ .g cv 42 1 ps.length (ps.map vS) :: .c rR (qs'.map vS) :: .c r2 [.int .i64 p.ins, .int .i64 p.regs, .slice A1 p.code.length c1, .slice A2 p.outs.length c2] :: own = o ∧ Fle F2 G ∧ ps.length = j ∧ RegR G ps (fun j => (List.range n).map fun i => (O i).getD j 0) ∧ j ≤ p.outs.length)
    ⟨_, _, _, _, ⟨0, .slice none 0 0, [], rfl, rfl, rfl, Fle.refl _, rfl, fun r hr => absurd hr (by simp), by omega⟩, ⟨rfl, rfl, rfl, rfl, rfl, trivial⟩, Turn.nil 42 1⟩ ?_
  rintro _ _ _ G b ⟨j, cv, ps, rfl, rfl, rfl, hG, hpl, hps, hj⟩
  have hO' := RowM.le hO hG
  by_cases hjl : j < p.outs.length
  · have hro := hok.outs _ (getD_mem (z := 0) hjl)
    have hgo : ∀ i, i < n → (O i).getD j 0 = S i (p.outs.getD j 0) := fun i hi => by
      rw [hout i hi, List.getD_eq_getElem?_getD, List.getElem?_map, List.getElem?_eq_getElem hjl, List.getD_eq_getElem?_getD, List.getElem?_eq_getElem hjl]; rfl
    generalize hq : p.outs.getD j 0 = q at *
    obtain ⟨hr0, hr1⟩ := hro
    obtain ⟨m, rfl⟩ : ∃ m : Nat, q = m := ⟨q.toNat, by omega⟩
    have hml : m < qs'.length := by omega
    have hrow : RowI G (vS (qs'.getD m z0S)) ((List.range n).map fun i => (O i).getD j 0) := by
      have : ((List.range n).map fun i => (O i).getD j 0) = rw_ n S (m : Nat) := List.map_congr_left fun i hi => hgo i (List.mem_range.1 hi)
      rw [this]
      exact (hqr' m hml).le hG
    refine go ?_
    refine o_val (.int .i64 (m : Nat)) (congrArg vi hq) ?_
    refine go ?_
    refine o_load rfl (rdC 1 rfl (map_getD z0S hml)) ?_
    refine go ?_
    refine o_pu rfl (clone137 hrow (by simp; omega)) (fun u F3 hF3 hu => ?_) sl
    obtain ⟨qn, e, hqn⟩ := hu.sz
    subst e
    refine go ?_
    refine o_lit rfl rfl rfl rfl rfl (fun rl => ?_)
    refine o_app1 0 rfl rfl rfl rfl rfl rfl rfl (by omega) (by omega) (fun _ => rfl) (fun A' c' => ?_)
    refine go ?_
    exact ⟨_, _, _, _, ⟨j + 1, .slice A' (ps.length + 1) c', ps ++ [qn], rfl, rfl, rfl, hG.trans hF3, by simp [hpl], fun r hr => by
      rw [getD_snoc]
      by_cases h : r < ps.length
      · rw [if_pos h]; exact (hps r h).le hF3
      · have : r = ps.length := by simp at hr; omega
        rw [if_neg h, if_pos this, this, hpl]; exact hqn, by omega⟩, ⟨rfl, rfl, rfl, rfl, eqI (by omega), trivial⟩, by simp only [List.length_append, List.map_append, List.length_singleton, List.map_cons, List.map_nil]; exact Turn.refl _ _, rfl, by omega⟩
  · obtain rfl : j = p.outs.length := by omega
    refine c_iceM (l := ps) (f := vS) z0S 0 rfl (fun hR => ?_)
    refine go ?_
    exact b_ret rfl (.cons (.tmp rfl) (.cons (.tmp rfl) (.cons (.tmp rfl) .nil))) (Turn.of sl (Fle.refl _)) ⟨rfl, ((hF1.trans hF2).trans hG).trans (Fz.add_le _ _), _, rfl, ps, hR, hpl, hps.le (Fz.add_le _ _)⟩
end Go.Proofs.YthkoodpnepfijaaGreatDoor

/-
  Steps towards TopCounts (no conditions of their own): WALKS: order: places.lay, places.give. WALKS: order: Pack. RANGE OVER A FUNCTION whose values come about on the way: its states are a relation.
-/
import Derived.Test.YthkoodpnepfijaaGreatDoorM19
import Derived.Test.YthkoodpnepfijaaGreatDoorM26
/- XW: WALKS: order: places.lay, places.give. -/
namespace Go.Proofs.YthkoodpnepfijaaGreatDoor
open Go.RowKit
set_option linter.unusedVariables false
set_option linter.unusedSimpArgs false
set_option maxRecDepth 100000
set_option maxHeartbeats 1000000
/-- Where values stand: the block, the map, the registers that are free. -/
abbrev plC (rs rm : Nat) (fv : Value) : Ch := .c rs [.map (some rm), fv]
abbrev frC (fv : Value) (free : List Bool) : Ch := .g fv 4 1 free.length (free.map vb)
theorem lay94 {rs rm : Nat} {fv : Value} {at' : List (Int × Int)} {free : List Bool} {F : Fz} (hb : free.length ≤ 1000) (v u : Int) (rest : List Ch) :
    N 94 [.pointer (some ⟨rs, 0, none⟩), .int .i64 v, .int .i64 u] (plC rs rm fv :: .o rm (mapO vi at') :: frC fv free :: rest) F fun x o F' => ∃ fv', o = plC rs rm fv' :: .o rm (mapO vi (updA at' v free.length)) :: frC fv' (free ++ [decide (u < 0)]) :: rest ∧ F' = F := by
  refine n_fun Tryz.func94 Tryz.ntmps94 rfl rfl rfl ?_
  refine goT ?_
  refine c_drww [plC rs rm fv] sl rfl (by decide +kernel) ?_
  refine o_gslW 2 rfl sl (fun A c e => ?_)
  subst e
  refine go ?_
  refine o_mapUp (enc := vi) 1 v rfl rfl rfl rfl rfl sl (.keep sl (Fle.refl _)) ?_
  refine o_nil sl ?_
  refine go ?_
  refine o_lit rfl rfl rfl rfl rfl (fun r3 => ?_)
  refine o_app1 2 rfl rfl rfl rfl rfl rfl rfl (by omega) (by omega) (fun _ => rfl) (fun A' c' => ?_)
  refine go ?_
  refine b_norm rfl .nil (Turn.refl _ _) ⟨.slice A' (free.length + 1) c', ?_, rfl⟩
  simp only [frC, List.length_append, List.length_singleton, List.map_append]
  rfl
theorem give95 {rs rm : Nat} {fv : Value} {at' : List (Int × Int)} {free : List Bool} {F : Fz} (hb : free.length ≤ 1000) (h0 : 0 < free.length) (v : Int) (rest : List Ch) :
    N 95 [.pointer (some ⟨rs, 0, none⟩), .int .i64 v] (plC rs rm fv :: .o rm (mapO vi at') :: frC fv free :: rest) F fun x o F' => ∃ (w : Nat) (fv' : Value) (free' : List Bool), x = .int .i64 (w : Nat) ∧ o = plC rs rm fv' :: .o rm (mapO vi (updA at' v w)) :: frC fv' free' :: rest ∧ F' = F ∧ GiveR free free' w := by
  refine n_fun Tryz.func95 Tryz.ntmps95 rfl rfl rfl ?_
  refine c_gslQ 2 rfl h0 (fun g c hgc e => ?_)
  subst e
  refine c_seq ?_
  refine go ?_
  refine c_scope (fun _ _ h => h) ?_
  refine go ?_
  refine c_loopT (fun mm X o G => ∃ j : Nat, mm = free.length - j ∧ X = [(0, .pointer (some ⟨rs, 0, none⟩)), (1, .int .i64 v), (10, .slice (some ⟨g, 0, none⟩) free.length c), (11, .int .i64 (free.length : Nat)), (12, .int .i64 (j : Nat))] ∧ plC rs rm (.slice (some ⟨g, 0, none⟩) free.length c) :: .o rm (mapO vi at') :: frC (.slice (some ⟨g, 0, none⟩) free.length c) free :: rest = o ∧ F = G ∧ j ≤ free.length ∧ ∀ q : Nat, q < j → free.getD q true = false)
    ⟨_, _, _, _, ⟨0, rfl, rfl, rfl, rfl, by omega, fun q h => by omega⟩, ⟨rfl, rfl, rfl, rfl, rfl, trivial⟩, Turn.refl _ _⟩ ?_
  rintro _ _ _ _ b ⟨j, rfl, rfl, rfl, rfl, hj, hq⟩
  by_cases hjl : j < free.length
  · have hgd : ∀ d, free.getD j d = free.getD j false := fun d => by rw [List.getD_eq_getElem?_getD, List.getElem?_eq_getElem hjl, List.getD_eq_getElem?_getD, List.getElem?_eq_getElem hjl]; rfl
    cases hv : free.getD j false
    · refine go ?_
      refine o_load rfl (rdG 2 rfl (map_getD false (by omega))) ?_
      refine go ?_
      exact ⟨_, _, _, _, ⟨j + 1, rfl, rfl, rfl, rfl, by omega, fun q h => by
        by_cases e : q = j
        · rw [e, hgd, hv]
        · exact hq q (by omega)⟩, ⟨rfl, rfl, rfl, rfl, eqI (by omega), trivial⟩, Turn.refl _ _, rfl, by omega⟩
    · refine go ?_
      refine o_load rfl (rdG 2 rfl (map_getD false (by omega))) ?_
      refine goT ?_
      refine c_drww [plC rs rm (.slice (some ⟨g, 0, none⟩) free.length c)] sl rfl (by decide +kernel) ?_
      refine go ?_
      refine o_mapEn (enc := vi) 1 v rfl rfl rfl rfl sl (.keep sl (Fle.refl _)) (fun u1 => ?_)
      refine go ?_
      refine o_entSt (enc := vi) (v := (j : Nat)) 1 v rfl rfl rfl rfl rfl sl (.keep sl (Fle.refl _)) ?_
      refine go ?_
      refine o_storeg (q := 0) 2 rfl rfl rfl rfl (by rw [List.length_map]; omega) ?_ sl (.keep sl (Fle.refl _))
      simp only [List.set_cons_succ, List.set_cons_zero]
      refine o_nil sl ?_
      refine go ?_
      refine b_ret rfl (.cons (.tmp rfl) .nil) (Turn.refl _ _) ⟨j, .slice (some ⟨g, 0, none⟩) free.length c, free.set j false, rfl, ?_, rfl, ⟨.inl ⟨hjl, hv, rfl⟩⟩⟩
      simp only [frC, List.length_set, ← vb_set]
  · obtain rfl : j = free.length := by omega
    refine goT ?_
    refine c_drww [plC rs rm (.slice (some ⟨g, 0, none⟩) free.length c)] sl rfl (by decide +kernel) ?_
    refine go ?_
    refine o_mapUp (enc := vi) 1 v rfl rfl rfl rfl rfl sl (.keep sl (Fle.refl _)) ?_
    refine o_nil sl ?_
    refine go ?_
    refine o_lit rfl rfl rfl rfl rfl (fun r3 => ?_)
    refine o_app1 2 rfl rfl rfl rfl rfl rfl rfl (by omega) (by omega) (fun _ => rfl) (fun A' c' => ?_)
    refine go ?_
    refine b_ret rfl (.cons (.tmp rfl) .nil) (Turn.refl _ _) ⟨free.length, .slice A' (free.length + 1) c', free ++ [false], ?_, ?_, rfl, ⟨.inr ⟨hq, rfl, rfl⟩⟩⟩
    · simp only [tupV]; exact congrArg (Value.int .i64) (by omega)
    · simp only [frC, List.length_append, List.length_singleton, List.map_append]; rfl
end Go.Proofs.YthkoodpnepfijaaGreatDoor
/- XX: WALKS: order: Pack. -/
namespace Go.Proofs.YthkoodpnepfijaaGreatDoor
open Go.RowKit
set_option linter.unusedVariables false
set_option linter.unusedSimpArgs false
set_option maxRecDepth 100000
set_option maxHeartbeats 1000000
theorem getD_in {l : List Int} {i : Nat} (a b : Int) (h : i < l.length) : l.getD i a = l.getD i b := by
  rw [List.getD_eq_getElem?_getD, List.getElem?_eq_getElem h, List.getD_eq_getElem?_getD, List.getElem?_eq_getElem h]; rfl
theorem at0_upd (n : Nat) : updA (at0 n) (n : Int) (n : Int) = at0 (n + 1) := by
  rw [upd_new (by rw [asc_at0, if_neg (by omega)]), at0_succ]
theorem free0_succ (p : Prg) (n : Nat) : free0 p (n + 1) = free0 p n ++ [decide ((untF p).getD n (-1) < 0)] := by
  unfold free0; rw [List.range_succ, List.map_append]; rfl
theorem pack55 {F : Fz} {p : Prg} {cv ov : Value} (hP : PrR F cv ov p) (hok : p.ok) : Pu 55 [vPr p cv ov] F fun u F' => ∃ q cv' ov', u = .tuple #[vPr q cv' ov', .int .i64 0] ∧ PrR F' cv' ov' q ∧ Sim p q := fun own => by
  obtain ⟨A1, c1, e1⟩ := hP.code.dest
  obtain ⟨A2, c2, e2⟩ := hP.outs.dest
  subst e1 e2
  have o1 := hok.ins1
  have o2 := hok.insr
  have o3 := hok.regs
  have o4 := hok.len
  have o6 := hok.outn
  obtain ⟨I, hI⟩ : ∃ I : Nat, p.ins = I := ⟨p.ins.toNat, by omega⟩
  refine n_fun Tryz.func55 Tryz.ntmps55 rfl rfl rfl ?_
  refine go ?_
  intro r1 r2
  refine go ?_
  refine o_pu rfl (lives93 hP hok) (fun v F1 hF1 ⟨A, e, ⟨cv', ov', nv, av, bv, sv, uo, uv, hA, hN, ha, hb, hs, ho, hu⟩⟩ => ?_) sl
  subst e
  have hP1 := hP.le hF1
  have huf := untF_len hok
  have hcm := cnt_mono (p := p) (Nat.zero_le p.code.length)
  have hc0 := cnt_zero hok
  obtain ⟨Au, cu, eu⟩ := hu.dest
  subst eu
  have hA9 : F1 (A.add 9) _ := hA 9 _ rfl
  refine go ?_
  refine o_mkmap vi sl (fun _ => .text) (fun rm => ?_)
  refine go ?_
  intro rs
  refine go ?_
  refine c_loopT (fun m X o G => ∃ (j : Nat) (fv : Value), m = I - j ∧ X = [(1, .pointer (some ⟨r1, 0, none⟩)), (2, .pointer (some ⟨r2, 0, none⟩)), (4, .pointer (some A)), (6, .pointer (some ⟨rs, 0, none⟩)), (29, .int .i64 p.ins), (30, .int .i64 (j : Nat))] ∧ plC rs rm fv :: .o rm (mapO vi (at0 j)) :: frC fv (free0 p j) :: .c r2 [.int .i64 0, .int .i64 0, .slice none 0 0, .slice none 0 0] :: .c r1 [.int .i64 p.ins, .int .i64 p.regs, .slice A1 p.code.length c1, .slice A2 p.outs.length c2] :: own = o ∧ F1 = G ∧ j ≤ I)
    ⟨_, _, _, _, ⟨0, .slice none 0 0, rfl, rfl, rfl, rfl, by omega⟩, ⟨rfl, rfl, rfl, rfl, rfl, rfl, trivial⟩, (Turn.nil 4 1).trans (Turn.perm (pkP 1 rfl (pkP 1 rfl (.refl _))))⟩ ?_
  rintro _ _ _ _ b ⟨j, fv, rfl, rfl, rfl, rfl, hj⟩
  by_cases hjl : j < I
  · have hfl := free0_len p j
    refine go ?_
    refine o_call rfl (lay94 (by omega) (j : Nat) ((untF p).getD j 0) _) (fun u o F' ⟨fv', e1, e2⟩ => ⟨_, .text, ?_⟩) sl
    subst e1 e2
    refine go ?_
    refine ⟨_, _, _, _, ⟨j + 1, fv', rfl, rfl, rfl, rfl, by omega⟩, ⟨rfl, rfl, rfl, rfl, rfl, eqI (by omega), trivial⟩, ?_, rfl, by omega⟩
    rw [free0_len, at0_upd, getD_in 0 (-1) (by omega), ← free0_succ]
    exact Turn.refl _ _
  obtain rfl : j = I := by omega
  have hgI := getD_in (l := untF p) (i := j) 0 (-1) (by omega)
  have hln : laidN p = if 0 ≤ (untF p).getD j (-1) then j + 1 else j := by unfold laidN; rw [hI]; rfl
  rw [hI]
  refine go ?_
  refine c_joinT (fun Y o G => ∃ fv, Y = [(1, .pointer (some ⟨r1, 0, none⟩)), (2, .pointer (some ⟨r2, 0, none⟩)), (4, .pointer (some A)), (6, .pointer (some ⟨rs, 0, none⟩))] ∧ plC rs rm fv :: .o rm (mapO vi (at0 (laidN p))) :: frC fv (free0 p (laidN p)) :: .c r2 [.int .i64 0, .int .i64 0, .slice none 0 0, .slice none 0 0] :: .c r1 [.int .i64 (j : Nat), .int .i64 p.regs, .slice A1 p.code.length c1, .slice A2 p.outs.length c2] :: own = o ∧ F1 = G) ?_ ?_
  · by_cases hu0 : 0 ≤ (untF p).getD j 0
    · have hfl := free0_len p j
      rw [if_pos (by omega)] at hln
      refine goT ?_
      refine c_drww [.c r1 [.int .i64 (j : Nat), .int .i64 p.regs, .slice A1 p.code.length c1, .slice A2 p.outs.length c2]] sl rfl (by decide +kernel) ?_
      refine go ?_
      refine o_call rfl (lay94 (by omega) (j : Nat) ((untF p).getD j 0) _) (fun u o F' ⟨fv', e1, e2⟩ => ⟨_, .keep (by rw [e1]; exact sl) (by rw [e2]; exact Fle.refl _), ?_⟩) sl
      subst e1 e2
      refine o_nil sl ?_
      refine ⟨_, _, _, ⟨fv', rfl, rfl, rfl⟩, ⟨rfl, rfl, rfl, rfl, trivial⟩, ?_, rfl⟩
      rw [free0_len, at0_upd, hgI, ← free0_succ, hln]
      exact Turn.refl _ _
    · rw [if_neg (by omega)] at hln
      refine go ?_
      refine ⟨_, _, _, ⟨fv, rfl, rfl, rfl⟩, ⟨rfl, rfl, rfl, rfl, trivial⟩, ?_, rfl⟩
      rw [hln]
      exact Turn.refl _ _
  rintro _ _ _ b9 ⟨fv, rfl, rfl, rfl⟩
  have hPk := pk_nil hok
  have hfit := hPk.fits
  have hlow := hPk.low
  have hfl := free0_len p (laidN p)
  generalize at0 (laidN p) = at' at *
  generalize free0 p (laidN p) = free at *
  have hmx : max (j : Int) free.length = free.length := by omega
  refine goT ?_
  refine c_drww [plC rs rm fv, .c r1 [.int .i64 (j : Nat), .int .i64 p.regs, .slice A1 p.code.length c1, .slice A2 p.outs.length c2]] sl rfl (by decide +kernel) ?_
  refine o_gslW 2 rfl sl (fun A' c' e => ?_)
  subst e
  refine go ?_
  refine o_max rfl rfl ?_
  rw [hmx]
  refine go ?_
  refine o_allocN sl (fun _ => .keep sl (Fle.refl _)) (fun r8 => ?_)
  refine o_staF rfl inferInstance rfl rfl rfl get0 rfl rfl sl (.late [] (by decide +kernel) (List.nil_sublist _)) ?_
  refine go ?_
  obtain ⟨Aq, cq, eq⟩ := hN.dest
  obtain ⟨Aa, ca, ea⟩ := ha.dest
  obtain ⟨Ab, cb, eb⟩ := hb.dest
  obtain ⟨As, cs, es⟩ := hs.dest
  obtain ⟨Ao, co, eo⟩ := ho.dest
  subst eq ea eb es eo
  have hnl := needL_len p
  have hla := upto_len (aF p) p.code.length p.code.length
  have hlb := upto_len (bF p) p.code.length p.code.length
  have hls := upto_len (sF p) p.code.length p.code.length
  refine c_loopT (fun m X o G => ∃ (k : Nat) (fv cv : Value) (at' : List (Int × Int)) (free : List Bool) (cd : List Ins), m = p.code.length - k ∧ X = [(1, .pointer (some ⟨r1, 0, none⟩)), (2, .pointer (some ⟨r2, 0, none⟩)), (4, .pointer (some A)), (6, .pointer (some ⟨rs, 0, none⟩)), (8, .pointer (some ⟨r8, 0, none⟩)), (77, .slice A1 p.code.length c1), (78, .int .i64 (p.code.length : Nat)), (79, .int .i64 (k : Nat))] ∧ plC rs rm fv :: .o rm (mapO vi at') :: frC fv free :: .c r8 [.int .i64 (j : Nat), .int .i64 (free.length : Nat), cv, .slice none 0 0] :: coC cv cd :: .c r2 [.int .i64 0, .int .i64 0, .slice none 0 0, .slice none 0 0] :: .c r1 [.int .i64 (j : Nat), .int .i64 p.regs, .slice A1 p.code.length c1, .slice A2 p.outs.length c2] :: own = o ∧ Fle F1 G ∧ k ≤ p.code.length ∧ PkI p k at' free cd)
    ⟨_, _, _, _, ⟨0, .slice A' free.length c', .slice none 0 0, at', free, [], rfl, rfl, rfl, Fle.refl _, by omega, hPk⟩, ⟨rfl, rfl, rfl, rfl, rfl, rfl, rfl, rfl, trivial⟩, (Turn.nil 119 5).trans (Turn.perm (pkP 2 rfl (pkP 2 rfl (pkP 2 rfl (.swap ..)))))⟩ ?_
  clear hPk hfit hlow hfl hmx
  rintro _ _ _ G b ⟨k, fv, cv, at', free, cd, rfl, rfl, rfl, hG, hk, hPk⟩
  have hfit := hPk.fits
  have hlow := hPk.low
  have hlen := hPk.len
  have hC := RowS.le hP1.code hG
  have q4 : G (A.add 4) _ := hG _ _ (hA 4 _ rfl)
  have q5 : G (A.add 5) _ := hG _ _ (hA 5 _ rfl)
  have q6 : G (A.add 6) _ := hG _ _ (hA 6 _ rfl)
  have q7 : G (A.add 7) _ := hG _ _ (hA 7 _ rfl)
  have q8 : G (A.add 8) _ := hG _ _ (hA 8 _ rfl)
  have q9 : G (A.add 9) _ := hG _ _ (hA 9 _ rfl)
  have hN' := RowM.le hN hG
  by_cases hkl : k < p.code.length
  · have hgI : p.code.getD k z0I = insK p k := rfl
    cases hnd : (needL p).getD k false
    · have hPk' := pk_no hok hkl hnd hPk
      refine go ?_
      intro r10
      refine go ?_
      exact ⟨_, _, _, _, ⟨k + 1, fv, cv, at', free, cd, rfl, rfl, rfl, hG, by omega, hPk'⟩, ⟨rfl, rfl, rfl, rfl, rfl, rfl, rfl, eqI (by omega), trivial⟩, Turn.drop, rfl, by omega⟩
    · have hio := insK_ok hok hkl
      obtain ⟨la, lb, lva, lvb⟩ := live_ab hok hkl hnd
      obtain ⟨qa, ka1, ka2, ka3⟩ := hPk.has _ lva
      obtain ⟨qb, kb1, kb2, kb3⟩ := hPk.has _ lvb
      obtain ⟨⟨a0, a1⟩, b0', b1⟩ := ab_ok hok hkl
      have hpy := fun at2 free' w b => pk_yes (at2 := at2) (free' := free') (w := w) (b := b) hok hkl hnd hPk ka1 kb1
      obtain ⟨an, han⟩ : ∃ an : Nat, aK p k = an := ⟨(aK p k).toNat, by omega⟩
      obtain ⟨bn, hbn⟩ : ∃ bn : Nat, bK p k = bn := ⟨(bK p k).toNat, by omega⟩
      have hgA : (upto (aF p) p.code.length p.code.length).getD k 0 = (an : Nat) := by rw [upto_at hkl hkl]; unfold aF; rw [hnd, if_pos rfl]; exact han
      have hgB : (upto (bF p) p.code.length p.code.length).getD k 0 = (bn : Nat) := by rw [upto_at hkl hkl]; unfold bF; rw [hnd, if_pos rfl]; exact hbn
      have hgS : (upto (sF p) p.code.length p.code.length).getD k 0 = (cntK p k : Nat) := by rw [upto_at hkl hkl]; unfold sF; rw [hnd, if_pos rfl]
      rw [han] at ka1
      rw [hbn] at kb1
      have hfrd : freed p k free qa qb = if (untF p).getD bn (-1) = (k : Int) then (if (untF p).getD an (-1) = (k : Int) then free.set qa true else free).set qb true else (if (untF p).getD an (-1) = (k : Int) then free.set qa true else free) := by
        unfold freed; rw [han, hbn]; simp only [Int.toNat_natCast]
      have hcm2 := cnt_mono (p := p) (Nat.le_of_lt hkl)
      have hua := getD_in (l := untF p) (i := an) 0 (-1) (by omega)
      have hub := getD_in (l := untF p) (i := bn) 0 (-1) (by omega)
      have hW := Wrp.mk (And.intro hpy (And.intro hfrd (And.intro la (And.intro lb (And.intro lva lvb)))))
      clear hpy hfrd la lb lva lvb
      refine go ?_
      intro r10
      rw [hgI]
      generalize hI2 : insK p k = I2 at *
      refine o_pu rfl (asks83 I2) (fun v F2 hF2 hv => ?_) sl
      rw [asks_eq hio] at hv
      obtain ⟨Av, cv2, ev⟩ := hv.dest
      subst ev
      have p5 := hF2 _ _ q5
      have p6 := hF2 _ _ q6
      have p7 := hF2 _ _ q7
      have p9 := hF2 _ _ q9
      have r5 := RowM.le (RowM.le ha hG) hF2
      have r6 := RowM.le (RowM.le hb hG) hF2
      have r7 := RowM.le (RowM.le hs hG) hF2
      have r9 := RowM.le (RowM.le hu hG) hF2
      refine goT ?_
      refine c_drww [plC rs rm fv, .o rm (mapO vi at')] sl rfl (by decide +kernel) ?_
      refine go ?_
      rw [hgA]
      refine o_look (enc := vi) 1 (an : Nat) rfl rfl rfl ?_
      simp only [Bool.false_eq_true, if_false, ka1]
      refine go ?_
      refine o_stL rfl inferInstance rfl rfl get0 rfl rfl (Nat.le_of_ble_eq_true rfl) sl (.keep sl (Fle.refl _)) ?_
      refine o_nil sl ?_
      refine go ?_
      refine c_joinT (fun Y o G' => Y = [(1, .pointer (some ⟨r1, 0, none⟩)), (2, .pointer (some ⟨r2, 0, none⟩)), (4, .pointer (some A)), (6, .pointer (some ⟨rs, 0, none⟩)), (8, .pointer (some ⟨r8, 0, none⟩)), (77, .slice A1 p.code.length c1), (78, .int .i64 (p.code.length : Nat)), (79, .int .i64 (k : Nat)), (9, .int .i64 (k : Nat)), (10, .pointer (some ⟨r10, 0, none⟩))] ∧ .c r10 [.int .i64 I2.op, .int .i64 I2.to, .int .i64 (qa : Nat), .int .i64 (if twoOp I2.op then (qb : Int) else I2.b), .int .i64 I2.c] :: plC rs rm fv :: .o rm (mapO vi at') :: frC fv free :: .c r8 [.int .i64 (j : Nat), .int .i64 (free.length : Nat), cv, .slice none 0 0] :: coC cv cd :: .c r2 [.int .i64 0, .int .i64 0, .slice none 0 0, .slice none 0 0] :: .c r1 [.int .i64 (j : Nat), .int .i64 p.regs, .slice A1 p.code.length c1, .slice A2 p.outs.length c2] :: own = o ∧ F2 = G') ?_ ?_
      · by_cases h2 : I2.op = 3 ∨ I2.op = 4
        · have hl : I2.asks.length = 2 := by unfold Ins.asks; rw [if_pos (show twoOp I2.op from h2)]; rfl
          refine goT ?_
          refine c_drww [plC rs rm fv, .o rm (mapO vi at')] sl rfl (by decide +kernel) ?_
          refine go ?_
          rw [hgB]
          refine o_look (enc := vi) 1 (bn : Nat) rfl rfl rfl ?_
          simp only [Bool.false_eq_true, if_false, kb1]
          refine go ?_
          refine o_stL rfl inferInstance rfl rfl get0 rfl rfl (Nat.le_of_ble_eq_true rfl) sl (.keep sl (Fle.refl _)) ?_
          refine o_nil sl ?_
          refine ⟨_, _, _, ⟨rfl, rfl, rfl⟩, ⟨rfl, rfl, rfl, rfl, rfl, rfl, rfl, rfl, rfl, rfl, trivial⟩, ?_, rfl⟩
          rw [if_pos (show twoOp I2.op from h2)]
          exact Turn.refl _ _
        · have hl : I2.asks.length = 1 := by unfold Ins.asks; rw [if_neg (show ¬ twoOp I2.op from h2)]; rfl
          refine go ?_
          refine ⟨_, _, _, ⟨rfl, rfl, rfl⟩, ⟨rfl, rfl, rfl, rfl, rfl, rfl, rfl, rfl, rfl, rfl, trivial⟩, ?_, rfl⟩
          rw [if_neg (show ¬ twoOp I2.op from h2)]
          exact Turn.refl _ _
      rintro _ _ _ b8 ⟨rfl, rfl, rfl⟩
      generalize hbq : (if twoOp I2.op then (qb : Int) else I2.b) = bq
      refine goT ?_
      refine c_drw rfl (by decide +kernel) ?_
      refine go ?_
      rw [hgA, hgB]
      refine o_gslQ 3 rfl (by omega) sl (fun gf cf hgf e => ?_)
      subst e
      refine o_buildA rfl rfl ?_
      refine go ?_
      obtain ⟨fi, hf0, hf1, hf2⟩ : ∃ fi : Nat → List Bool, fi 0 = free ∧ fi 1 = (if (untF p).getD an (-1) = (k : Int) then free.set qa true else free) ∧ fi 2 = (if (untF p).getD bn (-1) = (k : Int) then (if (untF p).getD an (-1) = (k : Int) then free.set qa true else free).set qb true else (if (untF p).getD an (-1) = (k : Int) then free.set qa true else free)) := ⟨fun n => if n = 0 then free else if n = 1 then (if (untF p).getD an (-1) = (k : Int) then free.set qa true else free) else (if (untF p).getD bn (-1) = (k : Int) then (if (untF p).getD an (-1) = (k : Int) then free.set qa true else free).set qb true else (if (untF p).getD an (-1) = (k : Int) then free.set qa true else free)), rfl, rfl, rfl⟩
      have hfl0 : (fi 0).length = free.length := by rw [hf0]
      have hfl1 : (fi 1).length = free.length := by rw [hf1]; split <;> simp
      have hfl2 : (fi 2).length = free.length := by rw [hf2]; split <;> split <;> simp
      rw [← hf1] at hf2
      rw [← hf0] at hf1
      refine c_loopT (fun m X o G' => ∃ i : Nat, m = 2 - i ∧ X = [(1, .pointer (some ⟨r1, 0, none⟩)), (2, .pointer (some ⟨r2, 0, none⟩)), (4, .pointer (some A)), (6, .pointer (some ⟨rs, 0, none⟩)), (8, .pointer (some ⟨r8, 0, none⟩)), (77, .slice A1 p.code.length c1), (78, .int .i64 (p.code.length : Nat)), (79, .int .i64 (k : Nat)), (9, .int .i64 (k : Nat)), (10, .pointer (some ⟨r10, 0, none⟩)), (137, .agg [.int .i64 (an : Nat), .int .i64 (bn : Nat)].toArray), (138, .int .i64 (i : Nat))] ∧ .c r10 [.int .i64 I2.op, .int .i64 I2.to, .int .i64 (qa : Nat), .int .i64 bq, .int .i64 I2.c] :: plC rs rm (.slice (some ⟨gf, 0, none⟩) free.length cf) :: .o rm (mapO vi at') :: .g (.slice (some ⟨gf, 0, none⟩) free.length cf) 4 1 free.length ((fi i).map vb) :: .c r8 [.int .i64 (j : Nat), .int .i64 (free.length : Nat), cv, .slice none 0 0] :: coC cv cd :: .c r2 [.int .i64 0, .int .i64 0, .slice none 0 0, .slice none 0 0] :: .c r1 [.int .i64 (j : Nat), .int .i64 p.regs, .slice A1 p.code.length c1, .slice A2 p.outs.length c2] :: own = o ∧ F2 = G' ∧ i ≤ 2)
        ⟨_, _, _, _, ⟨0, rfl, rfl, rfl, rfl, by omega⟩, ⟨rfl, rfl, rfl, rfl, rfl, rfl, rfl, rfl, rfl, rfl, rfl, rfl, trivial⟩, by rw [hf0]; exact Turn.refl _ _⟩ ?_
      rintro _ _ _ _ b7 ⟨i, rfl, rfl, rfl, rfl, hi⟩
      by_cases hi0 : i = 0
      · subst hi0
        by_cases hq : (untF p).getD an 0 = (k : Int)
        · refine go ?_
          refine o_ixa 0 rfl rfl rfl (by decide) rfl ?_
          refine goT ?_
          refine c_drww [plC rs rm (.slice (some ⟨gf, 0, none⟩) free.length cf), .o rm (mapO vi at')] sl rfl (by decide +kernel) ?_
          refine go ?_
          refine o_look (enc := vi) 1 (an : Nat) rfl rfl rfl ?_
          simp only [Bool.false_eq_true, if_false, ka1, Option.getD_some]
          refine go ?_
          refine o_storeg (q := 0) 3 rfl rfl rfl rfl (by rw [List.length_map]; omega) ?_ sl (.keep sl (Fle.refl _))
          simp only [List.set_cons_succ, List.set_cons_zero]
          refine o_nil sl ?_
          refine go ?_
          refine ⟨_, _, _, _, ⟨1, rfl, rfl, rfl, rfl, by omega⟩, ⟨rfl, rfl, rfl, rfl, rfl, rfl, rfl, rfl, rfl, rfl, rfl, rfl, trivial⟩, ?_, rfl, by omega⟩
          rw [vb_set, show fi 1 = (fi 0).set qa true by rw [hf1, if_pos (by omega)]]
          exact Turn.refl _ _
        · refine go ?_
          refine o_ixa 0 rfl rfl rfl (by decide) rfl ?_
          refine go ?_
          refine ⟨_, _, _, _, ⟨1, rfl, rfl, rfl, rfl, by omega⟩, ⟨rfl, rfl, rfl, rfl, rfl, rfl, rfl, rfl, rfl, rfl, rfl, rfl, trivial⟩, ?_, rfl, by omega⟩
          rw [show fi 1 = fi 0 by rw [hf1, if_neg (by omega)]]
          exact Turn.refl _ _
      by_cases hi1 : i = 1
      · subst hi1
        by_cases hq : (untF p).getD bn 0 = (k : Int)
        · refine go ?_
          refine o_ixa 1 rfl rfl rfl (by decide) rfl ?_
          refine goT ?_
          refine c_drww [plC rs rm (.slice (some ⟨gf, 0, none⟩) free.length cf), .o rm (mapO vi at')] sl rfl (by decide +kernel) ?_
          refine go ?_
          refine o_look (enc := vi) 1 (bn : Nat) rfl rfl rfl ?_
          simp only [Bool.false_eq_true, if_false, kb1, Option.getD_some]
          refine go ?_
          refine o_storeg (q := 0) 3 rfl rfl rfl rfl (by rw [List.length_map]; omega) ?_ sl (.keep sl (Fle.refl _))
          simp only [List.set_cons_succ, List.set_cons_zero]
          refine o_nil sl ?_
          refine go ?_
          refine ⟨_, _, _, _, ⟨2, rfl, rfl, rfl, rfl, by omega⟩, ⟨rfl, rfl, rfl, rfl, rfl, rfl, rfl, rfl, rfl, rfl, rfl, rfl, trivial⟩, ?_, rfl, by omega⟩
          rw [vb_set, show fi 2 = (fi 1).set qb true by rw [hf2, if_pos (by omega)]]
          exact Turn.refl _ _
        · refine go ?_
          refine o_ixa 1 rfl rfl rfl (by decide) rfl ?_
          refine go ?_
          refine ⟨_, _, _, _, ⟨2, rfl, rfl, rfl, rfl, by omega⟩, ⟨rfl, rfl, rfl, rfl, rfl, rfl, rfl, rfl, rfl, rfl, rfl, rfl, trivial⟩, ?_, rfl, by omega⟩
          rw [show fi 2 = fi 1 by rw [hf2, if_neg (by omega)]]
          exact Turn.refl _ _
      obtain rfl : i = 2 := by omega
      obtain ⟨hpy, hfrd, la, lb, lva, lvb⟩ := hW.out
      have hfr2 : freed p k free qa qb = fi 2 := by rw [hfrd, hf2, hf1, hf0]
      rw [hfr2] at hpy
      clear hfrd la lb lva lvb hf0 hf1 hf2 hfr2
      have hW := Wrp.mk hpy
      clear hpy
      refine go ?_
      rw [hgS]
      refine o_owneq (own' := .c r10 [.int .i64 I2.op, .int .i64 I2.to, .int .i64 (qa : Nat), .int .i64 bq, .int .i64 I2.c] :: plC rs rm (.slice (some ⟨gf, 0, none⟩) free.length cf) :: .o rm (mapO vi at') :: frC (.slice (some ⟨gf, 0, none⟩) free.length cf) (fi 2) :: .c r8 [.int .i64 (j : Nat), .int .i64 (free.length : Nat), cv, .slice none 0 0] :: coC cv cd :: .c r2 [.int .i64 0, .int .i64 0, .slice none 0 0, .slice none 0 0] :: .c r1 [.int .i64 (j : Nat), .int .i64 p.regs, .slice A1 p.code.length c1, .slice A2 p.outs.length c2] :: own) (by simp only [frC, hfl2]) ?_
      refine o_perm (pkP 1 rfl (pkP 1 rfl (pkP 1 rfl (.refl _)))) ?_
      refine o_call rfl (give95 (by omega) (by omega) ((cntK p k : Nat) : Int) _) (fun u o F' ⟨w, fv', free', e1, e2, e3, hgv⟩ => ⟨_, .text, ?_⟩) sl
      subst e1 e2 e3
      have hpp := hW.out (updA at' (cntK p k : Nat) w) free' w bq hgv (fun q => asc_upd _ _ _ q) hbq.symm
      obtain ⟨hPk2, hlen2⟩ := hpp
      have hfit2 := hPk2.fits
      refine go ?_
      refine o_lit rfl rfl rfl rfl rfl (fun r3 => ?_)
      refine o_app1 5 rfl rfl rfl rfl rfl rfl rfl (by omega) (by omega) (fun _ => rfl) (fun A3 c3 => ?_)
      refine go ?_
      refine o_max rfl rfl ?_
      refine o_val (.int .i64 (free'.length : Nat)) (congrArg (Value.int .i64) (by omega)) ?_
      refine go ?_
      refine ⟨_, _, _, _, ⟨k + 1, fv', .slice A3 (cd.length + 1) c3, updA at' (cntK p k : Nat) w, free', cd ++ [⟨I2.op, w, qa, bq, I2.c⟩], rfl, rfl, rfl, hG.trans hF2, by omega, hPk2⟩, ⟨rfl, rfl, rfl, rfl, rfl, rfl, rfl, eqI (by omega), trivial⟩, ?_, rfl, by omega⟩
      simp only [coC, List.length_append, List.flatMap_append, List.length_singleton, List.flatMap_cons, List.flatMap_nil, List.append_nil]
      exact Turn.of sl (Fle.refl _)
  · obtain rfl : k = p.code.length := by omega
    have hol : (outV p).length = p.outs.length := by unfold outV; rw [List.length_map]
    have hov := outV_ok hok
    have hlv : ∀ n, n < p.outs.length → ∃ q : Nat, asc at' ((outV p).getD n 0) = some (q : Int) := fun n hn => by
      have hr := hok.outs _ (List.getElem_mem hn)
      have hl0 : lvL p p.code.length = live0 p := by unfold lvL; rw [List.drop_length]; rfl
      obtain ⟨q, k1, _, _⟩ := hPk.has (hd_ (heldK p p.code.length) p.outs[n]) ⟨p.outs[n], hr.1, hr.2, by rw [hl0]; exact (live0_at hok hr.1).2 (List.getElem_mem hn), rfl⟩
      refine ⟨q, ?_⟩
      unfold outV
      rw [List.getD_eq_getElem?_getD, List.getElem?_map, List.getElem?_eq_getElem hn]
      exact k1
    have ho' := RowM.le ho hG
    refine go ?_
    refine c_loopT (fun m X o G' => ∃ (n : Nat) (ov : Value) (us : List Int), m = p.outs.length - n ∧ X = [(1, .pointer (some ⟨r1, 0, none⟩)), (2, .pointer (some ⟨r2, 0, none⟩)), (4, .pointer (some A)), (6, .pointer (some ⟨rs, 0, none⟩)), (8, .pointer (some ⟨r8, 0, none⟩)), (189, .slice Ao (outV p).length co), (190, .int .i64 (p.outs.length : Nat)), (191, .int .i64 (n : Nat))] ∧ plC rs rm fv :: .o rm (mapO vi at') :: .c r8 [.int .i64 (j : Nat), .int .i64 (free.length : Nat), cv, ov] :: .g ov 3 1 n (us.map vi) :: coC cv cd :: .c r2 [.int .i64 0, .int .i64 0, .slice none 0 0, .slice none 0 0] :: .c r1 [.int .i64 (j : Nat), .int .i64 p.regs, .slice A1 p.code.length c1, .slice A2 p.outs.length c2] :: own = o ∧ G = G' ∧ n ≤ p.outs.length ∧ us.length = n ∧ ∀ i, i < n → asc at' ((outV p).getD i 0) = some (us.getD i 0))
      ⟨_, _, _, _, ⟨0, .slice none 0 0, [], rfl, rfl, rfl, rfl, by omega, rfl, fun i h => by omega⟩, ⟨rfl, rfl, rfl, rfl, rfl, rfl, eqI (by omega), rfl, trivial⟩, (Turn.nil 3 1).trans ((Turn.perm (pkP 1 rfl (pkP 1 rfl (pkP 2 rfl (.refl _))))).trans (Turn.of sl (Fle.refl _)))⟩ ?_
    rintro _ _ _ _ b7 ⟨n, ov, us, rfl, rfl, rfl, rfl, hn, hul, hus⟩
    by_cases hnl : n < p.outs.length
    · obtain ⟨q, hq⟩ := hlv n hnl
      refine goT ?_
      refine c_drww [plC rs rm fv, .o rm (mapO vi at'), .c r8 [.int .i64 (j : Nat), .int .i64 (free.length : Nat), cv, ov]] sl rfl (by decide +kernel) ?_
      refine go ?_
      refine o_look (enc := vi) 1 ((outV p).getD n 0) rfl rfl rfl ?_
      simp only [Bool.false_eq_true, if_false, hq, Option.getD_some]
      refine o_lit rfl rfl rfl rfl rfl (fun r3 => ?_) sl (fun _ => .keep sl (Fle.refl _))
      refine o_appW 3 rfl rfl rfl rfl rfl rfl rfl (by omega) (by omega) (fun _ => rfl) (fun _ => sl) sl (fun A4 c4 => ?_)
      refine go ?_
      refine ⟨_, _, _, _, ⟨n + 1, .slice A4 (n + 1) c4, us ++ [(q : Int)], rfl, rfl, rfl, rfl, by omega, by simp [hul], fun i hi => ?_⟩, ⟨rfl, rfl, rfl, rfl, rfl, rfl, rfl, eqI (by omega), trivial⟩, by rw [List.map_append]; exact Turn.refl _ _, rfl, by omega⟩
      rw [List.getD_eq_getElem?_getD (l := us ++ _), List.getElem?_append]
      by_cases hin : i < n
      · rw [if_pos (by omega), ← List.getD_eq_getElem?_getD]; exact hus i hin
      · obtain rfl : i = n := by omega
        rw [if_neg (by omega), hul, Nat.sub_self, hq]; rfl
    · obtain rfl : n = p.outs.length := by omega
      have hSim := pk_sim hok hPk hul hus
      rw [hI] at hSim
      refine c_iceS z0I 4 rfl (fun _ => rfl) rfl (fun hcR => ?_)
      refine c_iceM (f := vi) 0 3 (by rw [← hul]; exact rfl) (fun hoR => ?_)
      obtain ⟨Ac, cc, ec⟩ := hcR.dest
      obtain ⟨Ao2, co2, eo⟩ := hoR.dest
      subst ec eo
      refine go ?_
      exact b_ret rfl (.cons (.cella rfl rfl (rdsW 3 rfl)) (.cons (.tmp rfl) .nil)) (Turn.skip (Turn.skip (Turn.skip (Turn.skip Turn.drop)))) ⟨rfl, hF1.trans (hG.trans ((Fz.add_le _ _).trans (Fz.add_le _ _))), ⟨(j : Nat), (free.length : Nat), cd, us⟩, _, _, rfl, ⟨hcR.le (Fz.add_le _ _), hoR⟩, hSim⟩
end Go.Proofs.YthkoodpnepfijaaGreatDoor
/- VM: RANGE OVER A FUNCTION whose values come about on the way: its states are a relation. -/
namespace Go.Proofs.YthkoodpnepfijaaGreatDoor
open Go.RowKit
set_option linter.unusedVariables false
set_option linter.unusedSimpArgs false
/-- An iterator: from a state it yields and comes to the next one; it ends in one that is an end. -/
def IterG {σ : Type} (f : FuncId) (capt : List Value) (T : σ → List Value → σ → Fz → Prop) (E : σ → Prop) (s0 : σ) (F0 : Fz) : Prop := ∀ (l : Nat) (J : σ → List Ch → Fz → Prop), (∀ i o F F', J i o F → Fle F F' → J i o F') →
  (∀ s vs s' ex own F, T s vs s' F → J s own F → Fle F0 F → Y l vs (own ++ ex) F fun own' F' => ∃ o, own' = o ++ ex ∧ J s' o F' ∧ Fle F F') →
  ∀ own F, J s0 own F → Fle F0 F → N f (.func (.yield l) #[] #[] :: capt) own F fun v own' F' => (∃ s, E s ∧ J s own' F') ∧ Fle F F'
theorem Y.perm {l : Nat} {vs : List Value} {own own' : List Ch} {F : Fz} {Post : List Ch → Fz → Prop} (h : Y l vs own F Post) (hp : own'.Perm own) : Y l vs own' F Post := ⟨fun B w0 w hI => h.out B w0 w (hI.perm hp)⟩
/-- What is owned, in another order. -/
theorem o_permW {n : Nat} {ops : Array Oper} {fl : Option (List Nat)} {todo : List Oper} {K : St → Prop} {x : Fr} {b : Nat → Value} {ds : List Deferred} {own own' wk : List Ch} {F : Fz} (hp : own.Perm own') (hs : List.Sublist wk own) (h : O n ops fl todo K wk ⟨x, b, ds, own', F⟩) : O n ops fl todo K wk ⟨x, b, ds, own, F⟩ := ⟨fun B w0 w hI => h.out B w0 w (hI.perm hp), hs⟩
/-- **The loop.** y: the frame at a round's beginning. -/
theorem c_rangeG {σ : Type} {n : Nat} {Q : Exit → St → Prop} {x : Fr} {b : Nat → Value} {ds : List Deferred} {own : List Ch} {F : Fz} {g : Operand} {ps : List Nat} {assign body : Code} {f : FuncId} [hfn : Fn_ f] {capt : List Value} {T : σ → List Value → σ → Fz → Prop} {E : σ → Prop} {s0 : σ} (y : List Value → Nat → Fr) (exc : List Value → Nat → List Ch) (JJ : σ → List Ch → Fz → Prop) (hmono : ∀ i o F F', JJ i o F → Fle F F' → JJ i o F')
    (hg : evS n x g = some (.func (.func f) #[] capt.toArray)) (hIt : IterG f capt T E s0 F) (hps : ∀ s vs s' F, T s vs s' F → vs.length = ps.length) (h0 : JJ s0 own F)
    (hassign : ∀ s vs s' G, T s vs s' G → ∀ l own F, C n (some l) assign (fun e s1 => e = .normal ∧ ∃ b' z, s1 = ⟨y vs z, b', [], exc vs z ++ own, F⟩) ⟨bindP ps vs x, b, [], own, F⟩)
    (hbody : ∀ s vs s2 l b z own F' tail, T s vs s2 F' → JJ s own F' → Fle F F' → C n (some l) body (fun e s' => e = .normal ∧ ∃ o F2, Turn s'.own s'.F (o ++ tail) F2 ∧ JJ s2 o F2 ∧ Fle F' F2) ⟨y vs z, b, [], exc vs z ++ (own ++ tail), F'⟩)
    (hdone : ∀ D own' F' s, E s → JJ s own' F' → Fle F F' → Q .normal ⟨x, b, { target := .collected D, args := #[] } :: ds, .o D (.deferred (some [])) :: own', F'⟩) : C n none (.rangeFunc g ps.toArray assign body) Q ⟨x, b, ds, own, F⟩ := ⟨fun B w0 w hI => by
  refine wpIn_rangeFunc fun fn hfn' => ?_
  obtain ⟨rec, hrec⟩ : ∃ rec : LoopState → Loop, rec = fun st => { state := st, pending := none, fn, tmps := (St.act n ⟨x, b, ds, own, F⟩).tmps, params := ps.toArray, assign, body, defers := w.heap.size } := ⟨_, rfl⟩
  have hI1 := (hI.newo (.deferred (some [])) trivial).newo (.loop (rec .ready)) trivial
  have hsz : (w.alloc (.deferred (some []))).heap.size = w.heap.size + 1 := by simp
  rw [hsz] at hI1
  refine ⟨w.heap.size + 1, [{ target := .collected w.heap.size, args := #[] }], (w.alloc (.deferred (some []))).alloc (.loop (rec .ready)), { target := .fn (.func f) capt.toArray, args := #[.func (.yield (w.heap.size + 1)) #[] #[]] }, ((w.alloc (.deferred (some []))).alloc (.loop (rec .ready))), f,
    (.func (.yield (w.heap.size + 1)) #[] #[] :: capt).toArray, ((w.alloc (.deferred (some []))).alloc (.loop (rec .ready))), by rw [hrec]; exact run_enterLoop_outer _ _ _ _ _, ?_, fun _ _ => trivial, ?_, (fun h => by cases h), ?_⟩
  · simp only [resolve, rangeCall, evx hg, Sem.run_bind, Sem.run_pure, Result.andThen, Deferred.ofValue]
    simp [Act.eval]
  · simp only [invoke]
    rw [show (#[Value.func (.yield (w.heap.size + 1)) #[] #[]] ++ capt.toArray) = (Value.func (.yield (w.heap.size + 1)) #[] #[] :: capt).toArray by simp]
    exact hfn.h _ _
  · generalize hl : w.heap.size + 1 = l at *
    generalize hD : w.heap.size = D at *
    have hN := hIt l (fun i o G => ∃ r, o = r ++ [.o l (.loop (rec .ready)), .o D (.deferred (some []))] ∧ JJ i r G ∧ Fle F G) (fun i o G G' ⟨r, e, h1, h2⟩ hl => ⟨r, e, hmono i r G G' h1 hl, h2.trans hl⟩) ?_ (own ++ [.o l (.loop (rec .ready)), .o D (.deferred (some []))]) F ⟨own, rfl, h0, Fle.refl _⟩ (Fle.refl _)
    · refine (callsIn_wide (n := 0)).2 ((hN.out B w0 _ (hI1.perm ?_)).mono fun e w' ⟨v, own', F', he, hI', ⟨sE, hE, r, hr, hj, hF1⟩, hF⟩ => ?_)
      · exact (List.perm_append_comm (l₁ := [.o l (.loop (rec .ready)), .o D (.deferred (some []))]) (l₂ := own))
      · subst he hr
        have hm : (r ++ [Ch.o l (.loop (rec .ready)), .o D (.deferred (some []))])[r.length]? = some (.o l (.loop (rec .ready))) := get_mid ..
        have hok := hI'.ok _ (List.mem_of_getElem? hm)
        refine ⟨none, w'.putObj l (.loop { rec .ready with state := .exhausted }), ?_, ?_⟩
        · have := run_endLoop (P := Tryz.prog) (r := rec .ready) hok.2.1 (by rw [hrec]; simp)
          subst hrec
          exact this
        · have hI2 := hI'.seto hm (.loop { rec .ready with state := .exhausted }) trivial
          rw [set_mid] at hI2
          refine ⟨⟨x, b, { target := .collected D, args := #[] } :: ds, .o D (.deferred (some [])) :: r, F'⟩, rfl, ?_, hdone D r F' sE hE hj hF1⟩
          refine (hI2.perm ?_).sub (List.sublist_cons_self (.o l (.loop { rec .ready with state := .exhausted })) _)
          exact List.perm_append_comm (l₁ := r) (l₂ := [.o l (.loop { rec .ready with state := .exhausted }), .o D (.deferred (some []))])
    · rintro s vs s2 ex _ G hT ⟨r, rfl, hj, hF⟩ _
      refine ⟨fun B w0 w hI => ?_⟩
      rw [List.append_assoc] at hI
      have hI : Inv B w0 (r ++ (Ch.o l (.loop (rec .ready)) :: Ch.o D (.deferred (some [])) :: ex)) G w := hI
      have hm : (r ++ (Ch.o l (.loop (rec .ready)) :: (Ch.o D (.deferred (some [])) :: ex)))[r.length]? = some (.o l (.loop (rec .ready))) := get_mid ..
      have hok := hI.ok _ (List.mem_of_getElem? hm)
      refine ⟨_, _, _, _, run_yield (r := rec .ready) hok.2.1 (by rw [hrec]; simpa using hps s vs s2 G hT), ?_⟩
      refine roundIn_of_wpIn (F := Fence.wide) trivial ?_
      have ha := (hassign s vs s2 G hT l (r ++ (Ch.o l (.loop (rec .ready)) :: (Ch.o D (.deferred (some [])) :: ex))) G).out B w0 w hI
      have htm : ((rec .ready).params.zip vs.toArray).foldl (fun tmps (q : Nat × Value) => tmps.setIfInBounds q.1 q.2) (rec .ready).tmps = (St.act n ⟨bindP ps vs x, b, [], own, F⟩).tmps := by
        rw [hrec]
        have := bind_act n ps vs ⟨x, b, ds, own, F⟩
        rw [show (St.act n ⟨bindP ps vs x, b, [], own, F⟩).tmps = (St.act n { (⟨x, b, ds, own, F⟩ : St) with x := bindP ps vs x }).tmps from rfl, ← this, List.zip_toArray, List.foldl_toArray]
      have hact : ({ tmps := ((rec .ready).params.zip vs.toArray).foldl (fun tmps (q : Nat × Value) => tmps.setIfInBounds q.1 q.2) (rec .ready).tmps, defers := [] } : Act) = St.act n ⟨bindP ps vs x, b, [], r ++ (Ch.o l (.loop (rec .ready)) :: (Ch.o D (.deferred (some [])) :: ex)), G⟩ := by rw [htm]; rfl
      rw [show (rec .ready).assign = assign by rw [hrec], show (rec .ready).body = body by rw [hrec]]
      have hgoal : assign.wpIn (Fence.wide.inRound l) 0 Tryz.prog (Exit.then (fun a₁ w₁ => ∃ w₂, (Instr.beginRound l).run Tryz.prog w₁ = .ok () w₂ ∧ body.wpIn (Fence.wide.inRound l) 0 Tryz.prog (roundPost Tryz.prog l fun e w' => ∃ own' F', e = .returned (.bool true) ∧ Inv B w0 own' F' w' ∧ ∃ o, own' = o ++ ex ∧ (∃ r, o = r ++ [.o l (.loop (rec .ready)), .o D (.deferred (some []))] ∧ JJ s2 r F' ∧ Fle F F') ∧ Fle G F') a₁ w₂) (fun _ _ _ => False)) (St.act n ⟨bindP ps vs x, b, [], r ++ (Ch.o l (.loop (rec .ready)) :: (Ch.o D (.deferred (some [])) :: ex)), G⟩) w := by
        refine wpIn_mono ha fun e a' w' ⟨s', e1, hI', e2, b', z, e3⟩ => ?_
        subst e1 e2 e3
        have hI' : Inv B w0 (exc vs z ++ (r ++ (Ch.o l (.loop (rec .ready)) :: (Ch.o D (.deferred (some [])) :: ex)))) G w' := hI'
        rw [← List.append_assoc] at hI'
        have hm : (exc vs z ++ r ++ (Ch.o l (.loop (rec .ready)) :: (Ch.o D (.deferred (some [])) :: ex)))[(exc vs z ++ r).length]? = some (.o l (.loop (rec .ready))) := get_mid ..
        have hok' := hI'.ok _ (List.mem_of_getElem? hm)
        refine ⟨w'.putObj l (.loop { rec .ready with state := .busy }), run_beginRound hok'.2.1 (by rw [hrec]), ?_⟩
        have hI2 := hI'.seto hm (.loop { rec .ready with state := .busy }) trivial
        rw [set_mid, List.append_assoc] at hI2
        have hb := (hbody s vs s2 l b' z r G (.o l (.loop { rec .ready with state := .busy }) :: (Ch.o D (.deferred (some [])) :: ex)) hT hj hF).out B w0 _ hI2
        refine wpIn_mono hb fun e a' w' ⟨s', e1, hI3, e2, o, F2, ht, hj2, hF2⟩ => ?_
        subst e1 e2
        have hI4 := ht B w0 w' hI3
        have hm4 : (o ++ (Ch.o l (.loop { rec .ready with state := .busy }) :: (Ch.o D (.deferred (some [])) :: ex)))[o.length]? = some (.o l (.loop { rec .ready with state := .busy })) := get_mid ..
        have hok4 := hI4.ok _ (List.mem_of_getElem? hm4)
        have hI5 := hI4.seto hm4 (.loop (rec .ready)) trivial
        rw [set_mid] at hI5
        refine ⟨.bool true, w'.putObj l (.loop (rec .ready)), ?_, o ++ [.o l (.loop (rec .ready)), .o D (.deferred (some []))] ++ ex, F2, rfl, ?_, _, rfl, ⟨o, rfl, hj2, hF.trans hF2⟩, hF2⟩
        · have := run_endRound (P := Tryz.prog) none hok4.2.1
          subst hrec
          exact this
        · rw [List.append_assoc]
          exact hI5
      rw [← hact] at hgoal
      exact hgoal⟩
end Go.Proofs.YthkoodpnepfijaaGreatDoor

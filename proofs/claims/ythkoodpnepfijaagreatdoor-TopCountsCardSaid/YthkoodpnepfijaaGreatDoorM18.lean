/-
  Steps towards TopCounts (no conditions of their own): WALKS: eval: Program. WALKS: prog: two, constant, Asks, may, Check, right. WALKS: prog: Check, right, Copy, Same. []T{} : a row of its own, with nothing in it. WALKS: slices.Clone, prog.Copy. WALKS: prog.Copy, Equal of instructions, Same.
-/
import Derived.Test.YthkoodpnepfijaaGreatDoorM17
/- XE: WALKS: eval: Program. -/
namespace Go.Proofs.YthkoodpnepfijaaGreatDoor
open Go.RowKit
set_option linter.unusedVariables false
set_option linter.unusedSimpArgs false
set_option maxRecDepth 100000
set_option maxHeartbeats 2000000
/-- What the outs are, as far as told. -/
def evOut (k i : Nat) : Int := if k = 1 then 0 else ((k + i : Nat) : Int)
/-- A row that is not empty has a block. -/
theorem o_gslP {n : Nat} {ops : Array Oper} {fl : Option (List Nat)} {todo : List Oper} {K : St → Prop} {x : Fr} {b : Nat → Value} {ds : List Deferred} {own wk : List Ch} {F : Fz} {v : Value} {e s m : Nat} {xs : List Value} (p : Nat) (hp : own[p]? = some (.g v e s m xs)) (hm : 0 < m) (hsub : List.Sublist wk own) (h : ∀ g c, v = .slice (some ⟨g, 0, none⟩) m c → O n ops fl todo K wk ⟨x, b, ds, own, F⟩) : O n ops fl todo K wk ⟨x, b, ds, own, F⟩ := ⟨fun B w0 w hI => by
  have hok := hI.ok _ (List.mem_of_getElem? hp)
  rcases hok.2 with ⟨hv, hm0⟩ | ⟨g, cap, cur, hv, _⟩
  · omega
  · exact (h _ _ hv).out B w0 w hI, hsub⟩
theorem add44' {r : Nat} {F : Fz} {i : Ins} (h : i.op ≠ 1) : EmR r 44 [.agg (vIn i).toArray, .pointer (some ⟨r, 0, none⟩)] F [i] := by
  have := add44 (r := r) (F := F) i
  unfold evAdd at this
  rwa [if_pos (.inl h)] at this
theorem eval26 {lv : Value} {l : List Pnt} {k : Nat} {F : Fz} (hG : Gl F) (hl : PtsR F lv l) (hr : RightQ l) (hk : 1 ≤ k) (hk8 : k ≤ 8) :
    Pu 26 [.int .i64 (k : Nat), lv] F fun v F' => ∃ cv ov', v = .tuple #[vPr (evalP k l) cv ov', .int .i64 0] ∧ PrR F' cv ov' (evalP k l) := fun own => by
  have hlen := hr.len
  have hlen15 := hr.len15
  have hcl := evalC_len k l hk8 hlen15
  obtain ⟨Al, cl, rfl⟩ := hl.dest
  refine n_fun Tryz.func26 Tryz.ntmps26 rfl rfl rfl ?_
  refine go ?_
  intro r4
  refine c_scope (fun _ _ h => h) ?_
  refine go ?_
  refine o_ps rfl (points43 hl (by omega)) (fun _ ⟨t, e, ht⟩ => ?_)
  have htt : t = true := ht.2 ⟨hr.inp, hlen, hlen15⟩
  subst htt e
  refine go ?_
  intro r6 r7
  refine go ?_
  generalize hF1 : F.add (.c r7 [.func (.func 44) #[] #[.pointer (some ⟨r6, 0, none⟩)]]) = F1
  have hFF : Fle F F1 := by rw [← hF1]; exact Fz.add_le _ _
  have h7 : F1 ⟨r7, 0, none⟩ (.func (.func 44) #[] #[.pointer (some ⟨r6, 0, none⟩)]) := by rw [← hF1]; exact .inr (by simp [Ch.at])
  have hl1 := PtsR.le' hl hFF
  have hG1 := hG.le hFF
  refine c_loopT (fun mm X o G => ∃ (i : Nat) (cv ov : Value), mm = l.length - i ∧ X = [(0, .int .i64 (k : Nat)), (1, .slice Al l.length cl), (4, .pointer (some ⟨r4, 0, none⟩)), (6, .pointer (some ⟨r6, 0, none⟩)), (7, .pointer (some ⟨r7, 0, none⟩)), (8, .int .i64 (k + l.length)), (9, .func (.func 45) #[] #[.pointer (some ⟨r7, 0, none⟩)]), (41, .slice Al l.length cl), (42, .int .i64 (l.length : Nat)), (43, .int .i64 (i : Nat))] ∧ pbC r6 k (k + l.length + 1) cv ov :: coC cv ((List.range i).flatMap fun i => evPt k l.length i (l.getD i z0P)) :: .g ov 3 1 i (((List.range i).map (evOut k)).map vi) :: .c r4 z4 :: own = o ∧ F1 = G ∧ i ≤ l.length)
    ⟨_, _, _, _, ⟨0, .slice none 0 0, .slice none 0 0, rfl, rfl, rfl, rfl, by omega⟩, ⟨rfl, rfl, rfl, rfl, rfl, rfl, rfl, rfl, rfl, rfl, trivial⟩, by rw [← hF1]; exact ((Turn.ice.trans (Turn.nil 3 1)).trans (Turn.nil 119 5)).trans (Turn.perm (pick_perm (p := 2) rfl))⟩ ?_
  rintro _ _ _ _ b ⟨i, cv, ov, rfl, rfl, rfl, rfl, hi⟩
  by_cases hil : i < l.length
  · have hnx : (List.range (i + 1)).flatMap (fun i => evPt k l.length i (l.getD i z0P)) = (List.range i).flatMap (fun i => evPt k l.length i (l.getD i z0P)) ++ evPt k l.length i (l.getD i z0P) := by rw [List.range_succ, List.flatMap_append]; simp
    have hox : (List.range (i + 1)).map (evOut k) = (List.range i).map (evOut k) ++ [evOut k i] := by rw [List.range_succ, List.map_append]; rfl
    have hlx : ((List.range i).flatMap fun i => evPt k l.length i (l.getD i z0P)).length + (evPt k l.length i (l.getD i z0P)).length ≤ 1500 := by
      have := flatMap_take_len (fun i => evPt k l.length i (l.getD i z0P)) (List.range l.length) (i + 1)
      rw [List.take_range, Nat.min_eq_left (by omega), hnx, List.length_append] at this
      have h2 : ((List.range l.length).flatMap fun i => evPt k l.length i (l.getD i z0P)).length = (evalC k l).length := rfl
      omega
    have hqm := getD_mem (z := z0P) hil
    have hq1 : -16 ≤ (l.getD i z0P).A ∧ (l.getD i z0P).A ≤ 16 ∧ -16 ≤ (l.getD i z0P).B ∧ (l.getD i z0P).B ≤ 16 := hr.inp _ hqm
    have hq2 : ¬ ((l.getD i z0P).A = 0 ∧ (l.getD i z0P).B = 0) := hr.notp _ hqm
    generalize hcd : (List.range i).flatMap (fun i => evPt k l.length i (l.getD i z0P)) = cd at *
    generalize hnw : evPt k l.length i (l.getD i z0P) = nw at hnx hlx
    have hom : ((List.range i).map (evOut k)).length = i := by simp
    refine go ?_
    intro r11
    refine go ?_
    refine o_lit rfl rfl rfl rfl rfl (fun r3 => ?_)
    refine o_app1 3 rfl rfl rfl rfl rfl rfl rfl (by omega) (by omega) (fun _ => rfl) (fun A' c' => ?_)
    generalize hq : l.getD i z0P = q at *
    refine go ?_
    unfold evPt at hnw
    by_cases hk1 : k = 1
    · rw [if_pos hk1] at hnw
      have hok : evOut k i = 0 := by unfold evOut; rw [if_pos hk1]
      rw [hok] at hox
      refine go ?_
      refine o_gslP 3 rfl (by omega) sl (fun g c2 hg => ?_)
      injection hg with e1 e2 e3
      subst e1 e3
      refine go ?_
      refine o_storeg (q := 0) 3 rfl rfl rfl rfl (by simp) ?_
      simp only [List.set_cons_succ, List.set_cons_zero]
      refine go ?_
      refine ⟨_, _, _, _, ⟨i + 1, cv, .slice (some ⟨g, 0, none⟩) (i + 1) c', rfl, rfl, rfl, rfl, by omega⟩, ⟨rfl, rfl, rfl, rfl, rfl, rfl, rfl, rfl, rfl, eqI (by omega), trivial⟩, ?_, rfl, by omega⟩
      rw [hnx, hox, ← hnw, List.append_nil, List.map_append]
      rw [set_app _ _ _ [] (by simp)]
      exact Turn.drop
    · rw [if_neg hk1, if_neg hq2] at hnw
      have hok : evOut k i = ((k + i : Nat) : Int) := by unfold evOut; rw [if_neg hk1]
      rw [hok] at hox
      by_cases hA : q.A = 0
      · rw [if_pos hA] at hnw
        have hB : ¬ q.B = 0 := fun h => hq2 ⟨hA, h⟩
        rw [show (((k + i : Nat)) : Int) = (k : Int) + (i : Int) by omega] at hnw hox
        refine go ?_
        refine o_val (.int .i64 ((k - 1 : Nat) : Int)) (congrArg (Value.int .i64) (by omega)) ?_
        refine o_emR 1 2 (scaled45 hG1 h7 (k + i) 0 q.B (k - 1) (by omega) (by omega)) rfl rfl rfl rfl rfl rfl (by rw [hnw]; omega) (fun _ => rfl) (fun _ cv2 => ?_)
        rw [hnw]
        refine go ?_
        exact ⟨_, _, _, _, ⟨i + 1, cv2, .slice A' (i + 1) c', rfl, rfl, rfl, rfl, by omega⟩, ⟨rfl, rfl, rfl, rfl, rfl, rfl, rfl, rfl, rfl, eqI (by omega), trivial⟩, by rw [hnx, hox, List.map_append]; exact Turn.drop, rfl, by omega⟩
      · rw [if_neg hA] at hnw
        by_cases hB : q.B = 0
        · rw [if_pos hB] at hnw
          rw [show (((k + i : Nat)) : Int) = (k : Int) + (i : Int) by omega] at hnw hox
          refine go ?_
          refine o_val (.int .i64 ((k - 1 : Nat) : Int)) (congrArg (Value.int .i64) (by omega)) ?_
          rw [show (((k - 1 : Nat)) : Int) = (k : Int) - 1 by omega] at hnw
          refine o_emR 1 2 (scaled45 hG1 h7 (k + i) (k - 1) q.A (k - 1) (by omega) (by omega)) rfl rfl rfl rfl rfl rfl (by rw [hnw]; omega) (fun _ => rfl) (fun _ cv2 => ?_)
          rw [hnw]
          refine go ?_
          exact ⟨_, _, _, _, ⟨i + 1, cv2, .slice A' (i + 1) c', rfl, rfl, rfl, rfl, by omega⟩, ⟨rfl, rfl, rfl, rfl, rfl, rfl, rfl, rfl, rfl, eqI (by omega), trivial⟩, by rw [hnx, hox, List.map_append]; exact Turn.drop, rfl, by omega⟩
        · rw [if_neg hB] at hnw
          rw [show (((k + i : Nat)) : Int) = (k : Int) + (i : Int) by omega] at hnw hox
          rw [show (((k - 1 : Nat)) : Int) = (k : Int) - 1 by omega, show (((k + l.length : Nat)) : Int) = (k : Int) + (l.length : Int) by omega] at hnw
          refine go ?_
          refine c_loopT (fun mm X o G => ∃ (j : Nat) (fr z : Int) (cv : Value) (dn : List Ins), mm = j + 1 ∧ X = [(0, .int .i64 (k : Nat)), (1, .slice Al l.length cl), (4, .pointer (some ⟨r4, 0, none⟩)), (6, .pointer (some ⟨r6, 0, none⟩)), (7, .pointer (some ⟨r7, 0, none⟩)), (8, .int .i64 (k + l.length)), (9, .func (.func 45) #[] #[.pointer (some ⟨r7, 0, none⟩)]), (11, .pointer (some ⟨r11, 0, none⟩)), (12, .int .i64 (k + i)), (13, .int .i64 fr), (14, .int .i64 z), (41, .slice Al l.length cl), (42, .int .i64 (l.length : Nat)), (43, .int .i64 (i : Nat))] ∧ .c r11 (vPt q) :: pbC r6 k (k + l.length + 1) cv (.slice A' (i + 1) c') :: coC cv (cd ++ dn) :: .g (.slice A' (i + 1) c') 3 1 (i + 1) (((List.range i).map (evOut k)).map vi ++ [.int .i64 (k + i)]) :: .c r4 z4 :: own = o ∧ F1 = G ∧ z = (j : Int) - 1 ∧ j ≤ k - 1 ∧ dn ++ evJ (k - 1) (k + i) (k + l.length) q j fr = nw)
            ⟨_, _, _, _, ⟨k - 1, (k : Int) - 1, (k : Int) - 2, cv, [], rfl, rfl, rfl, rfl, by omega, by omega, hnw⟩, ⟨rfl, rfl, rfl, rfl, rfl, rfl, rfl, rfl, rfl, rfl, rfl, rfl, rfl, rfl, trivial⟩, by rw [List.append_nil]; exact Turn.refl _ _⟩ ?_
          rintro _ _ _ _ b ⟨j, fr, z, cv, dn, rfl, rfl, rfl, rfl, hz, hj, hdn⟩
          by_cases hj0 : j = 0
          · subst hj0
            subst hz
            rw [evJ, List.append_nil] at hdn
            subst hdn
            refine go ?_
            exact ⟨_, _, _, _, ⟨i + 1, cv, .slice A' (i + 1) c', rfl, rfl, rfl, rfl, by omega⟩, ⟨rfl, rfl, rfl, rfl, rfl, rfl, rfl, rfl, rfl, eqI (by omega), trivial⟩, by rw [hnx, hox, List.map_append]; exact Turn.drop, rfl, by omega⟩
          · obtain ⟨j, rfl⟩ : ∃ i, j = i + 1 := ⟨j - 1, by omega⟩
            obtain rfl : z = (j : Int) := by omega
            rw [evJ] at hdn
            generalize hte : evTerm (k + i) (k + l.length) q (k - 1 - j) j = te at hdn
            unfold evTerm at hte
            refine goT ?_
            refine c_drww [.c r11 (vPt q)] sl rfl (by decide +kernel) ?_
            refine go ?_
            refine o_ps rfl (times46 hG1 (k + i) fr q.A (by omega)) (fun u e => ?_) sl
            subst e
            refine go ?_
            refine o_emR 1 2 (add44 (evTimes (k + i) fr q.A)) rfl rfl rfl rfl rfl rfl (by have hL2 := congrArg List.length hdn; have hL3 := congrArg List.length hte; simp only [List.length_append, List.length_singleton] at hL2 hL3 ⊢; omega) (fun _ => rfl) (fun _ cv2 => ?_)
            refine go ?_
            by_cases hB1 : q.B = 1
            · rw [if_pos (.inl hB1)] at hte
              refine go ?_
              refine o_emR 1 2 (add44' (i := ⟨3, k + i, k + i, (j : Nat), 0⟩) (by simp)) rfl rfl rfl rfl rfl rfl (by have hL2 := congrArg List.length hdn; have hL3 := congrArg List.length hte; simp only [List.length_append, List.length_singleton] at hL2 hL3 ⊢; omega) (fun _ => rfl) (fun _ cv3 => ?_)
              refine go ?_
              exact ⟨_, _, _, _, ⟨j, k + i, (j : Int) - 1, cv3, dn ++ evAdd (evTimes (k + i) fr q.A) ++ [⟨3, k + i, k + i, (j : Nat), 0⟩], rfl, rfl, rfl, rfl, rfl, by omega, by rw [← hdn, ← hte]; simp only [List.append_assoc]⟩, ⟨rfl, rfl, rfl, rfl, rfl, rfl, rfl, rfl, rfl, rfl, eqI (by omega), rfl, rfl, rfl, trivial⟩, by simp only [← List.append_assoc]; exact Turn.refl _ _, rfl, by omega⟩
            · by_cases hB2 : q.B = -1
              · by_cases hpar : (k - 1 - j) % 2 = 0
                · rw [if_pos (.inr ⟨hB2, hpar⟩)] at hte
                  refine go ?_
                  refine o_emR 1 2 (add44' (i := ⟨3, k + i, k + i, (j : Nat), 0⟩) (by simp)) rfl rfl rfl rfl rfl rfl (by have hL2 := congrArg List.length hdn; have hL3 := congrArg List.length hte; simp only [List.length_append, List.length_singleton] at hL2 hL3 ⊢; omega) (fun _ => rfl) (fun _ cv3 => ?_)
                  refine go ?_
                  exact ⟨_, _, _, _, ⟨j, k + i, (j : Int) - 1, cv3, dn ++ evAdd (evTimes (k + i) fr q.A) ++ [⟨3, k + i, k + i, (j : Nat), 0⟩], rfl, rfl, rfl, rfl, rfl, by omega, by rw [← hdn, ← hte]; simp only [List.append_assoc]⟩, ⟨rfl, rfl, rfl, rfl, rfl, rfl, rfl, rfl, rfl, rfl, eqI (by omega), rfl, rfl, rfl, trivial⟩, by simp only [← List.append_assoc]; exact Turn.refl _ _, rfl, by omega⟩
                · rw [if_neg (by omega), if_pos hB2] at hte
                  refine go ?_
                  refine o_emR 1 2 (add44' (i := ⟨4, k + i, k + i, (j : Nat), 0⟩) (by simp)) rfl rfl rfl rfl rfl rfl (by have hL2 := congrArg List.length hdn; have hL3 := congrArg List.length hte; simp only [List.length_append, List.length_singleton] at hL2 hL3 ⊢; omega) (fun _ => rfl) (fun _ cv3 => ?_)
                  refine go ?_
                  exact ⟨_, _, _, _, ⟨j, k + i, (j : Int) - 1, cv3, dn ++ evAdd (evTimes (k + i) fr q.A) ++ [⟨4, k + i, k + i, (j : Nat), 0⟩], rfl, rfl, rfl, rfl, rfl, by omega, by rw [← hdn, ← hte]; simp only [List.append_assoc]⟩, ⟨rfl, rfl, rfl, rfl, rfl, rfl, rfl, rfl, rfl, rfl, eqI (by omega), rfl, rfl, rfl, trivial⟩, by simp only [← List.append_assoc]; exact Turn.refl _ _, rfl, by omega⟩
              · rw [if_neg (by omega), if_neg hB2] at hte
                refine go ?_
                refine o_val (.int .i64 ((k - 1 - j : Nat) : Int)) (congrArg (Value.int .i64) (by omega)) ?_
                refine o_emR 1 2 (scaled45 hG1 h7 (k + l.length) (j : Nat) q.B (k - 1 - j) (by omega) (by omega)) rfl rfl rfl rfl rfl rfl (by have hL2 := congrArg List.length hdn; have hL3 := congrArg List.length hte; simp only [List.length_append, List.length_singleton] at hL2 hL3 ⊢; omega) (fun _ => rfl) (fun _ cv3 => ?_)
                refine go ?_
                refine o_emR 1 2 (add44' (i := ⟨3, k + i, k + i, k + l.length, 0⟩) (by simp)) rfl rfl rfl rfl rfl rfl (by have hL2 := congrArg List.length hdn; have hL3 := congrArg List.length hte; simp only [List.length_append, List.length_singleton] at hL2 hL3 ⊢; omega) (fun _ => rfl) (fun _ cv4 => ?_)
                refine go ?_
                exact ⟨_, _, _, _, ⟨j, k + i, (j : Int) - 1, cv4, dn ++ evAdd (evTimes (k + i) fr q.A) ++ scaledL (k + l.length) q.B (k - 1 - j) (j : Nat) ++ [⟨3, k + i, k + i, k + l.length, 0⟩], rfl, rfl, rfl, rfl, rfl, by omega, by rw [← hdn, ← hte]; simp only [List.append_assoc]⟩, ⟨rfl, rfl, rfl, rfl, rfl, rfl, rfl, rfl, rfl, rfl, eqI (by omega), rfl, rfl, rfl, trivial⟩, by simp only [← List.append_assoc]; exact Turn.refl _ _, rfl, by omega⟩
  · obtain rfl : i = l.length := by omega
    refine c_iceM (l := (List.range l.length).map (evOut k)) (f := vi) 0 2 rfl (fun hO => ?_)
    obtain ⟨Av, cv', hov⟩ := hO.dest
    subst hov
    refine go ?_
    refine o_gslW 1 rfl sl (fun Ac cc hcv => ?_)
    subst hcv
    refine o_iceS (l := (List.range l.length).flatMap fun i => evPt k l.length i (l.getD i z0P)) (f := vIn) z0I 1 rfl (fun _ => rfl) rfl (fun hC => ?_)
    refine go ?_
    refine b_ret rfl (.cons (.cella rfl rfl (rdsW 1 rfl)) (.cons (.tmp rfl) .nil)) (Turn.skip Turn.drop) ⟨rfl, hFF.trans ((Fz.add_le _ _).trans (Fz.add_le _ _)), .slice Ac ((List.range l.length).flatMap fun i => evPt k l.length i (l.getD i z0P)).length cc, .slice Av ((List.range l.length).map (evOut k)).length cv', ?_, ?_, ?_⟩
    · show Value.tuple _ = _
      simp [vPr, evalP]
    · exact hC
    · exact RowM.le hO (Fz.add_le _ _)
end Go.Proofs.YthkoodpnepfijaaGreatDoor
/- XF: WALKS: prog: two, constant, Asks, may, Check, right. -/
namespace Go.Proofs.YthkoodpnepfijaaGreatDoor
open Go.RowKit
set_option linter.unusedVariables false
set_option linter.unusedSimpArgs false
set_option maxRecDepth 100000
set_option maxHeartbeats 2000000
instance two81 (op : Int) : ScF 81 [.int .i64 op] (.bool (decide (op = 3 ∨ op = 4))) True := ⟨fun _ F own => by
  refine n_fun Tryz.func81 Tryz.ntmps81 rfl rfl rfl ?_
  by_cases h3 : op = 3
  · refine go ?_
    exact b_ret rfl (.cons (.tmp rfl) .nil) (Turn.refl _ _) ⟨rfl, rfl, by simp [tupV, h3]⟩
  · refine go ?_
    exact b_ret rfl (.cons (.tmp rfl) .nil) (Turn.refl _ _) ⟨rfl, rfl, by simp [tupV, h3]⟩⟩
instance constant82 (i : Ins) : ScF 82 [.agg (vIn i).toArray] (.bool (decide (constOk i.op i.c))) True := ⟨fun _ F own => by
  refine n_fun Tryz.func82 Tryz.ntmps82 rfl rfl rfl ?_
  by_cases h56 : i.op = 5 ∨ i.op = 6
  · have e : constOk i.op i.c ↔ i.c ≠ 0 ∧ -512 ≤ i.c ∧ i.c ≤ 512 := by unfold constOk; rw [if_pos h56]
    by_cases h5 : i.op = 5
    all_goals
      by_cases h0 : i.c = 0
      · have hn : ¬ constOk i.op i.c := fun h => (e.1 h).1 h0
        refine go ?_
        intro r
        refine go ?_
        exact b_ret rfl (.cons (.tmp rfl) .nil) Turn.drop ⟨rfl, rfl, by simp [tupV, hn]⟩
      · by_cases h1 : -512 ≤ i.c
        all_goals
          refine go ?_
          intro r
          refine go ?_
          exact b_ret rfl (.cons (.tmp rfl) .nil) Turn.drop ⟨rfl, rfl, by simp [tupV, e, h0, h1]⟩
  · by_cases h78 : i.op = 7 ∨ i.op = 8
    · have e : constOk i.op i.c ↔ 1 ≤ i.c ∧ i.c ≤ 64 := by unfold constOk; rw [if_neg h56, if_pos h78]
      by_cases h7 : i.op = 7
      all_goals
        by_cases h1 : 1 ≤ i.c
        all_goals
          refine go ?_
          intro r
          refine go ?_
          exact b_ret rfl (.cons (.tmp rfl) .nil) Turn.drop ⟨rfl, rfl, by simp [tupV, e, h1]⟩
    · have e : constOk i.op i.c ↔ i.c = 0 := by unfold constOk; rw [if_neg h56, if_neg h78]
      refine go ?_
      intro r
      refine go ?_
      exact b_ret rfl (.cons (.tmp rfl) .nil) Turn.drop ⟨rfl, rfl, by simp [tupV, e]⟩⟩
/-- The registers that an instruction asks. -/
def asks (i : Ins) : List Int := if i.op = 3 ∨ i.op = 4 then [i.a, i.b] else if 1 ≤ i.op ∧ i.op ≤ 8 then [i.a] else []
theorem asks83 {F : Fz} (i : Ins) : Pu 83 [.agg (vIn i).toArray] F fun v F' => IntsR F' v (asks i) := fun own => by
  refine n_fun Tryz.func83 Tryz.ntmps83 rfl rfl rfl ?_
  by_cases h34 : i.op = 3 ∨ i.op = 4
  · have e : asks i = [i.a, i.b] := by unfold asks; rw [if_pos h34]
    by_cases h3 : i.op = 3
    all_goals
      refine go ?_
      intro r
      refine go ?_
      refine o_lit rfl rfl rfl rfl rfl (fun r2 => ?_)
      refine o_iceC (l := [i.a, i.b]) (f := vi) (m := 2) (c := 2) 0 0 rfl rfl (Nat.le_refl _) (fun hO => ?_)
      refine go ?_
      exact b_ret rfl (.cons (.tmp rfl) .nil) Turn.drop ⟨rfl, Fz.add_le _ _, by rw [e]; exact hO⟩
  · by_cases h18 : 1 ≤ i.op ∧ i.op ≤ 8
    · have e : asks i = [i.a] := by unfold asks; rw [if_neg h34, if_pos h18]
      have hall : i.op = 1 ∨ i.op = 2 ∨ i.op = 5 ∨ i.op = 6 ∨ i.op = 7 ∨ i.op = 8 := by omega
      rcases hall with h | h | h | h | h | h
      all_goals
        refine go ?_
        intro r
        refine go ?_
        refine o_lit rfl rfl rfl rfl rfl (fun r2 => ?_)
        refine o_iceC (l := [i.a]) (f := vi) (m := 1) (c := 1) 0 0 rfl rfl (Nat.le_refl _) (fun hO => ?_)
        refine go ?_
        exact b_ret rfl (.cons (.tmp rfl) .nil) Turn.drop ⟨rfl, Fz.add_le _ _, by rw [e]; exact hO⟩
    · have e : asks i = [] := by unfold asks; rw [if_neg h34, if_neg h18]
      refine go ?_
      intro r
      refine go ?_
      exact b_ret rfl (.cons (.tmp rfl) .nil) Turn.drop ⟨rfl, Fle.refl _, by rw [e]; exact Row.nil _⟩
theorem may49 {F : Fz} (i : Ins) (regs : Int) : Pu 49 [.agg (vIn i).toArray, .int .i64 regs] F fun v F' => v = .bool (decide (i.ok regs)) := fun own => by
  have no : ∀ (b : Bool), b = false → (¬ i.ok regs) → Value.bool b = .bool (decide (i.ok regs)) := fun b h1 h2 => by rw [h1]; simp [h2]
  refine n_fun Tryz.func49 Tryz.ntmps49 rfl rfl rfl ?_
  by_cases h1 : 1 ≤ i.op ∧ i.op ≤ 8 ∧ 0 ≤ i.to ∧ i.to < regs
  · have hbad : ¬ constOk i.op i.c → ¬ i.ok regs := fun h k => h k.cc
    have hin : i.ok regs → ∀ x ∈ asks i, 0 ≤ x ∧ x < regs := fun h x hx => by
      unfold asks at hx
      split at hx
      · simp at hx; rcases hx with rfl | rfl
        · exact ⟨h.a0, h.a1⟩
        · exact ⟨h.b0, h.b1⟩
      split at hx
      · simp at hx; subst hx; exact ⟨h.a0, h.a1⟩
      · simp at hx
    have hal : (asks i).length ≤ 2 := by
      unfold asks
      by_cases e1 : i.op = 3 ∨ i.op = 4
      · rw [if_pos e1]; simp
      · rw [if_neg e1, if_pos ⟨h1.1, h1.2.1⟩]; simp
    by_cases hcc : constOk i.op i.c
    · by_cases h34 : i.op = 3 ∨ i.op = 4
      · refine go ?_
        intro r
        refine go ?_
        refine o_pu rfl (asks83 i) (fun v1 F1 hF1 hA => ?_)
        refine go ?_
        refine c_loopT (fun mm X o G => ∃ q : Nat, mm = (asks i).length - q ∧ X = [(1, .int .i64 regs), (43, v1), (44, .int .i64 ((asks i).length : Nat)), (45, .int .i64 (q : Nat))] ∧ .c r (vIn i) :: own = o ∧ F1 = G ∧ q ≤ (asks i).length ∧ ∀ j, j < q → 0 ≤ (asks i).getD j 0 ∧ (asks i).getD j 0 < regs) ⟨_, _, _, _, ⟨0, rfl, rfl, rfl, rfl, by omega, fun j h => by omega⟩, ⟨rfl, rfl, rfl, rfl, trivial⟩, Turn.refl _ _⟩ ?_
        rintro _ _ _ _ b ⟨q, rfl, rfl, rfl, rfl, hq, hall⟩
        by_cases hql : q < (asks i).length
        · have hm := getD_mem (z := 0) hql
          by_cases h0 : 0 ≤ (asks i).getD q 0
          · by_cases h2 : (asks i).getD q 0 < regs
            · refine go ?_
              exact ⟨_, _, _, _, ⟨q + 1, rfl, rfl, rfl, rfl, by omega, fun j hj => by
                by_cases hjq : j = q
                · subst hjq; exact ⟨h0, h2⟩
                · exact hall j (by omega)⟩, ⟨rfl, rfl, rfl, eqI (by omega), trivial⟩, Turn.refl _ _, rfl, by omega⟩
            · refine go ?_
              exact b_ret rfl (.cons (.tmp rfl) .nil) Turn.drop ⟨rfl, hF1, no _ rfl (fun h => h2 (hin h _ hm).2)⟩
          · refine go ?_
            exact b_ret rfl (.cons (.tmp rfl) .nil) Turn.drop ⟨rfl, hF1, no _ rfl (fun h => h0 (hin h _ hm).1)⟩
        · refine go ?_
          refine b_ret rfl (.cons (.tmp rfl) .nil) Turn.drop ⟨rfl, hF1, ?_⟩
          have hA2 : ∀ x ∈ asks i, 0 ≤ x ∧ x < regs := fun x hx => by
            obtain ⟨j, hj, rfl⟩ := List.getElem_of_mem hx
            have := hall j (by omega)
            rwa [List.getD_eq_getElem?_getD, List.getElem?_eq_getElem hj] at this
          have hok : i.ok regs := by
            have ha := hA2 i.a (by unfold asks; rw [if_pos h34]; simp)
            have hb := hA2 i.b (by unfold asks; rw [if_pos h34]; simp)
            exact ⟨h1.1, h1.2.1, h1.2.2.1, h1.2.2.2, ha.1, ha.2, hb.1, hb.2, fun h => absurd h34 h, hcc⟩
          simp [tupV, hok]
      · by_cases hb0 : i.b = 0
        · refine go ?_
          intro r
          refine go ?_
          refine o_pu rfl (asks83 i) (fun v1 F1 hF1 hA => ?_)
          refine go ?_
          refine c_loopT (fun mm X o G => ∃ q : Nat, mm = (asks i).length - q ∧ X = [(1, .int .i64 regs), (43, v1), (44, .int .i64 ((asks i).length : Nat)), (45, .int .i64 (q : Nat))] ∧ .c r (vIn i) :: own = o ∧ F1 = G ∧ q ≤ (asks i).length ∧ ∀ j, j < q → 0 ≤ (asks i).getD j 0 ∧ (asks i).getD j 0 < regs) ⟨_, _, _, _, ⟨0, rfl, rfl, rfl, rfl, by omega, fun j h => by omega⟩, ⟨rfl, rfl, rfl, rfl, trivial⟩, Turn.refl _ _⟩ ?_
          rintro _ _ _ _ b ⟨q, rfl, rfl, rfl, rfl, hq, hall⟩
          by_cases hql : q < (asks i).length
          · have hm := getD_mem (z := 0) hql
            by_cases h0 : 0 ≤ (asks i).getD q 0
            · by_cases h2 : (asks i).getD q 0 < regs
              · refine go ?_
                exact ⟨_, _, _, _, ⟨q + 1, rfl, rfl, rfl, rfl, by omega, fun j hj => by
                  by_cases hjq : j = q
                  · subst hjq; exact ⟨h0, h2⟩
                  · exact hall j (by omega)⟩, ⟨rfl, rfl, rfl, eqI (by omega), trivial⟩, Turn.refl _ _, rfl, by omega⟩
              · refine go ?_
                exact b_ret rfl (.cons (.tmp rfl) .nil) Turn.drop ⟨rfl, hF1, no _ rfl (fun h => h2 (hin h _ hm).2)⟩
            · refine go ?_
              exact b_ret rfl (.cons (.tmp rfl) .nil) Turn.drop ⟨rfl, hF1, no _ rfl (fun h => h0 (hin h _ hm).1)⟩
          · refine go ?_
            refine b_ret rfl (.cons (.tmp rfl) .nil) Turn.drop ⟨rfl, hF1, ?_⟩
            have hA2 : ∀ x ∈ asks i, 0 ≤ x ∧ x < regs := fun x hx => by
              obtain ⟨j, hj, rfl⟩ := List.getElem_of_mem hx
              have := hall j (by omega)
              rwa [List.getD_eq_getElem?_getD, List.getElem?_eq_getElem hj] at this
            have hok : i.ok regs := by
              have ha := hA2 i.a (by unfold asks; rw [if_neg h34, if_pos ⟨h1.1, h1.2.1⟩]; simp)
              exact ⟨h1.1, h1.2.1, h1.2.2.1, h1.2.2.2, ha.1, ha.2, by omega, by omega, fun _ => hb0, hcc⟩
            simp [tupV, hok]
        · have hno : ¬ i.ok regs := fun h => hb0 (h.bz h34)
          refine go ?_
          intro r
          refine go ?_
          exact b_ret rfl (.cons (.tmp rfl) .nil) Turn.drop ⟨rfl, Fle.refl _, no _ rfl hno⟩
    · have hno := hbad hcc
      by_cases h34 : i.op = 3 ∨ i.op = 4
      · refine go ?_
        intro r
        refine go ?_
        exact b_ret rfl (.cons (.tmp rfl) .nil) Turn.drop ⟨rfl, Fle.refl _, no _ rfl hno⟩
      · by_cases hb0 : i.b = 0
        all_goals
          refine go ?_
          intro r
          refine go ?_
          exact b_ret rfl (.cons (.tmp rfl) .nil) Turn.drop ⟨rfl, Fle.refl _, no _ rfl hno⟩
  · have hno : ¬ i.ok regs := fun h => h1 ⟨h.op1, h.op8, h.to0, h.to1⟩
    by_cases k1 : 1 ≤ i.op
    · by_cases k2 : i.op ≤ 8
      · by_cases k3 : 0 ≤ i.to
        all_goals
          refine go ?_
          intro r
          refine go ?_
          exact b_ret rfl (.cons (.tmp rfl) .nil) Turn.drop ⟨rfl, Fle.refl _, no _ rfl hno⟩
      · refine go ?_
        intro r
        refine go ?_
        exact b_ret rfl (.cons (.tmp rfl) .nil) Turn.drop ⟨rfl, Fle.refl _, no _ rfl hno⟩
    · refine go ?_
      intro r
      refine go ?_
      exact b_ret rfl (.cons (.tmp rfl) .nil) Turn.drop ⟨rfl, Fle.refl _, no _ rfl hno⟩
end Go.Proofs.YthkoodpnepfijaaGreatDoor
/- XG: WALKS: prog: Check, right, Copy, Same. -/
namespace Go.Proofs.YthkoodpnepfijaaGreatDoor
open Go.RowKit
set_option linter.unusedVariables false
set_option linter.unusedSimpArgs false
set_option maxRecDepth 100000
set_option maxHeartbeats 1000000
theorem check28 {F : Fz} {p : Prg} {cv ov : Value} (hP : PrR F cv ov p) (hok : p.ok) : Pu 28 [vPr p cv ov] F fun u F' => u = .tuple #[.int .i64 0, .int .i64 0] := fun own => by
  obtain ⟨A1, c1, h1⟩ := hP.code.dest
  obtain ⟨A2, c2, h2'⟩ := hP.outs.dest
  subst h1 h2'
  obtain ⟨hC, hO⟩ := hP
  have o1 := hok.ins1
  have o2 := hok.insr
  have o3 := hok.regs
  have o4 := hok.len
  have o5 := hok.out1
  have o6 := hok.outn
  refine n_fun Tryz.func28 Tryz.ntmps28 rfl rfl rfl ?_
  refine go ?_
  intro r1
  refine go ?_
  refine c_loopT (fun mm X o G => ∃ i : Nat, mm = p.outs.length - i ∧ X = [(1, .pointer (some ⟨r1, 0, none⟩)), (2, .int .i64 0), (3, .int .i64 0), (42, .slice A2 p.outs.length c2), (43, .int .i64 (p.outs.length : Nat)), (44, .int .i64 (i : Nat))] ∧ .c r1 [.int .i64 p.ins, .int .i64 p.regs, .slice A1 p.code.length c1, .slice A2 p.outs.length c2] :: own = o ∧ F = G ∧ i ≤ p.outs.length) ⟨_, _, _, _, ⟨0, rfl, rfl, rfl, rfl, by omega⟩, ⟨rfl, rfl, rfl, rfl, rfl, rfl, trivial⟩, Turn.refl _ _⟩ ?_
  rintro _ _ _ _ b ⟨i, rfl, rfl, rfl, rfl, hi⟩
  by_cases hil : i < p.outs.length
  · have hr := hok.outs _ (getD_mem (z := 0) hil)
    have hr1 := hr.1
    have hr2 := hr.2
    refine go ?_
    exact ⟨_, _, _, _, ⟨i + 1, rfl, rfl, rfl, rfl, by omega⟩, ⟨rfl, rfl, rfl, rfl, rfl, eqI (by omega), trivial⟩, Turn.refl _ _, rfl, by omega⟩
  · refine go ?_
    refine c_loopT (fun mm X o G => ∃ i : Nat, mm = p.code.length - i ∧ X = [(1, .pointer (some ⟨r1, 0, none⟩)), (2, .int .i64 0), (3, .int .i64 0), (58, .slice A1 p.code.length c1), (59, .int .i64 (p.code.length : Nat)), (60, .int .i64 (i : Nat))] ∧ .c r1 [.int .i64 p.ins, .int .i64 p.regs, .slice A1 p.code.length c1, .slice A2 p.outs.length c2] :: own = o ∧ Fle F G ∧ i ≤ p.code.length) ⟨_, _, _, _, ⟨0, rfl, rfl, rfl, Fle.refl _, by omega⟩, ⟨rfl, rfl, rfl, rfl, rfl, rfl, trivial⟩, Turn.refl _ _⟩ ?_
    rintro _ _ _ G b ⟨i, rfl, rfl, rfl, hFG, hi⟩
    have hCG := RowS.le hC hFG
    by_cases hil : i < p.code.length
    · have hr := hok.code _ (getD_mem (z := z0I) hil)
      refine go ?_
      intro r7
      refine go ?_
      refine o_pu rfl (may49 (p.code.getD i z0I) p.regs) (fun v1 F1 hF1 e => ?_)
      rw [decide_eq_true hr] at e
      subst e
      refine go ?_
      exact ⟨_, _, _, _, ⟨i + 1, rfl, rfl, rfl, hFG.trans hF1, by omega⟩, ⟨rfl, rfl, rfl, rfl, rfl, eqI (by omega), trivial⟩, Turn.drop, rfl, by omega⟩
    · refine go ?_
      exact b_ret rfl (.cons (.tmp rfl) (.cons (.tmp rfl) .nil)) Turn.drop ⟨rfl, hFG, rfl⟩
theorem right156 {F : Fz} {p : Prg} {cv ov : Value} (hP : PrR F cv ov p) (hok : p.ok) : Pu 156 [vPr p cv ov] F fun u F' => u = .bool true := fun own => by
  refine n_fun Tryz.func156 Tryz.ntmps156 rfl rfl rfl ?_
  refine go ?_
  intro r1
  refine go ?_
  refine o_pu rfl (check28 hP hok) (fun v1 F1 hF1 e => ?_)
  subst e
  refine go ?_
  exact b_ret rfl (.cons (.tmp rfl) .nil) Turn.drop ⟨rfl, hF1, rfl⟩
end Go.Proofs.YthkoodpnepfijaaGreatDoor
/- VH: []T{} : a row of its own, with nothing in it. -/
namespace Go.Proofs.YthkoodpnepfijaaGreatDoor
open Go.RowKit
set_option linter.unusedVariables false
section
variable {n : Nat} {ops : Array Oper} {rest : List Oper} {K : St → Prop} {x : Fr} {b : Nat → Value} {ds : List Deferred} {own : List Ch} {F : Fz} {d ty : Nat} {pos : String} {af : Array Edge}
theorem o_litg {t e s : Nat} [ht : SlT t e s]
    (h : ∀ r, O n ops none rest K (.g (.slice (some ⟨r, 0, none⟩) 0 0) e s 0 [] :: own) ⟨(d, .slice (some ⟨r, 0, none⟩) 0 0) :: x, b, ds, .g (.slice (some ⟨r, 0, none⟩) 0 0) e s 0 [] :: own, F⟩) :
    O n ops none (⟨some d, .buildSlice t 0 #[], ty, pos, af, none⟩ :: rest) K own ⟨x, b, ds, own, F⟩ :=
  o_ef (List.Sublist.refl _) rfl fun B w0 w hI => by
    have hr : (execOp (St.act n ⟨x, b, ds, own, F⟩).eval ⟨some d, .buildSlice t 0 #[], ty, pos, af, none⟩).run Tryz.prog w = .ok (.value (.slice (some ⟨w.heap.size, 0, none⟩) 0 0)) (w.alloc (.cells #[] e)) := by
      unfold execOp
      simp [Instr.buildSlice, Instr.fill, run_underlying ht.h, size_run ht.hs, Result.andThen, newRow]
      exact congrArg (fun c => w.alloc (Obj.cells c e)) (Array.eq_empty_of_size_eq_zero (by simp))
    rw [hr]
    refine ⟨_, _, act_putx .., hI.new (.cells #[] e) (.g (.slice (some ⟨w.heap.size, 0, none⟩) 0 0) e s 0 []) rfl ?_, .text, h _⟩
    exact ⟨by simp, .inr ⟨w.heap.size, 0, #[], rfl, hI.big, by rw [heap_alloc_new], Nat.le_refl _, Nat.zero_le _, by simp, by simp⟩⟩
end
end Go.Proofs.YthkoodpnepfijaaGreatDoor
/- XH: WALKS: slices.Clone, prog.Copy. -/
namespace Go.Proofs.YthkoodpnepfijaaGreatDoor
open Go.RowKit
set_option linter.unusedVariables false
set_option linter.unusedSimpArgs false
set_option maxRecDepth 100000
set_option maxHeartbeats 1000000
section
variable {n : Nat} {ops : Array Oper} {fl : Option (List Nat)} {rest : List Oper} {K : St → Prop} {wk : List Ch} {x : Fr} {b : Nat → Value} {ds : List Deferred} {own : List Ch} {F : Fz} {d ty : Nat} {pos : String} {af : Array Edge}
theorem run_eqnil {t e s : Nat} (ht : SlT t e s) (A : Option Addr) (m c m' c' : Nat) (w : World) : (Op.equal t (.slice A m c) (.slice none m' c')).run Tryz.prog w = .ok A.isNone w := by
  unfold Op.equal Op.maxDepth Op.equalIn
  cases A <;> simp [run_underlying ht.h, Result.andThen, Sem.run_pure]
theorem o_eqnil {t t' e s : Nat} [ht : SlT t e s] {a a' : Operand} {A : Option Addr} {m c m' c' : Nat} (q : Bool) (hq : A.isNone = q) (hg : Tryz.prog.eqGuardType Tryz.prog.depth t = false) (ha : evS n x a = some (.slice A m c)) (ha' : evS n x a' = some (.slice none m' c'))
    (h : O n ops fl rest K wk ⟨(d, .bool q) :: x, b, ds, own, F⟩) : O n ops fl (⟨some d, .binOp .eql t a a' t', ty, pos, af, none⟩ :: rest) K wk ⟨x, b, ds, own, F⟩ :=
  o_rd _ rfl (fun B w0 w hw => by
    have e1 := run_eqnil ht A m c m' c' w
    unfold execOp
    simp [evx ha, evx ha', eqGuard, binOp, Result.andThen, e1, hg, hq]) h
theorem rowsCells {F : Fz} {s : Nat} {A : Addr} {m c : Nat} : ∀ {xs : List (List Value)} {k : Nat}, (∀ i us, xs[i]? = some us → us.length = s ∧ Cs F (A.add ((k + i) * s)) us) → ∀ i u, xs.flatten[i]? = some u → F (A.add (k * s + i)) u
  | [], k, h, i, u, hu => by simp at hu
  | y :: ys, k, h, i, u, hu => by
    obtain ⟨h1, h2⟩ := h 0 y rfl
    rw [List.flatten_cons] at hu
    by_cases hi : i < y.length
    · rw [List.getElem?_append_left hi] at hu
      have := h2 i u hu
      rwa [Addr.add_add, Nat.add_zero] at this
    · rw [List.getElem?_append_right (by omega)] at hu
      have := rowsCells (A := A) (m := m) (c := c) (k := k + 1) (fun j us hj => by
        have := h (j + 1) us hj
        rwa [show k + (j + 1) = k + 1 + j by omega] at this) _ u hu
      rwa [show (k + 1) * s + (i - y.length) = k * s + i by rw [Nat.add_mul]; omega] at this
end
theorem vIn_len : ∀ l : List Ins, (l.flatMap vIn).length = l.length * 5
  | [] => rfl
  | i :: l => by rw [List.flatMap_cons, List.length_append, vIn_len l, List.length_cons, show (vIn i).length = 5 from rfl]; omega
theorem vIn_one : ∀ l : List Ins, (l.flatMap vIn).all One = true
  | [] => rfl
  | i :: l => by rw [List.flatMap_cons, List.all_append, vIn_one l]; rfl
theorem vi_one : ∀ l : List Int, (l.map vi).all One = true
  | [] => rfl
  | i :: l => by rw [List.map_cons, List.all_cons, vi_one l]; rfl
theorem clone61 {F : Fz} {v : Value} {l : List Ins} (hl : CodR F v l) (hlen : l.length ≤ 1000000) : Pu 61 [v] F fun u F' => CodR F' u l := fun own => by
  refine n_fun Tryz.func61 Tryz.ntmps61 rfl rfl rfl ?_
  have hl' := hl
  obtain ⟨A, c, rfl, h2, h3⟩ := hl
  rw [List.length_map] at h2 ⊢
  cases A with
  | none =>
    have hnil : l = [] := by
      cases l with
      | nil => rfl
      | cons i l => obtain ⟨_, B, e, _⟩ := h3 0 (vIn i) rfl; cases e
    subst hnil
    refine go ?_
    refine o_eqnil true rfl (by decide +kernel) rfl rfl ?_
    refine go ?_
    exact b_ret rfl (.cons (.tmp rfl) .nil) (Turn.refl _ _) ⟨rfl, Fle.refl _, none, 0, rfl, Nat.le_refl _, fun i us h => by simp at h⟩
  | some A =>
    have hcs : ∀ i u, (l.map vIn).flatten[i]? = some u → F (A.add (0 * 5 + i)) u := rowsCells (m := 0) (c := 0) (fun i us hu => by
      obtain ⟨q, B, e, hB⟩ := h3 i us hu
      cases e
      rw [Nat.zero_add]
      exact ⟨q, hB⟩)
    refine go ?_
    refine o_eqnil false rfl (by decide +kernel) rfl rfl ?_
    refine go ?_
    refine o_litg (fun r => ?_)
    refine go ?_
    refine o_append (t' := 0) (news := l.flatMap vIn) 0 rfl rfl rfl (vIn_len l) (fun i u hu => .inl (by rw [List.flatMap_def] at hu; have := hcs i u hu; rwa [Nat.zero_mul, Nat.zero_add] at this)) (vIn_one l) rfl rfl (by omega) (by omega) (fun v' _ => ?_)
    rw [List.set_cons_zero, Nat.zero_add, List.nil_append]
    refine o_iceS (l := l) (f := vIn) z0I 0 rfl (fun _ => rfl) rfl (fun hC => ?_)
    refine go ?_
    exact b_ret rfl (.cons (.tmp rfl) .nil) (Turn.refl _ _) ⟨rfl, Fz.add_le _ _, hC⟩
theorem clone62 {F : Fz} {v : Value} {l : List Int} (hl : IntsR F v l) (hlen : l.length ≤ 1000000) : Pu 62 [v] F fun u F' => IntsR F' u l := fun own => by
  refine n_fun Tryz.func62 Tryz.ntmps62 rfl rfl rfl ?_
  obtain ⟨A, c, rfl, h2, h3⟩ := hl
  rw [List.length_map] at h2 ⊢
  cases A with
  | none =>
    have hnil : l = [] := by
      cases l with
      | nil => rfl
      | cons i l => obtain ⟨B, e, _⟩ := h3 0 (vi i) rfl; cases e
    subst hnil
    refine go ?_
    refine o_eqnil true rfl (by decide +kernel) rfl rfl ?_
    refine go ?_
    exact b_ret rfl (.cons (.tmp rfl) .nil) (Turn.refl _ _) ⟨rfl, Fle.refl _, none, 0, rfl, Nat.le_refl _, fun i us h => by simp at h⟩
  | some A =>
    refine go ?_
    refine o_eqnil false rfl (by decide +kernel) rfl rfl ?_
    refine go ?_
    refine o_litg (fun r => ?_)
    refine go ?_
    refine o_append (t' := 0) (news := l.map vi) 0 rfl rfl rfl (by rw [List.length_map, Nat.mul_one]) (fun i u hu => .inl (by obtain ⟨B, e, hB⟩ := h3 i u hu; cases e; exact hB)) (vi_one l) rfl rfl (by omega) (by omega) (fun v' _ => ?_)
    rw [List.set_cons_zero, Nat.zero_add, List.nil_append]
    refine o_iceM (l := l) (f := vi) 0 0 rfl (fun hC => ?_)
    refine go ?_
    exact b_ret rfl (.cons (.tmp rfl) .nil) (Turn.refl _ _) ⟨rfl, Fz.add_le _ _, hC⟩
end Go.Proofs.YthkoodpnepfijaaGreatDoor
/- XI: WALKS: prog.Copy, Equal of instructions, Same. -/
namespace Go.Proofs.YthkoodpnepfijaaGreatDoor
open Go.RowKit
set_option linter.unusedVariables false
set_option linter.unusedSimpArgs false
set_option maxRecDepth 100000
set_option maxHeartbeats 1000000
theorem copy31 {F : Fz} {p : Prg} {cv ov : Value} (hP : PrR F cv ov p) (hc : p.code.length ≤ 1000000) (ho : p.outs.length ≤ 1000000) : Pu 31 [vPr p cv ov] F fun u F' => ∃ cv' ov', u = vPr p cv' ov' ∧ PrR F' cv' ov' p := fun own => by
  obtain ⟨A3, c3, e3⟩ := hP.code.dest
  obtain ⟨A4, c4, e4⟩ := hP.outs.dest
  subst e3 e4
  refine n_fun Tryz.func31 Tryz.ntmps31 rfl rfl rfl ?_
  refine goT ?_
  intro r1 r2
  refine goT ?_
  refine c_drwoW [0, 1, 3, 4, 2, 6, 5, 7, 8, 9] [.c r1 [.int .i64 p.ins, .int .i64 p.regs, .slice A3 p.code.length c3, .slice A4 p.outs.length c4]] (by kernel_rfl) (by simp only [List.map_cons, List.map_nil, getD_lit, List.getD_cons_zero, List.getD_cons_succ]; exact rfl) ?_
  refine go ?_
  refine o_pu rfl (clone61 hP.code hc) (fun v1 F1 hF1 h1 => ?_) sl
  refine go ?_
  refine o_pu rfl (clone62 (RowM.le hP.outs hF1) ho) (fun v2 F2 hF2 h2 => ?_) sl
  obtain ⟨A1, c1, e1⟩ := h1.dest
  obtain ⟨A2, c2, e2⟩ := h2.dest
  subst e1 e2
  refine go ?_
  refine o_store 1 rfl rfl rfl rfl (by simp) ?_ sl (.late [] (by decide +kernel) (List.nil_sublist _))
  simp only [List.set_cons_succ, List.set_cons_zero]
  refine go ?_
  exact b_ret rfl (.cons (.cella rfl rfl (rdsW 0 rfl)) .nil) (Turn.skip Turn.drop) ⟨rfl, hF1.trans hF2, _, _, rfl, h1.le hF2, h2⟩
end Go.Proofs.YthkoodpnepfijaaGreatDoor

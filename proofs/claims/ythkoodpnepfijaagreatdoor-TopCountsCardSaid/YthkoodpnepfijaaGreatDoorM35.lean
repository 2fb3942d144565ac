/-
  Steps towards TopCounts (no conditions of their own): WALKS: vm.Step (printed by genyl.py). WALKS: split: right, up, Block, Enters; toom: enters, lengths. THE LAW, PLAINLY: finite sums, the product of two rows, what a level of the machine comes to. THE LAW, PLAINLY: the rows of a level.
-/
import Derived.Test.YthkoodpnepfijaaGreatDoorM08
import Derived.Test.YthkoodpnepfijaaGreatDoorM10
import Derived.Test.YthkoodpnepfijaaGreatDoorM21
import Derived.Test.YthkoodpnepfijaaGreatDoorM23
import Derived.Test.YthkoodpnepfijaaGreatDoorM34
/- YL: WALKS: vm.Step (printed by genyl.py). -/
namespace Go.Proofs.YthkoodpnepfijaaGreatDoor
open Go.RowKit
set_option linter.unusedVariables false
set_option linter.unusedSimpArgs false
set_option maxRecDepth 100000
set_option maxHeartbeats 1000000
theorem RowI.msz {F : Fz} {q : SZ} {n : Nat} {zs : List Int} (h : RowI F (vS q) zs) (hz : zs.length = n) : q.m = n := by
  obtain ⟨A', c', e'⟩ := h.dest
  cases q
  cases e'
  exact hz
theorem step110 {F : Fz} (hGl : Gl F) {n k : Nat} {p : Prg} {A1 A2 : Option Addr} {c1 c2 rm g c j : Nat} {qs : List SZ} {S : Nat → Rg} {w : Nat → Int} (hP : PrR F (.slice A1 p.code.length c1) (.slice A2 p.outs.length c2) p) (hok : p.ok) (hn1 : 1 ≤ n) (hn : n ≤ 1000000) (hk : k ≤ 4000000000) (hjl : j < p.code.length) (hql : qs.length = p.regs.toNat) (hR : RegR F qs fun r => rw_ n S r) (hb : ∀ i, i < n → ∀ r, (S i r).natAbs < 2 ^ k) (hw : ∀ i, i < n → (p.code.getD j z0I).val (S i) = some (w i)) (own : List Ch) :
    N 110 [.pointer (some ⟨rm, 0, none⟩)] (mC rm p (.slice A1 p.code.length c1) (.slice A2 p.outs.length c2) (.slice (some ⟨g, 0, none⟩) p.regs.toNat c) j :: gC (.slice (some ⟨g, 0, none⟩) p.regs.toNat c) p.regs.toNat qs :: own) F fun u o F' => u = .int .i64 0 ∧ Fle F F' ∧ ∃ qs', o = mC rm p (.slice A1 p.code.length c1) (.slice A2 p.outs.length c2) (.slice (some ⟨g, 0, none⟩) p.regs.toNat c) (j + 1) :: gC (.slice (some ⟨g, 0, none⟩) p.regs.toNat c) p.regs.toNat qs' :: own ∧ qs'.length = p.regs.toNat ∧ RegR F' qs' fun r => rw_ n (fun i => (S i).set (p.code.getD j z0I).to (w i)) r := by
  have o1 := hok.len
  have o3 := hok.regs
  have hC := hP.code
  have hok' := hok.code _ (getD_mem (z := z0I) hjl)
  obtain ⟨op, t, a, bb, cc, hI, i1, i2, i3⟩ : ∃ (op : Int) (t a bb : Nat) (c : Int), p.code.getD j z0I = ⟨op, (t : Nat), (a : Nat), (bb : Nat), c⟩ ∧ (t : Int) < p.regs ∧ (a : Int) < p.regs ∧ (bb : Int) < p.regs := by
    refine ⟨(p.code.getD j z0I).op, (p.code.getD j z0I).to.toNat, (p.code.getD j z0I).a.toNat, (p.code.getD j z0I).b.toNat, (p.code.getD j z0I).c, ?_, ?_, ?_, ?_⟩
    · have h1 := hok'.to0
      have h2 := hok'.a0
      have h3 := hok'.b0
      rw [Int.toNat_of_nonneg h1, Int.toNat_of_nonneg h2, Int.toNat_of_nonneg h3]
    · have h1 := hok'.to0
      have h2 := hok'.to1
      omega
    · have h1 := hok'.a0
      have h2 := hok'.a1
      omega
    · have h1 := hok'.b0
      have h2 := hok'.b1
      omega
  rw [hI] at hok' hw
  rw [hI]
  have hal : a < qs.length := by omega
  have hbl : bb < qs.length := by omega
  have htl : t < qs.length := by omega
  have hRa : RowI F (vS (qs.getD a z0S)) (rw_ n S (a : Int)) := hR a hal
  have hRb : RowI F (vS (qs.getD bb z0S)) (rw_ n S (bb : Int)) := hR bb hbl
  have hma := hRa.msz (rw_len n S (a : Int))
  have hw := Wrp.mk hw
  have hb := Wrp.mk hb
  have hRw := Wrp.mk hR
  clear hR
  refine n_fun Tryz.func110 Tryz.ntmps110 rfl rfl rfl ?_
  refine goT ?_
  refine o_eqp rfl ?_
  refine goT ?_
  refine c_drww [mC rm p (.slice A1 p.code.length c1) (.slice A2 p.outs.length c2) (.slice (some ⟨g, 0, none⟩) p.regs.toNat c) j] sl rfl (by decide +kernel) ?_
  refine goT ?_
  refine c_drww [mC rm p (.slice A1 p.code.length c1) (.slice A2 p.outs.length c2) (.slice (some ⟨g, 0, none⟩) p.regs.toNat c) j] sl rfl (by decide +kernel) ?_
  refine go ?_
  refine o_alloc (fun r3 => ?_) sl (fun _ => .keep sl (Fle.refl _))
  rw [hI]
  refine o_staF rfl inferInstance rfl rfl rfl get0 rfl rfl sl (.keep sl (Fle.refl _)) ?_
  refine o_nil sl ?_
  refine go ?_
  refine o_pu rfl (does141 hGl hok') (fun fv F1 hF1 ⟨f, hf, ws, e, hfn⟩ => ?_) sl
  subst e
  have hfn := Wrp.mk hfn
  have hRa := hRa.le hF1
  have hRb := hRb.le hF1
  refine goT ?_
  refine c_drww [.c r3 [.int .i64 op, .int .i64 (t : Nat), .int .i64 (a : Nat), .int .i64 (bb : Nat), .int .i64 cc], mC rm p (.slice A1 p.code.length c1) (.slice A2 p.outs.length c2) (.slice (some ⟨g, 0, none⟩) p.regs.toNat c) j, gC (.slice (some ⟨g, 0, none⟩) p.regs.toNat c) p.regs.toNat qs] sl rfl (by decide +kernel) ?_
  refine go ?_
  refine o_load rfl (rdG 2 rfl (map_getD z0S hal)) ?_
  refine go ?_
  refine o_load rfl (rdG 2 rfl (map_getD z0S hbl)) ?_
  refine go ?_
  rw [hma]
  refine go ?_
  refine o_make n rfl rfl (by omega) (by omega) (fun r7 => ?_)
  rw [rep_two]
  refine go ?_
  refine c_loopT (fun m X o G => ∃ (i : Nat) (ps : List IZ), m = n - i ∧ X = [(0, .pointer (some ⟨rm, 0, none⟩)), (3, .pointer (some ⟨r3, 0, none⟩)), (4, .func (.func f) #[] ws.toArray), (5, vS (qs.getD a z0S)), (6, vS (qs.getD bb z0S)), (7, .slice (some ⟨r7, 0, none⟩) n n), (59, .int .i64 (n : Nat)), (60, .int .i64 (i : Nat))] ∧ .c r7 (ps.flatMap vIz) :: .c r3 [.int .i64 op, .int .i64 (t : Nat), .int .i64 (a : Nat), .int .i64 (bb : Nat), .int .i64 cc] :: mC rm p (.slice A1 p.code.length c1) (.slice A2 p.outs.length c2) (.slice (some ⟨g, 0, none⟩) p.regs.toNat c) j :: gC (.slice (some ⟨g, 0, none⟩) p.regs.toNat c) p.regs.toNat qs :: own = o ∧ Fle F1 G ∧ ps.length = n ∧ (∀ x, x < i → IntR G (.agg (vIz (ps.getD x z0Z)).toArray) (w x)) ∧ i ≤ n)
    ⟨_, _, _, _, ⟨0, _, rfl, rfl, rfl, Fle.refl _, List.length_replicate .., fun x hx => absurd hx (by omega), by omega⟩, ⟨rfl, rfl, rfl, rfl, rfl, rfl, rfl, rfl, trivial⟩, Turn.refl _ _⟩ ?_
  rintro _ _ _ G b ⟨i, ps, rfl, rfl, rfl, hG, hpl, hps, hi⟩
  have hps := Wrp.mk hps
  by_cases hil : i < n
  · have hRa' := hRa.le hG
    have hRb' := hRb.le hG
    obtain ⟨la, hla, hza⟩ := hRa'
    obtain ⟨lb, hlb, hzb⟩ := hRb'
    have hlal : la.length = n := by rw [hza.1, rw_len]
    have hlbl : lb.length = n := by rw [hzb.1, rw_len]
    have ha0 := hza.2 i (by rw [rw_len]; exact hil)
    have hb0 := hzb.2 i (by rw [rw_len]; exact hil)
    rw [rw_get _ _ hil] at ha0 hb0
    have hila : i < la.length := by omega
    have hilb : i < lb.length := by omega
    refine goT ?_
    refine c_joinT (fun Y o G => ∃ (r9 : Nat) (q : IZ), Y = [(0, .pointer (some ⟨rm, 0, none⟩)), (3, .pointer (some ⟨r3, 0, none⟩)), (4, .func (.func f) #[] ws.toArray), (5, vS (qs.getD a z0S)), (6, vS (qs.getD bb z0S)), (7, .slice (some ⟨r7, 0, none⟩) n n), (59, .int .i64 (n : Nat)), (60, .int .i64 (i : Nat)), (8, .int .i64 (i : Nat)), (9, .pointer (some ⟨r9, 0, none⟩)), (10, .bool true)] ∧ .c r9 (vIz q) :: .c r7 (ps.flatMap vIz) :: .c r3 [.int .i64 op, .int .i64 (t : Nat), .int .i64 (a : Nat), .int .i64 (bb : Nat), .int .i64 cc] :: mC rm p (.slice A1 p.code.length c1) (.slice A2 p.outs.length c2) (.slice (some ⟨g, 0, none⟩) p.regs.toNat c) j :: gC (.slice (some ⟨g, 0, none⟩) p.regs.toNat c) p.regs.toNat qs :: own = o ∧ Fle F1 G ∧ IntR G (.agg (vIz q).toArray) (w i) ∧ (∀ x, x < i → IntR G (.agg (vIz (ps.getD x z0Z)).toArray) (w x))) ?_ ?_
    · refine c_drawG [] (by decide +kernel) ?_
      refine g_o 0 _ rfl (by decide +kernel) rfl rfl (fun _ h => o_move rfl (o_nil sl h)) ?_
      refine g_o 1 _ rfl (by decide +kernel) rfl rfl (fun _ h => o_move rfl (o_nil sl h)) ?_
      refine g_o 2 _ rfl (by decide +kernel) rfl rfl (fun _ h => o_move rfl (o_nil sl h)) ?_
      refine g_o 3 _ rfl (by decide +kernel) rfl rfl (fun _ h => o_idxs rfl rfl inferInstance hla True.intro hila (o_nil sl h)) ?_
      refine g_o 4 _ rfl (by decide +kernel) rfl rfl (fun _ h => o_loada (vs := vIz (la.getD i z0Z)) rfl rfl (Cs.rds (RowS.at hla hila)) (o_nil sl h)) ?_
      refine g_o 5 _ rfl (by decide +kernel) rfl rfl (fun _ h => o_move rfl (o_nil sl h)) ?_
      refine g_o 6 _ rfl (by decide +kernel) rfl rfl (fun _ h => o_move rfl (o_nil sl h)) ?_
      refine g_o 7 _ rfl (by decide +kernel) rfl rfl (fun _ h => o_idxs rfl rfl inferInstance hlb True.intro hilb (o_nil sl h)) ?_
      refine g_o 8 _ rfl (by decide +kernel) rfl rfl (fun _ h => o_loada (vs := vIz (lb.getD i z0Z)) rfl rfl (Cs.rds (RowS.at hlb hilb)) (o_nil sl h)) ?_
      refine g_ef [9, 13] (by decide +kernel) sl ⟨?_, ?_, trivial⟩
      · skip
        simp only [getD_lit, List.getD_cons_succ, List.getD_cons_zero]
        refine o_callv (us := []) (ws := ws) rfl rfl rfl (hfn.out G _ _ (S i) (w i) k hG ha0 hb0 (hb.out i hil _) (hb.out i hil _) hk (hw.out i hil) _) (fun v o F3 ⟨e1, hF3, v', e, hv⟩ => ⟨_, .text, ?_⟩) (List.Sublist.refl _)
        subst e1
        obtain ⟨q, e2, hv⟩ := hv.iz
        subst e e2
        refine o_nil sl ⟨.inl hF3, _, sl, .inl (List.Sublist.refl _), ?_⟩
        refine g_o 10 _ rfl (by decide +kernel) rfl rfl (fun _ h => o_move rfl (o_nil sl h)) ?_
        refine g_o 11 _ rfl (by decide +kernel) rfl rfl (fun _ h => o_ext rfl rfl (o_nil sl h)) ?_
        refine g_o 12 _ rfl (by decide +kernel) rfl rfl (fun _ h => o_ext rfl rfl (o_nil sl h)) ?_
        refine g_ef [13] (by decide +kernel) sl ⟨?_, trivial⟩
        simp only [getD_lit, List.getD_cons_succ, List.getD_cons_zero]
        refine go ?_
        intro r9
        refine ⟨.inl (Fle.refl _), _, sl, .inl (List.Sublist.refl _), ?_⟩
        refine g_ef [14] (by decide +kernel) sl ⟨?_, trivial⟩
        simp only [getD_lit, List.getD_cons_succ, List.getD_cons_zero]
        refine go ?_
        refine ⟨.inl (Fle.refl _), [], sl, .inl (List.nil_sublist _), ?_⟩
        refine g_ef [15] (by decide +kernel) sl ⟨?_, trivial⟩
        simp only [getD_lit, List.getD_cons_succ, List.getD_cons_zero]
        refine go ?_
        refine ⟨.inl (Fle.refl _), [], sl, .inl (List.nil_sublist _), ?_⟩
        refine g_end (by decide +kernel) sl ?_
        exact ⟨_, _, _, ⟨r9, q, rfl, rfl, hG.trans hF3, hv, fun x hx => (hps.out x hx).le hF3⟩, ⟨rfl, rfl, rfl, rfl, rfl, rfl, rfl, rfl, rfl, rfl, rfl, trivial⟩, Turn.refl _ _, rfl⟩
      · skip
        simp only [getD_lit, List.getD_cons_succ, List.getD_cons_zero]
        refine go ?_
        intro r9
        refine ⟨.inl (Fle.refl _), _, sl, .inl (List.Sublist.refl _), ?_⟩
        refine g_ef [9] (by decide +kernel) sl ⟨?_, trivial⟩
        simp only [getD_lit, List.getD_cons_succ, List.getD_cons_zero]
        refine o_callv (us := []) (ws := ws) rfl rfl rfl (hfn.out G _ _ (S i) (w i) k hG ha0 hb0 (hb.out i hil _) (hb.out i hil _) hk (hw.out i hil) _) (fun v o F3 ⟨e1, hF3, v', e, hv⟩ => ⟨_, .text, ?_⟩) (List.Sublist.refl _)
        subst e1
        obtain ⟨q, e2, hv⟩ := hv.iz
        subst e e2
        refine o_nil sl ⟨.inl hF3, _, sl, .inl (List.Sublist.refl _), ?_⟩
        refine g_o 10 _ rfl (by decide +kernel) rfl rfl (fun _ h => o_move rfl (o_nil sl h)) ?_
        refine g_o 11 _ rfl (by decide +kernel) rfl rfl (fun _ h => o_ext rfl rfl (o_nil sl h)) ?_
        refine g_o 12 _ rfl (by decide +kernel) rfl rfl (fun _ h => o_ext rfl rfl (o_nil sl h)) ?_
        refine g_ef [14] (by decide +kernel) sl ⟨?_, trivial⟩
        simp only [getD_lit, List.getD_cons_succ, List.getD_cons_zero]
        refine go ?_
        refine ⟨.inl (Fle.refl _), [], sl, .inl (List.nil_sublist _), ?_⟩
        refine g_ef [15] (by decide +kernel) sl ⟨?_, trivial⟩
        simp only [getD_lit, List.getD_cons_succ, List.getD_cons_zero]
        refine go ?_
        refine ⟨.inl (Fle.refl _), [], sl, .inl (List.nil_sublist _), ?_⟩
        refine g_end (by decide +kernel) sl ?_
        exact ⟨_, _, _, ⟨r9, q, rfl, rfl, hG.trans hF3, hv, fun x hx => (hps.out x hx).le hF3⟩, ⟨rfl, rfl, rfl, rfl, rfl, rfl, rfl, rfl, rfl, rfl, rfl, trivial⟩, Turn.refl _ _, rfl⟩
    · rintro _ _ G' b ⟨r9, q, rfl, rfl, hG', hv, hps⟩
      have hps := Wrp.mk hps
      refine go ?_
      refine o_staN rfl inferInstance rfl rfl rfl get1 (by rw [setL_flat vIz_len q (by omega)]; rfl) (by rw [flat_len vIz_len, hpl]; show i * 2 + 2 ≤ n * 2; omega) sl .text ?_
      refine go ?_
      exact ⟨_, _, _, _, ⟨i + 1, ps.set i q, rfl, rfl, rfl, hG', by simpa using hpl, fun x hx => by
        rw [List.getD_eq_getElem?_getD, List.getElem?_set]
        by_cases h : i = x
        · subst h; rw [if_pos rfl, if_pos (by omega)]; exact hv
        · rw [if_neg h, ← List.getD_eq_getElem?_getD]; exact hps.out x (by omega), by omega⟩, ⟨rfl, rfl, rfl, rfl, rfl, rfl, rfl, eqI (by omega), trivial⟩, Turn.drop, rfl, by omega⟩
  · obtain rfl : i = n := by omega
    have hrow : RowI (G.add (.c r7 (ps.flatMap vIz))) (vS ⟨some ⟨r7, 0, none⟩, i, i⟩) ((List.range i).map w) := ⟨ps, rowS_ice z0Z vIz_len hpl (Nat.le_refl _), by simp [hpl], fun x hx => by
      have hx' : x < i := by simpa using hx
      rw [getD_map_range w hx']
      exact (hps.out x hx').le (Fz.add_le _ _)⟩
    refine c_turn Turn.ice ?_
    refine goT ?_
    refine c_drww [.c r3 [.int .i64 op, .int .i64 (t : Nat), .int .i64 (a : Nat), .int .i64 (bb : Nat), .int .i64 cc], mC rm p (.slice A1 p.code.length c1) (.slice A2 p.outs.length c2) (.slice (some ⟨g, 0, none⟩) p.regs.toNat c) j] sl rfl (by decide +kernel) ?_
    refine go ?_
    refine o_storeg (q := 0) 2 rfl rfl rfl rfl (by rw [List.length_map]; omega) ?_ sl (.keep sl (Fle.refl _))
    simp only [List.set_cons_succ, List.set_cons_zero]
    refine o_nil sl ?_
    refine go ?_
    exact b_ret rfl (.cons (.tmp rfl) .nil) (Turn.drop) ⟨rfl, hF1.trans (hG.trans (Fz.add_le _ _)), qs.set t ⟨some ⟨r7, 0, none⟩, i, i⟩, by simp only [gC, ← vS_set]; rfl, by simpa using hql, RegR.step (hRw.out.le (hF1.trans (hG.trans (Fz.add_le _ _)))) htl hrow⟩
end Go.Proofs.YthkoodpnepfijaaGreatDoor
/- YM: WALKS: split: right, up, Block, Enters; toom: enters, lengths. -/
namespace Go.Proofs.YthkoodpnepfijaaGreatDoor
open Go.RowKit
set_option linter.unusedVariables false
set_option linter.unusedSimpArgs false
set_option maxRecDepth 100000
set_option maxHeartbeats 1000000
instance right103 (a b c d : Int) : ScF 103 [.int .i64 a, .int .i64 b, .int .i64 c, .int .i64 d] (.bool true) (0 ≤ a ∧ a ≤ 4096 ∧ 0 ≤ b ∧ b ≤ 4096 ∧ 1 ≤ c ∧ c ≤ 8 ∧ 1 ≤ d ∧ d ≤ 8) := ⟨fun ⟨h1, h2, h3, h4, h5, h6, h7, h8⟩ F own => by
  refine n_fun Tryz.func103 Tryz.ntmps103 rfl rfl rfl ?_
  refine go ?_
  refine o_buildA rfl rfl ?_
  refine go ?_
  refine c_loopE (fun m X o G => ∃ i : Nat, m = 2 - i ∧ X = [(2, .int .i64 c), (3, .int .i64 d), (15, .agg [.int .i64 a, .int .i64 b].toArray), (16, .int .i64 (i : Nat))] ∧ own = o ∧ F = G ∧ i ≤ 2) ⟨_, _, _, _, ⟨0, rfl, rfl, rfl, rfl, by omega⟩, ⟨rfl, rfl, rfl, rfl, trivial⟩, rfl, rfl⟩ ?_
  rintro _ _ _ _ b1 ⟨i, rfl, rfl, rfl, rfl, hi⟩
  rcases (show i = 0 ∨ i = 1 ∨ i = 2 by omega) with rfl | rfl | rfl
  · refine go ?_
    refine o_ixa 0 rfl rfl rfl (by decide) rfl ?_
    refine go ?_
    exact ⟨_, _, _, _, ⟨1, rfl, rfl, rfl, rfl, by omega⟩, ⟨rfl, rfl, rfl, rfl, trivial⟩, rfl, rfl, rfl, by omega⟩
  · refine go ?_
    refine o_ixa 1 rfl rfl rfl (by decide) rfl ?_
    refine go ?_
    exact ⟨_, _, _, _, ⟨2, rfl, rfl, rfl, rfl, by omega⟩, ⟨rfl, rfl, rfl, rfl, trivial⟩, rfl, rfl, rfl, by omega⟩
  · refine go ?_
    refine o_buildA rfl rfl ?_
    refine go ?_
    refine c_loopE (fun m X o G => ∃ i : Nat, m = 2 - i ∧ X = [(28, .agg [.int .i64 c, .int .i64 d].toArray), (29, .int .i64 (i : Nat))] ∧ own = o ∧ F = G ∧ i ≤ 2) ⟨_, _, _, _, ⟨0, rfl, rfl, rfl, rfl, by omega⟩, ⟨rfl, rfl, trivial⟩, rfl, rfl⟩ ?_
    rintro _ _ _ _ b1 ⟨i, rfl, rfl, rfl, rfl, hi⟩
    rcases (show i = 0 ∨ i = 1 ∨ i = 2 by omega) with rfl | rfl | rfl
    · refine go ?_
      refine o_ixa 0 rfl rfl rfl (by decide) rfl ?_
      refine go ?_
      exact ⟨_, _, _, _, ⟨1, rfl, rfl, rfl, rfl, by omega⟩, ⟨rfl, rfl, trivial⟩, rfl, rfl, rfl, by omega⟩
    · refine go ?_
      refine o_ixa 1 rfl rfl rfl (by decide) rfl ?_
      refine go ?_
      exact ⟨_, _, _, _, ⟨2, rfl, rfl, rfl, rfl, by omega⟩, ⟨rfl, rfl, trivial⟩, rfl, rfl, rfl, by omega⟩
    · refine go ?_
      exact b_ret rfl (.cons (.tmp rfl) .nil) (Turn.refl _ _) ⟨rfl, rfl, rfl⟩⟩
instance up104 (n k : Nat) : ScF 104 [.int .i64 (n : Nat), .int .i64 (k : Nat)] (.int .i64 ((n + k - 1) / k : Nat)) (n ≤ 4096 ∧ 1 ≤ k ∧ k ≤ 8) := ⟨fun ⟨h1, h2, h3⟩ F own => by
  refine n_fun Tryz.func104 Tryz.ntmps104 rfl rfl rfl ?_
  refine go ?_
  exact b_ret rfl (.cons (.tmp rfl) .nil) (Turn.refl _ _) ⟨rfl, rfl, rfl⟩⟩
theorem up_lt {n k : Nat} (hn : 2 ≤ n) (hk : 2 ≤ k) : (n + k - 1) / k < n := by
  rw [Nat.div_lt_iff_lt_mul (by omega)]
  obtain ⟨a, rfl⟩ : ∃ a, n = a + 2 := ⟨n - 2, by omega⟩
  obtain ⟨b, rfl⟩ : ∃ b, k = b + 2 := ⟨k - 2, by omega⟩
  have : (a + 2) * (b + 2) = a * b + 2 * a + 2 * b + 4 := by grind
  omega
theorem up_le {n k : Nat} (hk : 1 ≤ k) (hn : n ≤ 4096) : (n + k - 1) / k ≤ 4096 := by
  have : (n + k - 1) / k ≤ n := by
    rcases Nat.eq_zero_or_pos n with h | h
    · subst h
      rw [Nat.zero_add, Nat.div_eq_of_lt (by omega)]; omega
    · rw [Nat.div_le_iff_le_mul_add_pred (by omega)]
      have := Nat.mul_le_mul h (Nat.le_refl k)
      have h2 : n * k = k * n := Nat.mul_comm _ _
      obtain ⟨a, rfl⟩ : ∃ a, n = a + 1 := ⟨n - 1, by omega⟩
      have : k * (a + 1) = k * a + k := by rw [Nat.mul_add, Nat.mul_one]
      have := Nat.mul_le_mul_right a hk
      omega
  omega
instance block64 (n k : Nat) : ScF 64 [.int .i64 (n : Nat), .int .i64 (n : Nat), .int .i64 (k : Nat), .int .i64 (k : Nat)] (.tuple #[.int .i64 ((n + k - 1) / k : Nat), .int .i64 0]) (n ≤ 4096 ∧ 1 ≤ k ∧ k ≤ 8) := ⟨fun ⟨h1, h2, h3⟩ F own => by
  refine n_fun Tryz.func64 Tryz.ntmps64 rfl rfl rfl ?_
  refine go ?_
  refine o_max rfl rfl ?_
  refine o_val (.int .i64 ((n + k - 1) / k : Nat)) (congrArg (Value.int .i64) (Int.max_self _)) ?_
  refine go ?_
  exact b_ret rfl (.cons (.tmp rfl) (.cons (.tmp rfl) .nil)) (Turn.refl _ _) ⟨rfl, rfl, rfl⟩⟩
instance enters63 (n k : Nat) : ScF 63 [.int .i64 (n : Nat), .int .i64 (n : Nat), .int .i64 (k : Nat), .int .i64 (k : Nat), .int .i64 1] (.tuple #[.bool (decide (1 < n)), .int .i64 0]) (n ≤ 4096 ∧ 2 ≤ k ∧ k ≤ 8) := ⟨fun ⟨h1, h2, h3⟩ F own => by
  have hul : 1 < n → ((n + k - 1) / k : Nat) < n := fun h => up_lt h h2
  refine n_fun Tryz.func63 Tryz.ntmps63 rfl rfl rfl ?_
  by_cases h : 1 < n
  · have hlt := hul h
    clear hul
    refine go ?_
    refine o_min rfl rfl ?_
    refine o_val (.int .i64 (n : Nat)) (congrArg (Value.int .i64) (Int.min_self _)) ?_
    refine go ?_
    refine o_max rfl rfl ?_
    refine go ?_
    refine o_max rfl rfl ?_
    refine o_val (.int .i64 (n : Nat)) (congrArg (Value.int .i64) (Int.max_self _)) ?_
    refine go ?_
    exact b_ret rfl (.cons (.tmp rfl) (.cons (.tmp rfl) .nil)) (Turn.refl _ _) ⟨rfl, rfl, by simp [h, tupV]; exact_mod_cast hlt⟩
  · clear hul
    refine go ?_
    refine o_min rfl rfl ?_
    refine o_val (.int .i64 (n : Nat)) (congrArg (Value.int .i64) (Int.min_self _)) ?_
    refine go ?_
    refine o_max rfl rfl ?_
    refine go ?_
    exact b_ret rfl (.cons (.tmp rfl) (.cons (.tmp rfl) .nil)) (Turn.refl _ _) ⟨rfl, rfl, by simp [h, tupV]⟩⟩
theorem enters33 {F : Fz} {A : Addr} {n k : Nat} (h0 : F ((A.add 0).add 0) (.int .i64 (k : Nat))) (h1 : F ((A.add 0).add 1) (.int .i64 (k : Nat))) (hn : n ≤ 4096) (k2 : 2 ≤ k) (k8 : k ≤ 8) : Ps 33 [.pointer (some A), .int .i64 (n : Nat), .int .i64 (n : Nat), .int .i64 1] F fun u => u = .tuple #[.int .i64 ((n + k - 1) / k : Nat), .bool (decide (1 < n))] := fun own => by
  refine n_fun Tryz.func33 Tryz.ntmps33 rfl rfl rfl ?_
  refine goT ?_
  refine c_drww [] sl rfl (by decide +kernel) ?_
  refine goT ?_
  refine c_drww [] sl rfl (by decide +kernel) ?_
  refine go ?_
  exact b_ret rfl (.cons (.tmp rfl) (.cons (.tmp rfl) .nil)) (Turn.refl _ _) ⟨rfl, rfl, rfl⟩
instance lengths19 (n : Nat) : ScF 19 [.int .i64 (n : Nat), .int .i64 (n : Nat)] (.bool (decide (n ≤ 2048))) True := ⟨fun _ F own => by
  refine n_fun Tryz.func19 Tryz.ntmps19 rfl rfl rfl ?_
  by_cases h : n ≤ 2048
  all_goals
    refine go ?_
    exact b_ret rfl (.cons (.tmp rfl) .nil) (Turn.refl _ _) ⟨rfl, rfl, by simp [h, tupV] <;> omega⟩⟩
end Go.Proofs.YthkoodpnepfijaaGreatDoor
/- PH: THE LAW, PLAINLY: finite sums, the product of two rows, what a level of the machine comes to. -/
namespace Go.Proofs.YthkoodpnepfijaaGreatDoor
set_option linter.unusedVariables false

def sm : Nat → (Nat → Int) → Int
  | 0, _ => 0
  | n + 1, f => sm n f + f n
theorem sm_congr {f g : Nat → Int} : ∀ {n : Nat}, (∀ i, i < n → f i = g i) → sm n f = sm n g
  | 0, _ => rfl
  | n + 1, h => by simp only [sm]; rw [sm_congr (n := n) fun i hi => h i (by omega), h n (by omega)]
theorem sm_zero : ∀ n : Nat, sm n (fun _ => 0) = 0
  | 0 => rfl
  | n + 1 => by simp only [sm, sm_zero n]; omega
theorem sm_add (f g : Nat → Int) : ∀ n : Nat, sm n (fun i => f i + g i) = sm n f + sm n g
  | 0 => rfl
  | n + 1 => by simp only [sm, sm_add f g n]; omega
theorem sm_mul (c : Int) (f : Nat → Int) : ∀ n : Nat, sm n (fun i => c * f i) = c * sm n f
  | 0 => by simp [sm]
  | n + 1 => by simp only [sm, sm_mul c f n]; grind
theorem sm_mulr (c : Int) (f : Nat → Int) (n : Nat) : sm n (fun i => f i * c) = sm n f * c := by
  rw [Int.mul_comm, ← sm_mul]; exact sm_congr fun i _ => Int.mul_comm _ _
theorem sm_swap (f : Nat → Nat → Int) (m : Nat) : ∀ n : Nat, sm n (fun i => sm m fun j => f i j) = sm m fun j => sm n fun i => f i j
  | 0 => (sm_zero m).symm
  | n + 1 => by simp only [sm]; rw [sm_swap f m n, sm_add]
theorem sm_one {k : Nat} {c : Int} : ∀ {n : Nat}, sm n (fun t => if k = t then c else 0) = if k < n then c else 0
  | 0 => rfl
  | n + 1 => by
    simp only [sm, sm_one (n := n)]
    by_cases h : k < n
    · have h2 : k ≠ n := by omega
      have h3 : k < n + 1 := by omega
      simp [h, h2, h3]
    · by_cases h2 : k = n
      · subst h2; simp
      · have h3 : ¬ k < n + 1 := by omega
        simp [h, h2, h3]
theorem sm_app (f : Nat → Int) (n : Nat) : ∀ m : Nat, sm (n + m) f = sm n f + sm m fun i => f (n + i)
  | 0 => by simp [sm]
  | m + 1 => by rw [← Nat.add_assoc]; simp only [sm]; rw [sm_app f n m]; omega
theorem sm_split (m : Nat) (f : Nat → Int) : ∀ K : Nat, sm (K * m) f = sm K fun r => sm m fun s => f (r * m + s)
  | 0 => by rw [Nat.zero_mul]; rfl
  | K + 1 => by rw [Nat.add_mul, Nat.one_mul, sm_app, sm_split m f K]; rfl
/-- A sum over places, each place's sum gathered from pairs. -/
theorem sm_fib (φ : Nat → Nat → Nat) (x : Nat → Nat → Int) (w : Nat → Int) (T n m : Nat) : sm T (fun t => (sm n fun i => sm m fun k => if φ i k = t then x i k else 0) * w t) = sm n fun i => sm m fun k => if φ i k < T then x i k * w (φ i k) else 0 := by
  have h1 : ∀ t, ((sm n fun i => sm m fun k => if φ i k = t then x i k else 0) * w t) = sm n fun i => sm m fun k => if φ i k = t then x i k * w (φ i k) else 0 := fun t => by
    rw [← sm_mulr]
    refine sm_congr fun i _ => ?_
    rw [← sm_mulr]
    refine sm_congr fun k _ => ?_
    by_cases h : φ i k = t
    · rw [if_pos h, if_pos h, h]
    · rw [if_neg h, if_neg h, Int.zero_mul]
  rw [sm_congr fun t _ => h1 t, sm_swap]
  refine sm_congr fun i _ => ?_
  rw [sm_swap]
  refine sm_congr fun k _ => ?_
  exact sm_one
theorem sm_le {f : Nat → Int} {M : Nat} : ∀ {n : Nat}, (∀ i, i < n → (f i).natAbs ≤ M) → (sm n f).natAbs ≤ n * M
  | 0, _ => by simp [sm]
  | n + 1, h => by
    have h1 := sm_le (n := n) fun i hi => h i (by omega)
    have h2 := h n (by omega)
    have h3 := Int.natAbs_add_le (sm n f) (f n)
    simp only [sm, Nat.add_mul, Nat.one_mul]
    omega
/-- A coefficient of a product. -/
def cvF (n m : Nat) (a b : Nat → Int) (q : Nat) : Int := sm n fun i => sm m fun k => if i + k = q then a i * b k else 0
theorem cvF_congr {n m : Nat} {a a' b b' : Nat → Int} {q : Nat} (ha : ∀ i, i < n → a i = a' i) (hb : ∀ k, k < m → b k = b' k) : cvF n m a b q = cvF n m a' b' q :=
  sm_congr fun i hi => sm_congr fun k hk => by rw [ha i hi, hb k hk]
theorem cvF_le {n m k : Nat} {a b : Nat → Int} {q : Nat} (ha : ∀ i, i < n → (a i).natAbs ≤ k) (hb : ∀ i, i < m → (b i).natAbs ≤ k) : (cvF n m a b q).natAbs ≤ n * (m * (k * k)) :=
  sm_le fun i hi => sm_le fun j hj => by
    split
    · rw [Int.natAbs_mul]; exact Nat.mul_le_mul (ha i hi) (hb j hj)
    · simp
/-- Nought above the top. -/
theorem cvF_high {n m : Nat} {a b : Nat → Int} {q : Nat} (h : n + m ≤ q + 1) : cvF n m a b q = 0 := by
  unfold cvF
  rw [sm_congr (g := fun _ => 0) fun i hi => ?_]
  · exact sm_zero n
  · rw [sm_congr (g := fun _ => 0) fun k hk => ?_]
    · exact sm_zero m
    · rw [if_neg (by omega)]
theorem V_sm (c : Nat → Int) (A B : Int) : ∀ e : Nat, V c e A B = sm (e + 1) fun j => c j * (A ^ j * B ^ (e - j))
  | 0 => by simp [V, sm]
  | e + 1 => by
    have h : sm (e + 1) (fun j => c j * (A ^ j * B ^ (e + 1 - j))) = B * sm (e + 1) fun j => c j * (A ^ j * B ^ (e - j)) := by
      rw [← sm_mul]
      refine sm_congr fun j hj => ?_
      rw [show e + 1 - j = e - j + 1 by omega, Int.pow_succ]
      grind
    rw [sm, h, ← V_sm c A B e]
    simp [V]
/-- Values multiply as their polynomials do. -/
theorem V_mul (c d : Nat → Int) (e f : Nat) (A B : Int) : V c e A B * V d f A B = V (cvF (e + 1) (f + 1) c d) (e + f) A B := by
  rw [V_sm, V_sm, V_sm]
  unfold cvF
  rw [sm_fib (fun i k => i + k) (fun i k => c i * d k) (fun t => A ^ t * B ^ (e + f - t)), ← sm_mulr]
  refine sm_congr fun i hi => ?_
  rw [← sm_mul]
  refine sm_congr fun k hk => ?_
  rw [if_pos (by omega), show e + f - (i + k) = (e - i) + (f - k) by omega, Int.pow_add, Int.pow_add]
  grind
theorem V_sum (A B : Int) (e : Nat) (c : Nat → Nat → Int) : ∀ n : Nat, sm n (fun s => V (c s) e A B) = V (fun t => sm n fun s => c s t) e A B
  | 0 => by
    simp only [sm]
    rw [V_sm, sm_congr (g := fun _ => 0) fun j _ => by rw [Int.zero_mul], sm_zero]
  | n + 1 => by
    simp only [sm]
    rw [V_sum A B e c n]
    have := V_lin (fun t => sm n fun s => c s t) (c n) 1 1 A B e
    simp only [Int.one_mul] at this
    exact this.symm
theorem V_nought (A B : Int) (e : Nat) : V (fun _ => 0) e A B = 0 := by
  have := V_sum A B e (fun _ _ => 0) 0
  simp only [sm] at this
  exact this.symm

/-- What the points' products are the values of: the coefficients at the place u of each block. -/
def blkF (K m : Nat) (a b : Nat → Int) (u t : Nat) : Int := sm m fun s => sm m fun s' => if s + s' = u then cvF K K (fun r => a (r * m + s)) (fun r => b (r * m + s')) t else 0
theorem blk_val {K m : Nat} (a b : Nat → Int) (u : Nat) (A B : Int) (hK : 1 ≤ K) : cvF m m (fun s => V (fun r => a (r * m + s)) (K - 1) A B) (fun s => V (fun r => b (r * m + s)) (K - 1) A B) u = V (blkF K m a b u) (2 * K - 2) A B := by
  have e1 : (fun t => blkF K m a b u t) = blkF K m a b u := rfl
  rw [← e1]
  unfold cvF blkF
  rw [← V_sum]
  refine sm_congr fun s _ => ?_
  rw [← V_sum]
  refine sm_congr fun s' _ => ?_
  split
  · rw [V_mul, show K - 1 + 1 = K by omega, show K - 1 + (K - 1) = 2 * K - 2 by omega]
  · exact (V_nought A B _).symm
theorem blk_high {K m : Nat} {a b : Nat → Int} {u t : Nat} (h : 2 * K ≤ t + 1) : blkF K m a b u t = 0 := by
  unfold blkF
  rw [sm_congr (g := fun _ => 0) fun i hi => ?_]
  · exact sm_zero m
  · rw [sm_congr (g := fun _ => 0) fun k hk => ?_]
    · exact sm_zero m
    · rw [cvF_high (by omega)]; simp
/-- **Blocks laid m apart are the product.** -/
theorem blk_join {K m : Nat} (a b : Nat → Int) (q : Nat) (hK : 1 ≤ K) (hm : 1 ≤ m) : (sm (2 * K - 1) fun t => sm (2 * m - 1) fun u => if t * m + u = q then blkF K m a b u t else 0) = cvF (K * m) (K * m) a b q := by
  have h1 : ∀ t, (sm (2 * m - 1) fun u => if t * m + u = q then blkF K m a b u t else 0) = sm m fun s => sm m fun s' => cvF K K (fun r => a (r * m + s)) (fun r => b (r * m + s')) t * (if t * m + (s + s') = q then 1 else 0) := fun t => by
    have e : (sm (2 * m - 1) fun u => if t * m + u = q then blkF K m a b u t else 0) = sm (2 * m - 1) fun u => blkF K m a b u t * (if t * m + u = q then 1 else 0) := sm_congr fun u _ => by
      split <;> simp
    rw [e]
    unfold blkF
    rw [sm_fib (fun s s' => s + s') (fun s s' => cvF K K (fun r => a (r * m + s)) (fun r => b (r * m + s')) t) (fun u => if t * m + u = q then 1 else 0)]
    exact sm_congr fun s hs => sm_congr fun s' hs' => by rw [if_pos (by omega)]
  rw [sm_congr fun t _ => h1 t, sm_swap]
  have h2 : ∀ s, s < m → (sm (2 * K - 1) fun t => sm m fun s' => cvF K K (fun r => a (r * m + s)) (fun r => b (r * m + s')) t * (if t * m + (s + s') = q then 1 else 0)) = sm m fun s' => sm K fun r => sm K fun r' => a (r * m + s) * b (r' * m + s') * (if (r + r') * m + (s + s') = q then 1 else 0) := fun s _ => by
    rw [sm_swap]
    refine sm_congr fun s' _ => ?_
    unfold cvF
    rw [sm_fib (fun r r' => r + r') (fun r r' => a (r * m + s) * b (r' * m + s')) (fun t => if t * m + (s + s') = q then 1 else 0)]
    exact sm_congr fun r hr => sm_congr fun r' hr' => by rw [if_pos (by omega)]
  rw [sm_congr h2]
  unfold cvF
  rw [sm_split]
  have h3 : ∀ r, (sm m fun s => sm (K * m) fun k => if r * m + s + k = q then a (r * m + s) * b k else 0) = sm m fun s => sm m fun s' => sm K fun r' => a (r * m + s) * b (r' * m + s') * (if (r + r') * m + (s + s') = q then 1 else 0) := fun r => by
    refine sm_congr fun s _ => ?_
    rw [sm_split, sm_swap]
    refine sm_congr fun s' _ => sm_congr fun r' _ => ?_
    have : r * m + s + (r' * m + s') = (r + r') * m + (s + s') := by rw [Nat.add_mul]; omega
    rw [this]
    split <;> simp
  symm
  rw [sm_congr fun r _ => h3 r, sm_swap]
  refine sm_congr fun s _ => ?_
  rw [sm_swap]
/-- The product of two rows. -/
def conv (a b : List Int) : List Int := (List.range (a.length + b.length - 1)).map fun q => cvF a.length b.length (fun i => a.getD i 0) (fun i => b.getD i 0) q
theorem conv_len (a b : List Int) : (conv a b).length = a.length + b.length - 1 := by simp [conv]
end Go.Proofs.YthkoodpnepfijaaGreatDoor
/- PI: THE LAW, PLAINLY: the rows of a level. -/
namespace Go.Proofs.YthkoodpnepfijaaGreatDoor
set_option linter.unusedVariables false

theorem getDr {n : Nat} (g : Nat → Int) {i : Nat} (h : i < n) : ((List.range n).map g).getD i 0 = g i := by
  simp [List.getD_eq_getElem?_getD, h]
theorem getDr0 {n : Nat} (g : Nat → Int) {i : Nat} (h : n ≤ i) : ((List.range n).map g).getD i 0 = 0 := by
  simp [List.getD_eq_getElem?_getD, h]
def colL (K m : Nat) (a : List Int) (s : Nat) : List Int := (List.range K).map fun r => a.getD (r * m + s) 0
def partL (m : Nat) (a : List Int) (r : Nat) : List Int := (List.range m).map fun s => a.getD (r * m + s) 0
def valL (K m : Nat) (a : List Int) (p : Pnt) : List Int := (List.range m).map fun s => V (fun r => a.getD (r * m + s) 0) (K - 1) p.A p.B
theorem valL_len (K m : Nat) (a : List Int) (p : Pnt) : (valL K m a p).length = m := by simp [valL]
theorem colL_len (K m : Nat) (a : List Int) (s : Nat) : (colL K m a s).length = K := by simp [colL]
theorem vals_get {c : Nat → Int} {e : Nat} {l : List Pnt} {j : Nat} (h : j < l.length) : (vals c e l).getD j 0 = V c e (l.getD j ⟨0, 0⟩).A (l.getD j ⟨0, 0⟩).B := by
  unfold vals
  simp [List.getD_eq_getElem?_getD, h]
theorem col_val {K m s j : Nat} {a : List Int} {l : List Pnt} (hK : 1 ≤ K) (hs : s < m) (hj : j < l.length) : (vals (fun r => (colL K m a s).getD r 0) (K - 1) l).getD j 0 = (valL K m a (l.getD j ⟨0, 0⟩)).getD s 0 := by
  rw [vals_get hj]
  unfold valL
  rw [getDr _ hs]
  exact V_congr fun r hr => by unfold colL; rw [getDr (fun r => a.getD (r * m + s) 0) (by omega)]
theorem col_row {K m j : Nat} {a : List Int} {l : List Pnt} (hK : 1 ≤ K) (hj : j < l.length) : ((List.range m).map fun s => (vals (fun r => (colL K m a s).getD r 0) (K - 1) l).getD j 0) = valL K m a (l.getD j ⟨0, 0⟩) := by
  have : valL K m a (l.getD j ⟨0, 0⟩) = (List.range m).map fun s => (valL K m a (l.getD j ⟨0, 0⟩)).getD s 0 := by
    refine List.ext_getElem (by simp [valL]) fun i h1 h2 => ?_
    simp [valL] at h1
    simp [List.getD_eq_getElem?_getD, valL, h1]
  rw [this]
  exact List.map_congr_left fun s hs => col_val hK (List.mem_range.1 hs) hj
theorem conv_get {a b : List Int} {u : Nat} (h : u < a.length + b.length - 1) : (conv a b).getD u 0 = cvF a.length b.length (fun i => a.getD i 0) (fun i => b.getD i 0) u := by
  unfold conv
  rw [getDr _ h]
/-- The products at the points. -/
def prodL (K m : Nat) (a b : List Int) (p : Pnt) : List Int := conv (valL K m a p) (valL K m b p)
theorem prodL_len (K m : Nat) (a b : List Int) (p : Pnt) : (prodL K m a b p).length = m + m - 1 := by unfold prodL; rw [conv_len, valL_len, valL_len]
abbrev fnL (a : List Int) : Nat → Int := fun i => a.getD i 0
theorem prod_get {K m u : Nat} {a b : List Int} {p : Pnt} (hK : 1 ≤ K) (hu : u < m + m - 1) : (prodL K m a b p).getD u 0 = V (blkF K m (fnL a) (fnL b) u) (2 * K - 2) p.A p.B := by
  unfold prodL
  rw [conv_get (by rw [valL_len, valL_len]; exact hu), valL_len, valL_len, ← blk_val _ _ _ _ _ hK]
  exact cvF_congr (fun i hi => by unfold valL; rw [getDr _ hi]) (fun i hi => by unfold valL; rw [getDr _ hi])
theorem prod_col {K m u : Nat} {a b : List Int} {l : List Pnt} (hK : 1 ≤ K) (hl : l.length = 2 * K - 1) (hu : u < m + m - 1) : ((List.range l.length).map fun j => (prodL K m a b (l.getD j ⟨0, 0⟩)).getD u 0) = vals (blkF K m (fnL a) (fnL b) u) (l.length - 1) l := by
  refine List.ext_getElem (by simp [vals]) fun j h1 h2 => ?_
  have hj : j < l.length := by simpa using h1
  have h3 := vals_get (c := blkF K m (fnL a) (fnL b) u) (e := l.length - 1) hj
  rw [List.getD_eq_getElem?_getD, List.getElem?_eq_getElem h2] at h3
  simp only [Option.getD_some] at h3
  rw [h3]
  simp only [List.getElem_map, List.getElem_range]
  rw [prod_get hK hu, hl, show 2 * K - 1 - 1 = 2 * K - 2 by omega]
/-- The blocks that come back. -/
def blkL (K m : Nat) (a b : List Int) (t : Nat) : List Int := (List.range (m + m - 1)).map fun u => blkF K m (fnL a) (fnL b) u t
theorem join_conv {K m : Nat} {a b : List Int} (hK : 1 ≤ K) (hm : 1 ≤ m) (ha : a.length = K * m) (hb : b.length = K * m) : ((List.range (K * m + K * m - 1)).map fun q => sm (2 * K - 1) fun t => sm (m + m - 1) fun u => if t * m + u = q then (blkL K m a b t).getD u 0 else 0) = conv a b := by
  unfold conv
  rw [ha, hb]
  refine List.map_congr_left fun q _ => ?_
  rw [← blk_join _ _ _ hK hm, show 2 * m - 1 = m + m - 1 by omega]
  refine sm_congr fun t _ => sm_congr fun u hu => ?_
  unfold blkL
  rw [getDr _ hu]
theorem V_le {c : Nat → Int} {M : Nat} {A B : Int} {e : Nat} (hc : ∀ j, j ≤ e → (c j).natAbs ≤ M) (hA : A.natAbs ≤ 16) (hB : B.natAbs ≤ 16) : (V c e A B).natAbs ≤ (e + 1) * (M * 16 ^ e) := by
  rw [V_sm]
  refine sm_le fun j hj => ?_
  rw [Int.natAbs_mul, Int.natAbs_mul, Int.natAbs_pow, Int.natAbs_pow]
  refine Nat.mul_le_mul (hc j (by omega)) ?_
  have h1 : A.natAbs ^ j ≤ 16 ^ j := Nat.pow_le_pow_left hA j
  have h2 : B.natAbs ^ (e - j) ≤ 16 ^ (e - j) := Nat.pow_le_pow_left hB (e - j)
  have h3 := Nat.mul_le_mul h1 h2
  rwa [← Nat.pow_add, show j + (e - j) = e by omega] at h3
/-- Every number of a row has at most k bits (as a function). -/
def BdF (k : Nat) (a : List Int) : Prop := ∀ z ∈ a, z.natAbs < 2 ^ k
theorem BdF.get {k : Nat} {a : List Int} (h : BdF k a) (i : Nat) : (a.getD i 0).natAbs ≤ 2 ^ k := by
  rw [List.getD_eq_getElem?_getD]
  by_cases hi : i < a.length
  · rw [List.getElem?_eq_getElem hi]
    exact Nat.le_of_lt (h _ (List.getElem_mem hi))
  · rw [List.getElem?_eq_none (by omega)]; simp
theorem BdF.mono {k k' : Nat} {a : List Int} (h : BdF k a) (hk : k ≤ k') : BdF k' a := fun z hz => Nat.lt_of_lt_of_le (h z hz) (Nat.pow_le_pow_right (by decide) hk)
theorem valL_bd {K m k : Nat} {a : List Int} {p : Pnt} (ha : BdF k a) (hK : K ≤ 8) (hA : p.A.natAbs ≤ 16) (hB : p.B.natAbs ≤ 16) : BdF (k + 32) (valL K m a p) := fun z hz => by
  obtain ⟨s, hs, rfl⟩ := List.mem_map.1 hz
  have h1 := V_le (c := fun r => a.getD (r * m + s) 0) (e := K - 1) (M := 2 ^ k) (A := p.A) (B := p.B) (fun j _ => ha.get _) hA hB
  have h2 : (16 : Nat) ^ (K - 1) ≤ 16 ^ 7 := Nat.pow_le_pow_right (by decide) (by omega)
  have h3 : (K - 1 + 1) * (2 ^ k * 16 ^ (K - 1)) ≤ 8 * (2 ^ k * 16 ^ 7) := Nat.mul_le_mul (by omega) (Nat.mul_le_mul (Nat.le_refl _) h2)
  have h4 : 8 * (2 ^ k * 16 ^ 7) < 2 ^ (k + 32) := by
    rw [Nat.pow_add]
    have : 0 < 2 ^ k := Nat.pow_pos (by decide)
    have e : (2 : Nat) ^ 32 = 2 * (8 * 16 ^ 7) := by decide
    rw [e]
    have : 8 * (2 ^ k * 16 ^ 7) = 2 ^ k * (8 * 16 ^ 7) := by grind
    rw [this]
    exact (Nat.mul_lt_mul_left (by omega)).2 (by decide)
  omega
theorem conv_bd {k : Nat} {a b : List Int} (ha : BdF k a) (hb : BdF k b) (hl : a.length ≤ 4096) (hl2 : b.length ≤ 4096) : BdF (2 * k + 25) (conv a b) := fun z hz => by
  obtain ⟨q, hq, rfl⟩ := List.mem_map.1 hz
  have h1 := cvF_le (n := a.length) (m := b.length) (k := 2 ^ k) (q := q) (a := fun i => a.getD i 0) (b := fun i => b.getD i 0) (fun i _ => ha.get i) (fun i _ => hb.get i)
  have h3 : a.length * (b.length * (2 ^ k * 2 ^ k)) ≤ 4096 * (4096 * (2 ^ k * 2 ^ k)) := Nat.mul_le_mul hl (Nat.mul_le_mul hl2 (Nat.le_refl _))
  have h4 : 4096 * (4096 * (2 ^ k * 2 ^ k)) < 2 ^ (2 * k + 25) := by
    rw [Nat.pow_add, show 2 * k = k + k by omega, Nat.pow_add]
    have h0 : 0 < 2 ^ k := Nat.pow_pos (by decide)
    have h5 : 0 < 2 ^ k * 2 ^ k := Nat.mul_pos h0 h0
    have e : (2 : Nat) ^ 25 = 2 * (4096 * 4096) := by decide
    rw [e]
    omega
  omega
theorem blkL_bd {K m k : Nat} {a b : List Int} {t : Nat} (ha : BdF k a) (hb : BdF k b) (hK : K ≤ 8) (hm : m ≤ 4096) : BdF (2 * k + 31) (blkL K m a b t) := fun z hz => by
  obtain ⟨u, hu, rfl⟩ := List.mem_map.1 hz
  have h1 : (blkF K m (fnL a) (fnL b) u t).natAbs ≤ m * (m * (K * (K * (2 ^ k * 2 ^ k)))) := sm_le fun s _ => sm_le fun s' _ => by
    split
    · exact cvF_le (fun i _ => ha.get _) (fun i _ => hb.get _)
    · simp
  have h2 : m * (m * (K * (K * (2 ^ k * 2 ^ k)))) ≤ 4096 * (4096 * (8 * (8 * (2 ^ k * 2 ^ k)))) := Nat.mul_le_mul hm (Nat.mul_le_mul hm (Nat.mul_le_mul hK (Nat.mul_le_mul hK (Nat.le_refl _))))
  have h4 : 4096 * (4096 * (8 * (8 * (2 ^ k * 2 ^ k)))) < 2 ^ (2 * k + 31) := by
    rw [Nat.pow_add, show 2 * k = k + k by omega, Nat.pow_add]
    have h0 : 0 < 2 ^ k := Nat.pow_pos (by decide)
    have h5 : 0 < 2 ^ k * 2 ^ k := Nat.mul_pos h0 h0
    have e : (2 : Nat) ^ 31 = 2 * (4096 * (4096 * (8 * 8))) := by decide
    rw [e]
    omega
  omega
end Go.Proofs.YthkoodpnepfijaaGreatDoor

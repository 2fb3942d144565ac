/-
  Steps towards TopCounts (no conditions of their own): WALKS: order: Rounds, All. WALKS: rows of whole numbers: each, both. WALKS: limbs: Add.
-/
import Derived.Test.YthkoodpnepfijaaGreatDoorM08
import Derived.Test.YthkoodpnepfijaaGreatDoorM27
/- XY: WALKS: order: Rounds, All. -/
namespace Go.Proofs.YthkoodpnepfijaaGreatDoor
open Go.RowKit
set_option linter.unusedVariables false
set_option linter.unusedSimpArgs false
set_option maxRecDepth 100000
set_option maxHeartbeats 1000000
instance : ZrT 128 [.string ⟨#[]⟩, .nilFunc] := ⟨by kernel_rfl⟩
/-- What a pass makes of a program. -/
abbrev PassR (F : Fz) (p : Prg) (u : Value) (F' : Fz) : Prop := ∃ q cv' ov', u = .tuple #[vPr q cv' ov', .int .i64 0] ∧ PrR F' cv' ov' q ∧ Sim p q
theorem dead53s {F : Fz} {p : Prg} {cv ov : Value} (hP : PrR F cv ov p) (hok : p.ok) : Pu 53 [vPr p cv ov] F fun u F' => PassR F p u F' := fun own =>
  (dead53 hP hok own).mono fun v o F' ⟨e, h1, cv', ov', h2, h3⟩ => ⟨e, h1, _, cv', ov', h2, h3, dead_sim hok⟩
theorem rounds29 {F : Fz} {p : Prg} {A1 A2 : Option Addr} {c1 c2 m1 m2 : Nat} : Pu 29 [vPr p (.slice A1 m1 c1) (.slice A2 m2 c2)] F fun u F' => ∃ A, u = .func (.func 50) #[] #[.pointer (some A)] ∧ Cs F' A [.int .i64 p.ins, .int .i64 p.regs, .slice A1 m1 c1, .slice A2 m2 c2] := fun own => by
  refine n_fun Tryz.func29 Tryz.ntmps29 rfl rfl rfl ?_
  refine go ?_
  intro r
  refine go ?_
  refine b_ret rfl (.cons (.tmp rfl) .nil) Turn.ice ⟨rfl, Fz.add_le _ _, ⟨r, 0, none⟩, rfl, fun i v hi => .inr ?_⟩
  have : Of ((⟨r, 0, none⟩ : Addr).add i) r (0 + i) := inferInstance
  rw [at_c this, Nat.zero_add]
  exact hi
/-- What is given: a name, a program that does the same. -/
def RdT (p : Prg) (s : Option Prg) (vs : List Value) (s' : Option Prg) (F : Fz) : Prop := ∃ bs q A c B d, vs = [.string bs, vPr q (.slice A q.code.length c) (.slice B q.outs.length d)] ∧ PrR F (.slice A q.code.length c) (.slice B q.outs.length d) q ∧ Sim p q ∧ s' = some q
def RdE (p : Prg) (s : Option Prg) : Prop := ∃ q, s = some q ∧ Sim p q
theorem PrR.sl {F : Fz} {cv ov : Value} {q : Prg} (h : PrR F cv ov q) : ∃ A c B d, cv = .slice A q.code.length c ∧ ov = .slice B q.outs.length d ∧ PrR F (.slice A q.code.length c) (.slice B q.outs.length d) q := by
  obtain ⟨A, c, e1⟩ := h.code.dest
  obtain ⟨B, d, e2⟩ := h.outs.dest
  subst e1 e2
  exact ⟨A, c, B, d, rfl, rfl, h⟩
theorem rounds50 {F : Fz} {p : Prg} {A : Addr} {A1 A2 : Option Addr} {c1 c2 : Nat} (hGl : Gl F) (hA : Cs F A [.int .i64 p.ins, .int .i64 p.regs, .slice A1 p.code.length c1, .slice A2 p.outs.length c2]) (hP : PrR F (.slice A1 p.code.length c1) (.slice A2 p.outs.length c2) p) (hok : p.ok) : IterG 50 [.pointer (some A)] (RdT p) (RdE p) none F := fun L J hM hJ own G hj hF => by
  have hA1 : Cs G A [.int .i64 p.ins, .int .i64 p.regs, .slice A1 p.code.length c1, .slice A2 p.outs.length c2] := fun i v h => hF _ _ (hA i v h)
  refine n_fun Tryz.func50 Tryz.ntmps50 rfl rfl rfl ?_
  refine go ?_
  refine o_pu rfl (check28 (hP.le hF) hok) (fun v G1 hG1 e => ?_) sl
  subst e
  have hA2 : Cs G1 A [.int .i64 p.ins, .int .i64 p.regs, .slice A1 p.code.length c1, .slice A2 p.outs.length c2] := fun i v h => hG1 _ _ (hA1 i v h)
  refine go ?_
  refine o_pu rfl (copy31 ((hP.le hF).le hG1) (by have := hok.len; omega) (by have := hok.outn; omega)) (fun v G2 hG2 ⟨cv0, ov0, e, hP2⟩ => ?_) sl
  obtain ⟨Ac, cc, Ao, co, e1, e2, hP2⟩ := hP2.sl
  subst e1 e2 e
  refine go ?_
  intro r5
  refine go ?_
  refine o_lit rfl rfl rfl rfl rfl (fun rp => ?_)
  refine go ?_
  have h02 := (hF.trans hG1).trans hG2
  refine c_loopT (fun m X o G' => ∃ (i : Nat) (q : Prg) (Ac Ao : Option Addr) (cc co : Nat) (s : Option Prg) (o' : List Ch), m = 16 - i ∧ X = [(0, .func (.yield L) #[] #[]), (5, .pointer (some ⟨r5, 0, none⟩)), (6, .slice (some ⟨rp, 0, none⟩) 3 3), (23, .int .i64 (i : Nat))] ∧ .c r5 [.int .i64 q.ins, .int .i64 q.regs, .slice Ac q.code.length cc, .slice Ao q.outs.length co] :: .c rp [.string ⟨#[102, 111, 108, 100]⟩, .func (.func 51) #[] #[], .string ⟨#[115, 104, 97, 114, 101]⟩, .func (.func 52) #[] #[], .string ⟨#[100, 101, 97, 100]⟩, .func (.func 53) #[] #[]] :: o' = o ∧ J s o' G' ∧ Fle G2 G' ∧ PrR G' (.slice Ac q.code.length cc) (.slice Ao q.outs.length co) q ∧ Sim p q ∧ i ≤ 16)
    ⟨_, _, _, G2, ⟨0, p, Ac, Ao, cc, co, none, own, rfl, rfl, rfl, hM _ _ _ _ hj (hG1.trans hG2), Fle.refl _, hP2, Sim.refl hok, by omega⟩, ⟨rfl, rfl, rfl, rfl, trivial⟩, Turn.perm (.swap ..)⟩ ?_
  rintro _ _ _ G3 b ⟨i, q, Ac, Ao, cc, co, s, o', rfl, rfl, rfl, hj, h23, hPq, hSq, hi⟩
  by_cases hil : i < 16
  · refine go ?_
    intro r7
    refine go ?_
    have hP7 := hPq
    refine c_loopT (fun m X o G' => ∃ (k : Nat) (q2 : Prg) (Bc Bo : Option Addr) (dc d_o : Nat) (s : Option Prg) (o' : List Ch), m = 3 - k ∧ X = [(0, .func (.yield L) #[] #[]), (5, .pointer (some ⟨r5, 0, none⟩)), (6, .slice (some ⟨rp, 0, none⟩) 3 3), (7, .pointer (some ⟨r7, 0, none⟩)), (23, .int .i64 (i : Nat)), (26, .slice (some ⟨rp, 0, none⟩) 3 3), (27, .int .i64 3), (28, .int .i64 (k : Nat))] ∧ .c r5 [.int .i64 q2.ins, .int .i64 q2.regs, .slice Bc q2.code.length dc, .slice Bo q2.outs.length d_o] :: .c r7 [.int .i64 q.ins, .int .i64 q.regs, .slice Ac q.code.length cc, .slice Ao q.outs.length co] :: .c rp [.string ⟨#[102, 111, 108, 100]⟩, .func (.func 51) #[] #[], .string ⟨#[115, 104, 97, 114, 101]⟩, .func (.func 52) #[] #[], .string ⟨#[100, 101, 97, 100]⟩, .func (.func 53) #[] #[]] :: o' = o ∧ J s o' G' ∧ Fle G3 G' ∧ PrR G' (.slice Bc q2.code.length dc) (.slice Bo q2.outs.length d_o) q2 ∧ Sim p q2 ∧ k ≤ 3)
      ⟨_, _, _, G3, ⟨0, q, Ac, Ao, cc, co, s, o', rfl, rfl, rfl, hj, Fle.refl _, hPq, hSq, by omega⟩, ⟨rfl, rfl, rfl, rfl, rfl, rfl, rfl, rfl, trivial⟩, Turn.perm (.swap ..)⟩ ?_
    rintro _ _ _ G4 b ⟨k, q2, Bc, Bo, dc, d_o, s2, o2, rfl, rfl, rfl, hj2, h34, hPq2, hSq2, hk⟩
    have hGl4 := hGl.le ((h02.trans h23).trans h34)
    by_cases hk3 : k = 3
    · subst hk3
      have hcl := hSq.ok.len
      have hol := hSq.ok.outn
      refine go ?_
      refine o_ps rfl (same54 (hPq.le h34) hPq2 (by omega) (by omega)) (fun u e => ?_) sl
      subst e
      by_cases hqq : q = q2
      · rw [decide_eq_true hqq]
        refine go ?_
        refine o_pu rfl (pack55 hPq2 hSq2.ok) (fun v G5 hG5 ⟨q3, cv3, ov3, e, hP3, hS3⟩ => ?_) sl
        obtain ⟨A3, c3, B3, d3, e1, e2, hP3⟩ := hP3.sl
        subst e1 e2 e
        refine go ?_
        have hy := hJ _ [.string ⟨#[112, 97, 99, 107]⟩, vPr q3 (.slice A3 q3.code.length c3) (.slice B3 q3.outs.length d3)] (some q3) [.c r5 [.int .i64 q3.ins, .int .i64 q3.regs, .slice A3 q3.code.length c3, .slice B3 q3.outs.length d3], .c r7 [.int .i64 q.ins, .int .i64 q.regs, .slice Ac q.code.length cc, .slice Ao q.outs.length co], .c rp [.string ⟨#[102, 111, 108, 100]⟩, .func (.func 51) #[] #[], .string ⟨#[115, 104, 97, 114, 101]⟩, .func (.func 52) #[] #[], .string ⟨#[100, 101, 97, 100]⟩, .func (.func 53) #[] #[]]] o2 G5 ⟨_, q3, A3, c3, B3, d3, rfl, hP3, hSq2.trans hS3, rfl⟩ (hM _ _ _ _ hj2 hG5) (((h02.trans h23).trans h34).trans hG5)
        refine o_perm (List.perm_append_comm (l₁ := ([.c r5 [.int .i64 q3.ins, .int .i64 q3.regs, .slice A3 q3.code.length c3, .slice B3 q3.outs.length d3], .c r7 [.int .i64 q.ins, .int .i64 q.regs, .slice Ac q.code.length cc, .slice Ao q.outs.length co], .c rp [.string ⟨#[102, 111, 108, 100]⟩, .func (.func 51) #[] #[], .string ⟨#[115, 104, 97, 114, 101]⟩, .func (.func 52) #[] #[], .string ⟨#[100, 101, 97, 100]⟩, .func (.func 53) #[] #[]]] : List Ch)) (l₂ := o2)) ?_
        refine o_yield rfl rfl hy (fun own' F' ⟨o3, e, h1, h2⟩ => ⟨_, .text, ?_⟩) (List.Sublist.refl _)
        subst e
        refine go ?_
        exact b_norm rfl .nil (Turn.sub (List.sublist_append_left _ _)) ⟨⟨some q3, ⟨q3, rfl, hSq2.trans hS3⟩, h1⟩, (((hG1.trans hG2).trans h23).trans h34).trans (hG5.trans h2)⟩
      · rw [decide_eq_false hqq]
        refine go ?_
        exact ⟨_, _, _, G4, ⟨i + 1, q2, Bc, Bo, dc, d_o, s2, o2, rfl, rfl, rfl, hj2, h23.trans h34, hPq2, hSq2, by omega⟩, ⟨rfl, rfl, rfl, eqI (by omega), trivial⟩, Turn.of sl (Fle.refl _), rfl, by omega⟩
    by_cases hk0 : k = 0
    · subst hk0
      refine go ?_
      refine o_loada (vs := [.string ⟨#[102, 111, 108, 100]⟩, .func (.func 51) #[] #[]]) rfl rfl (rdsC 2 rfl (fun i v hi => by
        rcases i with _ | _ | i
        · exact hi
        · exact hi
        · simp at hi)) ?_
      refine go ?_
      intro r9
      refine go ?_
      refine o_callv (us := []) (ws := []) (vs := [vPr q2 (.slice Bc q2.code.length dc) (.slice Bo q2.outs.length d_o)]) (rfl : _ = some (Value.func (.func 51) #[] #[])) rfl rfl (fold51 hGl4 hPq2 hSq2.ok _) (fun v o5 G5 ⟨e1, hG5, q3, cv3, ov3, e, hP3, hS3⟩ => ⟨_, .text, ?_⟩) (List.Sublist.refl _)
      subst e1
      obtain ⟨A3, c3, B3, d3, e1, e2, hP3⟩ := hP3.sl
      subst e1 e2 e
      refine goT ?_
      have hS3' := hSq2.trans hS3
      have hcl := hS3'.ok.len
      have hol := hS3'.ok.outn
      refine c_drww [.c r9 [.string ⟨#[102, 111, 108, 100]⟩, .func (.func 51) #[] #[]], .c r5 [.int .i64 q3.ins, .int .i64 q3.regs, .slice A3 q3.code.length c3, .slice B3 q3.outs.length d3]] sl rfl (by decide +kernel) ?_
      refine go ?_
      refine o_pu rfl (copy31 hP3 (by omega) (by omega)) (fun v G6 hG6 ⟨cv6, ov6, e, hP6⟩ => ?_) sl
      obtain ⟨A6, c6, B6, d6, e1, e2, hP6⟩ := hP6.sl
      subst e1 e2 e
      refine go ?_
      have hy := hJ _ [.string ⟨#[102, 111, 108, 100]⟩, vPr q3 (.slice A6 q3.code.length c6) (.slice B6 q3.outs.length d6)] (some q3) ([.c r9 [.string ⟨#[102, 111, 108, 100]⟩, .func (.func 51) #[] #[]], .c r5 [.int .i64 q3.ins, .int .i64 q3.regs, .slice A3 q3.code.length c3, .slice B3 q3.outs.length d3], .c r7 [.int .i64 q.ins, .int .i64 q.regs, .slice Ac q.code.length cc, .slice Ao q.outs.length co], .c rp [.string ⟨#[102, 111, 108, 100]⟩, .func (.func 51) #[] #[], .string ⟨#[115, 104, 97, 114, 101]⟩, .func (.func 52) #[] #[], .string ⟨#[100, 101, 97, 100]⟩, .func (.func 53) #[] #[]]] : List Ch) o2 G6 ⟨_, q3, A6, c6, B6, d6, rfl, hP6, hS3', rfl⟩ (hM _ _ _ _ hj2 (hG5.trans hG6)) ((((h02.trans h23).trans h34).trans hG5).trans hG6)
      refine o_permW (List.perm_append_comm (l₁ := ([.c r9 [.string ⟨#[102, 111, 108, 100]⟩, .func (.func 51) #[] #[]], .c r5 [.int .i64 q3.ins, .int .i64 q3.regs, .slice A3 q3.code.length c3, .slice B3 q3.outs.length d3], .c r7 [.int .i64 q.ins, .int .i64 q.regs, .slice Ac q.code.length cc, .slice Ao q.outs.length co], .c rp [.string ⟨#[102, 111, 108, 100]⟩, .func (.func 51) #[] #[], .string ⟨#[115, 104, 97, 114, 101]⟩, .func (.func 52) #[] #[], .string ⟨#[100, 101, 97, 100]⟩, .func (.func 53) #[] #[]]] : List Ch)) (l₂ := o2)) sl ?_
      refine o_yield rfl rfl hy (fun own' F' ⟨o3, e, h1, h2⟩ => ⟨[.c r9 [.string ⟨#[102, 111, 108, 100]⟩, .func (.func 51) #[] #[]], .c r5 [.int .i64 q3.ins, .int .i64 q3.regs, .slice A3 q3.code.length c3, .slice B3 q3.outs.length d3]], .keep (by rw [e]; exact List.sublist_append_of_sublist_right (.cons_cons _ (.cons_cons _ (List.nil_sublist _)))) h2, ?_⟩) (List.sublist_append_of_sublist_right (.cons_cons _ (.cons_cons _ (List.nil_sublist _))))
      subst e
      refine o_permW (List.perm_append_comm (l₁ := o3) (l₂ := ([.c r9 [.string ⟨#[102, 111, 108, 100]⟩, .func (.func 51) #[] #[]], .c r5 [.int .i64 q3.ins, .int .i64 q3.regs, .slice A3 q3.code.length c3, .slice B3 q3.outs.length d3], .c r7 [.int .i64 q.ins, .int .i64 q.regs, .slice Ac q.code.length cc, .slice Ao q.outs.length co], .c rp [.string ⟨#[102, 111, 108, 100]⟩, .func (.func 51) #[] #[], .string ⟨#[115, 104, 97, 114, 101]⟩, .func (.func 52) #[] #[], .string ⟨#[100, 101, 97, 100]⟩, .func (.func 53) #[] #[]]] : List Ch))) (List.sublist_append_of_sublist_right (.cons_cons _ (.cons_cons _ (List.nil_sublist _)))) ?_
      refine go ?_
      refine ⟨_, _, _, F', ⟨1, q3, A3, B3, c3, d3, some q3, o3, rfl, rfl, rfl, h1, ((h34.trans hG5).trans hG6).trans h2, hP3.le (hG6.trans h2), hS3', by omega⟩, ⟨rfl, rfl, rfl, rfl, rfl, rfl, rfl, rfl, trivial⟩, Turn.of sl (Fle.refl _), rfl, by omega⟩
    by_cases hk1 : k = 1
    · subst hk1
      refine go ?_
      refine o_loada (vs := [.string ⟨#[115, 104, 97, 114, 101]⟩, .func (.func 52) #[] #[]]) rfl rfl (rdsC 2 rfl (fun i v hi => by
        rcases i with _ | _ | i
        · exact hi
        · exact hi
        · simp at hi)) ?_
      refine go ?_
      intro r9
      refine go ?_
      refine o_callv (us := []) (ws := []) (vs := [vPr q2 (.slice Bc q2.code.length dc) (.slice Bo q2.outs.length d_o)]) (rfl : _ = some (Value.func (.func 52) #[] #[])) rfl rfl (share52 hPq2 hSq2.ok _) (fun v o5 G5 ⟨e1, hG5, q3, cv3, ov3, e, hP3, hS3⟩ => ⟨_, .text, ?_⟩) (List.Sublist.refl _)
      subst e1
      obtain ⟨A3, c3, B3, d3, e1, e2, hP3⟩ := hP3.sl
      subst e1 e2 e
      refine goT ?_
      have hS3' := hSq2.trans hS3
      have hcl := hS3'.ok.len
      have hol := hS3'.ok.outn
      refine c_drww [.c r9 [.string ⟨#[115, 104, 97, 114, 101]⟩, .func (.func 52) #[] #[]], .c r5 [.int .i64 q3.ins, .int .i64 q3.regs, .slice A3 q3.code.length c3, .slice B3 q3.outs.length d3]] sl rfl (by decide +kernel) ?_
      refine go ?_
      refine o_pu rfl (copy31 hP3 (by omega) (by omega)) (fun v G6 hG6 ⟨cv6, ov6, e, hP6⟩ => ?_) sl
      obtain ⟨A6, c6, B6, d6, e1, e2, hP6⟩ := hP6.sl
      subst e1 e2 e
      refine go ?_
      have hy := hJ _ [.string ⟨#[115, 104, 97, 114, 101]⟩, vPr q3 (.slice A6 q3.code.length c6) (.slice B6 q3.outs.length d6)] (some q3) ([.c r9 [.string ⟨#[115, 104, 97, 114, 101]⟩, .func (.func 52) #[] #[]], .c r5 [.int .i64 q3.ins, .int .i64 q3.regs, .slice A3 q3.code.length c3, .slice B3 q3.outs.length d3], .c r7 [.int .i64 q.ins, .int .i64 q.regs, .slice Ac q.code.length cc, .slice Ao q.outs.length co], .c rp [.string ⟨#[102, 111, 108, 100]⟩, .func (.func 51) #[] #[], .string ⟨#[115, 104, 97, 114, 101]⟩, .func (.func 52) #[] #[], .string ⟨#[100, 101, 97, 100]⟩, .func (.func 53) #[] #[]]] : List Ch) o2 G6 ⟨_, q3, A6, c6, B6, d6, rfl, hP6, hS3', rfl⟩ (hM _ _ _ _ hj2 (hG5.trans hG6)) ((((h02.trans h23).trans h34).trans hG5).trans hG6)
      refine o_permW (List.perm_append_comm (l₁ := ([.c r9 [.string ⟨#[115, 104, 97, 114, 101]⟩, .func (.func 52) #[] #[]], .c r5 [.int .i64 q3.ins, .int .i64 q3.regs, .slice A3 q3.code.length c3, .slice B3 q3.outs.length d3], .c r7 [.int .i64 q.ins, .int .i64 q.regs, .slice Ac q.code.length cc, .slice Ao q.outs.length co], .c rp [.string ⟨#[102, 111, 108, 100]⟩, .func (.func 51) #[] #[], .string ⟨#[115, 104, 97, 114, 101]⟩, .func (.func 52) #[] #[], .string ⟨#[100, 101, 97, 100]⟩, .func (.func 53) #[] #[]]] : List Ch)) (l₂ := o2)) sl ?_
      refine o_yield rfl rfl hy (fun own' F' ⟨o3, e, h1, h2⟩ => ⟨[.c r9 [.string ⟨#[115, 104, 97, 114, 101]⟩, .func (.func 52) #[] #[]], .c r5 [.int .i64 q3.ins, .int .i64 q3.regs, .slice A3 q3.code.length c3, .slice B3 q3.outs.length d3]], .keep (by rw [e]; exact List.sublist_append_of_sublist_right (.cons_cons _ (.cons_cons _ (List.nil_sublist _)))) h2, ?_⟩) (List.sublist_append_of_sublist_right (.cons_cons _ (.cons_cons _ (List.nil_sublist _))))
      subst e
      refine o_permW (List.perm_append_comm (l₁ := o3) (l₂ := ([.c r9 [.string ⟨#[115, 104, 97, 114, 101]⟩, .func (.func 52) #[] #[]], .c r5 [.int .i64 q3.ins, .int .i64 q3.regs, .slice A3 q3.code.length c3, .slice B3 q3.outs.length d3], .c r7 [.int .i64 q.ins, .int .i64 q.regs, .slice Ac q.code.length cc, .slice Ao q.outs.length co], .c rp [.string ⟨#[102, 111, 108, 100]⟩, .func (.func 51) #[] #[], .string ⟨#[115, 104, 97, 114, 101]⟩, .func (.func 52) #[] #[], .string ⟨#[100, 101, 97, 100]⟩, .func (.func 53) #[] #[]]] : List Ch))) (List.sublist_append_of_sublist_right (.cons_cons _ (.cons_cons _ (List.nil_sublist _)))) ?_
      refine go ?_
      refine ⟨_, _, _, F', ⟨2, q3, A3, B3, c3, d3, some q3, o3, rfl, rfl, rfl, h1, ((h34.trans hG5).trans hG6).trans h2, hP3.le (hG6.trans h2), hS3', by omega⟩, ⟨rfl, rfl, rfl, rfl, rfl, rfl, rfl, rfl, trivial⟩, Turn.of sl (Fle.refl _), rfl, by omega⟩
    by_cases hk2 : k = 2
    · subst hk2
      refine go ?_
      refine o_loada (vs := [.string ⟨#[100, 101, 97, 100]⟩, .func (.func 53) #[] #[]]) rfl rfl (rdsC 2 rfl (fun i v hi => by
        rcases i with _ | _ | i
        · exact hi
        · exact hi
        · simp at hi)) ?_
      refine go ?_
      intro r9
      refine go ?_
      refine o_callv (us := []) (ws := []) (vs := [vPr q2 (.slice Bc q2.code.length dc) (.slice Bo q2.outs.length d_o)]) (rfl : _ = some (Value.func (.func 53) #[] #[])) rfl rfl (dead53s hPq2 hSq2.ok _) (fun v o5 G5 ⟨e1, hG5, q3, cv3, ov3, e, hP3, hS3⟩ => ⟨_, .text, ?_⟩) (List.Sublist.refl _)
      subst e1
      obtain ⟨A3, c3, B3, d3, e1, e2, hP3⟩ := hP3.sl
      subst e1 e2 e
      refine goT ?_
      have hS3' := hSq2.trans hS3
      have hcl := hS3'.ok.len
      have hol := hS3'.ok.outn
      refine c_drww [.c r9 [.string ⟨#[100, 101, 97, 100]⟩, .func (.func 53) #[] #[]], .c r5 [.int .i64 q3.ins, .int .i64 q3.regs, .slice A3 q3.code.length c3, .slice B3 q3.outs.length d3]] sl rfl (by decide +kernel) ?_
      refine go ?_
      refine o_pu rfl (copy31 hP3 (by omega) (by omega)) (fun v G6 hG6 ⟨cv6, ov6, e, hP6⟩ => ?_) sl
      obtain ⟨A6, c6, B6, d6, e1, e2, hP6⟩ := hP6.sl
      subst e1 e2 e
      refine go ?_
      have hy := hJ _ [.string ⟨#[100, 101, 97, 100]⟩, vPr q3 (.slice A6 q3.code.length c6) (.slice B6 q3.outs.length d6)] (some q3) ([.c r9 [.string ⟨#[100, 101, 97, 100]⟩, .func (.func 53) #[] #[]], .c r5 [.int .i64 q3.ins, .int .i64 q3.regs, .slice A3 q3.code.length c3, .slice B3 q3.outs.length d3], .c r7 [.int .i64 q.ins, .int .i64 q.regs, .slice Ac q.code.length cc, .slice Ao q.outs.length co], .c rp [.string ⟨#[102, 111, 108, 100]⟩, .func (.func 51) #[] #[], .string ⟨#[115, 104, 97, 114, 101]⟩, .func (.func 52) #[] #[], .string ⟨#[100, 101, 97, 100]⟩, .func (.func 53) #[] #[]]] : List Ch) o2 G6 ⟨_, q3, A6, c6, B6, d6, rfl, hP6, hS3', rfl⟩ (hM _ _ _ _ hj2 (hG5.trans hG6)) ((((h02.trans h23).trans h34).trans hG5).trans hG6)
      refine o_permW (List.perm_append_comm (l₁ := ([.c r9 [.string ⟨#[100, 101, 97, 100]⟩, .func (.func 53) #[] #[]], .c r5 [.int .i64 q3.ins, .int .i64 q3.regs, .slice A3 q3.code.length c3, .slice B3 q3.outs.length d3], .c r7 [.int .i64 q.ins, .int .i64 q.regs, .slice Ac q.code.length cc, .slice Ao q.outs.length co], .c rp [.string ⟨#[102, 111, 108, 100]⟩, .func (.func 51) #[] #[], .string ⟨#[115, 104, 97, 114, 101]⟩, .func (.func 52) #[] #[], .string ⟨#[100, 101, 97, 100]⟩, .func (.func 53) #[] #[]]] : List Ch)) (l₂ := o2)) sl ?_
      refine o_yield rfl rfl hy (fun own' F' ⟨o3, e, h1, h2⟩ => ⟨[.c r9 [.string ⟨#[100, 101, 97, 100]⟩, .func (.func 53) #[] #[]], .c r5 [.int .i64 q3.ins, .int .i64 q3.regs, .slice A3 q3.code.length c3, .slice B3 q3.outs.length d3]], .keep (by rw [e]; exact List.sublist_append_of_sublist_right (.cons_cons _ (.cons_cons _ (List.nil_sublist _)))) h2, ?_⟩) (List.sublist_append_of_sublist_right (.cons_cons _ (.cons_cons _ (List.nil_sublist _))))
      subst e
      refine o_permW (List.perm_append_comm (l₁ := o3) (l₂ := ([.c r9 [.string ⟨#[100, 101, 97, 100]⟩, .func (.func 53) #[] #[]], .c r5 [.int .i64 q3.ins, .int .i64 q3.regs, .slice A3 q3.code.length c3, .slice B3 q3.outs.length d3], .c r7 [.int .i64 q.ins, .int .i64 q.regs, .slice Ac q.code.length cc, .slice Ao q.outs.length co], .c rp [.string ⟨#[102, 111, 108, 100]⟩, .func (.func 51) #[] #[], .string ⟨#[115, 104, 97, 114, 101]⟩, .func (.func 52) #[] #[], .string ⟨#[100, 101, 97, 100]⟩, .func (.func 53) #[] #[]]] : List Ch))) (List.sublist_append_of_sublist_right (.cons_cons _ (.cons_cons _ (List.nil_sublist _)))) ?_
      refine go ?_
      refine ⟨_, _, _, F', ⟨3, q3, A3, B3, c3, d3, some q3, o3, rfl, rfl, rfl, h1, ((h34.trans hG5).trans hG6).trans h2, hP3.le (hG6.trans h2), hS3', by omega⟩, ⟨rfl, rfl, rfl, rfl, rfl, rfl, rfl, rfl, trivial⟩, Turn.of sl (Fle.refl _), rfl, by omega⟩
    omega
  · obtain rfl : i = 16 := by omega
    refine go ?_
    refine o_pu rfl (pack55 hPq hSq.ok) (fun v G5 hG5 ⟨q3, cv3, ov3, e, hP3, hS3⟩ => ?_) sl
    obtain ⟨A3, c3, B3, d3, e1, e2, hP3⟩ := hP3.sl
    subst e1 e2 e
    refine go ?_
    have hy := hJ _ [.string ⟨#[112, 97, 99, 107]⟩, vPr q3 (.slice A3 q3.code.length c3) (.slice B3 q3.outs.length d3)] (some q3) [.c r5 [.int .i64 q3.ins, .int .i64 q3.regs, .slice A3 q3.code.length c3, .slice B3 q3.outs.length d3], .c rp [.string ⟨#[102, 111, 108, 100]⟩, .func (.func 51) #[] #[], .string ⟨#[115, 104, 97, 114, 101]⟩, .func (.func 52) #[] #[], .string ⟨#[100, 101, 97, 100]⟩, .func (.func 53) #[] #[]]] o' G5 ⟨_, q3, A3, c3, B3, d3, rfl, hP3, hSq.trans hS3, rfl⟩ (hM _ _ _ _ hj hG5) ((h02.trans h23).trans hG5)
    refine o_perm (List.perm_append_comm (l₁ := ([.c r5 [.int .i64 q3.ins, .int .i64 q3.regs, .slice A3 q3.code.length c3, .slice B3 q3.outs.length d3], .c rp [.string ⟨#[102, 111, 108, 100]⟩, .func (.func 51) #[] #[], .string ⟨#[115, 104, 97, 114, 101]⟩, .func (.func 52) #[] #[], .string ⟨#[100, 101, 97, 100]⟩, .func (.func 53) #[] #[]]] : List Ch)) (l₂ := o')) ?_
    refine o_yield rfl rfl hy (fun own' F' ⟨o3, e, h1, h2⟩ => ⟨_, .text, ?_⟩) (List.Sublist.refl _)
    subst e
    refine go ?_
    exact b_norm rfl .nil (Turn.sub (List.sublist_append_left _ _)) ⟨⟨some q3, ⟨q3, rfl, hSq.trans hS3⟩, h1⟩, ((hG1.trans hG2).trans h23).trans (hG5.trans h2)⟩
def AllR (F : Fz) (own : List Ch) (r6 : Nat) (base : List Ch) : Option Prg → List Ch → Fz → Prop
  | none, o, G => o = .c r6 [.int .i64 0, .int .i64 0, .slice none 0 0, .slice none 0 0] :: base ∧ Fle F G
  | some q, o, G => ∃ A c B d, o = .c r6 [.int .i64 q.ins, .int .i64 q.regs, .slice A q.code.length c, .slice B q.outs.length d] :: base ∧ PrR G (.slice A q.code.length c) (.slice B q.outs.length d) q ∧ Fle F G
theorem all16 {F : Fz} (hGl : Gl F) {p : Prg} {cv ov : Value} (hP : PrR F cv ov p) (hok : p.ok) : Pu 16 [vPr p cv ov] F fun u F' => PassR F p u F' := fun own => by
  obtain ⟨A1, c1, A2, c2, e1, e2, hP⟩ := hP.sl
  subst e1 e2
  refine n_funD Tryz.func16 Tryz.ntmps16 rfl rfl rfl ?_
  refine go ?_
  intro r1 r2
  refine go ?_
  refine o_pu rfl (check28 hP hok) (fun v G1 hG1 e => ?_) sl
  subst e
  refine go ?_
  intro r6
  refine go ?_
  refine o_pu rfl (rounds29 (p := p) (A1 := A1) (A2 := A2) (c1 := c1) (c2 := c2) (m1 := p.code.length) (m2 := p.outs.length)) (fun v G2 hG2 ⟨A, e, hA⟩ => ?_) sl
  subst e
  refine go ?_
  have hIt := rounds50 ((hGl.le hG1).le hG2) hA ((hP.le hG1).le hG2) hok
  refine c_rangeG (ps := [20, 21]) (capt := [.pointer (some A)])
    (fun vs r => (8, .pointer (some ⟨r, 0, none⟩)) :: (21, (vs.tail).headD undef) :: [(6, .pointer (some ⟨r6, 0, none⟩)), (2, .pointer (some ⟨r2, 0, none⟩))])
    (fun vs r => [.c r (match (vs.tail).headD undef with | .agg us => us.toList | _ => [])])
    (AllR G2 own r6 (.c r2 [.int .i64 0, .int .i64 0, .slice none 0 0, .slice none 0 0] :: .c r1 [.int .i64 p.ins, .int .i64 p.regs, .slice A1 p.code.length c1, .slice A2 p.outs.length c2] :: own))
    (fun i o G G' h hl => by
      cases i with
      | none => exact ⟨h.1, h.2.trans hl⟩
      | some q => obtain ⟨A, c, B, d, h1, h2, h3⟩ := h; exact ⟨A, c, B, d, h1, h2.le hl, h3.trans hl⟩)
    rfl hIt (fun s vs s' F ⟨bs, q, A, c, B, d, e, _⟩ => by rw [e]; rfl) ⟨rfl, Fle.refl _⟩ ?_ ?_ ?_
  · rintro s vs s' G ⟨bs, q, A', c', B', d', rfl, hq, hSq, rfl⟩ l o G'
    refine c_fr [(21, vPr q (.slice A' q.code.length c') (.slice B' q.outs.length d')), (6, .pointer (some ⟨r6, 0, none⟩)), (2, .pointer (some ⟨r2, 0, none⟩))] ⟨rfl, rfl, rfl, trivial⟩ fun b => ?_
    refine go ?_
    intro r8
    refine go ?_
    exact ⟨rfl, _, r8, rfl⟩
  · rintro s vs s2 l b r8 o G' tail ⟨bs, q, A', c', B', d', rfl, hq, hSq, rfl⟩ hj hG'
    cases s with
    | none =>
      obtain ⟨rfl, hF'⟩ := hj
      refine go ?_
      exact ⟨rfl, _, _, Turn.drop, ⟨A', c', B', d', rfl, hq, hF'⟩, Fle.refl _⟩
    | some q0 =>
      obtain ⟨A0, c0, B0, d0, rfl, hq0, hF'⟩ := hj
      refine go ?_
      exact ⟨rfl, _, _, Turn.drop, ⟨A', c', B', d', rfl, hq, hF'⟩, Fle.refl _⟩
  · rintro D o G' s ⟨q, rfl, hSq⟩ ⟨A', c', B', d', rfl, hq, hF'⟩ hG'
    refine norm_Inb (norm_Thn ?_)
    refine go ?_
    exact ⟨D, _, rfl, rfl, _, own, _, .cons (.cella rfl rfl (rdsW 1 rfl)) (.cons (.tmp rfl) .nil), Turn.of sl (Fle.refl _), rfl, (hG1.trans hG2).trans hF', _, _, _, rfl, hq, hSq⟩
end Go.Proofs.YthkoodpnepfijaaGreatDoor
/- Y1: WALKS: rows of whole numbers: each, both. -/
namespace Go.Proofs.YthkoodpnepfijaaGreatDoor
open Go.RowKit
set_option linter.unusedVariables false
set_option linter.unusedSimpArgs false
set_option maxRecDepth 100000
set_option maxHeartbeats 1000000
/-- A whole number's two cells. -/
structure IZ where
  neg : Bool
  A : Option Addr
  m : Nat
  c : Nat
def vIz (q : IZ) : List Value := [.bool q.neg, .slice q.A q.m q.c]
abbrev z0Z : IZ := ⟨false, none, 0, 0⟩
theorem IntR.iz {F : Fz} {u : Value} {z : Int} (h : IntR F u z) : ∃ q : IZ, u = .agg (vIz q).toArray ∧ IntR F (.agg (vIz q).toArray) z := by
  have h0 := h
  obtain ⟨neg, v, l, rfl, hv, _⟩ := h
  obtain ⟨A, c, rfl⟩ := hv.row.dest
  exact ⟨⟨neg, A, _, c⟩, rfl, h0⟩
def IzR (F : Fz) (qs : List IZ) (zs : List Int) : Prop := qs.length = zs.length ∧ ∀ i, i < zs.length → IntR F (.agg (vIz (qs.getD i z0Z)).toArray) (zs.getD i 0)
theorem IzR.le {F G : Fz} {qs : List IZ} {zs : List Int} (h : IzR F qs zs) (hl : Fle F G) : IzR G qs zs := ⟨h.1, fun i hi => (h.2 i hi).le hl⟩
theorem IzR.nil (F : Fz) : IzR F [] [] := ⟨rfl, fun i hi => absurd hi (by simp)⟩
theorem getD_snoc {α : Type} (l : List α) (x z : α) (i : Nat) : (l ++ [x]).getD i z = if i < l.length then l.getD i z else if i = l.length then x else z := by
  simp only [List.getD_eq_getElem?_getD]
  by_cases h : i < l.length
  · rw [if_pos h, List.getElem?_append_left h]
  · rw [if_neg h, List.getElem?_append_right (by omega)]
    by_cases h2 : i = l.length
    · subst h2; simp
    · rw [if_neg h2, List.getElem?_eq_none (by simp; omega)]; rfl
theorem IzR.snoc {F : Fz} {qs : List IZ} {zs : List Int} {q : IZ} {z : Int} (h : IzR F qs zs) (hq : IntR F (.agg (vIz q).toArray) z) : IzR F (qs ++ [q]) (zs ++ [z]) := by
  refine ⟨by simp [h.1], fun i hi => ?_⟩
  rw [getD_snoc, getD_snoc, h.1]
  by_cases h2 : i < zs.length
  · rw [if_pos h2, if_pos h2]; exact h.2 i h2
  · have : i = zs.length := by simp at hi; omega
    rw [if_neg h2, if_neg h2, if_pos this, if_pos this]; exact hq
/-- A row of whole numbers. -/
def RowI (F : Fz) (v : Value) (zs : List Int) : Prop := ∃ qs, RowS F v vIz 2 z0Z qs ∧ IzR F qs zs
theorem RowI.le {F G : Fz} {v : Value} {zs : List Int} (h : RowI F v zs) (hl : Fle F G) : RowI G v zs := by
  obtain ⟨qs, h1, h2⟩ := h
  exact ⟨qs, h1.le hl, h2.le hl⟩
theorem RowI.dest {F : Fz} {v : Value} {zs : List Int} (h : RowI F v zs) : ∃ A c, v = .slice A zs.length c := by
  obtain ⟨qs, h1, h2⟩ := h
  obtain ⟨A, c, e⟩ := h1.dest
  exact ⟨A, c, by rw [e, h2.1]⟩
abbrev zC (v : Value) (qs : List IZ) : Ch := .g v 70 2 qs.length (qs.flatMap vIz)
theorem zC_snoc (v : Value) (qs : List IZ) (q : IZ) : Ch.g v 70 2 (qs.length + 1) (qs.flatMap vIz ++ vIz q) = zC v (qs ++ [q]) := by
  unfold zC
  rw [List.length_append, List.flatMap_append]
  simp
theorem range_snoc (g : Nat → Int) (j : Nat) : (List.range (j + 1)).map g = (List.range j).map g ++ [g j] := by rw [List.range_succ, List.map_append]; rfl
theorem each195 {F : Fz} {v : Value} {zs : List Int} (g : Nat → Int) {f : FuncId} [hfn : Fn_ f] {us ws : List Value} (J : Nat → List Ch) (hr : RowI F v zs) (hl : zs.length ≤ 1000000)
    (hf : ∀ i, i < zs.length → ∀ (ex : List Ch) (F1 : Fz) (u : Value), Fle F F1 → IntR F1 u (zs.getD i 0) → N f (us ++ [u] ++ ws) (ex ++ J i) F1 fun v' o F' => o = ex ++ J (i + 1) ∧ Fle F1 F' ∧ IntR F' v' (g i)) :
    N 195 [v, .func (.func f) us.toArray ws.toArray] (J 0) F fun u o F' => o = J zs.length ∧ Fle F F' ∧ RowI F' u ((List.range zs.length).map g) := by
  obtain ⟨qs, hS, hZ⟩ := hr
  have hql := hZ.1
  rw [← hql] at hl ⊢
  obtain ⟨A, c, rfl⟩ := hS.dest
  refine n_fun Tryz.func195 Tryz.ntmps195 rfl rfl rfl ?_
  refine go ?_
  refine c_loopT (fun m X o G => ∃ (j : Nat) (cv : Value) (ps : List IZ), m = qs.length - j ∧ X = [(1, .func (.func f) us.toArray ws.toArray), (5, cv), (8, .slice A qs.length c), (9, .int .i64 (qs.length : Nat)), (10, .int .i64 (j : Nat))] ∧ zC cv ps :: J j = o ∧ Fle F G ∧ IzR G ps ((List.range j).map g) ∧ j ≤ qs.length)
    ⟨_, _, _, _, ⟨0, .slice none 0 0, [], rfl, rfl, rfl, Fle.refl _, IzR.nil _, by omega⟩, ⟨rfl, rfl, rfl, rfl, rfl, trivial⟩, Turn.nil 70 2⟩ ?_
  rintro _ _ _ G b ⟨j, cv, ps, rfl, rfl, rfl, hG, hps, hj⟩
  have hS' := RowS.le hS hG
  have hpl : ps.length = j := by rw [hps.1]; simp
  by_cases hjl : j < qs.length
  · have hz := (hZ.2 j (by omega)).le hG
    refine go ?_
    intro r7
    refine go ?_
    refine o_callv (us := us) (ws := ws) rfl rfl rfl (hf j (by omega) [.c r7 (vIz (qs.getD j z0Z)), zC cv ps] G _ hG hz) (fun v' o F' ⟨e1, hF', hv'⟩ => ⟨_, .text, ?_⟩) (List.Sublist.refl _)
    subst e1
    obtain ⟨q, rfl, hq⟩ := hv'.iz
    refine go ?_
    refine o_lit rfl rfl rfl rfl rfl (fun r3 => ?_)
    refine o_app1 1 rfl rfl rfl rfl rfl rfl rfl (by omega) (by omega) (fun _ => rfl) (fun A' c' => ?_)
    refine go ?_
    exact ⟨_, _, _, _, ⟨j + 1, .slice A' (ps.length + 1) c', ps ++ [q], rfl, rfl, rfl, hG.trans hF', by rw [range_snoc]; exact (hps.le hF').snoc hq, by omega⟩, ⟨rfl, rfl, rfl, rfl, eqI (by omega), trivial⟩, by rw [← zC_snoc]; exact Turn.drop, rfl, by omega⟩
  · obtain rfl : j = qs.length := by omega
    refine c_iceS (f := vIz) (l := ps) z0Z 0 rfl (fun _ => rfl) rfl (fun hcR => ?_)
    refine go ?_
    exact b_ret rfl (.cons (.tmp rfl) .nil) (Turn.refl _ _) ⟨rfl, hG.trans (Fz.add_le _ _), ps, hcR, hps.le (Fz.add_le _ _)⟩
theorem getD_map_range {n : Nat} (g : Nat → Int) {i : Nat} (h : i < n) : ((List.range n).map g).getD i 0 = g i := by
  simp [List.getD_eq_getElem?_getD, h]
theorem list_eqI {l1 l2 : List Int} (h : l1.length = l2.length) (h2 : ∀ i, i < l1.length → l1.getD i 0 = l2.getD i 0) : l1 = l2 := by
  refine List.ext_getElem h fun i h3 h4 => ?_
  have := h2 i h3
  simpa [List.getD_eq_getElem?_getD, h3, h4] using this
theorem neg160 {F : Fz} {v : Value} {zs : List Int} (hr : RowI F v zs) (hl : zs.length ≤ 1000000) : Pu 160 [v] F fun u F' => RowI F' u (zs.map fun z => -z) := fun own => by
  obtain ⟨A, c, e⟩ := hr.dest
  subst e
  refine n_fun Tryz.func160 Tryz.ntmps160 rfl rfl rfl ?_
  refine go ?_
  refine o_call rfl (each195 (us := []) (ws := []) (f := 171) (fun i => -(zs.getD i 0)) (fun _ => own) hr hl (fun i hi ex F1 u hF1 hu => (neg171 hu (ex ++ own)).mono fun v' o F' ⟨e, h1, h2⟩ => ⟨e, h1, h2⟩)) (fun u o F' ⟨e1, hF', hu⟩ => ⟨_, .text, ?_⟩) (List.Sublist.refl _)
  subst e1
  obtain ⟨A', c', e'⟩ := hu.dest
  subst e'
  refine go ?_
  refine b_ret rfl (.cons (.tmp rfl) .nil) (Turn.refl _ _) ⟨rfl, hF', ?_⟩
  have : (List.range zs.length).map (fun i => -(zs.getD i 0)) = zs.map fun z => -z := by
    refine list_eqI (by simp) fun i hi => ?_
    rw [getD_map_range _ (by simpa using hi)]
    have hi' : i < zs.length := by simpa using hi
    simp [List.getD_eq_getElem?_getD, hi']
  rw [← this]
  exact hu
end Go.Proofs.YthkoodpnepfijaaGreatDoor
/- W2: WALKS: limbs: Add. -/
namespace Go.Proofs.YthkoodpnepfijaaGreatDoor
open Go.RowKit
set_option linter.unusedVariables false
set_option maxRecDepth 100000
set_option maxHeartbeats 1000000
theorem add105 {v w : Value} {l k : List Nat} {F : Fz} (hr : Lr F v l) (hw : Lr F w k) (hl : l.length < 1099511627776) (hk : k.length < 1099511627776) :
    Pu 105 [v, w] F fun v' F' => ∃ l', Lr F' v' l' ∧ Trm l' ∧ num l' = num l + num k := fun own => by
  have hr1 := hr.row
  have hw1 := hw.row
  refine n_fun Tryz.func105 Tryz.ntmps105 rfl rfl rfl ?_
  refine go ?_
  refine c_joinE (fun X o G => ∃ x y l1 l2, X = [(0, x), (1, y)] ∧ own = o ∧ F = G ∧ Lr F x l1 ∧ Lr F y l2 ∧ l2.length ≤ l1.length ∧ l1.length < 1099511627776 ∧ num l1 + num l2 = num l + num k) ?_ ?_
  · by_cases h : l.length < k.length
    · refine go ?_
      exact ⟨_, _, _, ⟨w, v, k, l, rfl, rfl, rfl, hw, hr, by omega, hk, Nat.add_comm _ _⟩, ⟨rfl, rfl, trivial⟩, rfl, rfl, rfl⟩
    · refine go ?_
      exact ⟨_, _, _, ⟨v, w, l, k, rfl, rfl, rfl, hr, hw, by omega, hl, rfl⟩, ⟨rfl, rfl, trivial⟩, rfl, rfl, rfl⟩
  · clear hr hw hr1 hw1
    rintro _ _ _ b ⟨x, y, l1, l2, rfl, rfl, rfl, hx, hy, hle, hl1, hnum⟩
    have hx1 := hx.row
    have hy1 := hy.row
    refine go ?_
    refine o_make (l1.length + 1) rfl (by simp) (by omega) (by omega) (fun r => ?_)
    rw [rep_one]
    refine go ?_
    refine c_loopE (fun m X o G => ∃ (dn : List Nat) (c : Nat), m = l1.length - dn.length ∧ X = [(0, x), (1, y), (5, .slice (some ⟨r, 0, none⟩) (l1.length + 1) (l1.length + 1)), (6, .int .u64 (c : Nat)), (20, x), (21, .int .i64 (l1.length : Nat)), (22, .int .i64 (dn.length : Nat))] ∧ o = .c r (dn.map vu ++ List.replicate (l1.length + 1 - dn.length) (vu 0)) :: own ∧ F = G ∧
      dn.length ≤ l1.length ∧ Dig dn ∧ c ≤ 1 ∧ num dn + c * 4294967296 ^ dn.length = numF (fun i => l1.getD i 0) dn.length + numF (fun i => l2.getD i 0) dn.length) ?_ ?_
    · exact ⟨_, _, _, _, ⟨[], 0, rfl, rfl, rfl, rfl, by simp, fun i hi => by simp at hi, by omega, by simp [num, numF]⟩, ⟨rfl, rfl, rfl, rfl, rfl, rfl, rfl, trivial⟩, rfl, rfl⟩
    · rintro _ _ _ _ b ⟨dn, c, rfl, rfl, rfl, rfl, hdl, hdd, hc, hinv⟩
      have hd1 := hx.d dn.length
      have hd2 := hy.d dn.length
      have hpos := pow_pos' dn.length
      have fin : ∀ (d2 s : Nat), d2 = l2.getD dn.length 0 → s = c + l1.getD dn.length 0 + d2 → num (dn ++ [s % 4294967296]) + s / 4294967296 * 4294967296 ^ (dn.length + 1) = numF (fun i => l1.getD i 0) (dn.length + 1) + numF (fun i => l2.getD i 0) (dn.length + 1) := fun d2 s e1 e2 => by
        rw [num_snoc]
        show _ = (numF _ dn.length + l1.getD dn.length 0 * _) + (numF _ dn.length + l2.getD dn.length 0 * _)
        have h4 : s % 4294967296 * 4294967296 ^ dn.length + s / 4294967296 * 4294967296 ^ (dn.length + 1) = s * 4294967296 ^ dn.length := by
          rw [Nat.pow_succ, Nat.mul_comm (4294967296 ^ dn.length) 4294967296, ← Nat.mul_assoc, ← Nat.add_mul, Nat.mul_comm (s / _), Nat.mod_add_div]
        rw [← e1]
        have h5 : s * 4294967296 ^ dn.length = c * 4294967296 ^ dn.length + l1.getD dn.length 0 * 4294967296 ^ dn.length + d2 * 4294967296 ^ dn.length := by rw [e2, Nat.add_mul, Nat.add_mul]
        omega
      by_cases h1 : dn.length < l1.length
      · by_cases h2 : dn.length < l2.length
        · refine go ?_
          refine ⟨_, _, _, _, ⟨dn ++ [(c + l1.getD dn.length 0 + l2.getD dn.length 0) % 4294967296], (c + l1.getD dn.length 0 + l2.getD dn.length 0) / 4294967296, rfl, rfl, rfl, rfl, ?_, hdd.snoc (Nat.mod_lt _ (by decide)), by omega, ?_⟩, ⟨rfl, rfl, rfl, eqI (by simp), rfl, rfl, eqI (by simp), trivial⟩, own1 (fill_end (by omega) (vu_eq (by simp))), rfl, rfl, ?_⟩
          · simp; omega
          · rw [List.length_append, List.length_singleton]; exact fin _ _ rfl rfl
          · simp; omega
        · have h20 := getD_none h2
          refine go ?_
          refine ⟨_, _, _, _, ⟨dn ++ [(c + l1.getD dn.length 0) % 4294967296], (c + l1.getD dn.length 0) / 4294967296, rfl, rfl, rfl, rfl, ?_, hdd.snoc (Nat.mod_lt _ (by decide)), by omega, ?_⟩, ⟨rfl, rfl, rfl, eqI (by simp), rfl, rfl, eqI (by simp), trivial⟩, own1 (fill_end (by omega) (vu_eq (by simp))), rfl, rfl, ?_⟩
          · simp; omega
          · rw [List.length_append, List.length_singleton]; exact fin 0 _ h20.symm rfl
          · simp; omega
      · have hle : dn.length = l1.length := by omega
        refine go ?_
        have hd : Dig (dn ++ [c]) := hdd.snoc (by omega)
        have hL : ∀ G, Lr (Fz.add G (.c r ((dn ++ [c]).map vu))) (.slice (some ⟨r, 0, none⟩) (l1.length + 1) (l1.length + 1)) (dn ++ [c]) := fun G => by
          refine ⟨?_, hd⟩
          have := row_ice' (F := G) (r := r) (vs := (dn ++ [c]).map vu) (c := l1.length + 1) (by simp; omega)
          have e : ((dn ++ [c]).map vu).length = l1.length + 1 := by simp; omega
          rw [e] at this
          exact this
        have e : (dn.map vu ++ List.replicate (l1.length + 1 - dn.length) (vu 0)).set l1.length (.int .u32 (c : Nat)) = (dn ++ [c]).map vu := by
          rw [← hle, show Value.int .u32 (c : Nat) = vu c from rfl, fill_set' (by omega), List.length_append, List.length_singleton, Nat.sub_self]
          simp
        refine o_turn (own' := own) (F' := Fz.add F (.c r ((dn ++ [c]).map vu))) (by rw [← e]; exact Turn.ice) ?_
        refine go ?_
        refine o_pu rfl (trim113 (hL F) (by simp; omega)) (fun v' F' hF ⟨l', hv, ht, hn, hle2, hfull⟩ => ?_)
        refine go ?_
        refine b_ret rfl (.cons (.tmp rfl) .nil) (Turn.refl _ _) ⟨rfl, Fle.trans (Fz.add_le _ _) hF, l', hv, ht, ?_⟩
        rw [hn, num_snoc]
        have e1 : numF (fun i => l1.getD i 0) dn.length = num l1 := by rw [hle]; rfl
        have e2 : numF (fun i => l2.getD i 0) dn.length = num l2 := by
          unfold num
          exact numF_zero (by omega) fun i h1 h2 => getD_none (by omega)
        omega
end Go.Proofs.YthkoodpnepfijaaGreatDoor

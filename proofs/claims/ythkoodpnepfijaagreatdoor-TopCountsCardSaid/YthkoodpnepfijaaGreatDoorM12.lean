/-
  Steps towards TopCounts (no conditions of their own): WALKS: the smith: poly, form, pass, away. WALKS: the smith: raised. WALKS: the smith: back.
-/
import Derived.Test.YthkoodpnepfijaaGreatDoorM11
/- X4: WALKS: the smith: poly, form, pass, away. -/
namespace Go.Proofs.YthkoodpnepfijaaGreatDoor
open Go.RowKit
set_option linter.unusedVariables false
set_option linter.unusedSimpArgs false
set_option maxRecDepth 100000
set_option maxHeartbeats 1000000
/-- A call that makes nothing that stays, where it is known what is owned. -/
theorem o_rdn {n : Nat} {ops : Array Oper} {fl : Option (List Nat)} {rest : List Oper} {K : St → Prop} {wk : List Ch} {x : Fr} {b : Nat → Value} {ds : List Deferred} {own : List Ch} {F : Fz} {d ty : Nat} {pos : String} {af : Array Edge}
  {f : FuncId} {os : List Operand} {ats : Array TypeId} {vs : List Value} {u : Value} [hf : Fn_ f] (ha : evL n x os = some vs) (hN : N f vs own F fun v o F' => o = own ∧ F' = F ∧ v = u)
    (h : O n ops fl rest K wk ⟨(d, u) :: x, b, ds, own, F⟩) (hsub : List.Sublist wk own := by first | exact List.Sublist.refl _ | exact List.nil_sublist _ | exact List.Sublist.cons _ (List.Sublist.refl _) | exact List.Sublist.cons _ (List.Sublist.cons _ (List.Sublist.refl _)) | exact List.Sublist.cons_cons _ (List.nil_sublist _) | exact List.Sublist.cons _ (List.Sublist.cons _ (List.Sublist.cons _ (List.Sublist.refl _)))) :
    O n ops fl (⟨some d, .call { callee := .value (.func f), args := os.toArray, argTypes := ats }, ty, pos, af, none⟩ :: rest) K wk ⟨x, b, ds, own, F⟩ :=
  o_call ha hN (fun v own' F' ⟨e, h1, h2⟩ => ⟨wk, .keep (by rw [e]; exact hsub) (by rw [h1]; exact Fle.refl _), by rw [e, h1, h2]; exact h⟩) hsub
section
variable {rs n : Nat} {cv wv : Value} {own : List Ch} {F : Fz}
theorem pass151 (p : Nat) (hp : own[p]? = some (smC rs n cv wv)) (hn : n ≤ 1000) : N 151 [.pointer (some ⟨rs, 0, none⟩)] own F fun v o F' => o = own ∧ F' = F ∧ v = .int .i64 ((3 * n : Nat) : Int) := by
  refine n_fun Tryz.func151 Tryz.ntmps151 rfl rfl rfl ?_
  refine go ?_
  refine o_load rfl (rdC p hp rfl) ?_
  refine go ?_
  exact b_ret rfl (.cons (.tmp rfl) .nil) (Turn.refl _ _) ⟨rfl, rfl, by simp [tupV]⟩
theorem poly124 (p j : Nat) (hp : own[p]? = some (smC rs n cv wv)) (hn : n ≤ 1000) (hj : j ≤ 1000) : N 124 [.pointer (some ⟨rs, 0, none⟩), .int .i64 (j : Nat)] own F fun v o F' => o = own ∧ F' = F ∧ v = .int .i64 ((n + j : Nat) : Int) := by
  refine n_fun Tryz.func124 Tryz.ntmps124 rfl rfl rfl ?_
  refine go ?_
  refine o_load rfl (rdC p hp rfl) ?_
  refine go ?_
  exact b_ret rfl (.cons (.tmp rfl) .nil) (Turn.refl _ _) ⟨rfl, rfl, by simp [tupV]⟩
theorem form153 (p j : Nat) (hp : own[p]? = some (smC rs n cv wv)) (hn : n ≤ 1000) (hj : j ≤ 1000) : N 153 [.pointer (some ⟨rs, 0, none⟩), .int .i64 (j : Nat)] own F fun v o F' => o = own ∧ F' = F ∧ v = .int .i64 ((2 * n + j : Nat) : Int) := by
  refine n_fun Tryz.func153 Tryz.ntmps153 rfl rfl rfl ?_
  refine go ?_
  refine o_load rfl (rdC p hp rfl) ?_
  refine go ?_
  exact b_ret rfl (.cons (.tmp rfl) .nil) (Turn.refl _ _) ⟨rfl, rfl, by simp [tupV]⟩
end
def vn (i : Nat) : Value := .int .i64 (i : Nat)
abbrev NatsR (F : Fz) (v : Value) (l : List Nat) : Prop := RowM F v vn 0 l
theorem flatMap_take_succ {α β : Type} (f : α → List β) {l : List α} {j : Nat} {z : α} (h : j < l.length) : (l.take (j + 1)).flatMap f = (l.take j).flatMap f ++ f (l.getD j z) := by
  rw [List.take_add_one, List.flatMap_append, List.getElem?_eq_getElem h, List.getD_eq_getElem?_getD, List.getElem?_eq_getElem h]; simp
theorem flatMap_take_len {α β : Type} (f : α → List β) (l : List α) (j : Nat) : ((l.take j).flatMap f).length ≤ (l.flatMap f).length := by
  conv => rhs; rw [← List.take_append_drop j l, List.flatMap_append, List.length_append]
  omega
theorem away122 {n k e : Nat} {wv lv : Value} {W : List Pnt} {left : List Nat} {F : Fz} (hW : PtsR F wv W) (hl : NatsR F lv left) (hWl : W.length ≤ 1000) (hn : n ≤ 1000) (he : e ≤ 1000) (hk : k < W.length) (hll : left.length ≤ 1000) (hle : ∀ i ∈ left, i < W.length) (hin : ∀ p ∈ W, InP p ∧ ¬ NotP p) :
    Em n wv 122 (fun rs => [.pointer (some ⟨rs, 0, none⟩), .int .i64 (k : Nat), lv, .int .i64 (e : Nat)]) F (left.flatMap fun i => awI n (ptAt W k) (ptAt W i) (bezP (ptAt W k)).1 (bezP (ptAt W k)).2 k i e) := fun rs cv code rest hlen => by
  obtain ⟨Aw, cw, rfl⟩ := hW.dest
  obtain ⟨Al, cl, rfl⟩ := hl.dest
  have hpk : InP (W.getD k z0P) ∧ ¬ NotP (W.getD k z0P) := hin _ (getD_mem hk)
  have hbz := bz_ok hpk.1 hpk.2
  have hpk' : (-16 ≤ (W.getD k z0P).A ∧ (W.getD k z0P).A ≤ 16 ∧ -16 ≤ (W.getD k z0P).B ∧ (W.getD k z0P).B ≤ 16) ∧ ¬ NotP (W.getD k z0P) := hpk
  have hu := hbz.u16
  have hv := hbz.v16
  show N _ _ _ _ fun v o F' => ∃ cv', o = _ :: coC cv' (code ++ left.flatMap fun i => awI n (W.getD k z0P) (W.getD i z0P) (bezP (W.getD k z0P)).1 (bezP (W.getD k z0P)).2 k i e) :: rest ∧ F' = F
  have hlen : code.length + (left.flatMap fun i => awI n (W.getD k z0P) (W.getD i z0P) (bezP (W.getD k z0P)).1 (bezP (W.getD k z0P)).2 k i e).length ≤ 1000000 := hlen
  generalize hP : W.getD k z0P = P at *
  refine n_fun Tryz.func122 Tryz.ntmps122 rfl rfl rfl ?_
  refine c_scope (fun _ _ h => h) ?_
  refine go ?_
  intro r8
  refine go ?_
  rw [hP]
  refine go ?_
  refine c_loopT (fun m X o G => ∃ (j : Nat) (cv : Value), m = left.length - j ∧ X = [(0, .pointer (some ⟨rs, 0, none⟩)), (1, .int .i64 (k : Nat)), (3, .int .i64 (e : Nat)), (8, .pointer (some ⟨r8, 0, none⟩)), (10, .int .i64 (bezP P).1), (11, .int .i64 (bezP P).2), (33, .slice Al left.length cl), (34, .int .i64 (left.length : Nat)), (35, .int .i64 (j : Nat))] ∧ .c r8 (vPt P) :: smC rs n cv (.slice Aw W.length cw) :: coC cv (code ++ (left.take j).flatMap fun i => awI n P (W.getD i z0P) (bezP P).1 (bezP P).2 k i e) :: rest = o ∧ F = G ∧ j ≤ left.length)
    ⟨_, _, _, _, ⟨0, cv, rfl, rfl, rfl, rfl, by omega⟩, ⟨rfl, rfl, rfl, rfl, rfl, rfl, rfl, rfl, rfl, trivial⟩, by rw [List.take_zero, List.flatMap_nil, List.append_nil]; exact Turn.refl _ _⟩ ?_
  rintro _ _ _ _ b ⟨j, cv, rfl, rfl, rfl, rfl, hj⟩
  by_cases hje : j < left.length
  · have hi : left.getD j 0 < W.length := hle _ (getD_mem hje)
    have hq : InP (W.getD (left.getD j 0) z0P) ∧ ¬ NotP (W.getD (left.getD j 0) z0P) := hin _ (getD_mem hi)
    have hnew := flatMap_take_succ (fun i => awI n P (W.getD i z0P) (bezP P).1 (bezP P).2 k i e) (z := 0) hje
    have hlen2 := flatMap_take_len (fun i => awI n P (W.getD i z0P) (bezP P).1 (bezP P).2 k i e) left (j + 1)
    rw [hnew, List.length_append] at hlen2
    generalize hi' : left.getD j 0 = i at *
    generalize hQ : W.getD i z0P = Q at *
    generalize hold : (left.take j).flatMap (fun i => awI n P (W.getD i z0P) (bezP P).1 (bezP P).2 k i e) = old at *
    have hpq : (-16 ≤ P.A ∧ P.A ≤ 16 ∧ -16 ≤ P.B ∧ P.B ≤ 16) ∧ (-16 ≤ Q.A ∧ Q.A ≤ 16 ∧ -16 ≤ Q.B ∧ Q.B ≤ 16) := ⟨hpk'.1, hq.1⟩
    have b1 := mul_small (a := (bezP P).1) (b := Q.A) (m := 16) (n := 16) (by omega) (by omega)
    have b2 := mul_small (a := (bezP P).2) (b := Q.B) (m := 16) (n := 16) (by omega) (by omega)
    refine go ?_
    intro r15
    refine go ?_
    rw [hi', hQ]
    have hdet : -512 ≤ P.A * Q.B - Q.A * P.B ∧ P.A * Q.B - Q.A * P.B ≤ 512 := by
      have k1 := mul_small (a := P.A) (b := Q.B) (m := 16) (n := 16) (by omega) (by omega)
      have k2 := mul_small (a := Q.A) (b := P.B) (m := 16) (n := 16) (by omega) (by omega)
      omega
    generalize hT : (left.flatMap fun i => awI n P (W.getD i z0P) (bezP P).1 (bezP P).2 k i e) = tot at *
    generalize hnw : awI n P Q (bezP P).1 (bezP P).2 k i e = nw at hnew hlen2
    unfold awI at hnw
    have hcb : -512 ≤ (bezP P).1 * Q.A + (bezP P).2 * Q.B ∧ (bezP P).1 * Q.A + (bezP P).2 * Q.B ≤ 512 := by omega
    by_cases hce : (bezP P).1 * Q.A + (bezP P).2 * Q.B ≠ 0 ∨ e = 0
    · rw [if_pos hce] at hnw
      by_cases hcz : (bezP P).1 * Q.A + (bezP P).2 * Q.B = 0
      all_goals
        refine go ?_
        refine o_rdn rfl (pass151 2 rfl hn) ?_
        refine go ?_
        refine o_em 2 3 (power150 (3 * n : Nat) (k : Nat) ((bezP P).1 * Q.A + (bezP P).2 * Q.B) e (by omega) he) rfl rfl rfl rfl (by have hL := congrArg List.length hnw; simp only [List.length_append, List.length_nil, List.length_singleton] at hL ⊢; omega) (fun _ => rfl) (fun v cv1 => ?_)
        refine go ?_
        refine o_rdn rfl (pass151 2 rfl hn) ?_
        refine go ?_
        refine o_em 2 3 (add148 4 (i : Nat) (i : Nat) (3 * n : Nat) 0) rfl rfl rfl rfl (by have hL := congrArg List.length hnw; simp only [List.length_append, List.length_nil, List.length_singleton] at hL ⊢; omega) (fun _ => rfl) (fun v cv2 => ?_)
        refine go ?_
        by_cases hd1 : P.A * Q.B - Q.A * P.B = 1
        · rw [if_pos hd1] at hnw
          refine go ?_
          exact ⟨_, _, _, _, ⟨j + 1, cv2, rfl, rfl, rfl, rfl, by omega⟩, ⟨rfl, rfl, rfl, rfl, rfl, rfl, rfl, rfl, eqI (by omega), trivial⟩, by rw [hnew, ← hnw]; simp only [List.append_nil, List.nil_append, ← List.append_assoc]; exact Turn.drop, rfl, by omega⟩
        · rw [if_neg hd1] at hnw
          refine go ?_
          refine o_em 2 3 (over121 (i : Nat) (P.A * Q.B - Q.A * P.B)) rfl rfl rfl rfl (by have hL := congrArg List.length hnw; simp only [List.length_append, List.length_nil, List.length_singleton] at hL ⊢; omega) (fun _ => rfl) (fun v cv2' => ?_)
          refine go ?_
          exact ⟨_, _, _, _, ⟨j + 1, cv2', rfl, rfl, rfl, rfl, by omega⟩, ⟨rfl, rfl, rfl, rfl, rfl, rfl, rfl, rfl, eqI (by omega), trivial⟩, by rw [hnew, ← hnw]; simp only [List.nil_append, ← List.append_assoc]; exact Turn.drop, rfl, by omega⟩
    · rw [if_neg hce] at hnw
      have hc0 : (bezP P).1 * Q.A + (bezP P).2 * Q.B = 0 := by omega
      have he0 : ¬ e = 0 := by omega
      refine go ?_
      by_cases hd1 : P.A * Q.B - Q.A * P.B = 1
      · rw [if_pos hd1] at hnw
        refine go ?_
        exact ⟨_, _, _, _, ⟨j + 1, cv, rfl, rfl, rfl, rfl, by omega⟩, ⟨rfl, rfl, rfl, rfl, rfl, rfl, rfl, rfl, eqI (by omega), trivial⟩, by rw [hnew, ← hnw]; simp only [List.append_nil, List.nil_append, ← List.append_assoc]; exact Turn.drop, rfl, by omega⟩
      · rw [if_neg hd1] at hnw
        refine go ?_
        refine o_em 2 3 (over121 (i : Nat) (P.A * Q.B - Q.A * P.B)) rfl rfl rfl rfl (by have hL := congrArg List.length hnw; simp only [List.length_append, List.length_nil, List.length_singleton] at hL ⊢; omega) (fun _ => rfl) (fun v cv' => ?_)
        refine go ?_
        exact ⟨_, _, _, _, ⟨j + 1, cv', rfl, rfl, rfl, rfl, by omega⟩, ⟨rfl, rfl, rfl, rfl, rfl, rfl, rfl, rfl, eqI (by omega), trivial⟩, by rw [hnew, ← hnw]; simp only [List.nil_append, ← List.append_assoc]; exact Turn.drop, rfl, by omega⟩
  · have hjl : j = left.length := by omega
    subst hjl
    refine go ?_
    exact b_norm rfl .nil Turn.drop ⟨_, by rw [List.take_length], rfl⟩
end Go.Proofs.YthkoodpnepfijaaGreatDoor
/- X5: WALKS: the smith: raised. -/
namespace Go.Proofs.YthkoodpnepfijaaGreatDoor
open Go.RowKit
set_option linter.unusedVariables false
set_option linter.unusedSimpArgs false
set_option maxRecDepth 100000
set_option maxHeartbeats 1000000
def vb (b : Bool) : Value := .bool b
/-- A call that adds instructions, and answers something. -/
def EmV (n : Nat) (wv : Value) (f : FuncId) (args : Nat → List Value) (F : Fz) (new : List Ins) (R : Value → Fz → Prop) : Prop := ∀ rs cv code rest, code.length + new.length ≤ 1000000 →
  N f (args rs) (smC rs n cv wv :: coC cv code :: rest) F fun v o F' => ∃ cv', o = smC rs n cv' wv :: coC cv' (code ++ new) :: rest ∧ Fle F F' ∧ R v F'
theorem o_emv {n : Nat} {ops : Array Oper} {rest : List Oper} {K : St → Prop} {x : Fr} {b : Nat → Value} {ds : List Deferred} {own : List Ch} {F : Fz} {d ty : Nat} {pos : String} {af : Array Edge}
  {f : FuncId} {os : List Operand} {ats : Array TypeId} {m rs : Nat} {wv cv : Value} {args : Nat → List Value} {code new : List Ins} {R : Value → Fz → Prop} {own' : Value → List Ch} [hf : Fn_ f] (p q : Nat) (hN : EmV m wv f args F new R) (ha : evL n x os = some (args rs)) (hp : own[p]? = some (smC rs m cv wv)) (hq : own[q]? = some (coC cv code)) (hpq : Nat.beq p q = false) (hl : code.length + new.length ≤ 1000000)
    (hs : ∀ cv', setC2 own p q (smC rs m cv' wv) (coC cv' (code ++ new)) = some (own' cv'))
    (h : ∀ v cv' F', Fle F F' → R v F' → O n ops none rest K (own' cv') ⟨(d, v) :: x, b, ds, own' cv', F'⟩) :
    O n ops none (⟨some d, .call { callee := .value (.func f), args := os.toArray, argTypes := ats }, ty, pos, af, none⟩ :: rest) K own ⟨x, b, ds, own, F⟩ := by
  have hne : p ≠ q := fun e => by rw [e, show Nat.beq q q = true from Nat.beq_refl q] at hpq; cases hpq
  have h1 := N.pos (R := fun v c' g' F' => ∃ cv', c' = smC rs m cv' wv ∧ g' = coC cv' (code ++ new) ∧ Fle F F' ∧ R v F') (fun rest => (hN rs cv code rest hl).mono fun v o F' ⟨cv', e1, e2⟩ => ⟨_, _, e1, cv', rfl, rfl, e2⟩) hp hq hne
  refine o_call ha h1 (fun v o F' ⟨c', g', e1, cv', e2, e3, e4, e5⟩ => ?_) (List.Sublist.refl _)
  subst e1 e2 e3
  rw [setC2_eq (hs cv')]
  exact ⟨_, .text, h v cv' F' e4 e5⟩
theorem raised152 {n k e : Nat} {wv : Value} {W : List Pnt} {F : Fz} (hW : PtsR F wv W) (hWl : W.length ≤ 1000) (hn : n ≤ 1000) (he : e ≤ 900) (hk : k < W.length) (hin : ∀ p ∈ W, InP p ∧ ¬ NotP p) :
    EmV n wv 152 (fun rs => [.pointer (some ⟨rs, 0, none⟩), .int .i64 (k : Nat), .int .i64 (e : Nat)]) F (raised n (bezP (ptAt W k)).1 (bezP (ptAt W k)).2 k e) fun v F' => RowM F' v vb false (raisedT (bezP (ptAt W k)).1 (bezP (ptAt W k)).2 e) := fun rs cv code rest hlen => by
  obtain ⟨Aw, cw, rfl⟩ := hW.dest
  have hpk : InP (W.getD k z0P) ∧ ¬ NotP (W.getD k z0P) := hin _ (getD_mem hk)
  have hbz := bz_ok hpk.1 hpk.2
  have hpk' : (-16 ≤ (W.getD k z0P).A ∧ (W.getD k z0P).A ≤ 16 ∧ -16 ≤ (W.getD k z0P).B ∧ (W.getD k z0P).B ≤ 16) ∧ ¬ NotP (W.getD k z0P) := hpk
  have hu := hbz.u16
  have hv := hbz.v16
  have hP : ptAt W k = W.getD k z0P := rfl
  rw [hP] at hlen ⊢
  generalize hU : (bezP (W.getD k z0P)).1 = u at *
  generalize hV : (bezP (W.getD k z0P)).2 = v at *
  generalize htot : raised n u v k e = tot at *
  generalize hthE : raisedT u v e = thE at *
  refine n_fun Tryz.func152 Tryz.ntmps152 rfl rfl rfl ?_
  refine go ?_
  rw [hU, hV]
  refine go ?_
  refine o_make (e + 1) rfl (by simp) (by omega) (by omega) (fun rt => ?_)
  rw [rep_one]
  refine go ?_
  refine o_rdn rfl (form153 1 0 rfl hn (by omega)) ?_
  refine go ?_
  refine o_em 1 2 (times123 (2 * n : Nat) (k : Nat) 1) rfl rfl rfl rfl (by have hL := congrArg List.length htot; simp only [raised, List.length_append] at hL; omega) (fun _ => rfl) (fun _ cv1 => ?_)
  refine go ?_
  refine c_loopT (fun mm X o G => ∃ (d : Nat) (cv : Value) (th : List Bool) (dn : List Ins), mm = e - d ∧ X = [(0, .pointer (some ⟨rs, 0, none⟩)), (1, .int .i64 (k : Nat)), (2, .int .i64 (e : Nat)), (8, .int .i64 u), (9, .int .i64 v), (11, .slice (some ⟨rt, 0, none⟩) (e + 1) (e + 1)), (12, .int .i64 ((d + 1 : Nat) : Int))] ∧ .c rt (th.map vb) :: smC rs n cv (.slice Aw W.length cw) :: coC cv (code ++ dn) :: rest = o ∧ F = G ∧ d ≤ e ∧ th.length = e + 1 ∧ dn ++ raD n u v d (e - d) th = tot ∧ raDt u v d (e - d) th = thE)
    ⟨_, _, _, _, ⟨0, cv1, th0 e, tm (2 * n : Nat) (k : Nat) 1, rfl, rfl, rfl, rfl, by omega, by simp [th0], htot, hthE⟩, ⟨rfl, rfl, rfl, rfl, rfl, rfl, rfl, trivial⟩, by
      rw [show (th0 e).map vb = (List.replicate (e + 1) (.bool false)).set 0 (.bool true) by unfold th0; rw [List.map_set, List.map_replicate]; rfl]; exact Turn.refl _ _⟩ ?_
  rintro _ _ _ _ b ⟨d, cv, th, dn, rfl, rfl, rfl, rfl, hd, hth, hdn, hdt⟩
  by_cases hde : d < e
  · obtain ⟨m, hm⟩ : ∃ m, e - d = m + 1 := ⟨e - d - 1, by omega⟩
    rw [hm] at hdn hdt
    simp only [raD, raDt] at hdn hdt
    refine go ?_
    clear hd
    refine c_loopT (fun mm X o G => ∃ (j : Nat) (z : Int) (cv : Value) (th : List Bool) (dn : List Ins), mm = j + 1 ∧ X = [(0, .pointer (some ⟨rs, 0, none⟩)), (1, .int .i64 (k : Nat)), (2, .int .i64 (e : Nat)), (8, .int .i64 u), (9, .int .i64 v), (11, .slice (some ⟨rt, 0, none⟩) (e + 1) (e + 1)), (12, .int .i64 ((d + 1 : Nat) : Int)), (13, .int .i64 z)] ∧ .c rt (th.map vb) :: smC rs n cv (.slice Aw W.length cw) :: coC cv (code ++ dn) :: rest = o ∧ F = G ∧ z = (j : Int) - 1 ∧ j ≤ d + 2 ∧ th.length = e + 1 ∧ dn ++ (raJ n u v j th ++ raD n u v (d + 1) m (raJt u v j th)) = tot ∧ raDt u v (d + 1) m (raJt u v j th) = thE)
      ⟨_, _, _, _, ⟨d + 2, (d + 1 : Nat), cv, th, dn, rfl, rfl, rfl, rfl, by omega, by omega, hth, hdn, hdt⟩, ⟨rfl, rfl, rfl, rfl, rfl, rfl, rfl, rfl, trivial⟩, Turn.refl _ _⟩ ?_
    clear hdn hdt hth
    rintro _ _ _ _ b ⟨j, z, cv, th, dn, rfl, rfl, rfl, rfl, hz, hj, hth, hdn, hdt⟩
    by_cases hj0 : j = 0
    · subst hj0
      subst hz
      simp only [raJ, raJt, List.nil_append] at hdn hdt
      refine go ?_
      exact ⟨_, _, _, _, ⟨d + 1, cv, th, dn, rfl, rfl, rfl, rfl, by omega, hth, by rw [show e - (d + 1) = m by omega]; exact hdn, by rw [show e - (d + 1) = m by omega]; exact hdt⟩, ⟨rfl, rfl, rfl, rfl, rfl, rfl, eqI (by omega), trivial⟩, Turn.refl _ _, rfl, by omega⟩
    · obtain ⟨j, rfl⟩ : ∃ i, j = i + 1 := ⟨j - 1, by omega⟩
      obtain rfl : z = (j : Int) := by omega
      simp only [raJ, raJt] at hdn hdt
      have hL := congrArg List.length hdn
      simp only [List.length_append] at hL
      refine go ?_
      refine o_joinT (fun X o G => X = [(0, .pointer (some ⟨rs, 0, none⟩)), (1, .int .i64 (k : Nat)), (2, .int .i64 (e : Nat)), (8, .int .i64 u), (9, .int .i64 v), (11, .slice (some ⟨rt, 0, none⟩) (e + 1) (e + 1)), (12, .int .i64 ((d + 1 : Nat) : Int)), (13, .int .i64 (j : Nat)), (14, .bool (lowR u th j))] ∧ .c rt (th.map vb) :: smC rs n cv (.slice Aw W.length cw) :: coC cv (code ++ dn) :: rest = o ∧ F = G) ?_ ?_
      · by_cases h0 : 0 < j
        · cases ht : th.getD (j - 1) false
          · refine go ?_
            exact ⟨_, _, _, ⟨rfl, rfl, rfl⟩, ⟨rfl, rfl, rfl, rfl, rfl, rfl, rfl, rfl, eqB (by unfold lowR; rw [ht]; simp), trivial⟩, Turn.refl _ _, rfl⟩
          · refine go ?_
            exact ⟨_, _, _, ⟨rfl, rfl, rfl⟩, ⟨rfl, rfl, rfl, rfl, rfl, rfl, rfl, rfl, eqB (by unfold lowR; rw [ht]; simp [h0]), trivial⟩, Turn.refl _ _, rfl⟩
        · refine go ?_
          exact ⟨_, _, _, ⟨rfl, rfl, rfl⟩, ⟨rfl, rfl, rfl, rfl, rfl, rfl, rfl, rfl, eqB (by simp [lowR, h0]), trivial⟩, Turn.refl _ _, rfl⟩
      rintro _ _ _ b ⟨rfl, rfl, rfl⟩
      refine go ?_
      refine o_joinT (fun X o G => X = [(0, .pointer (some ⟨rs, 0, none⟩)), (1, .int .i64 (k : Nat)), (2, .int .i64 (e : Nat)), (8, .int .i64 u), (9, .int .i64 v), (11, .slice (some ⟨rt, 0, none⟩) (e + 1) (e + 1)), (12, .int .i64 ((d + 1 : Nat) : Int)), (13, .int .i64 (j : Nat)), (14, .bool (lowR u th j)), (15, .bool (ownR v th j))] ∧ .c rt (th.map vb) :: smC rs n cv (.slice Aw W.length cw) :: coC cv (code ++ dn) :: rest = o ∧ F = G) ?_ ?_
      · cases ht : th.getD j false
        · refine go ?_
          exact ⟨_, _, _, ⟨rfl, rfl, rfl⟩, ⟨rfl, rfl, rfl, rfl, rfl, rfl, rfl, rfl, rfl, eqB (by unfold ownR; rw [ht]; rfl), trivial⟩, Turn.refl _ _, rfl⟩
        · refine go ?_
          exact ⟨_, _, _, ⟨rfl, rfl, rfl⟩, ⟨rfl, rfl, rfl, rfl, rfl, rfl, rfl, rfl, rfl, eqB (by unfold ownR; rw [ht]; simp), trivial⟩, Turn.refl _ _, rfl⟩
      rintro _ _ _ b ⟨rfl, rfl, rfl⟩
      have hset : ∀ (lo ow : Bool), lowR u th j = lo → ownR v th j = ow → ∀ q, q = (ow || lo) → (th.map vb).set j (.bool q) = (raTh u v j th).map vb := fun lo ow h1 h2 q h3 => by
        unfold raTh; rw [h1, h2, ← h3, List.map_set]; rfl
      generalize hnw : raI n u v j th = nw at hdn hL
      unfold raI at hnw
      cases hlo : lowR u th j <;> cases how : ownR v th j <;> simp only [hlo, how, if_true, if_false, Bool.false_eq_true] at hnw
      · refine go ?_
        exact ⟨_, _, _, _, ⟨j, (j : Int) - 1, cv, raTh u v j th, dn ++ nw, rfl, rfl, rfl, rfl, rfl, by omega, by rw [raTh_len]; exact hth, by rw [List.append_assoc]; rw [List.append_assoc] at hdn; exact hdn, hdt⟩, ⟨rfl, rfl, rfl, rfl, rfl, rfl, rfl, eqI (by omega), trivial⟩, by rw [hset false false hlo how false rfl, ← hnw]; simp only [List.append_nil, List.nil_append, ← List.append_assoc]; exact Turn.refl _ _, rfl, by omega⟩
      · refine go ?_
        refine o_rdn rfl (form153 1 (j) rfl hn (by omega)) ?_
        refine go ?_
        refine o_rdn rfl (form153 1 (j) rfl hn (by omega)) ?_
        refine go ?_
        refine o_em 1 2 (times123 (2 * n + j : Nat) (2 * n + j : Nat) v) rfl rfl rfl rfl (by have hL2 := congrArg List.length hnw; simp only [List.length_append, List.length_nil, List.length_singleton] at hL2 ⊢; omega) (fun _ => rfl) (fun _ cv3 => ?_)
        refine go ?_
        exact ⟨_, _, _, _, ⟨j, (j : Int) - 1, cv3, raTh u v j th, dn ++ nw, rfl, rfl, rfl, rfl, rfl, by omega, by rw [raTh_len]; exact hth, by rw [List.append_assoc]; rw [List.append_assoc] at hdn; exact hdn, hdt⟩, ⟨rfl, rfl, rfl, rfl, rfl, rfl, rfl, eqI (by omega), trivial⟩, by rw [hset false true hlo how true rfl, ← hnw]; simp only [List.append_nil, List.nil_append, ← List.append_assoc]; exact Turn.refl _ _, rfl, by omega⟩
      · refine go ?_
        refine o_rdn rfl (pass151 1 rfl hn) ?_
        refine go ?_
        have hj1 : 0 < j := by unfold lowR at hlo; simp at hlo; exact hlo.1
        refine o_val (.int .i64 ((j - 1 : Nat) : Int)) (congrArg (Value.int .i64) (by omega)) ?_
        refine o_rdn rfl (form153 1 (j - 1) rfl hn (by omega)) ?_
        refine go ?_
        refine o_em 1 2 (times123 (3 * n : Nat) (2 * n + (j - 1) : Nat) u) rfl rfl rfl rfl (by have hL2 := congrArg List.length hnw; simp only [List.length_append, List.length_nil, List.length_singleton] at hL2 ⊢; omega) (fun _ => rfl) (fun _ cv2 => ?_)
        refine go ?_
        refine o_rdn rfl (form153 1 (j) rfl hn (by omega)) ?_
        refine go ?_
        refine o_rdn rfl (pass151 1 rfl hn) ?_
        refine go ?_
        refine o_em 1 2 (times123 (2 * n + j : Nat) (3 * n : Nat) 1) rfl rfl rfl rfl (by have hL2 := congrArg List.length hnw; simp only [List.length_append, List.length_nil, List.length_singleton] at hL2 ⊢; omega) (fun _ => rfl) (fun _ cv3 => ?_)
        refine go ?_
        exact ⟨_, _, _, _, ⟨j, (j : Int) - 1, cv3, raTh u v j th, dn ++ nw, rfl, rfl, rfl, rfl, rfl, by omega, by rw [raTh_len]; exact hth, by rw [List.append_assoc]; rw [List.append_assoc] at hdn; exact hdn, hdt⟩, ⟨rfl, rfl, rfl, rfl, rfl, rfl, rfl, eqI (by omega), trivial⟩, by rw [hset true false hlo how true rfl, ← hnw]; simp only [List.append_nil, List.nil_append, ← List.append_assoc]; exact Turn.refl _ _, rfl, by omega⟩
      · refine go ?_
        refine o_rdn rfl (pass151 1 rfl hn) ?_
        refine go ?_
        have hj1 : 0 < j := by unfold lowR at hlo; simp at hlo; exact hlo.1
        refine o_val (.int .i64 ((j - 1 : Nat) : Int)) (congrArg (Value.int .i64) (by omega)) ?_
        refine o_rdn rfl (form153 1 (j - 1) rfl hn (by omega)) ?_
        refine go ?_
        refine o_em 1 2 (times123 (3 * n : Nat) (2 * n + (j - 1) : Nat) u) rfl rfl rfl rfl (by have hL2 := congrArg List.length hnw; simp only [List.length_append, List.length_nil, List.length_singleton] at hL2 ⊢; omega) (fun _ => rfl) (fun _ cv2 => ?_)
        refine go ?_
        refine o_rdn rfl (form153 1 (j) rfl hn (by omega)) ?_
        refine go ?_
        refine o_rdn rfl (form153 1 (j) rfl hn (by omega)) ?_
        refine go ?_
        refine o_em 1 2 (times123 (2 * n + j : Nat) (2 * n + j : Nat) v) rfl rfl rfl rfl (by have hL2 := congrArg List.length hnw; simp only [List.length_append, List.length_nil, List.length_singleton] at hL2 ⊢; omega) (fun _ => rfl) (fun _ cv3 => ?_)
        refine go ?_
        refine o_rdn rfl (form153 1 (j) rfl hn (by omega)) ?_
        refine go ?_
        refine o_rdn rfl (form153 1 (j) rfl hn (by omega)) ?_
        refine go ?_
        refine o_rdn rfl (pass151 1 rfl hn) ?_
        refine go ?_
        refine o_em 1 2 (add148 3 (2 * n + j : Nat) (2 * n + j : Nat) (3 * n : Nat) 0) rfl rfl rfl rfl (by have hL2 := congrArg List.length hnw; simp only [List.length_append, List.length_nil, List.length_singleton] at hL2 ⊢; omega) (fun _ => rfl) (fun _ cv4 => ?_)
        refine go ?_
        exact ⟨_, _, _, _, ⟨j, (j : Int) - 1, cv4, raTh u v j th, dn ++ nw, rfl, rfl, rfl, rfl, rfl, by omega, by rw [raTh_len]; exact hth, by rw [List.append_assoc]; rw [List.append_assoc] at hdn; exact hdn, hdt⟩, ⟨rfl, rfl, rfl, rfl, rfl, rfl, rfl, eqI (by omega), trivial⟩, by rw [hset true true hlo how true rfl, ← hnw]; simp only [List.append_nil, List.nil_append, ← List.append_assoc]; exact Turn.refl _ _, rfl, by omega⟩
  · rw [show e - d = 0 by omega] at hdn hdt
    simp only [raD, raDt, List.append_nil] at hdn hdt
    subst hdn hdt
    refine go ?_
    refine b_ret rfl (.cons (.tmp rfl) .nil) Turn.ice ⟨cv, rfl, Fz.add_le _ _, ?_⟩
    have := row_ice' (F := F) (r := rt) (vs := th.map vb) (c := e + 1) (by simp; omega)
    rw [List.length_map, hth] at this
    exact this
end Go.Proofs.YthkoodpnepfijaaGreatDoor
/- X6: WALKS: the smith: back. -/
namespace Go.Proofs.YthkoodpnepfijaaGreatDoor
open Go.RowKit
set_option linter.unusedVariables false
set_option linter.unusedSimpArgs false
set_option maxRecDepth 100000
set_option maxHeartbeats 1000000
theorem raisedT_len (u v : Int) (e : Nat) : (raisedT u v e).length = e + 1 := by
  unfold raisedT; rw [raDt_len]; simp [th0]
theorem poly124z {rs n : Nat} {cv wv : Value} {own : List Ch} {F : Fz} (p j : Nat) (z : Int) (hp : own[p]? = some (smC rs n cv wv)) (hn : n ≤ 1000) (hj : j ≤ 1000) (hz : z = j) : N 124 [.pointer (some ⟨rs, 0, none⟩), .int .i64 z] own F fun v o F' => o = own ∧ F' = F ∧ v = .int .i64 ((n + j : Nat) : Int) := by
  subst hz; exact poly124 p j hp hn hj
theorem form153z {rs n : Nat} {cv wv : Value} {own : List Ch} {F : Fz} (p j : Nat) (z : Int) (hp : own[p]? = some (smC rs n cv wv)) (hn : n ≤ 1000) (hj : j ≤ 1000) (hz : z = j) : N 153 [.pointer (some ⟨rs, 0, none⟩), .int .i64 z] own F fun v o F' => o = own ∧ F' = F ∧ v = .int .i64 ((2 * n + j : Nat) : Int) := by
  subst hz; exact form153 p j hp hn hj
theorem back125 {n k e : Nat} {wv : Value} {W : List Pnt} {F : Fz} (hW : PtsR F wv W) (hWl : W.length ≤ 1000) (hn : n ≤ 1000) (he : e ≤ 900) (he0 : 0 < e) (hk : k < W.length) (hin : ∀ p ∈ W, InP p ∧ ¬ NotP p) :
    EmV n wv 125 (fun rs => [.pointer (some ⟨rs, 0, none⟩), .int .i64 (k : Nat), .int .i64 (e : Nat)]) F (back n (ptAt W k) (bezP (ptAt W k)).1 (bezP (ptAt W k)).2 k e) fun _ _ => True := fun rs cv code rest hlen => by
  have hra := fun (F : Fz) (hW : PtsR F wv W) => raised152 (F := F) hW hWl hn he hk hin
  obtain ⟨Aw, cw, rfl⟩ := hW.dest
  have hpk : InP (ptAt W k) ∧ ¬ NotP (ptAt W k) := hin _ (getD_mem hk)
  have hpk' : (-16 ≤ (ptAt W k).A ∧ (ptAt W k).A ≤ 16 ∧ -16 ≤ (ptAt W k).B ∧ (ptAt W k).B ≤ 16) := hpk.1
  have hP : ptAt W k = W.getD k z0P := rfl
  have hL := raisedT_len (bezP (ptAt W k)).1 (bezP (ptAt W k)).2 e
  generalize hU : (bezP (ptAt W k)).1 = u at *
  generalize hV : (bezP (ptAt W k)).2 = v at *
  generalize hQ : ptAt W k = P at *
  generalize htot : back n P u v k e = tot at *
  unfold back at htot
  generalize hB : bkJ n P e (e + 1) = B1 at htot
  generalize hRA : raised n u v k e = RA at *
  generalize hTH : raisedT u v e = th at *
  have hLt := congrArg List.length htot
  simp only [List.length_append] at hLt
  refine n_fun Tryz.func125 Tryz.ntmps125 rfl rfl rfl ?_
  refine go ?_
  intro r6
  rw [← hP]
  refine go ?_
  refine c_loopT (fun mm X o G => ∃ (j : Nat) (z : Int) (cv : Value) (dn : List Ins), mm = j + 1 ∧ X = [(0, .pointer (some ⟨rs, 0, none⟩)), (1, .int .i64 (k : Nat)), (2, .int .i64 (e : Nat)), (6, .pointer (some ⟨r6, 0, none⟩)), (7, .int .i64 z)] ∧ .c r6 (vPt P) :: smC rs n cv (.slice Aw W.length cw) :: coC cv (code ++ dn) :: rest = o ∧ F = G ∧ z = (j : Int) - 1 ∧ j ≤ e + 1 ∧ dn ++ bkJ n P e j = B1)
    ⟨_, _, _, _, ⟨e + 1, (e : Nat), cv, [], rfl, rfl, rfl, rfl, by omega, by omega, hB⟩, ⟨rfl, rfl, rfl, rfl, rfl, trivial⟩, by rw [List.append_nil]; exact Turn.refl _ _⟩ ?_
  rintro _ _ _ _ b ⟨j, z, cv, dn, rfl, rfl, rfl, rfl, hz, hj, hdn⟩
  by_cases hj0 : j = 0
  · subst hj0
    subst hz
    simp only [bkJ, List.append_nil] at hdn
    subst hdn
    refine go ?_
    refine o_emv 1 2 (hra F hW) rfl rfl rfl rfl (by rw [List.length_append]; omega) (fun _ => rfl) (fun v2 cv2 F2 hF2 hth => ?_)
    refine go ?_
    refine c_loopT (fun mm X o G => ∃ (i : Nat) (cv : Value), mm = e + 1 - i ∧ X = [(0, .pointer (some ⟨rs, 0, none⟩)), (74, v2), (75, .int .i64 ((e + 1 : Nat) : Int)), (76, .int .i64 (i : Nat))] ∧ .c r6 (vPt P) :: smC rs n cv (.slice Aw W.length cw) :: coC cv (code ++ dn ++ RA ++ (List.range i).flatMap (sumJ n th)) :: rest = o ∧ F2 = G ∧ i ≤ e + 1)
      ⟨_, _, _, _, ⟨0, cv2, rfl, rfl, rfl, rfl, by omega⟩, ⟨rfl, rfl, eqI (by omega), rfl, trivial⟩, by rw [List.range_zero, List.flatMap_nil, List.append_nil]; exact Turn.refl _ _⟩ ?_
    rintro _ _ _ _ b ⟨i, cv, rfl, rfl, rfl, rfl, hi⟩
    by_cases hie : i < e + 1
    · have hnx : (List.range (i + 1)).flatMap (sumJ n th) = (List.range i).flatMap (sumJ n th) ++ sumJ n th i := by rw [List.range_succ, List.flatMap_append]; simp
      have hlx : ((List.range (i + 1)).flatMap (sumJ n th)).length ≤ ((List.range (e + 1)).flatMap (sumJ n th)).length := by
        have := flatMap_take_len (sumJ n th) (List.range (e + 1)) (i + 1)
        rwa [List.take_range, Nat.min_eq_left (by omega)] at this
      rw [hnx, List.length_append] at hlx
      generalize hnw : sumJ n th i = nw at hnx hlx
      unfold sumJ at hnw
      generalize hol : (List.range i).flatMap (sumJ n th) = ol at *
      cases ht : th.getD i false
      · rw [ht, if_neg (by decide)] at hnw
        refine go ?_
        exact ⟨_, _, _, _, ⟨i + 1, cv, rfl, rfl, rfl, rfl, by omega⟩, ⟨rfl, rfl, rfl, eqI (by omega), trivial⟩, by rw [hnx, ← hnw, List.append_nil]; exact Turn.refl _ _, rfl, by omega⟩
      · rw [ht, if_pos rfl] at hnw
        refine go ?_
        refine o_rdn rfl (poly124z 1 i i rfl hn (by omega) rfl) ?_
        refine go ?_
        refine o_rdn rfl (poly124z 1 i i rfl hn (by omega) rfl) ?_
        refine go ?_
        refine o_rdn rfl (form153z 1 i i rfl hn (by omega) rfl) ?_
        refine go ?_
        refine o_em 1 2 (add148 3 (n + i : Nat) (n + i : Nat) (2 * n + i : Nat) 0) rfl rfl rfl rfl (by have hL2 := congrArg List.length hnw; simp only [List.length_append, List.length_nil, List.length_singleton] at hL2 ⊢; omega) (fun _ => rfl) (fun _ cv3 => ?_)
        refine go ?_
        exact ⟨_, _, _, _, ⟨i + 1, cv3, rfl, rfl, rfl, rfl, by omega⟩, ⟨rfl, rfl, rfl, eqI (by omega), trivial⟩, by rw [hnx, ← hnw]; simp only [← List.append_assoc]; exact Turn.refl _ _, rfl, by omega⟩
    · obtain rfl : i = e + 1 := by omega
      refine go ?_
      exact b_norm rfl .nil Turn.drop ⟨cv, by rw [← htot]; simp only [← List.append_assoc], hF2, trivial⟩
  · obtain ⟨j, rfl⟩ : ∃ i, j = i + 1 := ⟨j - 1, by omega⟩
    obtain rfl : z = (j : Int) := by omega
    simp only [bkJ] at hdn
    have hL3 := congrArg List.length hdn
    simp only [List.length_append] at hL3
    generalize hnw : bkI n P e j = nw at hdn hL3
    unfold bkI at hnw
    refine go ?_
    by_cases hje : j = e
    · rw [if_pos hje] at hnw
      have hje' : (j : Int) = (e : Int) := by omega
      refine go ?_
      refine c_drwoW [0, 1, 2, 4, 5, 6, 8, 9, 10, 3, 7, 11] [.c r6 (vPt P)] (by kernel_rfl) (by simp only [List.map_cons, List.map_nil, getD_lit, List.getD_cons_zero, List.getD_cons_succ]; exact rfl) ?_
      refine go ?_
      refine o_rdn rfl (poly124z 1 (j) j rfl hn (by omega) (by omega)) ?_
      refine go ?_
      refine o_rdn rfl (poly124z 1 (j - 1) ((j : Int) - 1) rfl hn (by omega) (by omega)) ?_
      refine go ?_
      refine o_em 1 2 (times123 (n + j : Nat) (n + (j - 1) : Nat) (-P.B)) rfl rfl rfl rfl (by have hL2 := congrArg List.length hnw; simp only [List.length_append, List.length_nil, List.length_singleton] at hL2 hL3 ⊢; omega) (fun _ => rfl) (fun _ cv3 => ?_)
      refine go ?_
      exact ⟨_, _, _, _, ⟨j, (j : Int) - 1, cv3, dn ++ nw, rfl, rfl, rfl, rfl, rfl, by omega, by rw [List.append_assoc]; exact hdn⟩, ⟨rfl, rfl, rfl, rfl, eqI (by omega), trivial⟩, by rw [← hnw]; simp only [List.append_nil, List.nil_append, ← List.append_assoc]; exact Turn.refl _ _, rfl, by omega⟩
    · rw [if_neg hje] at hnw
      have hje' : ¬ (j : Int) = (e : Int) := by omega
      by_cases h0 : 0 < j
      · rw [if_pos h0, if_pos h0] at hnw
        refine go ?_
        refine c_drwoW [0, 1, 3, 4, 5, 7, 8, 2, 6, 9] [.c r6 (vPt P)] (by kernel_rfl) (by simp only [List.map_cons, List.map_nil, getD_lit, List.getD_cons_zero, List.getD_cons_succ]; exact rfl) ?_
        refine go ?_
        refine o_rdn rfl (pass151 1 rfl hn) ?_
        refine go ?_
        refine o_rdn rfl (poly124z 1 (j - 1) ((j : Int) - 1) rfl hn (by omega) (by omega)) ?_
        refine go ?_
        refine o_em 1 2 (times123 (3 * n : Nat) (n + (j - 1) : Nat) (P.B)) rfl rfl rfl rfl (by have hL2 := congrArg List.length hnw; simp only [List.length_append, List.length_nil, List.length_singleton] at hL2 hL3 ⊢; omega) (fun _ => rfl) (fun _ cv3 => ?_)
        refine go ?_
        refine c_drwoW [0, 1, 2, 4, 5, 7, 8, 3, 6, 9] [.c r6 (vPt P)] (by kernel_rfl) (by simp only [List.map_cons, List.map_nil, getD_lit, List.getD_cons_zero, List.getD_cons_succ]; exact rfl) ?_
        refine go ?_
        refine o_rdn rfl (poly124z 1 (j) j rfl hn (by omega) (by omega)) ?_
        refine go ?_
        refine o_rdn rfl (poly124z 1 (j) j rfl hn (by omega) (by omega)) ?_
        refine go ?_
        refine o_em 1 2 (times123 (n + j : Nat) (n + j : Nat) (P.A)) rfl rfl rfl rfl (by have hL2 := congrArg List.length hnw; simp only [List.length_append, List.length_nil, List.length_singleton] at hL2 hL3 ⊢; omega) (fun _ => rfl) (fun _ cv4 => ?_)
        refine go ?_
        refine o_rdn rfl (poly124z 1 (j) j rfl hn (by omega) (by omega)) ?_
        refine go ?_
        refine o_rdn rfl (poly124z 1 (j) j rfl hn (by omega) (by omega)) ?_
        refine go ?_
        refine o_rdn rfl (pass151 1 rfl hn) ?_
        refine go ?_
        refine o_em 1 2 (add148 4 (n + j : Nat) (n + j : Nat) (3 * n : Nat) 0) rfl rfl rfl rfl (by have hL2 := congrArg List.length hnw; simp only [List.length_append, List.length_nil, List.length_singleton] at hL2 hL3 ⊢; omega) (fun _ => rfl) (fun _ cv5 => ?_)
        refine go ?_
        exact ⟨_, _, _, _, ⟨j, (j : Int) - 1, cv5, dn ++ nw, rfl, rfl, rfl, rfl, rfl, by omega, by rw [List.append_assoc]; exact hdn⟩, ⟨rfl, rfl, rfl, rfl, eqI (by omega), trivial⟩, by rw [← hnw]; simp only [List.append_nil, List.nil_append, ← List.append_assoc]; exact Turn.refl _ _, rfl, by omega⟩
      · rw [if_neg h0, if_neg h0] at hnw
        refine go ?_
        refine c_drwoW [0, 1, 2, 4, 5, 7, 8, 3, 6, 9] [.c r6 (vPt P)] (by kernel_rfl) (by simp only [List.map_cons, List.map_nil, getD_lit, List.getD_cons_zero, List.getD_cons_succ]; exact rfl) ?_
        refine go ?_
        refine o_rdn rfl (poly124z 1 (j) j rfl hn (by omega) (by omega)) ?_
        refine go ?_
        refine o_rdn rfl (poly124z 1 (j) j rfl hn (by omega) (by omega)) ?_
        refine go ?_
        refine o_em 1 2 (times123 (n + j : Nat) (n + j : Nat) (P.A)) rfl rfl rfl rfl (by have hL2 := congrArg List.length hnw; simp only [List.length_append, List.length_nil, List.length_singleton] at hL2 hL3 ⊢; omega) (fun _ => rfl) (fun _ cv4 => ?_)
        refine go ?_
        exact ⟨_, _, _, _, ⟨j, (j : Int) - 1, cv4, dn ++ nw, rfl, rfl, rfl, rfl, rfl, by omega, by rw [List.append_assoc]; exact hdn⟩, ⟨rfl, rfl, rfl, rfl, eqI (by omega), trivial⟩, by rw [← hnw]; simp only [List.append_nil, List.nil_append, ← List.append_assoc]; exact Turn.refl _ _, rfl, by omega⟩
end Go.Proofs.YthkoodpnepfijaaGreatDoor

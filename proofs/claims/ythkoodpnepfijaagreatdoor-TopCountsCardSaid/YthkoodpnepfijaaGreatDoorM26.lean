/-
  Steps towards TopCounts (no conditions of their own): WALKS: order: start, lives.
-/
import Derived.Test.YthkoodpnepfijaaGreatDoorM25
/- XV: WALKS: order: start, lives. -/
namespace Go.Proofs.YthkoodpnepfijaaGreatDoor
open Go.RowKit
set_option linter.unusedVariables false
set_option linter.unusedSimpArgs false
set_option maxRecDepth 100000
set_option maxHeartbeats 1000000
theorem start132 {F : Fz} {p : Prg} {A1 A2 : Option Addr} {m1 m2 c1 c2 : Nat} (r : Int) : Ps 132 [vPr p (.slice A1 m1 c1) (.slice A2 m2 c2), .int .i64 r] F fun u => u = .int .i64 (min r p.ins) := fun own => by
  refine n_fun Tryz.func132 Tryz.ntmps132 rfl rfl rfl ?_
  refine go ?_
  intro r1
  refine go ?_
  refine o_min rfl rfl ?_
  refine go ?_
  exact b_ret rfl (.cons (.tmp rfl) .nil) Turn.drop ⟨rfl, rfl, rfl⟩
/-- A list that is filled up to a place. -/
def upto (f : Nat → Int) (n j : Nat) : List Int := (List.range n).map fun i => if i < j then f i else 0
theorem upto_len (f : Nat → Int) (n j : Nat) : (upto f n j).length = n := by simp [upto]
theorem upto_zero (f : Nat → Int) (n : Nat) : upto f n 0 = List.replicate n 0 := by
  unfold upto
  apply List.ext_getElem
  · simp
  · intro i h1 h2; simp
theorem upto_set {f : Nat → Int} {n j : Nat} (v : Int) (h : v = f j) : (upto f n j).set j v = upto f n (j + 1) := by
  subst h
  apply List.ext_getElem
  · simp [upto]
  · intro i h1 h2
    simp only [upto, List.getElem_set, List.getElem_map, List.getElem_range]
    by_cases e : j = i
    · subst e; simp
    · simp only [e, if_false]
      by_cases e2 : i < j
      · rw [if_pos e2, if_pos (by omega)]
      · rw [if_neg e2, if_neg (by omega)]
theorem upto_skip {f : Nat → Int} {n j : Nat} (h : f j = 0) : upto f n (j + 1) = upto f n j := by
  apply List.ext_getElem
  · simp [upto]
  · intro i h1 h2
    simp only [upto, List.getElem_map, List.getElem_range]
    by_cases e2 : i < j
    · rw [if_pos e2, if_pos (by omega)]
    · rw [if_neg e2]
      split
      · rw [show i = j by omega, h]
      · rfl
theorem upto_at {f : Nat → Int} {n j i : Nat} (h : i < n) (h2 : i < j) : (upto f n j).getD i 0 = f i := by
  unfold upto
  rw [List.getD_eq_getElem?_getD, List.getElem?_map, List.getElem?_range h]
  simp [h2]
theorem cnt_le {p : Prg} (h : p.ok) : ∀ k, (cntK p k : Int) ≤ p.ins + 1 + k
  | 0 => by have := cnt_zero h; omega
  | k + 1 => by
    have := cnt_le h k
    cases hn : (needL p).getD k false
    · rw [(fwd_no hn).2.2]; omega
    · rw [(fwd_yes hn).2.2]; omega
def aF (p : Prg) (i : Nat) : Int := if (needL p).getD i false then aK p i else 0
def bF (p : Prg) (i : Nat) : Int := if (needL p).getD i false then bK p i else 0
def sF (p : Prg) (i : Nat) : Int := if (needL p).getD i false then (cntK p i : Nat) else 0
theorem c_iceC {n : Nat} {ro : Option Nat} {Q : Exit → St → Prop} {cd : Code} {x : Fr} {b : Nat → Value} {ds : List Deferred} {own : List Ch} {F : Fz} {α : Type} {f : α → Value} {l : List α} {r m c : Nat} {rs : List Ch} (z0 : α) (p : Nat) (hp : pick own p = some (.c r (l.map f), rs)) (hm : l.length = m) (hc : m ≤ c)
    (h : RowM (F.add (.c r (l.map f))) (.slice (some ⟨r, 0, none⟩) m c) f z0 l → C n ro cd Q ⟨x, b, ds, rs, F.add (.c r (l.map f))⟩) : C n ro cd Q ⟨x, b, ds, own, F⟩ := by
  refine c_turn (Turn.perm (pick_perm hp)) ⟨fun B w0 w hI => ?_⟩
  exact (h (rowM_ice hm hc)).out B w0 w hI.ice
/-- A program's values, in memory. -/
structure LifeR (F : Fz) (A : Addr) (p : Prg) : Prop where
  h : ∃ cv ov nv av bv sv uo uv, Cs F A [.int .i64 p.ins, .int .i64 p.regs, cv, ov, nv, av, bv, sv, uo, uv] ∧ RowM F nv vb false (needL p) ∧ RowM F av vi 0 (upto (aF p) p.code.length p.code.length) ∧ RowM F bv vi 0 (upto (bF p) p.code.length p.code.length) ∧ RowM F sv vi 0 (upto (sF p) p.code.length p.code.length) ∧ RowM F uo vi 0 (outV p) ∧ RowM F uv vi 0 (untF p)
theorem lives93 {F : Fz} {p : Prg} {cv ov : Value} (hP : PrR F cv ov p) (hok : p.ok) : Pu 93 [vPr p cv ov] F fun u F' => ∃ A, u = .tuple #[.pointer (some A), .int .i64 0] ∧ LifeR F' A p := fun own => by
  obtain ⟨A1, c1, e1⟩ := hP.code.dest
  obtain ⟨A2, c2, e2⟩ := hP.outs.dest
  subst e1 e2
  have o1 := hok.ins1
  have o2 := hok.insr
  have o3 := hok.regs
  have o4 := hok.len
  have o6 := hok.outn
  have hnl := needL_len p
  obtain ⟨R, hR⟩ : ∃ R : Nat, p.regs = R := ⟨p.regs.toNat, by omega⟩
  refine n_fun Tryz.func93 Tryz.ntmps93 rfl rfl rfl ?_
  refine go ?_
  intro r1
  refine go ?_
  refine o_pu rfl (needed131 hP hok) (fun v F1 hF1 ⟨nv, e, hN⟩ => ?_) sl
  subst e
  obtain ⟨An, cn, en⟩ := hN.dest
  subst en
  rw [hnl] at hN ⊢
  have hP1 := hP.le hF1
  refine goT ?_
  refine c_joinT (fun Y o G => ∃ ra rb rs rl : Nat, Y = [(1, .pointer (some ⟨r1, 0, none⟩)), (4, .slice An p.code.length cn), (6, .int .i64 (p.code.length : Nat)), (7, .pointer (some ⟨rl, 0, none⟩))] ∧ .c rl [.int .i64 p.ins, .int .i64 p.regs, .slice A1 p.code.length c1, .slice A2 p.outs.length c2, .slice An p.code.length cn, .slice (some ⟨ra, 0, none⟩) p.code.length p.code.length, .slice (some ⟨rb, 0, none⟩) p.code.length p.code.length, .slice (some ⟨rs, 0, none⟩) p.code.length p.code.length, .slice none 0 0, .slice none 0 0] :: .c ra (List.replicate p.code.length (.int .i64 0)) :: .c rb (List.replicate p.code.length (.int .i64 0)) :: .c rs (List.replicate p.code.length (.int .i64 0)) :: .c r1 [.int .i64 p.ins, .int .i64 p.regs, .slice A1 p.code.length c1, .slice A2 p.outs.length c2] :: own = o ∧ F1 = G) ?_ ?_
  · refine c_drawG [.c r1 [.int .i64 p.ins, .int .i64 p.regs, .slice A1 p.code.length c1, .slice A2 p.outs.length c2]] (by decide +kernel) ?_
    refine g_o 0 _ rfl (by decide +kernel) rfl rfl (fun _ h => o_loada rfl rfl (rdsW 0 rfl) (o_nil sl h)) ?_
    refine g_o 1 _ rfl (by decide +kernel) rfl rfl (fun _ h => o_move rfl (o_nil sl h)) ?_
    refine g_o 2 _ rfl (by decide +kernel) rfl rfl (fun _ h => o_move rfl (o_nil sl h)) ?_
    refine g_o 4 _ rfl (by decide +kernel) rfl rfl (fun _ h => o_move rfl (o_nil sl h)) ?_
    refine g_o 6 _ rfl (by decide +kernel) rfl rfl (fun _ h => o_move rfl (o_nil sl h)) ?_
    refine g_ef [3, 5, 7] (by decide +kernel) sl ⟨?_, ?_, ?_, trivial⟩
    · simp only [getD_lit, List.getD_cons_succ, List.getD_cons_zero]
      refine o_make p.code.length rfl rfl (by omega) (by omega) (fun ra => ?_)
      rw [rep_one]
      refine o_nil sl ⟨.inl (Fle.refl _), _, sl, .inl (List.Sublist.refl _), ?_⟩
      refine g_ef [5, 7] (by decide +kernel) sl ⟨?_, ?_, trivial⟩
      · simp only [getD_lit, List.getD_cons_succ, List.getD_cons_zero]
        refine o_make p.code.length rfl rfl (by omega) (by omega) (fun rb => ?_)
        rw [rep_one]
        refine o_nil sl ⟨.inl (Fle.refl _), _, sl, .inl (List.Sublist.refl _), ?_⟩
        refine g_ef [7] (by decide +kernel) sl ⟨?_, trivial⟩
        simp only [getD_lit, List.getD_cons_succ, List.getD_cons_zero]
        refine o_make p.code.length rfl rfl (by omega) (by omega) (fun rs => ?_)
        rw [rep_one]
        refine o_nil sl ⟨.inl (Fle.refl _), _, sl, .inl (List.Sublist.refl _), ?_⟩
        refine g_o 8 _ rfl (by decide +kernel) rfl rfl (fun _ h => o_build rfl rfl (o_nil sl h)) ?_
        refine g_ef [9] (by decide +kernel) sl ⟨?_, trivial⟩
        simp only [getD_lit, List.getD_cons_succ, List.getD_cons_zero]
        refine go ?_
        intro rl
        refine ⟨.inl (Fle.refl _), _, sl, .inl (List.Sublist.refl _), ?_⟩
        refine g_ef [10] (by decide +kernel) sl ⟨?_, trivial⟩
        simp only [getD_lit, List.getD_cons_succ, List.getD_cons_zero]
        refine go ?_
        refine ⟨.inl (Fle.refl _), _, sl, .inl (List.Sublist.refl _), ?_⟩
        refine g_end (by decide +kernel) sl ?_
        exact ⟨_, _, _, ⟨ra, rb, rs, rl, rfl, rfl, rfl⟩, ⟨rfl, rfl, rfl, rfl, trivial⟩, Turn.perm (pkP 0 rfl (pkP 2 rfl (pkP 1 rfl (.refl _)))), rfl⟩
      · simp only [getD_lit, List.getD_cons_succ, List.getD_cons_zero]
        refine o_make p.code.length rfl rfl (by omega) (by omega) (fun rs => ?_)
        rw [rep_one]
        refine o_nil sl ⟨.inl (Fle.refl _), _, sl, .inl (List.Sublist.refl _), ?_⟩
        refine g_ef [5] (by decide +kernel) sl ⟨?_, trivial⟩
        simp only [getD_lit, List.getD_cons_succ, List.getD_cons_zero]
        refine o_make p.code.length rfl rfl (by omega) (by omega) (fun rb => ?_)
        rw [rep_one]
        refine o_nil sl ⟨.inl (Fle.refl _), _, sl, .inl (List.Sublist.refl _), ?_⟩
        refine g_o 8 _ rfl (by decide +kernel) rfl rfl (fun _ h => o_build rfl rfl (o_nil sl h)) ?_
        refine g_ef [9] (by decide +kernel) sl ⟨?_, trivial⟩
        simp only [getD_lit, List.getD_cons_succ, List.getD_cons_zero]
        refine go ?_
        intro rl
        refine ⟨.inl (Fle.refl _), _, sl, .inl (List.Sublist.refl _), ?_⟩
        refine g_ef [10] (by decide +kernel) sl ⟨?_, trivial⟩
        simp only [getD_lit, List.getD_cons_succ, List.getD_cons_zero]
        refine go ?_
        refine ⟨.inl (Fle.refl _), _, sl, .inl (List.Sublist.refl _), ?_⟩
        refine g_end (by decide +kernel) sl ?_
        exact ⟨_, _, _, ⟨ra, rb, rs, rl, rfl, rfl, rfl⟩, ⟨rfl, rfl, rfl, rfl, trivial⟩, Turn.perm (pkP 0 rfl (pkP 2 rfl (pkP 0 rfl (.refl _)))), rfl⟩
    · simp only [getD_lit, List.getD_cons_succ, List.getD_cons_zero]
      refine o_make p.code.length rfl rfl (by omega) (by omega) (fun rb => ?_)
      rw [rep_one]
      refine o_nil sl ⟨.inl (Fle.refl _), _, sl, .inl (List.Sublist.refl _), ?_⟩
      refine g_ef [3, 7] (by decide +kernel) sl ⟨?_, ?_, trivial⟩
      · simp only [getD_lit, List.getD_cons_succ, List.getD_cons_zero]
        refine o_make p.code.length rfl rfl (by omega) (by omega) (fun ra => ?_)
        rw [rep_one]
        refine o_nil sl ⟨.inl (Fle.refl _), _, sl, .inl (List.Sublist.refl _), ?_⟩
        refine g_ef [7] (by decide +kernel) sl ⟨?_, trivial⟩
        simp only [getD_lit, List.getD_cons_succ, List.getD_cons_zero]
        refine o_make p.code.length rfl rfl (by omega) (by omega) (fun rs => ?_)
        rw [rep_one]
        refine o_nil sl ⟨.inl (Fle.refl _), _, sl, .inl (List.Sublist.refl _), ?_⟩
        refine g_o 8 _ rfl (by decide +kernel) rfl rfl (fun _ h => o_build rfl rfl (o_nil sl h)) ?_
        refine g_ef [9] (by decide +kernel) sl ⟨?_, trivial⟩
        simp only [getD_lit, List.getD_cons_succ, List.getD_cons_zero]
        refine go ?_
        intro rl
        refine ⟨.inl (Fle.refl _), _, sl, .inl (List.Sublist.refl _), ?_⟩
        refine g_ef [10] (by decide +kernel) sl ⟨?_, trivial⟩
        simp only [getD_lit, List.getD_cons_succ, List.getD_cons_zero]
        refine go ?_
        refine ⟨.inl (Fle.refl _), _, sl, .inl (List.Sublist.refl _), ?_⟩
        refine g_end (by decide +kernel) sl ?_
        exact ⟨_, _, _, ⟨ra, rb, rs, rl, rfl, rfl, rfl⟩, ⟨rfl, rfl, rfl, rfl, trivial⟩, Turn.perm (pkP 0 rfl (pkP 1 rfl (pkP 1 rfl (.refl _)))), rfl⟩
      · simp only [getD_lit, List.getD_cons_succ, List.getD_cons_zero]
        refine o_make p.code.length rfl rfl (by omega) (by omega) (fun rs => ?_)
        rw [rep_one]
        refine o_nil sl ⟨.inl (Fle.refl _), _, sl, .inl (List.Sublist.refl _), ?_⟩
        refine g_ef [3] (by decide +kernel) sl ⟨?_, trivial⟩
        simp only [getD_lit, List.getD_cons_succ, List.getD_cons_zero]
        refine o_make p.code.length rfl rfl (by omega) (by omega) (fun ra => ?_)
        rw [rep_one]
        refine o_nil sl ⟨.inl (Fle.refl _), _, sl, .inl (List.Sublist.refl _), ?_⟩
        refine g_o 8 _ rfl (by decide +kernel) rfl rfl (fun _ h => o_build rfl rfl (o_nil sl h)) ?_
        refine g_ef [9] (by decide +kernel) sl ⟨?_, trivial⟩
        simp only [getD_lit, List.getD_cons_succ, List.getD_cons_zero]
        refine go ?_
        intro rl
        refine ⟨.inl (Fle.refl _), _, sl, .inl (List.Sublist.refl _), ?_⟩
        refine g_ef [10] (by decide +kernel) sl ⟨?_, trivial⟩
        simp only [getD_lit, List.getD_cons_succ, List.getD_cons_zero]
        refine go ?_
        refine ⟨.inl (Fle.refl _), _, sl, .inl (List.Sublist.refl _), ?_⟩
        refine g_end (by decide +kernel) sl ?_
        exact ⟨_, _, _, ⟨ra, rb, rs, rl, rfl, rfl, rfl⟩, ⟨rfl, rfl, rfl, rfl, trivial⟩, Turn.perm (pkP 0 rfl (pkP 0 rfl (pkP 1 rfl (.refl _)))), rfl⟩
    · simp only [getD_lit, List.getD_cons_succ, List.getD_cons_zero]
      refine o_make p.code.length rfl rfl (by omega) (by omega) (fun rs => ?_)
      rw [rep_one]
      refine o_nil sl ⟨.inl (Fle.refl _), _, sl, .inl (List.Sublist.refl _), ?_⟩
      refine g_ef [3, 5] (by decide +kernel) sl ⟨?_, ?_, trivial⟩
      · simp only [getD_lit, List.getD_cons_succ, List.getD_cons_zero]
        refine o_make p.code.length rfl rfl (by omega) (by omega) (fun ra => ?_)
        rw [rep_one]
        refine o_nil sl ⟨.inl (Fle.refl _), _, sl, .inl (List.Sublist.refl _), ?_⟩
        refine g_ef [5] (by decide +kernel) sl ⟨?_, trivial⟩
        simp only [getD_lit, List.getD_cons_succ, List.getD_cons_zero]
        refine o_make p.code.length rfl rfl (by omega) (by omega) (fun rb => ?_)
        rw [rep_one]
        refine o_nil sl ⟨.inl (Fle.refl _), _, sl, .inl (List.Sublist.refl _), ?_⟩
        refine g_o 8 _ rfl (by decide +kernel) rfl rfl (fun _ h => o_build rfl rfl (o_nil sl h)) ?_
        refine g_ef [9] (by decide +kernel) sl ⟨?_, trivial⟩
        simp only [getD_lit, List.getD_cons_succ, List.getD_cons_zero]
        refine go ?_
        intro rl
        refine ⟨.inl (Fle.refl _), _, sl, .inl (List.Sublist.refl _), ?_⟩
        refine g_ef [10] (by decide +kernel) sl ⟨?_, trivial⟩
        simp only [getD_lit, List.getD_cons_succ, List.getD_cons_zero]
        refine go ?_
        refine ⟨.inl (Fle.refl _), _, sl, .inl (List.Sublist.refl _), ?_⟩
        refine g_end (by decide +kernel) sl ?_
        exact ⟨_, _, _, ⟨ra, rb, rs, rl, rfl, rfl, rfl⟩, ⟨rfl, rfl, rfl, rfl, trivial⟩, Turn.perm (pkP 0 rfl (pkP 1 rfl (pkP 0 rfl (.refl _)))), rfl⟩
      · simp only [getD_lit, List.getD_cons_succ, List.getD_cons_zero]
        refine o_make p.code.length rfl rfl (by omega) (by omega) (fun rb => ?_)
        rw [rep_one]
        refine o_nil sl ⟨.inl (Fle.refl _), _, sl, .inl (List.Sublist.refl _), ?_⟩
        refine g_ef [3] (by decide +kernel) sl ⟨?_, trivial⟩
        simp only [getD_lit, List.getD_cons_succ, List.getD_cons_zero]
        refine o_make p.code.length rfl rfl (by omega) (by omega) (fun ra => ?_)
        rw [rep_one]
        refine o_nil sl ⟨.inl (Fle.refl _), _, sl, .inl (List.Sublist.refl _), ?_⟩
        refine g_o 8 _ rfl (by decide +kernel) rfl rfl (fun _ h => o_build rfl rfl (o_nil sl h)) ?_
        refine g_ef [9] (by decide +kernel) sl ⟨?_, trivial⟩
        simp only [getD_lit, List.getD_cons_succ, List.getD_cons_zero]
        refine go ?_
        intro rl
        refine ⟨.inl (Fle.refl _), _, sl, .inl (List.Sublist.refl _), ?_⟩
        refine g_ef [10] (by decide +kernel) sl ⟨?_, trivial⟩
        simp only [getD_lit, List.getD_cons_succ, List.getD_cons_zero]
        refine go ?_
        refine ⟨.inl (Fle.refl _), _, sl, .inl (List.Sublist.refl _), ?_⟩
        refine g_end (by decide +kernel) sl ?_
        exact ⟨_, _, _, ⟨ra, rb, rs, rl, rfl, rfl, rfl⟩, ⟨rfl, rfl, rfl, rfl, trivial⟩, Turn.perm (pkP 0 rfl (pkP 0 rfl (pkP 0 rfl (.refl _)))), rfl⟩
  rintro _ _ _ b ⟨ra, rb, rs, rl, rfl, rfl, rfl⟩
  refine go ?_
  refine o_make R rfl hR (by omega) (by omega) (fun rh => ?_)
  rw [rep_one, show List.replicate R (Value.int .i64 0) = (upto (fun r => min (r : Int) p.ins) R 0).map vi by rw [upto_zero, List.map_replicate]; rfl]
  refine go ?_
  refine c_loopT (fun m X o G => ∃ j : Nat, m = R - j ∧ X = [(1, .pointer (some ⟨r1, 0, none⟩)), (4, .slice An p.code.length cn), (6, .int .i64 (p.code.length : Nat)), (7, .pointer (some ⟨rl, 0, none⟩)), (8, .slice (some ⟨rh, 0, none⟩) R R), (39, .int .i64 (R : Nat)), (40, .int .i64 (j : Nat))] ∧ .c rh ((upto (fun r => min (r : Int) p.ins) R j).map vi) :: .c rl [.int .i64 p.ins, .int .i64 p.regs, .slice A1 p.code.length c1, .slice A2 p.outs.length c2, .slice An p.code.length cn, .slice (some ⟨ra, 0, none⟩) p.code.length p.code.length, .slice (some ⟨rb, 0, none⟩) p.code.length p.code.length, .slice (some ⟨rs, 0, none⟩) p.code.length p.code.length, .slice none 0 0, .slice none 0 0] :: .c ra (List.replicate p.code.length (.int .i64 0)) :: .c rb (List.replicate p.code.length (.int .i64 0)) :: .c rs (List.replicate p.code.length (.int .i64 0)) :: .c r1 [.int .i64 p.ins, .int .i64 p.regs, .slice A1 p.code.length c1, .slice A2 p.outs.length c2] :: own = o ∧ F1 = G ∧ j ≤ R)
    ⟨_, _, _, _, ⟨0, rfl, rfl, rfl, rfl, by omega⟩, ⟨rfl, rfl, rfl, rfl, rfl, rfl, rfl, trivial⟩, Turn.refl _ _⟩ ?_
  rintro _ _ _ _ b ⟨j, rfl, rfl, rfl, rfl, hj⟩
  by_cases hjl : j < R
  · have hul := upto_len (fun r => min (r : Int) p.ins) R j
    have hus := upto_set (f := fun r => min (r : Int) p.ins) (n := R) (j := j) _ rfl
    generalize upto (fun r => min (r : Int) p.ins) R j = H at *
    refine go ?_
    refine o_ps rfl (start132 (p := p) (A1 := A1) (A2 := A2) (m1 := p.code.length) (m2 := p.outs.length) (c1 := c1) (c2 := c2) (j : Nat)) (fun u e => ?_) sl
    subst e
    refine go ?_
    exact ⟨_, _, _, _, ⟨j + 1, rfl, rfl, rfl, rfl, by omega⟩, ⟨rfl, rfl, rfl, rfl, rfl, rfl, eqI (by omega), trivial⟩, by rw [← hus, List.map_set]; exact Turn.refl _ _, rfl, by omega⟩
  obtain rfl : j = R := by omega
  have hh0 : upto (fun r => min (r : Int) p.ins) j j = heldK p 0 := by
    have : heldK p 0 = held0 p := rfl
    rw [this]
    unfold upto held0
    rw [show p.regs.toNat = j by omega]
    refine List.map_congr_left fun i hi => ?_
    rw [if_pos (List.mem_range.1 hi)]
  rw [hh0]
  generalize hRR : j = R at *
  refine go ?_
  obtain ⟨I, hI⟩ : ∃ I : Nat, p.ins = I := ⟨p.ins.toNat, by omega⟩
  refine c_loopT (fun m X o G => ∃ (k : Nat) (uv : Value), m = I + 1 - k ∧ X = [(1, .pointer (some ⟨r1, 0, none⟩)), (4, .slice An p.code.length cn), (6, .int .i64 (p.code.length : Nat)), (7, .pointer (some ⟨rl, 0, none⟩)), (8, .slice (some ⟨rh, 0, none⟩) R R), (52, .int .i64 (p.ins + 1)), (53, .int .i64 (k : Nat))] ∧ .c rl [.int .i64 p.ins, .int .i64 p.regs, .slice A1 p.code.length c1, .slice A2 p.outs.length c2, .slice An p.code.length cn, .slice (some ⟨ra, 0, none⟩) p.code.length p.code.length, .slice (some ⟨rb, 0, none⟩) p.code.length p.code.length, .slice (some ⟨rs, 0, none⟩) p.code.length p.code.length, .slice none 0 0, uv] :: .c rh ((heldK p 0).map vi) :: .c ra (List.replicate p.code.length (.int .i64 0)) :: .c rb (List.replicate p.code.length (.int .i64 0)) :: .c rs (List.replicate p.code.length (.int .i64 0)) :: .g uv 3 1 k ((List.replicate k (-1 : Int)).map vi) :: .c r1 [.int .i64 p.ins, .int .i64 p.regs, .slice A1 p.code.length c1, .slice A2 p.outs.length c2] :: own = o ∧ F1 = G ∧ k ≤ I + 1)
    ⟨_, _, _, _, ⟨0, .slice none 0 0, rfl, rfl, rfl, rfl, by omega⟩, ⟨rfl, rfl, rfl, rfl, rfl, rfl, rfl, trivial⟩, (Turn.nil 3 1).trans (Turn.perm (pkP 2 rfl (pkP 1 rfl (pkP 1 rfl (pkP 1 rfl (pkP 1 rfl (.refl _))))))) ⟩ ?_
  rintro _ _ _ _ b ⟨k, uv, rfl, rfl, rfl, rfl, hk⟩
  by_cases hkl : k < I + 1
  · refine go ?_
    refine o_lit rfl rfl rfl rfl rfl (fun r3 => ?_)
    refine o_app1 5 rfl rfl rfl rfl rfl rfl rfl (by omega) (by omega) (fun _ => rfl) (fun A' c' => ?_)
    refine go ?_
    exact ⟨_, _, _, _, ⟨k + 1, .slice A' (k + 1) c', rfl, rfl, rfl, rfl, by omega⟩, ⟨rfl, rfl, rfl, rfl, rfl, rfl, eqI (by omega), trivial⟩, by rw [List.replicate_succ', List.map_append]; exact Turn.refl _ _, rfl, by omega⟩
  obtain rfl : k = I + 1 := by omega
  have hu0 : List.replicate (I + 1) (-1 : Int) = untK p 0 := by
    unfold untK; rw [fwd, show (p.ins + 1).toNat = I + 1 by omega]
  have hc0 : cntK p 0 = I + 1 := by unfold cntK; rw [← hu0]; simp
  rw [hu0, ← hc0]
  rw [show List.replicate p.code.length (Value.int .i64 0) = (upto (aF p) p.code.length 0).map vi by rw [upto_zero, List.map_replicate]; rfl]
  rw [show Ch.c rb ((upto (aF p) p.code.length 0).map vi) = .c rb ((upto (bF p) p.code.length 0).map vi) by rw [upto_zero, upto_zero], show Ch.c rs ((upto (aF p) p.code.length 0).map vi) = .c rs ((upto (sF p) p.code.length 0).map vi) by rw [upto_zero, upto_zero]]
  refine go ?_
  refine c_loopT (fun m X o G => ∃ (j : Nat) (uv : Value), m = p.code.length - j ∧ X = [(1, .pointer (some ⟨r1, 0, none⟩)), (4, .slice An p.code.length cn), (6, .int .i64 (p.code.length : Nat)), (7, .pointer (some ⟨rl, 0, none⟩)), (8, .slice (some ⟨rh, 0, none⟩) R R), (66, .slice A1 p.code.length c1), (67, .int .i64 (p.code.length : Nat)), (68, .int .i64 (j : Nat))] ∧ .c rl [.int .i64 p.ins, .int .i64 p.regs, .slice A1 p.code.length c1, .slice A2 p.outs.length c2, .slice An p.code.length cn, .slice (some ⟨ra, 0, none⟩) p.code.length p.code.length, .slice (some ⟨rb, 0, none⟩) p.code.length p.code.length, .slice (some ⟨rs, 0, none⟩) p.code.length p.code.length, .slice none 0 0, uv] :: .c rh ((heldK p j).map vi) :: .c ra ((upto (aF p) p.code.length j).map vi) :: .c rb ((upto (bF p) p.code.length j).map vi) :: .c rs ((upto (sF p) p.code.length j).map vi) :: .g uv 3 1 (cntK p j) ((untK p j).map vi) :: .c r1 [.int .i64 p.ins, .int .i64 p.regs, .slice A1 p.code.length c1, .slice A2 p.outs.length c2] :: own = o ∧ Fle F1 G ∧ j ≤ p.code.length)
    ⟨_, _, _, _, ⟨0, uv, rfl, rfl, rfl, Fle.refl _, by omega⟩, ⟨rfl, rfl, rfl, rfl, rfl, rfl, rfl, rfl, trivial⟩, Turn.refl _ _⟩ ?_
  rintro _ _ _ G b0 ⟨j, uv, rfl, rfl, rfl, hG, hj⟩
  have hC := RowS.le hP1.code hG
  have hN' := RowM.le hN hG
  obtain ⟨g1, g2, g3⟩ := held_ok hok j hj
  have hcm := cnt_mono (p := p) hj
  have hcb := cnt_le hok j
  by_cases hjl : j < p.code.length
  · have hio := insK_ok hok hjl
    have hab := ab_ok hok hjl
    have hla := upto_len (aF p) p.code.length j
    have hlb := upto_len (bF p) p.code.length j
    have hls := upto_len (sF p) p.code.length j
    have hgI : p.code.getD j z0I = insK p j := rfl
    cases hb : (needL p).getD j false
    · obtain ⟨e1, e2, e3⟩ := fwd_no hb
      refine go ?_
      intro r11
      refine go ?_
      refine ⟨_, _, _, _, ⟨j + 1, uv, rfl, rfl, rfl, hG, by omega⟩, ⟨rfl, rfl, rfl, rfl, rfl, rfl, rfl, eqI (by omega), trivial⟩, ?_, rfl, by omega⟩
      rw [e1, e2, e3, upto_skip (f := aF p) (by unfold aF; rw [hb]; rfl), upto_skip (f := bF p) (by unfold bF; rw [hb]; rfl), upto_skip (f := sF p) (by unfold sF; rw [hb]; rfl)]
      exact Turn.drop
    · obtain ⟨e1, e2, e3⟩ := fwd_yes hb
      obtain ⟨⟨a0, a1⟩, b0', b1⟩ := hab
      obtain ⟨an, han⟩ : ∃ an : Nat, aK p j = an := ⟨(aK p j).toNat, by omega⟩
      obtain ⟨bn, hbn⟩ : ∃ bn : Nat, bK p j = bn := ⟨(bK p j).toNat, by omega⟩
      have haF : aF p j = an := by unfold aF; rw [hb, if_pos rfl]; exact han
      have hbF : bF p j = bn := by unfold bF; rw [hb, if_pos rfl]; exact hbn
      have hsF : sF p j = (cntK p j : Nat) := by unfold sF; rw [hb, if_pos rfl]
      rw [han, hbn] at e2
      have hbk : bK p j = if twoOp (insK p j).op then hd_ (heldK p j) (insK p j).b else aK p j := rfl
      have hak : aK p j = hd_ (heldK p j) (insK p j).a := rfl
      have i0 := hio.to0
      have i1 := hio.to1
      have i2 := hio.a0
      have i3 := hio.a1
      have i4 := hio.b0
      have i5 := hio.b1
      generalize hI : insK p j = I at *
      obtain ⟨iop, ito, ia, ib, ic⟩ := I
      simp only at i0 i1 i2 i3 i4 i5 hbk hak e1
      obtain ⟨t, rfl⟩ : ∃ t : Nat, ito = t := ⟨ito.toNat, by omega⟩
      obtain ⟨a, rfl⟩ : ∃ a : Nat, ia = a := ⟨ia.toNat, by omega⟩
      obtain ⟨b, rfl⟩ : ∃ b : Nat, ib = b := ⟨ib.toNat, by omega⟩
      have hda : hd_ (heldK p j) (a : Nat) = (heldK p j).getD a 0 := rfl
      have hdb : hd_ (heldK p j) (b : Nat) = (heldK p j).getD b 0 := rfl
      rw [hda, han] at hak
      rw [hdb] at hbk
      rw [Int.toNat_natCast] at e1 e2
      rw [Int.toNat_natCast] at e2
      have hcp : 0 < cntK p j := by omega
      refine c_gslQ 5 rfl hcp (fun gu cu hgu e => ?_)
      subst e
      have hlH : (heldK p j).length = R := by omega
      generalize hH : heldK p j = H at *
      have huc : (untK p j).length = cntK p j := rfl
      have hW := Wrp.mk (And.intro e1 (And.intro e2 (And.intro e3 (And.intro g2 (And.intro hbk (And.intro hak (And.intro hio hI)))))))
      clear e1 e2 e3 g2 hbk hak hio hI hda hdb
      refine goT ?_
      intro r11
      rw [hgI]
      refine c_drww [.c r11 [.int .i64 iop, .int .i64 (t : Nat), .int .i64 (a : Nat), .int .i64 (b : Nat), .int .i64 ic], .c rl [.int .i64 p.ins, .int .i64 p.regs, .slice A1 p.code.length c1, .slice A2 p.outs.length c2, .slice An p.code.length cn, .slice (some ⟨ra, 0, none⟩) p.code.length p.code.length, .slice (some ⟨rb, 0, none⟩) p.code.length p.code.length, .slice (some ⟨rs, 0, none⟩) p.code.length p.code.length, .slice none 0 0, .slice (some ⟨gu, 0, none⟩) (cntK p j) cu], .c rh (H.map vi)] sl rfl (by decide +kernel) ?_
      refine go ?_
      obtain ⟨e1, e2, e3, g2, hbk, hak, hio, hI⟩ := hW.out
      refine o_pu rfl (asks83 ⟨iop, (t : Nat), (a : Nat), (b : Nat), ic⟩) (fun v F2 hF2 hv => ?_) sl
      rw [asks_eq hio] at hv
      obtain ⟨Av, cv, ev⟩ := hv.dest
      subst ev
      have hW := Wrp.mk (And.intro e1 (And.intro e2 (And.intro e3 (And.intro g2 (And.intro hio hI)))))
      clear e1 e2 e3 g2 hio hI
      rw [← hak]
      have hsa : ((upto (aF p) p.code.length j).map vi).set j (vi (an : Nat)) = (upto (aF p) p.code.length (j + 1)).map vi := by rw [← upto_set (f := aF p) _ rfl, List.map_set, haF]
      have hsb : ((upto (bF p) p.code.length j).map vi).set j (vi (bn : Nat)) = (upto (bF p) p.code.length (j + 1)).map vi := by rw [← upto_set (f := bF p) _ rfl, List.map_set, hbF]
      have hss : ((upto (sF p) p.code.length j).map vi).set j (vi (cntK p j : Nat)) = (upto (sF p) p.code.length (j + 1)).map vi := by rw [← upto_set (f := sF p) _ rfl, List.map_set, hsF]
      refine go ?_
      refine c_joinT (fun Y o G' => Y = [(1, .pointer (some ⟨r1, 0, none⟩)), (4, .slice An p.code.length cn), (6, .int .i64 (p.code.length : Nat)), (7, .pointer (some ⟨rl, 0, none⟩)), (8, .slice (some ⟨rh, 0, none⟩) R R), (66, .slice A1 p.code.length c1), (67, .int .i64 (p.code.length : Nat)), (68, .int .i64 (j : Nat)), (10, .int .i64 (j : Nat)), (11, .pointer (some ⟨r11, 0, none⟩))] ∧ .c r11 [.int .i64 iop, .int .i64 (t : Nat), .int .i64 (a : Nat), .int .i64 (b : Nat), .int .i64 ic] :: .c rl [.int .i64 p.ins, .int .i64 p.regs, .slice A1 p.code.length c1, .slice A2 p.outs.length c2, .slice An p.code.length cn, .slice (some ⟨ra, 0, none⟩) p.code.length p.code.length, .slice (some ⟨rb, 0, none⟩) p.code.length p.code.length, .slice (some ⟨rs, 0, none⟩) p.code.length p.code.length, .slice none 0 0, .slice (some ⟨gu, 0, none⟩) (cntK p j) cu] :: .c rh (H.map vi) :: .c ra ((upto (aF p) p.code.length (j + 1)).map vi) :: .c rb ((upto (bF p) p.code.length (j + 1)).map vi) :: .c rs ((upto (sF p) p.code.length j).map vi) :: .g (.slice (some ⟨gu, 0, none⟩) (cntK p j) cu) 3 1 (cntK p j) ((untK p j).map vi) :: .c r1 [.int .i64 p.ins, .int .i64 p.regs, .slice A1 p.code.length c1, .slice A2 p.outs.length c2] :: own = o ∧ F2 = G') ?_ ?_
      · by_cases h2 : iop = 3 ∨ iop = 4
        · have hl : (Ins.mk iop (t : Nat) (a : Nat) (b : Nat) ic).asks.length = 2 := by unfold Ins.asks; rw [if_pos (show twoOp iop from h2)]; rfl
          rw [if_pos (show twoOp iop from h2)] at hbk
          refine goT ?_
          refine c_drww [.c r11 [.int .i64 iop, .int .i64 (t : Nat), .int .i64 (a : Nat), .int .i64 (b : Nat), .int .i64 ic], .c rl [.int .i64 p.ins, .int .i64 p.regs, .slice A1 p.code.length c1, .slice A2 p.outs.length c2, .slice An p.code.length cn, .slice (some ⟨ra, 0, none⟩) p.code.length p.code.length, .slice (some ⟨rb, 0, none⟩) p.code.length p.code.length, .slice (some ⟨rs, 0, none⟩) p.code.length p.code.length, .slice none 0 0, .slice (some ⟨gu, 0, none⟩) (cntK p j) cu], .c rh (H.map vi)] sl rfl (by decide +kernel) ?_
          refine go ?_
          refine ⟨_, _, _, ⟨rfl, rfl, rfl⟩, ⟨rfl, rfl, rfl, rfl, rfl, rfl, rfl, rfl, rfl, rfl, trivial⟩, ?_, rfl⟩
          rw [hsa, List.set_set, ← hbk, hbn, hsb]
          exact Turn.refl _ _
        · have hl : (Ins.mk iop (t : Nat) (a : Nat) (b : Nat) ic).asks.length = 1 := by unfold Ins.asks; rw [if_neg (show ¬ twoOp iop from h2)]; rfl
          rw [if_neg (show ¬ twoOp iop from h2)] at hbk
          refine go ?_
          refine ⟨_, _, _, ⟨rfl, rfl, rfl⟩, ⟨rfl, rfl, rfl, rfl, rfl, rfl, rfl, rfl, rfl, rfl, trivial⟩, ?_, rfl⟩
          rw [hsa, ← hsb, ← hbn, hbk, han]
          exact Turn.refl _ _
      · rintro _ _ _ b9 ⟨rfl, rfl, rfl⟩
        have hla2 := upto_len (aF p) p.code.length (j + 1)
        have hlb2 := upto_len (bF p) p.code.length (j + 1)
        have hga : (upto (aF p) p.code.length (j + 1)).getD j 0 = (an : Nat) := by rw [upto_at (by omega) (by omega), haF]
        have hgb : (upto (bF p) p.code.length (j + 1)).getD j 0 = (bn : Nat) := by rw [upto_at (by omega) (by omega), hbF]
        clear hbk hak
        refine goT ?_
        refine c_drww [.c rl [.int .i64 p.ins, .int .i64 p.regs, .slice A1 p.code.length c1, .slice A2 p.outs.length c2, .slice An p.code.length cn, .slice (some ⟨ra, 0, none⟩) p.code.length p.code.length, .slice (some ⟨rb, 0, none⟩) p.code.length p.code.length, .slice (some ⟨rs, 0, none⟩) p.code.length p.code.length, .slice none 0 0, .slice (some ⟨gu, 0, none⟩) (cntK p j) cu], .c ra ((upto (aF p) p.code.length (j + 1)).map vi), .c rb ((upto (bF p) p.code.length (j + 1)).map vi)] sl rfl (by decide +kernel) ?_
        refine go ?_
        rw [hga, hgb]
        refine go ?_
        refine o_storeg (q := 0) 6 rfl rfl rfl rfl (by rw [List.length_map]; omega) ?_ sl (.keep sl (Fle.refl _))
        simp only [List.set_cons_succ, List.set_cons_zero]
        refine go ?_
        refine o_storeg (q := 0) 6 rfl rfl rfl rfl (by rw [List.length_set, List.length_map]; omega) ?_ sl (.keep sl (Fle.refl _))
        simp only [List.set_cons_succ, List.set_cons_zero]
        refine o_nil sl ?_
        refine goT ?_
        refine c_drww [.c r11 [.int .i64 iop, .int .i64 (t : Nat), .int .i64 (a : Nat), .int .i64 (b : Nat), .int .i64 ic], .c rl [.int .i64 p.ins, .int .i64 p.regs, .slice A1 p.code.length c1, .slice A2 p.outs.length c2, .slice An p.code.length cn, .slice (some ⟨ra, 0, none⟩) p.code.length p.code.length, .slice (some ⟨rb, 0, none⟩) p.code.length p.code.length, .slice (some ⟨rs, 0, none⟩) p.code.length p.code.length, .slice none 0 0, .slice (some ⟨gu, 0, none⟩) (cntK p j) cu]] sl rfl (by decide +kernel) ?_
        refine go ?_
        refine o_lit rfl rfl rfl rfl rfl (fun r3 => ?_)
        refine o_app1 6 rfl rfl rfl rfl rfl rfl rfl (by omega) (by omega) (fun _ => rfl) (fun A' c' => ?_)
        refine go ?_
        obtain ⟨e1, e2, e3, _⟩ := hW.out
        refine ⟨_, _, _, _, ⟨j + 1, .slice A' (cntK p j + 1) c', rfl, rfl, rfl, hG.trans hF2, by omega⟩, ⟨rfl, rfl, rfl, rfl, rfl, rfl, rfl, eqI (by omega), trivial⟩, ?_, rfl, by omega⟩
        rw [e1, e2, e3, ← hss, List.map_append, List.map_set, List.map_set, List.map_set]
        exact Turn.drop
  · obtain rfl : j = p.code.length := by omega
    have hO := RowM.le hP1.outs hG
    have hU0 : (outV p).take 0 = [] := rfl
    refine go ?_
    have hla := upto_len (aF p) p.code.length p.code.length
    have hlb := upto_len (bF p) p.code.length p.code.length
    have hls := upto_len (sF p) p.code.length p.code.length
    have hov := outV_ok hok
    have hol : (outV p).length = p.outs.length := by unfold outV; rw [List.length_map]
    have hfold := fun k => unt_fold (n := ((p.code.length : Nat) : Int)) ((outV p).take k) (untK p p.code.length) (fun v hv => hov v (List.mem_of_mem_take hv))
    refine c_gslQ 5 rfl (by omega) (fun gu cu hgu e => ?_)
    subst e
    refine c_loopT (fun m X o G' => ∃ (k : Nat) (ov : Value), m = p.outs.length - k ∧ X = [(1, .pointer (some ⟨r1, 0, none⟩)), (4, .slice An p.code.length cn), (6, .int .i64 (p.code.length : Nat)), (7, .pointer (some ⟨rl, 0, none⟩)), (8, .slice (some ⟨rh, 0, none⟩) R R), (172, .slice A2 p.outs.length c2), (173, .int .i64 (p.outs.length : Nat)), (174, .int .i64 (k : Nat))] ∧ .c rl [.int .i64 p.ins, .int .i64 p.regs, .slice A1 p.code.length c1, .slice A2 p.outs.length c2, .slice An p.code.length cn, .slice (some ⟨ra, 0, none⟩) p.code.length p.code.length, .slice (some ⟨rb, 0, none⟩) p.code.length p.code.length, .slice (some ⟨rs, 0, none⟩) p.code.length p.code.length, ov, .slice (some ⟨gu, 0, none⟩) (cntK p p.code.length) cu] :: .c rh ((heldK p p.code.length).map vi) :: .c ra ((upto (aF p) p.code.length p.code.length).map vi) :: .c rb ((upto (bF p) p.code.length p.code.length).map vi) :: .c rs ((upto (sF p) p.code.length p.code.length).map vi) :: .g (.slice (some ⟨gu, 0, none⟩) (cntK p p.code.length) cu) 3 1 (cntK p p.code.length) ((((outV p).take k).foldl (fun U v => U.set v.toNat (p.code.length : Nat)) (untK p p.code.length)).map vi) :: .g ov 3 1 k (((outV p).take k).map vi) :: .c r1 [.int .i64 p.ins, .int .i64 p.regs, .slice A1 p.code.length c1, .slice A2 p.outs.length c2] :: own = o ∧ Fle G G' ∧ k ≤ p.outs.length)
      ⟨_, _, _, _, ⟨0, .slice none 0 0, rfl, rfl, rfl, Fle.refl _, by omega⟩, ⟨rfl, rfl, rfl, rfl, rfl, rfl, rfl, rfl, trivial⟩, (Turn.nil 3 1).trans (Turn.perm (pkP 1 rfl (pkP 1 rfl (pkP 1 rfl (pkP 1 rfl (pkP 1 rfl (pkP 1 rfl (.refl _)))))))) ⟩ ?_
    rintro _ _ _ G' b ⟨k, ov, rfl, rfl, rfl, hG', hk⟩
    have hO' := RowM.le hO hG'
    by_cases hkl : k < p.outs.length
    · have hr := hok.outs _ (getD_mem (z := 0) hkl)
      have hvk : (outV p).getD k 0 = hd_ (heldK p p.code.length) (p.outs.getD k 0) := by
        unfold outV
        rw [List.getD_eq_getElem?_getD, List.getElem?_map, List.getD_eq_getElem?_getD, List.getElem?_eq_getElem hkl]; rfl
      have hvm := hov _ (getD_mem (z := 0) (show k < (outV p).length by omega))
      have htk : (outV p).take (k + 1) = (outV p).take k ++ [(outV p).getD k 0] := by
        rw [List.take_add_one, List.getElem?_eq_getElem (by omega), List.getD_eq_getElem?_getD, List.getElem?_eq_getElem (by omega)]; rfl
      generalize hq : p.outs.getD k 0 = q at *
      obtain ⟨n, rfl⟩ : ∃ n : Nat, q = n := ⟨q.toNat, by omega⟩
      have hr1 := hr.2
      have hhd : hd_ (heldK p p.code.length) (n : Nat) = (heldK p p.code.length).getD n 0 := rfl
      rw [hhd] at hvk
      rw [hvk] at hvm htk
      obtain ⟨w, hw⟩ : ∃ w : Nat, (heldK p p.code.length).getD n 0 = w := ⟨((heldK p p.code.length).getD n 0).toNat, by omega⟩
      rw [hw] at hvm htk
      have hfl := (hfold k).1
      have hfs : (((outV p).take (k + 1)).foldl (fun U v => U.set v.toNat ((p.code.length : Nat) : Int)) (untK p p.code.length)) = (((outV p).take k).foldl (fun U v => U.set v.toNat ((p.code.length : Nat) : Int)) (untK p p.code.length)).set w (p.code.length : Nat) := by
        rw [htk, List.foldl_append]; rfl
      generalize ((outV p).take k).foldl (fun U v => U.set v.toNat ((p.code.length : Nat) : Int)) (untK p p.code.length) = U at *
      have huc : (untK p p.code.length).length = cntK p p.code.length := rfl
      clear hfold hvk
      refine goT ?_
      refine c_drww [.c rl [.int .i64 p.ins, .int .i64 p.regs, .slice A1 p.code.length c1, .slice A2 p.outs.length c2, .slice An p.code.length cn, .slice (some ⟨ra, 0, none⟩) p.code.length p.code.length, .slice (some ⟨rb, 0, none⟩) p.code.length p.code.length, .slice (some ⟨rs, 0, none⟩) p.code.length p.code.length, ov, .slice (some ⟨gu, 0, none⟩) (cntK p p.code.length) cu], .c rh ((heldK p p.code.length).map vi)] sl rfl (by decide +kernel) ?_
      refine go ?_
      refine o_val (.int .i64 (n : Nat)) (congrArg vi hq) ?_
      refine go ?_
      refine o_lit rfl rfl rfl rfl rfl (fun r3 => ?_) sl (fun _ => .keep sl (Fle.refl _))
      refine o_appW 6 rfl rfl rfl rfl rfl rfl rfl (by omega) (by omega) (fun _ => rfl) (fun _ => sl) sl (fun A' c' => ?_)
      refine goT ?_
      refine c_drww [.c rl [.int .i64 p.ins, .int .i64 p.regs, .slice A1 p.code.length c1, .slice A2 p.outs.length c2, .slice An p.code.length cn, .slice (some ⟨ra, 0, none⟩) p.code.length p.code.length, .slice (some ⟨rb, 0, none⟩) p.code.length p.code.length, .slice (some ⟨rs, 0, none⟩) p.code.length p.code.length, .slice A' (k + 1) c', .slice (some ⟨gu, 0, none⟩) (cntK p p.code.length) cu], .c rh ((heldK p p.code.length).map vi)] sl rfl (by decide +kernel) ?_
      refine go ?_
      refine o_val (.int .i64 (n : Nat)) (congrArg vi hq) ?_
      refine go ?_
      rw [hw]
      refine go ?_
      refine o_storeg (q := 0) 5 rfl rfl rfl rfl (by rw [List.length_map]; omega) ?_ sl (.keep sl (Fle.refl _))
      simp only [List.set_cons_succ, List.set_cons_zero]
      refine o_nil sl ?_
      refine go ?_
      refine ⟨_, _, _, _, ⟨k + 1, .slice A' (k + 1) c', rfl, rfl, rfl, hG', by omega⟩, ⟨rfl, rfl, rfl, rfl, rfl, rfl, rfl, eqI (by omega), trivial⟩, ?_, rfl, by omega⟩
      rw [hfs, htk, List.map_append, List.map_set]
      exact Turn.refl _ _
    · obtain rfl : k = p.outs.length := by omega
      have htk : (outV p).take p.outs.length = outV p := List.take_of_length_le (by omega)
      rw [htk]
      have huf : (outV p).foldl (fun U v => U.set v.toNat ((p.code.length : Nat) : Int)) (untK p p.code.length) = untF p := rfl
      rw [huf]
      have hufl := untF_len hok
      refine c_iceC 0 2 rfl hla (Nat.le_refl _) (fun h1 => ?_)
      refine c_iceC 0 2 rfl hlb (Nat.le_refl _) (fun h2 => ?_)
      refine c_iceC 0 2 rfl hls (Nat.le_refl _) (fun h3 => ?_)
      refine c_iceM (f := vi) 0 2 rfl (fun h4 => ?_)
      refine c_iceM (f := vi) 0 2 rfl (fun h5 => ?_)
      refine go ?_
      have l6 := fun F c => Fz.add_le F c
      have hA := fun (F : Fz) (vs : List Value) => (show Cs (F.add (.c rl vs)) ⟨rl, 0, none⟩ vs from fun i v hi => .inr (by
        have : Of ((⟨rl, 0, none⟩ : Addr).add i) rl (0 + i) := inferInstance
        rw [at_c this, Nat.zero_add]; exact hi))
      exact b_ret rfl (.cons (.tmp rfl) (.cons (.tmp rfl) .nil)) (Turn.ice.trans (Turn.skip Turn.drop)) ⟨rfl, hF1.trans (hG.trans (hG'.trans ((l6 _ _).trans ((l6 _ _).trans ((l6 _ _).trans ((l6 _ _).trans ((l6 _ _).trans (l6 _ _)))))))), ⟨rl, 0, none⟩, rfl, ⟨_, _, _, _, _, _, _, _, hA _ _, hN.le (hG.trans (hG'.trans ((l6 _ _).trans ((l6 _ _).trans ((l6 _ _).trans ((l6 _ _).trans ((l6 _ _).trans (l6 _ _)))))))), h1.le ((l6 _ _).trans ((l6 _ _).trans ((l6 _ _).trans ((l6 _ _).trans (l6 _ _))))), h2.le ((l6 _ _).trans ((l6 _ _).trans ((l6 _ _).trans (l6 _ _)))), h3.le ((l6 _ _).trans ((l6 _ _).trans (l6 _ _))), h5.le (l6 _ _), h4.le ((l6 _ _).trans (l6 _ _))⟩⟩
end Go.Proofs.YthkoodpnepfijaaGreatDoor

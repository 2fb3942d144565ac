/-
  Steps towards TopCounts (no conditions of their own): WALKS: slices: AppendSeq, Collect; bits.Len; Sort of what is sorted. WALKS: slices: Sort, Sorted, of what is sorted. PLAINLY: two points are one just if they are not apart. WALKS: synth: Right, Ordered, Program. WALKS: whole numbers: made, Make, Neg, Abs, Sign, Cmp, Mul.
-/
import Derived.Test.YthkoodpnepfijaaGreatDoorM11
import Derived.Test.YthkoodpnepfijaaGreatDoorM14
import Derived.Test.YthkoodpnepfijaaGreatDoorM15
/- X9: WALKS: slices: AppendSeq, Collect; bits.Len; Sort of what is sorted. -/
namespace Go.Proofs.YthkoodpnepfijaaGreatDoor
open Go.RowKit
set_option linter.unusedVariables false
set_option linter.unusedSimpArgs false
set_option maxRecDepth 100000
set_option maxHeartbeats 1000000
theorem appendSeq145 {F : Fz} {A : Addr} {v : Value} {l : List Nat} (hA : F A v) (hr : NatsR F v l) (hl : l.length < 1000000) : Pu 145 [.slice none 0 0, .func (.func 119) #[] #[.pointer (some A)]] F fun u F' => NatsR F' u l := fun own => by
  have hIt := values119 hA hr (by omega)
  refine n_funD Tryz.func145 Tryz.ntmps145 rfl rfl rfl ?_
  refine go ?_
  intro r2
  refine go ?_
  refine c_turn (own' := .c r2 [.slice none 0 0] :: .g (.slice none 0 0) 3 1 0 [] :: own) (F' := F) ((Turn.nil 3 1).trans (Turn.perm (pick_perm (p := 1) rfl))) ?_
  refine c_range (ps := [7]) (capt := [.pointer (some A)]) (xs := l.map fun z => [vn z]) (fun vs => (5, vs.headD undef) :: (7, vs.headD undef) :: [(6, .func (.func 119) #[] #[.pointer (some A)]), (2, .pointer (some ⟨r2, 0, none⟩))])
    (fun i o G => ∃ w, o = .c r2 [w] :: .g w 3 1 i ((l.take i).map vn) :: own) (fun _ _ _ _ h _ => h) rfl hIt (fun vs hvs => by obtain ⟨z, _, rfl⟩ := List.mem_map.1 hvs; rfl) ⟨_, by rw [List.take_zero]; rfl⟩ ?_ ?_ ?_
  · intro vs hvs L o G
    obtain ⟨z, _, rfl⟩ := List.mem_map.1 hvs
    refine c_frame [(7, vn z), (6, .func (.func 119) #[] #[.pointer (some A)]), (2, .pointer (some ⟨r2, 0, none⟩))] ⟨rfl, rfl, rfl, trivial⟩ fun b => ?_
    refine go ?_
    exact ⟨rfl, _, rfl⟩
  · rintro i vs hvs L b _ G tail ⟨w, rfl⟩ hG
    have hil : i < l.length := by have := (List.getElem?_eq_some_iff.1 hvs).1; simpa using this
    have hz : vs = [vn (l.getD i 0)] := by
      rw [List.getElem?_map, List.getElem?_eq_getElem hil] at hvs
      rw [List.getD_eq_getElem?_getD, List.getElem?_eq_getElem hil]
      exact (Option.some.inj hvs).symm
    subst hz
    simp only [List.cons_append]
    refine go ?_
    refine o_lit rfl rfl rfl rfl rfl (fun r => ?_)
    refine o_app1 1 rfl rfl rfl rfl rfl rfl rfl (by omega) (by omega) (fun _ => rfl) (fun A' c' => ?_)
    refine go ?_
    refine ⟨rfl, .c r2 [.slice A' (i + 1) c'] :: .g (.slice A' (i + 1) c') 3 1 (i + 1) ((l.take (i + 1)).map vn) :: own, G, ?_, ⟨_, rfl⟩, Fle.refl _⟩
    rw [List.take_add_one, List.map_append, List.getElem?_eq_getElem hil, List.getD_eq_getElem?_getD, List.getElem?_eq_getElem hil]
    exact Turn.refl _ _
  · rintro D _ G ⟨w, rfl⟩ hG
    rw [List.length_map, List.take_length]
    dsimp only
    refine norm_Inb (norm_Thn ?_)
    refine c_iceM (l := l) (f := vn) 0 2 rfl (fun hO => ?_)
    refine go ?_
    exact ⟨D, _, rfl, rfl, _, own, _, .cons (.tmp rfl) .nil, Turn.drop, rfl, hG.trans (Fz.add_le _ _), hO⟩
theorem collect117 {F : Fz} {A : Addr} {v : Value} {l : List Nat} (hA : F A v) (hr : NatsR F v l) (hl : l.length < 1000000) : Pu 117 [.func (.func 119) #[] #[.pointer (some A)]] F fun u F' => NatsR F' u l := fun own => by
  refine n_fun Tryz.func117 Tryz.ntmps117 rfl rfl rfl ?_
  refine go ?_
  refine o_pu rfl (appendSeq145 hA hr hl) (fun v1 F1 hF1 h1 => ?_)
  refine go ?_
  exact b_ret rfl (.cons (.tmp rfl) .nil) (Turn.refl _ _) ⟨rfl, hF1, h1⟩
instance nan207 (a : Int) : ScF 207 [.int .i64 a] (.bool false) True := ⟨fun _ F own => by
  refine n_fun Tryz.func207 Tryz.ntmps207 rfl rfl rfl ?_
  refine go ?_
  exact b_ret rfl (.cons (.tmp rfl) .nil) (Turn.refl _ _) ⟨rfl, rfl, by simp [tupV]⟩⟩
instance less188 (a b : Int) : ScF 188 [.int .i64 a, .int .i64 b] (.bool (decide (a < b))) True := ⟨fun _ F own => by
  refine n_fun Tryz.func188 Tryz.ntmps188 rfl rfl rfl ?_
  refine go ?_
  exact b_ret rfl (.cons (.tmp rfl) .nil) (Turn.refl _ _) ⟨rfl, rfl, rfl⟩⟩
section
variable {F : Fz} {v : Value} {n : Nat}
theorem getD_range {n i : Nat} (h : i < n) : (List.range n).getD i 0 = i := by simp [List.getD_eq_getElem?_getD, h]
theorem insertion182 (hr : NatsR F v (List.range n)) (hn : n ≤ 1000000) : Ps 182 [v, .int .i64 0, .int .i64 (n : Nat)] F fun _ => True := fun own => by
  refine n_fun Tryz.func182 Tryz.ntmps182 rfl rfl rfl ?_
  refine go ?_
  refine c_loopT (fun mm X o G => ∃ i : Nat, mm = n - i ∧ X = [(0, v), (1, .int .i64 0), (2, .int .i64 (n : Nat)), (6, .int .i64 (i : Nat))] ∧ own = o ∧ F = G ∧ 1 ≤ i) ⟨_, _, _, _, ⟨1, rfl, rfl, rfl, rfl, by omega⟩, ⟨rfl, rfl, rfl, rfl, trivial⟩, Turn.refl _ _⟩ ?_
  rintro _ _ _ _ b ⟨i, rfl, rfl, rfl, rfl, hi⟩
  have hlr : (List.range n).length = n := List.length_range
  by_cases hin : i < n
  · refine go ?_
    refine c_loopT (fun mm X o G => mm = 0 ∧ X = [(0, v), (1, .int .i64 0), (2, .int .i64 (n : Nat)), (6, .int .i64 (i : Nat)), (7, .int .i64 (i : Nat))] ∧ own = o ∧ F = G) ⟨_, _, _, _, ⟨rfl, rfl, rfl, rfl⟩, ⟨rfl, rfl, rfl, rfl, rfl, trivial⟩, Turn.refl _ _⟩ ?_
    rintro _ _ _ _ b ⟨rfl, rfl, rfl, rfl⟩
    have h1 := getD_range hin
    have h2 := getD_range (n := n) (i := i - 1) (by omega)
    refine go ?_
    rw [h1, h2]
    refine o_sc rfl (less188 _ _) True.intro sl ?_
    refine go ?_
    exact ⟨_, _, _, _, ⟨i + 1, rfl, rfl, rfl, rfl, by omega⟩, ⟨rfl, rfl, rfl, eqI (by omega), trivial⟩, Turn.refl _ _, rfl, by omega⟩
  · refine go ?_
    exact b_norm rfl .nil (Turn.refl _ _) ⟨rfl, rfl, trivial⟩
theorem order214 {A : Value} {i j : Nat} (hr : NatsR F v (List.range n)) (hi : i < n) (hj : j < n) (hij : i ≤ j) : Ps 214 [v, .int .i64 (i : Nat), .int .i64 (j : Nat), A] F fun u => u = .tuple #[.int .i64 (i : Nat), .int .i64 (j : Nat)] := fun own => by
  have hlr : (List.range n).length = n := List.length_range
  have h1 := getD_range hi
  have h2 := getD_range hj
  refine n_fun Tryz.func214 Tryz.ntmps214 rfl rfl rfl ?_
  refine go ?_
  rw [h1, h2]
  refine o_sc rfl (less188 _ _) True.intro sl ?_
  refine go ?_
  exact b_ret rfl (.cons (.tmp rfl) (.cons (.tmp rfl) .nil)) (Turn.refl _ _) ⟨rfl, rfl, rfl⟩
theorem median206 {A : Value} {i j k : Nat} (hr : NatsR F v (List.range n)) (hk : k < n) (hij : i ≤ j) (hjk : j ≤ k) : Ps 206 [v, .int .i64 (i : Nat), .int .i64 (j : Nat), .int .i64 (k : Nat), A] F fun u => u = .int .i64 (j : Nat) := fun own => by
  refine n_fun Tryz.func206 Tryz.ntmps206 rfl rfl rfl ?_
  refine go ?_
  refine o_ps rfl (order214 hr (by omega) (by omega) hij) (fun _ e => ?_)
  subst e
  refine go ?_
  refine o_ps rfl (order214 hr (by omega) hk hjk) (fun _ e => ?_)
  subst e
  refine go ?_
  refine o_ps rfl (order214 hr (by omega) (by omega) hij) (fun _ e => ?_)
  subst e
  refine go ?_
  exact b_ret rfl (.cons (.tmp rfl) .nil) (Turn.refl _ _) ⟨rfl, rfl, rfl⟩
theorem partial187 (hr : NatsR F v (List.range n)) (hn : n ≤ 1000000) (h1 : 1 ≤ n) : Ps 187 [v, .int .i64 0, .int .i64 (n : Nat)] F fun u => u = .bool true := fun own => by
  have hlr : (List.range n).length = n := List.length_range
  refine n_fun Tryz.func187 Tryz.ntmps187 rfl rfl rfl ?_
  refine go ?_
  refine c_loopT (fun mm X o G => mm = 0 ∧ X = [(0, v), (1, .int .i64 0), (2, .int .i64 (n : Nat)), (7, .int .i64 1), (8, .int .i64 0)] ∧ own = o ∧ F = G) ⟨_, _, _, _, ⟨rfl, rfl, rfl, rfl⟩, ⟨rfl, rfl, rfl, rfl, rfl, trivial⟩, Turn.refl _ _⟩ ?_
  rintro _ _ _ _ b ⟨rfl, rfl, rfl, rfl⟩
  refine go ?_
  refine c_loopT (fun mm X o G => ∃ i : Nat, mm = n - i ∧ X = [(0, v), (1, .int .i64 0), (2, .int .i64 (n : Nat)), (7, .int .i64 (i : Nat)), (8, .int .i64 0)] ∧ own = o ∧ F = G ∧ 1 ≤ i ∧ i ≤ n) ⟨_, _, _, _, ⟨1, rfl, rfl, rfl, rfl, by omega, by omega⟩, ⟨rfl, rfl, rfl, rfl, rfl, trivial⟩, Turn.refl _ _⟩ ?_
  rintro _ _ _ _ b ⟨i, rfl, rfl, rfl, rfl, hi, hi2⟩
  by_cases hin : i < n
  · have h1 := getD_range hin
    have h2 := getD_range (n := n) (i := i - 1) (by omega)
    refine go ?_
    rw [h1, h2]
    refine o_sc rfl (less188 _ _) True.intro sl ?_
    refine go ?_
    exact ⟨_, _, _, _, ⟨i + 1, rfl, rfl, rfl, rfl, by omega, by omega⟩, ⟨rfl, rfl, rfl, eqI (by omega), rfl, trivial⟩, Turn.refl _ _, rfl, by omega⟩
  · obtain rfl : i = n := by omega
    refine go ?_
    exact b_ret rfl (.cons (.tmp rfl) .nil) (Turn.refl _ _) ⟨rfl, rfl, rfl⟩
theorem len192 (h8 : 8 ≤ n) (hn : n ≤ 15) : Ps 192 [.int .u64 (n : Nat)] F fun u => u = .int .i64 4 := fun own => by
  have hall : n = 8 ∨ n = 9 ∨ n = 10 ∨ n = 11 ∨ n = 12 ∨ n = 13 ∨ n = 14 ∨ n = 15 := by omega
  refine n_fun Tryz.func192 Tryz.ntmps192 rfl rfl rfl ?_
  rcases hall with rfl | rfl | rfl | rfl | rfl | rfl | rfl | rfl
  all_goals
    refine go ?_
    first
      | refine o_sidx str9 8 4 rfl rfl (by omega) rfl rfl ?_
      | refine o_sidx str9 9 4 rfl rfl (by omega) rfl rfl ?_
      | refine o_sidx str9 10 4 rfl rfl (by omega) rfl rfl ?_
      | refine o_sidx str9 11 4 rfl rfl (by omega) rfl rfl ?_
      | refine o_sidx str9 12 4 rfl rfl (by omega) rfl rfl ?_
      | refine o_sidx str9 13 4 rfl rfl (by omega) rfl rfl ?_
      | refine o_sidx str9 14 4 rfl rfl (by omega) rfl rfl ?_
      | refine o_sidx str9 15 4 rfl rfl (by omega) rfl rfl ?_
    refine go ?_
    exact b_ret rfl (.cons (.tmp rfl) .nil) (Turn.refl _ _) ⟨rfl, rfl, rfl⟩
end
end Go.Proofs.YthkoodpnepfijaaGreatDoor
/- XA: WALKS: slices: Sort, Sorted, of what is sorted. -/
namespace Go.Proofs.YthkoodpnepfijaaGreatDoor
open Go.RowKit
set_option linter.unusedVariables false
set_option linter.unusedSimpArgs false
set_option maxRecDepth 100000
set_option maxHeartbeats 1000000
section
variable {F : Fz} {v : Value} {n : Nat}
theorem median206z {A : Value} {i j k : Nat} {zi zj zk : Int} (hr : NatsR F v (List.range n)) (hk : k < n) (hij : i ≤ j) (hjk : j ≤ k) (h1 : zi = i) (h2 : zj = j) (h3 : zk = k) : Ps 206 [v, .int .i64 zi, .int .i64 zj, .int .i64 zk, A] F fun u => u = .int .i64 (j : Nat) := by
  subst h1 h2 h3; exact median206 hr hk hij hjk
theorem choose185 (hr : NatsR F v (List.range n)) (h8 : 8 ≤ n) (hn : n ≤ 49) : Ps 185 [v, .int .i64 0, .int .i64 (n : Nat)] F fun u => ∃ z, u = .tuple #[.int .i64 z, .int .i64 1] := fun own => by
  refine n_fun Tryz.func185 Tryz.ntmps185 rfl rfl rfl ?_
  refine go ?_
  intro r9
  refine go ?_
  refine o_ps rfl (median206z (i := n / 4) (j := n / 4 * 2) (k := n / 4 * 3) hr (by omega) (by omega) (by omega) (by omega) (by omega) (by omega)) (fun _ e => ?_)
  subst e
  refine go ?_
  exact b_ret rfl (.cons (.tmp rfl) (.cons (.tmp rfl) .nil)) Turn.drop ⟨rfl, rfl, _, rfl⟩
theorem pdq146 (hr : NatsR F v (List.range n)) (hn : n ≤ 15) (h1 : 1 ≤ n) {z : Int} (hz : 8 ≤ n → z = 4) : Ps 146 [v, .int .i64 0, .int .i64 (n : Nat), .int .i64 z] F fun _ => True := fun own => by
  refine n_fun Tryz.func146 Tryz.ntmps146 rfl rfl rfl ?_
  refine go ?_
  refine c_loopT (fun mm X o G => mm = 0 ∧ X = [(0, v), (1, .int .i64 0), (2, .int .i64 (n : Nat)), (3, .int .i64 z), (8, .bool true), (9, .bool true)] ∧ own = o ∧ F = G) ⟨_, _, _, _, ⟨rfl, rfl, rfl, rfl⟩, ⟨rfl, rfl, rfl, rfl, rfl, rfl, trivial⟩, Turn.refl _ _⟩ ?_
  rintro _ _ _ _ b ⟨rfl, rfl, rfl, rfl⟩
  by_cases h12 : n ≤ 12
  · refine go ?_
    refine o_ps rfl (insertion182 hr (by omega)) (fun _ _ => ?_)
    refine go ?_
    exact b_ret rfl .nil (Turn.refl _ _) ⟨rfl, rfl, trivial⟩
  · have hz4 := hz (by omega)
    subst hz4
    refine go ?_
    refine o_ps rfl (choose185 hr (by omega) (by omega)) (fun _ ⟨z, e⟩ => ?_)
    subst e
    refine go ?_
    refine o_ps rfl (partial187 hr (by omega) h1) (fun _ e => ?_)
    subst e
    refine go ?_
    exact b_ret rfl .nil (Turn.refl _ _) ⟨rfl, rfl, trivial⟩
theorem len192z (hn : n ≤ 15) : Ps 192 [.int .u64 (n : Nat)] F fun u => ∃ z : Int, u = .int .i64 z ∧ (8 ≤ n → z = 4) := fun own => by
  by_cases h8 : 8 ≤ n
  · exact (len192 h8 hn own).mono fun v o G ⟨e1, e2, e3⟩ => ⟨e1, e2, 4, e3, fun _ => rfl⟩
  · have hall : n = 0 ∨ n = 1 ∨ n = 2 ∨ n = 3 ∨ n = 4 ∨ n = 5 ∨ n = 6 ∨ n = 7 := by omega
    refine n_fun Tryz.func192 Tryz.ntmps192 rfl rfl rfl ?_
    rcases hall with rfl | rfl | rfl | rfl | rfl | rfl | rfl | rfl
    all_goals
      refine go ?_
      first
        | refine o_sidx str9 0 0 rfl rfl (by omega) rfl rfl ?_
        | refine o_sidx str9 1 1 rfl rfl (by omega) rfl rfl ?_
        | refine o_sidx str9 2 2 rfl rfl (by omega) rfl rfl ?_
        | refine o_sidx str9 3 2 rfl rfl (by omega) rfl rfl ?_
        | refine o_sidx str9 4 3 rfl rfl (by omega) rfl rfl ?_
        | refine o_sidx str9 5 3 rfl rfl (by omega) rfl rfl ?_
        | refine o_sidx str9 6 3 rfl rfl (by omega) rfl rfl ?_
        | refine o_sidx str9 7 3 rfl rfl (by omega) rfl rfl ?_
      refine go ?_
      exact b_ret rfl (.cons (.tmp rfl) .nil) (Turn.refl _ _) ⟨rfl, rfl, _, rfl, fun h => by omega⟩
theorem len147 (h0 : n ≤ 15) : Ps 147 [.int .u64 (n : Nat)] F fun u => ∃ z : Int, u = .int .i64 z ∧ (8 ≤ n → z = 4) := fun own => by
  refine n_fun Tryz.func147 Tryz.ntmps147 rfl rfl rfl ?_
  refine go ?_
  refine o_ps rfl (len192z h0) (fun _ ⟨z, e, hz⟩ => ?_)
  subst e
  refine go ?_
  exact b_ret rfl (.cons (.tmp rfl) .nil) (Turn.refl _ _) ⟨rfl, rfl, z, rfl, hz⟩
theorem sort118 (hr : NatsR F v (List.range n)) (hn : n ≤ 15) (h1 : 1 ≤ n) : Ps 118 [v] F fun _ => True := fun own => by
  have hlr : (List.range n).length = n := List.length_range
  refine n_fun Tryz.func118 Tryz.ntmps118 rfl rfl rfl ?_
  refine go ?_
  rw [hlr]
  refine o_ps rfl (len147 hn) (fun _ ⟨z, e, hz⟩ => ?_)
  subst e
  refine go ?_
  refine o_ps rfl (pdq146 hr hn h1 hz) (fun _ _ => ?_)
  refine go ?_
  exact b_norm rfl .nil (Turn.refl _ _) ⟨rfl, rfl, trivial⟩
theorem sorted78 {A : Addr} (hA : F A v) (hr : NatsR F v (List.range n)) (hn : n ≤ 15) (h1 : 1 ≤ n) : Pu 78 [.func (.func 119) #[] #[.pointer (some A)]] F fun u F' => NatsR F' u (List.range n) := fun own => by
  refine n_fun Tryz.func78 Tryz.ntmps78 rfl rfl rfl ?_
  refine go ?_
  refine o_pu rfl (collect117 hA hr (by rw [List.length_range]; omega)) (fun v1 F1 hF1 h2 => ?_)
  refine go ?_
  refine o_ps rfl (sort118 h2 hn h1) (fun _ _ => ?_)
  refine go ?_
  exact b_ret rfl (.cons (.tmp rfl) .nil) (Turn.refl _ _) ⟨rfl, hF1, h2⟩
end
end Go.Proofs.YthkoodpnepfijaaGreatDoor
/- PW: PLAINLY: two points are one just if they are not apart. -/
namespace Go.Proofs.YthkoodpnepfijaaGreatDoor
set_option linter.unusedVariables false
theorem norm_prim {p : Pnt} (h : BzOk p) : normP p = if (prim p).B < 0 ∨ ((prim p).B = 0 ∧ (prim p).A < 0) then ⟨-(prim p).A, -(prim p).B⟩ else prim p := by
  have hg := h.g0
  have ha := h.pa
  have hb := h.pb
  unfold normP
  rw [if_neg (by omega)]
  have e1 : ∀ x : Int, (gcdP p * x < 0 ↔ x < 0) := fun x => ⟨fun hx => by
    rcases Int.lt_or_le x 0 with h1 | h1
    · exact h1
    · have := Int.mul_nonneg (by omega : 0 ≤ gcdP p) h1
      omega, fun hx => Int.mul_neg_of_pos_of_neg hg hx⟩
  have e2 : ∀ x : Int, (gcdP p * x = 0 ↔ x = 0) := fun x => by
    rw [Int.mul_eq_zero]; constructor
    · rintro (h | h)
      · omega
      · exact h
    · exact .inr
  have hc : (p.B < 0 ∨ (p.B = 0 ∧ p.A < 0)) ↔ ((prim p).B < 0 ∨ ((prim p).B = 0 ∧ (prim p).A < 0)) := by
    conv => lhs; rw [ha, hb]
    rw [e1, e2, e1]
  by_cases h1 : p.B < 0 ∨ (p.B = 0 ∧ p.A < 0)
  · rw [if_pos h1, if_pos (hc.1 h1), Int.tdiv_neg, Int.tdiv_neg]; rfl
  · rw [if_neg h1, if_neg (fun h => h1 (hc.2 h))]; rfl
theorem norm_one {p q : Pnt} (hp : InP p) (hpn : ¬ NotP p) (hq : InP q) (hqn : ¬ NotP q) (hd : p.A * q.B - q.A * p.B = 0) : normP p = normP q := by
  have bp := bz_ok hp hpn
  have bq := bz_ok hq hqn
  have bpp := bz_ok bp.pin bp.pn
  have bqq := bz_ok bq.pin bq.pn
  rw [norm_prim bp, norm_prim bq]
  have h1 := bpp.eq
  have h2 := bqq.eq
  rw [bp.pg] at h1
  rw [bq.pg] at h2
  have hdet : (prim p).A * (prim q).B - (prim q).A * (prim p).B = 0 := by
    rw [bp.pa, bp.pb, bq.pa, bq.pb] at hd
    have e : gcdP p * (prim p).A * (gcdP q * (prim q).B) - gcdP q * (prim q).A * (gcdP p * (prim p).B) = (gcdP p * gcdP q) * ((prim p).A * (prim q).B - (prim q).A * (prim p).B) := by grind
    rw [e] at hd
    rcases Int.mul_eq_zero.1 hd with h | h
    · rcases Int.mul_eq_zero.1 h with h | h
      · have := bp.g0; omega
      · have := bq.g0; omega
    · exact h
  clear bpp bqq bp bq hd hp hq hpn hqn
  generalize (bezP (prim p)).1 = u at *
  generalize (bezP (prim p)).2 = v at *
  generalize (bezP (prim q)).1 = u' at *
  generalize (bezP (prim q)).2 = v' at *
  generalize prim p = P at *
  generalize prim q = Q at *
  obtain ⟨A, B⟩ := P
  obtain ⟨C, D⟩ := Q
  simp only at *
  have hC : C = (u * C + v * D) * A := by grind
  have hD : D = (u * C + v * D) * B := by grind
  have hkk : (u * C + v * D) * (u' * A + v' * B) = 1 := by grind
  generalize hk : u * C + v * D = k at *
  have hk1 : k = 1 ∨ k = -1 := by
    have h := congrArg Int.natAbs hkk
    rw [Int.natAbs_mul] at h
    have := Nat.eq_one_of_mul_eq_one_right h
    omega
  rcases hk1 with rfl | rfl
  · have e1 : C = A := by omega
    have e2 : D = B := by omega
    rw [e1, e2]
  · have e1 : C = -A := by omega
    have e2 : D = -B := by omega
    have hne : ¬ (A = 0 ∧ B = 0) := fun ⟨x, y⟩ => by rw [x, y] at h1; simp at h1
    rw [e1, e2]
    by_cases hs : B < 0 ∨ (B = 0 ∧ A < 0)
    · rw [if_pos hs, if_neg (by omega)]
    · rw [if_neg hs, if_pos (by omega)]; simp
/-- Right points, as the program tells. -/
structure RightQ (l : List Pnt) : Prop where
  len : 1 ≤ l.length
  len15 : l.length ≤ 15
  inp : ∀ p ∈ l, InP p
  notp : ∀ p ∈ l, ¬ NotP p
  twin : ¬ TwinP l
theorem RightQ.right {l : List Pnt} (h : RightQ l) : RightP l := ⟨h.len, h.len15, h.inp, h.notp, fun i j hi hj hij hd => by
  have hpi : ptAt l i ∈ l := getD_mem hi
  have hpj : ptAt l j ∈ l := getD_mem hj
  have e := norm_one (h.inp _ hpi) (h.notp _ hpi) (h.inp _ hpj) (h.notp _ hpj) hd
  rcases Nat.lt_or_gt_of_ne hij with k | k
  · exact h.twin ⟨i, j, k, hj, e⟩
  · exact h.twin ⟨j, i, k, hi, e.symm⟩⟩
end Go.Proofs.YthkoodpnepfijaaGreatDoor
/- XB: WALKS: synth: Right, Ordered, Program. -/
namespace Go.Proofs.YthkoodpnepfijaaGreatDoor
open Go.RowKit
set_option linter.unusedVariables false
set_option linter.unusedSimpArgs false
set_option maxRecDepth 100000
set_option maxHeartbeats 1000000
theorem right76 {v : Value} {l : List Pnt} {F : Fz} (hl : PtsR F v l) (hlen : l.length < 1099511627776) : Ps 76 [v] F fun u => ∃ t, u = .bool t ∧ (t = true ↔ RightQ l) := fun own => by
  refine n_fun Tryz.func76 Tryz.ntmps76 rfl rfl rfl ?_
  by_cases hb : 1 ≤ l.length ∧ l.length ≤ 15
  · refine go ?_
    refine c_loopT (fun mm X o G => ∃ i : Nat, mm = l.length - i ∧ X = [(0, v), (16, v), (17, .int .i64 (l.length : Nat)), (18, .int .i64 (i : Nat))] ∧ own = o ∧ F = G ∧ i ≤ l.length ∧ ∀ j, j < i → InP (l.getD j z0P) ∧ ¬ NotP (l.getD j z0P)) ⟨_, _, _, _, ⟨0, rfl, rfl, rfl, rfl, by omega, fun j h => by omega⟩, ⟨rfl, rfl, rfl, rfl, trivial⟩, Turn.refl _ _⟩ ?_
    rintro _ _ _ _ b ⟨i, rfl, rfl, rfl, rfl, hi, hq⟩
    by_cases hil : i < l.length
    · generalize hp : l.getD i z0P = p at *
      have hpm : p ∈ l := by rw [← hp]; exact getD_mem hil
      by_cases h1 : InP p
      · have h1' : -16 ≤ p.A ∧ p.A ≤ 16 ∧ -16 ≤ p.B ∧ p.B ≤ 16 := h1
        by_cases h2 : NotP p
        · have h2' : p.A = 0 ∧ p.B = 0 := h2
          refine go ?_
          intro r
          rw [hp]
          refine go ?_
          exact b_ret rfl (.cons (.tmp rfl) .nil) Turn.drop ⟨rfl, rfl, false, rfl, by simp; exact fun h => h.notp p hpm h2⟩
        · have h2' : ¬ (p.A = 0 ∧ p.B = 0) := h2
          refine go ?_
          intro r
          rw [hp]
          refine go ?_
          exact ⟨_, _, _, _, ⟨i + 1, rfl, rfl, rfl, rfl, by omega, fun j hj => by
            by_cases hji : j = i
            · subst hji; rw [hp]; exact ⟨h1, h2⟩
            · exact hq j (by omega)⟩, ⟨rfl, rfl, rfl, eqI (by omega), trivial⟩, Turn.drop, rfl, by omega⟩
      · have h1' : ¬ (-16 ≤ p.A ∧ p.A ≤ 16 ∧ -16 ≤ p.B ∧ p.B ≤ 16) := h1
        refine go ?_
        intro r
        rw [hp]
        refine go ?_
        exact b_ret rfl (.cons (.tmp rfl) .nil) Turn.drop ⟨rfl, rfl, false, rfl, by simp; exact fun h => h1 (h.inp p hpm)⟩
    · have hall : ∀ p ∈ l, InP p ∧ ¬ NotP p := fun p hp => by
        obtain ⟨j, hj, rfl⟩ := List.getElem_of_mem hp
        have := hq j (by omega)
        rwa [List.getD_eq_getElem?_getD, List.getElem?_eq_getElem hj] at this
      refine go ?_
      refine o_ps rfl (twins42 hl (fun p hp => (hall p hp).1) hlen) (fun _ ⟨i1, j1, t, e, ht⟩ => ?_)
      subst e
      refine go ?_
      refine b_ret rfl (.cons (.tmp rfl) .nil) (Turn.refl _ _) ⟨rfl, rfl, !t, rfl, ?_⟩
      constructor
      · intro h
        have ht' : t = false := by simpa using h
        exact ⟨hb.1, hb.2, fun p hp => (hall p hp).1, fun p hp => (hall p hp).2, fun h => by rw [ht.2 h] at ht'; cases ht'⟩
      · intro h
        cases t
        · rfl
        · exact absurd (ht.1 rfl) h.twin
  · by_cases hb1 : 1 ≤ l.length
    all_goals
      refine go ?_
      exact b_ret rfl (.cons (.tmp rfl) .nil) (Turn.refl _ _) ⟨rfl, rfl, false, rfl, by simp; exact fun h => hb ⟨h.len, h.len15⟩⟩
theorem ordered47 {lv ov : Value} {l : List Pnt} {F : Fz} (hl : PtsR F lv l) (ho : NatsR F ov (List.range l.length)) (hr : RightQ l) :
    Pu 47 [lv, ov] F fun v F' => ∃ cv ov', v = .tuple #[vPr (madeP l) cv ov', .int .i64 0] ∧ PrR F' cv ov' (madeP l) := fun own => by
  have hlen := hr.len
  have hlen15 := hr.len15
  obtain ⟨Al, cl, rfl⟩ := hl.dest
  obtain ⟨Ao, co, rfl⟩ := ho.dest
  rw [List.length_range] at ho ⊢
  refine n_fun Tryz.func47 Tryz.ntmps47 rfl rfl rfl ?_
  refine go ?_
  intro r4
  refine go ?_
  refine o_ps rfl (right76 hl (by omega)) (fun _ ⟨t, e, ht⟩ => ?_)
  have htt : t = true := ht.2 hr
  subst htt e
  refine go ?_
  refine o_pu rfl values79 (fun v1 F1 hF1 ⟨A, e, hA⟩ => ?_)
  subst e
  refine go ?_
  refine o_pu rfl (sorted78 hA (RowM.le ho hF1) hlen15 hlen) (fun v2 F2 hF2 h2 => ?_)
  refine go ?_
  refine o_pu rfl (natural48 (by omega)) (fun v3 F3 hF3 h3 => ?_)
  refine go ?_
  refine o_ps rfl (equal77 (RowM.le h2 hF3) h3 (by rw [List.length_range]; omega)) (fun v4 e => ?_)
  have e' : v4 = .bool true := by rw [e]; simp
  subst e'
  refine go ?_
  have hF13 := (hF1.trans hF2).trans hF3
  refine o_pu rfl (made80 (PtsR.le' hl hF13) (RowM.le ho hF13) hr.right) (fun v5 F5 hF5 ⟨cv, ov', e5, hP⟩ => ?_)
  subst e5
  obtain ⟨A1, c1, h1⟩ := hP.code.dest
  obtain ⟨A2, c2, h2'⟩ := hP.outs.dest
  subst h1 h2'
  refine go ?_
  exact b_ret rfl (.cons (.cella rfl rfl (rdsW 0 rfl)) (.cons (.tmp rfl) .nil)) Turn.drop ⟨rfl, hF13.trans hF5, _, _, rfl, hP⟩
theorem program27 {lv : Value} {l : List Pnt} {F : Fz} (hl : PtsR F lv l) (hr : RightQ l) :
    Pu 27 [lv] F fun v F' => ∃ cv ov', v = .tuple #[vPr (madeP l) cv ov', .int .i64 0] ∧ PrR F' cv ov' (madeP l) := fun own => by
  have hlen15 := hr.len15
  refine n_fun Tryz.func27 Tryz.ntmps27 rfl rfl rfl ?_
  refine go ?_
  intro r2
  refine go ?_
  refine o_pu rfl (natural48 (by omega)) (fun v3 F3 hF3 h3 => ?_)
  refine go ?_
  refine o_pu rfl (ordered47 (PtsR.le' hl hF3) h3 hr) (fun v5 F5 hF5 ⟨cv, ov', e5, hP⟩ => ?_)
  subst e5
  obtain ⟨A1, c1, h1⟩ := hP.code.dest
  obtain ⟨A2, c2, h2'⟩ := hP.outs.dest
  subst h1 h2'
  refine go ?_
  exact b_ret rfl (.cons (.cella rfl rfl (rdsW 0 rfl)) (.cons (.tmp rfl) .nil)) Turn.drop ⟨rfl, hF3.trans hF5, _, _, rfl, hP⟩
end Go.Proofs.YthkoodpnepfijaaGreatDoor
/- WF: WALKS: whole numbers: made, Make, Neg, Abs, Sign, Cmp, Mul. -/
namespace Go.Proofs.YthkoodpnepfijaaGreatDoor
open Go.RowKit
set_option linter.unusedVariables false
set_option linter.unusedSimpArgs false
set_option maxRecDepth 100000
set_option maxHeartbeats 1000000
/-- A whole number. -/
def sg (neg : Bool) (m : Nat) : Int := match neg with | true => -(m : Int) | false => (m : Int)
def IntR (F : Fz) (u : Value) (z : Int) : Prop := ∃ neg v l, u = .agg #[.bool neg, v] ∧ Lr F v l ∧ Trm l ∧ z = sg neg (num l) ∧ (neg = true → 0 < num l)
theorem IntR.le {F G : Fz} {u : Value} {z : Int} (h : IntR F u z) (hl : Fle F G) : IntR G u z := by
  obtain ⟨neg, v, l, h1, h2, h3⟩ := h
  exact ⟨neg, v, l, h1, h2.le hl, h3⟩
theorem Lr.nil (F : Fz) : Lr F (.slice none 0 0) [] := ⟨Row.nil _, fun i hi => by simp at hi⟩
theorem IntR.zero (F : Fz) : IntR F (.agg #[.bool false, .slice none 0 0]) 0 := ⟨false, _, [], rfl, Lr.nil F, .inl rfl, rfl, fun h => by cases h⟩
theorem sg_abs (neg : Bool) (m : Nat) : (sg neg m).natAbs = m := by cases neg <;> simp [sg]
/-- Few bits, few limbs. -/
theorem len_le {l : List Nat} {k : Nat} (ht : Trm l) (h : num l < 2 ^ k) : l.length ≤ k / 32 + 1 := by
  rcases ht with h1 | h1
  · omega
  · by_cases h0 : l.length = 0
    · omega
    · obtain ⟨m, hm⟩ : ∃ m, l.length = m + 1 := ⟨l.length - 1, by omega⟩
      rw [hm] at h1
      have h2 : 4294967296 ^ m ≤ num l := by unfold num; rw [hm]; exact numF_ge (by simpa using h1)
      have h3 : (4294967296 : Nat) = 2 ^ 32 := rfl
      rw [h3, ← Nat.pow_mul] at h2
      have h4 : 32 * m < k := (Nat.pow_lt_pow_iff_right (by decide)).1 (Nat.lt_of_le_of_lt h2 h)
      omega
theorem Trm.zero {l : List Nat} (ht : Trm l) : num l = 0 ↔ l.length = 0 := by
  constructor
  · intro h
    rcases ht with h1 | h1
    · exact h1
    · by_cases h0 : l.length = 0
      · exact h0
      · obtain ⟨m, hm⟩ : ∃ m, l.length = m + 1 := ⟨l.length - 1, by omega⟩
        rw [hm] at h1
        have h2 : 4294967296 ^ m ≤ num l := by unfold num; rw [hm]; exact numF_ge (by simpa using h1)
        have := pow_pos' m
        omega
  · intro h
    have : l = [] := List.eq_nil_of_length_eq_zero h
    subst this; rfl
theorem made70 {neg : Bool} {v : Value} {l : List Nat} {F : Fz} (hr : Lr F v l) (ht : Trm l) :
    Pu 70 [.bool neg, v] F fun u F' => IntR F' u (sg neg (num l)) := fun own => by
  have hr1 := hr.row
  obtain ⟨A, c, rfl⟩ := hr1.dest
  refine n_fun Tryz.func70 Tryz.ntmps70 rfl rfl rfl ?_
  refine go ?_
  intro r
  have hz := ht.zero
  cases neg
  · refine go ?_
    refine b_ret rfl (.cons (.cella rfl rfl (rdsW 0 rfl)) .nil) Turn.drop ⟨rfl, Fle.refl _, false, _, l, rfl, hr, ht, rfl, fun h => by cases h⟩
  · by_cases h : 0 < l.length
    · refine go ?_
      refine b_ret rfl (.cons (.cella rfl rfl (rdsW 0 rfl)) .nil) Turn.drop ⟨rfl, Fle.refl _, true, .slice A l.length c, l, by rw [show decide ((0 : Int) < (l.length : Int)) = true from decide_eq_true (by omega)]; rfl, hr, ht, rfl, fun _ => by omega⟩
    · refine go ?_
      refine b_ret rfl (.cons (.cella rfl rfl (rdsW 0 rfl)) .nil) Turn.drop ⟨rfl, Fle.refl _, false, .slice A l.length c, l, by rw [show decide ((0 : Int) < (l.length : Int)) = false from decide_eq_false (by omega)]; rfl, hr, ht, by rw [hz.2 (by omega)]; rfl, fun h => by cases h⟩
theorem Make37 {neg : Bool} {v : Value} {l : List Nat} {F : Fz} (hr : Lr F v l) (hl : l.length < 1099511627776) :
    Pu 37 [.bool neg, v] F fun u F' => IntR F' u (sg neg (num l)) := fun own => by
  refine n_fun Tryz.func37 Tryz.ntmps37 rfl rfl rfl ?_
  refine go ?_
  intro r
  refine o_pu rfl (norm71 hr hl) (fun v1 F1 hF1 ⟨l1, hv1, ht1, hn1, hle1⟩ => ?_)
  refine go ?_
  refine o_pu rfl (made70 hv1 ht1) (fun u F2 hF2 hu => ?_)
  obtain ⟨neg2, v2, l2, rfl, hv2, ht2, hn2, hp2⟩ := hu
  obtain ⟨A, c, rfl⟩ := hv2.row.dest
  refine go ?_
  exact b_ret rfl (.cons (.cella rfl rfl (rdsW 0 rfl)) .nil) Turn.drop ⟨rfl, hF1.trans hF2, neg2, _, l2, rfl, hv2, ht2, by rw [← hn1]; exact hn2, hp2⟩
theorem neg171 {u : Value} {z : Int} {F : Fz} (hu : IntR F u z) : Pu 171 [u] F fun u' F' => IntR F' u' (-z) := fun own => by
  obtain ⟨neg, v, l, rfl, hv, ht, hz, hp⟩ := hu
  obtain ⟨A, c, rfl⟩ := hv.row.dest
  refine n_fun Tryz.func171 Tryz.ntmps171 rfl rfl rfl ?_
  refine go ?_
  intro r1 r2
  refine o_pu rfl (made70 (neg := !neg) hv ht) (fun u F2 hF2 hu => ?_)
  obtain ⟨neg2, v2, l2, rfl, hv2, ht2, hn2, hp2⟩ := hu
  obtain ⟨A2, c2, rfl⟩ := hv2.row.dest
  refine go ?_
  exact b_ret rfl (.cons (.cella rfl rfl (rdsW 0 rfl)) .nil) (Turn.sub (List.Sublist.cons _ (List.sublist_cons_self ..))) ⟨rfl, hF2, neg2, _, l2, rfl, hv2, ht2, by rw [← hn2, hz]; cases neg <;> simp [sg], hp2⟩
theorem abs209 {u : Value} {z : Int} {F : Fz} (hu : IntR F u z) : Pu 209 [u] F fun u' F' => IntR F' u' (z.natAbs : Int) := fun own => by
  obtain ⟨neg, v, l, rfl, hv, ht, hz, hp⟩ := hu
  obtain ⟨A, c, rfl⟩ := hv.row.dest
  refine n_fun Tryz.func209 Tryz.ntmps209 rfl rfl rfl ?_
  refine go ?_
  intro r1 r2
  refine o_pu rfl (made70 (neg := false) hv ht) (fun u F2 hF2 hu => ?_)
  obtain ⟨neg2, v2, l2, rfl, hv2, ht2, hn2, hp2⟩ := hu
  obtain ⟨A2, c2, rfl⟩ := hv2.row.dest
  refine go ?_
  exact b_ret rfl (.cons (.cella rfl rfl (rdsW 0 rfl)) .nil) (Turn.sub (List.Sublist.cons _ (List.sublist_cons_self ..))) ⟨rfl, hF2, neg2, _, l2, rfl, hv2, ht2, by rw [← hn2, hz, sg_abs]; rfl, hp2⟩
theorem sign143 {u : Value} {z : Int} {F : Fz} (hu : IntR F u z) : Pu 143 [u] F fun u' F' => F' = F ∧ u' = .int .i64 z.sign := fun own => by
  obtain ⟨neg, v, l, rfl, hv, ht, hz, hp⟩ := hu
  obtain ⟨A, c, rfl⟩ := hv.row.dest
  have hz0 := ht.zero
  refine n_fun Tryz.func143 Tryz.ntmps143 rfl rfl rfl ?_
  refine go ?_
  intro r1
  by_cases h : l.length = 0
  · refine go ?_
    refine b_ret rfl (.cons (.tmp rfl) .nil) Turn.drop ⟨rfl, Fle.refl _, rfl, ?_⟩
    have h1 := hz0.2 h
    have : z = 0 := by rw [hz, h1]; cases neg <;> rfl
    rw [this]; rfl
  · have h1 : 0 < num l := by have := hz0.1; omega
    cases neg
    · refine go ?_
      refine b_ret rfl (.cons (.tmp rfl) .nil) Turn.drop ⟨rfl, Fle.refl _, rfl, ?_⟩
      have : z.sign = 1 := by rw [hz]; exact Int.sign_eq_one_of_pos (by simp [sg]; omega)
      rw [this]; rfl
    · refine go ?_
      refine b_ret rfl (.cons (.tmp rfl) .nil) Turn.drop ⟨rfl, Fle.refl _, rfl, ?_⟩
      have : z.sign = -1 := by rw [hz]; exact Int.sign_eq_neg_one_of_neg (by simp [sg]; omega)
      rw [this]; rfl
end Go.Proofs.YthkoodpnepfijaaGreatDoor

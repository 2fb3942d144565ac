/-
  Steps towards TopCounts (no conditions of their own): WALKS: prog.Check and order.All of a program that may not be. WALKS: scheme.New of what is refused. WALKS: vm: what an instruction does at a place. WALKS: vm.New. A pointer compared with nil.
-/
import Derived.Test.YthkoodpnepfijaaGreatDoorM07
import Derived.Test.YthkoodpnepfijaaGreatDoorM17
import Derived.Test.YthkoodpnepfijaaGreatDoorM33
/- YH: WALKS: prog.Check and order.All of a program that may not be. -/
namespace Go.Proofs.YthkoodpnepfijaaGreatDoor
open Go.RowKit
set_option linter.unusedVariables false
set_option linter.unusedSimpArgs false
set_option maxRecDepth 100000
set_option maxHeartbeats 1000000
/-- All that a program must be, but for its code. -/
structure Prg.hull (p : Prg) : Prop where
  ins1 : 1 ≤ p.ins
  insr : p.ins ≤ p.regs
  regs : p.regs ≤ 128
  len : p.code.length ≤ 100000
  out1 : 1 ≤ p.outs.length
  outn : p.outs.length ≤ 128
  outs : ∀ r ∈ p.outs, 0 ≤ r ∧ r < p.regs
theorem check28n {F : Fz} {p : Prg} {cv ov : Value} (hP : PrR F cv ov p) (hh : p.hull) (hn : ¬ p.ok) : Pu 28 [vPr p cv ov] F fun u F' => ∃ z e : Int, u = .tuple #[.int .i64 z, .int .i64 e] ∧ e ≠ 0 := fun own => by
  obtain ⟨A1, c1, h1⟩ := hP.code.dest
  obtain ⟨A2, c2, h2'⟩ := hP.outs.dest
  subst h1 h2'
  obtain ⟨hC, hO⟩ := hP
  have o1 := hh.ins1
  have o2 := hh.insr
  have o3 := hh.regs
  have o4 := hh.len
  have o5 := hh.out1
  have o6 := hh.outn
  refine n_fun Tryz.func28 Tryz.ntmps28 rfl rfl rfl ?_
  by_cases hlen : p.code.length ≤ 16384
  · refine go ?_
    intro r1
    refine go ?_
    refine c_loopT (fun mm X o G => ∃ i : Nat, mm = p.outs.length - i ∧ X = [(1, .pointer (some ⟨r1, 0, none⟩)), (2, .int .i64 0), (3, .int .i64 0), (42, .slice A2 p.outs.length c2), (43, .int .i64 (p.outs.length : Nat)), (44, .int .i64 (i : Nat))] ∧ .c r1 [.int .i64 p.ins, .int .i64 p.regs, .slice A1 p.code.length c1, .slice A2 p.outs.length c2] :: own = o ∧ F = G ∧ i ≤ p.outs.length) ⟨_, _, _, _, ⟨0, rfl, rfl, rfl, rfl, by omega⟩, ⟨rfl, rfl, rfl, rfl, rfl, rfl, trivial⟩, Turn.refl _ _⟩ ?_
    rintro _ _ _ _ b ⟨i, rfl, rfl, rfl, rfl, hi⟩
    by_cases hil : i < p.outs.length
    · have hr := hh.outs _ (getD_mem (z := 0) hil)
      have hr1 := hr.1
      have hr2 := hr.2
      refine go ?_
      exact ⟨_, _, _, _, ⟨i + 1, rfl, rfl, rfl, rfl, by omega⟩, ⟨rfl, rfl, rfl, rfl, rfl, eqI (by omega), trivial⟩, Turn.refl _ _, rfl, by omega⟩
    · refine go ?_
      refine c_loopT (fun mm X o G => ∃ i : Nat, mm = p.code.length - i ∧ X = [(1, .pointer (some ⟨r1, 0, none⟩)), (2, .int .i64 0), (3, .int .i64 0), (58, .slice A1 p.code.length c1), (59, .int .i64 (p.code.length : Nat)), (60, .int .i64 (i : Nat))] ∧ .c r1 [.int .i64 p.ins, .int .i64 p.regs, .slice A1 p.code.length c1, .slice A2 p.outs.length c2] :: own = o ∧ Fle F G ∧ i ≤ p.code.length ∧ (∀ j, j < i → (p.code.getD j z0I).ok p.regs)) ⟨_, _, _, _, ⟨0, rfl, rfl, rfl, Fle.refl _, by omega, fun j hj => absurd hj (by omega)⟩, ⟨rfl, rfl, rfl, rfl, rfl, rfl, trivial⟩, Turn.refl _ _⟩ ?_
      rintro _ _ _ G b ⟨i, rfl, rfl, rfl, hFG, hi, hall⟩
      have hCG := RowS.le hC hFG
      by_cases hil : i < p.code.length
      · have hall := Wrp.mk hall
        refine go ?_
        intro r7
        refine go ?_
        refine o_pu rfl (may49 (p.code.getD i z0I) p.regs) (fun v1 F1 hF1 e => ?_)
        by_cases hr : (p.code.getD i z0I).ok p.regs
        · rw [decide_eq_true hr] at e
          subst e
          refine go ?_
          exact ⟨_, _, _, _, ⟨i + 1, rfl, rfl, rfl, hFG.trans hF1, by omega, fun j hj => by
            by_cases h : j = i
            · subst h; exact hr
            · exact hall.out j (by omega)⟩, ⟨rfl, rfl, rfl, rfl, rfl, eqI (by omega), trivial⟩, Turn.drop, rfl, by omega⟩
        · rw [decide_eq_false hr] at e
          subst e
          refine go ?_
          exact b_ret rfl (.cons (.tmp rfl) (.cons (.tmp rfl) .nil)) (Turn.of sl (Fle.refl _)) ⟨rfl, hFG.trans hF1, _, 80, rfl, by decide⟩
      · exfalso
        refine hn ⟨o1, o2, o3, hlen, o5, o6, hh.outs, fun i hi => ?_⟩
        obtain ⟨k, hk, e⟩ := List.mem_iff_getElem.1 hi
        have := hall k (by omega)
        rw [List.getD_eq_getElem?_getD, List.getElem?_eq_getElem hk] at this
        simpa only [Option.getD_some, e] using this
  · refine go ?_
    intro r1
    refine go ?_
    exact b_ret rfl (.cons (.tmp rfl) (.cons (.tmp rfl) .nil)) Turn.drop ⟨rfl, Fle.refl _, -1, 80, rfl, by decide⟩
theorem all16n {F : Fz} {p : Prg} {cv ov : Value} (hP : PrR F cv ov p) (hh : p.hull) (hn : ¬ p.ok) : Pu 16 [vPr p cv ov] F fun u F' => ∃ (v : Value) (e : Int), u = .tuple #[v, .int .i64 e] ∧ e ≠ 0 ∧ (∃ us : List Value, v = .agg us.toArray ∧ us.length = 4) := fun own => by
  obtain ⟨A1, c1, A2, c2, e1, e2, hP⟩ := hP.sl
  subst e1 e2
  refine n_fun Tryz.func16 Tryz.ntmps16 rfl rfl rfl ?_
  refine go ?_
  intro r1 r2
  refine go ?_
  refine o_pu rfl (check28n hP hh hn) (fun v G1 hG1 ⟨z, e, e1, he⟩ => ?_) sl
  subst e1
  refine go ?_
  exact b_ret rfl (.cons (.cella rfl rfl (rdsW 0 rfl)) (.cons (.tmp rfl) .nil)) (Turn.of sl (Fle.refl _)) ⟨rfl, hG1, _, e, rfl, he, _, rfl, rfl⟩
end Go.Proofs.YthkoodpnepfijaaGreatDoor
/- YI: WALKS: scheme.New of what is refused. -/
namespace Go.Proofs.YthkoodpnepfijaaGreatDoor
open Go.RowKit
set_option linter.unusedVariables false
set_option linter.unusedSimpArgs false
set_option maxRecDepth 100000
set_option maxHeartbeats 1000000
theorem index73n {F : Fz} {v : Value} {l : List Pnt} (hl : PtsR F v l) (hlen : l.length ≤ 1000000) (hn : ∃ p ∈ l, NotP p) : Ps 73 [v, .func (.func 41) #[] #[]] F fun u => ∃ j : Nat, u = .int .i64 (j : Nat) := fun own => by
  obtain ⟨A, c, e⟩ := hl.dest
  subst e
  refine n_fun Tryz.func73 Tryz.ntmps73 rfl rfl rfl ?_
  refine go ?_
  refine c_loopT (fun m X o G => ∃ j : Nat, m = l.length - j ∧ X = [(0, .slice A l.length c), (1, .func (.func 41) #[] #[]), (7, .int .i64 (l.length : Nat)), (8, .int .i64 (j : Nat))] ∧ own = o ∧ F = G ∧ j ≤ l.length ∧ ∀ i, i < j → ¬ NotP (l.getD i z0P))
    ⟨_, _, _, _, ⟨0, rfl, rfl, rfl, rfl, by omega, fun i hi => absurd hi (by omega)⟩, ⟨rfl, rfl, rfl, rfl, trivial⟩, Turn.refl _ _⟩ ?_
  rintro _ _ _ _ b ⟨j, rfl, rfl, rfl, rfl, hj, hall⟩
  have hall := Wrp.mk hall
  have hn := Wrp.mk hn
  by_cases hjl : j < l.length
  · refine go ?_
    refine o_callv (us := []) (ws := []) rfl rfl rfl ((none41 (l.getD j z0P)).h trivial F own) (fun v o G ⟨e1, e2, e3⟩ => ⟨_, .text, ?_⟩) (List.Sublist.refl _)
    subst e1 e2 e3
    by_cases hp : (l.getD j z0P).A = 0 ∧ (l.getD j z0P).B = 0
    · refine go ?_
      exact b_ret rfl (.cons (.tmp rfl) .nil) (Turn.refl _ _) ⟨rfl, rfl, j, rfl⟩
    · refine go ?_
      exact ⟨_, _, _, _, ⟨j + 1, rfl, rfl, rfl, rfl, by omega, fun i hi => by
        by_cases e : i = j
        · subst e; exact hp
        · exact hall.out i (by omega)⟩, ⟨rfl, rfl, rfl, eqI (by omega), trivial⟩, Turn.refl _ _, rfl, by omega⟩
  · exfalso
    obtain ⟨p, hp, hnp⟩ := hn.out
    obtain ⟨i, hi, e⟩ := List.mem_iff_getElem.1 hp
    have := hall.out i (by omega)
    rw [List.getD_eq_getElem?_getD, List.getElem?_eq_getElem hi] at this
    simp only [Option.getD_some, e] at this
    exact this hnp
theorem contains40n {F : Fz} {v : Value} {l : List Pnt} (hl : PtsR F v l) (hlen : l.length ≤ 1000000) (hn : ∃ p ∈ l, NotP p) : Ps 40 [v, .func (.func 41) #[] #[]] F fun u => u = .bool true := fun own => by
  obtain ⟨A, c, e⟩ := hl.dest
  subst e
  refine n_fun Tryz.func40 Tryz.ntmps40 rfl rfl rfl ?_
  refine go ?_
  refine o_ps rfl (index73n hl hlen hn) (fun u ⟨j, e⟩ => ?_) sl
  subst e
  refine go ?_
  exact b_ret rfl (.cons (.tmp rfl) .nil) (Turn.refl _ _) ⟨rfl, rfl, rfl⟩
/-- What is not refused. -/
structure GoodS (a b : Int) (l : List Pnt) : Prop where
  a1 : 1 ≤ a
  a8 : a ≤ 8
  b1 : 1 ≤ b
  b8 : b ≤ 8
  right : RightQ l
  len : (l.length : Int) = a + b - 1
theorem new24n {F : Fz} {v : Value} {l : List Pnt} {a b : Int} (hl : PtsR F v l) (hlen : l.length ≤ 17592186044416) (h : ¬ GoodS a b l) : Pu 24 [.int .i64 a, .int .i64 b, v] F fun u F' => ∃ e : Int, u = .tuple #[.pointer none, .int .i64 e] ∧ e ≠ 0 := fun own => by
  obtain ⟨A, c, e⟩ := hl.dest
  subst e
  have h := Wrp.mk h
  refine n_fun Tryz.func24 Tryz.ntmps24 rfl rfl rfl ?_
  by_cases ha : 1 ≤ a ∧ a ≤ 8
  · by_cases hb : 1 ≤ b ∧ b ≤ 8
    · refine go ?_
      refine c_loopT (fun m X o G => ∃ j : Nat, m = l.length - j ∧ X = [(0, .int .i64 a), (1, .int .i64 b), (2, .slice A l.length c), (21, .slice A l.length c), (22, .int .i64 (l.length : Nat)), (23, .int .i64 (j : Nat))] ∧ own = o ∧ F = G ∧ j ≤ l.length ∧ ∀ i, i < j → InP (l.getD i z0P))
        ⟨_, _, _, _, ⟨0, rfl, rfl, rfl, rfl, by omega, fun i hi => absurd hi (by omega)⟩, ⟨rfl, rfl, rfl, rfl, rfl, rfl, trivial⟩, Turn.refl _ _⟩ ?_
      rintro _ _ _ _ b' ⟨j, rfl, rfl, rfl, rfl, hj, hall⟩
      have hall := Wrp.mk hall
      by_cases hjl : j < l.length
      · by_cases hp : -16 ≤ (l.getD j z0P).A ∧ (l.getD j z0P).A ≤ 16 ∧ -16 ≤ (l.getD j z0P).B ∧ (l.getD j z0P).B ≤ 16
        · refine go ?_
          intro r9
          refine go ?_
          exact ⟨_, _, _, _, ⟨j + 1, rfl, rfl, rfl, rfl, by omega, fun i hi => by
            by_cases e : i = j
            · subst e; exact hp
            · exact hall.out i (by omega)⟩, ⟨rfl, rfl, rfl, rfl, rfl, eqI (by omega), trivial⟩, Turn.drop, rfl, by omega⟩
        · refine go ?_
          intro r9
          refine go ?_
          exact b_ret rfl (.cons (.tmp rfl) (.cons (.tmp rfl) .nil)) Turn.drop ⟨rfl, Fle.refl _, 70, rfl, by decide⟩
      · have hin : Wrp (∀ p ∈ l, InP p) := ⟨fun p hp => by
          obtain ⟨i, hi, e⟩ := List.mem_iff_getElem.1 hp
          have := hall.out i (by omega)
          rw [List.getD_eq_getElem?_getD, List.getElem?_eq_getElem hi] at this
          simpa only [Option.getD_some, e] using this⟩
        clear hall
        by_cases hab : (l.length : Int) = a + b - 1
        · by_cases hnp : Wrp (∃ p ∈ l, NotP p)
          · refine go ?_
            refine o_ps rfl (contains40n hl (by omega) hnp.out) (fun u e => ?_) sl
            subst e
            refine go ?_
            exact b_ret rfl (.cons (.tmp rfl) (.cons (.tmp rfl) .nil)) (Turn.refl _ _) ⟨rfl, Fle.refl _, 71, rfl, by decide⟩
          · have hnn : Wrp (∀ p ∈ l, ¬ (p.A = 0 ∧ p.B = 0)) := ⟨fun p hp hpn => hnp ⟨⟨p, hp, hpn⟩⟩⟩
            clear hnp
            refine go ?_
            refine o_ps rfl (contains40 hl (by omega) hnn.out) (fun u e => ?_) sl
            subst e
            refine go ?_
            refine o_ps rfl (twins42 hl hin.out (by omega)) (fun u ⟨i, j, t, e, ht⟩ => ?_) sl
            subst e
            obtain rfl : t = true := by
              cases t with
              | true => rfl
              | false => exact absurd ⟨ha.1, ha.2, hb.1, hb.2, ⟨by omega, by omega, hin.out, hnn.out, fun hx => absurd (ht.2 hx) (by decide)⟩, hab⟩ h.out
            refine go ?_
            exact b_ret rfl (.cons (.tmp rfl) (.cons (.tmp rfl) .nil)) (Turn.refl _ _) ⟨rfl, Fle.refl _, 71, rfl, by decide⟩
        · refine go ?_
          exact b_ret rfl (.cons (.tmp rfl) (.cons (.tmp rfl) .nil)) (Turn.refl _ _) ⟨rfl, Fle.refl _, 71, rfl, by decide⟩
    · refine go ?_
      exact b_ret rfl (.cons (.tmp rfl) (.cons (.tmp rfl) .nil)) (Turn.refl _ _) ⟨rfl, Fle.refl _, 70, rfl, by decide⟩
  · refine go ?_
    exact b_ret rfl (.cons (.tmp rfl) (.cons (.tmp rfl) .nil)) (Turn.refl _ _) ⟨rfl, Fle.refl _, 70, rfl, by decide⟩
end Go.Proofs.YthkoodpnepfijaaGreatDoor
/- YJ: WALKS: vm: what an instruction does at a place. -/
namespace Go.Proofs.YthkoodpnepfijaaGreatDoor
open Go.RowKit
set_option linter.unusedVariables false
set_option linter.unusedSimpArgs false
set_option maxRecDepth 100000
set_option maxHeartbeats 1000000
theorem ice_cs {F : Fz} {r : Nat} {vs : List Value} : Cs (F.add (.c r vs)) ⟨r, 0, none⟩ vs := fun i v hi => .inr (by
  have : Of ((⟨r, 0, none⟩ : Addr).add i) r (0 + i) := inferInstance
  rw [at_c this, Nat.zero_add]
  exact hi)
theorem does170 {F : Fz} {u : Value} {x : Int} {q' : IZ} (hu : IntR F u x) : Pu 170 [u, .agg (vIz q').toArray] F fun v F' => IntR F' v (-x) := fun own => by
  obtain ⟨q, rfl, hq⟩ := hu.iz
  refine n_fun Tryz.func170 Tryz.ntmps170 rfl rfl rfl ?_
  refine go ?_
  intro r2 r3 r4
  refine go ?_
  refine o_pu rfl (neg171 hq) (fun u F1 hF1 h1 => ?_) sl
  obtain ⟨q1, e, h1⟩ := h1.iz
  subst e
  refine go ?_
  exact b_ret rfl (.cons (.cella rfl rfl (rdsW 0 rfl)) .nil) (Turn.of sl (Fle.refl _)) ⟨rfl, hF1, h1⟩
theorem does180 {F : Fz} {u : Value} {x : Int} {q' : IZ} (hu : IntR F u x) : Pu 180 [u, .agg (vIz q').toArray] F fun v F' => IntR F' v x := fun own => by
  obtain ⟨q, rfl, hq⟩ := hu.iz
  refine n_fun Tryz.func180 Tryz.ntmps180 rfl rfl rfl ?_
  refine go ?_
  intro r2 r3 r4
  refine go ?_
  exact b_ret rfl (.cons (.cella rfl rfl (rdsW 0 rfl)) .nil) (Turn.of sl (Fle.refl _)) ⟨rfl, Fle.refl _, hq⟩
theorem does173 {F : Fz} {A : Addr} {u : Value} {x c : Int} {k : Nat} {q' : IZ} (hA : F (A.add 4) (.int .i64 c)) (hu : IntR F u x) (hc : -512 ≤ c ∧ c ≤ 512) (hx : x.natAbs < 2 ^ k) (hk : k ≤ 4000000000) : Pu 173 [u, .agg (vIz q').toArray, .pointer (some A)] F fun v F' => IntR F' v (x * c) := fun own => by
  obtain ⟨q, rfl, hq⟩ := hu.iz
  refine n_fun Tryz.func173 Tryz.ntmps173 rfl rfl rfl ?_
  refine go ?_
  intro r3 r4 r5
  refine go ?_
  refine o_pu rfl (times138 hq (by omega) (by omega) hx (by omega)) (fun u F1 hF1 h1 => ?_) sl
  obtain ⟨q1, e, h1⟩ := h1.iz
  subst e
  refine go ?_
  exact b_ret rfl (.cons (.cella rfl rfl (rdsW 0 rfl)) .nil) (Turn.of sl (Fle.refl _)) ⟨rfl, hF1, h1⟩
theorem does176 {F : Fz} {A : Addr} {u : Value} {x : Int} {c k : Nat} {q' : IZ} (hA : F (A.add 4) (.int .i64 (c : Nat))) (hu : IntR F u x) (hc : c ≤ 64) (hx : x.natAbs < 2 ^ k) (hk : k ≤ 4000000000) : Pu 176 [u, .agg (vIz q').toArray, .pointer (some A)] F fun v F' => IntR F' v (x * 2 ^ c) := fun own => by
  obtain ⟨q, rfl, hq⟩ := hu.iz
  refine n_fun Tryz.func176 Tryz.ntmps176 rfl rfl rfl ?_
  refine go ?_
  intro r3 r4 r5
  refine go ?_
  refine o_pu rfl (shl177 hq (by omega) hx (by omega)) (fun u F1 hF1 ⟨v', e, h1⟩ => ?_) sl
  obtain ⟨q1, e2, h1⟩ := h1.iz
  subst e e2
  refine go ?_
  intro r6
  refine go ?_
  exact b_ret rfl (.cons (.cella rfl rfl (rdsW 1 rfl)) .nil) (Turn.of sl (Fle.refl _)) ⟨rfl, hF1, h1⟩
theorem does174 {F : Fz} {A : Addr} {u : Value} {x c w : Int} {k : Nat} {q' : IZ} (hA : F (A.add 4) (.int .i64 c)) (hu : IntR F u x) (hc0 : c ≠ 0) (hc : -512 ≤ c ∧ c ≤ 512) (hx : x.natAbs < 2 ^ k) (hk : k ≤ 4000000000) (hw : x = c * w) : Pu 174 [u, .agg (vIz q').toArray, .pointer (some A)] F fun v F' => ∃ v', v = .tuple #[v', .bool true] ∧ IntR F' v' w := fun own => by
  obtain ⟨q, rfl, hq⟩ := hu.iz
  refine n_fun Tryz.func174 Tryz.ntmps174 rfl rfl rfl ?_
  refine go ?_
  intro r3 r4 r5
  refine go ?_
  refine o_pu rfl (over175 hq hc0 (by omega) hx (by omega)) (fun u F1 hF1 ⟨v', e', e, _, _, h2, h3⟩ => ?_) sl
  obtain rfl := h2 ⟨w, hw⟩
  obtain ⟨w', hw', h1⟩ := h3 rfl
  obtain rfl : w' = w := by
    rw [hw] at hw'
    exact (Int.eq_of_mul_eq_mul_left hc0 hw').symm
  obtain ⟨q1, e2, h1⟩ := h1.iz
  subst e e2
  clear h2 h3
  refine go ?_
  intro r7
  refine go ?_
  exact b_ret rfl (.cons (.cella rfl rfl (rdsW 1 rfl)) (.cons (.tmp rfl) .nil)) (Turn.of sl (Fle.refl _)) ⟨rfl, hF1, _, rfl, h1⟩
theorem does178 {F : Fz} (hG : Gl F) {A : Addr} {u : Value} {x w : Int} {c k : Nat} {q' : IZ} (hA : F (A.add 4) (.int .i64 (c : Nat))) (hu : IntR F u x) (hc : c ≤ 64) (hx : x.natAbs < 2 ^ k) (hk : k ≤ 4000000000) (hw : x = 2 ^ c * w) : Pu 178 [u, .agg (vIz q').toArray, .pointer (some A)] F fun v F' => ∃ v', v = .tuple #[v', .bool true] ∧ IntR F' v' w := fun own => by
  obtain ⟨q, rfl, hq⟩ := hu.iz
  refine n_fun Tryz.func178 Tryz.ntmps178 rfl rfl rfl ?_
  refine go ?_
  intro r3 r4 r5
  refine go ?_
  refine o_pu rfl (shr179 hG hq (by omega) hx (by omega)) (fun u F1 hF1 ⟨v', e', e, _, _, h2, h3⟩ => ?_) sl
  obtain rfl := h2 ⟨w, hw⟩
  obtain ⟨w', hw', h1⟩ := h3 rfl
  obtain rfl : w' = w := by
    rw [hw] at hw'
    exact (Int.eq_of_mul_eq_mul_left (Int.ne_of_gt (Int.pow_pos (by decide))) hw').symm
  obtain ⟨q1, e2, h1⟩ := h1.iz
  subst e e2
  clear h2 h3
  refine go ?_
  intro r7
  refine go ?_
  exact b_ret rfl (.cons (.cella rfl rfl (rdsW 1 rfl)) (.cons (.tmp rfl) .nil)) (Turn.of sl (Fle.refl _)) ⟨rfl, hF1, _, rfl, h1⟩
theorem does169 {F : Fz} {A : Addr} {g : Nat} [hfn : Fn_ g] {ws : List Value} {q q' : IZ} {z : Int} (hr : F A (.func (.func g) #[] ws.toArray)) (hop : Pu g ([.agg (vIz q).toArray, .agg (vIz q').toArray] ++ ws) F fun v F' => IntR F' v z) : Pu 169 [.agg (vIz q).toArray, .agg (vIz q').toArray, .pointer (some A)] F fun u F' => ∃ v', u = .tuple #[v', .bool true] ∧ IntR F' v' z := fun own => by
  refine n_fun Tryz.func169 Tryz.ntmps169 rfl rfl rfl ?_
  refine go ?_
  intro r3 r4 r5
  refine go ?_
  refine o_callv (us := []) (ws := ws) rfl rfl rfl (hop _) (fun v o G ⟨e1, hG, hv⟩ => ⟨_, .text, ?_⟩) (List.Sublist.refl _)
  subst e1
  obtain ⟨q2, e, hv⟩ := hv.iz
  subst e
  refine go ?_
  exact b_ret rfl (.cons (.cella rfl rfl (rdsW 0 rfl)) (.cons (.tmp rfl) .nil)) (Turn.of sl (Fle.refl _)) ⟨rfl, hG, _, rfl, hv⟩
theorem does168 {F : Fz} {g : Nat} {ws : List Value} : Pu 168 [.func (.func g) #[] ws.toArray] F fun u F' => ∃ A, u = .func (.func 169) #[] #[.pointer (some A)] ∧ F' A (.func (.func g) #[] ws.toArray) := fun own => by
  refine n_fun Tryz.func168 Tryz.ntmps168 rfl rfl rfl ?_
  refine go ?_
  intro r
  refine go ?_
  exact b_ret rfl (.cons (.tmp rfl) .nil) Turn.ice ⟨rfl, Fz.add_le _ _, ⟨r, 0, none⟩, rfl, .inr (by simp [Ch.at])⟩
/-- A function that does an instruction at a place. -/
def FnI (F : Fz) (fv : Value) (i : Ins) : Prop := ∃ (f : Nat) (_ : Fn_ f) (ws : List Value), fv = .func (.func f) #[] ws.toArray ∧ ∀ (G : Fz) (q q' : IZ) (s : Rg) (w : Int) (k : Nat), Fle F G → IntR G (.agg (vIz q).toArray) (s i.a) → IntR G (.agg (vIz q').toArray) (s i.b) → (s i.a).natAbs < 2 ^ k → (s i.b).natAbs < 2 ^ k → k ≤ 4000000000 → i.val s = some w →
  Pu f ([.agg (vIz q).toArray, .agg (vIz q').toArray] ++ ws) G fun v F' => ∃ v', v = .tuple #[v', .bool true] ∧ IntR F' v' w
theorem does141 {F : Fz} (hG : Gl F) {i : Ins} {regs : Int} (hok : i.ok regs) : Pu 141 [.agg (vIn i).toArray] F fun u F' => FnI F' u i := fun own => by
  have h1 := hok.op1
  have h8 := hok.op8
  have hcc := hok.cc
  clear hok
  obtain ⟨op, to, a, b, c⟩ := i
  simp only at h1 h8 hcc
  refine n_fun Tryz.func141 Tryz.ntmps141 rfl rfl rfl ?_
  rcases (show op = 1 ∨ op = 2 ∨ op = 3 ∨ op = 4 ∨ op = 5 ∨ op = 6 ∨ op = 7 ∨ op = 8 by omega) with rfl | rfl | rfl | rfl | rfl | rfl | rfl | rfl
  · refine go ?_
    intro r1
    refine go ?_
    refine o_callv (us := []) (ws := []) (vs := [.func (.func 180) #[] #[]]) rfl rfl rfl (does168 (g := 180) (ws := []) _) (fun v o G ⟨e1, hG1, A, e, hA⟩ => ⟨_, .text, ?_⟩) (List.Sublist.refl _)
    subst e1 e
    refine go ?_
    exact b_ret rfl (.cons (.tmp rfl) .nil) Turn.drop ⟨rfl, hG1, 169, inferInstance, [.pointer (some A)], rfl, fun G' q q' s w k hl hx hy bx b_y hk hv => does169 (g := 180) (ws := []) (hl _ _ hA) (by
      simp [Ins.val] at hv
      subst hv
      exact does180 hx)⟩
  · refine go ?_
    intro r1
    refine go ?_
    refine o_callv (us := []) (ws := []) (vs := [.func (.func 170) #[] #[]]) rfl rfl rfl (does168 (g := 170) (ws := []) _) (fun v o G ⟨e1, hG1, A, e, hA⟩ => ⟨_, .text, ?_⟩) (List.Sublist.refl _)
    subst e1 e
    refine go ?_
    exact b_ret rfl (.cons (.tmp rfl) .nil) Turn.drop ⟨rfl, hG1, 169, inferInstance, [.pointer (some A)], rfl, fun G' q q' s w k hl hx hy bx b_y hk hv => does169 (g := 170) (ws := []) (hl _ _ hA) (by
      simp [Ins.val] at hv
      subst hv
      exact does170 hx)⟩
  · refine go ?_
    intro r1
    refine go ?_
    refine o_callv (us := []) (ws := []) (vs := [.func (.func 65) #[] #[]]) rfl rfl rfl (does168 (g := 65) (ws := []) _) (fun v o G ⟨e1, hG1, A, e, hA⟩ => ⟨_, .text, ?_⟩) (List.Sublist.refl _)
    subst e1 e
    refine go ?_
    exact b_ret rfl (.cons (.tmp rfl) .nil) Turn.drop ⟨rfl, hG1, 169, inferInstance, [.pointer (some A)], rfl, fun G' q q' s w k hl hx hy bx b_y hk hv => does169 (g := 65) (ws := []) (hl _ _ hA) (by
      simp [Ins.val] at hv
      subst hv
      exact add65 hx hy bx b_y (by omega))⟩
  · refine go ?_
    intro r1
    refine go ?_
    refine o_callv (us := []) (ws := []) (vs := [.func (.func 172) #[] #[]]) rfl rfl rfl (does168 (g := 172) (ws := []) _) (fun v o G ⟨e1, hG1, A, e, hA⟩ => ⟨_, .text, ?_⟩) (List.Sublist.refl _)
    subst e1 e
    refine go ?_
    exact b_ret rfl (.cons (.tmp rfl) .nil) Turn.drop ⟨rfl, hG1, 169, inferInstance, [.pointer (some A)], rfl, fun G' q q' s w k hl hx hy bx b_y hk hv => does169 (g := 172) (ws := []) (hl _ _ hA) (by
      simp [Ins.val] at hv
      subst hv
      exact sub172 hx hy bx b_y (by omega))⟩
  · have hcb : c ≠ 0 ∧ -512 ≤ c ∧ c ≤ 512 := by simpa [constOk] using hcc
    refine go ?_
    intro r1
    refine go ?_
    refine o_callv (us := []) (ws := []) (vs := [.func (.func 173) #[] #[.pointer (some ⟨r1, 0, none⟩)]]) rfl rfl rfl (does168 (g := 173) (ws := [.pointer (some ⟨r1, 0, none⟩)]) _) (fun v o G ⟨e1, hG1, A, e, hA⟩ => ⟨_, .text, ?_⟩) (List.Sublist.refl _)
    subst e1 e
    refine go ?_
    exact b_ret rfl (.cons (.tmp rfl) .nil) Turn.ice ⟨rfl, hG1.trans (Fz.add_le _ _), 169, inferInstance, [.pointer (some A)], rfl, fun G' q q' s w k hl hx hy bx b_y hk hv => does169 (g := 173) (ws := [.pointer (some ⟨r1, 0, none⟩)]) (hl _ _ (Fz.add_le _ _ _ _ hA)) (by
      simp [Ins.val] at hv
      subst hv
      exact does173 (hl _ _ (ice_cs 4 _ rfl)) hx hcb.2 bx hk)⟩
  · have hcb : c ≠ 0 ∧ -512 ≤ c ∧ c ≤ 512 := by simpa [constOk] using hcc
    refine go ?_
    intro r1
    refine go ?_
    exact b_ret rfl (.cons (.tmp rfl) .nil) Turn.ice ⟨rfl, Fz.add_le _ _, 174, inferInstance, [.pointer (some ⟨r1, 0, none⟩)], rfl, fun G' q q' s w k hl hx hy bx b_y hk hv => by
      simp [Ins.val] at hv
      obtain ⟨d1, d2⟩ := hv
      exact does174 (hl _ _ (ice_cs 4 _ rfl)) hx hcb.1 hcb.2 bx hk (by rw [← d2, Int.mul_ediv_cancel' d1])⟩
  · have hcb : 1 ≤ c ∧ c ≤ 64 := by simpa [constOk] using hcc
    obtain ⟨e, rfl⟩ : ∃ e : Nat, c = e := ⟨c.toNat, by omega⟩
    refine go ?_
    intro r1
    refine go ?_
    refine o_callv (us := []) (ws := []) (vs := [.func (.func 176) #[] #[.pointer (some ⟨r1, 0, none⟩)]]) rfl rfl rfl (does168 (g := 176) (ws := [.pointer (some ⟨r1, 0, none⟩)]) _) (fun v o G ⟨e1, hG1, A, e, hA⟩ => ⟨_, .text, ?_⟩) (List.Sublist.refl _)
    subst e1 e
    refine go ?_
    exact b_ret rfl (.cons (.tmp rfl) .nil) Turn.ice ⟨rfl, hG1.trans (Fz.add_le _ _), 169, inferInstance, [.pointer (some A)], rfl, fun G' q q' s w k hl hx hy bx b_y hk hv => does169 (g := 176) (ws := [.pointer (some ⟨r1, 0, none⟩)]) (hl _ _ (Fz.add_le _ _ _ _ hA)) (by
      simp [Ins.val] at hv
      subst hv
      exact does176 (hl _ _ (ice_cs 4 _ rfl)) hx (by omega) bx hk)⟩
  · have hcb : 1 ≤ c ∧ c ≤ 64 := by simpa [constOk] using hcc
    obtain ⟨e, rfl⟩ : ∃ e : Nat, c = e := ⟨c.toNat, by omega⟩
    refine go ?_
    intro r1
    refine go ?_
    exact b_ret rfl (.cons (.tmp rfl) .nil) Turn.ice ⟨rfl, Fz.add_le _ _, 178, inferInstance, [.pointer (some ⟨r1, 0, none⟩)], rfl, fun G' q q' s w k hl hx hy bx b_y hk hv => by
      simp [Ins.val] at hv
      obtain ⟨d1, d2⟩ := hv
      exact does178 (hG.le ((Fz.add_le _ _).trans hl)) (hl _ _ (ice_cs 4 _ rfl)) hx (by omega) bx hk (by rw [← d2, Int.mul_ediv_cancel' d1])⟩
end Go.Proofs.YthkoodpnepfijaaGreatDoor
/- YK: WALKS: vm.New. -/
namespace Go.Proofs.YthkoodpnepfijaaGreatDoor
open Go.RowKit
set_option linter.unusedVariables false
set_option linter.unusedSimpArgs false
set_option maxRecDepth 100000
set_option maxHeartbeats 1000000
/-- A machine in memory; its registers. -/
abbrev mC (rm : Nat) (p : Prg) (cv ov gv : Value) (nx : Nat) : Ch := .c rm [.int .i64 p.ins, .int .i64 p.regs, cv, ov, gv, .int .i64 (nx : Nat)]
abbrev gC (gv : Value) (m : Nat) (qs : List SZ) : Ch := .g gv 42 1 m (qs.map vS)
theorem map_snoc1 (ps : List SZ) (q : SZ) : ps.map vS ++ [vS q] = (ps ++ [q]).map vS := by simp
theorem regs_snoc {F G : Fz} {ps : List SZ} {j : Nat} {R : Nat → List Int} {q : SZ} (hl : Fle F G) (hpl : ps.length = j) (h : ∀ r, r < j → RowI F (vS (ps.getD r z0S)) (R r)) (hq : RowI G (vS q) (R j)) : ∀ r, r < j + 1 → RowI G (vS ((ps ++ [q]).getD r z0S)) (R r) := fun r hr => by
  rw [getD_snoc]
  by_cases h1 : r < ps.length
  · rw [if_pos h1]; exact (h r (by omega)).le hl
  · obtain rfl : r = j := by omega
    rw [if_neg h1, if_pos hpl.symm]; exact hq
theorem new109 {F : Fz} {n : Nat} {p : Prg} {cv ov v : Value} {S0 : Nat → Rg} (hP : PrR F cv ov p) (hok : p.ok) (hn1 : 1 ≤ n) (hn : n ≤ 4096) (hv : RowsR F v p.ins.toNat fun r => rw_ n S0 r) (hS : ∀ i, i < n → ∀ r : Int, p.ins ≤ r → S0 i r = 0) (own : List Ch) :
    N 109 [vPr p cv ov, v] own F fun u o F' => ∃ (rm g c : Nat) (A1 : Option Addr) (c1 : Nat) (A2 : Option Addr) (c2 : Nat) (qs : List SZ), u = .tuple #[.pointer (some ⟨rm, 0, none⟩), .int .i64 0] ∧ o = mC rm p (.slice A1 p.code.length c1) (.slice A2 p.outs.length c2) (.slice (some ⟨g, 0, none⟩) p.regs.toNat c) 0 :: gC (.slice (some ⟨g, 0, none⟩) p.regs.toNat c) p.regs.toNat qs :: own ∧ Fle F F' ∧ PrR F' (.slice A1 p.code.length c1) (.slice A2 p.outs.length c2) p ∧ qs.length = p.regs.toNat ∧ RegR F' qs fun r => rw_ n S0 r := by
  obtain ⟨A1, c1, A2, c2, e1, e2, hP⟩ := hP.sl
  subst e1 e2
  have o1 := hok.ins1
  have o2 := hok.insr
  have o3 := hok.regs
  have o4 := hok.len
  have o6 := hok.outn
  obtain ⟨qs, hq, hql, hqr⟩ := hv
  obtain ⟨A, c, rfl⟩ := hq.dest
  have hq0 := hqr 0 (by omega)
  refine n_fun Tryz.func109 Tryz.ntmps109 rfl rfl rfl ?_
  refine go ?_
  intro r2
  refine go ?_
  refine o_pu rfl (check28 hP hok) (fun u F1 hF1 e => ?_) sl
  subst e
  have hP1 := hP.le hF1
  have hq1 := hq.le hF1
  have hql0 : 0 < qs.length := by omega
  obtain ⟨A0, c0, e0⟩ := hq0.dest
  have e0 : vS (qs.getD 0 z0S) = .slice A0 n c0 := by rw [e0]; simp
  have hm0 : (qs.getD 0 z0S).m = n := by
    generalize qs.getD 0 z0S = q at e0
    cases q
    cases e0
    rfl
  have hmi : (qs.length : Int) = p.ins := by omega
  clear hq0
  refine go ?_
  rw [hm0]
  refine go ?_
  refine o_pu rfl (copy31 hP1 (by omega) (by omega)) (fun u F2 hF2 ⟨cv', ov', e, hP2⟩ => ?_) sl
  obtain ⟨A3, c3, A4, c4, e1, e2, hP2⟩ := hP2.sl
  subst e1 e2 e
  have hq2 := hq1.le hF2
  refine go ?_
  intro rm
  refine go ?_
  refine c_loopT (fun m X o G => ∃ (j : Nat) (B : Option Addr) (c' : Nat) (ps : List SZ), m = qs.length - j ∧ X = [(2, .pointer (some ⟨r2, 0, none⟩)), (8, .int .i64 (n : Nat)), (9, .pointer (some ⟨rm, 0, none⟩)), (33, .slice A qs.length c), (34, .int .i64 (qs.length : Nat)), (35, .int .i64 (j : Nat))] ∧ mC rm p (.slice A3 p.code.length c3) (.slice A4 p.outs.length c4) (.slice B j c') 0 :: gC (.slice B j c') j ps :: .c r2 [.int .i64 p.ins, .int .i64 p.regs, .slice A1 p.code.length c1, .slice A2 p.outs.length c2] :: own = o ∧ Fle F2 G ∧ ps.length = j ∧ (∀ r, r < j → RowI G (vS (ps.getD r z0S)) (rw_ n S0 (r : Nat))) ∧ j ≤ qs.length)
    ⟨_, _, _, _, ⟨0, none, 0, [], rfl, rfl, rfl, Fle.refl _, rfl, fun r hr => absurd hr (by omega), by omega⟩, ⟨rfl, rfl, rfl, rfl, rfl, rfl, trivial⟩, (Turn.nil 42 1).trans (Turn.perm (.swap ..))⟩ ?_
  rintro _ _ _ G b ⟨j, B, c', ps, rfl, rfl, rfl, hG, hpl, hps, hj⟩
  have hq3 := RowM.le hq2 hG
  have hps := Wrp.mk hps
  by_cases hjl : j < qs.length
  · have hqj : RowI G (vS (qs.getD j z0S)) (rw_ n S0 (j : Nat)) := (hqr j hjl).le (hF1.trans (hF2.trans hG))
    have hmj : (qs.getD j z0S).m = n := by
      obtain ⟨A', c', e'⟩ := hqj.dest
      generalize qs.getD j z0S = q at e'
      cases q
      cases e'
      simp
    refine goT ?_
    refine c_drww [mC rm p (.slice A3 p.code.length c3) (.slice A4 p.outs.length c4) (.slice B j c') 0] sl rfl (by decide +kernel) ?_
    refine go ?_
    refine o_pu rfl (clone137 hqj (by simp; omega)) (fun u F3 hF3 hu => ?_) sl
    obtain ⟨qn, e, hqn⟩ := hu.sz
    subst e
    refine go ?_
    refine o_lit rfl rfl rfl rfl rfl (fun rl => ?_) sl (fun _ => .keep sl (Fle.refl _))
    refine o_appW 1 rfl rfl rfl rfl rfl rfl rfl (by omega) (by omega) (fun _ => rfl) (fun _ => sl) sl (fun A' c' => ?_)
    refine go ?_
    exact ⟨_, _, _, _, ⟨j + 1, A', c', ps ++ [qn], rfl, rfl, rfl, hG.trans hF3, by simp [hpl], regs_snoc (R := fun r => rw_ n S0 (r : Nat)) hF3 hpl hps.out hqn, by omega⟩, ⟨rfl, rfl, rfl, rfl, rfl, eqI (by omega), trivial⟩, by simp only [gC, List.map_append, List.map_cons, List.map_nil]; exact Turn.refl _ _, rfl, by omega⟩
  · obtain rfl : j = qs.length := by omega
    refine go ?_
    refine c_loopT (fun m X o G' => ∃ (j : Nat) (B : Option Addr) (c' : Nat) (ps : List SZ), m = p.regs.toNat - j ∧ X = [(2, .pointer (some ⟨r2, 0, none⟩)), (8, .int .i64 (n : Nat)), (9, .pointer (some ⟨rm, 0, none⟩))] ∧ mC rm p (.slice A3 p.code.length c3) (.slice A4 p.outs.length c4) (.slice B j c') 0 :: gC (.slice B j c') j ps :: .c r2 [.int .i64 p.ins, .int .i64 p.regs, .slice A1 p.code.length c1, .slice A2 p.outs.length c2] :: own = o ∧ Fle G G' ∧ ps.length = j ∧ (∀ r, r < j → RowI G' (vS (ps.getD r z0S)) (rw_ n S0 (r : Nat))) ∧ j ≤ p.regs.toNat ∧ qs.length ≤ j)
      ⟨_, _, _, _, ⟨qs.length, B, c', ps, rfl, rfl, rfl, Fle.refl _, hpl, hps.out, by omega, by omega⟩, ⟨rfl, rfl, rfl, trivial⟩, Turn.refl _ _⟩ ?_
    rintro _ _ _ G' b ⟨j, B, c', ps, rfl, rfl, rfl, hG', hpl, hps, hj, hjq⟩
    have hps := Wrp.mk hps
    by_cases hjl : j < p.regs.toNat
    · have hjz : (j : Int) < p.regs := by omega
      refine goT ?_
      refine c_drww [mC rm p (.slice A3 p.code.length c3) (.slice A4 p.outs.length c4) (.slice B j c') 0, .c r2 [.int .i64 p.ins, .int .i64 p.regs, .slice A1 p.code.length c1, .slice A2 p.outs.length c2]] sl rfl (by decide +kernel) ?_
      refine go ?_
      refine o_nil sl ?_
      refine goT ?_
      refine c_drww [mC rm p (.slice A3 p.code.length c3) (.slice A4 p.outs.length c4) (.slice B j c') 0] sl rfl (by decide +kernel) ?_
      refine go ?_
      refine o_make n rfl rfl (by omega) (by omega) (fun rz => ?_) sl (fun _ => .keep sl (Fle.refl _))
      rw [rep_two]
      refine go ?_
      refine o_lit rfl rfl rfl rfl rfl (fun rl => ?_) sl (fun _ => .keep sl (Fle.refl _))
      refine o_appW 2 rfl rfl rfl rfl rfl rfl rfl (by omega) (by omega) (fun _ => rfl) (fun _ => sl) sl (fun A' c' => ?_)
      refine go ?_
      refine o_stN rfl inferInstance rfl rfl get1 rfl (by simp) sl (.late [] (by decide +kernel) (List.nil_sublist _)) ?_
      refine go ?_
      exact ⟨_, _, _, _, ⟨j + 1, A', c', ps ++ [⟨some ⟨rz, 0, none⟩, n, n⟩], rfl, rfl, rfl, hG'.trans (Fz.add_le _ (.c rz ((List.replicate n z0Z).flatMap vIz))), by simp [hpl], regs_snoc (R := fun r => rw_ n S0 (r : Nat)) (Fz.add_le _ _) hpl hps.out (zeros_row (rw_len ..) (fun i hi => by rw [rw_get _ _ hi]; exact hS i hi _ (by omega))), by omega, by omega⟩, ⟨rfl, rfl, rfl, trivial⟩, by simp only [gC, List.map_append, List.map_cons, List.map_nil]; exact Turn.ice, rfl, by omega⟩
    · obtain rfl : j = p.regs.toNat := by omega
      have hjz : ¬ ((p.regs.toNat : Nat) : Int) < p.regs := by omega
      refine c_gslQ 1 rfl (by omega) (fun g c' _ e => ?_)
      cases e
      refine goT ?_
      refine c_drww [mC rm p (.slice A3 p.code.length c3) (.slice A4 p.outs.length c4) (.slice (some ⟨g, 0, none⟩) p.regs.toNat c') 0, .c r2 [.int .i64 p.ins, .int .i64 p.regs, .slice A1 p.code.length c1, .slice A2 p.outs.length c2]] sl rfl (by decide +kernel) ?_
      refine go ?_
      refine o_nil sl ?_
      refine go ?_
      exact b_ret rfl (.cons (.tmp rfl) (.cons (.tmp rfl) .nil)) (Turn.of sl (Fle.refl _)) ⟨rm, g, c', A3, c3, A4, c4, ps, rfl, rfl, hF1.trans (hF2.trans (hG.trans hG')), hP2.le (hG.trans hG'), hpl, fun r hr => hps.out r (by omega)⟩
end Go.Proofs.YthkoodpnepfijaaGreatDoor
/- VN: A pointer compared with nil. -/
namespace Go.Proofs.YthkoodpnepfijaaGreatDoor
open Go.RowKit
set_option linter.unusedVariables false
set_option linter.unusedSimpArgs false
class PtT (t : Nat) (e : outParam Nat) : Prop where
  h : Tryz.prog.underlying t = some (.pointer e)
  g : Tryz.prog.eqGuardType Tryz.prog.depth t = false
instance : PtT 195 200 := ⟨by kernel_rfl, by kernel_rfl⟩
instance : PtT 33 60 := ⟨by kernel_rfl, by kernel_rfl⟩
section
variable {n : Nat} {ops : Array Oper} {fl : Option (List Nat)} {rest : List Oper} {K : St → Prop} {wk : List Ch} {x : Fr} {b : Nat → Value} {ds : List Deferred} {own : List Ch} {F : Fz} {d ty : Nat} {pos : String} {af : Array Edge}
theorem run_eqpn {t e : Nat} (ht : PtT t e) (A : Addr) (w : World) : (Op.equal t (.pointer (some A)) (.pointer none)).run Tryz.prog w = .ok false w := by
  unfold Op.equal Op.maxDepth Op.equalIn
  simp [run_underlying ht.h, Result.andThen, Sem.run_pure]
theorem o_eqp {t t' e : Nat} [ht : PtT t e] {a : Operand} {A : Addr} (ha : evS n x a = some (.pointer (some A)))
    (h : O n ops fl rest K wk ⟨(d, .bool false) :: x, b, ds, own, F⟩) : O n ops fl (⟨some d, .binOp .eql t a (.const (.pointer none)) t', ty, pos, af, none⟩ :: rest) K wk ⟨x, b, ds, own, F⟩ :=
  o_rd _ rfl (fun B w0 w hw => by
    have e1 := run_eqpn ht A w
    have e2 : (St.act n ⟨x, b, ds, own, F⟩).eval (.const (.pointer none)) = .pointer none := rfl
    unfold execOp
    simp [evx ha, e2, eqGuard, binOp, Result.andThen, e1, ht.g]) h
theorem o_nep {t t' e : Nat} [ht : PtT t e] {a : Operand} {A : Addr} (ha : evS n x a = some (.pointer (some A)))
    (h : O n ops fl rest K wk ⟨(d, .bool true) :: x, b, ds, own, F⟩) : O n ops fl (⟨some d, .binOp .neq t a (.const (.pointer none)) t', ty, pos, af, none⟩ :: rest) K wk ⟨x, b, ds, own, F⟩ :=
  o_rd _ rfl (fun B w0 w hw => by
    have e1 := run_eqpn ht A w
    have e2 : (St.act n ⟨x, b, ds, own, F⟩).eval (.const (.pointer none)) = .pointer none := rfl
    unfold execOp
    simp [evx ha, e2, eqGuard, binOp, Result.andThen, e1, ht.g]) h
end
end Go.Proofs.YthkoodpnepfijaaGreatDoor

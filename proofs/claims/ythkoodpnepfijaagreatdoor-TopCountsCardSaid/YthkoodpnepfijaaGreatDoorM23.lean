/-
  Steps towards TopCounts (no conditions of their own): WALKS: share: the table, holder, keyed. THE LESS, THE GREATER of two numbers. WALKS: share: newTable, reckon. WALKS: share: Pass.
-/
import Derived.Test.YthkoodpnepfijaaGreatDoorM13
import Derived.Test.YthkoodpnepfijaaGreatDoorM21
import Derived.Test.YthkoodpnepfijaaGreatDoorM22
/- XR: WALKS: share: the table, holder, keyed. -/
namespace Go.Proofs.YthkoodpnepfijaaGreatDoor
open Go.RowKit
set_option linter.unusedVariables false
set_option linter.unusedSimpArgs false
set_option maxRecDepth 100000
set_option maxHeartbeats 1000000
/-- A call that reads two chunks, wherever they stand. -/
theorem at2 {f : FuncId} {args : List Value} {own : List Ch} {F : Fz} {c g : Ch} {R : Value → Fz → Prop} (p q : Nat) (h : ∀ rest, N f args (c :: g :: rest) F fun u o F' => o = c :: g :: rest ∧ Fle F F' ∧ R u F') (hp : own[p]? = some c) (hq : own[q]? = some g) (hpq : Nat.beq p q = false) : N f args own F fun u o F' => o = own ∧ Fle F F' ∧ R u F' := by
  have hne : p ≠ q := fun e => by rw [e, show Nat.beq q q = true from Nat.beq_refl q] at hpq; cases hpq
  refine (N.pos (R := fun v c' g' F' => c' = c ∧ g' = g ∧ Fle F F' ∧ R v F') (fun rest => (h rest).mono fun v o F' ⟨e, h1, h2⟩ => ⟨c, g, e, rfl, rfl, h1, h2⟩) hp hq hne).mono fun v o F' ⟨c', g', e, e1, e2, h1, h2⟩ => ⟨?_, h1, h2⟩
  subst e1 e2
  rw [e, set_get hp, set_get hq]
/-- A call that leaves what is owned. -/
theorem o_nx {n : Nat} {ops : Array Oper} {fl : Option (List Nat)} {rest : List Oper} {K : St → Prop} {wk : List Ch} {x : Fr} {b : Nat → Value} {ds : List Deferred} {own : List Ch} {F : Fz} {d ty : Nat} {pos : String} {af : Array Edge}
    {f : FuncId} {os : List Operand} {ats : Array TypeId} {vs : List Value} {R : Value → Fz → Prop} [hf : Fn_ f] (ha : evL n x os = some vs) (hN : N f vs own F fun u o F' => o = own ∧ Fle F F' ∧ R u F')
    (h : ∀ v F', Fle F F' → R v F' → O n ops fl rest K wk ⟨(d, v) :: x, b, ds, own, F'⟩) (hsub : List.Sublist wk own) :
    O n ops fl (⟨some d, .call { callee := .value (.func f), args := os.toArray, argTypes := ats }, ty, pos, af, none⟩ :: rest) K wk ⟨x, b, ds, own, F⟩ :=
  o_call ha hN (fun v own' F' ⟨e, h1, h2⟩ => ⟨wk, .keep (by rw [e]; exact hsub) h1, by rw [e]; exact h v F' h1 h2⟩) hsub
/-- A table: its block, what registers hold. -/
abbrev tabC (rt g m c rk rf : Nat) (next : Int) : Ch := .c rt [.slice (some ⟨g, 0, none⟩) m c, .map (some rk), .map (some rf), .int .i64 next]
abbrev helC (g m c : Nat) (held : List Int) : Ch := .g (.slice (some ⟨g, 0, none⟩) m c) 3 1 m (held.map vi)
section
variable {rt g m c rk rf : Nat} {next : Int} {held : List Int} {F : Fz}
theorem holder89 (hm : held.length = m) (hb : m ≤ 1000) (v : Int) (rest : List Ch) : N 89 [.pointer (some ⟨rt, 0, none⟩), .int .i64 v] (tabC rt g m c rk rf next :: helC g m c held :: rest) F fun u o F' => o = tabC rt g m c rk rf next :: helC g m c held :: rest ∧ Fle F F' ∧ F' = F ∧ ∃ r : Int, u = .int .i64 r ∧ ((0 ≤ r ∧ r < m ∧ hd_ held r = v) ∨ (r = -1 ∧ ∀ q : Int, 0 ≤ q → q < m → hd_ held q ≠ v)) := by
  refine n_fun Tryz.func89 Tryz.ntmps89 rfl rfl rfl ?_
  refine c_seq ?_
  refine go ?_
  refine c_scope (fun _ _ h => h) ?_
  refine go ?_
  refine c_loopT (fun mm X o G => ∃ j : Nat, mm = m - j ∧ X = [(1, .int .i64 v), (10, .slice (some ⟨g, 0, none⟩) m c), (11, .int .i64 (m : Nat)), (12, .int .i64 (j : Nat))] ∧ tabC rt g m c rk rf next :: helC g m c held :: rest = o ∧ F = G ∧ j ≤ m ∧ ∀ q : Nat, q < j → held.getD q 0 ≠ v)
    ⟨_, _, _, _, ⟨0, rfl, rfl, rfl, rfl, by omega, fun q h => by omega⟩, ⟨rfl, rfl, rfl, rfl, trivial⟩, Turn.refl _ _⟩ ?_
  rintro _ _ _ _ b ⟨j, rfl, rfl, rfl, rfl, hj, hq⟩
  by_cases hjl : j < m
  · refine go ?_
    refine o_load rfl (rdG 1 rfl (map_getD 0 (by omega))) ?_
    by_cases hv : held.getD j 0 = v
    · refine go ?_
      exact b_ret rfl (.cons (.tmp rfl) .nil) (Turn.refl _ _) ⟨rfl, Fle.refl _, rfl, j, rfl, .inl ⟨by omega, by omega, hv⟩⟩
    · refine go ?_
      exact ⟨_, _, _, _, ⟨j + 1, rfl, rfl, rfl, rfl, by omega, fun q h => by
        by_cases e : q = j
        · rw [e]; exact hv
        · exact hq q (by omega)⟩, ⟨rfl, rfl, rfl, eqI (by omega), trivial⟩, Turn.refl _ _, rfl, by omega⟩
  · obtain rfl : j = m := by omega
    refine go ?_
    exact b_ret rfl (.cons (.tmp rfl) .nil) (Turn.refl _ _) ⟨rfl, Fle.refl _, rfl, -1, rfl, .inr ⟨rfl, fun q h0 h1 => hq q.toNat (by omega)⟩⟩
theorem keyed129 (hm : held.length = m) (hb : m ≤ 1000) {i : Ins} (hi : i.ok m) (rest : List Ch) : N 129 [.pointer (some ⟨rt, 0, none⟩), .agg (vIn i).toArray] (tabC rt g m c rk rf next :: helC g m c held :: rest) F fun u o F' => o = tabC rt g m c rk rf next :: helC g m c held :: rest ∧ Fle F F' ∧ u = encK (keyF held i) := by
  have a0 := hi.a0
  have a1 := hi.a1
  have b0 := hi.b0
  have b1 := hi.b1
  obtain ⟨a, ha⟩ : ∃ a : Nat, i.a = a := ⟨i.a.toNat, by omega⟩
  obtain ⟨b, hbb⟩ : ∃ b : Nat, i.b = b := ⟨i.b.toNat, by omega⟩
  have hda : hd_ held i.a = held.getD a 0 := by unfold hd_; rw [ha]; rfl
  have hdb : hd_ held i.b = held.getD b 0 := by unfold hd_; rw [hbb]; rfl
  refine n_fun Tryz.func129 Tryz.ntmps129 rfl rfl rfl ?_
  refine go ?_
  intro r3 r4
  refine go ?_
  refine o_val (.int .i64 (a : Nat)) (congrArg vi ha) ?_
  refine go ?_
  refine o_load rfl (rdG 3 rfl (map_getD 0 (by omega))) ?_
  refine go ?_
  intro r5
  refine o_pu rfl (asks83 i) (fun v F1 hF1 hv => ?_) sl
  rw [asks_eq hi] at hv
  obtain ⟨Av, cv, ev⟩ := hv.dest
  subst ev
  generalize hkey : keyF held i = key
  unfold keyF at hkey
  rw [hda, hdb] at hkey
  by_cases h2 : i.op = 3 ∨ i.op = 4
  · have hl : i.asks.length = 2 := by unfold Ins.asks; rw [if_pos (show twoOp i.op from h2)]; rfl
    refine go ?_
    refine o_val (.int .i64 (b : Nat)) (congrArg vi hbb) ?_
    refine go ?_
    refine o_load rfl (rdG 4 rfl (map_getD 0 (by omega))) ?_
    refine go ?_
    by_cases h3 : i.op = 3
    · by_cases hlt : held.getD b 0 < held.getD a 0
      · rw [if_pos ⟨h3, hlt⟩] at hkey
        refine go ?_
        exact b_ret rfl (.cons (.cella rfl rfl (rdsW 1 rfl)) .nil) (Turn.skip (Turn.skip Turn.drop)) ⟨rfl, hF1, by rw [← hkey]; rfl⟩
      · rw [if_neg (fun h => hlt h.2), if_pos (.inl h3)] at hkey
        refine go ?_
        exact b_ret rfl (.cons (.cella rfl rfl (rdsW 1 rfl)) .nil) (Turn.skip (Turn.skip Turn.drop)) ⟨rfl, hF1, by rw [← hkey]; rfl⟩
    · rw [if_neg (fun h => h3 h.1), if_pos h2] at hkey
      refine go ?_
      exact b_ret rfl (.cons (.cella rfl rfl (rdsW 1 rfl)) .nil) (Turn.skip (Turn.skip Turn.drop)) ⟨rfl, hF1, by rw [← hkey]; rfl⟩
  · have hl : i.asks.length = 1 := by unfold Ins.asks; rw [if_neg (show ¬ twoOp i.op from h2)]; rfl
    have h3 : ¬ i.op = 3 := fun e => h2 (.inl e)
    rw [if_neg (fun h => h3 h.1), if_neg h2] at hkey
    refine go ?_
    exact b_ret rfl (.cons (.cella rfl rfl (rdsW 1 rfl)) .nil) (Turn.skip (Turn.skip Turn.drop)) ⟨rfl, hF1, by rw [← hkey]; rfl⟩
theorem asked88 (hm : held.length = m) (hb : m ≤ 1000) {i : Ins} (hi : i.ok m) (rest : List Ch) : N 88 [.pointer (some ⟨rt, 0, none⟩), .agg (vIn i).toArray] (tabC rt g m c rk rf next :: helC g m c held :: rest) F fun u o F' => o = tabC rt g m c rk rf next :: helC g m c held :: rest ∧ Fle F F' ∧ ∃ j : Ins, u = .agg (vIn j).toArray ∧ Askd held m i j := by
  have a0 := hi.a0
  have a1 := hi.a1
  have b0 := hi.b0
  have b1 := hi.b1
  obtain ⟨a, ha⟩ : ∃ a : Nat, i.a = a := ⟨i.a.toNat, by omega⟩
  obtain ⟨b, hbb⟩ : ∃ b : Nat, i.b = b := ⟨i.b.toNat, by omega⟩
  have hda : hd_ held i.a = held.getD a 0 := by unfold hd_; rw [ha]; rfl
  have hdb : hd_ held i.b = held.getD b 0 := by unfold hd_; rw [hbb]; rfl
  refine n_fun Tryz.func88 Tryz.ntmps88 rfl rfl rfl ?_
  refine go ?_
  intro r3 r4
  refine go ?_
  refine o_pu rfl (asks83 i) (fun v F1 hF1 hv => ?_) sl
  rw [asks_eq hi] at hv
  obtain ⟨Av, cv, ev⟩ := hv.dest
  subst ev
  refine go ?_
  refine o_val (.int .i64 (a : Nat)) (congrArg vi ha) ?_
  refine go ?_
  refine o_load rfl (rdG 3 rfl (map_getD 0 (by omega))) ?_
  refine o_nx rfl (at2 2 3 (fun rest => holder89 (rk := rk) (rf := rf) (next := next) hm hb (held.getD a 0) rest) rfl rfl rfl) (fun u F2 _ ⟨e1, ra, e2, hra⟩ => ?_) sl
  subst e1 e2
  have hra : 0 ≤ ra ∧ ra < m ∧ hd_ held ra = hd_ held i.a := by
    rcases hra with h | ⟨_, h⟩
    · rw [hda]; exact h
    · exact absurd hda (h i.a a0 a1)
  refine go ?_
  by_cases h2 : i.op = 3 ∨ i.op = 4
  · have hl : i.asks.length = 2 := by unfold Ins.asks; rw [if_pos (show twoOp i.op from h2)]; rfl
    refine go ?_
    refine o_val (.int .i64 (b : Nat)) (congrArg vi hbb) ?_
    refine go ?_
    refine o_load rfl (rdG 3 rfl (map_getD 0 (by omega))) ?_
    refine o_nx rfl (at2 2 3 (fun rest => holder89 (rk := rk) (rf := rf) (next := next) hm hb (held.getD b 0) rest) rfl rfl rfl) (fun u F3 _ ⟨e1, rb, e2, hrb⟩ => ?_) sl
    subst e1 e2
    have hrb : 0 ≤ rb ∧ rb < m ∧ hd_ held rb = hd_ held i.b := by
      rcases hrb with h | ⟨_, h⟩
      · rw [hdb]; exact h
      · exact absurd hdb (h i.b b0 b1)
    refine go ?_
    exact b_ret rfl (.cons (.cella rfl rfl (rdsW 0 rfl)) .nil) (Turn.skip Turn.drop) ⟨rfl, hF1, ⟨i.op, i.to, ra, rb, i.c⟩, rfl, ⟨rfl, rfl, rfl, hra, .inl ⟨h2, hrb⟩⟩⟩
  · have hl : i.asks.length = 1 := by unfold Ins.asks; rw [if_neg (show ¬ twoOp i.op from h2)]; rfl
    refine go ?_
    exact b_ret rfl (.cons (.cella rfl rfl (rdsW 0 rfl)) .nil) (Turn.skip Turn.drop) ⟨rfl, hF1, ⟨i.op, i.to, ra, i.b, i.c⟩, rfl, ⟨rfl, rfl, rfl, hra, .inr ⟨h2, rfl⟩⟩⟩
end
end Go.Proofs.YthkoodpnepfijaaGreatDoor
/- VL: THE LESS, THE GREATER of two numbers. -/
namespace Go.Proofs.YthkoodpnepfijaaGreatDoor
open Go.RowKit
set_option linter.unusedVariables false
section
variable {n : Nat} {ops : Array Oper} {fl : Option (List Nat)} {rest : List Oper} {K : St → Prop} {wk : List Ch} {x : Fr} {b : Nat → Value} {ds : List Deferred} {own : List Ch} {F : Fz} {d ty : Nat} {pos : String} {af : Array Edge}
theorem o_min {a a' : Operand} {ats : Array TypeId} {k : IntKind} {p q : Int} (ha : evS n x a = some (.int k p)) (ha' : evS n x a' = some (.int k q)) (h : O n ops fl rest K wk ⟨(d, .int k (min p q)) :: x, b, ds, own, F⟩) : O n ops fl (⟨some d, .call { callee := .builtin .min, args := #[a, a'], argTypes := ats }, ty, pos, af, none⟩ :: rest) K wk ⟨x, b, ds, own, F⟩ :=
  o_rd _ rfl (fun B w0 w hw => by
    have e : (if q < p then q else p) = min p q := by split <;> omega
    unfold execOp
    simp [resolve, invoke, builtin, Builtin.min_, Builtin.min2, evx ha, evx ha', e]) h
theorem o_max {a a' : Operand} {ats : Array TypeId} {k : IntKind} {p q : Int} (ha : evS n x a = some (.int k p)) (ha' : evS n x a' = some (.int k q)) (h : O n ops fl rest K wk ⟨(d, .int k (max p q)) :: x, b, ds, own, F⟩) : O n ops fl (⟨some d, .call { callee := .builtin .max, args := #[a, a'], argTypes := ats }, ty, pos, af, none⟩ :: rest) K wk ⟨x, b, ds, own, F⟩ :=
  o_rd _ rfl (fun B w0 w hw => by
    have e : (if p < q then q else p) = max p q := by split <;> omega
    unfold execOp
    simp [resolve, invoke, builtin, Builtin.max_, Builtin.max2, evx ha, evx ha', e]) h
end
end Go.Proofs.YthkoodpnepfijaaGreatDoor
/- XS: WALKS: share: newTable, reckon. -/
namespace Go.Proofs.YthkoodpnepfijaaGreatDoor
open Go.RowKit
set_option linter.unusedVariables false
set_option linter.unusedSimpArgs false
set_option maxRecDepth 100000
set_option maxHeartbeats 1000000
theorem c_gslQ {n : Nat} {ro : Option Nat} {Q : Exit → St → Prop} {cd : Code} {x : Fr} {b : Nat → Value} {ds : List Deferred} {own : List Ch} {F : Fz} {v : Value} {e s m : Nat} {xs : List Value} (p : Nat) (hp : own[p]? = some (.g v e s m xs)) (hm : 0 < m) (h : ∀ g c, m ≤ c → v = .slice (some ⟨g, 0, none⟩) m c → C n ro cd Q ⟨x, b, ds, own, F⟩) : C n ro cd Q ⟨x, b, ds, own, F⟩ := ⟨fun B w0 w hI => by
  have hok := hI.ok _ (List.mem_of_getElem? hp)
  rcases hok.2 with ⟨hv, hm0⟩ | ⟨g, cap, cur, hv, _, _, hc, _⟩
  · omega
  · exact (h _ _ hc hv).out B w0 w hI⟩
theorem newTable86 {F : Fz} {p : Prg} {A1 A2 : Option Addr} {m1 m2 c1 c2 : Nat} (hok : p.ok) (own : List Ch) : N 86 [vPr p (.slice A1 m1 c1) (.slice A2 m2 c2)] own F fun u o F' => ∃ rt g c rk rf, u = .pointer (some ⟨rt, 0, none⟩) ∧ o = tabC rt g p.regs.toNat c rk rf (p.ins + 1) :: helC g p.regs.toNat c (held0 p) :: .o rk (mapO encK []) :: .o rf (mapO encK []) :: own ∧ Fle F F' := by
  have o1 := hok.ins1
  have o2 := hok.insr
  have o3 := hok.regs
  refine n_fun Tryz.func86 Tryz.ntmps86 rfl rfl rfl ?_
  refine go ?_
  intro r1
  refine go ?_
  refine o_mkmap encK sl (fun _ => .text) (fun rk => ?_)
  refine o_mkmap encK sl (fun _ => .text) (fun rf => ?_)
  refine go ?_
  intro rt
  refine go ?_
  have hl0 : (held0 p).length = p.regs.toNat := by unfold held0; rw [List.length_map, List.length_range]
  refine c_loopT (fun mm X o G => ∃ (j : Nat) (A : Option Addr) (c : Nat), mm = p.regs.toNat - j ∧ X = [(1, .pointer (some ⟨r1, 0, none⟩)), (3, .pointer (some ⟨rt, 0, none⟩)), (13, .int .i64 p.regs), (14, .int .i64 (j : Nat))] ∧ .c rt [.slice A j c, .map (some rk), .map (some rf), .int .i64 (p.ins + 1)] :: .g (.slice A j c) 3 1 j (((held0 p).take j).map vi) :: .o rf (mapO encK []) :: .o rk (mapO encK []) :: .c r1 [.int .i64 p.ins, .int .i64 p.regs, .slice A1 m1 c1, .slice A2 m2 c2] :: own = o ∧ F = G ∧ j ≤ p.regs.toNat)
    ⟨_, _, _, _, ⟨0, none, 0, rfl, rfl, rfl, rfl, by omega⟩, ⟨rfl, rfl, rfl, rfl, trivial⟩, (Turn.nil 3 1).trans (Turn.perm (.swap ..))⟩ ?_
  rintro _ _ _ _ b ⟨j, A, c, rfl, rfl, rfl, rfl, hj⟩
  by_cases hjl : j < p.regs.toNat
  · have hsn : ((held0 p).take (j + 1)).map vi = ((held0 p).take j).map vi ++ [.int .i64 (min (j : Int) p.ins)] := by
      rw [List.take_add_one, List.map_append, List.getElem?_eq_getElem (by omega)]
      congr 1
      simp [held0, vi]
    refine goT ?_
    refine c_drww [.c rt [.slice A j c, .map (some rk), .map (some rf), .int .i64 (p.ins + 1)], .c r1 [.int .i64 p.ins, .int .i64 p.regs, .slice A1 m1 c1, .slice A2 m2 c2]] sl rfl (by decide +kernel) ?_
    refine go ?_
    refine o_min rfl rfl ?_
    refine go ?_
    refine o_lit rfl rfl rfl rfl rfl (fun r3 => ?_) sl (fun _ => .keep sl (Fle.refl _))
    refine o_appW 1 rfl rfl rfl rfl rfl rfl rfl (by omega) (by omega) (fun _ => rfl) (fun _ => sl) sl (fun A' c' => ?_)
    refine go ?_
    refine o_stN rfl inferInstance rfl rfl get0 rfl (by simp) sl (.late [] (by decide +kernel) (List.nil_sublist _)) ?_
    refine go ?_
    exact ⟨_, _, _, _, ⟨j + 1, A', c', rfl, rfl, rfl, rfl, by omega⟩, ⟨rfl, rfl, rfl, eqI (by omega), trivial⟩, by rw [hsn]; exact Turn.refl _ _, rfl, by omega⟩
  · obtain rfl : j = p.regs.toNat := by omega
    rw [List.take_of_length_le (by omega)]
    refine c_gslQ 1 rfl (by omega) (fun g c' _ e => ?_)
    cases e
    refine go ?_
    exact b_ret rfl (.cons (.tmp rfl) .nil) ((Turn.of sl (Fle.refl _)).trans (Turn.perm ((List.Perm.swap ..).cons _ |>.cons _))) ⟨rt, g, c, rk, rf, rfl, rfl, Fle.refl _⟩
theorem reckon87 {rt g m c rk rf : Nat} {next : Int} {held : List Int} {known first : List (Key × Int)} {F : Fz} (hm : held.length = m) (hb : m ≤ 1000) (hn : 0 ≤ next ∧ next ≤ 1000000) (k : Int) {i : Ins} (hi : i.ok m) (rest : List Ch) :
    N 87 [.pointer (some ⟨rt, 0, none⟩), .int .i64 k, .agg (vIn i).toArray] (tabC rt g m c rk rf next :: helC g m c held :: .o rk (mapO encK known) :: .o rf (mapO encK first) :: rest) F fun u o F' => ∃ v w next' known' first', u = .tuple #[.int .i64 v, .int .i64 w] ∧ o = tabC rt g m c rk rf next' :: helC g m c held :: .o rk (mapO encK known') :: .o rf (mapO encK first') :: rest ∧ Fle F F' ∧ Rck held known next i v known' next' := by
  have a0 := hi.a0
  have a1 := hi.a1
  obtain ⟨a, ha⟩ : ∃ a : Nat, i.a = a := ⟨i.a.toNat, by omega⟩
  have hda : hd_ held i.a = held.getD a 0 := by unfold hd_; rw [ha]; rfl
  refine n_fun Tryz.func87 Tryz.ntmps87 rfl rfl rfl ?_
  by_cases h1 : i.op = 1
  · refine go ?_
    intro r5
    refine go ?_
    refine o_val (.int .i64 (a : Nat)) (congrArg vi ha) ?_
    refine go ?_
    refine o_load rfl (rdG 2 rfl (map_getD 0 (by omega))) ?_
    refine go ?_
    exact b_ret rfl (.cons (.tmp rfl) (.cons (.tmp rfl) .nil)) Turn.drop ⟨_, _, _, _, _, rfl, rfl, Fle.refl _, ⟨.inl ⟨h1, hda.symm, rfl, rfl⟩⟩⟩
  · refine go ?_
    intro r5
    refine go ?_
    refine o_nx rfl (at2 1 2 (fun rest => keyed129 (rk := rk) (rf := rf) (next := next) hm hb hi rest) rfl rfl rfl) (fun u F1 hF1 e => ?_) sl
    subst e
    refine go ?_
    intro r8
    refine o_look 4 (keyF held i) rfl rfl rfl ?_
    rw [if_pos rfl]
    have hknown : ∀ (K : Prop), (∀ v, asc known (keyF held i) = some v → K) → (asc known (keyF held i) = none → K) → K := fun K k1 k2 => by
      cases h : asc known (keyF held i) with
      | none => exact k2 h
      | some v => exact k1 v h
    refine hknown _ (fun v hv => ?_) (fun hv => ?_)
    · simp only [hv, Option.isSome_some, Option.getD_some]
      refine go ?_
      refine o_look 4 (keyF held i) rfl rfl rfl ?_
      rw [if_neg (by simp), hv]
      refine go ?_
      refine o_look 5 (keyF held i) rfl rfl rfl ?_
      rw [if_neg (by simp)]
      refine go ?_
      exact b_ret rfl (.cons (.tmp rfl) (.cons (.tmp rfl) .nil)) (Turn.skip Turn.drop) ⟨v, _, _, _, _, rfl, rfl, hF1, ⟨.inr (.inl ⟨h1, hv, rfl, rfl⟩)⟩⟩
    · simp only [hv, Option.isSome_none, Option.getD_none]
      refine goT ?_
      refine c_drww [.c r8 (kvL (keyF held i)), tabC rt g m c rk rf next] sl rfl (by decide +kernel) ?_
      refine go ?_
      refine o_mapEn 4 (keyF held i) rfl rfl rfl rfl sl (.keep sl (Fle.refl _)) (fun u1 => ?_)
      refine go ?_
      refine o_entSt 4 (keyF held i) rfl rfl rfl rfl rfl sl (.keep sl (Fle.refl _)) ?_
      refine o_mapEn 5 (keyF held i) rfl rfl rfl rfl sl (.keep sl (Fle.refl _)) (fun u2 => ?_)
      refine go ?_
      refine o_entSt 5 (keyF held i) rfl rfl rfl rfl rfl sl (.keep sl (Fle.refl _)) ?_
      refine o_nil sl ?_
      rw [upd_new hv]
      refine go ?_
      refine o_look 4 (keyF held i) rfl rfl rfl ?_
      rw [if_neg (by simp)]
      refine go ?_
      refine o_look 5 (keyF held i) rfl rfl rfl ?_
      rw [if_neg (by simp)]
      refine go ?_
      exact b_ret rfl (.cons (.tmp rfl) (.cons (.tmp rfl) .nil)) (Turn.skip Turn.drop) ⟨next, _, next + 1, _, _, by rw [asc_app _ _ _ _ hv, if_pos rfl]; rfl, rfl, hF1, ⟨.inr (.inr ⟨h1, hv, rfl, rfl, rfl⟩)⟩⟩
end Go.Proofs.YthkoodpnepfijaaGreatDoor
/- XT: WALKS: share: Pass. -/
namespace Go.Proofs.YthkoodpnepfijaaGreatDoor
open Go.RowKit
set_option linter.unusedVariables false
set_option linter.unusedSimpArgs false
set_option maxRecDepth 100000
set_option maxHeartbeats 1000000
theorem perm5 (a b c d e : Ch) (l : List Ch) : List.Perm (a :: b :: c :: d :: e :: l) (b :: c :: d :: e :: a :: l) := by
  have := (List.perm_append_comm (l₁ := [a]) (l₂ := [b, c, d, e])).append_right l
  exact this
/-- The chunk at place p comes first. -/
theorem pkP {own r r' : List Ch} {c : Ch} (p : Nat) (h : pick own p = some (c, r)) (k : r.Perm r') : own.Perm (c :: r') := (pick_perm h).trans (k.cons c)
theorem share52 {F : Fz} {p : Prg} {cv ov : Value} (hP : PrR F cv ov p) (hok : p.ok) : Pu 52 [vPr p cv ov] F fun u F' => ∃ q cv' ov', u = .tuple #[vPr q cv' ov', .int .i64 0] ∧ PrR F' cv' ov' q ∧ Sim p q := fun own => by
  obtain ⟨A1, c1, e1⟩ := hP.code.dest
  obtain ⟨A2, c2, e2⟩ := hP.outs.dest
  subst e1 e2
  have o1 := hok.ins1
  have o2 := hok.insr
  have o3 := hok.regs
  have o4 := hok.len
  have o6 := hok.outn
  obtain ⟨R, hR⟩ : ∃ R : Nat, p.regs = R := ⟨p.regs.toNat, by omega⟩
  refine n_fun Tryz.func52 Tryz.ntmps52 rfl rfl rfl ?_
  refine go ?_
  intro r1 r2
  refine go ?_
  refine o_pu rfl (check28 hP hok) (fun v F1 hF1 e => ?_) sl
  subst e
  have hP1 := hP.le hF1
  refine go ?_
  refine o_call rfl (newTable86 hok _) (fun u o F2 ⟨rt, g, c, rk, rf, e1, e2, hF2⟩ => ⟨_, .text, ?_⟩) sl
  subst e1 e2
  have hl0 : (held0 p).length = R := by unfold held0; rw [List.length_map, List.length_range]; omega
  rw [show p.regs.toNat = R by omega]
  have hP2 := hP1.le hF2
  refine go ?_
  intro r7
  refine go ?_
  refine c_loopT (fun mm X o G => ∃ (j : Nat) (cv : Value) (cd : List Ins) (held : List Int) (known first : List (Key × Int)) (next : Int), mm = p.code.length - j ∧ X = [(1, .pointer (some ⟨r1, 0, none⟩)), (2, .pointer (some ⟨r2, 0, none⟩)), (6, .pointer (some ⟨rt, 0, none⟩)), (7, .pointer (some ⟨r7, 0, none⟩)), (32, .slice A1 p.code.length c1), (33, .int .i64 (p.code.length : Nat)), (34, .int .i64 (j : Nat))] ∧ tabC rt g R c rk rf next :: helC g R c held :: .o rk (mapO encK known) :: .o rf (mapO encK first) :: .c r7 [.int .i64 p.ins, .int .i64 p.regs, cv, .slice none 0 0] :: coC cv cd :: .c r2 [.int .i64 0, .int .i64 0, .slice none 0 0, .slice none 0 0] :: .c r1 [.int .i64 p.ins, .int .i64 p.regs, .slice A1 p.code.length c1, .slice A2 p.outs.length c2] :: own = o ∧ Fle F2 G ∧ j ≤ p.code.length ∧ held.length = R ∧ ShI p j held known next cd ∧ next ≤ p.ins + 1 + j)
    ⟨_, _, _, _, ⟨0, .slice none 0 0, [], held0 p, [], [], p.ins + 1, rfl, rfl, rfl, Fle.refl _, by omega, hl0, sh_nil hok, by omega⟩, ⟨rfl, rfl, rfl, rfl, rfl, rfl, rfl, trivial⟩, ?_⟩ ?_
  · refine (Turn.nil 119 5).trans (Turn.perm ?_)
    exact pkP 2 rfl (pkP 2 rfl (pkP 2 rfl (pkP 2 rfl (.swap ..))))
  rintro _ _ _ G b ⟨j, cv, cd, held, known, first, next, rfl, rfl, rfl, hG, hj, hhl, hS, hnx⟩
  have hC := RowS.le hP2.code hG
  by_cases hjl : j < p.code.length
  · have hio := hok.code _ (getD_mem (z := z0I) hjl)
    have hn0 := hS.next0
    have hcl := hS.len
    refine go ?_
    intro r9
    refine go ?_
    generalize hI : p.code.getD j z0I = I at *
    have t0 := hio.to0
    have t1 := hio.to1
    obtain ⟨iop, ito, ia, ib, ic⟩ := I
    obtain ⟨t, rfl⟩ : ∃ t : Nat, ito = t := ⟨ito.toNat, by simp only at t0 t1; omega⟩
    simp only at t1
    have hioR : (Ins.mk iop (t : Nat) ia ib ic).ok R := by rw [← hR]; exact hio
    refine o_perm (perm5 _ _ _ _ _ _) ?_
    refine o_call rfl (reckon87 hhl (by omega) (by omega) (j : Nat) hioR _) (fun u o G1 ⟨v, w, next', known', first', e1, e2, hG1, hrck⟩ => ⟨_, .text, ?_⟩) sl
    subst e1 e2
    refine go ?_
    refine o_nx rfl (at2 0 1 (fun rest => asked88 (rk := rk) (rf := rf) (next := next') hhl (by omega) hioR rest) rfl rfl rfl) (fun u G2 hG2 ⟨i', e, hask⟩ => ?_) sl
    subst e
    obtain ⟨jop, jto, ja, jb, jc⟩ := i'
    obtain rfl : jto = (t : Nat) := hask.to
    have hask' : Askd held p.regs ⟨iop, (t : Nat), ia, ib, ic⟩ ⟨jop, (t : Nat), ja, jb, jc⟩ := by rw [hR]; exact hask
    have hvn : next' ≤ next + 1 := by
      rcases hrck.h with ⟨_, _, _, e⟩ | ⟨_, _, _, e⟩ | ⟨_, _, _, _, e⟩ <;> omega
    refine go ?_
    refine o_load rfl (rdG 1 rfl (map_getD 0 (by omega))) ?_
    by_cases hto : held.getD t 0 = v
    · refine go ?_
      exact ⟨_, _, _, _, ⟨j + 1, cv, cd, held, known', first', next', rfl, rfl, rfl, (hG.trans hG1).trans hG2, by omega, hhl, sh_step hok hS hjl hI hrck hask' ⟨.inl ⟨hto, rfl, rfl⟩⟩, by omega⟩, ⟨rfl, rfl, rfl, rfl, rfl, rfl, eqI (by omega), trivial⟩, Turn.of sl (Fle.refl _), rfl, by omega⟩
    · refine go ?_
      refine o_nx rfl (at2 0 1 (fun rest => holder89 (rk := rk) (rf := rf) (next := next') hhl (by omega) v rest) rfl rfl rfl) (fun u G3 _ ⟨e1, r, e2, hr⟩ => ?_) sl
      subst e1 e2
      rcases hr with ⟨h0, h1, h2⟩ | ⟨rfl, hno⟩
      · refine go ?_
        refine o_lit rfl rfl rfl rfl rfl (fun r3 => ?_)
        refine o_app1 6 rfl rfl rfl rfl rfl rfl rfl (by omega) (by omega) (fun _ => rfl) (fun A' c' => ?_)
        refine goT ?_
        refine c_drww [tabC rt g R c rk rf next', .c r9 (vIn ⟨1, (t : Nat), r, 0, 0⟩)] sl rfl (by decide +kernel) ?_
        refine go ?_
        refine o_storeg (q := 0) 1 rfl rfl rfl rfl (by rw [List.length_map]; omega) ?_ sl (.keep sl (Fle.refl _))
        simp only [List.set_cons_succ, List.set_cons_zero]
        refine o_nil sl ?_
        rw [show (held.map vi).set t (Value.int .i64 v) = (held.set t v).map vi by rw [List.map_set]; rfl]
        refine go ?_
        exact ⟨_, _, _, _, ⟨j + 1, .slice A' (cd.length + 1) c', cd ++ [⟨1, (t : Nat), r, 0, 0⟩], held.set t v, known', first', next', rfl, rfl, rfl, (hG.trans hG1).trans hG2, by omega, by rw [List.length_set]; exact hhl, sh_step hok hS hjl hI hrck hask' ⟨.inr ⟨rfl, .inl ⟨r, h0, by rw [hR]; exact h1, h2, rfl⟩⟩⟩, by omega⟩, ⟨rfl, rfl, rfl, rfl, rfl, rfl, eqI (by omega), trivial⟩, by simp only [coC, List.length_append, List.flatMap_append, List.length_singleton, List.flatMap_cons, List.flatMap_nil, List.append_nil]; exact Turn.of sl (Fle.refl _), rfl, by omega⟩
      · refine go ?_
        refine o_lit rfl rfl rfl rfl rfl (fun r3 => ?_)
        refine o_app1 6 rfl rfl rfl rfl rfl rfl rfl (by omega) (by omega) (fun _ => rfl) (fun A' c' => ?_)
        refine goT ?_
        refine c_drww [tabC rt g R c rk rf next', .c r9 (vIn ⟨jop, (t : Nat), ja, jb, jc⟩)] sl rfl (by decide +kernel) ?_
        refine go ?_
        refine o_storeg (q := 0) 1 rfl rfl rfl rfl (by rw [List.length_map]; omega) ?_ sl (.keep sl (Fle.refl _))
        simp only [List.set_cons_succ, List.set_cons_zero]
        refine o_nil sl ?_
        rw [show (held.map vi).set t (Value.int .i64 v) = (held.set t v).map vi by rw [List.map_set]; rfl]
        refine go ?_
        exact ⟨_, _, _, _, ⟨j + 1, .slice A' (cd.length + 1) c', cd ++ [⟨jop, (t : Nat), ja, jb, jc⟩], held.set t v, known', first', next', rfl, rfl, rfl, (hG.trans hG1).trans hG2, by omega, by rw [List.length_set]; exact hhl, sh_step hok hS hjl hI hrck hask' ⟨.inr ⟨rfl, .inr ⟨fun q h0 h1 => hno q h0 (by rw [← hR]; exact h1), rfl⟩⟩⟩, by omega⟩, ⟨rfl, rfl, rfl, rfl, rfl, rfl, eqI (by omega), trivial⟩, by simp only [coC, List.length_append, List.flatMap_append, List.length_singleton, List.flatMap_cons, List.flatMap_nil, List.append_nil]; exact Turn.of sl (Fle.refl _), rfl, by omega⟩
  · obtain rfl : j = p.code.length := by omega
    have hO := RowM.le hP2.outs hG
    refine go ?_
    refine o_load rfl (rdC 7 rfl rfl) ?_
    refine go ?_
    refine c_loopT (fun mm X o G' => ∃ (k : Nat) (ov : Value) (us : List Int), mm = p.outs.length - k ∧ X = [(1, .pointer (some ⟨r1, 0, none⟩)), (2, .pointer (some ⟨r2, 0, none⟩)), (6, .pointer (some ⟨rt, 0, none⟩)), (7, .pointer (some ⟨r7, 0, none⟩)), (84, .slice A2 p.outs.length c2), (85, .int .i64 (p.outs.length : Nat)), (86, .int .i64 (k : Nat))] ∧ tabC rt g R c rk rf next :: helC g R c held :: .c r7 [.int .i64 p.ins, .int .i64 p.regs, cv, ov] :: .g ov 3 1 k (us.map vi) :: coC cv cd :: .c r2 [.int .i64 0, .int .i64 0, .slice none 0 0, .slice none 0 0] :: .c r1 [.int .i64 p.ins, .int .i64 p.regs, .slice A1 p.code.length c1, .slice A2 p.outs.length c2] :: own = o ∧ G = G' ∧ k ≤ p.outs.length ∧ us.length = k ∧ ∀ n, n < k → 0 ≤ us.getD n 0 ∧ us.getD n 0 < p.regs ∧ hd_ held (us.getD n 0) = hd_ held (p.outs.getD n 0))
      ⟨_, _, _, _, ⟨0, .slice none 0 0, [], rfl, rfl, rfl, rfl, by omega, rfl, fun n h => by omega⟩, ⟨rfl, rfl, rfl, rfl, rfl, rfl, rfl, trivial⟩, ?_⟩ ?_
    · refine (Turn.nil 3 1).trans ((Turn.perm (pkP 1 rfl (pkP 1 rfl (pkP 3 rfl (.refl _))))).trans (Turn.of sl (Fle.refl _)))
    rintro _ _ _ _ b ⟨k, ov, us, rfl, rfl, rfl, rfl, hk, hul, hus⟩
    by_cases hkl : k < p.outs.length
    · have hr := hok.outs _ (getD_mem (z := 0) hkl)
      generalize hq : p.outs.getD k 0 = q at *
      obtain ⟨n, rfl⟩ : ∃ n : Nat, q = n := ⟨q.toNat, by omega⟩
      have hr1 := hr.2
      refine goT ?_
      refine c_drww [tabC rt g R c rk rf next, helC g R c held, .c r7 [.int .i64 p.ins, .int .i64 p.regs, cv, ov]] sl rfl (by decide +kernel) ?_
      refine go ?_
      refine o_val (.int .i64 (n : Nat)) (congrArg vi hq) ?_
      refine go ?_
      refine o_load rfl (rdG 1 rfl (map_getD 0 (by omega))) ?_
      refine o_nx rfl (at2 0 1 (fun rest => holder89 (rk := rk) (rf := rf) (next := next) hhl (by omega) (held.getD n 0) rest) rfl rfl rfl) (fun u G3 _ ⟨e1, r, e2, hrr⟩ => ?_) sl
      subst e1 e2
      have hrr : 0 ≤ r ∧ r < R ∧ hd_ held r = held.getD n 0 := by
        rcases hrr with h | ⟨_, h⟩
        · exact h
        · exact absurd rfl (h n (by omega) (by omega))
      refine o_lit rfl rfl rfl rfl rfl (fun r3 => ?_) sl (fun _ => .keep sl (Fle.refl _))
      refine o_appW 3 rfl rfl rfl rfl rfl rfl rfl (by omega) (by omega) (fun _ => rfl) (fun _ => sl) sl (fun A' c' => ?_)
      refine go ?_
      refine ⟨_, _, _, _, ⟨k + 1, .slice A' (k + 1) c', us ++ [r], rfl, rfl, rfl, rfl, by omega, by simp [hul], fun m hm => ?_⟩, ⟨rfl, rfl, rfl, rfl, rfl, rfl, eqI (by omega), trivial⟩, by rw [List.map_append]; exact Turn.refl _ _, rfl, by omega⟩
      rw [List.getD_eq_getElem?_getD, List.getElem?_append]
      by_cases hmk : m < k
      · rw [if_pos (by omega), ← List.getD_eq_getElem?_getD]; exact hus m hmk
      · obtain rfl : m = k := by omega
        rw [if_neg (by omega), hul, Nat.sub_self, hq]
        exact ⟨hrr.1, by rw [hR]; exact hrr.2.1, hrr.2.2⟩
    · obtain rfl : k = p.outs.length := by omega
      have hSim := sh_sim hok hS hul hus
      refine c_iceS z0I 4 rfl (fun _ => rfl) rfl (fun hcR => ?_)
      refine c_iceM (f := vi) 0 3 (by rw [← hul]; exact rfl) (fun hoR => ?_)
      obtain ⟨Ac, cc, ec⟩ := hcR.dest
      obtain ⟨Ao, co, eo⟩ := hoR.dest
      subst ec eo
      refine go ?_
      exact b_ret rfl (.cons (.cella rfl rfl (rdsW 3 rfl)) (.cons (.tmp rfl) .nil)) (Turn.skip (Turn.skip (Turn.skip (Turn.skip Turn.drop)))) ⟨rfl, hF1.trans (hF2.trans (hG.trans ((Fz.add_le _ _).trans (Fz.add_le _ _)))), { p with code := cd, outs := us }, _, _, rfl, ⟨hcR.le (Fz.add_le _ _), hoR⟩, hSim⟩
end Go.Proofs.YthkoodpnepfijaaGreatDoor

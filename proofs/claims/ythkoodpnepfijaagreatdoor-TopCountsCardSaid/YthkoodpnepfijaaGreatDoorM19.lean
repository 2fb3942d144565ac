/-
  Steps towards TopCounts (no conditions of their own): WALKS: Equal of instructions, Same. WALKS: Equal of ints, Same. WALKS: slices.Backward, prog.Back. RANGE OVER A FUNCTION, where a round's values are put into blocks of their own. WALKS: prog.Back. WHAT IS NEEDED, PLAINLY: going from behind; a program without what nobody asks does the same.
-/
import Derived.Test.YthkoodpnepfijaaGreatDoorM08
import Derived.Test.YthkoodpnepfijaaGreatDoorM14
import Derived.Test.YthkoodpnepfijaaGreatDoorM18
/- XJ: WALKS: Equal of instructions, Same. -/
namespace Go.Proofs.YthkoodpnepfijaaGreatDoor
open Go.RowKit
set_option linter.unusedVariables false
set_option linter.unusedSimpArgs false
set_option maxRecDepth 100000
set_option maxHeartbeats 1000000
section
variable {n : Nat} {ops : Array Oper} {fl : Option (List Nat)} {rest : List Oper} {K : St → Prop} {wk : List Ch} {x : Fr} {b : Nat → Value} {ds : List Deferred} {own : List Ch} {F : Fz} {d ty : Nat} {pos : String} {af : Array Edge}
theorem o_neqs {a a' : Operand} {t t' m : Nat} [ht : EqT t m] {vs us : List Value} {zs ys : List Int} (c : Bool) (ha : evS n x a = some (.agg vs.toArray)) (ha' : evS n x a' = some (.agg us.toArray)) (hz : intsOf vs = some zs) (hy : intsOf us = some ys) (h1 : zs.length = m) (h2 : ys.length = m) (hc : decide (zs = ys) = c)
    (h : O n ops fl rest K wk ⟨(d, .bool (!c)) :: x, b, ds, own, F⟩) : O n ops fl (⟨some d, .binOp .neq t a a' t', ty, pos, af, none⟩ :: rest) K wk ⟨x, b, ds, own, F⟩ :=
  o_rd _ rfl (fun B w0 w hw => by
    obtain ⟨e1, e2⟩ := run_eqs ht h1 h2 w
    rw [intsOf_map hz] at ha
    rw [intsOf_map hy] at ha'
    unfold execOp
    simp [evx ha, evx ha', eqGuard, binOp, Result.andThen, e1, e2, hc]) h
end
theorem ins_ext {i j : Ins} : [i.op, i.to, i.a, i.b, i.c] = [j.op, j.to, j.a, j.b, j.c] ↔ i = j := by
  cases i; cases j; simp
theorem equal92 {F : Fz} {v w : Value} {l k : List Ins} (hl : CodR F v l) (hk : CodR F w k) (hlen : l.length < 1099511627776) : Ps 92 [v, w] F fun u => u = .bool (decide (l = k)) := fun own => by
  refine n_fun Tryz.func92 Tryz.ntmps92 rfl rfl rfl ?_
  by_cases hlk : l.length = k.length
  · refine go ?_
    refine c_loopT (fun mm X o G => ∃ i : Nat, mm = l.length - i ∧ X = [(0, v), (1, w), (11, v), (12, .int .i64 (l.length : Nat)), (13, .int .i64 (i : Nat))] ∧ own = o ∧ F = G ∧ i ≤ l.length ∧ ∀ j, j < i → l.getD j z0I = k.getD j z0I) ⟨_, _, _, _, ⟨0, rfl, rfl, rfl, rfl, by omega, fun j h => by omega⟩, ⟨rfl, rfl, rfl, rfl, rfl, trivial⟩, Turn.refl _ _⟩ ?_
    rintro _ _ _ _ b ⟨i, rfl, rfl, rfl, rfl, hi, hq⟩
    by_cases hil : i < l.length
    · have hik : i < k.length := by omega
      refine go ?_
      generalize hp : l.getD i z0I = p
      generalize hp2 : k.getD i z0I = q
      by_cases he : p = q
      · refine o_neqs (vs := vIn p) (us := vIn q) (zs := [p.op, p.to, p.a, p.b, p.c]) (ys := [q.op, q.to, q.a, q.b, q.c]) true rfl rfl rfl rfl rfl rfl (by rw [he]; simp) ?_
        refine go ?_
        exact ⟨_, _, _, _, ⟨i + 1, rfl, rfl, rfl, rfl, by omega, fun j hj => by
          by_cases hji : j = i
          · subst hji; rw [hp, hp2]; exact he
          · exact hq j (by omega)⟩, ⟨rfl, rfl, rfl, rfl, eqI (by omega), trivial⟩, Turn.refl _ _, rfl, by omega⟩
      · refine o_neqs (vs := vIn p) (us := vIn q) (zs := [p.op, p.to, p.a, p.b, p.c]) (ys := [q.op, q.to, q.a, q.b, q.c]) false rfl rfl rfl rfl rfl rfl (decide_eq_false fun h => he (ins_ext.1 h)) ?_
        refine go ?_
        exact b_ret rfl (.cons (.tmp rfl) .nil) (Turn.refl _ _) ⟨rfl, rfl, by
          have : l ≠ k := fun e => he (by rw [← hp, ← hp2, e])
          simp [tupV, this]⟩
    · refine go ?_
      exact b_ret rfl (.cons (.tmp rfl) .nil) (Turn.refl _ _) ⟨rfl, rfl, by
        have : l = k := by
          apply List.ext_getElem hlk
          intro j h1 h2
          have := hq j (by omega)
          rwa [List.getD_eq_getElem?_getD, List.getElem?_eq_getElem h1, List.getD_eq_getElem?_getD, List.getElem?_eq_getElem h2] at this
        simp [tupV, this]⟩
  · refine go ?_
    exact b_ret rfl (.cons (.tmp rfl) .nil) (Turn.refl _ _) ⟨rfl, rfl, by
      have : l ≠ k := fun e => hlk (by rw [e])
      simp [tupV, this]⟩
end Go.Proofs.YthkoodpnepfijaaGreatDoor
/- XK: WALKS: Equal of ints, Same. -/
namespace Go.Proofs.YthkoodpnepfijaaGreatDoor
open Go.RowKit
set_option linter.unusedVariables false
set_option linter.unusedSimpArgs false
set_option maxRecDepth 100000
set_option maxHeartbeats 1000000
theorem equal77i {F : Fz} {v w : Value} {l k : List Int} (hl : IntsR F v l) (hk : IntsR F w k) (hlen : l.length < 1099511627776) : Ps 77 [v, w] F fun u => u = .bool (decide (l = k)) := fun own => by
  refine n_fun Tryz.func77 Tryz.ntmps77 rfl rfl rfl ?_
  by_cases hlk : l.length = k.length
  · refine go ?_
    refine c_loopT (fun mm X o G => ∃ i : Nat, mm = l.length - i ∧ X = [(0, v), (1, w), (11, v), (12, .int .i64 (l.length : Nat)), (13, .int .i64 (i : Nat))] ∧ own = o ∧ F = G ∧ i ≤ l.length ∧ ∀ j, j < i → l.getD j 0 = k.getD j 0) ⟨_, _, _, _, ⟨0, rfl, rfl, rfl, rfl, by omega, fun j h => by omega⟩, ⟨rfl, rfl, rfl, rfl, rfl, trivial⟩, Turn.refl _ _⟩ ?_
    rintro _ _ _ _ b ⟨i, rfl, rfl, rfl, rfl, hi, hq⟩
    by_cases hil : i < l.length
    · have hik : i < k.length := by omega
      by_cases he : l.getD i 0 = k.getD i 0
      · refine go ?_
        exact ⟨_, _, _, _, ⟨i + 1, rfl, rfl, rfl, rfl, by omega, fun j hj => by
          by_cases hji : j = i
          · subst hji; exact he
          · exact hq j (by omega)⟩, ⟨rfl, rfl, rfl, rfl, eqI (by omega), trivial⟩, Turn.refl _ _, rfl, by omega⟩
      · refine go ?_
        exact b_ret rfl (.cons (.tmp rfl) .nil) (Turn.refl _ _) ⟨rfl, rfl, by
          have : l ≠ k := fun e => he (by rw [e])
          simp [tupV, this]⟩
    · refine go ?_
      exact b_ret rfl (.cons (.tmp rfl) .nil) (Turn.refl _ _) ⟨rfl, rfl, by
        have : l = k := by
          apply List.ext_getElem hlk
          intro j h1 h2
          have := hq j (by omega)
          rwa [List.getD_eq_getElem?_getD, List.getElem?_eq_getElem h1, List.getD_eq_getElem?_getD, List.getElem?_eq_getElem h2] at this
        simp [tupV, this]⟩
  · refine go ?_
    exact b_ret rfl (.cons (.tmp rfl) .nil) (Turn.refl _ _) ⟨rfl, rfl, by
      have : l ≠ k := fun e => hlk (by rw [e])
      simp [tupV, this]⟩
theorem same54 {F : Fz} {p q : Prg} {cv ov cw ow : Value} (hP : PrR F cv ov p) (hQ : PrR F cw ow q) (hc : p.code.length < 1099511627776) (ho : p.outs.length < 1099511627776) : Ps 54 [vPr p cv ov, vPr q cw ow] F fun u => u = .bool (decide (p = q)) := fun own => by
  obtain ⟨A1, c1, e1⟩ := hP.code.dest
  obtain ⟨A2, c2, e2⟩ := hP.outs.dest
  obtain ⟨A3, c3, e3⟩ := hQ.code.dest
  obtain ⟨A4, c4, e4⟩ := hQ.outs.dest
  subst e1 e2 e3 e4
  refine n_fun Tryz.func54 Tryz.ntmps54 rfl rfl rfl ?_
  by_cases h1 : p.ins = q.ins
  · by_cases h2 : p.regs = q.regs
    · refine go ?_
      intro r1
      refine go ?_
      intro r2
      refine go ?_
      refine o_ps rfl (equal92 hP.code hQ.code hc) (fun u e => ?_)
      subst e
      by_cases h3 : p.code = q.code
      · rw [decide_eq_true h3]
        refine go ?_
        refine o_ps rfl (equal77i hP.outs hQ.outs ho) (fun u e => ?_)
        subst e
        refine go ?_
        exact b_ret rfl (.cons (.tmp rfl) .nil) (Turn.skip Turn.drop) ⟨rfl, rfl, by
          have : p = q ↔ p.outs = q.outs := ⟨fun e => by rw [e], fun e => by cases p; cases q; simp_all⟩
          simp [tupV, this]⟩
      · rw [decide_eq_false h3]
        refine go ?_
        exact b_ret rfl (.cons (.tmp rfl) .nil) (Turn.skip Turn.drop) ⟨rfl, rfl, by
          have : p ≠ q := fun e => h3 (by rw [e])
          simp [tupV, this]⟩
    · refine go ?_
      intro r1
      refine go ?_
      intro r2
      refine go ?_
      exact b_ret rfl (.cons (.tmp rfl) .nil) (Turn.skip Turn.drop) ⟨rfl, rfl, by
        have : p ≠ q := fun e => h2 (by rw [e])
        simp [tupV, this]⟩
  · refine go ?_
    intro r1
    refine go ?_
    intro r2
    refine go ?_
    exact b_ret rfl (.cons (.tmp rfl) .nil) (Turn.skip Turn.drop) ⟨rfl, rfl, by
      have : p ≠ q := fun e => h1 (by rw [e])
      simp [tupV, this]⟩
end Go.Proofs.YthkoodpnepfijaaGreatDoor
/- XL: WALKS: slices.Backward, prog.Back. -/
namespace Go.Proofs.YthkoodpnepfijaaGreatDoor
open Go.RowKit
set_option linter.unusedVariables false
set_option linter.unusedSimpArgs false
set_option maxRecDepth 100000
set_option maxHeartbeats 1000000
/-- What is given, backward: the place and the instruction. -/
def bwd (l : List Ins) : List (List Value) := (List.range l.length).map fun i => [.int .i64 ((l.length - 1 - i : Nat) : Int), .agg (vIn (l.getD (l.length - 1 - i) z0I)).toArray]
theorem bwd_get {l : List Ins} {i : Nat} (h : i < l.length) : (bwd l)[i]? = some [.int .i64 ((l.length - 1 - i : Nat) : Int), .agg (vIn (l.getD (l.length - 1 - i) z0I)).toArray] := by
  unfold bwd
  rw [List.getElem?_map, List.getElem?_range h]; rfl
theorem bwd_len (l : List Ins) : (bwd l).length = l.length := by simp [bwd]
theorem backward193 {F : Fz} {A : Addr} {v : Value} {l : List Ins} (hA : F A v) (hr : CodR F v l) (hl : l.length < 1099511627776) : Iter 193 [.pointer (some A)] (bwd l) F := fun L J hM hJ own G hj hF => by
  refine n_fun Tryz.func193 Tryz.ntmps193 rfl rfl rfl ?_
  have hA' := hF _ _ hA
  have hr' := RowS.le hr hF
  rw [bwd_len]
  refine go ?_
  refine c_loopT (fun m X o G' => ∃ (i : Nat) (z : Int), m = l.length - i ∧ X = [(0, .func (.yield L) #[] #[]), (1, .pointer (some A)), (3, .int .i64 z)] ∧ J i o G' ∧ Fle G G' ∧ i ≤ l.length ∧ z = (l.length : Int) - 1 - i) ⟨_, _, own, G, ⟨0, _, rfl, rfl, hj, Fle.refl _, by omega, rfl⟩, ⟨rfl, rfl, eqI (by omega), trivial⟩, Turn.refl _ _⟩ ?_
  rintro _ _ o G' b ⟨i, z, rfl, rfl, hj, hG, hi, hz⟩
  have hr2 := RowS.le hr' hG
  have hA2 := hG _ _ hA'
  by_cases hil : i < l.length
  · obtain rfl : z = ((l.length - 1 - i : Nat) : Int) := by omega
    have hil2 : l.length - 1 - i < l.length := by omega
    generalize hk : l.length - 1 - i = k at *
    refine go ?_
    have hy := hJ i _ (bwd_get hil) [] o G' hj (hF.trans hG)
    rw [List.append_nil, hk] at hy
    refine o_yield rfl rfl hy (fun own' F' ⟨o2, e, h1, h2⟩ => ⟨_, .text, ?_⟩) (List.Sublist.refl _)
    rw [List.append_nil] at e
    subst e
    refine go ?_
    exact ⟨_, _, _, _, ⟨i + 1, _, rfl, rfl, h1, hG.trans h2, by omega, rfl⟩, ⟨rfl, rfl, eqI (by omega), trivial⟩, Turn.refl _ _, rfl, by omega⟩
  · obtain rfl : i = l.length := by omega
    refine go ?_
    exact b_norm rfl .nil (Turn.refl _ _) ⟨hj, hG⟩
theorem backward157 {F : Fz} {Av : Option Addr} {m c : Nat} : Pu 157 [.slice Av m c] F fun u F' => ∃ A, u = .func (.func 193) #[] #[.pointer (some A)] ∧ F' A (.slice Av m c) := fun own => by
  refine n_fun Tryz.func157 Tryz.ntmps157 rfl rfl rfl ?_
  refine go ?_
  intro r
  exact b_ret rfl (.cons (.tmp rfl) .nil) Turn.ice ⟨rfl, Fz.add_le _ _, ⟨r, 0, none⟩, rfl, .inr (by simp [Ch.at])⟩
end Go.Proofs.YthkoodpnepfijaaGreatDoor
/- VI: RANGE OVER A FUNCTION, where a round's values are put into blocks of their own. -/
namespace Go.Proofs.YthkoodpnepfijaaGreatDoor
open Go.RowKit
set_option linter.unusedVariables false
set_option linter.unusedSimpArgs false
/-- **The loop.** y: the frame at a round's beginning. -/
theorem c_rangeA {n : Nat} {Q : Exit → St → Prop} {x : Fr} {b : Nat → Value} {ds : List Deferred} {own : List Ch} {F : Fz} {g : Operand} {ps : List Nat} {assign body : Code} {f : FuncId} [hfn : Fn_ f] {capt : List Value} {xs : List (List Value)} (y : List Value → Nat → Fr) (exc : List Value → Nat → List Ch) (JJ : Nat → List Ch → Fz → Prop) (hmono : ∀ i o F F', JJ i o F → Fle F F' → JJ i o F')
    (hg : evS n x g = some (.func (.func f) #[] capt.toArray)) (hIt : Iter f capt xs F) (hps : ∀ vs ∈ xs, vs.length = ps.length) (h0 : JJ 0 own F)
    (hassign : ∀ vs ∈ xs, ∀ l own F, C n (some l) assign (fun e s1 => e = .normal ∧ ∃ b' z, s1 = ⟨y vs z, b', [], exc vs z ++ own, F⟩) ⟨bindP ps vs x, b, [], own, F⟩)
    (hbody : ∀ i vs, xs[i]? = some vs → ∀ l b z own F' tail, JJ i own F' → Fle F F' → C n (some l) body (fun e s' => e = .normal ∧ ∃ o F2, Turn s'.own s'.F (o ++ tail) F2 ∧ JJ (i + 1) o F2 ∧ Fle F' F2) ⟨y vs z, b, [], exc vs z ++ (own ++ tail), F'⟩)
    (hdone : ∀ D own' F', JJ xs.length own' F' → Fle F F' → Q .normal ⟨x, b, { target := .collected D, args := #[] } :: ds, .o D (.deferred (some [])) :: own', F'⟩) : C n none (.rangeFunc g ps.toArray assign body) Q ⟨x, b, ds, own, F⟩ := ⟨fun B w0 w hI => by
  refine wpIn_rangeFunc fun fn hfn' => ?_
  obtain ⟨rec, hrec⟩ : ∃ rec : LoopState → Loop, rec = fun st => { state := st, pending := none, fn, tmps := (St.act n ⟨x, b, ds, own, F⟩).tmps, params := ps.toArray, assign, body, defers := w.heap.size } := ⟨_, rfl⟩
  have hI1 := (hI.newo (.deferred (some [])) trivial).newo (.loop (rec .ready)) trivial
  have hsz : (w.alloc (.deferred (some []))).heap.size = w.heap.size + 1 := by simp
  rw [hsz] at hI1
  refine ⟨w.heap.size + 1, [{ target := .collected w.heap.size, args := #[] }], (w.alloc (.deferred (some []))).alloc (.loop (rec .ready)), { target := .fn (.func f) capt.toArray, args := #[.func (.yield (w.heap.size + 1)) #[] #[]] }, ((w.alloc (.deferred (some []))).alloc (.loop (rec .ready))), f,
    (.func (.yield (w.heap.size + 1)) #[] #[] :: capt).toArray, ((w.alloc (.deferred (some []))).alloc (.loop (rec .ready))), by rw [hrec]; exact run_enterLoop_outer _ _ _ _ _, ?_, fun _ _ => trivial, ?_, (fun h => by cases h), ?_⟩
  · simp only [resolve, rangeCall, evx hg, Sem.run_bind, Sem.run_pure, Result.andThen, Deferred.ofValue]
    simp [Act.eval]
  · simp only [invoke]
    rw [show (#[Value.func (.yield (w.heap.size + 1)) #[] #[]] ++ capt.toArray) = (Value.func (.yield (w.heap.size + 1)) #[] #[] :: capt).toArray by simp]
    exact hfn.h _ _
  · generalize hl : w.heap.size + 1 = l at *
    generalize hD : w.heap.size = D at *
    have hN := hIt l (fun i o G => ∃ r, o = r ++ [.o l (.loop (rec .ready)), .o D (.deferred (some []))] ∧ JJ i r G ∧ Fle F G) (fun i o G G' ⟨r, e, h1, h2⟩ hl => ⟨r, e, hmono i r G G' h1 hl, h2.trans hl⟩) ?_ (own ++ [.o l (.loop (rec .ready)), .o D (.deferred (some []))]) F ⟨own, rfl, h0, Fle.refl _⟩ (Fle.refl _)
    · refine (callsIn_wide (n := 0)).2 ((hN.out B w0 _ (hI1.perm ?_)).mono fun e w' ⟨v, own', F', he, hI', ⟨r, hr, hj, hF1⟩, hF⟩ => ?_)
      · exact (List.perm_append_comm (l₁ := [.o l (.loop (rec .ready)), .o D (.deferred (some []))]) (l₂ := own))
      · subst he hr
        have hm : (r ++ [Ch.o l (.loop (rec .ready)), .o D (.deferred (some []))])[r.length]? = some (.o l (.loop (rec .ready))) := get_mid ..
        have hok := hI'.ok _ (List.mem_of_getElem? hm)
        refine ⟨none, w'.putObj l (.loop { rec .ready with state := .exhausted }), ?_, ?_⟩
        · have := run_endLoop (P := Tryz.prog) (r := rec .ready) hok.2.1 (by rw [hrec]; simp)
          subst hrec
          exact this
        · have hI2 := hI'.seto hm (.loop { rec .ready with state := .exhausted }) trivial
          rw [set_mid] at hI2
          refine ⟨⟨x, b, { target := .collected D, args := #[] } :: ds, .o D (.deferred (some [])) :: r, F'⟩, rfl, ?_, hdone D r F' hj hF1⟩
          refine (hI2.perm ?_).sub (List.sublist_cons_self (.o l (.loop { rec .ready with state := .exhausted })) _)
          exact List.perm_append_comm (l₁ := r) (l₂ := [.o l (.loop { rec .ready with state := .exhausted }), .o D (.deferred (some []))])
    · rintro i vs hvs ex _ G ⟨r, rfl, hj, hF⟩ _
      have hvm : vs ∈ xs := List.mem_of_getElem? hvs
      refine ⟨fun B w0 w hI => ?_⟩
      rw [List.append_assoc] at hI
      have hI : Inv B w0 (r ++ (Ch.o l (.loop (rec .ready)) :: Ch.o D (.deferred (some [])) :: ex)) G w := hI
      have hm : (r ++ (Ch.o l (.loop (rec .ready)) :: (Ch.o D (.deferred (some [])) :: ex)))[r.length]? = some (.o l (.loop (rec .ready))) := get_mid ..
      have hok := hI.ok _ (List.mem_of_getElem? hm)
      refine ⟨_, _, _, _, run_yield (r := rec .ready) hok.2.1 (by rw [hrec]; simpa using hps vs hvm), ?_⟩
      refine roundIn_of_wpIn (F := Fence.wide) trivial ?_
      have ha := (hassign vs hvm l (r ++ (Ch.o l (.loop (rec .ready)) :: (Ch.o D (.deferred (some [])) :: ex))) G).out B w0 w hI
      have htm : ((rec .ready).params.zip vs.toArray).foldl (fun tmps (q : Nat × Value) => tmps.setIfInBounds q.1 q.2) (rec .ready).tmps = (St.act n ⟨bindP ps vs x, b, [], own, F⟩).tmps := by
        rw [hrec]
        have := bind_act n ps vs ⟨x, b, ds, own, F⟩
        rw [show (St.act n ⟨bindP ps vs x, b, [], own, F⟩).tmps = (St.act n { (⟨x, b, ds, own, F⟩ : St) with x := bindP ps vs x }).tmps from rfl, ← this, List.zip_toArray, List.foldl_toArray]
      have hact : ({ tmps := ((rec .ready).params.zip vs.toArray).foldl (fun tmps (q : Nat × Value) => tmps.setIfInBounds q.1 q.2) (rec .ready).tmps, defers := [] } : Act) = St.act n ⟨bindP ps vs x, b, [], r ++ (Ch.o l (.loop (rec .ready)) :: (Ch.o D (.deferred (some [])) :: ex)), G⟩ := by rw [htm]; rfl
      rw [show (rec .ready).assign = assign by rw [hrec], show (rec .ready).body = body by rw [hrec]]
      have hgoal : assign.wpIn (Fence.wide.inRound l) 0 Tryz.prog (Exit.then (fun a₁ w₁ => ∃ w₂, (Instr.beginRound l).run Tryz.prog w₁ = .ok () w₂ ∧ body.wpIn (Fence.wide.inRound l) 0 Tryz.prog (roundPost Tryz.prog l fun e w' => ∃ own' F', e = .returned (.bool true) ∧ Inv B w0 own' F' w' ∧ ∃ o, own' = o ++ ex ∧ (∃ r, o = r ++ [.o l (.loop (rec .ready)), .o D (.deferred (some []))] ∧ JJ (i + 1) r F' ∧ Fle F F') ∧ Fle G F') a₁ w₂) (fun _ _ _ => False)) (St.act n ⟨bindP ps vs x, b, [], r ++ (Ch.o l (.loop (rec .ready)) :: (Ch.o D (.deferred (some [])) :: ex)), G⟩) w := by
        refine wpIn_mono ha fun e a' w' ⟨s', e1, hI', e2, b', z, e3⟩ => ?_
        subst e1 e2 e3
        have hI' : Inv B w0 (exc vs z ++ (r ++ (Ch.o l (.loop (rec .ready)) :: (Ch.o D (.deferred (some [])) :: ex)))) G w' := hI'
        rw [← List.append_assoc] at hI'
        have hm : (exc vs z ++ r ++ (Ch.o l (.loop (rec .ready)) :: (Ch.o D (.deferred (some [])) :: ex)))[(exc vs z ++ r).length]? = some (.o l (.loop (rec .ready))) := get_mid ..
        have hok' := hI'.ok _ (List.mem_of_getElem? hm)
        refine ⟨w'.putObj l (.loop { rec .ready with state := .busy }), run_beginRound hok'.2.1 (by rw [hrec]), ?_⟩
        have hI2 := hI'.seto hm (.loop { rec .ready with state := .busy }) trivial
        rw [set_mid, List.append_assoc] at hI2
        have hb := (hbody i vs hvs l b' z r G (.o l (.loop { rec .ready with state := .busy }) :: (Ch.o D (.deferred (some [])) :: ex)) hj hF).out B w0 _ hI2
        refine wpIn_mono hb fun e a' w' ⟨s', e1, hI3, e2, o, F2, ht, hj2, hF2⟩ => ?_
        subst e1 e2
        have hI4 := ht B w0 w' hI3
        have hm4 : (o ++ (Ch.o l (.loop { rec .ready with state := .busy }) :: (Ch.o D (.deferred (some [])) :: ex)))[o.length]? = some (.o l (.loop { rec .ready with state := .busy })) := get_mid ..
        have hok4 := hI4.ok _ (List.mem_of_getElem? hm4)
        have hI5 := hI4.seto hm4 (.loop (rec .ready)) trivial
        rw [set_mid] at hI5
        refine ⟨.bool true, w'.putObj l (.loop (rec .ready)), ?_, o ++ [.o l (.loop (rec .ready)), .o D (.deferred (some []))] ++ ex, F2, rfl, ?_, _, rfl, ⟨o, rfl, hj2, hF.trans hF2⟩, hF2⟩
        · have := run_endRound (P := Tryz.prog) none hok4.2.1
          subst hrec
          exact this
        · rw [List.append_assoc]
          exact hI5
      rw [← hact] at hgoal
      exact hgoal⟩
end Go.Proofs.YthkoodpnepfijaaGreatDoor
/- XM: WALKS: prog.Back. -/
namespace Go.Proofs.YthkoodpnepfijaaGreatDoor
open Go.RowKit
set_option linter.unusedVariables false
set_option linter.unusedSimpArgs false
set_option maxRecDepth 100000
set_option maxHeartbeats 1000000
theorem back130 {F : Fz} {p : Prg} {A1 A2 : Option Addr} {c1 c2 : Nat} {m1 m2 : Nat} : Pu 130 [vPr p (.slice A1 m1 c1) (.slice A2 m2 c2)] F fun u F' => ∃ A, u = .func (.func 155) #[] #[.pointer (some A)] ∧ Cs F' A [.int .i64 p.ins, .int .i64 p.regs, .slice A1 m1 c1, .slice A2 m2 c2] := fun own => by
  refine n_fun Tryz.func130 Tryz.ntmps130 rfl rfl rfl ?_
  refine go ?_
  intro r
  refine go ?_
  refine b_ret rfl (.cons (.tmp rfl) .nil) Turn.ice ⟨rfl, Fz.add_le _ _, ⟨r, 0, none⟩, rfl, fun i v hi => .inr ?_⟩
  have : Of ((⟨r, 0, none⟩ : Addr).add i) r (0 + i) := inferInstance
  rw [at_c this, Nat.zero_add]
  exact hi
/-- What a round leaves in memory comes to the front of what is told. -/
theorem perm_out (a b : Ch) (o t : List Ch) : List.Perm (a :: b :: (o ++ t)) (o ++ (t ++ [a, b])) := by
  rw [← List.append_assoc]
  exact List.perm_append_comm (l₁ := [a, b]) (l₂ := o ++ t)
theorem turn_back (a b : Ch) (o t : List Ch) (F : Fz) : Turn (o ++ (t ++ [a, b])) F ((b :: o) ++ t) F := (Turn.perm (perm_out a b o t).symm).trans Turn.drop
theorem back155 {F : Fz} {A : Addr} {p : Prg} {A1 A2 : Option Addr} {c1 c2 : Nat} (hA : Cs F A [.int .i64 p.ins, .int .i64 p.regs, .slice A1 p.code.length c1, .slice A2 p.outs.length c2]) (hP : PrR F (.slice A1 p.code.length c1) (.slice A2 p.outs.length c2) p) (hok : p.ok) : Iter 155 [.pointer (some A)] (bwd p.code) F := fun L J hM hJ own G hj hF => by
  refine n_funD Tryz.func155 Tryz.ntmps155 rfl rfl rfl ?_
  have hA' : Cs G A [.int .i64 p.ins, .int .i64 p.regs, .slice A1 p.code.length c1, .slice A2 p.outs.length c2] := fun i v h => hF _ _ (hA i v h)
  have hP' := hP.le hF
  refine go ?_
  intro r2
  refine go ?_
  refine o_pu rfl (right156 hP' hok) (fun v1 F1 hF1 e => ?_)
  subst e
  have hA1 : Cs F1 A [.int .i64 p.ins, .int .i64 p.regs, .slice A1 p.code.length c1, .slice A2 p.outs.length c2] := fun i v h => hF1 _ _ (hA' i v h)
  have hA3 : F1 (A.add 2) (.slice A1 p.code.length c1) := hA1 2 _ rfl
  refine go ?_
  refine o_pu rfl backward157 (fun v2 F2 hF2 h2 => ?_)
  obtain ⟨A', e, hA2⟩ := h2
  subst e
  refine go ?_
  have hF02 := (hF.trans hF1).trans hF2
  have hG2 := hF1.trans hF2
  refine c_rangeA (ps := [11, 12]) (capt := [.pointer (some A')]) (xs := bwd p.code)
    (fun vs r => (4, .pointer (some ⟨r, 0, none⟩)) :: (3, vs.headD undef) :: (12, (vs.tail).headD undef) :: (11, vs.headD undef) :: [(2, .pointer (some ⟨r2, 0, none⟩))])
    (fun vs r => [.c r (match (vs.tail).headD undef with | .agg us => us.toList | _ => [])])
    (fun i o G' => ∃ o', o = .c r2 [.func (.yield L) #[] #[]] :: o' ∧ J i o' G') (fun i o G1 G2 ⟨o', e, h⟩ hl => ⟨o', e, hM _ _ _ _ h hl⟩)
    rfl (backward193 hA2 (hP.code.le hF02) (by have := hok.len; omega)) (fun vs hvs => by obtain ⟨z, _, rfl⟩ := List.mem_map.1 hvs; rfl) ⟨own, rfl, hM _ _ _ _ hj hG2⟩ ?_ ?_ ?_
  · intro vs hvs l o G'
    obtain ⟨z, _, rfl⟩ := List.mem_map.1 hvs
    refine c_frame [(12, .agg (vIn (p.code.getD (p.code.length - 1 - z) z0I)).toArray), (11, .int .i64 ((p.code.length - 1 - z : Nat) : Int)), (2, .pointer (some ⟨r2, 0, none⟩))] ⟨rfl, rfl, rfl, trivial⟩ fun b => ?_
    refine go ?_
    intro r4
    refine go ?_
    exact ⟨rfl, _, r4, rfl⟩
  · rintro i vs hvs l b r4 _ G' tail ⟨o', rfl, hj'⟩ hG'
    have hi : i < p.code.length := by have := (List.getElem?_eq_some_iff.1 hvs).1; rwa [bwd_len] at this
    have hy := hJ i vs hvs (tail ++ [.c r4 (vIn (p.code.getD (p.code.length - 1 - i) z0I)), .c r2 [.func (.yield L) #[] #[]]]) o' G' hj' (hF02.trans hG')
    rw [bwd_get hi] at hvs
    cases hvs
    refine c_frame [(4, .pointer (some ⟨r4, 0, none⟩)), (3, .int .i64 ((p.code.length - 1 - i : Nat) : Int)), (2, .pointer (some ⟨r2, 0, none⟩))] ⟨rfl, rfl, rfl, trivial⟩ fun b => ?_
    refine c_owneq (own' := .c r4 (vIn (p.code.getD (p.code.length - 1 - i) z0I)) :: .c r2 [.func (.yield L) #[] #[]] :: (o' ++ tail)) rfl ?_
    refine go ?_
    refine o_perm (perm_out _ _ _ _) ?_
    refine o_yield rfl rfl hy (fun own' F' ⟨o2, e, h1, h2⟩ => ⟨_, .text, ?_⟩) (List.Sublist.refl _)
    subst e
    refine go ?_
    exact ⟨rfl, _, _, turn_back _ _ _ _ _, ⟨o2, rfl, h1⟩, h2⟩
  · rintro D _ G' ⟨o', rfl, hj'⟩ hG'
    rw [bwd_len] at hj' ⊢
    refine go ?_
    exact ⟨D, _, rfl, rfl, _, _, _, .nil, Turn.drop, hj', hG2.trans hG'⟩
end Go.Proofs.YthkoodpnepfijaaGreatDoor
/- PC: WHAT IS NEEDED, PLAINLY: going from behind; a program without what nobody asks does the same. -/
namespace Go.Proofs.YthkoodpnepfijaaGreatDoor
set_option linter.unusedVariables false

/-- The registers that an instruction asks. -/
def Ins.asks (i : Ins) : List Int := if twoOp i.op then [i.a, i.b] else [i.a]
/-- A mark at each of these places. -/
def mark (A : List Bool) (l : List Int) : List Bool := l.foldl (fun A r => A.set r.toNat true) A
theorem mark_len (A : List Bool) (l : List Int) : (mark A l).length = A.length := by
  unfold mark
  induction l generalizing A with
  | nil => rfl
  | cons r l ih => rw [List.foldl_cons, ih, List.length_set]
def at_ (A : List Bool) (r : Int) : Bool := A.getD r.toNat false
theorem mark_at {A : List Bool} {l : List Int} (hl : ∀ r ∈ l, 0 ≤ r ∧ r.toNat < A.length) {q : Int} (hq : 0 ≤ q) : at_ (mark A l) q = true ↔ at_ A q = true ∨ q ∈ l := by
  unfold mark
  induction l generalizing A with
  | nil => simp
  | cons r l ih =>
    rw [List.foldl_cons, ih (fun r' hr' => by rw [List.length_set]; exact hl r' (List.mem_cons_of_mem _ hr'))]
    have hr := hl r (List.mem_cons_self ..)
    unfold at_
    rw [List.getD_eq_getElem?_getD, List.getD_eq_getElem?_getD, List.getElem?_set]
    by_cases h : q = r
    · subst h; simp [hr.2]
    · have : ¬ r.toNat = q.toNat := by omega
      rw [if_neg this]
      simp [h]
theorem set_at {A : List Bool} {r q : Int} (hr : 0 ≤ r) (hr' : r.toNat < A.length) (hq : 0 ≤ q) (v : Bool) : at_ (A.set r.toNat v) q = if q = r then v else at_ A q := by
  unfold at_
  rw [List.getD_eq_getElem?_getD, List.getD_eq_getElem?_getD, List.getElem?_set]
  by_cases h : q = r
  · subst h; simp [hr']
  · have : ¬ r.toNat = q.toNat := by omega
    rw [if_neg this, if_neg h]
/-- What is asked ahead of these instructions, and which of them are needed. -/
def liv : List Ins → List Bool → List Bool × List Bool
  | [], A => (A, [])
  | i :: r, A => if at_ (liv r A).1 i.to then (mark ((liv r A).1.set i.to.toNat false) i.asks, true :: (liv r A).2) else ((liv r A).1, false :: (liv r A).2)
theorem liv_cons (i : Ins) (r : List Ins) (A : List Bool) : liv (i :: r) A = if at_ (liv r A).1 i.to then (mark ((liv r A).1.set i.to.toNat false) i.asks, true :: (liv r A).2) else ((liv r A).1, false :: (liv r A).2) := rfl
theorem liv_len : ∀ (c : List Ins) (A : List Bool), (liv c A).1.length = A.length ∧ (liv c A).2.length = c.length
  | [], A => ⟨rfl, rfl⟩
  | i :: r, A => by
    have ih := liv_len r A
    unfold liv
    split
    · exact ⟨by rw [mark_len, List.length_set]; exact ih.1, by simp [ih.2]⟩
    · exact ⟨ih.1, by simp [ih.2]⟩
/-- Two states alike where it is asked. -/
def Alike (A : List Bool) (s t : Rg) : Prop := ∀ r, 0 ≤ r → at_ A r = true → s r = t r
theorem Ins.val_alike {i : Ins} {s t : Rg} (h : ∀ r ∈ i.asks, s r = t r) : i.val s = i.val t := by
  unfold Ins.asks at h
  unfold Ins.val
  by_cases h2 : twoOp i.op
  · rw [if_pos h2] at h
    rw [h i.a (by simp), h i.b (by simp)]
  · rw [if_neg h2] at h
    rw [h i.a (by simp)]
    have n3 : ¬ i.op = 3 := fun e => h2 (.inl e)
    have n4 : ¬ i.op = 4 := fun e => h2 (.inr e)
    simp only [n3, n4, if_false]
theorem Ins.ok.asks {i : Ins} {regs : Int} (h : i.ok regs) : ∀ r ∈ i.asks, 0 ≤ r ∧ r < regs := by
  intro r hr
  unfold Ins.asks at hr
  split at hr
  · simp only [List.mem_cons, List.not_mem_nil, or_false] at hr
    rcases hr with rfl | rfl
    · exact ⟨h.a0, h.a1⟩
    · exact ⟨h.b0, h.b1⟩
  · simp only [List.mem_cons, List.not_mem_nil, or_false] at hr
    subst hr
    exact ⟨h.a0, h.a1⟩
/-- An instruction that does nothing. -/
def Ins.idle (i : Ins) : Prop := i.op = 1 ∧ i.to = i.a
instance (i : Ins) : Decidable i.idle := inferInstanceAs (Decidable (_ ∧ _))
/-- Those that are needed and do something. -/
def keptI : List Ins → List Bool → List Ins
  | i :: r, b :: bs => if b = true ∧ ¬ i.idle then i :: keptI r bs else keptI r bs
  | _, _ => []
theorem kept_sub : ∀ (c : List Ins) (bs : List Bool), List.Sublist (keptI c bs) c
  | [], bs => by cases bs <;> exact .slnil
  | i :: r, [] => List.nil_sublist _
  | i :: r, b :: bs => by
    unfold keptI
    split
    · exact (kept_sub r bs).cons_cons _
    · exact (kept_sub r bs).cons _
theorem kept_runs {regs : Int} : ∀ {c : List Ins} {A : List Bool} {s s' t : Rg}, (A.length : Int) = regs → (∀ i ∈ c, i.ok regs) → Alike (liv c A).1 s s' → exec c s = some t → ∃ t', exec (keptI c (liv c A).2) s' = some t' ∧ Alike A t t'
  | [], A, s, s', t, hA, hc, hs, h => by
    cases h
    exact ⟨s', rfl, hs⟩
  | i :: r, A, s, s', t, hA, hc, hs, h => by
    have hi := hc i (List.mem_cons_self ..)
    have hl := (liv_len r A).1
    have i0 := hi.to0
    have i1 := hi.to1
    simp only [exec] at h
    cases hv : stepI i s with
    | none => rw [hv] at h; cases h
    | some u =>
      rw [hv] at h
      have h : exec r u = some t := h
      have hstep := hv
      unfold stepI at hv
      cases hval : i.val s with
      | none => rw [hval] at hv; cases hv
      | some v =>
        rw [hval] at hv
        cases hv
        unfold liv at hs ⊢
        by_cases hn : at_ (liv r A).1 i.to = true
        · rw [if_pos hn] at hs ⊢
          have hb : ∀ r' ∈ i.asks, 0 ≤ r' ∧ r'.toNat < ((liv r A).1.set i.to.toNat false).length := fun r' hr' => by
            have := hi.asks r' hr'
            rw [List.length_set]
            omega
          have hval' : i.val s' = some v := by
            rw [← hval]
            exact (Ins.val_alike fun r' hr' => hs r' (hb r' hr').1 ((mark_at hb (hb r' hr').1).2 (.inr hr'))).symm
          have hal : Alike (liv r A).1 (s.set i.to v) (s'.set i.to v) := by
            intro q hq hq'
            by_cases e : q = i.to
            · subst e; rw [Rg.set_same, Rg.set_same]
            · rw [Rg.set_ne s v e, Rg.set_ne s' v e]
              refine hs q hq ((mark_at hb hq).2 (.inl ?_))
              rw [set_at i0 (by omega) hq, if_neg e]; exact hq'
          obtain ⟨t', h1, h2⟩ := kept_runs (regs := regs) hA (fun j hj => hc j (List.mem_cons_of_mem _ hj)) hal h
          by_cases hid : i.idle
          · refine ⟨t', ?_, h2⟩
            rw [keptI, if_neg (by simp [hid])]
            rw [← h1]
            have hid2 : i.op = 1 ∧ i.to = i.a := hid
            unfold Ins.val at hval'
            simp [hid2.1] at hval'
            have : s'.set i.to v = s' := by
              funext q
              unfold Rg.set
              split
              · rename_i e; rw [e, hid2.2, hval']
              · rfl
            rw [this]
          · refine ⟨t', ?_, h2⟩
            rw [keptI, if_pos ⟨rfl, hid⟩]
            simp only [exec, stepI, hval', Option.map_some, Option.bind_some]
            exact h1
        · rw [if_neg hn] at hs ⊢
          have hal : Alike (liv r A).1 (s.set i.to v) s' := by
            intro q hq hq'
            by_cases e : q = i.to
            · subst e; exact absurd hq' hn
            · rw [Rg.set_ne s v e]; exact hs q hq hq'
          obtain ⟨t', h1, h2⟩ := kept_runs (regs := regs) hA (fun j hj => hc j (List.mem_cons_of_mem _ hj)) hal h
          refine ⟨t', ?_, h2⟩
          rw [keptI, if_neg (by simp)]
          exact h1
/-- What is asked at the end. -/
def live0 (p : Prg) : List Bool := mark (List.replicate p.regs.toNat false) p.outs
theorem live0_len (p : Prg) : (live0 p).length = p.regs.toNat := by unfold live0; rw [mark_len, List.length_replicate]
theorem live0_at {p : Prg} (h : p.ok) {q : Int} (hq : 0 ≤ q) : at_ (live0 p) q = true ↔ q ∈ p.outs := by
  unfold live0
  rw [mark_at (fun r hr => ?_) hq]
  · constructor
    · rintro (h' | h')
      · unfold at_ at h'
        rw [List.getD_eq_getElem?_getD, List.getElem?_replicate] at h'
        split at h' <;> simp at h'
      · exact h'
    · exact .inr
  · have := h.outs r hr
    rw [List.length_replicate]
    omega
/-- **What dead.Pass makes.** -/
def deadP (p : Prg) : Prg := { p with code := keptI p.code (liv p.code (live0 p)).2 }
theorem dead_sim {p : Prg} (h : p.ok) : Sim p (deadP p) := by
  have hsub := kept_sub p.code (liv p.code (live0 p)).2
  have h1 := h.ins1
  have h2 := h.insr
  refine ⟨⟨h.ins1, h.insr, h.regs, Nat.le_trans hsub.length_le h.len, h.out1, h.outn, h.outs, fun i hi => h.code i (hsub.subset hi)⟩, rfl, rfl, fun hn i hi => hn i (hsub.subset hi), fun l o hl ⟨s, hs, ho⟩ => ?_⟩
  obtain ⟨t', k1, k2⟩ := kept_runs (A := live0 p) (regs := p.regs) (by rw [live0_len]; omega) h.code (fun r _ _ => rfl) hs
  refine ⟨t', k1, ?_⟩
  rw [ho]
  refine List.map_congr_left fun r hr => k2 r (h.outs r hr).1 ((live0_at h (h.outs r hr).1).2 hr)
end Go.Proofs.YthkoodpnepfijaaGreatDoor

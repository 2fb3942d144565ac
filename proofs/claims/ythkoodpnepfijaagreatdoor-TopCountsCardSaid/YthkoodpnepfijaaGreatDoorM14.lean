/-
  Steps towards TopCounts (no conditions of their own): RANGE OVER A FUNCTION: a yield that always goes on; the loop; the function's return behind it. WALKS: slices: Values, Collect, AppendSeq; natural; Equal of ints. WALKS: limbs: Cmp. WALKS: limbs: Sub. WALKS: limbs: Mul.
-/
import Derived.Test.YthkoodpnepfijaaGreatDoorM08
import Derived.Test.YthkoodpnepfijaaGreatDoorM13
import Derived.RangeFuncLeaves
/- VF: RANGE OVER A FUNCTION: a yield that always goes on; the loop; the function's return behind it. -/
namespace Go.Proofs.YthkoodpnepfijaaGreatDoor
open Go.RowKit
set_option linter.unusedVariables false
set_option linter.unusedSimpArgs false
/-- A call of yield: a round that goes on. -/
structure Y (l : Nat) (vs : List Value) (own : List Ch) (F : Fz) (Post : List Ch → Fz → Prop) : Prop where
  out : ∀ B w0 w, Inv B w0 own F w → ∃ f tmps assign body, (Instr.yield l vs.toArray).run Tryz.prog w = .ok (.round l f tmps assign body) w ∧
    RoundIn Fence.wide 0 Tryz.prog l f tmps assign body w fun e w' => ∃ own' F', e = .returned (.bool true) ∧ Inv B w0 own' F' w' ∧ Post own' F'
section
variable {n : Nat} {ops : Array Oper} {fl : Option (List Nat)} {rest : List Oper} {K : St → Prop} {wk : List Ch} {x : Fr} {b : Nat → Value} {ds : List Deferred} {own : List Ch} {F : Fz} {d ty : Nat} {pos : String} {af : Array Edge}
theorem o_yield {l : Nat} {g : Operand} {os : List Operand} {ats : Array TypeId} {vs : List Value} {Post : List Ch → Fz → Prop} (hg : evS n x g = some (.func (.yield l) #[] #[])) (ha : evL n x os = some vs) (hY : Y l vs own F Post)
    (h : ∀ own' F', Post own' F' → ∃ wk', Wk fl (Fg ops fl rest.length) wk F own' F' wk' ∧ O n ops fl rest K wk' ⟨(d, .bool true) :: x, b, ds, own', F'⟩) (hsub : List.Sublist wk own) :
    O n ops fl (⟨some d, .call { callee := .value g, args := os.toArray, argTypes := ats }, ty, pos, af, none⟩ :: rest) K wk ⟨x, b, ds, own, F⟩ :=
  o_ef hsub rfl fun B w0 w hI => by
    obtain ⟨f, tmps, assign, body, h1, h2⟩ := hY.out B w0 w hI
    unfold execOp
    simp only [resolve, invoke, Deferred.ofValue, evx hg, evxs ha, Sem.run_bind, Sem.run_pure, Result.andThen, Array.empty_append, Array.append_empty]
    rw [h1]
    refine h2.mono fun e w' ⟨own', F', he, hI', hp⟩ => ⟨.bool true, he, ?_⟩
    obtain ⟨wk', k1, k2⟩ := h own' F' hp
    exact ⟨_, wk', act_putx .., hI', k1, k2⟩
end
/-- An iterator: what it yields; the caller's states are a family. -/
def Iter (f : FuncId) (capt : List Value) (xs : List (List Value)) (F0 : Fz) : Prop := ∀ (l : Nat) (J : Nat → List Ch → Fz → Prop), (∀ i o F F', J i o F → Fle F F' → J i o F') →
  (∀ i vs, xs[i]? = some vs → ∀ ex own F, J i own F → Fle F0 F → Y l vs (own ++ ex) F fun own' F' => ∃ o, own' = o ++ ex ∧ J (i + 1) o F' ∧ Fle F F') →
  ∀ own F, J 0 own F → Fle F0 F → N f (.func (.yield l) #[] #[] :: capt) own F fun v own' F' => J xs.length own' F' ∧ Fle F F'
def bindP : List Nat → List Value → Fr → Fr
  | p :: ps, v :: vs, x => bindP ps vs ((p, v) :: x)
  | _, _, x => x
theorem bind_act (n : Nat) : ∀ (ps : List Nat) (vs : List Value) (s : St), ((ps.zip vs).foldl (fun (t : Array Value) (q : Nat × Value) => t.setIfInBounds q.1 q.2) (s.act n).tmps) = (St.act n { s with x := bindP ps vs s.x }).tmps
  | [], vs, s => by simp [bindP]
  | p :: ps, [], s => by simp [bindP]
  | p :: ps, v :: vs, s => by
    rw [List.zip_cons_cons, List.foldl_cons]
    have h := act_put n s (some p) v
    have h1 : (s.act n).tmps.setIfInBounds p v = (St.act n { s with x := (p, v) :: s.x }).tmps := congrArg Act.tmps h
    rw [h1, bind_act n ps vs { s with x := (p, v) :: s.x }]
    rfl
theorem set_mid {α : Type} (a : List α) (c d : α) (l : List α) : (a ++ c :: l).set a.length d = a ++ d :: l := by simp
theorem get_mid {α : Type} (a : List α) (c : α) (l : List α) : (a ++ c :: l)[a.length]? = some c := by simp
/-- **The loop.** y: the frame at a round's beginning. -/
theorem c_range {n : Nat} {Q : Exit → St → Prop} {x : Fr} {b : Nat → Value} {ds : List Deferred} {own : List Ch} {F : Fz} {g : Operand} {ps : List Nat} {assign body : Code} {f : FuncId} [hfn : Fn_ f] {capt : List Value} {xs : List (List Value)} (y : List Value → Fr) (JJ : Nat → List Ch → Fz → Prop) (hmono : ∀ i o F F', JJ i o F → Fle F F' → JJ i o F')
    (hg : evS n x g = some (.func (.func f) #[] capt.toArray)) (hIt : Iter f capt xs F) (hps : ∀ vs ∈ xs, vs.length = ps.length) (h0 : JJ 0 own F)
    (hassign : ∀ vs ∈ xs, ∀ l own F, C n (some l) assign (fun e s1 => e = .normal ∧ ∃ b', s1 = ⟨y vs, b', [], own, F⟩) ⟨bindP ps vs x, b, [], own, F⟩)
    (hbody : ∀ i vs, xs[i]? = some vs → ∀ l b own F' tail, JJ i own F' → Fle F F' → C n (some l) body (fun e s' => e = .normal ∧ ∃ o F2, Turn s'.own s'.F (o ++ tail) F2 ∧ JJ (i + 1) o F2 ∧ Fle F' F2) ⟨y vs, b, [], own ++ tail, F'⟩)
    (hdone : ∀ D own' F', JJ xs.length own' F' → Fle F F' → Q .normal ⟨x, b, { target := .collected D, args := #[] } :: ds, .o D (.deferred (some [])) :: own', F'⟩) : C n none (.rangeFunc g ps.toArray assign body) Q ⟨x, b, ds, own, F⟩ := ⟨fun B w0 w hI => by
  refine wpIn_rangeFunc fun fn hfn' => ?_
  obtain ⟨rec, hrec⟩ : ∃ rec : LoopState → Loop, rec = fun st => { state := st, pending := none, fn, tmps := (St.act n ⟨x, b, ds, own, F⟩).tmps, params := ps.toArray, assign, body, defers := w.heap.size } := ⟨_, rfl⟩
  have hI1 := (hI.newo (.deferred (some [])) trivial).newo (.loop (rec .ready)) trivial
  have hsz : (w.alloc (.deferred (some []))).heap.size = w.heap.size + 1 := by simp
  rw [hsz] at hI1
  refine ⟨w.heap.size + 1, [{ target := .collected w.heap.size, args := #[] }], (w.alloc (.deferred (some []))).alloc (.loop (rec .ready)), { target := .fn (.func f) capt.toArray, args := #[.func (.yield (w.heap.size + 1)) #[] #[]] }, ((w.alloc (.deferred (some []))).alloc (.loop (rec .ready))), f,
    (.func (.yield (w.heap.size + 1)) #[] #[] :: capt).toArray, ((w.alloc (.deferred (some []))).alloc (.loop (rec .ready))), by rw [hrec]; exact run_enterLoop_outer _ _ _ _ _, ?_, fun _ _ => trivial, ?_, (fun h => by cases h), ?_⟩
  · simp only [resolve, rangeCall, evx hg, Sem.run_bind, Sem.run_pure, Result.andThen, Deferred.ofValue]
    simp [Act.eval]
  · simp only [invoke]
    rw [show (#[Value.func (.yield (w.heap.size + 1)) #[] #[]] ++ capt.toArray) = (Value.func (.yield (w.heap.size + 1)) #[] #[] :: capt).toArray by simp]
    exact hfn.h _ _
  · generalize hl : w.heap.size + 1 = l at *
    generalize hD : w.heap.size = D at *
    have hN := hIt l (fun i o G => ∃ r, o = r ++ [.o l (.loop (rec .ready)), .o D (.deferred (some []))] ∧ JJ i r G ∧ Fle F G) (fun i o G G' ⟨r, e, h1, h2⟩ hl => ⟨r, e, hmono i r G G' h1 hl, h2.trans hl⟩) ?_ (own ++ [.o l (.loop (rec .ready)), .o D (.deferred (some []))]) F ⟨own, rfl, h0, Fle.refl _⟩ (Fle.refl _)
    · refine (callsIn_wide (n := 0)).2 ((hN.out B w0 _ (hI1.perm ?_)).mono fun e w' ⟨v, own', F', he, hI', ⟨r, hr, hj, hF1⟩, hF⟩ => ?_)
      · exact (List.perm_append_comm (l₁ := [.o l (.loop (rec .ready)), .o D (.deferred (some []))]) (l₂ := own))
      · subst he hr
        have hm : (r ++ [Ch.o l (.loop (rec .ready)), .o D (.deferred (some []))])[r.length]? = some (.o l (.loop (rec .ready))) := get_mid ..
        have hok := hI'.ok _ (List.mem_of_getElem? hm)
        refine ⟨none, w'.putObj l (.loop { rec .ready with state := .exhausted }), ?_, ?_⟩
        · have := run_endLoop (P := Tryz.prog) (r := rec .ready) hok.2.1 (by rw [hrec]; simp)
          subst hrec
          exact this
        · have hI2 := hI'.seto hm (.loop { rec .ready with state := .exhausted }) trivial
          rw [set_mid] at hI2
          refine ⟨⟨x, b, { target := .collected D, args := #[] } :: ds, .o D (.deferred (some [])) :: r, F'⟩, rfl, ?_, hdone D r F' hj hF1⟩
          refine (hI2.perm ?_).sub (List.sublist_cons_self (.o l (.loop { rec .ready with state := .exhausted })) _)
          exact List.perm_append_comm (l₁ := r) (l₂ := [.o l (.loop { rec .ready with state := .exhausted }), .o D (.deferred (some []))])
    · rintro i vs hvs ex _ G ⟨r, rfl, hj, hF⟩ _
      have hvm : vs ∈ xs := List.mem_of_getElem? hvs
      refine ⟨fun B w0 w hI => ?_⟩
      rw [List.append_assoc] at hI
      have hI : Inv B w0 (r ++ (Ch.o l (.loop (rec .ready)) :: Ch.o D (.deferred (some [])) :: ex)) G w := hI
      have hm : (r ++ (Ch.o l (.loop (rec .ready)) :: (Ch.o D (.deferred (some [])) :: ex)))[r.length]? = some (.o l (.loop (rec .ready))) := get_mid ..
      have hok := hI.ok _ (List.mem_of_getElem? hm)
      refine ⟨_, _, _, _, run_yield (r := rec .ready) hok.2.1 (by rw [hrec]; simpa using hps vs hvm), ?_⟩
      refine roundIn_of_wpIn (F := Fence.wide) trivial ?_
      have ha := (hassign vs hvm l (r ++ (Ch.o l (.loop (rec .ready)) :: (Ch.o D (.deferred (some [])) :: ex))) G).out B w0 w hI
      have htm : ((rec .ready).params.zip vs.toArray).foldl (fun tmps (q : Nat × Value) => tmps.setIfInBounds q.1 q.2) (rec .ready).tmps = (St.act n ⟨bindP ps vs x, b, [], own, F⟩).tmps := by
        rw [hrec]
        have := bind_act n ps vs ⟨x, b, ds, own, F⟩
        rw [show (St.act n ⟨bindP ps vs x, b, [], own, F⟩).tmps = (St.act n { (⟨x, b, ds, own, F⟩ : St) with x := bindP ps vs x }).tmps from rfl, ← this, List.zip_toArray, List.foldl_toArray]
      have hact : ({ tmps := ((rec .ready).params.zip vs.toArray).foldl (fun tmps (q : Nat × Value) => tmps.setIfInBounds q.1 q.2) (rec .ready).tmps, defers := [] } : Act) = St.act n ⟨bindP ps vs x, b, [], r ++ (Ch.o l (.loop (rec .ready)) :: (Ch.o D (.deferred (some [])) :: ex)), G⟩ := by rw [htm]; rfl
      rw [show (rec .ready).assign = assign by rw [hrec], show (rec .ready).body = body by rw [hrec]]
      have hgoal : assign.wpIn (Fence.wide.inRound l) 0 Tryz.prog (Exit.then (fun a₁ w₁ => ∃ w₂, (Instr.beginRound l).run Tryz.prog w₁ = .ok () w₂ ∧ body.wpIn (Fence.wide.inRound l) 0 Tryz.prog (roundPost Tryz.prog l fun e w' => ∃ own' F', e = .returned (.bool true) ∧ Inv B w0 own' F' w' ∧ ∃ o, own' = o ++ ex ∧ (∃ r, o = r ++ [.o l (.loop (rec .ready)), .o D (.deferred (some []))] ∧ JJ (i + 1) r F' ∧ Fle F F') ∧ Fle G F') a₁ w₂) (fun _ _ _ => False)) (St.act n ⟨bindP ps vs x, b, [], r ++ (Ch.o l (.loop (rec .ready)) :: (Ch.o D (.deferred (some [])) :: ex)), G⟩) w := by
        refine wpIn_mono ha fun e a' w' ⟨s', e1, hI', e2, b', e3⟩ => ?_
        subst e1 e2 e3
        have hok' := hI'.ok _ (List.mem_of_getElem? hm)
        refine ⟨w'.putObj l (.loop { rec .ready with state := .busy }), run_beginRound hok'.2.1 (by rw [hrec]), ?_⟩
        have hI2 := hI'.seto hm (.loop { rec .ready with state := .busy }) trivial
        rw [set_mid] at hI2
        have hb := (hbody i vs hvs l b' r G (.o l (.loop { rec .ready with state := .busy }) :: (Ch.o D (.deferred (some [])) :: ex)) hj hF).out B w0 _ hI2
        refine wpIn_mono hb fun e a' w' ⟨s', e1, hI3, e2, o, F2, ht, hj2, hF2⟩ => ?_
        subst e1 e2
        have hI4 := ht B w0 w' hI3
        have hm4 : (o ++ (Ch.o l (.loop { rec .ready with state := .busy }) :: (Ch.o D (.deferred (some [])) :: ex)))[o.length]? = some (.o l (.loop { rec .ready with state := .busy })) := get_mid ..
        have hok4 := hI4.ok _ (List.mem_of_getElem? hm4)
        have hI5 := hI4.seto hm4 (.loop (rec .ready)) trivial
        rw [set_mid] at hI5
        refine ⟨.bool true, w'.putObj l (.loop (rec .ready)), ?_, o ++ [.o l (.loop (rec .ready)), .o D (.deferred (some []))] ++ ex, F2, rfl, ?_, _, rfl, ⟨o, rfl, hj2, hF.trans hF2⟩, hF2⟩
        · have := run_endRound (P := Tryz.prog) none hok4.2.1
          subst hrec
          exact this
        · rw [List.append_assoc]
          exact hI5
      rw [← hact] at hgoal
      exact hgoal⟩
/-- What a body that holds a range over a function must come to. -/
def bodyD (n : Nat) (rs : List ResultVar) (Post : Value → List Ch → Fz → Prop) : Exit → St → Prop
  | .normal, s | .ret, s => ∃ D own1, s.ds = [{ target := .collected D, args := #[] }] ∧ s.own = .o D (.deferred (some [])) :: own1 ∧ ∃ vs own' F', RVs n ⟨s.x, s.b, [], own1, s.F⟩ rs vs ∧ Turn own1 s.F own' F' ∧ Post (tupV vs) own' F'
  | _, _ => False
theorem n_funD {f : FuncId} {fn : Func} {c : Code} {n : Nat} {args : List Value} {own : List Ch} {F : Fz} {rs : List ResultVar} {Post : Value → List Ch → Fz → Prop} (hf : Tryz.prog.funcs[f]? = some fn) (hn : fn.ntmps = n) (hb : fn.body = some c) (hr : fn.results = rs.toArray) (ha : Nat.ble args.length n = true)
    (h : C n none c (bodyD n rs Post) ⟨args0 0 args, fun _ => undef, [], own, F⟩) : N f args own F Post := by
  refine ⟨fun B w0 w hI => ?_⟩
  have hw := h.out B w0 w hI
  rw [← act_args n args own F (by simpa using ha)] at hw
  subst hn
  refine (callsIn_wide (n := 0)).1 (callsIn_of_wp_marks hf hb trivial (wpIn_mono hw fun ex a' w' ⟨s', h0, h1, h2⟩ => ?_))
  have key : (∃ D own1, s'.ds = [{ target := .collected D, args := #[] }] ∧ s'.own = .o D (.deferred (some [])) :: own1 ∧ ∃ vs own' F', RVs fn.ntmps ⟨s'.x, s'.b, [], own1, s'.F⟩ rs vs ∧ Turn own1 s'.F own' F' ∧ Post (tupV vs) own' F') → LeavesInM Fence.wide 0 Tryz.prog fn a'.tmps (fun e w' => ∃ v own' F', e = .returned v ∧ Inv B w0 own' F' w' ∧ Post v own' F') a'.defers .returning w' := by
    rintro ⟨D, own1, hd, ho, vs, own', F', hv, ht, hp⟩
    have hI0 := h1
    rw [ho] at hI0
    have hok := hI0.ok _ (List.mem_cons_self ..)
    have hI1 : Inv B w0 own1 s'.F (w'.putObj D (.deferred none)) := (hI0.seto (p := 0) rfl (.deferred none) trivial).sub (List.sublist_cons_self ..)
    have e1 : a'.defers = [{ target := .collected D, args := #[] }] := by rw [h0]; exact hd
    have e2 : a'.tmps = (St.act fn.ntmps ⟨s'.x, s'.b, [], own1, s'.F⟩).tmps := by rw [h0]; rfl
    rw [e1, e2]
    refine ⟨by simp, .inl ⟨D, _, rfl, run_takeDeferred hok.2.1, ?_⟩⟩
    exact ⟨_, hv.run (s := ⟨s'.x, s'.b, [], own1, s'.F⟩) hr hI1, _, _, _, rfl, ht B w0 _ hI1, hp⟩
  cases ex with
  | normal => exact key h2
  | ret => exact key h2
  | exit id => exact h2
  | goto x => exact h2
  | panic ch => exact h2.elim
  | outgrown => exact h2.elim
end Go.Proofs.YthkoodpnepfijaaGreatDoor
/- X8: WALKS: slices: Values, Collect, AppendSeq; natural; Equal of ints. -/
namespace Go.Proofs.YthkoodpnepfijaaGreatDoor
open Go.RowKit
set_option linter.unusedVariables false
set_option linter.unusedSimpArgs false
set_option maxRecDepth 100000
set_option maxHeartbeats 1000000
theorem values119 {F : Fz} {A : Addr} {v : Value} {l : List Nat} (hA : F A v) (hr : NatsR F v l) (hl : l.length < 1099511627776) : Iter 119 [.pointer (some A)] (l.map fun z => [vn z]) F := fun L J hM hJ own G hj hF => by
  refine n_fun Tryz.func119 Tryz.ntmps119 rfl rfl rfl ?_
  have hA' := hF _ _ hA
  have hr' := RowM.le hr hF
  refine go ?_
  rw [List.length_map]
  refine c_loopT (fun m X o G' => ∃ i : Nat, m = l.length - i ∧ X = [(0, .func (.yield L) #[] #[]), (5, v), (6, .int .i64 (l.length : Nat)), (7, .int .i64 (i : Nat))] ∧ J i o G' ∧ Fle G G' ∧ i ≤ l.length) ⟨_, _, own, G, ⟨0, rfl, rfl, hj, Fle.refl _, by omega⟩, ⟨rfl, rfl, rfl, rfl, trivial⟩, Turn.refl _ _⟩ ?_
  rintro _ _ o G' b ⟨i, rfl, rfl, hj, hG, hi⟩
  have hr2 := RowM.le hr' hG
  by_cases hil : i < l.length
  · refine go ?_
    have hy := hJ i [vn (l.getD i 0)] (by rw [List.getElem?_map, List.getElem?_eq_getElem hil, List.getD_eq_getElem?_getD, List.getElem?_eq_getElem hil]; rfl) [] o G' hj (hF.trans hG)
    rw [List.append_nil] at hy
    refine o_yield rfl rfl hy (fun own' F' ⟨o2, e, h1, h2⟩ => ⟨_, .text, ?_⟩) (List.Sublist.refl _)
    rw [List.append_nil] at e
    subst e
    refine go ?_
    exact ⟨_, _, _, _, ⟨i + 1, rfl, rfl, h1, hG.trans h2, by omega⟩, ⟨rfl, rfl, rfl, eqI (by omega), trivial⟩, Turn.refl _ _, rfl, by omega⟩
  · obtain rfl : i = l.length := by omega
    refine go ?_
    exact b_norm rfl .nil (Turn.refl _ _) ⟨hj, hG⟩
theorem values79 {F : Fz} {Av : Option Addr} {m c : Nat} : Pu 79 [.slice Av m c] F fun u F' => ∃ A, u = .func (.func 119) #[] #[.pointer (some A)] ∧ F' A (.slice Av m c) := fun own => by
  refine n_fun Tryz.func79 Tryz.ntmps79 rfl rfl rfl ?_
  refine go ?_
  intro r
  exact b_ret rfl (.cons (.tmp rfl) .nil) Turn.ice ⟨rfl, Fz.add_le _ _, ⟨r, 0, none⟩, rfl, .inr (by simp [Ch.at])⟩
theorem natural48 {F : Fz} {n : Nat} (hn : n ≤ 1000000) : Pu 48 [.int .i64 (n : Nat)] F fun v F' => NatsR F' v (List.range n) := fun own => by
  refine n_fun Tryz.func48 Tryz.ntmps48 rfl rfl rfl ?_
  refine go ?_
  refine c_loopT (fun mm X o G => ∃ (i : Nat) (v : Value), mm = n - i ∧ X = [(3, v), (5, .int .i64 (n : Nat)), (6, .int .i64 (i : Nat))] ∧ .g v 3 1 i ((List.range i).map vn) :: own = o ∧ F = G ∧ i ≤ n) ⟨_, _, _, _, ⟨0, .slice none 0 0, rfl, rfl, rfl, rfl, by omega⟩, ⟨rfl, rfl, rfl, trivial⟩, Turn.nil 3 1⟩ ?_
  rintro _ _ _ _ b ⟨i, v, rfl, rfl, rfl, rfl, hi⟩
  by_cases hin : i < n
  · refine go ?_
    refine o_lit rfl rfl rfl rfl rfl (fun r => ?_)
    refine o_app1 0 rfl rfl rfl rfl rfl rfl rfl (by omega) (by omega) (fun _ => rfl) (fun A' c' => ?_)
    refine go ?_
    exact ⟨_, _, _, _, ⟨i + 1, .slice A' (i + 1) c', rfl, rfl, rfl, rfl, by omega⟩, ⟨rfl, rfl, eqI (by omega), trivial⟩, by rw [List.range_succ, List.map_append]; exact Turn.refl _ _, rfl, by omega⟩
  · obtain rfl : i = n := by omega
    refine c_iceM 0 0 rfl (fun hO => ?_)
    refine go ?_
    exact b_ret rfl (.cons (.tmp rfl) .nil) (Turn.refl _ _) ⟨rfl, Fz.add_le _ _, hO⟩
theorem equal77 {F : Fz} {v w : Value} {l k : List Nat} (hl : NatsR F v l) (hk : NatsR F w k) (hlen : l.length < 1099511627776) : Ps 77 [v, w] F fun u => u = .bool (decide (l = k)) := fun own => by
  refine n_fun Tryz.func77 Tryz.ntmps77 rfl rfl rfl ?_
  by_cases hlk : l.length = k.length
  · refine go ?_
    refine c_loopT (fun mm X o G => ∃ i : Nat, mm = l.length - i ∧ X = [(0, v), (1, w), (11, v), (12, .int .i64 (l.length : Nat)), (13, .int .i64 (i : Nat))] ∧ own = o ∧ F = G ∧ i ≤ l.length ∧ ∀ j, j < i → l.getD j 0 = k.getD j 0) ⟨_, _, _, _, ⟨0, rfl, rfl, rfl, rfl, by omega, fun j h => by omega⟩, ⟨rfl, rfl, rfl, rfl, rfl, trivial⟩, Turn.refl _ _⟩ ?_
    rintro _ _ _ _ b ⟨i, rfl, rfl, rfl, rfl, hi, hq⟩
    by_cases hil : i < l.length
    · have hik : i < k.length := by omega
      by_cases he : l.getD i 0 = k.getD i 0
      · refine go ?_
        exact ⟨_, _, _, _, ⟨i + 1, rfl, rfl, rfl, rfl, by omega, fun j hj => by
          by_cases hji : j = i
          · subst hji; exact he
          · exact hq j (by omega)⟩, ⟨rfl, rfl, rfl, rfl, eqI (by omega), trivial⟩, Turn.refl _ _, rfl, by omega⟩
      · refine go ?_
        exact b_ret rfl (.cons (.tmp rfl) .nil) (Turn.refl _ _) ⟨rfl, rfl, by
          have : l ≠ k := fun e => he (by rw [e])
          simp [tupV, this]⟩
    · refine go ?_
      exact b_ret rfl (.cons (.tmp rfl) .nil) (Turn.refl _ _) ⟨rfl, rfl, by
        have : l = k := by
          apply List.ext_getElem hlk
          intro j h1 h2
          have := hq j (by omega)
          rwa [List.getD_eq_getElem?_getD, List.getElem?_eq_getElem h1, List.getD_eq_getElem?_getD, List.getElem?_eq_getElem h2] at this
        simp [tupV, this]⟩
  · refine go ?_
    exact b_ret rfl (.cons (.tmp rfl) .nil) (Turn.refl _ _) ⟨rfl, rfl, by
      have : l ≠ k := fun e => hlk (by rw [e])
      simp [tupV, this]⟩
end Go.Proofs.YthkoodpnepfijaaGreatDoor
/- W4: WALKS: limbs: Cmp. -/
namespace Go.Proofs.YthkoodpnepfijaaGreatDoor
open Go.RowKit
set_option linter.unusedVariables false
set_option maxRecDepth 100000
set_option maxHeartbeats 1000000
theorem sgn_lt {x y : Nat} (h : x < y) : sgn x y = -1 := by unfold sgn; rw [if_pos h]
theorem sgn_gt {x y : Nat} (h : y < x) : sgn x y = 1 := by unfold sgn; rw [if_neg (by omega), if_pos h]
theorem sgn_eq {x y : Nat} (h : x = y) : sgn x y = 0 := by unfold sgn; rw [if_neg (by omega), if_neg (by omega)]
theorem num_len {l k : List Nat} (hl : Dig l) (hk : Trm k) (h : l.length < k.length) : num l < num k := by
  rcases hk with hk | hk
  · omega
  · exact numF_len (f := fun i => l.getD i 0) (g := fun i => k.getD i 0) (fun i hi => hl i hi) h hk
theorem num_top {l k : List Nat} {m : Nat} (hl : Dig l) (he : l.length = k.length) (hm : m < l.length) (h : ∀ i, m + 1 ≤ i → i < l.length → l.getD i 0 = k.getD i 0) (hlt : l.getD m 0 < k.getD m 0) : num l < num k := by
  unfold num
  rw [← he]
  exact numF_top (f := fun i => l.getD i 0) (g := fun i => k.getD i 0) (k := m + 1) (by omega) h (numF_step (fun i hi => hl i (by omega)) hlt)
theorem num_same {l k : List Nat} (he : l.length = k.length) (h : ∀ i, i < l.length → l.getD i 0 = k.getD i 0) : num l = num k := by
  unfold num
  rw [← he]
  exact numF_congr h
theorem cmp106 {v w : Value} {l k : List Nat} {F : Fz} (hr : Lr F v l) (hw : Lr F w k) (hl : l.length < 1099511627776) (hk : k.length < 1099511627776) :
    Pu 106 [v, w] F fun u F' => u = .int .i64 (sgn (num l) (num k)) := fun own => by
  refine n_fun Tryz.func106 Tryz.ntmps106 rfl rfl rfl ?_
  refine go ?_
  refine o_pu rfl (trim113 hr (by omega)) (fun v1 F1 hF1 ⟨l1, hv1, ht1, hn1, hle1, hfull1⟩ => ?_)
  refine go ?_
  refine o_pu rfl (trim113 (hw.le hF1) (by omega)) (fun v2 F2 hF2 ⟨k1, hv2, ht2, hn2, hle2, hfull2⟩ => ?_)
  rw [← hn1, ← hn2]
  have hF : Fle F F2 := hF1.trans hF2
  have hv1 := hv1.le hF2
  have hr1 := hv1.row
  have hr2 := hv2.row
  by_cases h1 : l1.length < k1.length
  · refine go ?_
    exact b_ret rfl (.cons (.tmp rfl) .nil) (Turn.refl _ _) ⟨rfl, hF, by rw [sgn_lt (num_len hv1.dig ht2 h1)]; rfl⟩
  · by_cases h2 : k1.length < l1.length
    · refine go ?_
      exact b_ret rfl (.cons (.tmp rfl) .nil) (Turn.refl _ _) ⟨rfl, hF, by rw [sgn_gt (num_len hv2.dig ht1 h2)]; rfl⟩
    · refine go ?_
      refine c_loopE (fun q X o G => ∃ m : Nat, m = q ∧ X = [(0, v1), (1, v2), (5, .int .i64 ((m : Int) - 1))] ∧ own = o ∧ F2 = G ∧ m ≤ l1.length ∧ ∀ i, m ≤ i → i < l1.length → l1.getD i 0 = k1.getD i 0) ?_ ?_
      · exact ⟨_, _, _, _, ⟨l1.length, rfl, rfl, rfl, rfl, by omega, fun i h3 h4 => by omega⟩, ⟨rfl, rfl, rfl, trivial⟩, rfl, rfl⟩
      · rintro _ _ _ _ b ⟨m, rfl, rfl, rfl, rfl, hm, heq⟩
        by_cases h3 : 1 ≤ m
        · have heq' : ∀ i, m - 1 + 1 ≤ i → i < l1.length → l1.getD i 0 = k1.getD i 0 := fun i h6 h7 => heq i (by omega) h7
          by_cases h4 : l1.getD (m - 1) 0 < k1.getD (m - 1) 0
          · refine go ?_
            exact b_ret rfl (.cons (.tmp rfl) .nil) (Turn.refl _ _) ⟨rfl, hF, by rw [sgn_lt (num_top hv1.dig (by omega) (by omega) heq' h4)]; rfl⟩
          · by_cases h5 : k1.getD (m - 1) 0 < l1.getD (m - 1) 0
            · refine go ?_
              exact b_ret rfl (.cons (.tmp rfl) .nil) (Turn.refl _ _) ⟨rfl, hF, by rw [sgn_gt (num_top hv2.dig (by omega) (by omega) (fun i h6 h7 => (heq' i h6 (by omega)).symm) h5)]; rfl⟩
            · refine go ?_
              exact ⟨_, _, _, _, ⟨m - 1, rfl, rfl, rfl, rfl, by omega, fun i h6 h7 => by
                by_cases e : i = m - 1
                · rw [e]; omega
                · exact heq i (by omega) h7⟩, ⟨rfl, rfl, eqI (by omega), trivial⟩, rfl, rfl, rfl, by omega⟩
        · refine go ?_
          exact b_ret rfl (.cons (.tmp rfl) .nil) (Turn.refl _ _) ⟨rfl, hF, by rw [sgn_eq (num_same (by omega) fun i hi => heq i (by omega) hi)]; rfl⟩
end Go.Proofs.YthkoodpnepfijaaGreatDoor
/- W5: WALKS: limbs: Sub. -/
namespace Go.Proofs.YthkoodpnepfijaaGreatDoor
open Go.RowKit
set_option linter.unusedVariables false
set_option maxRecDepth 100000
set_option maxHeartbeats 1000000
theorem sub107 {v w : Value} {l k : List Nat} {F : Fz} (hr : Lr F v l) (hw : Lr F w k) (hl : l.length < 1099511627776) (hk : k.length < 1099511627776) (ht : Trm k) (hle : num k ≤ num l) :
    Pu 107 [v, w] F fun u F' => ∃ v' l', u = .tuple #[v', .int .i64 0] ∧ Lr F' v' l' ∧ Trm l' ∧ num l' = num l - num k ∧ l'.length ≤ l.length := fun own => by
  refine n_fun Tryz.func107 Tryz.ntmps107 rfl rfl rfl ?_
  refine go ?_
  refine o_pu rfl (cmp106 hr hw hl hk) (fun u F1 hF1 hu => ?_)
  subst hu
  have hs : ¬ sgn (num l) (num k) < 0 := by unfold sgn; rw [if_neg (by omega)]; split <;> omega
  have hkl : k.length ≤ l.length := by
    by_cases h : l.length < k.length
    · have := num_len hr.dig ht h; omega
    · omega
  have hr := hr.le hF1
  have hw := hw.le hF1
  have hr1 := hr.row
  have hw1 := hw.row
  refine go ?_
  refine o_make l.length rfl rfl (by omega) (by omega) (fun r => ?_)
  rw [rep_one]
  refine go ?_
  refine c_loopE (fun q X o G => ∃ (dn : List Nat) (c : Nat), l.length - dn.length = q ∧ X = [(0, v), (1, w), (6, .slice (some ⟨r, 0, none⟩) l.length l.length), (7, .int .u64 (c : Nat)), (19, v), (20, .int .i64 (l.length : Nat)), (21, .int .i64 (dn.length : Nat))] ∧ .c r (dn.map vu ++ List.replicate (l.length - dn.length) (vu 0)) :: own = o ∧ F1 = G ∧
      dn.length ≤ l.length ∧ Dig dn ∧ c ≤ 1 ∧ numF (fun i => l.getD i 0) dn.length + c * 4294967296 ^ dn.length = num dn + numF (fun i => k.getD i 0) dn.length) ?_ ?_
  · exact ⟨_, _, _, _, ⟨[], 0, rfl, rfl, rfl, rfl, by simp, fun i hi => by simp at hi, by omega, by simp [num, numF]⟩, ⟨rfl, rfl, rfl, rfl, rfl, rfl, rfl, trivial⟩, rfl, rfl⟩
  · rintro _ _ _ _ b ⟨dn, c, rfl, rfl, rfl, rfl, hdl, hdd, hc, hinv⟩
    have hd1 := hr.d dn.length
    have hd2 := hw.d dn.length
    have hpos := pow_pos' dn.length
    have fin : ∀ (x y c' e : Nat), x = l.getD dn.length 0 → y = c + k.getD dn.length 0 → x + c' * 4294967296 = e + y → numF (fun i => l.getD i 0) (dn.length + 1) + c' * 4294967296 ^ (dn.length + 1) = num (dn ++ [e]) + numF (fun i => k.getD i 0) (dn.length + 1) := fun x y c' e e1 e2 e3 => by
      rw [num_snoc]
      show (numF _ dn.length + l.getD dn.length 0 * _) + _ = _ + (numF _ dn.length + k.getD dn.length 0 * _)
      rw [← e1, Nat.pow_succ]
      have e4 : (x + c' * 4294967296) * 4294967296 ^ dn.length = (e + y) * 4294967296 ^ dn.length := by rw [e3]
      rw [e2, Nat.add_mul, Nat.add_mul, Nat.add_mul] at e4
      have e5 : c' * (4294967296 ^ dn.length * 4294967296) = c' * 4294967296 * 4294967296 ^ dn.length := by rw [Nat.mul_comm (4294967296 ^ dn.length), Nat.mul_assoc]
      omega
    have fin2 : ∀ e y, y = c + k.getD dn.length 0 → e = l.getD dn.length 0 - y → y ≤ l.getD dn.length 0 → (e / 4294967296 &&& 1) = 0 ∧ e < 4294967296 := fun e y h1 h2 h3 => by
      have : e < 4294967296 := by omega
      rw [Nat.div_eq_of_lt this]
      exact ⟨rfl, this⟩
    have fin3 : ∀ e y, y = c + k.getD dn.length 0 → e = 18446744073709551616 + l.getD dn.length 0 - y → ¬ y ≤ l.getD dn.length 0 → (e / 4294967296 &&& 1) = 1 ∧ e % 4294967296 = 4294967296 + l.getD dn.length 0 - y := fun e y h1 h2 h3 => by
      have : e / 4294967296 = 4294967295 := by omega
      rw [this]
      exact ⟨rfl, by omega⟩
    have last : ¬ dn.length < l.length → num dn = num l - num k := fun h => by
      have e0 : dn.length = l.length := by omega
      have e1 : numF (fun i => l.getD i 0) dn.length = num l := by rw [e0]; rfl
      have e2 : numF (fun i => k.getD i 0) dn.length = num k := numF_zero (by omega) fun i h1 h2 => getD_none (by omega)
      have e3 : num dn < 4294967296 ^ dn.length := numF_lt fun i hi => hdd i hi
      rcases (show c = 0 ∨ c = 1 by omega) with rfl | rfl
      · omega
      · omega
    by_cases h1 : dn.length < l.length
    · by_cases h2 : dn.length < k.length
      · by_cases h3 : c + k.getD dn.length 0 ≤ l.getD dn.length 0
        · obtain ⟨f1, f2⟩ := fin2 _ _ rfl rfl h3
          refine go ?_
          refine ⟨_, _, _, _, ⟨dn ++ [l.getD dn.length 0 - (c + k.getD dn.length 0)], 0, rfl, rfl, rfl, rfl, by simp; omega, hdd.snoc f2, by omega, ?_⟩, ⟨rfl, rfl, rfl, eqI (by rw [f1]), rfl, rfl, eqI (by simp), trivial⟩, own1 (fill_end (by omega) (vu_eq (by omega))), rfl, rfl, by simp; omega⟩
          rw [List.length_append, List.length_singleton]; exact fin _ _ _ _ rfl rfl (by omega)
        · obtain ⟨f1, f2⟩ := fin3 _ _ rfl rfl h3
          refine go ?_
          refine o_arW ((18446744073709551616 + l.getD dn.length 0 - (c + k.getD dn.length 0) : Nat) : Int) rfl rfl rfl (by omega) ?_
          refine go ?_
          refine ⟨_, _, _, _, ⟨dn ++ [4294967296 + l.getD dn.length 0 - (c + k.getD dn.length 0)], 1, rfl, rfl, rfl, rfl, by simp; omega, hdd.snoc (by omega), by omega, ?_⟩, ⟨rfl, rfl, rfl, eqI (by rw [f1]), rfl, rfl, eqI (by simp), trivial⟩, own1 (fill_end (by omega) (vu_eq (by omega))), rfl, rfl, by simp; omega⟩
          rw [List.length_append, List.length_singleton]; exact fin _ _ _ _ rfl rfl (by omega)
      · have h20 := getD_none h2
        rw [h20] at fin2 fin3
        by_cases h3 : c ≤ l.getD dn.length 0
        · obtain ⟨f1, f2⟩ := fin2 _ _ rfl rfl h3
          simp only [Nat.add_zero] at f1 f2
          refine go ?_
          refine ⟨_, _, _, _, ⟨dn ++ [l.getD dn.length 0 - c], 0, rfl, rfl, rfl, rfl, by simp; omega, hdd.snoc f2, by omega, ?_⟩, ⟨rfl, rfl, rfl, eqI (by rw [f1]), rfl, rfl, eqI (by simp), trivial⟩, own1 (fill_end (by omega) (vu_eq (by omega))), rfl, rfl, by simp; omega⟩
          rw [List.length_append, List.length_singleton]; exact fin _ _ _ _ rfl rfl (by omega)
        · obtain ⟨f1, f2⟩ := fin3 _ _ rfl rfl h3
          simp only [Nat.add_zero] at f1 f2
          refine go ?_
          refine o_arW ((18446744073709551616 + l.getD dn.length 0 - c : Nat) : Int) rfl rfl rfl (by omega) ?_
          refine go ?_
          refine ⟨_, _, _, _, ⟨dn ++ [4294967296 + l.getD dn.length 0 - c], 1, rfl, rfl, rfl, rfl, by simp; omega, hdd.snoc (by omega), by omega, ?_⟩, ⟨rfl, rfl, rfl, eqI (by rw [f1]), rfl, rfl, eqI (by simp), trivial⟩, own1 (fill_end (by omega) (vu_eq (by omega))), rfl, rfl, by simp; omega⟩
          rw [List.length_append, List.length_singleton]; exact fin _ _ _ _ rfl rfl (by omega)
    · have e0 : dn.length = l.length := by omega
      have hlast := last h1
      refine go ?_
      refine o_turn Turn.ice ?_
      refine go ?_
      rw [e0, Nat.sub_self, List.replicate_zero, List.append_nil]
      refine o_pu rfl (trim113 (lr_ice hdd e0.symm (Nat.le_refl _)) (by omega)) (fun v' F' hF ⟨l', hv, ht, hn, hle2, hfull⟩ => ?_)
      refine go ?_
      exact b_ret rfl (.cons (.tmp rfl) (.cons (.tmp rfl) .nil)) (Turn.refl _ _) ⟨rfl, hF1.trans (Fle.trans (Fz.add_le _ _) hF), v', l', rfl, hv, ht, hn.trans hlast, by omega⟩
end Go.Proofs.YthkoodpnepfijaaGreatDoor
/- W6: WALKS: limbs: Mul. -/
namespace Go.Proofs.YthkoodpnepfijaaGreatDoor
open Go.RowKit
set_option linter.unusedVariables false
set_option linter.unusedSimpArgs false
set_option maxRecDepth 100000
set_option maxHeartbeats 1000000
theorem numF_upd {f : Nat → Nat} {p d : Nat} : ∀ {m : Nat}, p < m → numF (fun i => if i = p then d else f i) m + f p * 4294967296 ^ p = numF f m + d * 4294967296 ^ p
  | 0, h => by omega
  | m + 1, h => by
    show (numF _ m + (if m = p then d else f m) * _) + _ = (numF f m + f m * _) + _
    by_cases e : m = p
    · subst e
      rw [if_pos rfl]
      have : numF (fun i => if i = m then d else f i) m = numF f m := numF_congr fun i hi => by rw [if_neg (by omega)]
      omega
    · rw [if_neg e]
      have := numF_upd (f := f) (d := d) (m := m) (p := p) (by omega)
      omega
theorem getD_set {l : List Nat} {p i d : Nat} (h : p < l.length) : (l.set p d).getD i 0 = if i = p then d else l.getD i 0 := by
  simp only [List.getD_eq_getElem?_getD, List.getElem?_set]
  by_cases e : p = i
  · subst e; simp [h]
  · rw [if_neg e, if_neg (by omega)]
theorem num_set {l : List Nat} {p d : Nat} (h : p < l.length) : num (l.set p d) + l.getD p 0 * 4294967296 ^ p = num l + d * 4294967296 ^ p := by
  unfold num
  rw [List.length_set, ← numF_upd (f := fun i => l.getD i 0) h]
  congr 1
  exact numF_congr fun i hi => getD_set h
theorem Dig.set {l : List Nat} {p d : Nat} (h : Dig l) (hd : d < 4294967296) : Dig (l.set p d) := fun i hi => by
  rw [List.length_set] at hi
  by_cases hp : p < l.length
  · rw [getD_set hp]
    split
    · exact hd
    · exact h i hi
  · rw [List.set_eq_of_length_le (by omega)]; exact h i hi
theorem map_set {α β : Type} {f : α → β} {l : List α} {p : Nat} {d : α} {u : β} (h : u = f d) : (l.map f).set p u = (l.set p d).map f := by rw [h, List.map_set]
theorem mul_lt {x y : Nat} (hx : x < 4294967296) (hy : y < 4294967296) : x * y ≤ 18446744065119617025 := by
  have := Nat.mul_le_mul (show x ≤ 4294967295 by omega) (show y ≤ 4294967295 by omega)
  omega
theorem num_rep (m : Nat) : num (List.replicate m 0) = 0 := by
  unfold num
  rw [numF_zero (k := 0) (by omega) fun i _ _ => by simp [List.getD_eq_getElem?_getD, List.getElem?_replicate]; split <;> rfl]
  rfl
theorem Dig.rep (m : Nat) : Dig (List.replicate m 0) := fun i hi => by
  simp [List.getD_eq_getElem?_getD, List.getElem?_replicate]; split <;> decide
theorem getD_rep (m i : Nat) : (List.replicate m 0).getD i 0 = 0 := by
  simp [List.getD_eq_getElem?_getD, List.getElem?_replicate]; split <;> rfl
theorem mul108 {v w : Value} {l k : List Nat} {F : Fz} (hr : Lr F v l) (hw : Lr F w k) (hl : l.length < 1099511627776) (hk : k.length < 1099511627776) :
    Pu 108 [v, w] F fun v' F' => ∃ l', Lr F' v' l' ∧ Trm l' ∧ num l' = num l * num k ∧ l'.length ≤ l.length + k.length := fun own => by
  have hr1 := hr.row
  have hw1 := hw.row
  refine n_fun Tryz.func108 Tryz.ntmps108 rfl rfl rfl ?_
  refine go ?_
  refine o_make (l.length + k.length) rfl (by simp) (by omega) (by omega) (fun r => ?_)
  rw [rep_one]
  refine go ?_
  refine c_loopE (fun q X o G => ∃ (ws : List Nat) (i : Nat), l.length - i = q ∧ X = [(0, v), (1, w), (5, .slice (some ⟨r, 0, none⟩) (l.length + k.length) (l.length + k.length)), (17, v), (18, .int .i64 (l.length : Nat)), (19, .int .i64 (i : Nat))] ∧ .c r (ws.map vu) :: own = o ∧ F = G ∧
      i ≤ l.length ∧ ws.length = l.length + k.length ∧ Dig ws ∧ (∀ p, i + k.length ≤ p → ws.getD p 0 = 0) ∧ num ws = numF (fun i => l.getD i 0) i * num k) ?_ ?_
  · exact ⟨_, _, _, _, ⟨List.replicate (l.length + k.length) 0, 0, rfl, rfl, rfl, rfl, by omega, by simp, Dig.rep _, fun p _ => getD_rep _ p, by rw [num_rep]; simp [numF]⟩, ⟨rfl, rfl, rfl, rfl, rfl, rfl, trivial⟩, own1 (by rw [List.map_replicate]; rfl), rfl⟩
  · rintro _ _ _ _ b ⟨ws, i, rfl, rfl, rfl, rfl, hi, hws, hwd, hz, hinv⟩
    have hd1 := hr.d i
    by_cases h1 : i < l.length
    · refine go ?_
      refine c_loopE (fun q X o G => ∃ (us : List Nat) (c j : Nat), k.length - j = q ∧ X = [(0, v), (1, w), (5, .slice (some ⟨r, 0, none⟩) (l.length + k.length) (l.length + k.length)), (17, v), (18, .int .i64 (l.length : Nat)), (19, .int .i64 (i : Nat)), (6, .int .i64 (i : Nat)), (7, vu (l.getD i 0)), (8, .int .u64 (c : Nat)), (24, w), (25, .int .i64 (k.length : Nat)), (26, .int .i64 (j : Nat))] ∧ .c r (us.map vu) :: own = o ∧ F = G ∧
        j ≤ k.length ∧ us.length = l.length + k.length ∧ Dig us ∧ c < 4294967296 ∧ (∀ p, i + k.length ≤ p → us.getD p 0 = 0) ∧ num us + c * 4294967296 ^ (i + j) = num ws + l.getD i 0 * numF (fun i => k.getD i 0) j * 4294967296 ^ i) ?_ ?_
      · exact ⟨_, _, _, _, ⟨ws, 0, 0, rfl, rfl, rfl, rfl, by omega, hws, hwd, by omega, hz, by simp [numF]⟩, ⟨rfl, rfl, rfl, rfl, rfl, rfl, rfl, rfl, rfl, rfl, rfl, rfl, trivial⟩, rfl, rfl⟩
      · rintro _ _ _ _ b ⟨us, c, j, rfl, rfl, rfl, rfl, hj, hus, hud, hc, huz, hui⟩
        have hd2 := hw.d j
        by_cases h2 : j < k.length
        · have hd3 := hud (i + j) (by omega)
          have hm := mul_lt hd1 hd2
          refine go ?_
          refine ⟨_, _, _, _, ⟨us.set (i + j) ((c + (l.getD i 0 * k.getD j 0 + us.getD (i + j) 0)) % 4294967296), (c + (l.getD i 0 * k.getD j 0 + us.getD (i + j) 0)) / 4294967296, j + 1, rfl, rfl, rfl, rfl, by omega, by simp [hus], hud.set (Nat.mod_lt _ (by decide)), by omega, fun p hp => by rw [getD_set (by omega), if_neg (by omega)]; exact huz p hp, ?_⟩, ⟨rfl, rfl, rfl, rfl, rfl, rfl, rfl, rfl, eqI (by simp), rfl, rfl, eqI (by simp), trivial⟩, own1 (map_set (vu_eq (by simp))), rfl, rfl, by omega⟩
          have e1 := num_set (l := us) (p := i + j) (d := (c + (l.getD i 0 * k.getD j 0 + us.getD (i + j) 0)) % 4294967296) (by omega)
          have key : ∀ (A x y w s U W Fj P Pi Pj m : Nat), s = c + (x * y + w) → P = Pi * Pj → A + w * P = U + s % 4294967296 * P → U + c * P = W + x * Fj * Pi → m = P * 4294967296 → A + s / 4294967296 * m = W + x * (Fj + y * Pj) * Pi := fun A x y w s U W Fj P Pi Pj m h1 h2 h3 h4 h5 => by
            have h6 : s % 4294967296 * P + s / 4294967296 * (P * 4294967296) = s * P := by
              rw [Nat.mul_comm P, ← Nat.mul_assoc, ← Nat.add_mul, Nat.mul_comm (s / _), Nat.mod_add_div]
            have h7 : s * P = c * P + x * y * P + w * P := by rw [h1, Nat.add_mul, Nat.add_mul, Nat.add_assoc]
            have h8 : x * (Fj + y * Pj) * Pi = x * Fj * Pi + x * y * P := by
              rw [h2]; simp only [Nat.mul_add, Nat.add_mul]; congr 1; simp only [Nat.mul_assoc, Nat.mul_comm, Nat.mul_left_comm]
            rw [h5]
            omega
          exact key _ _ _ _ _ _ _ _ _ _ _ _ rfl (Nat.pow_add ..) e1 hui (by rw [← Nat.add_assoc, Nat.pow_succ])
        · have e2 : j = k.length := by omega
          refine go ?_
          have hz0 := huz (i + k.length) (Nat.le_refl _)
          refine ⟨_, _, _, _, ⟨us.set (i + k.length) c, i + 1, rfl, rfl, rfl, rfl, by omega, by simp [hus], hud.set hc, fun p hp => by rw [getD_set (by omega), if_neg (by omega)]; exact huz p (by omega), ?_⟩, ⟨rfl, rfl, rfl, rfl, rfl, eqI (by simp), trivial⟩, own1 (map_set (vu_eq rfl)), rfl, rfl, by omega⟩
          have e1 := num_set (l := us) (p := i + k.length) (d := c) (by omega)
          rw [hz0, Nat.zero_mul, Nat.add_zero] at e1
          rw [e1, ← e2, hui, hinv, e2]
          show _ = (numF _ i + l.getD i 0 * _) * num k
          rw [Nat.add_mul]
          congr 1
          rw [Nat.mul_assoc, Nat.mul_assoc, Nat.mul_comm (numF _ _)]
          rfl
    · have e2 : i = l.length := by omega
      refine go ?_
      refine o_turn Turn.ice ?_
      refine go ?_
      refine o_pu rfl (trim113 (lr_ice hwd hws.symm (Nat.le_refl _)) (by omega)) (fun v' F' hF ⟨l', hv, ht, hn, hle2, hfull⟩ => ?_)
      refine go ?_
      exact b_ret rfl (.cons (.tmp rfl) .nil) (Turn.refl _ _) ⟨rfl, Fle.trans (Fz.add_le _ _) hF, l', hv, ht, by rw [hn, hinv, e2]; rfl, by omega⟩
end Go.Proofs.YthkoodpnepfijaaGreatDoor

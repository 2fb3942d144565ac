/-
  THE WALK, on: channels; a go statement; ways out.
-/
import Derived.Test.YtofohjbcgchhoaaE3
import Derived.Conc.RecvAny
namespace Go.Proofs.Ytofohjbcgchhoaa
open Go.Conc
open Go.RowKit
variable {E : En}

/-- A step with these entries of the trace. -/
def En.StepC (E : En) (γ : Gh) (w : World) (t : Trace) (w' : World) (u : List MemOp) (l' : Lo) : Prop :=
  ∃ γ', E.H γ' w' (t ++ u.toArray) ∧ γ'.N = γ.N ∧ Keeps E.S E.i γ w γ' w' false ∧ γ'.lo E.i = l'

section
variable {e : Nat} {fn : FuncId} {a : Act} {l : Lo} {K : Act → Lo → Prop} {ops : Array Oper} {j : Nat} {o : Oper}

theorem evs_none (i : Nat) (fr : Frame) : evs i fr #[] = #[] := by simp [evs, MemOp.ofEvents]

theorem fin_sel (P : Program) (fr : Frame) (cs : List Frame) (ch : Nat) (v z : Value) (k : Int) : (G fr cs).finishComm P #[scase ch v z] .select k undef false = G (fr.finish (.tuple #[.int .i64 k, .bool false])) cs := by
  simp [Goroutine.finishComm, commResult, scase, G, goInt]

/-- A select with one send and a default. -/
theorem u_select (he : 1 ≤ e) (hq : l.quit = none) (ho : ops[j]? = some o) (hw : Region.wanted o (yielded ops a.tmps) = true) {x y : Operand} {ty : TypeId} {z : Value} (hop : o.op = .select #[{ chan := x, send := some y, elem := ty }] false) {ch : Nat} {v : Value} (hx : a.eval x = .chan (some ch)) (hy : a.eval y = v)
    (hz : ∀ w, (zeroValue ty).run Try.prog w = .ok z w)
    (h : E.All l fun γ w t pos => ∃ cap buf s r, γ.gate ch = none ∧ w.heap[ch]? = some (.chan cap buf false s r false) ∧
      (buf.size < cap → ∃ l', E.StepC γ w t (w.setChan ch cap (buf.push v) false (s + 1) r false) [{ g := E.i, fn := fn, pos := pos, act := .send ch s }, { g := E.i, fn := fn, pos := pos, act := .sendDone ch s }] l' ∧ K (a.put o.dst (.tuple #[.int .i64 0, .bool false])) l') ∧
      (cap ≤ buf.size → ∃ l', E.StepC γ w t w [] l' ∧ K (a.put o.dst (.tuple #[.int .i64 (-1), .bool false])) l')) : E.U e fn ops j K a l := by
  intro rest b k cs m hbf hk hc
  suffices hh : E.W (m + 1) l (b.at a (.inRegion ops (j :: rest) :: k)) cs from hh.mono (by omega)
  refine .inr ⟨hq, fun γ w t hI hl hi => ?_⟩
  obtain ⟨cap, buf, s, r, hg, hch, h1, h2⟩ := h γ w t (b.at a (.inRegion ops (j :: rest) :: k)).place hI hl hi
  have hr : (execOp a.eval o).run Try.prog w = .ok (.comm #[scase ch v z] false .select) w := by
    unfold execOp
    simp [hop, hx, hy, hz, scase]
  have hev : (execOp a.eval o).events Try.prog w #[] = #[] := by
    unfold execOp
    simp [hop, hx, hy]
  have hst : stepG Try.prog (E.i == 0) (G (b.at a (.inRegion ops (j :: rest) :: k)) cs) w = .comm (G (b.at a (.inRegion ops (j :: rest) :: k)) cs) #[scase ch v z] false .select w #[] := by
    rw [stepG_comm ho hw hk hr]
    unfold listed
    rw [hev, seen_none]
  have hfin : ∀ u, (b.at a (.inRegion ops (j :: rest) :: k)).finish u = b.at (a.put o.dst u) (.inRegion ops rest :: k) := fun u => by rw [Frame.finish_at, ho]; rfl
  have hng : ∀ i', ¬ GateAt γ i' ch := fun i' hgt => by have := hgt.2.2.1; rw [hg] at this; cases this
  by_cases hroom : buf.size < cap
  · obtain ⟨l', ⟨γ', g1, g2, g3, g4⟩, h4⟩ := h1 hroom
    have := hc _ _ h4
    rw [← g4] at this
    refine .room hst hch hroom hng (fr' := b.at (a.put o.dst (.tuple #[.int .i64 0, .bool false])) (.inRegion ops rest :: k)) (by rw [← hfin]; exact fin_sel _ _ _ _ _ _ _) ?_ g2 g3 this
    rw [evs_none]
    have hb' : (b.at a (.inRegion ops (j :: rest) :: k)).fn = fn := hbf
    rw [hb']
    change E.H γ' _ _
    simpa using g1
  · obtain ⟨l', ⟨γ', g1, g2, g3, g4⟩, h4⟩ := h2 (by omega)
    have := hc _ _ h4
    rw [← g4] at this
    refine .dflt hst hch (by omega) hng (fr' := b.at (a.put o.dst (.tuple #[.int .i64 (-1), .bool false])) (.inRegion ops rest :: k)) (by rw [← hfin]; exact fin_sel _ _ _ _ _ _ _) ?_ g2 g3 this
    rw [evs_none]
    change E.H γ' _ _
    simpa using g1

/-- A receive of what lies in the channel. -/
theorem u_recv (he : 1 ≤ e) (hq : l.quit = none) (ho : ops[j]? = some o) (hw : Region.wanted o (yielded ops a.tmps) = true) {x : Operand} {ty el : TypeId} {dir : ChanDir} {z : Value} (hop : o.op = .recv ty x false) {ch : Nat} (hx : a.eval x = .chan (some ch))
    (hu : ∀ w, (underlying ty).run Try.prog w = .ok (.chan dir el) w) (hz : ∀ w, (zeroValue el).run Try.prog w = .ok z w)
    (h : E.All l fun γ w t pos => ∃ cap buf s r, w.heap[ch]? = some (.chan cap buf false s r false) ∧ 0 < buf.size ∧
      ∃ l', E.StepC γ w t (w.setChan ch cap (buf.extract 1 buf.size) false s (r + 1) false) [{ g := E.i, fn := fn, pos := pos, act := .recv ch r cap }, { g := E.i, fn := fn, pos := pos, act := .recvDone ch r }] l' ∧ ∀ u, K (a.put o.dst u) l') : E.U e fn ops j K a l := by
  intro rest b k cs m hbf hk hc
  suffices hh : E.W (m + 1) l (b.at a (.inRegion ops (j :: rest) :: k)) cs from hh.mono (by omega)
  refine .inr ⟨hq, fun γ w t hI hl hi => ?_⟩
  obtain ⟨cap, buf, s, r, hch, hsome, l', ⟨γ', g1, g2, g3, g4⟩, h4⟩ := h γ w t (b.at a (.inRegion ops (j :: rest) :: k)).place hI hl hi
  have hr : (execOp a.eval o).run Try.prog w = .ok (.comm #[rcase ch z] true (.recv false)) w := by
    unfold execOp
    simp [hop, hx, hu, hz, rcase]
  have hev : (execOp a.eval o).events Try.prog w #[] = #[] := by
    unfold execOp
    simp [hop, hx, hu]
  have hst : stepG Try.prog (E.i == 0) (G (b.at a (.inRegion ops (j :: rest) :: k)) cs) w = .comm (G (b.at a (.inRegion ops (j :: rest) :: k)) cs) #[rcase ch z] true (.recv false) w #[] := by
    rw [stepG_comm ho hw hk hr]
    unfold listed
    rw [hev, seen_none]
  have hfin : ∀ u, (b.at a (.inRegion ops (j :: rest) :: k)).finish u = b.at (a.put o.dst u) (.inRegion ops rest :: k) := fun u => by rw [Frame.finish_at, ho]; rfl
  have := hc _ _ (h4 (buf.getD 0 undef))
  rw [← g4] at this
  refine .take hst hch hsome (fr' := b.at (a.put o.dst (buf.getD 0 undef)) (.inRegion ops rest :: k)) (by rw [← hfin]; rfl) ?_ g2 g3 this
  rw [evs_none]
  have hb' : (b.at a (.inRegion ops (j :: rest) :: k)).fn = fn := hbf
  rw [hb']
  change E.H γ' _ _
  simpa using g1

/-- A receive at a gate: it waits till the gate is open. -/
theorem u_gate (he : 1 ≤ e) (hq : l.quit = none) (ho : ops[j]? = some o) (hw : Region.wanted o (yielded ops a.tmps) = true) {x : Operand} {ty el : TypeId} {dir : ChanDir} {z : Value} (hop : o.op = .recv ty x false) {ch : Nat} (hx : a.eval x = .chan (some ch))
    (hu : ∀ w, (underlying ty).run Try.prog w = .ok (.chan dir el) w) (hz : ∀ w, (zeroValue el).run Try.prog w = .ok z w)
    (h : E.All l fun γ w t pos => (GateAt γ E.i ch ∧ Opn w ch) ∨ ∃ cap s r, w.heap[ch]? = some (.chan cap #[] true s r false) ∧
      ∃ l', E.StepC γ w t w [{ g := E.i, fn := fn, pos := pos, act := .recvClosed ch }] l' ∧ K (a.put o.dst z) l') : E.U e fn ops j K a l := by
  intro rest b k cs m hbf hk hc
  suffices hh : E.W (m + 1) l (b.at a (.inRegion ops (j :: rest) :: k)) cs from hh.mono (by omega)
  refine .inr ⟨hq, fun γ w t hI hl hi => ?_⟩
  have hr : (execOp a.eval o).run Try.prog w = .ok (.comm #[rcase ch z] true (.recv false)) w := by
    unfold execOp
    simp [hop, hx, hu, hz, rcase]
  have hev : (execOp a.eval o).events Try.prog w #[] = #[] := by
    unfold execOp
    simp [hop, hx, hu]
  have hst : stepG Try.prog (E.i == 0) (G (b.at a (.inRegion ops (j :: rest) :: k)) cs) w = .comm (G (b.at a (.inRegion ops (j :: rest) :: k)) cs) #[rcase ch z] true (.recv false) w #[] := by
    rw [stepG_comm ho hw hk hr]
    unfold listed
    rw [hev, seen_none]
  have hfin : ∀ u, (b.at a (.inRegion ops (j :: rest) :: k)).finish u = b.at (a.put o.dst u) (.inRegion ops rest :: k) := fun u => by rw [Frame.finish_at, ho]; rfl
  rcases h γ w t (b.at a (.inRegion ops (j :: rest) :: k)).place hI hl hi with ⟨h1, h2⟩ | ⟨cap, s, r, hch, l', ⟨γ', g1, g2, g3, g4⟩, h4⟩
  · exact .park hst h1 h2
  · have := hc _ _ h4
    rw [← g4] at this
    refine .shut hst hch (fr' := b.at (a.put o.dst z) (.inRegion ops rest :: k)) (by rw [← hfin]; rfl) ?_ g2 g3 this
    rw [evs_none]
    have hb' : (b.at a (.inRegion ops (j :: rest) :: k)).fn = fn := hbf
    rw [hb']
    change E.H γ' _ _
    simpa using g1

/-- The gate is opened. -/
theorem u_close (he : 1 ≤ e) (hq : l.quit = none) (ho : ops[j]? = some o) (hw : Region.wanted o (yielded ops a.tmps) = true) {x : Operand} {ats : Array TypeId} (hop : o.op = .call { callee := .builtin .close, args := #[x], argTypes := ats }) {ch : Nat} (hx : a.eval x = .chan (some ch))
    (h : E.All l fun γ w t pos => w.heap[ch]? = some (.chan 0 #[] false 0 0 false) ∧ ∃ l', E.Step fn γ w t pos (w.setChan ch 0 #[] true 0 0 false) #[⟨.obj ch, false, true⟩, ⟨.obj ch, true, true⟩] l' ∧ K (a.put o.dst (.tuple #[])) l') : E.U e fn ops j K a l := by
  intro rest b k cs m hbf hk hc
  refine (En.W.go (n := m) hq fun γ w t hI hl hi => ?_).mono (by omega)
  obtain ⟨hch, l', ⟨γ', g1, g2, g3, g4⟩, h4⟩ := h γ w t (b.at a (.inRegion ops (j :: rest) :: k)).place hI hl hi
  have hr : (execOp a.eval o).run Try.prog w = .ok (.value (.tuple #[])) (w.setChan ch 0 #[] true 0 0 false) := by
    unfold execOp
    simp [hop, resolve, invoke, hx, builtin, run_close_open _ _ hch]
    rfl
  have hev : (execOp a.eval o).events Try.prog w #[] = #[⟨.obj ch, false, true⟩, ⟨.obj ch, true, true⟩] := by
    unfold execOp
    simp [hop, resolve, invoke, hx, builtin, events_close_open _ _ hch]
  have hl : listed Try.prog b.fn a o w = #[⟨.obj ch, false, true⟩, ⟨.obj ch, true, true⟩] := by
    unfold listed
    rw [hev, seen_def, seen_fold_sync _ _ _ _ (fun x hx => by
      simp only [List.mem_cons, List.not_mem_nil, or_false] at hx
      rcases hx with rfl | rfl <;> exact ⟨rfl, fun g hg => by cases hg⟩)]
    simp
  refine ⟨_, _, _, _, γ', by rw [stepG_value ho hw hk hr, hl], ?_, g2, ?_, ?_⟩
  · unfold evs
    rw [show (b.at a (.inRegion ops (j :: rest) :: k)).fn = fn from hbf]
    exact g1
  · have : mayWake Try.prog (G (b.at a (.inRegion ops (j :: rest) :: k)) cs) = true := by simp [mayWake, G, Frame.at, ho, hop]
    rw [this]; exact g3
  · rw [g4]; exact hc _ _ h4

/-- The frame that a go statement makes, with its one call left to make; and with none. -/
def bornFr (n : Nat) (ds : List Deferred) : Frame := { fn := n, tmps := #[], todo := [], defers := ds, mode := .panicking [goexitEntry], kind := .normal, roundOf := none }
/-- A go statement. -/
theorem u_go {nc : Nat} (he : nc + 1 ≤ e) (hq : l.quit = none) (ho : ops[j]? = some o) (hw : Region.wanted o (yielded ops a.tmps) = true) {x : Operand} {ats : Array TypeId} (hop : o.op = .go { callee := .value x, args := #[], argTypes := ats }) {f : FuncId} {cap : Array Value} (hx : a.eval x = .func (.func f) #[] cap)
    (h : E.All l fun γ w t pos => ∃ lp lc, (∀ cf, ∃ γ', E.H γ' w (t ++ #[{ g := E.i, fn := fn, pos := pos, act := .go γ.N }, { g := γ.N, fn := cf, pos := pos, act := .start }]) ∧ γ'.N = γ.N + 1 ∧ Keeps E.S E.i γ w γ' w false ∧ γ'.lo E.i = lp ∧ γ'.lo γ.N = lc) ∧
      K (a.put o.dst undef) lp ∧ ({ E with i := γ.N } : En).W nc lc (bornFr Try.prog.funcs.size [dcl f #[] cap]) []) : E.U e fn ops j K a l := by
  intro rest b k cs m hbf hk hc
  obtain ⟨e', rfl⟩ : ∃ e', e = e' + 1 := ⟨e - 1, by omega⟩
  refine .inr ⟨hq, fun γ w t hI hl hi => ?_⟩
  obtain ⟨lp, lc, h1, h2, h3⟩ := h γ w t (b.at a (.inRegion ops (j :: rest) :: k)).place hI hl hi
  have hr : (execOp a.eval o).run Try.prog w = .ok (.spawn (dcl f #[] cap)) w := by
    unfold execOp
    simp [hop, resolve, Deferred.ofValue, hx, dcl]
  have hev : (execOp a.eval o).events Try.prog w #[] = #[] := by
    unfold execOp
    simp [hop, resolve, Deferred.ofValue, hx]
  have hl0 : listed Try.prog b.fn a o w = #[] := by
    unfold listed
    rw [hev, seen_none]
  have hst := stepG_spawn (P := Try.prog) (main := E.i == 0) (b := b) (k := k) (cs := cs) (rest := rest) (f := .func f) (c := cap) ho hw hk hr rfl
  rw [hl0] at hst
  obtain ⟨γ', g1, g2, g3, g4, g5⟩ := h1 (bornFr Try.prog.funcs.size [dcl f #[] cap]).fn
  have hp := (hc _ _ h2).mono (n' := m + e') (by omega)
  have hch := h3.mono (n' := m + e') (by omega)
  rw [← g4] at hp
  rw [← g5] at hch
  refine .spawn (child := bornFr Try.prog.funcs.size [dcl f #[] cap]) hst ?_ g2 g3 hp hch
  change E.H γ' _ _
  rw [evs_none]
  have hb' : (b.at a (.inRegion ops (j :: rest) :: k)).fn = fn := hbf
  rw [hb']
  exact g1
end

section
variable {b : Frame} {a : Act} {todo : List Item} {cs : List Frame} {l : Lo} {ds : List Deferred} {f : FuncId} {cap : Array Value} {m n : Nat} {fn : Func}

/-- A child's first step. -/
theorem w_born {c : Code} (hf : Try.prog.funcs[f]? = some fn) (hname : (fn.name == "runtime.NumGoroutine") = false) (hb : fn.body = some c) (h : E.W n l ((baseD f).at (act0 fn cap) [.code c]) [bornFr Try.prog.funcs.size []]) : E.W (n + 1) l (bornFr Try.prog.funcs.size [dcl f #[] cap]) [] := by
  refine En.W.ctl h fun w => ?_
  have h1 : ¬ fn.name = "runtime.NumGoroutine" := by simpa using hname
  have h2 : Frame.enter Try.prog f cap .deferred = (baseD f).at (act0 fn cap) [.code c] := enter_atD cap hf hb
  rw [← h2]
  simp [G, stepG, unwind, callDeferred, bornFr, dcl, invoke, callFunc, hf, h1, hb, GStep.after, seen_none]
/-- A child's end. -/
theorem w_die (h0 : E.i ≠ 0) (hq : l.quit = some 0) (hf : Try.prog.funcs[f]? = some fn) (hr : fn.results = #[]) (hd : a.defers = []) : E.W 2 l { (baseD f).at a todo with mode := .returning } [bornFr Try.prog.funcs.size []] := by
  refine .inl ⟨h0, 0, hq, ?_⟩
  refine QuitsD.ctl (g' := G (bornFr Try.prog.funcs.size []) []) rfl (fun w => ?_) ?_
  · have e1 := results_none (P := Try.prog) hr a.tmps w
    simp [G, stepG, unwind, doReturn, Frame.at, baseD, hd, hf, results_none hr _ Try.prog w, events_results_none hr _ _, seen, GStep.after, bornFr, goexitEntry]
  · refine QuitsD.ctl (g' := { G (bornFr Try.prog.funcs.size []) [] with status := .finished }) rfl (fun w => ?_) (n := 0) ⟨rfl, rfl⟩
    simp [G, stepG, unwind, bornFr, goexitEntry, Frame.catches]
end
end Go.Proofs.Ytofohjbcgchhoaa

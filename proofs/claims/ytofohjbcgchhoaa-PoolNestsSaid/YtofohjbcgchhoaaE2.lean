/-
  THE WALK, on: calls; deferred calls.
-/
import Derived.Test.YtofohjbcgchhoaaE
namespace Go.Proofs.Ytofohjbcgchhoaa
open Go.Conc
open Go.RowKit
variable {E : En}

/-- The frame of a function at its beginning. -/
def act0 (fn : Func) (args : Array Value) : Act := { tmps := args ++ Array.replicate (fn.ntmps - args.size) undef, defers := [] }

/-- A CONTRACT, of a body: in whatever frame. -/
def En.B (E : En) (f : FuncId) (args : Array Value) (n : Nat) (l : Lo) (Post : Value → Lo → Prop) : Prop :=
  ∃ fn c, Try.prog.funcs[f]? = some fn ∧ (fn.name == "runtime.NumGoroutine") = false ∧ fn.body = some c ∧
    ∀ (b : Frame) (cs : List Frame) (m : Nat), b.fn = f → b.kind ≠ .early → (∀ a' l' v todo, a'.defers = [] → ResultsC Try.prog fn a'.tmps v → Post v l' → E.W m l' { b.at a' todo with mode := .returning } cs) → E.W (m + n) l (b.at (act0 fn args) [.code c]) cs
/-- A CONTRACT, of a call out of a region. -/
def En.N (E : En) (f : FuncId) (args : Array Value) (n : Nat) (l : Lo) (Post : Value → Lo → Prop) : Prop :=
  ∃ fn c, Try.prog.funcs[f]? = some fn ∧ (fn.name == "runtime.NumGoroutine") = false ∧ fn.body = some c ∧
    ∀ (b : Frame) (a : Act) (k : List Item) (cs : List Frame) (ops : Array Oper) (j : Nat) (rest : List Nat) (o : Oper) (m : Nat), ops[j]? = some o → b.kind ≠ .early → (∀ v l', Post v l' → E.W m l' (b.at (a.put o.dst v) (.inRegion ops rest :: k)) cs) →
      E.W (m + n) l ((base f).at (act0 fn args) [.code c]) (b.at a (.inRegion ops (j :: rest) :: k) :: cs)

def bodyPost (P : Program) (fn : Func) (Post : Value → Lo → Prop) : Exit → Act → Lo → Prop
  | .normal, a, l | .ret, a, l => a.defers = [] ∧ ∃ v, ResultsC P fn a.tmps v ∧ Post v l
  | _, _, _ => False

theorem b_of {f : FuncId} {fn : Func} {c : Code} {args : Array Value} {e L : Nat} {l : Lo} {Post : Value → Lo → Prop} (hf : Try.prog.funcs[f]? = some fn) (hname : (fn.name == "runtime.NumGoroutine") = false) (hb : fn.body = some c)
    (h : E.C e L f c (bodyPost Try.prog fn Post) (act0 fn args) l) : E.B f args (cost e L c + 1) l Post :=
  ⟨fn, c, hf, hname, hb, fun b cs m hbf hk hc => by
    have := h b [] cs (m + 1) hbf hk fun ex a' l' q => by
      cases ex with
      | normal => exact En.W.ctl (hc a' l' _ [] q.1 q.2.choose_spec.1 q.2.choose_spec.2) fun _ => stepG_end
      | ret => exact fun todo => (hc a' l' _ todo q.1 q.2.choose_spec.1 q.2.choose_spec.2).mono (Nat.le_succ _)
      | exit id => exact q.elim
      | goto l => exact q.elim
      | panic ch => exact q.elim
      | outgrown => exact q.elim
    exact this.mono (by omega)⟩
theorem En.B.mono {f : FuncId} {args : Array Value} {n : Nat} {l : Lo} {Post Post' : Value → Lo → Prop} (h : E.B f args n l Post) (hp : ∀ v l', Post v l' → Post' v l') : E.B f args n l Post' := by
  obtain ⟨fn, c, h1, h2, h3, h4⟩ := h
  exact ⟨fn, c, h1, h2, h3, fun b cs m hb hk hc => h4 b cs m hb hk fun a' l' v todo d r p => hc a' l' v todo d r (hp v l' p)⟩
theorem En.N.mono {f : FuncId} {args : Array Value} {n : Nat} {l : Lo} {Post Post' : Value → Lo → Prop} (h : E.N f args n l Post) (hp : ∀ v l', Post v l' → Post' v l') : E.N f args n l Post' := by
  obtain ⟨fn, c, h1, h2, h3, h4⟩ := h
  exact ⟨fn, c, h1, h2, h3, fun b a k cs ops j rest o m ho hk hc => h4 b a k cs ops j rest o m ho hk fun v l' p => hc v l' (hp v l' p)⟩
theorem En.N.more {f : FuncId} {args : Array Value} {n n' : Nat} {l : Lo} {Post : Value → Lo → Prop} (h : E.N f args n l Post) (hn : n ≤ n') : E.N f args n' l Post := by
  obtain ⟨fn, c, h1, h2, h3, h4⟩ := h
  exact ⟨fn, c, h1, h2, h3, fun b a k cs ops j rest o m ho hk hc => (h4 b a k cs ops j rest o m ho hk hc).mono (by omega)⟩

theorem n_of_b {f : FuncId} {args : Array Value} {n : Nat} {l : Lo} {Post : Value → Lo → Prop} (h : E.B f args n l Post) : E.N f args (n + 1) l Post := by
  obtain ⟨fn, c, h1, h2, h3, h4⟩ := h
  refine ⟨fn, c, h1, h2, h3, fun b a k cs ops j rest o m ho hk hc => ?_⟩
  have := h4 (base f) (b.at a (.inRegion ops (j :: rest) :: k) :: cs) (m + 1) rfl (by simp [base]) fun a' l' v todo hd hr hp => by
    refine En.W.ctl (hc v l' hp) fun w => ?_
    have e : (b.at a (.inRegion ops (j :: rest) :: k)).finish v = b.at (a.put o.dst v) (.inRegion ops rest :: k) := by rw [Frame.finish_at, ho]; rfl
    rw [stepG_leave (b := base f) rfl hd h1 (hr w).1 (hr w).2, e]
  exact this.mono (by omega)

section
variable {e L : Nat} {fn : FuncId} {a : Act} {l : Lo} {K : Act → Lo → Prop} {ops : Array Oper} {j : Nat} {o : Oper}

theorem run_callv {f : FuncId} {fd : Func} {x : Operand} {args : Array Operand} {ats : Array TypeId} {first cap : Array Value} {P : Program} {w : World} (hop : o.op = .call { callee := .value x, args, argTypes := ats }) (hx : a.eval x = .func (.func f) first cap)
    (hf : P.funcs[f]? = some fd) (hname : (fd.name == "runtime.NumGoroutine") = false) (hb : fd.body.isNone = false) : (execOp a.eval o).run P w = .ok (.enter f (first ++ args.map a.eval ++ cap)) w ∧ (execOp a.eval o).events P w #[] = #[] := by
  have h1 : ¬ fd.name = "runtime.NumGoroutine" := by simpa using hname
  have h2 : ¬ fd.body = none := by cases hx : fd.body <;> simp_all
  unfold execOp
  constructor <;> simp [hop, resolve, Deferred.ofValue, invoke, callFunc, hf, h1, h2, hx]

/-- A CALL of a function value. -/
theorem u_callv {f : FuncId} {x : Operand} {args : Array Operand} {ats : Array TypeId} {first cap : Array Value} {n : Nat} (he : n + 1 ≤ e) (ho : ops[j]? = some o) (hw : Region.wanted o (yielded ops a.tmps) = true) (hop : o.op = .call { callee := .value x, args, argTypes := ats }) (hx : a.eval x = .func (.func f) first cap)
    (h : E.N f (first ++ args.map a.eval ++ cap) n l fun v l' => K (a.put o.dst v) l') : E.U e fn ops j K a l := by
  obtain ⟨fd, c, h1, h2, h3, h4⟩ := h
  intro rest b k cs m hb hk hc
  have := h4 b a k cs ops j rest o m ho hk fun v l' p => hc _ _ p
  refine (En.W.ctl this fun w => ?_).mono (by omega)
  obtain ⟨r1, r2⟩ := run_callv (P := Try.prog) (w := w) hop hx h1 h2 (by rw [h3]; rfl)
  rw [stepG_enter ho hw hk r1, enter_at _ h1 h3]
  unfold listed
  rw [r2, seen_none]
  rfl
/-- .. of a function by its name. -/
theorem u_call {f : FuncId} {args : Array Operand} {ats : Array TypeId} {n : Nat} (he : n + 1 ≤ e) (ho : ops[j]? = some o) (hw : Region.wanted o (yielded ops a.tmps) = true) (hop : o.op = .call { callee := .value (.func f), args, argTypes := ats })
    (h : E.N f (args.map a.eval) n l fun v l' => K (a.put o.dst v) l') : E.U e fn ops j K a l := by
  refine u_callv he ho hw hop (first := #[]) (cap := #[]) rfl ?_
  simpa using h

/-- A deferred call, with what the function value has caught. -/
def dcl (f : FuncId) (args cap : Array Value) : Deferred := { target := .fn (.func f) cap, args := args }
theorem stepG_deferv {P : Program} {main : Bool} {b : Frame} {k : List Item} {cs : List Frame} {w : World} {rest : List Nat} {x : Operand} {f : FuncId} {ags : Array Operand} {ats : Array TypeId} {first cap : Array Value} (ho : ops[j]? = some o) (hw : Region.wanted o (yielded ops a.tmps) = true) (hk : b.kind ≠ .early)
    (hop : o.op = .defer { callee := .value x, args := ags, argTypes := ats }) (hx : a.eval x = .func (.func f) first cap) :
    stepG P main (G (b.at a (.inRegion ops (j :: rest) :: k)) cs) w = .go (G (b.at (Act.put ⟨a.tmps, dcl f (first ++ ags.map a.eval) cap :: a.defers⟩ o.dst undef) (.inRegion ops rest :: k)) cs) w #[] := by
  have hr : (execOp a.eval o).run P w = .ok (.defer (dcl f (first ++ ags.map a.eval) cap)) w := by
    unfold execOp
    simp [hop, resolve, Deferred.ofValue, hx, dcl]
  have he : (execOp a.eval o).events P w #[] = #[] := by
    unfold execOp
    simp [hop, resolve, Deferred.ofValue, hx]
  have hfin : (b.at ⟨a.tmps, dcl f (first ++ ags.map a.eval) cap :: a.defers⟩ (.inRegion ops (j :: rest) :: k)).finish undef = b.at (Act.put ⟨a.tmps, dcl f (first ++ ags.map a.eval) cap :: a.defers⟩ o.dst undef) (.inRegion ops rest :: k) := by rw [Frame.finish_at, ho]; rfl
  have hk' : (b.kind == CallKind.early) = false := by simpa using hk
  rw [stepG_oper ho hw, ← hfin]
  simp [stepG.apply, hr, he, G, Frame.at, hk', GStep.after, seen_none]
/-- A defer statement. -/
theorem u_defer {f : FuncId} {x : Operand} {ags : Array Operand} {ats : Array TypeId} {first cap : Array Value} (he : 1 ≤ e) (ho : ops[j]? = some o) (hw : Region.wanted o (yielded ops a.tmps) = true) (hop : o.op = .defer { callee := .value x, args := ags, argTypes := ats }) (hx : a.eval x = .func (.func f) first cap)
    (h : K (Act.put ⟨a.tmps, dcl f (first ++ ags.map a.eval) cap :: a.defers⟩ o.dst undef) l) : E.U e fn ops j K a l :=
  fun rest b k cs m _ hk hc => (En.W.ctl (hc _ _ h) fun _ => stepG_deferv ho hw hk hop hx).mono (by omega)
end

section
variable {b : Frame} {a : Act} {todo : List Item} {cs : List Frame} {l : Lo} {ds : List Deferred} {f : FuncId} {args cap : Array Value} {m n : Nat} {P : Program} {main : Bool} {fn : Func} {w : World}
theorem stepG_unwind_dcl {c : Code} (hd : a.defers = dcl f args cap :: ds) (hf : P.funcs[f]? = some fn) (hname : (fn.name == "runtime.NumGoroutine") = false) (hb : fn.body = some c) :
    stepG P main (G { b.at a todo with mode := .returning } cs) w = .go (G ((baseD f).at (act0 fn (args ++ cap)) [.code c]) ({ b.at ⟨a.tmps, ds⟩ todo with mode := .returning } :: cs)) w #[] := by
  have h1 : ¬ fn.name = "runtime.NumGoroutine" := by simpa using hname
  have h2 : Frame.enter P f (args ++ cap) .deferred = (baseD f).at (act0 fn (args ++ cap)) [.code c] := enter_atD (args ++ cap) hf hb
  rw [← h2]
  simp [G, stepG, unwind, callDeferred, Frame.at, hd, dcl, invoke, callFunc, hf, h1, hb, GStep.after, seen_none]
/-- A frame on its way out makes its next deferred call. -/
theorem w_deferred {Post : Value → Lo → Prop} (hB : E.B f (args ++ cap) n l Post) (hd : a.defers = dcl f args cap :: ds) (h : ∀ v l', Post v l' → E.W m l' { b.at ⟨a.tmps, ds⟩ todo with mode := .returning } cs) :
    E.W (m + n + 2) l { b.at a todo with mode := .returning } cs := by
  obtain ⟨fn, c, h1, h2, h3, h4⟩ := hB
  have := h4 (baseD f) ({ b.at ⟨a.tmps, ds⟩ todo with mode := .returning } :: cs) (m + 1) rfl (by simp [baseD]) fun a' l' v todo' hd' hr hp => by
    refine En.W.ctl (h v l' hp) fun w => ?_
    rw [stepG_leave_deferred (b := baseD f) rfl hd' h1 (hr w).1 (hr w).2 rfl]
  refine (En.W.ctl this fun w => stepG_unwind_dcl hd h1 h2 h3).mono (by omega)
end
end Go.Proofs.Ytofohjbcgchhoaa

/-
  THE WALK, on: small rules for the library's own functions.
-/
import Derived.Test.YtofohjbcgchhoaaE6
import Derived.Laws.LoneSync
namespace Go.Proofs.Ytofohjbcgchhoaa
open Go.Conc
open Go.RowKit
variable {E : En}

/-- An entry that only answers. -/
theorem u_entry0 {e : Nat} {fn : FuncId} {a : Act} {l : Lo} {K : Act → Lo → Prop} {ops : Array Oper} {j : Nat} {o : Oper} {f : FuncId} {fd : Func} {ats : Array TypeId} {ags : Array Operand} (v : Value) (he : 1 ≤ e) (ho : ops[j]? = some o) (hw : Region.wanted o (yielded ops a.tmps) = true) (hop : o.op = .call { callee := .value (.func f), args := ags, argTypes := ats })
    (hf : Try.prog.funcs[f]? = some fd) (hname : (fd.name == "runtime.NumGoroutine") = false) (hb : fd.body.isNone = true) (hn : Extern.findNext fd = none) {x : Array Value → Sem Value} (hx : Extern.find fd = some x) (hrun : ∀ w, (x (ags.map a.eval)).run Try.prog w = .ok v w) (hev : ∀ w es, (x (ags.map a.eval)).events Try.prog w es = es) (h : K (a.put o.dst v) l) : E.U e fn ops j K a l :=
  fun rest b k cs m _ hk hc => (En.W.ctl (hc _ _ h) fun w => stepG_entry ho hw hk hop hf hname hb hn hx (hrun w) (by rw [hev]; simp) (by simp)).mono (by omega)

/-- A function that says 'enable' on its way out. -/
theorem n_of_enable {f : FuncId} {fn : Func} {c : Code} {args : Array Value} {e L : Nat} {l : Lo} {Post : Value → Lo → Prop} (hf : Try.prog.funcs[f]? = some fn) (hname : (fn.name == "runtime.NumGoroutine") = false) (hb : fn.body = some c)
    (h : E.C e L f c (fun ex a' l' => (ex = .normal ∨ ex = .ret) ∧ a'.defers = [dcall 41 #[]] ∧ ∃ v, ResultsC Try.prog fn a'.tmps v ∧ Post v (l'.dfd (l'.df - 1))) (act0 fn args) l) : E.N f args (cost e L c + 3) l Post := by
  refine ⟨fn, c, hf, hname, hb, fun b a k cs ops j rest o m ho hk hc => ?_⟩
  have hend : ∀ (a' : Act) (l' : Lo) (todo : List Item), a'.defers = [dcall 41 #[]] → (∃ v, ResultsC Try.prog fn a'.tmps v ∧ Post v (l'.dfd (l'.df - 1))) → E.W (m + 2) l' { (base f).at a' todo with mode := .returning } (b.at a (.inRegion ops (j :: rest) :: k) :: cs) := by
    rintro a' l' todo hd ⟨v, hr, hp⟩
    refine w_unmark (n := m + 1) .enable rfl (by simp) hd Try.func41 (by rfl) (by rfl) (by rfl) rfl ?_
    refine En.W.ctl (hc v _ hp) fun w => ?_
    have e1 : (b.at a (.inRegion ops (j :: rest) :: k)).finish v = b.at (a.put o.dst v) (.inRegion ops rest :: k) := by rw [Frame.finish_at, ho]; rfl
    rw [stepG_leave (b := base f) (a := ⟨a'.tmps, []⟩) rfl rfl hf (hr w).1 (hr w).2, e1]
  have := h (base f) [] (b.at a (.inRegion ops (j :: rest) :: k) :: cs) (m + 3) rfl (by simp [base]) fun ex a' l' q => by
    obtain ⟨hex, hd, hv⟩ := q
    rcases hex with rfl | rfl
    · exact En.W.ctl (hend a' l' [] hd hv) fun _ => stepG_end
    · exact fun todo => (hend a' l' todo hd hv).mono (Nat.le_succ _)
  exact this.mono (by omega)

/-- 'unsafe.Pointer(p)', of a cell that is there. -/
theorem u_conv {e : Nat} {fn : FuncId} {a : Act} {l : Lo} {K : Act → Lo → Prop} {ops : Array Oper} {j : Nat} {o : Oper} {src dst t : TypeId} {x : Operand} {ad : Addr} (he : 1 ≤ e) (hq : l.quit = none) (ho : ops[j]? = some o) (hw : Region.wanted o (yielded ops a.tmps) = true) (hop : o.op = .convert src dst x) (hx : a.eval x = .pointer (some ad))
    (hs : Try.prog.underlying src = some (.pointer t)) (hd : Try.prog.underlying dst = some .unsafePointer) (hsz : (Try.prog.info? t).map (fun i => decide (i.size = 0)) = some false)
    (hc : ∀ γ w t, E.H γ w t → γ.lo E.i = l → E.i < γ.N → ∃ v, w.cell? ad = some v) (h : K (a.put o.dst (.pointer (some ad))) l) : E.U e fn ops j K a l :=
  u_step he hq ho hw fun γ w t hI hl hi pos K' hK' => by
    obtain ⟨v, hv⟩ := hc γ w t hI hl hi
    have hr : (execOp a.eval o).run Try.prog w = .ok (.value (.pointer (some ad))) w := by
      unfold execOp
      simp [hop, hx, run_convert_to_unsafe (P := Try.prog) hs hd hsz hv, Result.andThen]
    have hev : (execOp a.eval o).events Try.prog w #[] = #[] := by
      unfold execOp
      simp [hop, hx, events_convert_to_unsafe (P := Try.prog) hs hd hsz hv]
    rw [hr]
    refine hK' _ _ ⟨γ, ?_, rfl, fun wake => Keeps.rfl' (S := E.S) γ w wake, by rw [hl]; exact h⟩
    unfold listed
    rw [hev, seen_none]
    simpa [MemOp.ofEvents] using hI
theorem lead_cell {l : Lo} {u o : Nat} {B : Boss} (hB : l.ws u = some B) (ho : o < 2) : ∀ γ w t, E.H γ w t → γ.lo E.i = l → E.i < γ.N → ∃ v, w.cell? ⟨u, o, none⟩ = some v := fun γ w t hI hl hi => by
  subst hl
  obtain ⟨G, hG, _⟩ := hI.lead hi hB
  obtain ⟨_, k2, k3, _⟩ := hI.mem.wg u G hG
  obtain rfl | rfl : o = 0 ∨ o = 1 := by omega
  · exact ⟨_, k2⟩
  · exact ⟨_, k3⟩
theorem work_cell {l : Lo} {u o : Nat} (hw : l.wg = some u) (hm : l.md ≠ .gone) (ho : o < 2) : ∀ γ w t, E.H γ w t → γ.lo E.i = l → E.i < γ.N → ∃ v, w.cell? ⟨u, o, none⟩ = some v := fun γ w t hI hl hi => by
  subst hl
  obtain ⟨_, b, B, J, G, _, _, _, _, _, hG, _⟩ := hI.worker hi hw hm
  obtain ⟨_, k2, k3, _⟩ := hI.mem.wg u G hG
  obtain rfl | rfl : o = 0 ∨ o = 1 := by omega
  · exact ⟨_, k2⟩
  · exact ⟨_, k3⟩

/-- A call, its arguments as values. -/
theorem u_callx {e : Nat} {fn : FuncId} {a : Act} {l : Lo} {K : Act → Lo → Prop} {ops : Array Oper} {j : Nat} {o : Oper} {f : FuncId} {args : Array Operand} {ats : Array TypeId} {n : Nat} (vs : Array Value) (he : n + 1 ≤ e) (ho : ops[j]? = some o) (hw : Region.wanted o (yielded ops a.tmps) = true) (hop : o.op = .call { callee := .value (.func f), args, argTypes := ats }) (hv : args.map a.eval = vs)
    (h : E.N f vs n l fun v l' => K (a.put o.dst v) l') : E.U e fn ops j K a l := u_call he ho hw hop (by rw [hv]; exact h)

end Go.Proofs.Ytofohjbcgchhoaa

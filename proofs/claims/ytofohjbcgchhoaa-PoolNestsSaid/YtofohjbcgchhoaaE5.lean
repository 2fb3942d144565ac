/-
  THE WALK, on: a deferred 'enable'; the end; turns of the ghost; pure operations.
-/
import Derived.Test.YtofohjbcgchhoaaE4
namespace Go.Proofs.Ytofohjbcgchhoaa
open Go.Conc
open Go.RowKit
variable {E : En}

section
variable {b : Frame} {a : Act} {todo : List Item} {cs : List Frame} {l : Lo} {ds : List Deferred} {f : FuncId} {m n : Nat} {fd fn : Func}

/-- A frame on its way out says 'enable' (or 'disable'). -/
theorem w_unmark (mk : Mark) (hmu : Event.mute ⟨.mark mk, false, true⟩ = true) (hx : OurMark mk) (hd : a.defers = dcall f #[] :: ds) (hf : Try.prog.funcs[f]? = some fd) (hname : (fd.name == "runtime.NumGoroutine") = false) (hb : fd.body.isNone = true) (hn : Extern.findNext fd = none)
    (he : Extern.find fd = some (fun _ => do mark mk; pure Extern.Race.none_)) (h : E.W n (l.dfd (deafBehind l.df #[⟨.mark mk, false, true⟩])) { b.at ⟨a.tmps, ds⟩ todo with mode := .returning } cs) : E.W (n + 1) l { b.at a todo with mode := .returning } cs := by
  have hst : ∀ main w, stepG Try.prog main (G { b.at a todo with mode := .returning } cs) w = .go (G { b.at ⟨a.tmps, ds⟩ todo with mode := .returning } cs) w #[⟨.mark mk, false, true⟩] := fun main w =>
    stepG_unwind_entry (v := .tuple #[]) hd hf hname hb hn he (by simp [Extern.Race.none_]) (by simp) (by
      intro x hx'
      simp at hx'
      subst hx'
      exact ⟨rfl, fun g h => by rw [Loc.mark.inj h] at hx; exact hx⟩)
  cases hq : l.quit with
  | none =>
    refine En.W.go hq fun γ w t hI hl hi => ?_
    have key := Whole.mutes (PP := E.PP) hI hi ({ b.at a todo with mode := .returning } : Frame).fn ({ b.at a todo with mode := .returning } : Frame).place (es := #[⟨.mark mk, false, true⟩]) (fun e he => by
      obtain rfl : e = ⟨.mark mk, false, true⟩ := by simpa using he
      exact hmu)
    refine ⟨_, _, w, _, _, hst _ w, key.1, rfl, key.2 _, ?_⟩
    rw [set_same, hl]
    exact h
  | some d =>
    have hdf : l.df = d := by
      unfold Lo.quit at hq
      split at hq <;> first | exact Option.some.inj hq | cases hq
    have hq' : (l.dfd (deafBehind l.df #[⟨.mark mk, false, true⟩])).quit = some (deafBehind l.df #[⟨.mark mk, false, true⟩]) := by
      unfold Lo.quit at hq ⊢
      simp only [Lo.dfd]
      split at hq <;> first | rfl | cases hq
    have key : E.i ≠ 0 ∧ QuitsD Try.prog n (deafBehind l.df #[⟨.mark mk, false, true⟩]) (G { b.at ⟨a.tmps, ds⟩ todo with mode := .returning } cs) := by
      unfold En.W at h
      cases n with
      | zero =>
        obtain ⟨h0, d', h1, h2⟩ := h
        have h1 : Lo.quit _ = some d' := h1
        rw [hq'] at h1
        cases h1
        exact ⟨h0, h2⟩
      | succ n =>
        rcases h with ⟨h0, d', h1, h2⟩ | ⟨h1, _⟩
        · have h1 : Lo.quit _ = some d' := h1
          rw [hq'] at h1
          cases h1
          exact ⟨h0, h2⟩
        · have h1 : Lo.quit _ = none := h1
          rw [hq'] at h1; cases h1
    rw [hdf] at key
    exact .inl ⟨key.1, d, hq, QuitsD.said _ hmu rfl (fun w => hst false w) key.2⟩

/-- THE END of goroutine 0. -/
theorem w_done (h0 : E.i = 0) (hq : l.quit = none) (hk : b.kind = .normal) (hd : a.defers = []) (hf : Try.prog.funcs[b.fn]? = some fn) (hin : ¬ 2 = b.fn) {v : Value} (hr : ResultsC Try.prog fn a.tmps v) (hws : ∀ u B, l.ws u = some B → B.ws = [])
    (hp : ∀ γ w t, E.H γ w t → γ.lo 0 = l → E.PP v w) : E.W 1 l { b.at a todo with mode := .returning } [] := by
  refine .inr ⟨hq, fun γ w t hI hl hi => ?_⟩
  have hl : γ.lo E.i = l := hl
  rw [h0] at hl
  obtain ⟨f1, f2, f3⟩ := Whole.finish hI (by rw [hl]; exact hws)
  refine .done (v := v) h0 ?_ (hp γ w t hI hl) f1 f2 f3
  have h1 := (hr w).1
  have h2 := (hr w).2
  simp [G, stepG, unwind, doReturn, Frame.at, hk, hd, hf, h1, h2, seen, GStep.after, hin]
end

section
variable {e : Nat} {fn : FuncId} {a : Act} {l l' : Lo} {K : Act → Lo → Prop} {ops : Array Oper} {j : Nat} {o : Oper}

/-- An operation out of the temporaries alone, however the goroutine stands. -/
theorem u_pure (he : 1 ≤ e) (ho : ops[j]? = some o) (hw : Region.wanted o (yielded ops a.tmps) = true) (v : Value) (hr : ∀ w, (execOp a.eval o).run Try.prog w = .ok (.value v) w) (hev : ∀ w, (execOp a.eval o).events Try.prog w #[] = #[]) (h : K (a.put o.dst v) l) : E.U e fn ops j K a l :=
  fun rest b k cs m _ hk hc => (En.W.ctl (hc _ _ h) fun w => by rw [stepG_value ho hw hk (hr w)]; unfold listed; rw [hev w, seen_none]).mono (by omega)
end

theorem En.Turn.refl {l : Lo} (h : l.md = .act) : E.Turn l l := ⟨h, fun γ w _ hI ho _ => ⟨γ, hI, rfl, Keeps.rfl' (S := E.S) γ w false, ho⟩⟩
theorem En.Turn.trans {l l' l'' : Lo} (h : E.Turn l l') (k : E.Turn l' l'') : E.Turn l l'' := ⟨h.1, fun γ w t hI ho hi => by
  obtain ⟨γ', h1, h2, h3, h4⟩ := h.2 γ w t hI ho hi
  obtain ⟨γ'', k1, k2, k3, k4⟩ := k.2 γ' w t h1 h4 (by rw [h2]; exact hi)
  exact ⟨γ'', k1, k2.trans h2, Keeps.trans' h2 h3 k3, k4⟩⟩
/-- Cells are given up, frozen. -/
theorem turn_cells {l : Lo} (hact : l.md = .act) (C' : Addr → Option Value) (R' : Addr → Value → Prop) (hc : ∀ a v, C' a = some v → l.res.cells a = some v) (hr : ∀ a v, R' a v → l.ro a v ∨ (C' a = none ∧ l.res.cells a = some v)) : E.Turn l { l with res := ⟨C', l.res.tk⟩, ro := R' } :=
  ⟨hact, fun γ w t hI ho hi => by
    subst ho
    have hF := fa_of hI hi
    have key := Whole.near hI hi hact (E := fun _ => False) (fun _ x => x.elim) (Near.refl _ w) 0 "" (es := #[]) (C' := C') (R' := R') (O' := (γ.lo E.i).oc) (d' := (γ.lo E.i).df) (l' := { γ.lo E.i with res := ⟨C', (γ.lo E.i).res.tk⟩, ro := R' }) rfl (fun a v e => ⟨hF.cell a v (hc a v e), hF.froz a v (hc a v e), .inl (by rw [hc a v e]; simp)⟩) (fun a v e => by
      rcases hr a v e with e' | ⟨e1, e2⟩
      · exact ⟨hF.ro a v e', .inl e'⟩
      · exact ⟨hF.cell a v e2, .inr ⟨e1, .inl (by rw [e2]; simp)⟩⟩) (fun c cap e => .inl e) rfl (by simp)
    refine ⟨γ.set E.i { γ.lo E.i with res := ⟨C', (γ.lo E.i).res.tk⟩, ro := R' }, ?_, rfl, Keeps.near hI hi (fun _ x => x.elim) (Near.refl (fun _ => False) w) _ false, set_same _ _ _⟩
    simpa [MemOp.ofEvents] using key⟩
/-- What is known is forgotten; a member is counted. -/
theorem turn_know {l l' : Lo} (hact : l.md = .act) {pk' : Nat → Nat} {cl' al' : Nat → Prop} {gk' : Nat → Option Nat} {tk' : Tk → Nat} (hl : l' = { l with pk := pk', cl := cl', al := al', gk := gk', res := ⟨l.res.cells, tk'⟩ })
    (hpk : ∀ p, pk' p ≤ l.pk p) (hcl : ∀ x, cl' x → l.cl x) (hal : ∀ x, al' x → l.al x) (htk : ∀ k, (∀ c, k ≠ .gm c) → tk' k = l.res.tk k)
    (hgm : ∀ c, (gk' c = l.gk c ∧ tk' (.gm c) = l.res.tk (.gm c)) ∨ ∃ g bg n p, l.gk c = some g ∧ gk' c = some (g + 1) ∧ tk' (.gm c) = l.res.tk (.gm c) + 1 ∧ l.gl c = some (bg, n, p) ∧ l.res.tk (.gm c) + 1 ≤ l.res.tk (.alive p)) : E.Turn l l' :=
  ⟨hact, fun γ w t hI ho hi => by
    subst ho
    have key := Whole.know (PP := E.PP) hI hi hact (sk' := (γ.lo E.i).sk) hl hpk hcl hal htk hgm (fun p G hG hs h0 => by rw [h0]; exact hI.nums.solo p G hG hs)
    exact ⟨_, key.1, rfl, key.2 false, set_same _ _ _⟩⟩
/-- Goroutine 0, alone, knows how many slots are taken. -/
theorem turn_sk {l l' : Lo} (h0 : E.i = 0) (hact : l.md = .act) (hws : ∀ u B, l.ws u = some B → B.ws = []) (hl : l' = { l with sk := fun p => l.res.tk (.slot p) }) : E.Turn l l' :=
  ⟨hact, fun γ w t hI ho hi => by
    subst ho
    have key := Whole.know (PP := E.PP) hI hi hact (sk' := fun p => (γ.lo E.i).res.tk (.slot p)) (pk' := (γ.lo E.i).pk) (cl' := (γ.lo E.i).cl) (al' := (γ.lo E.i).al) (gk' := (γ.lo E.i).gk) (tk' := (γ.lo E.i).res.tk) (l' := l') hl (fun _ => Nat.le_refl _) (fun _ x => x) (fun _ x => x) (fun _ _ => rfl) (fun _ => .inl ⟨rfl, rfl⟩) (fun p G _ _ _ => by
      have := Whole.alone_sum hI (by rw [h0] at hws; exact hws) (.slot p)
      rw [this, h0]; exact Nat.le_refl _)
    exact ⟨_, key.1, rfl, key.2 false, set_same _ _ _⟩⟩
end Go.Proofs.Ytofohjbcgchhoaa

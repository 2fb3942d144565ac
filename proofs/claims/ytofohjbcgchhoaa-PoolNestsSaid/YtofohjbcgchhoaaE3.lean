/-
  THE WALK, on: the entries without a body: atomic operations, marks, the semaphore.
-/
import Derived.Test.YtofohjbcgchhoaaE2
import Derived.Test.YtofohjbcgchhoaaD16
namespace Go.Proofs.Ytofohjbcgchhoaa
open Go.Conc
open Go.RowKit
variable {E : En}

/-- The marks that the walks meet. -/
@[simp] def OurMark : Mark → Prop
  | .acquire _ | .release _ | .releaseMerge _ | .disable | .enable | .read _ | .write _ => True
  | _ => False

/-- What a step of the walk's goroutine makes of the whole. -/
def En.Step (E : En) (fn : FuncId) (γ : Gh) (w : World) (t : Trace) (pos : String) (w' : World) (es : Array Event) (l' : Lo) : Prop :=
  ∃ γ', E.H γ' w' (t ++ MemOp.ofEvents E.i fn pos es) ∧ γ'.N = γ.N ∧ Keeps E.S E.i γ w γ' w' true ∧ γ'.lo E.i = l'
/-- In every world that may be: X. -/
def En.All (E : En) (l : Lo) (X : Gh → World → Trace → String → Prop) : Prop := ∀ γ w t pos, E.H γ w t → γ.lo E.i = l → E.i < γ.N → X γ w t pos

def En.AddAt (E : En) (l : Lo) (fn : FuncId) (ad : Addr) (k : IntKind) (d : Int) (K : Value → Lo → Prop) : Prop :=
  E.All l fun γ w t pos => ∃ x l', w.cell? ad = some (.int k x) ∧ w.frozen? ad = false ∧ E.Step fn γ w t pos (w.setCell ad (.int k (k.wrap (x + d)))) (rw2 ad) l' ∧ K (.int k (k.wrap (x + d))) l'
def En.LoadAt (E : En) (l : Lo) (fn : FuncId) (ad : Addr) (k : IntKind) (K : Value → Lo → Prop) : Prop :=
  E.All l fun γ w t pos => ∃ x l', w.cell? ad = some (.int k x) ∧ E.Step fn γ w t pos w #[⟨.cell ad, false, true⟩] l' ∧ K (.int k x) l'
def En.StoreAt (E : En) (l : Lo) (fn : FuncId) (ad : Addr) (k : IntKind) (v : Int) (K : Value → Lo → Prop) : Prop :=
  E.All l fun γ w t pos => ∃ x l', w.cell? ad = some x ∧ w.frozen? ad = false ∧ E.Step fn γ w t pos (w.setCell ad (.int k v)) #[⟨.cell ad, true, true⟩] l' ∧ K (.tuple #[]) l'
def En.CasAt (E : En) (l : Lo) (fn : FuncId) (ad : Addr) (k : IntKind) (old new : Int) (K : Value → Lo → Prop) : Prop :=
  E.All l fun γ w t pos => ∃ x, w.cell? ad = some (.int k x) ∧ w.frozen? ad = false ∧
    (x = old → ∃ l', E.Step fn γ w t pos (w.setCell ad (.int k new)) (rw2 ad) l' ∧ K (.bool true) l') ∧ (x ≠ old → ∃ l', E.Step fn γ w t pos w #[⟨.cell ad, false, true⟩] l' ∧ K (.bool false) l')
def En.MarkAt (E : En) (l : Lo) (fn : FuncId) (m : Mark) (K : Value → Lo → Prop) : Prop :=
  E.All l fun γ w t pos => ∃ l', E.Step fn γ w t pos w #[⟨.mark m, false, true⟩] l' ∧ K (.tuple #[]) l'

section
variable {e : Nat} {fn : FuncId} {a : Act} {l : Lo} {K : Act → Lo → Prop} {ops : Array Oper} {j : Nat} {o : Oper} {f : FuncId} {fd : Func} {ats : Array TypeId} {ags : Array Operand}

theorem mayWake_entry {P : Program} {b : Frame} {rest : List Nat} {k : List Item} {cs : List Frame} (ho : ops[j]? = some o) (hop : o.op = .call { callee := .value (.func f), args := ags, argTypes := ats }) (hf : P.funcs[f]? = some fd) (hb : fd.body.isNone = true) :
    mayWake P (G (b.at a (.inRegion ops (j :: rest) :: k)) cs) = true := by
  have h2 : fd.body = none := by simpa using hb
  simp [mayWake, G, Frame.at, ho, hop, hf, h2, Frame.eval]

/-- One step of an entry. -/
theorem u_entry (he : 1 ≤ e) (hq : l.quit = none) (ho : ops[j]? = some o) (hop : o.op = .call { callee := .value (.func f), args := ags, argTypes := ats }) (hf : Try.prog.funcs[f]? = some fd) (hb : fd.body.isNone = true)
    (h : E.All l fun γ w t pos => ∃ v w' es l', (∀ (b : Frame) (rest : List Nat) (k : List Item) (cs : List Frame), b.kind ≠ .early → stepG Try.prog (E.i == 0) (G (b.at a (.inRegion ops (j :: rest) :: k)) cs) w = .go (G (b.at (a.put o.dst v) (.inRegion ops rest :: k)) cs) w' es) ∧ E.Step fn γ w t pos w' es l' ∧ K (a.put o.dst v) l') : E.U e fn ops j K a l := by
  intro rest b k cs m hbf hk hc
  refine (En.W.go (n := m) hq fun γ w t hI hl hi => ?_).mono (by omega)
  obtain ⟨v, w', es, l', h1, ⟨γ', h2, h3, h4, h5⟩, h6⟩ := h γ w t (b.at a (.inRegion ops (j :: rest) :: k)).place hI hl hi
  refine ⟨_, _, w', es, γ', h1 b rest k cs hk, ?_, h3, ?_, ?_⟩
  · unfold evs
    rw [show (b.at a (.inRegion ops (j :: rest) :: k)).fn = fn from hbf]
    exact h2
  · rw [mayWake_entry ho hop hf hb]; exact h4
  · rw [h5]; exact hc _ _ h6

section
variable (he : 1 ≤ e) (hq : l.quit = none) (ho : ops[j]? = some o) (hw : Region.wanted o (yielded ops a.tmps) = true) (hf : Try.prog.funcs[f]? = some fd) (hname : (fd.name == "runtime.NumGoroutine") = false) (hb : fd.body.isNone = true) (hn : Extern.findNext fd = none)
include he hq ho hw hf hname hb hn

theorem u_add {x y : Operand} {ad : Addr} {k : IntKind} {d : Int} (hop : o.op = .call { callee := .value (.func f), args := #[x, y], argTypes := ats }) (hx' : Extern.find fd = some (Extern.Atomic.update (Op.intArith .add) k true)) (hx : a.eval x = .pointer (some ad)) (hy : a.eval y = .int k d)
    (h : E.AddAt l fn ad k d fun v l' => K (a.put o.dst v) l') : E.U e fn ops j K a l :=
  u_entry he hq ho hop hf hb fun γ w t pos hI hl hi => by
    obtain ⟨x0, l', h1, h2, h3, h4⟩ := h γ w t pos hI hl hi
    exact ⟨_, _, _, l', fun b rest kk cs hk => stepG_add_atomic ho hw hk hop hf hname hb hn k hx' hx hy h1 h2, h3, h4⟩
theorem u_loadA {x : Operand} {ad : Addr} {k : IntKind} (hop : o.op = .call { callee := .value (.func f), args := #[x], argTypes := ats }) (hx' : Extern.find fd = some (Extern.Atomic.loadT (.int k))) (hx : a.eval x = .pointer (some ad))
    (h : E.LoadAt l fn ad k fun v l' => K (a.put o.dst v) l') : E.U e fn ops j K a l :=
  u_entry he hq ho hop hf hb fun γ w t pos hI hl hi => by
    obtain ⟨x0, l', h1, h3, h4⟩ := h γ w t pos hI hl hi
    exact ⟨_, _, _, l', fun b rest kk cs hk => stepG_load_atomic ho hw hk hop hf hname hb hn k hx' hx h1, h3, h4⟩
theorem u_storeA {x y : Operand} {ad : Addr} {k : IntKind} {v : Int} (hop : o.op = .call { callee := .value (.func f), args := #[x, y], argTypes := ats }) (hx' : Extern.find fd = some Extern.Atomic.storeT) (hx : a.eval x = .pointer (some ad)) (hy : a.eval y = .int k v)
    (h : E.StoreAt l fn ad k v fun v l' => K (a.put o.dst v) l') : E.U e fn ops j K a l :=
  u_entry he hq ho hop hf hb fun γ w t pos hI hl hi => by
    obtain ⟨x0, l', h1, h2, h3, h4⟩ := h γ w t pos hI hl hi
    exact ⟨_, _, _, l', fun b rest kk cs hk => stepG_store_atomic ho hw hk hop hf hname hb hn hx' hx hy h1 h2, h3, h4⟩
theorem u_cas {x y z : Operand} {ad : Addr} {k : IntKind} {old new : Int} (hop : o.op = .call { callee := .value (.func f), args := #[x, y, z], argTypes := ats }) (hx' : Extern.find fd = some (Extern.Atomic.casT (.int k))) (hx : a.eval x = .pointer (some ad)) (hy : a.eval y = .int k old) (hz : a.eval z = .int k new)
    (h : E.CasAt l fn ad k old new fun v l' => K (a.put o.dst v) l') : E.U e fn ops j K a l :=
  u_entry he hq ho hop hf hb fun γ w t pos hI hl hi => by
    obtain ⟨x0, h1, h2, h3, h4⟩ := h γ w t pos hI hl hi
    by_cases hc : x0 = old
    · obtain ⟨l', h5, h6⟩ := h3 hc
      subst hc
      exact ⟨_, _, _, l', fun b rest kk cs hk => stepG_cas_hit ho hw hk hop hf hname hb hn k hx' hx hy hz h1 h2, h5, h6⟩
    · obtain ⟨l', h5, h6⟩ := h4 hc
      exact ⟨_, _, _, l', fun b rest kk cs hk => stepG_cas_miss ho hw hk hop hf hname hb hn k hx' hx hy hz h1 h2 hc, h5, h6⟩
theorem u_mark0 (m : Mark) (hm : OurMark m) (hop : o.op = .call { callee := .value (.func f), args := ags, argTypes := ats }) (hx' : Extern.find fd = some (fun _ => do mark m; pure Extern.Race.none_))
    (h : E.MarkAt l fn m fun v l' => K (a.put o.dst v) l') : E.U e fn ops j K a l :=
  u_entry he hq ho hop hf hb fun γ w t pos hI hl hi => by
    obtain ⟨l', h3, h4⟩ := h γ w t pos hI hl hi
    exact ⟨_, _, _, l', fun b rest kk cs hk => stepG_mark0 m (fun g e => by subst e; exact hm) ho hw hk hop hf hname hb hn hx', h3, h4⟩
theorem u_markAt (mk : Addr → Mark) (hm : ∀ ad, OurMark (mk ad)) (hop : o.op = .call { callee := .value (.func f), args := ags, argTypes := ats }) (hx' : Extern.find fd = some (Extern.Race.marked mk)) {ad : Addr} (hx : (ags.map a.eval)[0]? = some (.pointer (some ad)))
    (h : E.MarkAt l fn (mk ad) fun v l' => K (a.put o.dst v) l') : E.U e fn ops j K a l :=
  u_entry he hq ho hop hf hb fun γ w t pos hI hl hi => by
    obtain ⟨l', h3, h4⟩ := h γ w t pos hI hl hi
    exact ⟨_, _, _, l', fun b rest kk cs hk => stepG_markAt mk (fun ad g e => by have := hm ad; rw [e] at this; exact this) ho hw hk hop hf hname hb hn hx' hx, h3, h4⟩
/-- The worker that was the last wakes its leader. -/
theorem u_semrel (hop : o.op = .call { callee := .value (.func f), args := ags, argTypes := ats }) (hx' : Extern.find fd = some Extern.Sync.semrelease) {ad : Addr} (hx : (ags.map a.eval)[0]? = some (.pointer (some ad)))
    (h : E.All l fun γ w t pos => ∃ l', w.cell? ad = some (.int .u32 0) ∧ w.frozen? ad = false ∧ E.Step fn γ w t pos (w.setCell ad (.int .u32 1)) (semEvents ad) l' ∧ K (a.put o.dst (.tuple #[])) l') : E.U e fn ops j K a l :=
  u_entry he hq ho hop hf hb fun γ w t pos hI hl hi => by
    obtain ⟨l', h1, h2, h3, h4⟩ := h γ w t pos hI hl hi
    exact ⟨_, _, _, l', fun b rest kk cs hk => stepG_semrelease ho hw hk hop hf hname hb hn hx' hx h1 h2, h3, h4⟩
/-- The leader sleeps till it is woken. -/
theorem u_semacq (hop : o.op = .call { callee := .value (.func f), args := ags, argTypes := ats }) (hx' : Extern.find fd = some Extern.Sync.semacquire) {ad : Addr} (hx : (ags.map a.eval)[0]? = some (.pointer (some ad)))
    (h : E.All l fun γ w t pos => (w.cell? ad = some (.int .u32 0) ∧ Stuck γ E.i w) ∨ ∃ l', w.cell? ad = some (.int .u32 1) ∧ w.frozen? ad = false ∧ E.Step fn γ w t pos (w.setCell ad (.int .u32 0)) (semEvents ad) l' ∧ K (a.put o.dst (.tuple #[])) l') : E.U e fn ops j K a l := by
  intro rest b k cs m hbf hk hc
  suffices hh : E.W (m + 1) l (b.at a (.inRegion ops (j :: rest) :: k)) cs from hh.mono (by omega)
  refine .inr ⟨hq, fun γ w t hI hl hi => ?_⟩
  rcases h γ w t (b.at a (.inRegion ops (j :: rest) :: k)).place hI hl hi with ⟨h1, h2⟩ | ⟨l', h1, h2, ⟨γ', g1, g2, g3, g4⟩, h4⟩
  · exact .block (stepG_semacquire_wait ho hw hop hf hname hb hn hx' hx h1) h2
  · have hst := stepG_semacquire (main := E.i == 0) (b := b) (kk := k) (cs := cs) (rest := rest) ho hw hk hop hf hname hb hn hx' hx h1 (by decide) h2
    refine .go (γ' := γ') hst ?_ g2 ?_ ?_
    · unfold evs
      rw [show (b.at a (.inRegion ops (j :: rest) :: k)).fn = fn from hbf]
      exact g1
    · rw [mayWake_entry ho hop hf hb]; exact g3
    · have := hc _ _ h4
      rw [← g4] at this
      exact this
end
end
end Go.Proofs.Ytofohjbcgchhoaa

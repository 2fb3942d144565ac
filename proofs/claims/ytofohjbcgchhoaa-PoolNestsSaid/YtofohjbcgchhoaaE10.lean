/-
  THE WALK, on: what is new: a group, a channel, a pool, a gate.
-/
import Derived.Test.YtofohjbcgchhoaaE9
namespace Go.Proofs.Ytofohjbcgchhoaa
open Go.Conc
open Go.RowKit
variable {E : En}

section
variable {e : Nat} {fn : FuncId} {a : Act} {l : Lo} {K : Act → Lo → Prop} {ops : Array Oper} {j : Nat} {o : Oper}

/-- What is new was never known. -/
structure Fresh (l : Lo) (r : Nat) : Prop where
  cell : ∀ a, a.block = r → l.res.cells a = none
  ro : ∀ a v, a.block = r → ¬ l.ro a v
  ws : l.ws r = none
  wk : l.wk r = 0
  pl : l.pl r = none
  gl : l.gl r = none
  oc : l.oc r = none
  tk : l.res.tk (.slot r) = 0 ∧ l.res.tk (.alive r) = 0 ∧ l.res.tk (.begun r) = 0 ∧ l.res.tk (.tr r) = 0 ∧ l.res.tk (.tb r) = 0 ∧ l.res.tk (.gm r) = 0
  pk : l.pk r = 0
theorem Whole.fresh {B0 : Nat} {w0 : World} {γ : Gh} {w : World} {t : Trace} (h : Whole B0 w0 γ w t) {i : Nat} (hi : i < γ.N) : Fresh (γ.lo i) w.heap.size := by
  have hp : γ.pool w.heap.size = none := by
    cases e : γ.pool w.heap.size with
    | none => rfl
    | some G => have := lt_of_cell2 (h.mem.pool _ G e).2.1; omega
  have hw : γ.wg w.heap.size = none := by
    cases e : γ.wg w.heap.size with
    | none => rfl
    | some G => have := lt_of_cell2 (h.mem.wg _ G e).2.1; omega
  have hg : γ.gate w.heap.size = none := by
    cases e : γ.gate w.heap.size with
    | none => rfl
    | some G => have := lt_of_heap (h.mem.gate _ G e).2.2.1; omega
  obtain ⟨n1, n2, n3⟩ := h.nums.nop _ hp i hi
  obtain ⟨n4, n5, n6⟩ := h.nums.nog _ hg i hi
  obtain ⟨t1, t2, _⟩ := h.team.nown _ hw i hi
  refine ⟨fun a ha => ?_, fun a v ha hv => ?_, t2, t1, ?_, ?_, ?_, ⟨n1, n2, n3, n4, n5, n6⟩, h.nums.nopk _ hp i hi⟩
  · cases e : (γ.lo i).res.cells a with
    | none => rfl
    | some v => have := lt_of_cell (h.mem.cell i hi a v e).1; omega
  · have := lt_of_cell (h.mem.ro i hi a v hv); omega
  · cases e : (γ.lo i).pl w.heap.size with
    | none => rfl
    | some x => obtain ⟨ch, cap, so⟩ := x; obtain ⟨k, hk⟩ := h.nums.pl i hi _ ch cap so e; rw [hp] at hk; cases hk
  · cases e : (γ.lo i).gl w.heap.size with
    | none => rfl
    | some x => obtain ⟨bg, n, p⟩ := x; obtain ⟨k, hk⟩ := h.nums.gl i hi _ bg n p e; rw [hg] at hk; cases hk
  · cases e : (γ.lo i).oc w.heap.size with
    | none => rfl
    | some x => have := lt_of_heap (h.mem.oc i hi _ x e).2; omega

/-- A new thing of the ghost's, in a new block. -/
theorem u_new (he : 1 ≤ e) (hact : l.md = .act) (ho : ops[j]? = some o) (hw : Region.wanted o (yielded ops a.tmps) = true) (b : Obj) (v : Nat → Value) (f : Nat → Lo)
    (hr : ∀ w, (execOp a.eval o).run Try.prog w = .ok (.value (v w.heap.size)) (w.alloc b)) (hev : ∀ w, (execOp a.eval o).events Try.prog w #[] = #[])
    (hg : ∀ γ w t, E.H γ w t → γ.lo E.i = l → E.i < γ.N → ∃ γ', E.H γ' (w.alloc b) t ∧ γ'.N = γ.N ∧ (∀ wake, Keeps E.S E.i γ w γ' (w.alloc b) wake) ∧ γ'.lo E.i = f w.heap.size)
    (h : ∀ r, Fresh l r → K (a.put o.dst (v r)) (f r)) : E.U e fn ops j K a l :=
  u_step he (quit_act hact) ho hw fun γ w t hI hl hi pos K' hK' => by
    obtain ⟨γ', h1, h2, h3, h4⟩ := hg γ w t hI hl hi
    have hF := Whole.fresh hI hi
    rw [show γ.lo E.i = l from hl] at hF
    rw [hr]
    refine hK' _ _ ⟨γ', ?_, h2, h3, by rw [h4]; exact h _ hF⟩
    unfold listed
    rw [hev, seen_none]
    simpa [MemOp.ofEvents] using h1

theorem new_wg (hact : l.md = .act) (ty : TypeId) : ∀ γ w t, E.H γ w t → γ.lo E.i = l → E.i < γ.N → ∃ γ', E.H γ' (w.alloc (.cells #[.int .u64 0, .int .u32 0] ty)) t ∧ γ'.N = γ.N ∧ (∀ wake, Keeps E.S E.i γ w γ' (w.alloc (.cells #[.int .u64 0, .int .u32 0] ty)) wake) ∧ γ'.lo E.i = l.opw w.heap.size := fun γ w t hI hl hi => by
  subst hl
  exact Whole.open_wg (PP := E.PP) hI hact ty
theorem new_pool {ch cap : Nat} (hact : l.md = .act) (ty : TypeId) (so : Bool) (hoc : l.oc ch = some cap) (hcap : 1 ≤ cap ∧ cap ≤ 16) : ∀ γ w t, E.H γ w t → γ.lo E.i = l → E.i < γ.N → ∃ γ', E.H γ' (w.alloc (.cells #[.chan (some ch), .int .i64 0, .int .i64 0, .int .i64 0] ty)) t ∧ γ'.N = γ.N ∧ (∀ wake, Keeps E.S E.i γ w γ' (w.alloc (.cells #[.chan (some ch), .int .i64 0, .int .i64 0, .int .i64 0] ty)) wake) ∧ γ'.lo E.i = l.opp w.heap.size ch cap so := fun γ w t hI hl hi => by
  subst hl
  exact Whole.open_pool (PP := E.PP) hI hi hact ty so hoc hcap
theorem new_gate {c : Nat} (hact : l.md = .act) (ty : TypeId) (n p : Nat) (hoc : l.oc c = some 0) (hn : 1 ≤ n ∧ n < 4294967296) : ∀ γ w t, E.H γ w t → γ.lo E.i = l → E.i < γ.N → ∃ γ', E.H γ' (w.alloc (.cells #[.int .i64 0] ty)) t ∧ γ'.N = γ.N ∧ (∀ wake, Keeps E.S E.i γ w γ' (w.alloc (.cells #[.int .i64 0] ty)) wake) ∧ γ'.lo E.i = l.opg c w.heap.size n p := fun γ w t hI hl hi => by
  subst hl
  exact Whole.open_gate (PP := E.PP) hI hi hact ty n p hoc hn
/-- A channel, as yet nobody's. -/
def Lo.opc (l : Lo) (c cap : Nat) : Lo := { l with oc := fun x => if x = c then some cap else l.oc x }
theorem new_chan (hact : l.md = .act) (cap : Nat) : ∀ γ w t, E.H γ w t → γ.lo E.i = l → E.i < γ.N → ∃ γ', E.H γ' (w.alloc (.chan cap #[] false 0 0 false)) t ∧ γ'.N = γ.N ∧ (∀ wake, Keeps E.S E.i γ w γ' (w.alloc (.chan cap #[] false 0 0 false)) wake) ∧ γ'.lo E.i = l.opc w.heap.size cap := fun γ w t hI hl hi => by
  subst hl
  have hF := fa_of hI hi
  refine ⟨γ.set E.i ((γ.lo E.i).opc w.heap.size cap), ?_, rfl, Keeps.near hI hi (X := fun _ => False) (fun _ x => x.elim) (Near.alloc _ w _) _, set_same _ _ _⟩
  have key := Whole.near hI hi hact (E := fun _ => False) (fun _ x => x.elim) (Near.alloc (fun _ => False) w (.chan cap #[] false 0 0 false)) 0 "" (es := #[]) (C' := (γ.lo E.i).res.cells) (R' := (γ.lo E.i).ro) (O' := fun x => if x = w.heap.size then some cap else (γ.lo E.i).oc x) (d' := (γ.lo E.i).df) (l' := (γ.lo E.i).opc w.heap.size cap) rfl
    (fun a v e => ⟨alloc_old _ (hF.cell a v e), by rw [alloc_oldf _ _ (lt_of_cell (hF.cell a v e))]; exact hF.froz a v e, .inl (by rw [e]; simp)⟩) (fun a v e => ⟨alloc_old _ (hF.ro a v e), .inl e⟩) (fun c cp e => by
      by_cases ec : c = w.heap.size
      · rw [if_pos ec] at e
        cases e
        exact .inr ⟨by omega, by rw [ec]; show (w.heap.push _)[w.heap.size]? = _; exact Array.getElem?_push_size⟩
      · rw [if_neg ec] at e
        exact .inl e) rfl (by simp)
  simpa [MemOp.ofEvents] using key
/-- New cells. -/
theorem new_cells (hact : l.md = .act) (c : Array Value) (ty : TypeId) : ∀ γ w t, E.H γ w t → γ.lo E.i = l → E.i < γ.N → ∃ γ', E.H γ' (w.alloc (.cells c ty)) t ∧ γ'.N = γ.N ∧ (∀ wake, Keeps E.S E.i γ w γ' (w.alloc (.cells c ty)) wake) ∧ γ'.lo E.i = l.addc w.heap.size c := fun γ w t hI hl hi => by
  subst hl
  have hF := fa_of hI hi
  have hlt : ∀ x y, (γ.lo E.i).res.cells x = some y → x.block ≠ w.heap.size := fun x y hy => Nat.ne_of_lt (lt_of_cell (hF.cell x y hy))
  refine ⟨γ.set E.i ((γ.lo E.i).addc w.heap.size c), ?_, rfl, Keeps.near hI hi (X := fun _ => False) (fun _ x => x.elim) (Near.alloc _ w _) _, set_same _ _ _⟩
  have key := Whole.near hI hi hact (E := fun _ => False) (fun _ x => x.elim) (Near.alloc (fun _ => False) w (.cells c ty)) 0 "" (es := #[]) (C' := ((γ.lo E.i).addc w.heap.size c).res.cells) (R' := (γ.lo E.i).ro) (O' := (γ.lo E.i).oc) (d' := (γ.lo E.i).df) (l' := (γ.lo E.i).addc w.heap.size c) rfl
    (fun x y hy => by
      simp only [Lo.addc] at hy
      by_cases ex : x.block = w.heap.size ∧ x.spot = none
      · rw [if_pos ex] at hy
        obtain ⟨b, o', s⟩ := x
        simp only at ex
        obtain ⟨rfl, rfl⟩ := ex
        exact ⟨by rw [World.cell?_alloc_new]; exact hy, alloc_froz _ _ _ _ rfl, .inr (Nat.le_refl _)⟩
      · rw [if_neg ex] at hy
        exact ⟨by rw [World.cell?_alloc_old _ _ _ (hlt x y hy)]; exact hF.cell x y hy, by rw [World.frozen?_alloc_old _ _ _ (hlt x y hy)]; exact hF.froz x y hy, .inl (by rw [hy]; simp)⟩)
    (fun a v e => ⟨alloc_old _ (hF.ro a v e), .inl e⟩) (fun c cp e => .inl e) rfl (by simp)
  simpa [MemOp.ofEvents] using key
theorem addc_new {l : Lo} {r : Nat} {c : Array Value} (k : Nat) : (l.addc r c).res.cells ⟨r, k, none⟩ = c[k]? := by simp [Lo.addc]
theorem addc_old {l : Lo} {r : Nat} {c : Array Value} {a : Addr} (h : a.block ≠ r) : (l.addc r c).res.cells a = l.res.cells a := by simp [Lo.addc, h]
end
end Go.Proofs.Ytofohjbcgchhoaa

/-
  A tree of tasks as numbers; append of one element; the walks of Value and Children; a row of children's tasks, run by the pool.
-/
import Derived.Test.YtofohjbcgchhoaaE12
import Derived.Conc.AppendWalk
import Derived.Laws.AppendOwn
import Derived.Test.YtofohjbcgchhoaaA
import Derived.Test.YtofohjbcgchhoaaH3
import Derived.Test.YtofohjbcgchhoaaH7
namespace Go.Proofs.Ytofohjbcgchhoaa
open Go.Conc
open Go.RowKit

section
variable {P : Program} {w : World}

/-- What is listed by an append of one element: plain accesses to cells that are there, a mark of room. -/
def AppEv (R W : Addr → Prop) (e : Event) : Prop := (∃ ad, e = ⟨.cell ad, false, false⟩ ∧ R ad) ∨ (∃ ad, e = ⟨.cell ad, true, false⟩ ∧ W ad) ∨ e = ⟨.mark .noRoom, false, true⟩

theorem events_loadCellsFrom_of (a : Addr) : ∀ (n i : Nat) (acc : Array Value) (w : World) (es : Array Event), (∀ j, j < n → (w.cell? (a.add (i + j))).isSome) →
    ∀ ev ∈ (loadCellsFrom a i n acc).events P w es, ev ∈ es ∨ ∃ j, j < n ∧ ev = ⟨.cell (a.add (i + j)), false, false⟩
  | 0, _, _, _, _, _ => fun ev h => .inl (by simpa [loadCellsFrom] using h)
  | n + 1, i, acc, w, es, hc => fun ev h => by
    simp only [loadCellsFrom, Sem.events_bind] at h
    obtain ⟨u, hu⟩ := Option.isSome_iff_exists.1 (hc 0 (by omega))
    simp only [Nat.add_zero] at hu
    have hr : (load (a.add i)).run P w = .ok u w := by simp [hu]
    rw [hr] at h
    rcases events_loadCellsFrom_of a n (i + 1) (acc.push u) w _ (fun j hj => by have := hc (j + 1) (by omega); rwa [show i + (j + 1) = i + 1 + j by omega] at this) ev h with h | ⟨j, hj, he⟩
    · rw [events_load, hu] at h
      rcases Array.mem_push.1 h with h | rfl
      · exact .inl h
      · exact .inr ⟨0, by omega, by simp⟩
    · exact .inr ⟨j + 1, by omega, by rw [he, show i + 1 + j = i + (j + 1) by omega]⟩
theorem events_firstCells_of (size n : Nat) (a : Addr) (len cap : Nat) (w : World) (es : Array Event) (hc : ∀ j, j < n * size → (w.cell? (a.add j)).isSome) :
    ∀ ev ∈ (Builtin.firstCells size n (.slice (some a) len cap)).events P w es, ev ∈ es ∨ ∃ j, j < n * size ∧ ev = ⟨.cell (a.add j), false, false⟩ := by
  intro ev h
  unfold Builtin.firstCells at h
  rcases events_loadCellsFrom_of a _ 0 _ w es (fun j hj => by simpa using hc j hj) ev h with h | ⟨j, hj, he⟩
  · exact .inl h
  · exact .inr ⟨j, hj, by simpa using he⟩

/-- In room. -/
theorem append_room {t ty e : TypeId} {i : TypeInfo} (ht : P.underlying t = some (.slice e)) (hi : P.info? e = some i) (hs : i.size = 1) (g n cap T c : Nat) {nv u : Value}
    (hT : w.cell? ⟨T, 0, none⟩ = some nv) (hv : nv.oneCell' = true) (hg : w.cell? ⟨g, n, none⟩ = some u) (hf : w.frozen? ⟨g, n, none⟩ = false) (hn : n < cap) :
    (Builtin.append_ #[t, t] ty #[.slice (some ⟨g, 0, none⟩) n cap, .slice (some ⟨T, 0, none⟩) 1 c]).run P w = .ok (.slice (some ⟨g, 0, none⟩) (n + 1) cap) (w.setCell ⟨g, n, none⟩ nv) ∧
    ∀ ev ∈ (Builtin.append_ #[t, t] ty #[.slice (some ⟨g, 0, none⟩) n cap, .slice (some ⟨T, 0, none⟩) 1 c]).events P w #[], ev = ⟨.cell ⟨T, 0, none⟩, false, false⟩ ∨ ev = ⟨.cell ⟨g, n, none⟩, true, false⟩ := by
  have hroom : n + 1 ≤ cap := hn
  have hfc := run_firstCells_some (P := P) w i.size 1 ⟨T, 0, none⟩ 1 c [nv] (by simp [hs]) (fun j v hj => by
    cases j with
    | zero => simp at hj; subst hj; simpa [Addr.add] using hT
    | succ j => simp at hj)
  have h0 : (⟨g, n, none⟩ : Addr).add 0 = ⟨g, n, none⟩ := by simp [Addr.add]
  rw [hs] at hfc
  refine ⟨?_, fun ev hev => ?_⟩
  · simp [Builtin.append_, run_underlying ht, sizeOf, typeInfo, hi, hs, Builtin.lenOf, hroom, hfc, Addr.add_lit, storeCells, run_store _ _ _ _ _ hv, hg, hf]
  · have he := fun es => events_store (P := P) (w := w) (es := es) ⟨g, n, none⟩ nv .plain hv
    simp [Builtin.append_, run_underlying ht, sizeOf, typeInfo, hi, hs, Builtin.lenOf, hroom, hfc, Addr.add_lit, storeCells, he, hg, hf] at hev
    rcases hev with hev | rfl
    · rcases events_firstCells_of (P := P) 1 1 ⟨T, 0, none⟩ 1 c w #[] (fun j hj => by
        obtain rfl : j = 0 := by omega
        simpa [Addr.add] using by rw [hT]; rfl) ev hev with h | ⟨j, hj, he⟩
      · simp at h
      · obtain rfl : j = 0 := by omega
        exact .inl (by rw [he]; simp [Addr.add])
    · exact .inr rfl

/-- Out of nothing. -/
theorem append_nil {t ty e : TypeId} {i : TypeInfo} {z : Value} (ht : P.underlying t = some (.slice e)) (hi : P.info? e = some i) (hz : i.zero = some z) (hs : i.size = 1) (hb : i.bytes ≤ 16) (T c : Nat) {nv : Value}
    (hT : w.cell? ⟨T, 0, none⟩ = some nv) :
    (∀ ev ∈ (Builtin.append_ #[t, t] ty #[.slice none 0 0, .slice (some ⟨T, 0, none⟩) 1 c]).events P w #[], AppEv (fun ad => ad = ⟨T, 0, none⟩) (fun _ => False) ev) := by
  have hfc := run_firstCells_some (P := P) w.drew i.size 1 ⟨T, 0, none⟩ 1 c [nv] (by simp [hs]) (fun j v hj => by
    cases j with
    | zero => simp at hj; subst hj; simpa [Addr.add] using hT
    | succ j => simp at hj)
  have h48' : ¬ (281474976710656 < Builtin.nextslicecap 1 0 * i.bytes) := by rw [nextslicecap_zero (by omega)]; omega
  intro ev hev
  simp [Builtin.append_, run_underlying ht, sizeOf, typeInfo, zeroValue, hi, hz, Builtin.lenOf, h48', Question.forced, run_firstCells_none, hfc, newRow] at hev
  rcases events_firstCells_of (P := P) i.size 1 ⟨T, 0, none⟩ 1 c _ _ (fun j hj => by
      obtain rfl : j = 0 := by rw [hs] at hj; omega
      simpa [Addr.add] using by rw [hT]; rfl) ev hev with h | ⟨j, hj, he⟩
  · obtain ⟨b, h⟩ : ∃ b, ev ∈ (askRoom b).events P w.drew #[] := ⟨_, by simpa [Builtin.firstCells] using h⟩
    rcases Conc.events_askRoom _ _ _ ev h with h | ⟨m, rfl, hm⟩
    · simp at h
    · obtain rfl : m = .noRoom := hm
      exact .inr (.inr rfl)
  · obtain rfl : j = 0 := by rw [hs] at hj; omega
    exact .inl ⟨_, he, by simp [Addr.add]⟩

/-- Grown. -/
theorem append_grow {t ty e : TypeId} {i : TypeInfo} {z : Value} (ht : P.underlying t = some (.slice e)) (hi : P.info? e = some i) (hz : i.zero = some z) (hs : i.size = 1) (hb : i.bytes ≤ 16) (g cap T c : Nat) (xs : List Value) {nv : Value}
    (hT : w.cell? ⟨T, 0, none⟩ = some nv) (hx : ∀ j u, xs[j]? = some u → w.cell? ⟨g, j, none⟩ = some u) (hn : cap < xs.length + 1) (hm : xs.length ≤ 1000000) :
    (∀ ev ∈ (Builtin.append_ #[t, t] ty #[.slice (some ⟨g, 0, none⟩) xs.length cap, .slice (some ⟨T, 0, none⟩) 1 c]).events P w #[], AppEv (fun ad => ad = ⟨T, 0, none⟩ ∨ ∃ j, j < xs.length ∧ ad = ⟨g, j, none⟩) (fun _ => False) ev) := by
  have hnr : ¬ (xs.length + 1 ≤ cap) := by omega
  have hfc := run_firstCells_some (P := P) w.drew i.size 1 ⟨T, 0, none⟩ 1 c [nv] (by simp [hs]) (fun j v hj => by
    cases j with
    | zero => simp at hj; subst hj; simpa [Addr.add] using hT
    | succ j => simp at hj)
  have hfo := run_firstCells_some (P := P) w.drew i.size xs.length ⟨g, 0, none⟩ xs.length cap xs (by simp [hs]) (fun j v hj => by simpa [Addr.add_lit] using hx j v hj)
  have h63' : ¬ (9223372036854775807 < ((xs.length : Int) + (1 : Int))) := by omega
  have hbb : (xs.length + 1) * i.bytes ≤ 140737488355328 := by
    have : (xs.length + 1) * i.bytes ≤ 1000001 * 16 := Nat.mul_le_mul (by omega) hb
    omega
  have h48' : ¬ (281474976710656 < Builtin.nextslicecap (xs.length + 1) cap * i.bytes) := by have := growslice_fits (need := xs.length + 1) (old := cap) (bytes := i.bytes) (by omega) hbb; omega
  intro ev hev
  simp [Builtin.append_, run_underlying ht, sizeOf, typeInfo, zeroValue, hi, hz, Builtin.lenOf, hnr, h63', h48', Question.forced, hfc, hfo, newRow] at hev
  rcases events_firstCells_of (P := P) i.size 1 ⟨T, 0, none⟩ 1 c _ _ (fun j hj => by
      obtain rfl : j = 0 := by rw [hs] at hj; omega
      simpa [Addr.add] using by rw [hT]; rfl) ev hev with h | ⟨j, hj, he⟩
  · rcases events_firstCells_of (P := P) i.size xs.length ⟨g, 0, none⟩ xs.length cap _ _ (fun j hj => by
        rw [hs, Nat.mul_one] at hj
        have := hx j xs[j] (List.getElem?_eq_getElem hj)
        simpa [Addr.add_lit] using by rw [this]; rfl) ev h with h | ⟨j, hj, he⟩
    · rcases Conc.events_askRoom _ _ _ ev h with h | ⟨m, rfl, hm⟩
      · simp at h
      · obtain rfl : m = .noRoom := hm
        exact .inr (.inr rfl)
    · rw [hs, Nat.mul_one] at hj
      exact .inl ⟨_, he, .inr ⟨j, hj, by simp [Addr.add_lit]⟩⟩
  · obtain rfl : j = 0 := by rw [hs] at hj; omega
    exact .inl ⟨_, he, .inl (by simp [Addr.add])⟩
end

/-- A row that the goroutine owns, whole. -/
def RowC (l : Lo) (v : Value) (xs : List Value) : Prop :=
  (v = .slice none 0 0 ∧ xs = []) ∨ ∃ g cap, v = .slice (some ⟨g, 0, none⟩) xs.length cap ∧ xs.length ≤ cap ∧ (∀ j u, xs[j]? = some u → l.res.cells ⟨g, j, none⟩ = some u) ∧ ∀ j, j < cap → l.res.cells ⟨g, j, none⟩ ≠ none

theorem drew_at (w : World) : ∃ d, w.drew = w.at d := ⟨_, rfl⟩

variable {E : En} {e : Nat} {fn : FuncId} {a : Act} {l : Lo} {K : Act → Lo → Prop} {ops : Array Oper} {j : Nat} {o : Oper}

/-- append of one element. -/
theorem u_append {ty el : TypeId} {i : TypeInfo} {z : Value} {s x : Operand} {v : Value} {T c : Nat} (xs : List Value) (nv : Value) (he : 1 ≤ e) (hact : l.md = .act) (ho : ops[j]? = some o) (hw : Region.wanted o (yielded ops a.tmps) = true) (hop : o.op = .call { callee := .builtin .append, args := #[s, x], argTypes := #[ty, ty] })
    (ht : Try.prog.underlying ty = some (.slice el)) (hi : Try.prog.info? el = some i) (hz : i.zero = some z) (hs : i.size = 1) (hb : i.bytes ≤ 16) (hzc : z.cells = #[z]) (hsv : a.eval s = v) (hxv : a.eval x = .slice (some ⟨T, 0, none⟩) 1 c) (hT : l.res.cells ⟨T, 0, none⟩ = some nv) (hv1 : nv.oneCell' = true)
    (hrow : RowC l v xs) (hm : xs.length ≤ 1000000)
    (h1 : ∀ g cap, v = .slice (some ⟨g, 0, none⟩) xs.length cap → xs.length < cap → K (a.put o.dst (.slice (some ⟨g, 0, none⟩) (xs.length + 1) cap)) (l.setc ⟨g, xs.length, none⟩ nv))
    (h2 : ∀ r k, Fresh l r → K (a.put o.dst (.slice (some ⟨r, 0, none⟩) (xs.length + 1) (xs.length + 1 + k))) (l.addc r ((xs ++ [nv]).toArray ++ Array.replicate k z))) : E.U e fn ops j K a l := by
  have grow : ∀ (γ : Gh) (w : World) (t : Trace), E.H γ w t → γ.lo E.i = l → E.i < γ.N → ∀ (pos : String) (k : Nat) (es : Array Event), (∀ ev ∈ es, AppEv (fun ad => l.res.cells ad ≠ none) (fun _ => False) ev) → ∀ (K' : Act → World → Prop), (∀ a' w', (∃ γ', E.H γ' w' (t ++ MemOp.ofEvents E.i fn pos es) ∧ γ'.N = γ.N ∧ (∀ wake, Keeps E.S E.i γ w γ' w' wake) ∧ K a' (γ'.lo E.i)) → K' a' w') →
      K' (a.put o.dst (.slice (some ⟨w.heap.size, 0, none⟩) (xs.length + 1) (xs.length + 1 + k))) (w.drew.alloc (.cells ((xs ++ [nv]).toArray ++ Array.replicate k z) el)) := by
    intro γ w t hI hl hg pos k es hev K' hK'
    obtain ⟨d, hd⟩ := drew_at w
    subst hl
    have hF := fa_of hI hg
    have hlt : ∀ x y, (γ.lo E.i).res.cells x = some y → x.block ≠ w.heap.size := fun x y hy => Nat.ne_of_lt (lt_of_cell (hF.cell x y hy))
    rw [hd]
    obtain ⟨cc, hcc⟩ : ∃ cc, cc = (xs ++ [nv]).toArray ++ Array.replicate k z := ⟨_, rfl⟩
    rw [← hcc]
    obtain ⟨l', hl'⟩ : ∃ l', l' = (γ.lo E.i).addc w.heap.size cc := ⟨_, rfl⟩
    have hN : Near (fun _ => False) w ((w.at d).alloc (.cells cc el)) := (Near.drew _ w d).trans (Near.alloc _ (w.at d) _)
    refine hK' _ _ ⟨γ.set E.i l', ?_, rfl, fun wake => Keeps.near hI hg (fun _ x => x.elim) hN _ wake, ?_⟩
    · refine Whole.near hI hg hact (E := fun _ => False) (fun _ x => x.elim) hN fn pos (es := es) (C' := ((γ.lo E.i).addc w.heap.size cc).res.cells) (R' := (γ.lo E.i).ro) (O' := (γ.lo E.i).oc) (d' := (γ.lo E.i).df) (l' := l') hl'
        (fun x y hy => by
          simp only [Lo.addc] at hy
          by_cases ex : x.block = w.heap.size ∧ x.spot = none
          · rw [if_pos ex] at hy
            obtain ⟨b, o', s⟩ := x
            simp only at ex
            obtain ⟨rfl, rfl⟩ := ex
            exact ⟨by rw [show w.heap.size = (w.at d).heap.size from rfl, World.cell?_alloc_new]; exact hy, alloc_froz _ _ _ _ rfl, .inr (Nat.le_refl _)⟩
          · rw [if_neg ex] at hy
            have hlt' : x.block ≠ (w.at d).heap.size := hlt x y hy
            exact ⟨by rw [World.cell?_alloc_old _ _ _ hlt']; exact hF.cell x y hy, by rw [World.frozen?_alloc_old _ _ _ hlt']; exact hF.froz x y hy, .inl (by rw [hy]; simp)⟩)
        (fun a v e => ⟨alloc_old (w := w.at d) _ (hF.ro a v e), .inl e⟩) (fun c cp e => .inl e) ?_ ?_
      · refine (deafBehind_still (fun ev hm => ?_) _).symm
        rcases hev ev hm with ⟨ad, rfl, _⟩ | ⟨ad, rfl, _⟩ | rfl <;> exact ⟨by simp, by simp⟩
      · intro ev hm
        rcases hev ev hm with ⟨ad, rfl, hx⟩ | ⟨ad, rfl, hx⟩ | rfl
        · obtain ⟨y, hy⟩ := Option.ne_none_iff_exists'.1 hx
          have hb1 := lt_of_cell (hF.cell ad y hy)
          have hbd : (w.at d).heap.size = w.heap.size := rfl
          refine ⟨by show _ < (World.alloc _ _).heap.size; simp; omega, .inl ?_⟩
          show l'.res.cells ad ≠ none
          rw [hl', addc_old (hlt ad y hy)]
          exact hx
        · exact hx.elim
        · trivial
    · rw [set_same, hl', hcc]
      exact h2 _ k (Whole.fresh hI hg)
  have zc : ∀ m, Builtin.zeroCells z.cells m = Array.replicate m z := fun m => by
    rw [hzc]
    unfold Builtin.zeroCells
    apply Array.ext
    · simp
    · intro i h1 h2
      simp [Nat.mod_one]
  by_cases hroom : ∃ g cap, v = .slice (some ⟨g, 0, none⟩) xs.length cap ∧ xs.length < cap
  · obtain ⟨g, cap, rfl, hn⟩ := hroom
    have hown : l.res.cells ⟨g, xs.length, none⟩ ≠ none := by
      rcases hrow with ⟨h, _⟩ | ⟨g', cap', h, _, _, hx2⟩
      · cases h
      · cases h; exact hx2 _ hn
    refine u_store he hact ho hw ⟨g, xs.length, none⟩ nv hown fun w hF K' hK' => ?_
    obtain ⟨u, hu⟩ := Option.ne_none_iff_exists'.1 hown
    obtain ⟨hr, hev⟩ := append_room (P := Try.prog) (w := w) (ty := o.type) ht hi hs g xs.length cap T c (hF.cell _ _ hT) hv1 (hF.cell _ _ hu) (hF.froz _ _ hu) hn
    refine uponK_append s x ty hop hsv hxv hr (hK' _ ⟨fun ev hm => ?_, h1 g cap rfl hn⟩)
    have hmem := mem_listed hm
    rw [events_append_op s x ty hop hsv hxv] at hmem
    rcases hev ev hmem with rfl | rfl
    · exact ⟨_, false, rfl, .inl (by rw [hT]; simp)⟩
    · exact ⟨_, true, rfl, .inl hown⟩
  refine u_step he (quit_act hact) ho hw fun γ w t hI hl hg pos K' hK' => ?_
  have hF := fa_of hI hg
  rw [hl] at hF
  have hTw := hF.cell _ _ hT
  have hb16 : (xs.length + 1) * i.bytes ≤ 140737488355328 := by
    have : (xs.length + 1) * i.bytes ≤ 1000001 * 16 := Nat.mul_le_mul (by omega) hb
    omega
  rcases hrow with ⟨rfl, rfl⟩ | ⟨g, cap, rfl, hcap, hx, hx2⟩
  · -- nothing yet
    have hr := run_append_nil (P := Try.prog) (w := w) ty o.type el i z ht hi hz ⟨T, 0, none⟩ 1 c [nv] (by simp [hs]) (fun j v hj => by
      cases j with
      | zero => simp at hj; subst hj; simpa [Addr.add] using hTw
      | succ j => simp at hj) (by omega) (by omega) (by simp at hb16; omega)
    have hge := grownCap_ge w 1 0 el
    refine uponK_append s x ty hop hsv hxv hr ?_
    have e1 : grownCap w 1 0 el = 0 + 1 + (grownCap w 1 0 el - 1) := by omega
    have key := grow γ w t hI hl hg pos (grownCap w 1 0 el - 1) (listed Try.prog fn a o w) (fun ev hm => by
      have hm := mem_listed hm
      rw [events_append_op s x ty hop hsv hxv] at hm
      rcases append_nil (P := Try.prog) (w := w) (ty := o.type) ht hi hz hs hb T c hTw ev hm with ⟨ad, h, h'⟩ | h | h
      · refine .inl ⟨ad, h, ?_⟩
        obtain rfl := h'
        rw [hT]; simp
      · obtain ⟨_, _, h⟩ := h; exact h.elim
      · exact .inr (.inr h)) K' hK'
    rw [zc]
    simp only [List.length_nil, List.nil_append] at key
    rw [← e1] at key
    exact key
  · have hn : ¬ xs.length < cap := fun hn => hroom ⟨g, cap, rfl, hn⟩
    have hnr : cap < xs.length + 1 := by omega
    have hr := run_append_grow (P := Try.prog) (w := w) ty o.type el i z ht hi hz ⟨g, 0, none⟩ xs.length cap xs (by simp [hs]) (fun j u hj => by rw [Addr.add_lit, Nat.zero_add]; exact hF.cell _ _ (hx j u hj)) ⟨T, 0, none⟩ 1 c [nv] (by simp [hs]) (fun j v hj => by
      cases j with
      | zero => simp at hj; subst hj; simpa [Addr.add] using hTw
      | succ j => simp at hj) (by omega) (by omega) (growslice_fits (by omega) hb16)
    have hge := grownCap_ge w (xs.length + 1) cap el
    refine uponK_append s x ty hop hsv hxv hr ?_
    have e1 : grownCap w (xs.length + 1) cap el = xs.length + 1 + (grownCap w (xs.length + 1) cap el - (xs.length + 1)) := by omega
    have key := grow γ w t hI hl hg pos (grownCap w (xs.length + 1) cap el - (xs.length + 1)) (listed Try.prog fn a o w) (fun ev hev => by
      have hmem := mem_listed hev
      rw [events_append_op s x ty hop hsv hxv] at hmem
      rcases append_grow (P := Try.prog) (w := w) (ty := o.type) ht hi hz hs hb g cap T c xs hTw (fun j u hj => hF.cell _ _ (hx j u hj)) hnr hm ev hmem with ⟨ad, h, h'⟩ | h | h
      · refine .inl ⟨ad, h, ?_⟩
        rcases h' with rfl | ⟨j, hj, rfl⟩
        · rw [hT]; simp
        · rw [hx j xs[j] (List.getElem?_eq_getElem hj)]; simp
      · obtain ⟨_, _, h⟩ := h; exact h.elim
      · exact .inr (.inr h)) K' hK'
    rw [zc]
    rw [← e1] at key
    simpa using key
end Go.Proofs.Ytofohjbcgchhoaa
namespace Go.Proofs.Ytofohjbcgchhoaa
open Go.ConcN (sumTo sumTo_congr)

section
variable (n : Nat) (par : Nat → Nat)

/-- x lies below d (or is d). -/
inductive Sub : Nat → Nat → Prop where
  | self {d : Nat} : Sub d d
  | step {d x : Nat} (h1 : 1 ≤ x) (hn : x < n) (h : Sub d (par x)) : Sub d x

/-- The children of a node, rising. -/
def kids (d : Nat) : List Nat := (List.range n).filter fun x => decide (1 ≤ x) && decide (par x = d)
theorem mem_kids {d c : Nat} : c ∈ kids n par d ↔ 1 ≤ c ∧ c < n ∧ par c = d := by
  simp only [kids, List.mem_filter, List.mem_range, Bool.and_eq_true, decide_eq_true_eq]
  constructor
  · rintro ⟨h1, h2, h3⟩; exact ⟨h2, h1, h3⟩
  · rintro ⟨h1, h2, h3⟩; exact ⟨h2, h1, h3⟩
theorem kids_nodup (d : Nat) : (kids n par d).Nodup := List.Nodup.sublist List.filter_sublist List.nodup_range

variable {n par} (H : ∀ x, 1 ≤ x → x < n → par x < x)
include H

theorem Sub.le {d x : Nat} (h : Sub n par d x) : d ≤ x := by
  induction h with
  | self => exact Nat.le_refl _
  | step h1 hn _ ih => have := H _ h1 hn; omega
omit H in
theorem Sub.lt {d x : Nat} (h : Sub n par d x) (hd : d < n) : x < n := by
  cases h with
  | self => exact hd
  | step h1 hn _ => exact hn
omit H in
theorem Sub.down {d x : Nat} (h : Sub n par d x) : x = d ∨ ∃ c, c ∈ kids n par d ∧ Sub n par c x := by
  induction h with
  | self => exact .inl rfl
  | step h1 hn _ ih =>
    rename_i x _
    rcases ih with e | ⟨c, hc, hs⟩
    · exact .inr ⟨x, (mem_kids n par).2 ⟨h1, hn, e⟩, .self⟩
    · exact .inr ⟨c, hc, .step h1 hn hs⟩
omit H in
theorem Sub.up {d c x : Nat} (hc : c ∈ kids n par d) (h : Sub n par c x) : Sub n par d x := by
  obtain ⟨h1, h2, h3⟩ := (mem_kids n par).1 hc
  induction h with
  | self => exact .step h1 h2 (by rw [h3]; exact .self)
  | step k1 kn _ ih => exact .step k1 kn ih
theorem Sub.apart {d c c' : Nat} (hc : c ∈ kids n par d) (hc' : c' ∈ kids n par d) (hne : c ≠ c') : ∀ x, Sub n par c x → ¬ Sub n par c' x := by
  obtain ⟨h1, h2, h3⟩ := (mem_kids n par).1 hc
  obtain ⟨k1, k2, k3⟩ := (mem_kids n par).1 hc'
  intro x hx
  induction hx with
  | self =>
    intro hx'
    cases hx' with
    | self => exact hne rfl
    | step _ _ h => have := Sub.le H h; have := H _ k1 k2; omega
  | step m1 mn hx ih =>
    intro hx'
    cases hx' with
    | self => have := Sub.le H hx; have := H _ h1 h2; omega
    | step _ _ h => exact ih h
theorem Sub.notUp {d c : Nat} (hc : c ∈ kids n par d) : ¬ Sub n par c d := fun h => by
  obtain ⟨h1, h2, h3⟩ := (mem_kids n par).1 hc
  have := Sub.le H h
  have := H _ h1 h2
  omega
theorem Sub.root {x : Nat} (hx : x < n) : Sub n par 0 x := by
  induction x using Nat.strongRecOn with
  | _ x ih =>
    by_cases h0 : x = 0
    · subst h0; exact .self
    · have := H x (by omega) hx
      exact .step (by omega) hx (ih _ this (by omega))
end

theorem tr_plus (m : Nat) (f g : Nat → Nat) : sumTo m (fun x => f x + g x) = sumTo m f + sumTo m g := by
  induction m with
  | zero => rfl
  | succ m ih => show sumTo m _ + (f m + g m) = (sumTo m f + f m) + (sumTo m g + g m); rw [ih]; omega
theorem tr_zero (m : Nat) : sumTo m (fun _ => 0) = 0 := by
  induction m with
  | zero => rfl
  | succ m ih => show sumTo m _ + 0 = 0; rw [ih]
theorem tr_one {m d : Nat} (h : d < m) : sumTo m (fun x => if x = d then 1 else 0) = 1 := by
  induction m with
  | zero => omega
  | succ m ih =>
    show sumTo m _ + (if m = d then 1 else 0) = 1
    by_cases e : m = d
    · subst e
      rw [if_pos rfl, sumTo_congr (g := fun _ => 0) (fun x hx => by rw [if_neg (by omega)]), tr_zero]
    · rw [if_neg e, ih (by omega)]
theorem tr_swap (m : Nat) (L : List Nat) (f : Nat → Nat → Nat) : sumTo m (fun x => (L.map fun c => f c x).sum) = (L.map fun c => sumTo m (f c)).sum := by
  induction L with
  | nil => exact tr_zero m
  | cons c L ih => simp only [List.map_cons, List.sum_cons]; rw [tr_plus, ih]
theorem tr_zeros (L : List Nat) : (L.map fun _ => 0).sum = 0 := by
  induction L with
  | nil => rfl
  | cons c L ih => simp only [List.map_cons, List.sum_cons, ih]
theorem tr_take (L : List Nat) (f : Nat → Nat) : ∀ k, k ≤ L.length → sumTo k (fun j => f (L.getD j 0)) = ((L.take k).map f).sum := by
  intro k
  induction k with
  | zero => exact fun _ => by simp [sumTo]
  | succ k ih =>
    intro hk
    show sumTo k _ + f (L.getD k 0) = _
    have hg : L[k]? = some L[k] := List.getElem?_eq_getElem (by omega)
    rw [ih (by omega), List.take_add_one, hg, List.map_append, List.sum_append, List.getD_eq_getElem?_getD, hg]
    show _ + f L[k] = _ + (f L[k] + 0)
    rw [Nat.add_zero]
theorem tr_list (L : List Nat) (f : Nat → Nat) : sumTo L.length (fun j => f (L.getD j 0)) = (L.map f).sum := by
  rw [tr_take L f _ (Nat.le_refl _), List.take_length]
theorem tr_ind (L : List Nat) (hL : L.Nodup) (p : Nat → Prop) [DecidablePred p] {c : Nat} (hc : c ∈ L) (hp : p c) (hu : ∀ c' ∈ L, c' ≠ c → ¬ p c') : (L.map fun c => if p c then 1 else 0).sum = 1 := by
  induction L with
  | nil => cases hc
  | cons a L ih =>
    obtain ⟨h1, h2⟩ := List.nodup_cons.1 hL
    simp only [List.map_cons, List.sum_cons]
    by_cases e : c = a
    · subst e
      rw [if_pos hp]
      have : (L.map fun c => if p c then 1 else 0).sum = 0 := by
        rw [List.map_congr_left (g := fun _ => 0) (fun x hx => if_neg (hu x (by simp [hx]) (fun e => h1 (e ▸ hx)))), tr_zeros]
      omega
    · have hc' : c ∈ L := by
        rcases List.mem_cons.1 hc with h | h
        · exact absurd h e
        · exact h
      rw [if_neg (hu a (by simp) (fun h => e h.symm)), ih h2 hc' (fun c' h => hu c' (by simp [h])), Nat.zero_add]

section
open Classical
variable (n : Nat) (par : Nat → Nat)
/-- How many lie below. -/
noncomputable def sz (d : Nat) : Nat := sumTo n fun x => if Sub n par d x then 1 else 0
variable {n par}
theorem sz_eq (H : ∀ x, 1 ≤ x → x < n → par x < x) {d : Nat} (hd : d < n) : sz n par d = 1 + ((kids n par d).map (sz n par)).sum := by
  have e1 : ((kids n par d).map (sz n par)).sum = sumTo n (fun x => ((kids n par d).map fun c => if Sub n par c x then 1 else 0).sum) := (tr_swap n (kids n par d) (fun c x => if Sub n par c x then 1 else 0)).symm
  have e2 := tr_plus n (fun x => if x = d then 1 else 0) (fun x => ((kids n par d).map fun c => if Sub n par c x then 1 else 0).sum)
  rw [tr_one hd] at e2
  rw [e1, ← e2]
  unfold sz
  refine sumTo_congr fun x hx => ?_
  by_cases e : x = d
  · subst e
    rw [if_pos .self, if_pos rfl, List.map_congr_left (g := fun _ => 0) (fun c hc => if_neg (Sub.notUp H hc)), tr_zeros]
  · rw [if_neg e]
    by_cases hs : Sub n par d x
    · rw [if_pos hs]
      obtain h | ⟨c, hc, hsc⟩ := hs.down
      · exact absurd h e
      · rw [tr_ind _ (kids_nodup n par d) (fun c => Sub n par c x) hc hsc (fun c' hc' hne h => Sub.apart H hc' hc hne x h hsc)]
    · rw [if_neg hs, List.map_congr_left (g := fun _ => 0) (fun c hc => if_neg (fun h => hs (Sub.up hc h))), tr_zeros]
theorem sz_root (H : ∀ x, 1 ≤ x → x < n → par x < x) : sz n par 0 = n := by
  unfold sz
  have : ∀ m, m ≤ n → sumTo m (fun x => if Sub n par 0 x then 1 else 0) = m := by
    intro m
    induction m with
    | zero => exact fun _ => rfl
    | succ m ih =>
      intro hm
      have h1 : (if Sub n par 0 m then 1 else 0) = 1 := if_pos (Sub.root H (by omega))
      show sumTo m _ + (if Sub n par 0 m then 1 else 0) = _
      rw [ih (by omega), h1]
  exact this n (Nat.le_refl _)
end

section
variable (n : Nat) (par : Nat → Nat) (own : Nat → Int)
/-- What a node comes to. -/
def valF : Nat → Nat → Int
  | 0, _ => 0
  | f + 1, d => (kids n par d).foldl (fun v c => (v * 31 + valF f c).tmod 1000003) ((own d).tmod 1000)
def val (d : Nat) : Int := valF n par own (n - d) d
variable {n par own}
theorem valF_eq (H : ∀ x, 1 ≤ x → x < n → par x < x) : ∀ f d, n - d ≤ f → d < n → valF n par own f d = val n par own d := by
  intro f
  induction f using Nat.strongRecOn with
  | _ f ih =>
    intro d hf hd
    unfold val
    obtain ⟨f', rfl⟩ : ∃ f', f = f' + 1 := ⟨f - 1, by omega⟩
    obtain ⟨g, hg⟩ : ∃ g, n - d = g + 1 := ⟨n - d - 1, by omega⟩
    rw [hg]
    unfold valF
    by_cases e : f' = g
    · rw [e]
    have key : ∀ (L : List Nat) (v : Int), (∀ c ∈ L, c ∈ kids n par d) → L.foldl (fun v c => (v * 31 + valF n par own f' c).tmod 1000003) v = L.foldl (fun v c => (v * 31 + valF n par own g c).tmod 1000003) v := by
      intro L
      induction L with
      | nil => exact fun _ _ => rfl
      | cons c L ihL =>
        intro v hL
        obtain ⟨c1, c2, c3⟩ := (mem_kids n par).1 (hL c (by simp))
        have := H c c1 c2
        simp only [List.foldl_cons]
        rw [ih f' (by omega) c (by omega) c2, ih g (by omega) c (by omega) c2]
        exact ihL _ fun x hx => hL x (by simp [hx])
    exact key _ _ fun _ h => h
theorem val_eq (H : ∀ x, 1 ≤ x → x < n → par x < x) {d : Nat} (hd : d < n) : val n par own d = (kids n par d).foldl (fun v c => (v * 31 + val n par own c).tmod 1000003) ((own d).tmod 1000) := by
  rw [← valF_eq H (n - d + 1) d (by omega) hd]
  show (kids n par d).foldl (fun v c => (v * 31 + valF n par own (n - d) c).tmod 1000003) _ = _
  have key : ∀ (L : List Nat) (v : Int), (∀ c ∈ L, c ∈ kids n par d) → L.foldl (fun v c => (v * 31 + valF n par own (n - d) c).tmod 1000003) v = L.foldl (fun v c => (v * 31 + val n par own c).tmod 1000003) v := by
    intro L
    induction L with
    | nil => exact fun _ _ => rfl
    | cons c L ihL =>
      intro v hL
      obtain ⟨c1, c2, c3⟩ := (mem_kids n par).1 (hL c (by simp))
      have := H c c1 c2
      simp only [List.foldl_cons]
      rw [valF_eq H (n - d) c (by omega) c2]
      exact ihL _ fun x hx => hL x (by simp [hx])
  exact key _ _ fun _ h => h
theorem val_small (H : ∀ x, 1 ≤ x → x < n → par x < x) {d : Nat} (hd : d < n) : -1000003 < val n par own d ∧ val n par own d < 1000003 := by
  rw [val_eq H hd]
  have key : ∀ (L : List Nat) (v : Int), -1000003 < v → v < 1000003 → -1000003 < L.foldl (fun v c => (v * 31 + val n par own c).tmod 1000003) v ∧ L.foldl (fun v c => (v * 31 + val n par own c).tmod 1000003) v < 1000003 := by
    intro L
    induction L with
    | nil => exact fun v h1 h2 => ⟨h1, h2⟩
    | cons c L ih =>
      intro v _ _
      simp only [List.foldl_cons]
      refine ih _ ?_ ?_
      · have := Int.lt_tmod_of_pos (v * 31 + val n par own c) (b := 1000003) (by decide); omega
      · exact Int.tmod_lt_of_pos _ (by decide)
  refine key _ _ ?_ ?_
  · have := Int.lt_tmod_of_pos (own d) (b := 1000) (by decide); omega
  · have := Int.tmod_lt_of_pos (own d) (b := 1000) (by decide); omega
end
end Go.Proofs.Ytofohjbcgchhoaa
namespace Go.Proofs.Ytofohjbcgchhoaa
open Go.Conc
open Go.RowKit
set_option maxRecDepth 100000
set_option linter.unusedSimpArgs false
set_option linter.unusedVariables false

/-- The tree as it may be read. -/
structure TreeRo (l : Lo) (n : Nat) (par : Nat → Nat) (own : Nat → Int) (Ch : Nat) (A : Addr) (rb : Nat → Option Addr) (rc : Nat → Nat) : Prop where
  outer : ∀ d, d < n → l.ro ⟨Ch, d, none⟩ (.slice (rb d) (kids n par d).length (rc d))
  row : ∀ d j, d < n → j < (kids n par d).length → ∃ R, rb d = some R ∧ l.ro (R.add j) (.int .i64 ((kids n par d).getD j 0 : Nat))
  own : ∀ d, d < n → l.ro (A.add d) (.int .i64 (own d))

def Fr18 (v0 : Value) (v1 : Value) (v2 : Value) (v7 : Value) (v8 : Value) (ds : List Deferred) (a : Act) : Prop := ∃ x3 x4 x5 x6 x9 x10 x11 x12 x13 x14 x15 x16 x17 x18 x19 x20 x21 x22 x23 x24 x25 x26 x27 x28 x29 x30 x31 x32 x33 x34 x35 x36 x37 : Value, a = ⟨#[v0, v1, v2, x3, x4, x5, x6, v7, v8, x9, x10, x11, x12, x13, x14, x15, x16, x17, x18, x19, x20, x21, x22, x23, x24, x25, x26, x27, x28, x29, x30, x31, x32, x33, x34, x35, x36, x37], ds⟩

def mu18 (m : Nat) (a : Act) : Nat := match (a.tmps[8]? : Option Value) with | some (.int _ x) => m - x.toNat | _ => 0

/-- So far. -/
def upto (n : Nat) (par : Nat → Nat) (own : Nat → Int) (d k : Nat) : Int := ((kids n par d).take k).foldl (fun v c => (v * 31 + val n par own c).tmod 1000003) ((own d).tmod 1000)

theorem upto_small {n : Nat} {par : Nat → Nat} {own : Nat → Int} (d k : Nat) : -1000003 < upto n par own d k ∧ upto n par own d k < 1000003 := by
  unfold upto
  have key : ∀ (L : List Nat) (v : Int), -1000003 < v → v < 1000003 → -1000003 < L.foldl (fun v c => (v * 31 + val n par own c).tmod 1000003) v ∧ L.foldl (fun v c => (v * 31 + val n par own c).tmod 1000003) v < 1000003 := by
    intro L
    induction L with
    | nil => exact fun v h1 h2 => ⟨h1, h2⟩
    | cons c L ih =>
      intro v _ _
      simp only [List.foldl_cons]
      refine ih _ ?_ ?_
      · have := Int.lt_tmod_of_pos (v * 31 + val n par own c) (b := 1000003) (by decide); omega
      · exact Int.tmod_lt_of_pos _ (by decide)
  refine key _ _ ?_ ?_
  · have := Int.lt_tmod_of_pos (own d) (b := 1000) (by decide); omega
  · have := Int.tmod_lt_of_pos (own d) (b := 1000) (by decide); omega
theorem upto_succ {n : Nat} {par : Nat → Nat} {own : Nat → Int} (d k : Nat) (h : k < (kids n par d).length) : upto n par own d (k + 1) = (upto n par own d k * 31 + val n par own ((kids n par d).getD k 0)).tmod 1000003 := by
  unfold upto
  have hg : (kids n par d)[k]? = some (kids n par d)[k] := List.getElem?_eq_getElem h
  rw [List.take_add_one, hg, List.foldl_append, List.getD_eq_getElem?_getD, hg]
  rfl

set_option maxHeartbeats 4000000 in
theorem value18 : ∀ f : Nat, ∃ N, ∀ (E : En) (l : Lo) (n : Nat) (par : Nat → Nat) (own : Nat → Int) (Ch cc co : Nat) (A : Addr) (rb : Nat → Option Addr) (rc : Nat → Nat) (d : Nat) (Post : Value → Lo → Prop), l.md = .act → n ≤ 256 → (∀ x, 1 ≤ x → x < n → par x < x) → TreeRo l n par own Ch A rb rc → d < n → n - d ≤ f →
    Post (.int .i64 (val n par own d)) l → E.N 18 #[.slice (some ⟨Ch, 0, none⟩) n cc, .slice (some A) n co, .int .i64 (d : Nat)] N l Post := by
  intro f
  induction f with
  | zero => exact ⟨0, fun E l n par own Ch cc co A rb rc d Post _ _ _ _ hd hf _ => by omega⟩
  | succ f ih =>
    obtain ⟨n18, h18⟩ := ih
    refine ⟨_, fun E l n par own Ch cc co A rb rc d Post hact hn H T hd hf h => n_of_b (b_of (e := n18 + 2) (L := 257) Try.func18 (by rfl) rfl ?_)⟩
    simp only [act0, Try.ntmps18, List.size_toArray, List.length_cons, List.length_nil, Nat.reduceAdd, Nat.reduceSub, Array.replicate_succ, Array.replicate_zero, List.push_toArray, List.append_toArray, List.nil_append, List.cons_append]
    repeat (first
      | (refine c_seq ?_)
      | (refine c_region ?_
         simp only [List.size_toArray, List.length_cons, List.length_nil, Nat.reduceAdd, Nat.zero_add, List.range, List.range.loop])
      | (refine o_nil ?_
         simp only [Thn, Inb, if_true, if_false, reduceIte, Nat.reduceEqDiff])
      | (refine c_skip ?_
         simp only [Thn, Inb, if_true, if_false, reduceIte, Nat.reduceEqDiff])
      | (refine c_cond true (by rfl) (fun _ => ?_) (fun e => by cases e))
      | (refine c_cond false (by rfl) (fun e => by cases e) (fun _ => ?_))
      | (refine c_block ?_)
      | (refine c_label ?_
         simp only [Thn, Inb, if_true, if_false, reduceIte, Nat.reduceEqDiff])
      | (refine c_scope ?_)
      | (refine o_cons (u_read (by omega) hact rfl (by rfl) fun w hF K' hK' => ?_)
         go_simp
         refine hK' _ ⟨?_, ?_⟩
         focus
           rw [listed_nil]
           · simp
           · (simp [go_sem]; done)
         clear hK' K' hF w
         try walk_nrm)
      | (refine o_cons (u_unwanted (by omega) rfl (by rfl) ?_)
         try walk_nrm))
    refine o_cons (u_index (A := A) (n := n) (c := co) (k := .i64) (m := d) (by omega) rfl (by rfl) rfl Try.underlying22 (by rfl) rfl rfl hd ?_)
    try walk_nrm
    refine o_cons (u_load (.int .i64 (own d)) (by omega) hact rfl (by rfl) rfl Try.underlying3 rfl rfl (.inr (T.own d hd)) ?_)
    try walk_nrm
    repeat (first
      | (refine c_seq ?_)
      | (refine c_region ?_
         simp only [List.size_toArray, List.length_cons, List.length_nil, Nat.reduceAdd, Nat.zero_add, List.range, List.range.loop])
      | (refine o_nil ?_
         simp only [Thn, Inb, if_true, if_false, reduceIte, Nat.reduceEqDiff])
      | (refine c_skip ?_
         simp only [Thn, Inb, if_true, if_false, reduceIte, Nat.reduceEqDiff])
      | (refine c_cond true (by rfl) (fun _ => ?_) (fun e => by cases e))
      | (refine c_cond false (by rfl) (fun e => by cases e) (fun _ => ?_))
      | (refine c_block ?_)
      | (refine c_label ?_
         simp only [Thn, Inb, if_true, if_false, reduceIte, Nat.reduceEqDiff])
      | (refine c_scope ?_)
      | (refine o_cons (u_read (by omega) hact rfl (by rfl) fun w hF K' hK' => ?_)
         go_simp
         refine hK' _ ⟨?_, ?_⟩
         focus
           rw [listed_nil]
           · simp
           · (simp [go_sem]; done)
         clear hK' K' hF w
         try walk_nrm)
      | (refine o_cons (u_unwanted (by omega) rfl (by rfl) ?_)
         try walk_nrm))
    obtain ⟨m, hm⟩ : ∃ m, m = (kids n par d).length := ⟨_, rfl⟩
    have hm256 : m ≤ 256 := by
      rw [hm]
      exact Nat.le_trans (Nat.le_trans (List.length_filter_le _ _) (Nat.le_of_eq List.length_range)) hn
    have hmH : Hid (m = (kids n par d).length) := hm
    clear hm
    refine c_loop (fun a' l' => l' = l ∧ ∃ k, k ≤ m ∧ Fr18 (.slice (some ⟨Ch, 0, none⟩) n cc) (.slice (some A) n co) (.int .i64 (d : Nat)) (.int .i64 (upto n par own d k)) (.int .i64 (k : Nat)) [] a') (fun a' _ => mu18 m a') ⟨rfl, 0, Nat.zero_le _, ?_⟩ ?_ ?_
    focus
      exact ⟨_, _, _, _, _, _, _, _, _, _, _, _, _, _, _, _, _, _, _, _, _, _, _, _, _, _, _, _, _, _, _, _, _, rfl⟩
    focus
      show m - 0 ≤ _
      omega
    intro a' l' hI
    obtain ⟨rfl, k, hkm, hfr⟩ := hI
    obtain ⟨x3, x4, x5, x6, x9, x10, x11, x12, x13, x14, x15, x16, x17, x18, x19, x20, x21, x22, x23, x24, x25, x26, x27, x28, x29, x30, x31, x32, x33, x34, x35, x36, x37, rfl⟩ := hfr
    rw [show mu18 m _ = m - k from rfl]
    have hw2 : IntKind.i64.wrap ((k : Int) + 1) = (k : Int) + 1 := by rw [IntKind.wrap_i64]; omega
    repeat (first
      | (refine c_seq ?_)
      | (refine c_region ?_
         simp only [List.size_toArray, List.length_cons, List.length_nil, Nat.reduceAdd, Nat.zero_add, List.range, List.range.loop])
      | (refine o_nil ?_
         simp only [Thn, Inb, if_true, if_false, reduceIte, Nat.reduceEqDiff])
      | (refine c_skip ?_
         simp only [Thn, Inb, if_true, if_false, reduceIte, Nat.reduceEqDiff])
      | (refine c_cond true (by rfl) (fun _ => ?_) (fun e => by cases e))
      | (refine c_cond false (by rfl) (fun e => by cases e) (fun _ => ?_))
      | (refine c_block ?_)
      | (refine c_label ?_
         simp only [Thn, Inb, if_true, if_false, reduceIte, Nat.reduceEqDiff])
      | (refine c_scope ?_)
      | (refine o_cons (u_read (by omega) hact rfl (by rfl) fun w hF K' hK' => ?_)
         go_simp
         refine hK' _ ⟨?_, ?_⟩
         focus
           rw [listed_nil]
           · simp
           · (simp [go_sem]; done)
         clear hK' K' hF w
         try walk_nrm)
      | (refine o_cons (u_unwanted (by omega) rfl (by rfl) ?_)
         try walk_nrm))
    refine o_cons (u_index (A := ⟨Ch, 0, none⟩) (n := n) (c := cc) (k := .i64) (m := d) (by omega) rfl (by rfl) rfl Try.underlying26 (by rfl) rfl rfl hd ?_)
    try walk_nrm
    rw [Addr.add_lit, Nat.zero_add]
    refine o_cons (u_load (.slice (rb d) (kids n par d).length (rc d)) (by omega) hact rfl (by rfl) rfl Try.underlying22 rfl rfl (.inr (T.outer d hd)) ?_)
    rw [← hmH.out]
    try walk_nrm
    by_cases hlt : k < m
    · have hde : decide ((k : Int) < (m : Int)) = true := by simp; omega
      have hlk : k < (kids n par d).length := by rw [← hmH.out]; exact hlt
      obtain ⟨R, hR, hrow⟩ := T.row d k hd hlk
      obtain ⟨kc, hkc⟩ : ∃ kc, kc = (kids n par d).getD k 0 := ⟨_, rfl⟩
      rw [← hkc] at hrow
      have hmem : kc ∈ kids n par d := by
        rw [hkc, List.getD_eq_getElem?_getD, List.getElem?_eq_getElem hlk]
        exact List.getElem_mem hlk
      obtain ⟨c1, c2, c3⟩ := (mem_kids n par).1 hmem
      have hdc : d < kc := by have := H kc c1 c2; omega
      have hsucc := upto_succ (own := own) d k hlk
      rw [← hkc] at hsucc
      have hus := upto_small (n := n) (par := par) (own := own) d k
      have hvs := val_small (own := own) H c2
      obtain ⟨u, hu⟩ : ∃ u, u = upto n par own d k := ⟨_, rfl⟩
      obtain ⟨vc, hvc⟩ : ∃ vc, vc = val n par own kc := ⟨_, rfl⟩
      rw [← hu] at hus hsucc
      rw [← hvc] at hvs hsucc
      rw [← hu]
      have hvcH : Hid (vc = val n par own kc) := hvc
      have hsuccH : Hid (upto n par own d (k + 1) = (u * 31 + vc).tmod 1000003) := hsucc
      clear hu hvc hkc hsucc
      have hw3 : IntKind.i64.wrap (u * 31) = u * 31 := by rw [IntKind.wrap_i64]; omega
      have hw4 : IntKind.i64.wrap (u * 31 + vc) = u * 31 + vc := by rw [IntKind.wrap_i64]; omega
      repeat (first
        | (refine c_seq ?_)
        | (refine c_region ?_
           simp only [List.size_toArray, List.length_cons, List.length_nil, Nat.reduceAdd, Nat.zero_add, List.range, List.range.loop])
        | (refine o_nil ?_
           simp only [Thn, Inb, if_true, if_false, reduceIte, Nat.reduceEqDiff])
        | (refine c_skip ?_
           simp only [Thn, Inb, if_true, if_false, reduceIte, Nat.reduceEqDiff])
        | (refine c_cond true (by rfl) (fun _ => ?_) (fun e => by cases e))
        | (refine c_cond false (by rfl) (fun e => by cases e) (fun _ => ?_))
        | (refine c_block ?_)
        | (refine c_label ?_
           simp only [Thn, Inb, if_true, if_false, reduceIte, Nat.reduceEqDiff])
        | (refine c_scope ?_)
        | (refine o_cons (u_read (by omega) hact rfl (by rfl) fun w hF K' hK' => ?_)
           go_simp
           refine hK' _ ⟨?_, ?_⟩
           focus
             rw [listed_nil]
             · simp
             · (simp [go_sem]; done)
           clear hK' K' hF w
           try walk_nrm)
        | (refine o_cons (u_unwanted (by omega) rfl (by rfl) ?_)
           try walk_nrm))
      refine o_cons (u_index (A := ⟨Ch, 0, none⟩) (n := n) (c := cc) (k := .i64) (m := d) (by omega) rfl (by rfl) rfl Try.underlying26 (by rfl) rfl rfl hd ?_)
      try walk_nrm
      rw [Addr.add_lit, Nat.zero_add]
      refine o_cons (u_load (.slice (rb d) (kids n par d).length (rc d)) (by omega) hact rfl (by rfl) rfl Try.underlying22 rfl rfl (.inr (T.outer d hd)) ?_)
      rw [← hmH.out, hR]
      try walk_nrm
      repeat (first
        | (refine c_seq ?_)
        | (refine c_region ?_
           simp only [List.size_toArray, List.length_cons, List.length_nil, Nat.reduceAdd, Nat.zero_add, List.range, List.range.loop])
        | (refine o_nil ?_
           simp only [Thn, Inb, if_true, if_false, reduceIte, Nat.reduceEqDiff])
        | (refine c_skip ?_
           simp only [Thn, Inb, if_true, if_false, reduceIte, Nat.reduceEqDiff])
        | (refine c_cond true (by rfl) (fun _ => ?_) (fun e => by cases e))
        | (refine c_cond false (by rfl) (fun e => by cases e) (fun _ => ?_))
        | (refine c_block ?_)
        | (refine c_label ?_
           simp only [Thn, Inb, if_true, if_false, reduceIte, Nat.reduceEqDiff])
        | (refine c_scope ?_)
        | (refine o_cons (u_read (by omega) hact rfl (by rfl) fun w hF K' hK' => ?_)
           go_simp
           refine hK' _ ⟨?_, ?_⟩
           focus
             rw [listed_nil]
             · simp
             · (simp [go_sem]; done)
           clear hK' K' hF w
           try walk_nrm)
        | (refine o_cons (u_unwanted (by omega) rfl (by rfl) ?_)
           try walk_nrm))
      refine o_cons (u_index (A := R) (n := m) (c := rc d) (k := .i64) (m := k) (by omega) rfl (by rfl) rfl Try.underlying22 (by rfl) rfl rfl hlt ?_)
      try walk_nrm
      refine o_cons (u_load (.int .i64 (kc : Nat)) (by omega) hact rfl (by rfl) rfl Try.underlying3 rfl rfl (.inr hrow) ?_)
      try walk_nrm
      repeat (first
        | (refine c_seq ?_)
        | (refine c_region ?_
           simp only [List.size_toArray, List.length_cons, List.length_nil, Nat.reduceAdd, Nat.zero_add, List.range, List.range.loop])
        | (refine o_nil ?_
           simp only [Thn, Inb, if_true, if_false, reduceIte, Nat.reduceEqDiff])
        | (refine c_skip ?_
           simp only [Thn, Inb, if_true, if_false, reduceIte, Nat.reduceEqDiff])
        | (refine c_cond true (by rfl) (fun _ => ?_) (fun e => by cases e))
        | (refine c_cond false (by rfl) (fun e => by cases e) (fun _ => ?_))
        | (refine c_block ?_)
        | (refine c_label ?_
           simp only [Thn, Inb, if_true, if_false, reduceIte, Nat.reduceEqDiff])
        | (refine c_scope ?_)
        | (refine o_cons (u_read (by omega) hact rfl (by rfl) fun w hF K' hK' => ?_)
           go_simp
           refine hK' _ ⟨?_, ?_⟩
           focus
             rw [listed_nil]
             · simp
             · (simp [go_sem]; done)
           clear hK' K' hF w
           try walk_nrm)
        | (refine o_cons (u_unwanted (by omega) rfl (by rfl) ?_)
           try walk_nrm))
      refine o_cons (u_callx (n := n18) #[.slice (some ⟨Ch, 0, none⟩) n cc, .slice (some A) n co, .int .i64 (kc : Nat)] (by omega) rfl (by rfl) rfl (by walk_nrm) ?_)
      refine h18 E l' n par own Ch cc co A rb rc kc _ hact hn H T c2 (by omega) ?_
      rw [← hvcH.out]
      try walk_nrm
      repeat (first
        | (refine c_seq ?_)
        | (refine c_region ?_
           simp only [List.size_toArray, List.length_cons, List.length_nil, Nat.reduceAdd, Nat.zero_add, List.range, List.range.loop])
        | (refine o_nil ?_
           simp only [Thn, Inb, if_true, if_false, reduceIte, Nat.reduceEqDiff])
        | (refine c_skip ?_
           simp only [Thn, Inb, if_true, if_false, reduceIte, Nat.reduceEqDiff])
        | (refine c_cond true (by rfl) (fun _ => ?_) (fun e => by cases e))
        | (refine c_cond false (by rfl) (fun e => by cases e) (fun _ => ?_))
        | (refine c_block ?_)
        | (refine c_label ?_
           simp only [Thn, Inb, if_true, if_false, reduceIte, Nat.reduceEqDiff])
        | (refine c_scope ?_)
        | (refine o_cons (u_read (by omega) hact rfl (by rfl) fun w hF K' hK' => ?_)
           go_simp
           refine hK' _ ⟨?_, ?_⟩
           focus
             rw [listed_nil]
             · simp
             · (simp [go_sem]; done)
           clear hK' K' hF w
           try walk_nrm)
        | (refine o_cons (u_unwanted (by omega) rfl (by rfl) ?_)
           try walk_nrm))
      rw [← hsuccH.out]
      refine ⟨⟨(by first | rfl | trivial), k + 1, by omega, ?_⟩, ?_⟩
      · exact ⟨_, _, _, _, _, _, _, _, _, _, _, _, _, _, _, _, _, _, _, _, _, _, _, _, _, _, _, _, _, _, _, _, _, rfl⟩
      · show m - (k + 1) < m - k
        omega
    have hde : decide ((k : Int) < (m : Int)) = false := by simp; omega
    obtain rfl : k = m := by omega
    repeat (first
      | (refine c_seq ?_)
      | (refine c_region ?_
         simp only [List.size_toArray, List.length_cons, List.length_nil, Nat.reduceAdd, Nat.zero_add, List.range, List.range.loop])
      | (refine o_nil ?_
         simp only [Thn, Inb, if_true, if_false, reduceIte, Nat.reduceEqDiff])
      | (refine c_skip ?_
         simp only [Thn, Inb, if_true, if_false, reduceIte, Nat.reduceEqDiff])
      | (refine c_cond true (by rfl) (fun _ => ?_) (fun e => by cases e))
      | (refine c_cond false (by rfl) (fun e => by cases e) (fun _ => ?_))
      | (refine c_block ?_)
      | (refine c_label ?_
         simp only [Thn, Inb, if_true, if_false, reduceIte, Nat.reduceEqDiff])
      | (refine c_scope ?_)
      | (refine o_cons (u_read (by omega) hact rfl (by rfl) fun w hF K' hK' => ?_)
         go_simp
         refine hK' _ ⟨?_, ?_⟩
         focus
           rw [listed_nil]
           · simp
           · (simp [go_sem]; done)
         clear hK' K' hF w
         try walk_nrm)
      | (refine o_cons (u_unwanted (by omega) rfl (by rfl) ?_)
         try walk_nrm))
    refine c_exit ?_
    simp only [Thn, Inb, if_true, reduceIte]
    repeat (first
      | (refine c_seq ?_)
      | (refine c_region ?_
         simp only [List.size_toArray, List.length_cons, List.length_nil, Nat.reduceAdd, Nat.zero_add, List.range, List.range.loop])
      | (refine o_nil ?_
         simp only [Thn, Inb, if_true, if_false, reduceIte, Nat.reduceEqDiff])
      | (refine c_skip ?_
         simp only [Thn, Inb, if_true, if_false, reduceIte, Nat.reduceEqDiff])
      | (refine c_cond true (by rfl) (fun _ => ?_) (fun e => by cases e))
      | (refine c_cond false (by rfl) (fun e => by cases e) (fun _ => ?_))
      | (refine c_block ?_)
      | (refine c_label ?_
         simp only [Thn, Inb, if_true, if_false, reduceIte, Nat.reduceEqDiff])
      | (refine c_scope ?_)
      | (refine o_cons (u_read (by omega) hact rfl (by rfl) fun w hF K' hK' => ?_)
         go_simp
         refine hK' _ ⟨?_, ?_⟩
         focus
           rw [listed_nil]
           · simp
           · (simp [go_sem]; done)
         clear hK' K' hF w
         try walk_nrm)
      | (refine o_cons (u_unwanted (by omega) rfl (by rfl) ?_)
         try walk_nrm))
    refine c_ret ?_
    refine ⟨rfl, _, resultsC_tmp (by rfl) _, ?_⟩
    rw [hmH.out]
    have hv : upto n par own d (kids n par d).length = val n par own d := by
      unfold upto
      rw [List.take_length, val_eq H hd]
    rw [hv]
    exact h
end Go.Proofs.Ytofohjbcgchhoaa
namespace Go.Proofs.Ytofohjbcgchhoaa
open Go.Conc
open Go.RowKit
set_option maxRecDepth 100000
set_option linter.unusedSimpArgs false
set_option linter.unusedVariables false

/-- The rows as far as node i. -/
structure KidRows (l0 l : Lo) (n : Nat) (par : Nat → Nat) (i Ch : Nat) (rb : Nat → Option Nat) (rc : Nat → Nat) : Prop where
  grow : Grow l0 l
  outer : ∀ d, d < n → l.res.cells ⟨Ch, d, none⟩ = some (.slice ((rb d).map fun r => ⟨r, 0, none⟩) (kids i par d).length (rc d))
  new : ∀ k, l0.res.cells ⟨Ch, k, none⟩ = none
  isn : ∀ d, d < n → rb d = none → kids i par d = [] ∧ rc d = 0
  iss : ∀ d r, d < n → rb d = some r → 1 ≤ rc d ∧ (kids i par d).length ≤ rc d ∧ r ≠ Ch ∧ (∀ k, l0.res.cells ⟨r, k, none⟩ = Option.none) ∧ (∀ j, j < (kids i par d).length → l.res.cells ⟨r, j, none⟩ = Option.some (.int .i64 ((kids i par d).getD j 0 : Nat))) ∧ ∀ j, j < rc d → l.res.cells ⟨r, j, none⟩ ≠ Option.none
  apart : ∀ d d' r, d < n → d' < n → d ≠ d' → rb d = some r → rb d' ≠ some r

theorem kids_succ (i : Nat) (par : Nat → Nat) (h : 1 ≤ i) (d : Nat) : kids (i + 1) par d = if par i = d then kids i par d ++ [i] else kids i par d := by
  unfold kids
  rw [List.range_succ, List.filter_append]
  by_cases e : par i = d
  · simp [e, h]
  · simp [e]
theorem kids_one (par : Nat → Nat) (d : Nat) : kids 1 par d = [] := by simp [kids, List.range_succ]


theorem KidRows.blk {l0 l : Lo} {n : Nat} {par : Nat → Nat} {i Ch : Nat} {rb : Nat → Option Nat} {rc : Nat → Nat} (K : KidRows l0 l n par i Ch rb rc) (hn : 1 ≤ n) {T : Nat} (hT : Fresh l T) : T ≠ Ch ∧ ∀ d r, d < n → rb d = some r → T ≠ r := by
  refine ⟨fun e => ?_, fun d r hd h e => ?_⟩
  · have h1 := K.outer 0 (by omega)
    have := hT.cell ⟨Ch, 0, none⟩ e.symm
    rw [h1] at this; cases this
  · obtain ⟨h1, _, _, _, _, h2⟩ := K.iss d r hd h
    exact h2 0 (by omega) (hT.cell ⟨r, 0, none⟩ e.symm)

theorem KidRows.next {l0 l l' : Lo} {n : Nat} {par : Nat → Nat} {i Ch : Nat} {rb : Nat → Option Nat} {rc : Nat → Nat} (K : KidRows l0 l n par i Ch rb rc) (hi : 1 ≤ i) (hd : par i < n) (g cap : Nat) (G : Grow l0 l') (hcap : (kids i par (par i)).length < cap) (hgC : g ≠ Ch) (hg0 : ∀ k, l0.res.cells ⟨g, k, none⟩ = none) (hap : ∀ d, d < n → d ≠ par i → rb d ≠ some g)
    (hCh : ∀ d, d < n → l'.res.cells ⟨Ch, d, none⟩ = if d = par i then some (.slice (some ⟨g, 0, none⟩) ((kids i par (par i)).length + 1) cap) else l.res.cells ⟨Ch, d, none⟩)
    (hold : ∀ d r, d < n → d ≠ par i → rb d = some r → ∀ k, l'.res.cells ⟨r, k, none⟩ = l.res.cells ⟨r, k, none⟩)
    (hrow : ∀ j, j < (kids i par (par i)).length → l'.res.cells ⟨g, j, none⟩ = some (.int .i64 ((kids i par (par i)).getD j 0 : Nat))) (hlast : l'.res.cells ⟨g, (kids i par (par i)).length, none⟩ = some (.int .i64 (i : Nat))) (hall : ∀ j, j < cap → l'.res.cells ⟨g, j, none⟩ ≠ none) :
    KidRows l0 l' n par (i + 1) Ch (fun d => if d = par i then some g else rb d) (fun d => if d = par i then cap else rc d) := by
  have hk : ∀ d, d ≠ par i → kids (i + 1) par d = kids i par d := fun d h => by rw [kids_succ i par hi, if_neg (fun e => h e.symm)]
  have hk1 : kids (i + 1) par (par i) = kids i par (par i) ++ [i] := by rw [kids_succ i par hi, if_pos rfl]
  refine ⟨G, fun d hdn => ?_, K.new, fun d hdn h => ?_, fun d r hdn h => ?_, fun d d' r hdn hdn' hne h h' => ?_⟩
  · rw [hCh d hdn]
    by_cases e : d = par i
    · subst e
      rw [if_pos rfl, if_pos rfl, if_pos rfl, hk1]
      simp
    · rw [if_neg e, if_neg e, if_neg e, hk d e]
      exact K.outer d hdn
  · by_cases e : d = par i
    · rw [if_pos e] at h; cases h
    · rw [if_neg e] at h
      rw [if_neg e, hk d e]
      exact K.isn d hdn h
  · by_cases e : d = par i
    · rw [if_pos e] at h
      cases h
      rw [if_pos e, e, hk1]
      refine ⟨by omega, by simp; omega, hgC, hg0, fun j hj => ?_, hall⟩
      rw [List.length_append, List.length_singleton] at hj
      by_cases ej : j < (kids i par (par i)).length
      · rw [hrow j ej]
        congr 3
        simp [List.getD_eq_getElem?_getD, List.getElem?_append_left ej]
      · obtain rfl : j = (kids i par (par i)).length := by omega
        rw [hlast]
        simp [List.getD_eq_getElem?_getD]
    · rw [if_neg e] at h
      rw [if_neg e, hk d e]
      obtain ⟨h1, h2, h3, h4, h5, h6⟩ := K.iss d r hdn h
      exact ⟨h1, h2, h3, h4, fun j hj => by rw [hold d r hdn e h]; exact h5 j hj, fun j hj => by rw [hold d r hdn e h]; exact h6 j hj⟩
  · by_cases e : d = par i
    · rw [if_pos e] at h
      cases h
      have e' : d' ≠ par i := fun x => hne (e.trans x.symm)
      rw [if_neg e'] at h'
      exact hap d' hdn' e' h'
    · rw [if_neg e] at h
      by_cases e' : d' = par i
      · rw [if_pos e'] at h'
        cases h'
        exact hap d hdn e h
      · rw [if_neg e'] at h'
        exact K.apart d d' r hdn hdn' hne h h'

theorem KidRows.more {l0 l l' : Lo} {n : Nat} {par : Nat → Nat} {i Ch : Nat} {rb : Nat → Option Nat} {rc : Nat → Nat} (K : KidRows l0 l n par i Ch rb rc) (g : Grow l l') : KidRows l0 l' n par i Ch rb rc where
  grow := ⟨g.md.trans K.grow.md, g.df.trans K.grow.df, g.pl.trans K.grow.pl, g.gl.trans K.grow.gl, g.pk.trans K.grow.pk, g.cl.trans K.grow.cl, g.wg.trans K.grow.wg, g.wk.trans K.grow.wk, g.ws.trans K.grow.ws, g.gk.trans K.grow.gk, g.ob.trans K.grow.ob, g.sk.trans K.grow.sk, g.tk.trans K.grow.tk, fun a v h => g.ro a v (K.grow.ro a v h), fun a h => by rw [g.cell a (by rw [K.grow.cell a h]; exact h), K.grow.cell a h]⟩
  outer d hd := by rw [g.cell _ (by rw [K.outer d hd]; simp)]; exact K.outer d hd
  new := K.new
  isn := K.isn
  iss d r hd h := by
    obtain ⟨h1, h2, h3, h4, h5, h6⟩ := K.iss d r hd h
    exact ⟨h1, h2, h3, h4, fun j hj => by rw [g.cell _ (by rw [h5 j hj]; simp)]; exact h5 j hj, fun j hj => by rw [g.cell _ (h6 j hj)]; exact h6 j hj⟩
  apart := K.apart

theorem KidRows.room {l0 l : Lo} {n : Nat} {par : Nat → Nat} {i Ch g : Nat} {rb : Nat → Option Nat} {rc : Nat → Nat} (K : KidRows l0 l n par i Ch rb rc) (hi : 1 ≤ i) (hd : par i < n) (hg : rb (par i) = some g) (hlt : (kids i par (par i)).length < rc (par i)) :
    KidRows l0 ((l.setc ⟨g, (kids i par (par i)).length, none⟩ (.int .i64 (i : Nat))).setc ⟨Ch, par i, none⟩ (.slice (some ⟨g, 0, none⟩) ((kids i par (par i)).length + 1) (rc (par i)))) n par (i + 1) Ch (fun d => if d = par i then some g else rb d) (fun d => if d = par i then rc (par i) else rc d) := by
  obtain ⟨k1, k2, k3, k4, k5, k6⟩ := K.iss _ g hd hg
  refine K.next hi hd g _ ((K.grow.setc (k4 _) _).setc (K.new _) _) hlt k3 k4 (fun d hdn hne h => K.apart _ d g hd hdn (fun e => hne e.symm) hg h) (fun d hdn => ?_) (fun d r hdn hne hr k => ?_) (fun j hj => ?_) ?_ (fun j hj => ?_)
  · show (if (⟨Ch, d, none⟩ : Addr) = ⟨Ch, par i, none⟩ then _ else if (⟨Ch, d, none⟩ : Addr) = ⟨g, _, none⟩ then _ else _) = _
    by_cases e : d = par i
    · rw [if_pos (by rw [e]), if_pos e]
    · rw [if_neg (by simp [e]), if_neg e, if_neg (by simp [Ne.symm k3])]
  · obtain ⟨_, _, m3, _⟩ := K.iss _ r hdn hr
    have hrg : r ≠ g := fun e => K.apart _ _ r hdn hd hne hr (by rw [hg, e])
    show (if (⟨r, k, none⟩ : Addr) = ⟨Ch, par i, none⟩ then _ else if (⟨r, k, none⟩ : Addr) = ⟨g, _, none⟩ then _ else _) = _
    rw [if_neg (by simp [m3]), if_neg (by simp [hrg])]
  · show (if (⟨g, j, none⟩ : Addr) = ⟨Ch, par i, none⟩ then _ else if (⟨g, j, none⟩ : Addr) = ⟨g, _, none⟩ then _ else _) = _
    rw [if_neg (by simp [k3]), if_neg (by simp [Nat.ne_of_lt hj])]
    exact k5 j hj
  · show (if (⟨g, _, none⟩ : Addr) = ⟨Ch, par i, none⟩ then _ else if (⟨g, _, none⟩ : Addr) = ⟨g, _, none⟩ then _ else _) = _
    rw [if_neg (by simp [k3]), if_pos rfl]
  · show (if (⟨g, j, none⟩ : Addr) = ⟨Ch, par i, none⟩ then _ else if (⟨g, j, none⟩ : Addr) = ⟨g, _, none⟩ then _ else _) ≠ _
    rw [if_neg (by simp [k3])]
    split
    · simp
    · exact k6 j hj
theorem KidRows.fresh {l0 l : Lo} {n : Nat} {par : Nat → Nat} {i Ch r cap : Nat} {rb : Nat → Option Nat} {rc : Nat → Nat} {cc : Array Value} (K : KidRows l0 l n par i Ch rb rc) (hi : 1 ≤ i) (hn : 1 ≤ n) (hd : par i < n) (hr : Fresh l r) (hsz : cc.size = cap ∧ (kids i par (par i)).length < cap)
    (hold : ∀ j, j < (kids i par (par i)).length → cc[j]? = some (.int .i64 ((kids i par (par i)).getD j 0 : Nat))) (hlast : cc[(kids i par (par i)).length]? = some (.int .i64 (i : Nat))) :
    KidRows l0 ((l.addc r cc).setc ⟨Ch, par i, none⟩ (.slice (some ⟨r, 0, none⟩) ((kids i par (par i)).length + 1) cap)) n par (i + 1) Ch (fun d => if d = par i then some r else rb d) (fun d => if d = par i then cap else rc d) := by
  obtain ⟨b1, b2⟩ := K.blk hn hr
  have h0 : ∀ k, l0.res.cells ⟨r, k, none⟩ = none := fun k => by
    cases e : l0.res.cells ⟨r, k, none⟩ with
    | none => rfl
    | some v => have h1 := K.grow.cell ⟨r, k, none⟩ (by rw [e]; simp); rw [hr.cell _ rfl, e] at h1; cases h1
  refine K.next hi hd r _ ((K.grow.addc hr _).setc (K.new _) _) hsz.2 b1 h0 (fun d hdn _ h => b2 d r hdn h rfl) (fun d hdn => ?_) (fun d r' hdn hne hr' k => ?_) (fun j hj => ?_) ?_ (fun j hj => ?_)
  · show (if (⟨Ch, d, none⟩ : Addr) = ⟨Ch, par i, none⟩ then _ else _) = _
    by_cases e : d = par i
    · rw [if_pos (by rw [e]), if_pos e]
    · rw [if_neg (by simp [e]), if_neg e, addc_old (fun e => b1 e.symm)]
  · obtain ⟨_, _, m3, _⟩ := K.iss _ r' hdn hr'
    show (if (⟨r', k, none⟩ : Addr) = ⟨Ch, par i, none⟩ then _ else _) = _
    rw [if_neg (by simp [m3]), addc_old (fun e => b2 d r' hdn hr' e.symm)]
  · show (if (⟨r, j, none⟩ : Addr) = ⟨Ch, par i, none⟩ then _ else _) = _
    rw [if_neg (by simp [b1]), addc_new]
    exact hold j hj
  · show (if (⟨r, _, none⟩ : Addr) = ⟨Ch, par i, none⟩ then _ else _) = _
    rw [if_neg (by simp [b1]), addc_new]
    exact hlast
  · show (if (⟨r, j, none⟩ : Addr) = ⟨Ch, par i, none⟩ then _ else _) ≠ _
    rw [if_neg (by simp [b1]), addc_new, Array.getElem?_eq_getElem (by omega)]
    simp

def Fr7 (v0 : Value) (v4 : Value) (v5 : Value) (ds : List Deferred) (a : Act) : Prop := ∃ x1 x2 x3 x6 x7 x8 x9 x10 x11 x12 x13 x14 x15 x16 x17 x18 x19 x20 x21 x22 x23 x24 x25 x26 x27 x28 x29 x30 x31 x32 x33 x34 x35 x36 x37 : Value, a = ⟨#[v0, x1, x2, x3, v4, v5, x6, x7, x8, x9, x10, x11, x12, x13, x14, x15, x16, x17, x18, x19, x20, x21, x22, x23, x24, x25, x26, x27, x28, x29, x30, x31, x32, x33, x34, x35, x36, x37], ds⟩

def mu7 (m : Nat) (a : Act) : Nat := match (a.tmps[5]? : Option Value) with | some (.int _ x) => m - x.toNat | _ => 0

set_option maxHeartbeats 4000000 in
theorem children7 : ∃ N, ∀ (E : En) (l : Lo) (n cp : Nat) (A : Addr) (ps : Nat → Int) (par : Nat → Nat) (Post : Value → Lo → Prop), l.md = .act → 1 ≤ n → n ≤ 256 → (∀ d, d < n → l.ro (A.add d) (.int .i64 (ps d))) → (∀ i, 1 ≤ i → i < n → 0 ≤ ps i → ps i < i → ps i = (par i : Nat)) →
    (∀ l', Grow l l' → Post (.tuple #[.slice none 0 0, .bool false]) l') →
    ((∀ i, 1 ≤ i → i < n → par i < i) → ∀ l' Ch rb rc, KidRows l l' n par n Ch rb rc → Post (.tuple #[.slice (some ⟨Ch, 0, none⟩) n n, .bool true]) l') → E.N 7 #[.slice (some A) n cp] N l Post := by
  refine ⟨_, fun E l n cp A ps par Post hact hn1 hn hA hpar hno hyes => n_of_b (b_of (e := 2) (L := 257) Try.func7 (by rfl) rfl ?_)⟩
  simp only [act0, Try.ntmps7, List.size_toArray, List.length_cons, List.length_nil, Nat.reduceAdd, Nat.reduceSub, Array.replicate_succ, Array.replicate_zero, List.push_toArray, List.append_toArray, List.nil_append, List.cons_append]
  repeat (first
    | (refine c_seq ?_)
    | (refine c_region ?_
       simp only [List.size_toArray, List.length_cons, List.length_nil, Nat.reduceAdd, Nat.zero_add, List.range, List.range.loop])
    | (refine o_nil ?_
       simp only [Thn, Inb, if_true, if_false, reduceIte, Nat.reduceEqDiff])
    | (refine c_skip ?_
       simp only [Thn, Inb, if_true, if_false, reduceIte, Nat.reduceEqDiff])
    | (refine c_cond true (by rfl) (fun _ => ?_) (fun e => by cases e))
    | (refine c_cond false (by rfl) (fun e => by cases e) (fun _ => ?_))
    | (refine c_block ?_)
    | (refine c_label ?_
       simp only [Thn, Inb, if_true, if_false, reduceIte, Nat.reduceEqDiff])
    | (refine c_scope ?_)
    | (refine o_cons (u_read (by omega) hact rfl (by rfl) fun w hF K' hK' => ?_)
       go_simp
       refine hK' _ ⟨?_, ?_⟩
       focus
         rw [listed_nil]
         · simp
         · (simp [go_sem]; done)
       clear hK' K' hF w
       try walk_nrm)
    | (refine o_cons (u_unwanted (by omega) rfl (by rfl) ?_)
       try walk_nrm))
  refine o_cons (u_make n (by omega) hact rfl (by rfl) rfl Try.underlying26 Try.type22 rfl rfl (by decide) rfl (by omega) rfl rfl fun Ch hCh => ?_)
  obtain ⟨l1, hl1⟩ : ∃ l1, l1 = l.addc Ch (Array.replicate n (.slice none 0 0)) := ⟨_, rfl⟩
  rw [← hl1]
  have K1 : KidRows l l1 n par 1 Ch (fun _ => none) (fun _ => 0) := by
    rw [hl1]
    exact ⟨(Grow.refl _).addc hCh _, (fun d hd => by rw [addc_new, kids_one]; simp [hd]), (fun k => hCh.cell _ rfl), (fun d _ _ => ⟨kids_one par d, rfl⟩), (fun d r _ h => by simp at h), (fun d d' r _ _ _ _ => by simp)⟩
  clear hl1
  have hact1 : l1.md = .act := K1.grow.md.trans hact
  try walk_nrm
  repeat (first
    | (refine c_seq ?_)
    | (refine c_region ?_
       simp only [List.size_toArray, List.length_cons, List.length_nil, Nat.reduceAdd, Nat.zero_add, List.range, List.range.loop])
    | (refine o_nil ?_
       simp only [Thn, Inb, if_true, if_false, reduceIte, Nat.reduceEqDiff])
    | (refine c_skip ?_
       simp only [Thn, Inb, if_true, if_false, reduceIte, Nat.reduceEqDiff])
    | (refine c_cond true (by rfl) (fun _ => ?_) (fun e => by cases e))
    | (refine c_cond false (by rfl) (fun e => by cases e) (fun _ => ?_))
    | (refine c_block ?_)
    | (refine c_label ?_
       simp only [Thn, Inb, if_true, if_false, reduceIte, Nat.reduceEqDiff])
    | (refine c_scope ?_)
    | (refine o_cons (u_read (by omega) hact1 rfl (by rfl) fun w hF K' hK' => ?_)
       go_simp
       refine hK' _ ⟨?_, ?_⟩
       focus
         rw [listed_nil]
         · simp
         · (simp [go_sem]; done)
       clear hK' K' hF w
       try walk_nrm)
    | (refine o_cons (u_unwanted (by omega) rfl (by rfl) ?_)
       try walk_nrm))
  refine c_loop (fun a' l' => ∃ i rb rc, 1 ≤ i ∧ i ≤ n ∧ (∀ x, 1 ≤ x → x < i → par x < x) ∧ KidRows l l' n par i Ch rb rc ∧ Fr7 (.slice (some A) n cp) (.slice (some ⟨Ch, 0, none⟩) n n) (.int .i64 (i : Nat)) [] a') (fun a' _ => mu7 n a') ⟨1, _, _, Nat.le_refl _, hn1, fun x h1 h2 => by omega, K1, ?_⟩ ?_ ?_
  focus
    exact ⟨_, _, _, _, _, _, _, _, _, _, _, _, _, _, _, _, _, _, _, _, _, _, _, _, _, _, _, _, _, _, _, _, _, _, _, rfl⟩
  focus
    show n - 1 ≤ _
    omega
  clear K1 hact1
  intro a' l' hI
  obtain ⟨i, rb, rc, hi1, hin, hpx, K, hfr⟩ := hI
  obtain ⟨x1, x2, x3, x6, x7, x8, x9, x10, x11, x12, x13, x14, x15, x16, x17, x18, x19, x20, x21, x22, x23, x24, x25, x26, x27, x28, x29, x30, x31, x32, x33, x34, x35, x36, x37, rfl⟩ := hfr
  rw [show mu7 n _ = n - i from rfl]
  have hact' : l'.md = .act := K.grow.md.trans hact
  have hw2 : IntKind.i64.wrap ((i : Int) + 1) = (i : Int) + 1 := by rw [IntKind.wrap_i64]; omega
  by_cases hlt : i < n
  · have hde : decide ((i : Int) < (n : Int)) = true := by simp; omega
    repeat (first
      | (refine c_seq ?_)
      | (refine c_region ?_
         simp only [List.size_toArray, List.length_cons, List.length_nil, Nat.reduceAdd, Nat.zero_add, List.range, List.range.loop])
      | (refine o_nil ?_
         simp only [Thn, Inb, if_true, if_false, reduceIte, Nat.reduceEqDiff])
      | (refine c_skip ?_
         simp only [Thn, Inb, if_true, if_false, reduceIte, Nat.reduceEqDiff])
      | (refine c_cond true (by rfl) (fun _ => ?_) (fun e => by cases e))
      | (refine c_cond false (by rfl) (fun e => by cases e) (fun _ => ?_))
      | (refine c_block ?_)
      | (refine c_label ?_
         simp only [Thn, Inb, if_true, if_false, reduceIte, Nat.reduceEqDiff])
      | (refine c_scope ?_)
      | (refine o_cons (u_read (by omega) hact' rfl (by rfl) fun w hF K' hK' => ?_)
         go_simp
         refine hK' _ ⟨?_, ?_⟩
         focus
           rw [listed_nil]
           · simp
           · (simp [go_sem]; done)
         clear hK' K' hF w
         try walk_nrm)
      | (refine o_cons (u_unwanted (by omega) rfl (by rfl) ?_)
         try walk_nrm))
    refine o_cons (u_index (A := A) (n := n) (c := cp) (k := .i64) (m := i) (by omega) rfl (by rfl) rfl Try.underlying22 (by rfl) rfl rfl hlt ?_)
    try walk_nrm
    refine o_cons (u_load (.int .i64 (ps i)) (by omega) hact' rfl (by rfl) rfl Try.underlying3 rfl rfl (.inr (K.grow.ro _ _ (hA i hlt))) ?_)
    try walk_nrm
    by_cases hneg : ps i < 0
    · have hd1 : decide (ps i < 0) = true := by simpa using hneg
      repeat (first
        | (refine c_seq ?_)
        | (refine c_region ?_
           simp only [List.size_toArray, List.length_cons, List.length_nil, Nat.reduceAdd, Nat.zero_add, List.range, List.range.loop])
        | (refine o_nil ?_
           simp only [Thn, Inb, if_true, if_false, reduceIte, Nat.reduceEqDiff])
        | (refine c_skip ?_
           simp only [Thn, Inb, if_true, if_false, reduceIte, Nat.reduceEqDiff])
        | (refine c_cond true (by rfl) (fun _ => ?_) (fun e => by cases e))
        | (refine c_cond false (by rfl) (fun e => by cases e) (fun _ => ?_))
        | (refine c_block ?_)
        | (refine c_label ?_
           simp only [Thn, Inb, if_true, if_false, reduceIte, Nat.reduceEqDiff])
        | (refine c_scope ?_)
        | (refine o_cons (u_read (by omega) hact' rfl (by rfl) fun w hF K' hK' => ?_)
           go_simp
           refine hK' _ ⟨?_, ?_⟩
           focus
             rw [listed_nil]
             · simp
             · (simp [go_sem]; done)
           clear hK' K' hF w
           try walk_nrm)
        | (refine o_cons (u_unwanted (by omega) rfl (by rfl) ?_)
           try walk_nrm))
      refine c_ret ?_
      refine ⟨rfl, _, resultsC_tmp2 (by rfl) _, ?_⟩
      exact hno l' K.grow
    have hd1 : decide (ps i < 0) = false := by simpa using hneg
    by_cases hge : (i : Int) ≤ ps i
    · have hd2 : decide ((i : Int) ≤ ps i) = true := by simpa using hge
      repeat (first
        | (refine c_seq ?_)
        | (refine c_region ?_
           simp only [List.size_toArray, List.length_cons, List.length_nil, Nat.reduceAdd, Nat.zero_add, List.range, List.range.loop])
        | (refine o_nil ?_
           simp only [Thn, Inb, if_true, if_false, reduceIte, Nat.reduceEqDiff])
        | (refine c_skip ?_
           simp only [Thn, Inb, if_true, if_false, reduceIte, Nat.reduceEqDiff])
        | (refine c_cond true (by rfl) (fun _ => ?_) (fun e => by cases e))
        | (refine c_cond false (by rfl) (fun e => by cases e) (fun _ => ?_))
        | (refine c_block ?_)
        | (refine c_label ?_
           simp only [Thn, Inb, if_true, if_false, reduceIte, Nat.reduceEqDiff])
        | (refine c_scope ?_)
        | (refine o_cons (u_read (by omega) hact' rfl (by rfl) fun w hF K' hK' => ?_)
           go_simp
           refine hK' _ ⟨?_, ?_⟩
           focus
             rw [listed_nil]
             · simp
             · (simp [go_sem]; done)
           clear hK' K' hF w
           try walk_nrm)
        | (refine o_cons (u_unwanted (by omega) rfl (by rfl) ?_)
           try walk_nrm))
      refine c_ret ?_
      refine ⟨rfl, _, resultsC_tmp2 (by rfl) _, ?_⟩
      exact hno l' K.grow
    have hd2 : decide ((i : Int) ≤ ps i) = false := by simpa using hge
    have hpi := hpar i hi1 hlt (by omega) (by omega)
    have hlti : par i < i := by omega
    rw [hpi] at hd1 hd2
    rw [hpi]
    repeat (first
      | (refine c_seq ?_)
      | (refine c_region ?_
         simp only [List.size_toArray, List.length_cons, List.length_nil, Nat.reduceAdd, Nat.zero_add, List.range, List.range.loop])
      | (refine o_nil ?_
         simp only [Thn, Inb, if_true, if_false, reduceIte, Nat.reduceEqDiff])
      | (refine c_skip ?_
         simp only [Thn, Inb, if_true, if_false, reduceIte, Nat.reduceEqDiff])
      | (refine c_cond true (by rfl) (fun _ => ?_) (fun e => by cases e))
      | (refine c_cond false (by rfl) (fun e => by cases e) (fun _ => ?_))
      | (refine c_block ?_)
      | (refine c_label ?_
         simp only [Thn, Inb, if_true, if_false, reduceIte, Nat.reduceEqDiff])
      | (refine c_scope ?_)
      | (refine o_cons (u_read (by omega) hact' rfl (by rfl) fun w hF K' hK' => ?_)
         go_simp
         refine hK' _ ⟨?_, ?_⟩
         focus
           rw [listed_nil]
           · simp
           · (simp [go_sem]; done)
         clear hK' K' hF w
         try walk_nrm)
      | (refine o_cons (u_unwanted (by omega) rfl (by rfl) ?_)
         try walk_nrm))
    refine c_cond false (by simp [Act.eval]; omega) (fun e => by cases e) (fun _ => ?_)
    repeat (first
      | (refine c_seq ?_)
      | (refine c_region ?_
         simp only [List.size_toArray, List.length_cons, List.length_nil, Nat.reduceAdd, Nat.zero_add, List.range, List.range.loop])
      | (refine o_nil ?_
         simp only [Thn, Inb, if_true, if_false, reduceIte, Nat.reduceEqDiff])
      | (refine c_skip ?_
         simp only [Thn, Inb, if_true, if_false, reduceIte, Nat.reduceEqDiff])
      | (refine c_cond true (by rfl) (fun _ => ?_) (fun e => by cases e))
      | (refine c_cond false (by rfl) (fun e => by cases e) (fun _ => ?_))
      | (refine c_block ?_)
      | (refine c_label ?_
         simp only [Thn, Inb, if_true, if_false, reduceIte, Nat.reduceEqDiff])
      | (refine c_scope ?_)
      | (refine o_cons (u_read (by omega) hact' rfl (by rfl) fun w hF K' hK' => ?_)
         go_simp
         refine hK' _ ⟨?_, ?_⟩
         focus
           rw [listed_nil]
           · simp
           · (simp [go_sem]; done)
         clear hK' K' hF w
         try walk_nrm)
      | (refine o_cons (u_unwanted (by omega) rfl (by rfl) ?_)
         try walk_nrm))
    have hdn : par i < n := by omega
    refine o_cons (u_index (A := ⟨Ch, 0, none⟩) (n := n) (c := n) (k := .i64) (m := par i) (by omega) rfl (by rfl) rfl Try.underlying26 (by rfl) rfl rfl hdn ?_)
    try walk_nrm
    rw [Addr.add_lit, Nat.zero_add]
    refine o_cons (u_load (.slice ((rb (par i)).map fun r => ⟨r, 0, none⟩) (kids i par (par i)).length (rc (par i))) (by omega) hact' rfl (by rfl) rfl Try.underlying22 rfl rfl (.inl (K.outer _ hdn)) ?_)
    try walk_nrm
    repeat (first
      | (refine c_seq ?_)
      | (refine c_region ?_
         simp only [List.size_toArray, List.length_cons, List.length_nil, Nat.reduceAdd, Nat.zero_add, List.range, List.range.loop])
      | (refine o_nil ?_
         simp only [Thn, Inb, if_true, if_false, reduceIte, Nat.reduceEqDiff])
      | (refine c_skip ?_
         simp only [Thn, Inb, if_true, if_false, reduceIte, Nat.reduceEqDiff])
      | (refine c_cond true (by rfl) (fun _ => ?_) (fun e => by cases e))
      | (refine c_cond false (by rfl) (fun e => by cases e) (fun _ => ?_))
      | (refine c_block ?_)
      | (refine c_label ?_
         simp only [Thn, Inb, if_true, if_false, reduceIte, Nat.reduceEqDiff])
      | (refine c_scope ?_)
      | (refine o_cons (u_read (by omega) hact' rfl (by rfl) fun w hF K' hK' => ?_)
         go_simp
         refine hK' _ ⟨?_, ?_⟩
         focus
           rw [listed_nil]
           · simp
           · (simp [go_sem]; done)
         clear hK' K' hF w
         try walk_nrm)
      | (refine o_cons (u_unwanted (by omega) rfl (by rfl) ?_)
         try walk_nrm))
    refine o_cons (u_new (by omega) hact' rfl (by rfl) (.cells #[.int .i64 (i : Nat)] 3) (fun r => .slice (some ⟨r, 0, none⟩) 1 1) (fun r => l'.addc r #[.int .i64 (i : Nat)]) (fun w => ?_) (fun w => ?_) (new_cells hact' _ _) fun T hT => ?_)
    · simp [go_sem]
    · simp [go_sem]
    obtain ⟨l1, hl1⟩ : ∃ l1, l1 = l'.addc T #[.int .i64 (i : Nat)] := ⟨_, rfl⟩
    rw [← hl1]
    have g1 : Grow l' l1 := by rw [hl1]; exact (Grow.refl _).addc hT _
    have K1 := K.more g1
    have hT1 : l1.res.cells ⟨T, 0, none⟩ = some (.int .i64 (i : Nat)) := by rw [hl1, addc_new]; rfl
    obtain ⟨hTC, hTr⟩ := K.blk hn1 hT
    clear hl1
    have hact1 : l1.md = .act := K1.grow.md.trans hact
    try walk_nrm
    obtain ⟨xs, hxs⟩ : ∃ xs : List Value, xs = (kids i par (par i)).map fun x => .int .i64 (x : Nat) := ⟨_, rfl⟩
    have hlen : xs.length = (kids i par (par i)).length := by rw [hxs, List.length_map]
    have hxj : ∀ j, j < xs.length → xs[j]? = some (.int .i64 ((kids i par (par i)).getD j 0 : Nat)) := fun j hj => by
      rw [hxs, List.getElem?_map, List.getElem?_eq_getElem (by rw [← hlen]; exact hj), List.getD_eq_getElem?_getD, List.getElem?_eq_getElem (by rw [← hlen]; exact hj)]
      rfl
    have hsm : xs.length ≤ 256 := by
      rw [hlen]
      exact Nat.le_trans (Nat.le_trans (List.length_filter_le _ _) (Nat.le_of_eq List.length_range)) (by omega)
    clear hxs
    have hrow : RowC l1 (.slice ((rb (par i)).map fun r => ⟨r, 0, none⟩) xs.length (rc (par i))) xs := by
      cases hrb : rb (par i) with
      | none =>
        obtain ⟨k1, k2⟩ := K1.isn _ hdn hrb
        have hx0 : xs = [] := List.eq_nil_of_length_eq_zero (by rw [hlen, k1]; rfl)
        refine .inl ⟨?_, hx0⟩
        rw [hx0, k2]; rfl
      | some r =>
        obtain ⟨k1, k2, k3, k4, k5, k6⟩ := K1.iss _ r hdn hrb
        refine .inr ⟨r, rc (par i), rfl, by rw [hlen]; exact k2, fun j u hj => ?_, k6⟩
        have hjl : j < xs.length := (List.getElem?_eq_some_iff.1 hj).1
        rw [hxj j hjl] at hj
        cases hj
        exact k5 j (by rw [← hlen]; exact hjl)
    rw [← hlen]
    refine o_cons (u_append (T := T) (c := 1) xs (.int .i64 (i : Nat)) (by omega) hact1 rfl (by rfl) rfl Try.underlying22 Try.type3 rfl rfl (by decide) rfl rfl rfl hT1 rfl hrow (by omega) (fun g cap hv hlc => ?_) (fun r k hr => ?_))
    all_goals try walk_nrm
    · obtain ⟨hrb, hcp⟩ : rb (par i) = some g ∧ rc (par i) = cap := by
        have hv : Value.slice ((rb (par i)).map fun r => ⟨r, 0, none⟩) xs.length (rc (par i)) = .slice (some ⟨g, 0, none⟩) xs.length cap := hv
        injection hv with h1 h2 h3
        cases hrb : rb (par i) with
        | none => rw [hrb] at h1; cases h1
        | some r => rw [hrb] at h1; injection h1 with h1; injection h1 with h1; exact ⟨by rw [h1], h3⟩
      have K3 := K1.room hi1 hdn hrb (by rw [← hlen, hcp]; exact hlc)
      rw [hcp] at K3
      have hne : Ch ≠ g := fun e => (K1.iss _ _ hdn hrb).2.2.1 e.symm
      clear hv hrow
      obtain ⟨l2, hl2⟩ : ∃ l2, l2 = l1.setc ⟨g, (kids i par (par i)).length, none⟩ (.int .i64 (i : Nat)) := ⟨_, rfl⟩
      rw [hlen, ← hl2]
      rw [← hl2] at K3
      have hact2 : l2.md = .act := by rw [hl2]; exact hact1
      have hCh2 : l2.res.cells ⟨Ch, par i, none⟩ ≠ none := by
        rw [hl2]; show (if _ = _ then _ else _) ≠ _
        rw [if_neg (by simp [hne]), K1.outer _ hdn]; simp
      clear hl2
      try walk_nrm
      refine o_cons (u_index (A := ⟨Ch, 0, none⟩) (n := n) (c := n) (k := .i64) (m := par i) (by omega) rfl (by rfl) rfl Try.underlying26 (by rfl) rfl rfl hdn ?_)
      try walk_nrm
      rw [Addr.add_lit, Nat.zero_add]
      refine o_cons (u_store1 (ad := ⟨Ch, par i, none⟩) (.slice (some ⟨g, 0, none⟩) ((kids i par (par i)).length + 1) cap) (by omega) hact2 rfl (by rfl) rfl (by rfl) rfl rfl rfl hCh2 ?_)
      obtain ⟨l3, hl3⟩ : ∃ l3, l3 = l2.setc ⟨Ch, par i, none⟩ (.slice (some ⟨g, 0, none⟩) ((kids i par (par i)).length + 1) (cap)) := ⟨_, rfl⟩
      rw [← hl3] at K3 ⊢
      have hact3 : l3.md = .act := by rw [hl3]; exact hact2
      clear hl3
      try walk_nrm
      repeat (first
        | (refine c_seq ?_)
        | (refine c_region ?_
           simp only [List.size_toArray, List.length_cons, List.length_nil, Nat.reduceAdd, Nat.zero_add, List.range, List.range.loop])
        | (refine o_nil ?_
           simp only [Thn, Inb, if_true, if_false, reduceIte, Nat.reduceEqDiff])
        | (refine c_skip ?_
           simp only [Thn, Inb, if_true, if_false, reduceIte, Nat.reduceEqDiff])
        | (refine c_cond true (by rfl) (fun _ => ?_) (fun e => by cases e))
        | (refine c_cond false (by rfl) (fun e => by cases e) (fun _ => ?_))
        | (refine c_block ?_)
        | (refine c_label ?_
           simp only [Thn, Inb, if_true, if_false, reduceIte, Nat.reduceEqDiff])
        | (refine c_scope ?_)
        | (refine o_cons (u_read (by omega) hact3 rfl (by rfl) fun w hF K' hK' => ?_)
           go_simp
           refine hK' _ ⟨?_, ?_⟩
           focus
             rw [listed_nil]
             · simp
             · (simp [go_sem]; done)
           clear hK' K' hF w
           try walk_nrm)
        | (refine o_cons (u_unwanted (by omega) rfl (by rfl) ?_)
           try walk_nrm))
      refine ⟨⟨i + 1, _, _, by omega, by omega, fun x h1 h2 => ?_, K3, ?_⟩, ?_⟩
      · by_cases e : x = i
        · rw [e]; exact hlti
        · exact hpx x h1 (by omega)
      · exact ⟨_, _, _, _, _, _, _, _, _, _, _, _, _, _, _, _, _, _, _, _, _, _, _, _, _, _, _, _, _, _, _, _, _, _, _, rfl⟩
      · show n - (i + 1) < n - i
        omega
    · have K3 := K1.fresh hi1 hn1 hdn hr (cc := (xs ++ [Value.int .i64 (i : Nat)]).toArray ++ Array.replicate k (.int .i64 0)) (cap := (kids i par (par i)).length + 1 + k) (by simp [hlen]; omega) (fun j hj => by
          have := hxj j (by omega)
          rw [Array.getElem?_append_left (by simp; omega)]
          simp only [List.getElem?_toArray]
          rw [List.getElem?_append_left (by omega)]
          exact this) (by
          rw [Array.getElem?_append_left (by simp; omega)]
          simp only [List.getElem?_toArray]
          rw [← hlen, List.getElem?_append_right (by omega)]
          simp)
      have hne : Ch ≠ r := fun e => by have := hr.cell ⟨Ch, par i, none⟩ e; rw [K1.outer _ hdn] at this; cases this
      clear hrow
      obtain ⟨l2, hl2⟩ : ∃ l2, l2 = l1.addc r ((xs ++ [Value.int .i64 (i : Nat)]).toArray ++ Array.replicate k (.int .i64 0)) := ⟨_, rfl⟩
      rw [hlen, ← hl2]
      rw [← hl2] at K3
      have hact2 : l2.md = .act := by rw [hl2]; exact hact1
      have hCh2 : l2.res.cells ⟨Ch, par i, none⟩ ≠ none := by
        rw [hl2, addc_old hne, K1.outer _ hdn]; simp
      clear hl2
      try walk_nrm
      refine o_cons (u_index (A := ⟨Ch, 0, none⟩) (n := n) (c := n) (k := .i64) (m := par i) (by omega) rfl (by rfl) rfl Try.underlying26 (by rfl) rfl rfl hdn ?_)
      try walk_nrm
      rw [Addr.add_lit, Nat.zero_add]
      refine o_cons (u_store1 (ad := ⟨Ch, par i, none⟩) (.slice (some ⟨r, 0, none⟩) ((kids i par (par i)).length + 1) ((kids i par (par i)).length + 1 + k)) (by omega) hact2 rfl (by rfl) rfl (by rfl) rfl rfl rfl hCh2 ?_)
      obtain ⟨l3, hl3⟩ : ∃ l3, l3 = l2.setc ⟨Ch, par i, none⟩ (.slice (some ⟨r, 0, none⟩) ((kids i par (par i)).length + 1) ((kids i par (par i)).length + 1 + k)) := ⟨_, rfl⟩
      rw [← hl3] at K3 ⊢
      have hact3 : l3.md = .act := by rw [hl3]; exact hact2
      clear hl3
      try walk_nrm
      repeat (first
        | (refine c_seq ?_)
        | (refine c_region ?_
           simp only [List.size_toArray, List.length_cons, List.length_nil, Nat.reduceAdd, Nat.zero_add, List.range, List.range.loop])
        | (refine o_nil ?_
           simp only [Thn, Inb, if_true, if_false, reduceIte, Nat.reduceEqDiff])
        | (refine c_skip ?_
           simp only [Thn, Inb, if_true, if_false, reduceIte, Nat.reduceEqDiff])
        | (refine c_cond true (by rfl) (fun _ => ?_) (fun e => by cases e))
        | (refine c_cond false (by rfl) (fun e => by cases e) (fun _ => ?_))
        | (refine c_block ?_)
        | (refine c_label ?_
           simp only [Thn, Inb, if_true, if_false, reduceIte, Nat.reduceEqDiff])
        | (refine c_scope ?_)
        | (refine o_cons (u_read (by omega) hact3 rfl (by rfl) fun w hF K' hK' => ?_)
           go_simp
           refine hK' _ ⟨?_, ?_⟩
           focus
             rw [listed_nil]
             · simp
             · (simp [go_sem]; done)
           clear hK' K' hF w
           try walk_nrm)
        | (refine o_cons (u_unwanted (by omega) rfl (by rfl) ?_)
           try walk_nrm))
      refine ⟨⟨i + 1, _, _, by omega, by omega, fun x h1 h2 => ?_, K3, ?_⟩, ?_⟩
      · by_cases e : x = i
        · rw [e]; exact hlti
        · exact hpx x h1 (by omega)
      · exact ⟨_, _, _, _, _, _, _, _, _, _, _, _, _, _, _, _, _, _, _, _, _, _, _, _, _, _, _, _, _, _, _, _, _, _, _, rfl⟩
      · show n - (i + 1) < n - i
        omega
  have hde : decide ((i : Int) < (n : Int)) = false := by simp; omega
  obtain rfl : i = n := by omega
  repeat (first
    | (refine c_seq ?_)
    | (refine c_region ?_
       simp only [List.size_toArray, List.length_cons, List.length_nil, Nat.reduceAdd, Nat.zero_add, List.range, List.range.loop])
    | (refine o_nil ?_
       simp only [Thn, Inb, if_true, if_false, reduceIte, Nat.reduceEqDiff])
    | (refine c_skip ?_
       simp only [Thn, Inb, if_true, if_false, reduceIte, Nat.reduceEqDiff])
    | (refine c_cond true (by rfl) (fun _ => ?_) (fun e => by cases e))
    | (refine c_cond false (by rfl) (fun e => by cases e) (fun _ => ?_))
    | (refine c_block ?_)
    | (refine c_label ?_
       simp only [Thn, Inb, if_true, if_false, reduceIte, Nat.reduceEqDiff])
    | (refine c_scope ?_)
    | (refine o_cons (u_read (by omega) hact' rfl (by rfl) fun w hF K' hK' => ?_)
       go_simp
       refine hK' _ ⟨?_, ?_⟩
       focus
         rw [listed_nil]
         · simp
         · (simp [go_sem]; done)
       clear hK' K' hF w
       try walk_nrm)
    | (refine o_cons (u_unwanted (by omega) rfl (by rfl) ?_)
       try walk_nrm))
  refine c_exit ?_
  simp only [Thn, Inb, if_true, reduceIte]
  repeat (first
    | (refine c_seq ?_)
    | (refine c_region ?_
       simp only [List.size_toArray, List.length_cons, List.length_nil, Nat.reduceAdd, Nat.zero_add, List.range, List.range.loop])
    | (refine o_nil ?_
       simp only [Thn, Inb, if_true, if_false, reduceIte, Nat.reduceEqDiff])
    | (refine c_skip ?_
       simp only [Thn, Inb, if_true, if_false, reduceIte, Nat.reduceEqDiff])
    | (refine c_cond true (by rfl) (fun _ => ?_) (fun e => by cases e))
    | (refine c_cond false (by rfl) (fun e => by cases e) (fun _ => ?_))
    | (refine c_block ?_)
    | (refine c_label ?_
       simp only [Thn, Inb, if_true, if_false, reduceIte, Nat.reduceEqDiff])
    | (refine c_scope ?_)
    | (refine o_cons (u_read (by omega) hact' rfl (by rfl) fun w hF K' hK' => ?_)
       go_simp
       refine hK' _ ⟨?_, ?_⟩
       focus
         rw [listed_nil]
         · simp
         · (simp [go_sem]; done)
       clear hK' K' hF w
       try walk_nrm)
    | (refine o_cons (u_unwanted (by omega) rfl (by rfl) ?_)
       try walk_nrm))
  refine c_ret ?_
  refine ⟨rfl, _, resultsC_tmp2 (by rfl) _, ?_⟩
  exact hyes (fun x h1 h2 => hpx x h1 h2) l' Ch rb rc K
end Go.Proofs.Ytofohjbcgchhoaa
namespace Go.Proofs.Ytofohjbcgchhoaa
open Go.Conc
open Go.RowKit
open Go.ConcN (sumTo sumTo_congr le_sumTo)
set_option maxRecDepth 100000
set_option linter.unusedSimpArgs false
set_option linter.unusedVariables false

/-- A tree of tasks, where its parts lie. -/
structure Nest where
  n : Nat
  par : Nat → Nat
  own : Nat → Int
  Ch : Nat
  A : Addr
  co : Nat
  rb : Nat → Option Addr
  rc : Nat → Nat
  bR : Nat
  bC : Nat
  bF : Nat
  bP : Nat
  bT : Nat
  bV : Nat
  R : Nat
  V : Nat
  p : Nat
  ch : Nat
  cap : Nat
def bpt (b : Nat) : Value := .pointer (some ⟨b, 0, none⟩)
def Nest.fv (N : Nest) : Value := .func (.func 9) #[] #[bpt N.bR, bpt N.bC, bpt N.bF, bpt N.bP, bpt N.bT, bpt N.bV]
structure NestRo (N : Nest) (l : Lo) : Prop where
  ok : ∀ x, 1 ≤ x → x < N.n → N.par x < x
  small : N.n ≤ 256
  tree : TreeRo l N.n N.par N.own N.Ch N.A N.rb N.rc
  bR : l.ro ⟨N.bR, 0, none⟩ (.slice (some ⟨N.R, 0, none⟩) N.n N.n)
  bC : l.ro ⟨N.bC, 0, none⟩ (.slice (some ⟨N.Ch, 0, none⟩) N.n N.n)
  bF : l.ro ⟨N.bF, 0, none⟩ N.fv
  bP : l.ro ⟨N.bP, 0, none⟩ (.pointer (some ⟨N.p, 0, none⟩))
  bT : l.ro ⟨N.bT, 1, none⟩ (.slice (some N.A) N.n N.co)
  bV : l.ro ⟨N.bV, 0, none⟩ (.slice (some ⟨N.V, 0, none⟩) N.n N.n)
  RV : N.R ≠ N.V
  pl : l.pl N.p = some (N.ch, N.cap, false)
  pch : l.ro ⟨N.p, 0, none⟩ (.chan (some N.ch))
  cap1 : 1 ≤ N.cap
theorem NestRo.of {N : Nest} {l l' : Lo} (h : NestRo N l) (hr : ∀ a v, l.ro a v → l'.ro a v) (hp : l'.pl = l.pl) : NestRo N l' :=
  ⟨h.ok, h.small, ⟨fun d hd => hr _ _ (h.tree.outer d hd), fun d j hd hj => by obtain ⟨R, h1, h2⟩ := h.tree.row d j hd hj; exact ⟨R, h1, hr _ _ h2⟩, fun d hd => hr _ _ (h.tree.own d hd)⟩,
    hr _ _ h.bR, hr _ _ h.bC, hr _ _ h.bF, hr _ _ h.bP, hr _ _ h.bT, hr _ _ h.bV, h.RV, by rw [hp]; exact h.pl, hr _ _ h.pch, h.cap1⟩
theorem NestRo.ext {N : Nest} {l l' : Lo} (h : NestRo N l) (x : Ext l l') : NestRo N l' := h.of x.ro x.pl

def Nest.foot (N : Nest) (d : Nat) (a : Addr) : Prop := ∃ x, Sub N.n N.par d x ∧ (a = ⟨N.R, x, none⟩ ∨ a = ⟨N.V, x, none⟩)
def Nest.raw (N : Nest) (d : Nat) (C : Addr → Option Value) : Prop := ∀ x, Sub N.n N.par d x → C ⟨N.R, x, none⟩ = some (.int .i64 0) ∧ C ⟨N.V, x, none⟩ = some (.int .i64 0)
def Nest.done (N : Nest) (d : Nat) (C : Addr → Option Value) : Prop := ∀ x, Sub N.n N.par d x → C ⟨N.R, x, none⟩ = some (.int .i64 1) ∧ C ⟨N.V, x, none⟩ = some (.int .i64 (val N.n N.par N.own x))
noncomputable def Nest.gets (N : Nest) (d : Nat) (k : Tk) : Nat := if k = .begun N.p then sz N.n N.par d - 1 else 0
theorem Nest.raw.of {N : Nest} {d : Nat} {C C' : Addr → Option Value} (h : N.raw d C) (e : ∀ a, N.foot d a → C' a = C a) : N.raw d C' := fun x hx => by
  obtain ⟨h1, h2⟩ := h x hx
  exact ⟨by rw [e _ ⟨x, hx, .inl rfl⟩]; exact h1, by rw [e _ ⟨x, hx, .inr rfl⟩]; exact h2⟩
theorem Nest.done.of {N : Nest} {d : Nat} {C C' : Addr → Option Value} (h : N.done d C) (e : ∀ a, N.foot d a → C' a = C a) : N.done d C' := fun x hx => by
  obtain ⟨h1, h2⟩ := h x hx
  exact ⟨by rw [e _ ⟨x, hx, .inl rfl⟩]; exact h1, by rw [e _ ⟨x, hx, .inr rfl⟩]; exact h2⟩
theorem Nest.raw.own {N : Nest} {d : Nat} {C : Addr → Option Value} (h : N.raw d C) (a : Addr) (ha : N.foot d a) : C a ≠ none := by
  obtain ⟨x, hx, rfl | rfl⟩ := ha
  · rw [(h x hx).1]; simp
  · rw [(h x hx).2]; simp
theorem Nest.done.own {N : Nest} {d : Nat} {C : Addr → Option Value} (h : N.done d C) (a : Addr) (ha : N.foot d a) : C a ≠ none := by
  obtain ⟨x, hx, rfl | rfl⟩ := ha
  · rw [(h x hx).1]; simp
  · rw [(h x hx).2]; simp
theorem Nest.foot_up {N : Nest} {d c : Nat} (hc : c ∈ kids N.n N.par d) {a : Addr} (h : N.foot c a) : N.foot d a := by
  obtain ⟨x, hx, e⟩ := h
  exact ⟨x, Sub.up hc hx, e⟩
theorem Nest.foot_apart {N : Nest} (H : ∀ x, 1 ≤ x → x < N.n → N.par x < x) (RV : N.R ≠ N.V) {d c c' : Nat} (hc : c ∈ kids N.n N.par d) (hc' : c' ∈ kids N.n N.par d) (hne : c ≠ c') {a : Addr} (h : N.foot c a) : ¬ N.foot c' a := by
  obtain ⟨x, hx, e⟩ := h
  rintro ⟨y, hy, e'⟩
  have : x = y := by
    rcases e with rfl | rfl <;> rcases e' with e' | e' <;> exact congrArg Addr.off e'
  subst this
  exact Sub.apart H hc hc' hne x hx hy
theorem Nest.foot_blk {N : Nest} {d : Nat} {a : Addr} (h : N.foot d a) : a.block = N.R ∨ a.block = N.V := by
  obtain ⟨x, _, rfl | rfl⟩ := h
  · exact .inl rfl
  · exact .inr rfl

/-- How a goroutine stands that runs a node's task. -/
structure Fit (l : Lo) : Prop where
  md : l.md = .act
  df : l.df = 0
  tr : ∀ c, l.res.tk (.tr c) = 0
  slot : ∀ p, l.res.tk (.alive p) ≤ l.res.tk (.slot p)
  gm : ∀ c, l.cl c ∨ l.res.tk (.gm c) = 0
theorem Fit.grow {l l' : Lo} (h : Fit l) (g : Grow l l') : Fit l' :=
  ⟨g.md.trans h.md, g.df.trans h.df, fun c => by rw [g.tk]; exact h.tr c, fun p => by rw [g.tk]; exact h.slot p, fun c => by rw [g.tk, g.cl]; exact h.gm c⟩
theorem Fit.setc {l : Lo} (h : Fit l) (a : Addr) (v : Value) : Fit (l.setc a v) := ⟨h.md, h.df, h.tr, h.slot, h.gm⟩

/-- What a node's task does. -/
def Run9 (N : Nest) (d nt : Nat) : Prop := ∀ (E : En) (l : Lo), NestRo N l → N.raw d l.res.cells → Fit l →
  E.N 9 #[.int .i64 (d : Nat), bpt N.bR, bpt N.bC, bpt N.bF, bpt N.bP, bpt N.bT, bpt N.bV] nt l fun v l' => v = .int .i64 0 ∧ N.done d l'.res.cells ∧ Kept (N.foot d) (fun _ => 0) (N.gets d) l l'

/-- A child's task: it knows its number by a variable of its own. -/
noncomputable def kidTask (N : Nest) (c b : Nat) : Task where
  v := .func (.func 10) #[] #[bpt N.bF, bpt b]
  foot := fun a => N.foot c a ∨ a = ⟨b, 0, none⟩
  T := fun _ => 0
  T' := fun k => N.gets c k + bg1 N.p k
  post := fun y C => y = 0 ∧ C ⟨b, 0, none⟩ = some (.int .i64 (c : Nat)) ∧ N.done c C

/-- A call of a function value, its arguments as values. -/
theorem u_callvx {E : En} {e : Nat} {fn : FuncId} {a : Act} {l : Lo} {K : Act → Lo → Prop} {ops : Array Oper} {j : Nat} {o : Oper} {f : FuncId} {x : Operand} {args : Array Operand} {ats : Array TypeId} {first cap : Array Value} {n : Nat} (vs : Array Value) (he : n + 1 ≤ e) (ho : ops[j]? = some o) (hw : Region.wanted o (yielded ops a.tmps) = true) (hop : o.op = .call { callee := .value x, args, argTypes := ats }) (hx : a.eval x = .func (.func f) first cap)
    (hv : first ++ args.map a.eval ++ cap = vs) (h : E.N f vs n l fun v l' => K (a.put o.dst v) l') : E.U e fn ops j K a l := u_callv he ho hw hop hx (by rw [hv]; exact h)

set_option maxHeartbeats 4000000 in
theorem kid10 (nt : Nat) : ∃ n, ∀ (N : Nest) (c b : Nat) (E : En) (l : Lo), Run9 N c nt → NestRo N l → N.raw c l.res.cells → Fit l → l.res.cells ⟨b, 0, none⟩ = some (.int .i64 (c : Nat)) → b ≠ N.R → b ≠ N.V →
    E.N 10 #[bpt N.bF, bpt b] n l fun v l' => ∃ x, v = .int .i64 x ∧ (x = 0 ∧ l'.res.cells ⟨b, 0, none⟩ = some (.int .i64 (c : Nat)) ∧ N.done c l'.res.cells) ∧ Kept (fun a => N.foot c a ∨ a = ⟨b, 0, none⟩) (fun _ => 0) (N.gets c) l l' := by
  refine ⟨_, fun N c b E l h9 hN hraw hfit hb hbR hbV => n_of_b (b_of (e := nt + 2) (L := 0) Try.func10 (by rfl) rfl ?_)⟩
  have hact := hfit.md
  simp only [act0, Try.ntmps10, List.size_toArray, List.length_cons, List.length_nil, Nat.reduceAdd, Nat.reduceSub, Array.replicate_succ, Array.replicate_zero, List.push_toArray, List.append_toArray, List.nil_append, List.cons_append]
  repeat (first
    | (refine c_seq ?_)
    | (refine c_region ?_
       simp only [List.size_toArray, List.length_cons, List.length_nil, Nat.reduceAdd, Nat.zero_add, List.range, List.range.loop])
    | (refine o_nil ?_
       simp only [Thn, Inb, if_true, if_false, reduceIte, Nat.reduceEqDiff])
    | (refine c_skip ?_
       simp only [Thn, Inb, if_true, if_false, reduceIte, Nat.reduceEqDiff])
    | (refine c_cond true (by rfl) (fun _ => ?_) (fun e => by cases e))
    | (refine c_cond false (by rfl) (fun e => by cases e) (fun _ => ?_))
    | (refine c_block ?_)
    | (refine c_label ?_
       simp only [Thn, Inb, if_true, if_false, reduceIte, Nat.reduceEqDiff])
    | (refine c_scope ?_)
    | (refine o_cons (u_read (by omega) hact rfl (by rfl) fun w hF K' hK' => ?_)
       go_simp
       refine hK' _ ⟨?_, ?_⟩
       focus
         rw [listed_nil]
         · simp
         · (simp [go_sem]; done)
       clear hK' K' hF w
       try walk_nrm)
    | (refine o_cons (u_unwanted (by omega) rfl (by rfl) ?_)
       try walk_nrm))
  refine o_cons (u_load N.fv (by omega) hact rfl (by rfl) rfl Try.underlying31 rfl rfl (.inr hN.bF) ?_)
  try walk_nrm
  refine o_cons (u_load (.int .i64 (c : Nat)) (by omega) hact rfl (by rfl) rfl Try.underlying3 rfl rfl (.inl hb) ?_)
  try walk_nrm
  refine o_cons (u_callvx (n := nt) #[.int .i64 (c : Nat), bpt N.bR, bpt N.bC, bpt N.bF, bpt N.bP, bpt N.bT, bpt N.bV] (by omega) rfl (by rfl) rfl rfl (by walk_nrm) ?_)
  refine (h9 E l hN hraw hfit).mono fun v l1 hp => ?_
  obtain ⟨rfl, hdone, hk⟩ := hp
  have hact1 := hk.ext.md
  try walk_nrm
  repeat (first
    | (refine c_seq ?_)
    | (refine c_region ?_
       simp only [List.size_toArray, List.length_cons, List.length_nil, Nat.reduceAdd, Nat.zero_add, List.range, List.range.loop])
    | (refine o_nil ?_
       simp only [Thn, Inb, if_true, if_false, reduceIte, Nat.reduceEqDiff])
    | (refine c_skip ?_
       simp only [Thn, Inb, if_true, if_false, reduceIte, Nat.reduceEqDiff])
    | (refine c_cond true (by rfl) (fun _ => ?_) (fun e => by cases e))
    | (refine c_cond false (by rfl) (fun e => by cases e) (fun _ => ?_))
    | (refine c_block ?_)
    | (refine c_label ?_
       simp only [Thn, Inb, if_true, if_false, reduceIte, Nat.reduceEqDiff])
    | (refine c_scope ?_)
    | (refine o_cons (u_read (by omega) hact1 rfl (by rfl) fun w hF K' hK' => ?_)
       go_simp
       refine hK' _ ⟨?_, ?_⟩
       focus
         rw [listed_nil]
         · simp
         · (simp [go_sem]; done)
       clear hK' K' hF w
       try walk_nrm)
    | (refine o_cons (u_unwanted (by omega) rfl (by rfl) ?_)
       try walk_nrm))
  refine c_ret ?_
  refine ⟨rfl, _, resultsC_tmp (by rfl) _, ?_⟩
  have hnf : ¬ N.foot c ⟨b, 0, none⟩ := fun h => by
    rcases Nest.foot_blk h with e | e
    · exact hbR e
    · exact hbV e
  exact ⟨0, rfl, ⟨rfl, by rw [hk.cell _ hnf (by rw [hb]; simp)]; exact hb, hdone⟩, hk.ext, fun a ha hne => hk.cell a (fun h => ha (.inl h)) hne, hk.tk, hk.wg, hk.wk, hk.ws, hk.gk, hk.ob, hk.sk⟩

theorem kid_runs (nt : Nat) : ∃ nr, ∀ (N : Nest) (c b : Nat) (l0 : Lo), Run9 N c nt → NestRo N l0 → N.raw c l0.res.cells → l0.res.cells ⟨b, 0, none⟩ = some (.int .i64 (c : Nat)) → b ≠ N.R → b ≠ N.V → RunOk l0 (.pointer (some ⟨N.p, 0, none⟩)) nr none (kidTask N c b) := by
  obtain ⟨n10, h10⟩ := kid10 nt
  obtain ⟨nr, h⟩ := runOk_pool n10
  refine ⟨nr, fun N c b l0 h9 hN hraw hb hbR hbV => ?_⟩
  refine h l0 N.p N.ch N.cap false none 10 #[] #[bpt N.bF, bpt b] (fun a => N.foot c a ∨ a = ⟨b, 0, none⟩) (fun _ => 0) (N.gets c) (fun y C => y = 0 ∧ C ⟨b, 0, none⟩ = some (.int .i64 (c : Nat)) ∧ N.done c C) hN.pl (fun a ha => ?_) (fun x C C' e h => ⟨h.1, by rw [← e _ (.inr rfl)]; exact h.2.1, h.2.2.of fun a ha => (e a (.inl ha)).symm⟩) ?_
  · rcases ha with ha | rfl
    · exact hraw.own a ha
    · rw [hb]; simp
  · intro E l e1 e2 e3 e4 e5 e6 e7
    have hfit : Fit l := ⟨e1.md, e1.df, e4, e6, fun c => by rcases e7 c with h | h | h <;> first | cases h | exact .inl h | exact .inr h⟩
    refine (h10 N c b E l h9 (hN.ext e1) (hraw.of fun a ha => e2 a (.inl ha)) hfit (by rw [e2 _ (.inr rfl)]; exact hb) hbR hbV).mono fun v l' hp => ?_
    obtain ⟨x, rfl, hp, hk⟩ := hp
    exact ⟨x, rfl, hp, hk, fun c hc => by cases hc⟩

/-- Do, for any number of tasks up to a bound. -/
theorem do_upto (nr : Nat) : ∀ B : Nat, ∃ N, ∀ (E : En) (D : DoPar) (c : Nat), 1 ≤ D.n → D.n ≤ B → D.n ≤ 1048576 → DoPre D (E.i = 0) → (∀ j, j < D.n → (D.ts j).v = .nilFunc ∨ ((∃ f first capv, (D.ts j).v = .func f first capv) ∧ RunOk D.l0 D.pv nr D.gc (D.ts j))) →
    E.N 11 #[D.pv, .slice (some D.A) D.n c] N D.l0 fun v l' => ∃ O u bp bo xs, v = .slice (some ⟨O, 0, none⟩) D.n D.n ∧ (∀ k, D.l0.res.cells ⟨O, k, none⟩ = none) ∧ DoPost { D with O := O, u := u, bp := bp, bo := bo } (E.i = 0) xs l' := by
  intro B
  induction B with
  | zero => exact ⟨0, fun E D c h1 h2 => by omega⟩
  | succ B ih =>
    obtain ⟨n1, h1⟩ := ih
    obtain ⟨n2, h2⟩ := do11 (B + 1) nr
    refine ⟨n1 + n2, fun E D c hp hn hs P hr => ?_⟩
    by_cases e : D.n = B + 1
    · have key := h2 E D c e (by omega) P (by rw [← e]; exact hr)
      rw [← e] at key
      exact key.more (by omega)
    · exact (h1 E D c hp (by omega) hs P hr).more (by omega)

theorem kid_sum (N : Nest) (H : ∀ x, 1 ≤ x → x < N.n → N.par x < x) {d : Nat} (hd : d < N.n) (k : Tk) : sumTo (kids N.n N.par d).length (fun j => N.gets ((kids N.n N.par d).getD j 0) k + bg1 N.p k) = N.gets d k := by
  have h1 : ∀ j, j < (kids N.n N.par d).length → N.gets ((kids N.n N.par d).getD j 0) k + bg1 N.p k = if k = .begun N.p then sz N.n N.par ((kids N.n N.par d).getD j 0) else 0 := fun j hj => by
    unfold Nest.gets bg1
    by_cases e : k = .begun N.p
    · rw [if_pos e, if_pos e, if_pos e]
      have hmem : (kids N.n N.par d).getD j 0 ∈ kids N.n N.par d := by
        rw [List.getD_eq_getElem?_getD, List.getElem?_eq_getElem hj]
        exact List.getElem_mem hj
      obtain ⟨_, c2, _⟩ := (mem_kids N.n N.par).1 hmem
      have := sz_eq H c2
      omega
    · rw [if_neg e, if_neg e, if_neg e]
  rw [sumTo_congr h1]
  unfold Nest.gets
  by_cases e : k = .begun N.p
  · simp only [if_pos e]
    rw [tr_list (kids N.n N.par d) (sz N.n N.par)]
    have := sz_eq H hd
    omega
  · simp only [if_neg e]
    exact tr_zero _

theorem kidTask_ok (N : Nest) (c b : Nat) : (kidTask N c b).Ok where
  loc x C C' e h := ⟨h.1, by rw [← e _ (.inr rfl)]; exact h.2.1, h.2.2.of fun a ha => (e a (.inl ha)).symm⟩
  own x C h a ha := by
    rcases ha with ha | rfl
    · exact h.2.2.own a ha
    · rw [h.2.1]; simp
  slot p := ⟨rfl, by simp [kidTask, Nest.gets, bg1]⟩
  alive p := ⟨rfl, by simp [kidTask, Nest.gets, bg1]⟩
  gm c := ⟨rfl, by simp [kidTask, Nest.gets, bg1]⟩
  tr c := by simp [kidTask, Nest.gets, bg1]

/-- A row of children's tasks, ahead of Do. -/
structure KidAt (N : Nest) (l : Lo) (d g : Nat) (bx : Nat → Nat) : Prop where
  row : ∀ j, j < (kids N.n N.par d).length → l.res.cells ⟨g, j, none⟩ = some (kidTask N ((kids N.n N.par d).getD j 0) (bx j)).v
  box : ∀ j, j < (kids N.n N.par d).length → l.res.cells ⟨bx j, 0, none⟩ = some (.int .i64 ((kids N.n N.par d).getD j 0 : Nat))
  bR : ∀ j, j < (kids N.n N.par d).length → bx j ≠ N.R ∧ bx j ≠ N.V ∧ bx j ≠ g
  inj : ∀ i j, i < (kids N.n N.par d).length → j < (kids N.n N.par d).length → i ≠ j → bx i ≠ bx j
  gR : g ≠ N.R ∧ g ≠ N.V

/-- What Do leaves of them. -/
structure KidDone (N : Nest) (l l' : Lo) (d : Nat) (bx : Nat → Nat) : Prop where
  done : ∀ c, c ∈ kids N.n N.par d → N.done c l'.res.cells
  kept : Kept (fun a => (∃ c, c ∈ kids N.n N.par d ∧ N.foot c a) ∨ ∃ j, j < (kids N.n N.par d).length ∧ a = ⟨bx j, 0, none⟩) (fun _ => 0) (N.gets d) l l'

theorem getD_mem {L : List Nat} {j : Nat} (h : j < L.length) : L.getD j 0 ∈ L := by
  rw [List.getD_eq_getElem?_getD, List.getElem?_eq_getElem h]
  exact List.getElem_mem h
theorem getD_ne {L : List Nat} (hL : L.Nodup) {i j : Nat} (hi : i < L.length) (hj : j < L.length) (hne : i ≠ j) : L.getD i 0 ≠ L.getD j 0 := by
  rw [List.getD_eq_getElem?_getD, List.getElem?_eq_getElem hi, List.getD_eq_getElem?_getD, List.getElem?_eq_getElem hj]
  intro e
  exact hne ((List.getElem_inj hL).1 e)

theorem do_kids (nt : Nat) : ∃ nd, ∀ (N : Nest) (d : Nat) (E : En) (l : Lo) (g c9 : Nat) (bx : Nat → Nat), d < N.n → 1 ≤ (kids N.n N.par d).length → (∀ c, c ∈ kids N.n N.par d → Run9 N c nt) → NestRo N l → (∀ c, c ∈ kids N.n N.par d → N.raw c l.res.cells) → Fit l → KidAt N l d g bx →
    E.N 11 #[.pointer (some ⟨N.p, 0, none⟩), .slice (some ⟨g, 0, none⟩) (kids N.n N.par d).length c9] nd l fun v l' => (∃ O, v = .slice (some ⟨O, 0, none⟩) (kids N.n N.par d).length (kids N.n N.par d).length ∧ ∀ j, j < (kids N.n N.par d).length → l'.res.cells ⟨O, j, none⟩ = some (.int .i64 0)) ∧ KidDone N l l' d bx := by
  obtain ⟨nr, hr⟩ := kid_runs nt
  obtain ⟨nd, hd⟩ := do_upto nr 256
  refine ⟨nd, fun N d E l g c9 bx hdn hlen h9 hN hraw hfit K => ?_⟩
  obtain ⟨L, hL⟩ : ∃ L, L = kids N.n N.par d := ⟨_, rfl⟩
  have hmem : ∀ j, j < L.length → L.getD j 0 ∈ kids N.n N.par d := fun j hj => by rw [← hL]; exact getD_mem hj
  have hnd : L.Nodup := by rw [hL]; exact kids_nodup _ _ _
  have hsm : L.length ≤ 256 := by
    rw [hL]
    exact Nat.le_trans (Nat.le_trans (List.length_filter_le _ _) (Nat.le_of_eq List.length_range)) hN.small
  have hsum := kid_sum N hN.ok hdn
  obtain ⟨k1, k2, k3, k4, k5⟩ := K
  rw [← hL] at k1 k2 k3 k4 hlen h9 hraw hsum ⊢
  obtain ⟨D, hD⟩ : ∃ D : DoPar, D = { n := L.length, ts := fun j => kidTask N (L.getD j 0) (bx j), A := ⟨g, 0, none⟩, l0 := l, pool := true, p := N.p, ch := N.ch, cap := N.cap, so := false, gc := none, O := 0, u := 0, bp := 0, bo := 0 } := ⟨_, rfl⟩
  have P : DoPre D (E.i = 0) := by
    rw [hD]
    exact {
      pos := hlen
      act := hfit.md
      df := hfit.df
      cellA := fun j hj => by
        refine ⟨by rw [Addr.add_lit, Nat.zero_add]; exact k1 j hj, fun i hi hf => ?_⟩
        rw [Addr.add_lit] at hf
        rcases hf with hf | hf
        · rcases Nest.foot_blk hf with e | e
          · exact k5.1 e
          · exact k5.2 e
        · exact (k3 i hi).2.2 (congrArg Addr.block hf).symm
      ok := fun j _ => kidTask_ok _ _ _
      nil := fun j _ hv => by cases hv
      own := fun j hj a ha => by
        rcases ha with ha | rfl
        · exact (hraw _ (getD_mem hj)).own a ha
        · rw [k2 j hj]; simp
      disj := fun i j hi hj hne a h1 h2 => by
        rcases h1 with h1 | rfl <;> rcases h2 with h2 | h2
        · exact Nest.foot_apart hN.ok hN.RV (hmem i hi) (hmem j hj) (getD_ne hnd hi hj hne) h1 h2
        · rw [h2] at h1
          rcases Nest.foot_blk h1 with e | e
          · exact (k3 j hj).1 e
          · exact (k3 j hj).2.1 e
        · rcases Nest.foot_blk h2 with e | e
          · exact (k3 i hi).1 e
          · exact (k3 i hi).2.1 e
        · exact k4 i j hi hj hne (congrArg Addr.block h2)
      slots := hfit.slot
      gm := hfit.gm
      tr := fun c => by rw [hfit.tr]; exact (sumTo_zero fun _ _ => rfl).symm
      T := fun k => Nat.le_trans (Nat.le_of_eq (sumTo_zero fun _ _ => rfl)) (Nat.zero_le _)
      nop := fun _ => rfl
      isp := fun _ => ⟨hN.pl, hN.pch, hN.cap1⟩
      free := fun _ => ⟨rfl, fun _ _ _ => rfl⟩
      gate := fun c hc => by cases hc }
  have hrun : ∀ j, j < D.n → (D.ts j).v = .nilFunc ∨ ((∃ f first capv, (D.ts j).v = .func f first capv) ∧ RunOk D.l0 D.pv nr D.gc (D.ts j)) := by
    rw [hD]
    intro j hj
    refine .inr ⟨⟨_, _, _, rfl⟩, ?_⟩
    have := hr N (L.getD j 0) (bx j) l (h9 _ (getD_mem hj)) hN (hraw _ (getD_mem hj)) (k2 j hj) (k3 j hj).1 (k3 j hj).2.1
    exact this
  have key := hd E D c9 (by rw [hD]; exact hlen) (by rw [hD]; exact hsm) (by rw [hD]; show L.length ≤ _; omega) P hrun
  rw [hD] at key
  refine En.N.mono key fun v l' hp => ?_
  obtain ⟨O, u, bp, bo, xs, rfl, hO, Q⟩ := hp
  have hpost : ∀ j, j < L.length → xs j = 0 ∧ l'.res.cells ⟨bx j, 0, none⟩ = some (.int .i64 (L.getD j 0 : Nat)) ∧ N.done (L.getD j 0) l'.res.cells := fun j hj => (Q.out j hj).2.2 (by simp [kidTask])
  refine ⟨⟨O, rfl, fun j hj => ?_⟩, fun c hc => ?_, ?_⟩
  · have := (Q.out j hj).1
    rw [(hpost j hj).1] at this
    exact this
  · rw [← hL] at hc
    obtain ⟨j, hj, e⟩ := List.mem_iff_getElem.1 hc
    have := (hpost j hj).2.2
    rw [List.getD_eq_getElem?_getD, List.getElem?_eq_getElem hj, Option.getD_some, e] at this
    exact this
  · rw [← hL]
    exact {
      ext := Q.ext
      cell := fun a ha hne => Q.rest a (fun j hj hf => ha (hf.imp (fun h => ⟨_, getD_mem hj, h⟩) fun h => ⟨j, hj, h⟩)) hne
      tk := fun k => by
        by_cases e : ∃ c, k = .gm c
        · obtain ⟨c, rfl⟩ := e
          rw [Q.gm c (by simp)]
          simp [Nest.gets]
        · have h1 : l'.res.tk k + sumTo L.length (fun _ => 0) = l.res.tk k + sumTo L.length (fun j => N.gets (L.getD j 0) k + bg1 N.p k) := Q.tk k (fun c h => e ⟨c, h⟩)
          rw [sumTo_zero (fun _ _ => rfl), hsum k] at h1
          exact h1
      wg := Q.wg
      wk := Q.wk
      ws := Q.ws
      gk := funext fun c => Q.gk c (by simp)
      ob := Q.ob
      sk := fun q hq => Q.sk q hq fun _ e => by rw [e] at hq; exact hq _ _ hN.pl }
end Go.Proofs.Ytofohjbcgchhoaa

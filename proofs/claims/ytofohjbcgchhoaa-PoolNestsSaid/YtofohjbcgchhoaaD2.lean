/-
  STEPS, on: atomic operations of the shared cells.
-/
import Derived.Test.YtofohjbcgchhoaaD
namespace Go.Proofs.Ytofohjbcgchhoaa
open Go.Conc
open Go.RowKit
open Go.ConcN (sumTo upd sumTo_upd upd_ne upd_same sumTo_congr le_sumTo)

/-- Events of a goroutine that is deaf: marks that are mute; atomic operations while it hears nothing. -/
def DeafOk : Nat → List Event → Prop
  | _, [] => True
  | d, e :: es => (e.mute = true ∨ (d ≠ 0 ∧ ∃ a wr, e = ⟨.cell a, wr, true⟩)) ∧ DeafOk (deafBehind d #[e]) es

section
variable {N B : Nat} {f : Nat → Tg} {AT : Addr → Prop} {sd : Addr → Nat} {t : Trace}

theorem Disj.df (D : Disj N f AT) (i d : Nat) : Disj N (fun j => if j = i then { f i with df := d } else f j) AT := by
  have key : ∀ j, (if j = i then { f i with df := d } else f j).ex = (f j).ex ∧ (if j = i then { f i with df := d } else f j).rd = (f j).rd ∧ (if j = i then { f i with df := d } else f j).jn = (f j).jn ∧ (if j = i then { f i with df := d } else f j).st = (f j).st := fun j => by
    by_cases e : j = i
    · subst e; simp
    · simp [e]
  exact ⟨fun a b ha hb hne x => by rw [(key a).1, (key b).1]; exact D.ex a b ha hb hne x, fun a b ha hb x => by rw [(key a).1, (key b).2.1]; exact D.rd a b ha hb x, fun a ha x => by rw [(key a).1]; exact D.exAT a ha x, fun a ha x => by rw [(key a).2.1]; exact D.rdAT a ha x, fun a b ha hb hne => by rw [(key a).2.2.2, (key b).2.2.1]; exact D.self a b ha hb hne⟩

/-- A row of own operations. -/
theorem TInv.evs (fn : FuncId) (pos : String) {i : Nat} (hi : i < N) : ∀ (es : List Event) (f : Nat → Tg) (t : Trace), TInv N B f AT sd t → Disj N f AT → (∀ e ∈ es, OkEv (f i) AT sd i B e) → ((f i).st = .act ∨ DeafOk (f i).df es) →
    TInv N B (fun j => if j = i then { f i with df := deafBehind (f i).df es.toArray } else f j) AT sd (t ++ MemOp.ofEvents i fn pos es.toArray) := by
  intro es
  induction es with
  | nil =>
    intro f t h D _ _
    have e1 : (fun j => if j = i then { f i with df := deafBehind (f i).df #[] } else f j) = f := by
      funext j
      by_cases e : j = i
      · subst e; simp [deafBehind_nil]
      · simp [e]
    have e2 : t ++ MemOp.ofEvents i fn pos #[] = t := by simp [MemOp.ofEvents]
    rw [show ([] : List Event).toArray = #[] from rfl, e1, e2]
    exact h
  | cons x xs ih =>
    intro f t h D hok hs
    have hops : ∀ op ∈ MemOp.ofEvents i fn pos #[x], op.g = i ∧ op.act = .ofEvent x := fun op hop => by
      rw [ofEvents_eq] at hop
      obtain ⟨e, he, rfl⟩ := Array.mem_map.1 hop
      have he : e = x := by simpa using he
      subst he
      exact ⟨rfl, rfl⟩
    have h1 := h.own D hi (u := MemOp.ofEvents i fn pos #[x]) (fun op hop => (hops op hop).1) (fun op hop => by rw [(hops op hop).2]; exact okAct_of (hok x (by simp))) (by
        rcases hs with hs | hs
        · exact .inl hs
        · refine .inr fun k hk hc => ?_
          obtain ⟨y, hy, _, hya⟩ := hc
          obtain ⟨op, hop, hox⟩ := touch_of hy
          rcases getElem?_append_cases hop with ⟨h1, _⟩ | ⟨h1, h2⟩
          · omega
          · obtain ⟨hg, hx'⟩ := hops op h2
            rw [hx'] at hox
            rcases hs.1 with hm | ⟨hd, a, wr, he⟩
            · rw [(mute_ok (g := f i) (AT := AT) (sd := sd) (i := i) (B := 0) hm).2] at hox; cases hox
            · have hk' : k = t.size := by
                have hlt := (Array.getElem?_eq_some_iff.1 hop).1
                rw [Array.size_append, ofEvents_eq, Array.size_map] at hlt
                have : (#[x] : Array Event).size = 1 := rfl
                omega
              subst hk'
              rcases hya with hya | ⟨g, hg', hde⟩
              · rw [he] at hox
                simp only [MemAct.ofEvent, MemAct.touch?, Option.some.injEq] at hox
                rw [← hox] at hya
                simp at hya
              · have : g = i := by
                  rw [g?_new hop, hg] at hg'
                  cases hg'; rfl
                subst this
                rw [deaf_old (Nat.le_refl _)] at hde
                exact hd (by rw [← h.df g hi]; exact hde)) (d := deafBehind (f i).df #[x]) (by rw [Deaf_own, h.df i hi]) (by
        rcases hs with hs | hs
        · exact .inl hs
        · refine .inr fun op hop y hy => ?_
          rw [(hops op hop).2] at hy
          rcases hs.1 with hm | ⟨hd, a, wr, he⟩
          · rw [(mute_ok (g := f i) (AT := AT) (sd := sd) (i := i) (B := 0) hm).2] at hy; cases hy
          · rw [he] at hy
            simp only [MemAct.ofEvent, MemAct.touch?, Option.some.injEq] at hy
            rw [← hy]
            simp)
    have h2 := ih _ _ h1 (D.df i _) (fun e he => by
      have := hok e (by simp [he])
      simp only [if_true]
      obtain ⟨loc, wr, sy⟩ := e
      exact this) (by
      rcases hs with hs | hs
      · exact .inl (by simpa using hs)
      · exact .inr (by simpa using hs.2))
    have e1 : (x :: xs).toArray = #[x] ++ xs.toArray := by simp
    have e2 : t ++ MemOp.ofEvents i fn pos (x :: xs).toArray = t ++ MemOp.ofEvents i fn pos #[x] ++ MemOp.ofEvents i fn pos xs.toArray := by
      rw [e1, ofEvents_eq, ofEvents_eq, ofEvents_eq, Array.map_append, Array.append_assoc]
    have e3 : ∀ d, deafBehind d (x :: xs).toArray = deafBehind (deafBehind d #[x]) xs.toArray := fun d => by
      rw [e1]; simp [deafBehind]
    rw [e2]
    have e4 : (fun j => if j = i then { f i with df := deafBehind (f i).df (x :: xs).toArray } else f j) = (fun j => if j = i then { (if i = i then { f i with df := deafBehind (f i).df #[x] } else f i) with df := deafBehind (if i = i then { f i with df := deafBehind (f i).df #[x] } else f i).df xs.toArray } else (if j = i then { f i with df := deafBehind (f i).df #[x] } else f j)) := by
      funext j
      by_cases e : j = i
      · subst e; simp [e3]
      · simp [e]
    rw [e4]
    exact h2
end

section
variable {B0 : Nat} {w0 : World} {γ γ' : Gh} {w w' : World} {t : Trace}

/-- AN OPERATION ON SHARED CELLS: what is owned stays as it was. -/
theorem Whole.atom (h : Whole B0 w0 γ w t) {i : Nat} (hi : i < γ.N) {es : Array Event} (fn : FuncId) (pos : String) (hN : γ'.N = γ.N) (hlo : ∀ j, j ≠ i → γ'.lo j = γ.lo j) (hc : (γ'.lo i).res.cells = (γ.lo i).res.cells) (hro : (γ'.lo i).ro = (γ.lo i).ro)
    (hst : (γ'.lo i).md.st = (γ.lo i).md.st) (hjn : (γ'.lo i).jn = (γ.lo i).jn) (hAT : AT γ' = AT γ) (hsd : sd γ' = sd γ) (hm : Mem B0 w0 γ' w') (hn : Nums γ') (ht : Team γ') (hsz : w'.heap.size = w.heap.size)
    (hd : (γ'.lo i).df = deafBehind (γ.lo i).df es) (hok : ∀ e ∈ es, OkEv (γ.lo i).tg (AT γ) (sd γ) i w.heap.size e) (hs : (γ.lo i).md = .act ∨ DeafOk (γ.lo i).df es.toList) : Whole B0 w0 γ' w' (t ++ MemOp.ofEvents i fn pos es) := by
  have hcell : ∀ j, (γ'.lo j).res.cells = (γ.lo j).res.cells := fun j => by
    by_cases e : j = i
    · subst e; exact hc
    · rw [hlo j e]
  have hro' : ∀ j, (γ'.lo j).ro = (γ.lo j).ro := fun j => by
    by_cases e : j = i
    · subst e; exact hro
    · rw [hlo j e]
  refine ⟨hm, ?_, hn, ht, ?_⟩
  · have o := h.own
    exact ⟨fun a b ha hb hne x hx => by rw [hN] at ha hb; rw [hcell] at hx ⊢; exact o.ex a b ha hb hne x hx, fun a b ha hb x v hx hv => by rw [hN] at ha hb; rw [hcell] at hx; rw [hro'] at hv; exact o.exro a b ha hb x v hx hv,
      fun a ha x hx => by rw [hN] at ha; rw [hcell] at hx; rw [hAT]; exact o.exAT a ha x hx, fun a ha x v hx => by rw [hN] at ha; rw [hro'] at hx; rw [hAT]; exact o.roAT a ha x v hx⟩
  · have h1 := TInv.evs fn pos hi es.toList _ _ h.tr (h.own.disj h.team) (fun e he => hok e (by simpa using he)) (by
      rcases hs with hs | hs
      · exact .inl (by simp [Lo.tg, hs, Md.st])
      · exact .inr hs)
    rw [Array.toArray_toList] at h1
    have e1 : (fun j => if j = i then { (γ.lo i).tg with df := deafBehind (γ.lo i).tg.df es } else (γ.lo j).tg) = fun j => (γ'.lo j).tg := by
      funext j
      by_cases e : j = i
      · subst e
        simp only [if_true, Lo.tg, hc, hro, hst, hjn, hd]
      · rw [if_neg e, hlo j e]
    rw [e1] at h1
    rw [hN, hsz, hAT, hsd]
    exact h1

theorem setCell_cell_ne {a b : Addr} (v : Value) (h : a ≠ b) : (w.setCell a v).cell? b = w.cell? b := by apply World.cell?_setCell_other; exact h
theorem setCell_chan {a : Addr} (v : Value) {c cap : Nat} {buf : Array Value} {cl : Bool} {s r : Nat} {tm : Bool} (h : w.heap[c]? = some (.chan cap buf cl s r tm)) : (w.setCell a v).heap[c]? = some (.chan cap buf cl s r tm) := (Near.setCell w a v).chan _ _ _ _ _ _ _ h

/-- A store into a shared cell. -/
theorem Mem.setAt (h : Whole B0 w0 γ w t) (ad : Addr) (hAT : AT γ ad) (hB : B0 ≤ ad.block) (v : Value) (hN : γ'.N = γ.N) (hc : ∀ j, j < γ.N → (γ'.lo j).res.cells = (γ.lo j).res.cells) (hro : ∀ j, j < γ.N → (γ'.lo j).ro = (γ.lo j).ro) (hoc : ∀ j, j < γ.N → (γ'.lo j).oc = (γ.lo j).oc)
    (hpool : ∀ p G', γ'.pool p = some G' → ∃ G, γ.pool p = some G ∧ G'.ch = G.ch ∧ G'.cap = G.cap ∧ (ad = ⟨p, 1, none⟩ → v = .int .i64 (γ'.sum (.alive p) : Nat)) ∧ (ad ≠ ⟨p, 1, none⟩ → γ'.sum (.alive p) = γ.sum (.alive p)) ∧ (ad = ⟨p, 2, none⟩ → v = .int .i64 (G'.pk : Nat)) ∧ (ad ≠ ⟨p, 2, none⟩ → G'.pk = G.pk) ∧
      (ad = ⟨p, 3, none⟩ → v = .int .i64 (IntKind.i64.wrap (γ'.sum (.begun p) : Nat))) ∧ (ad ≠ ⟨p, 3, none⟩ → IntKind.i64.wrap (γ'.sum (.begun p) : Nat) = IntKind.i64.wrap (γ.sum (.begun p) : Nat)) ∧ γ'.sum (.slot p) = γ.sum (.slot p))
    (hwg : ∀ u G', γ'.wg u = some G' → ∃ G, γ.wg u = some G ∧ (ad = ⟨u, 0, none⟩ → v = .int .u64 ((γ'.cnt u * 4294967296 + wtOf G'.ph : Nat) : Int)) ∧ (ad ≠ ⟨u, 0, none⟩ → γ'.cnt u * 4294967296 + wtOf G'.ph = γ.cnt u * 4294967296 + wtOf G.ph) ∧ (ad = ⟨u, 1, none⟩ → v = .int .u32 (smOf G'.ph : Nat)) ∧ (ad ≠ ⟨u, 1, none⟩ → smOf G'.ph = smOf G.ph))
    (hgate : ∀ c G', γ'.gate c = some G' → ∃ G, γ.gate c = some G ∧ G'.bg = G.bg ∧ G'.closed = G.closed ∧ (ad = ⟨G.bg, 0, none⟩ → v = .int .i64 (γ'.sum (.tb c) : Nat)) ∧ (ad ≠ ⟨G.bg, 0, none⟩ → γ'.sum (.tb c) = γ.sum (.tb c))) : Mem B0 w0 γ' (w.setCell ad v) := by
  have hcl : ∀ {b : Addr} {x : Value}, w.cell? b = some x → b = ad → (w.setCell ad v).cell? b = some v := fun {b x} hb e => by subst e; exact World.cell?_setCell_same _ _ _ hb
  have hfr : ∀ b, (w.setCell ad v).frozen? b = w.frozen? b := fun b => by simp
  exact {
    bel := h.mem.bel.trans ⟨rfl, rfl, rfl, by simp [World.setCell], fun k hk => Below.heap_setCell _ _ _ _ (by omega)⟩
    big := by have := h.mem.big; simpa [World.setCell] using this
    cell := fun j hj a x hx => by
      rw [hN] at hj
      rw [hc j hj] at hx
      obtain ⟨h1, h2, h3⟩ := h.mem.cell j hj a x hx
      have hne : ad ≠ a := fun e => h.own.exAT j hj a (by rw [hx]; simp) (e ▸ hAT)
      exact ⟨by rw [setCell_cell_ne v hne]; exact h1, by rw [hfr]; exact h2, h3⟩
    ro := fun j hj a x hx => by
      rw [hN] at hj
      rw [hro j hj] at hx
      have hne : ad ≠ a := fun e => h.own.roAT j hj a x hx (e ▸ hAT)
      rw [setCell_cell_ne v hne]; exact h.mem.ro j hj a x hx
    pool := fun p G' hG' => by
      obtain ⟨G, hG, e1, e2, e3, e4, e5, e6, e7, e8, e9⟩ := hpool p G' hG'
      obtain ⟨h1, h2, h3, h4, h5, h6, buf, s, r, h7, h8⟩ := h.mem.pool p G hG
      refine ⟨h1, ?_, ?_, ?_, fun j => by rw [hfr]; exact h5 j, by rw [e1]; exact h6, buf, s, r, by rw [e1, e2]; exact setCell_chan v h7, by rw [e9]; exact h8⟩
      · by_cases e : ad = ⟨p, 1, none⟩
        · rw [hcl h2 e.symm, e3 e]
        · rw [setCell_cell_ne v e, e4 e]; exact h2
      · by_cases e : ad = ⟨p, 2, none⟩
        · rw [hcl h3 e.symm, e5 e]
        · rw [setCell_cell_ne v e, e6 e]; exact h3
      · by_cases e : ad = ⟨p, 3, none⟩
        · rw [hcl h4 e.symm, e7 e]
        · rw [setCell_cell_ne v e, e8 e]; exact h4
    oc := fun j hj c cap e => by
      rw [hN] at hj
      rw [hoc j hj] at e
      obtain ⟨h1, h2⟩ := h.mem.oc j hj c cap e
      exact ⟨h1, setCell_chan v h2⟩
    wg := fun u G' hG' => by
      obtain ⟨G, hG, e1, e2, e3, e4⟩ := hwg u G' hG'
      obtain ⟨h1, h2, h3, h4⟩ := h.mem.wg u G hG
      refine ⟨h1, ?_, ?_, fun j => by rw [hfr]; exact h4 j⟩
      · by_cases e : ad = ⟨u, 0, none⟩
        · rw [hcl h2 e.symm, e1 e]
        · rw [setCell_cell_ne v e, e2 e]; exact h2
      · by_cases e : ad = ⟨u, 1, none⟩
        · rw [hcl h3 e.symm, e3 e]
        · rw [setCell_cell_ne v e, e4 e]; exact h3
    gate := fun c G' hG' => by
      obtain ⟨G, hG, e1, e2, e3, e4⟩ := hgate c G' hG'
      obtain ⟨h1, h2, h3, h4, h5⟩ := h.mem.gate c G hG
      refine ⟨h1, by rw [e1]; exact h2, by rw [e2]; exact setCell_chan v h3, ?_, fun j => by rw [hfr, e1]; exact h5 j⟩
      rw [e1]
      by_cases e : ad = ⟨G.bg, 0, none⟩
      · rw [hcl h4 e.symm, e3 e]
      · rw [setCell_cell_ne v e, e4 e]; exact h4 }

/-- Sums, where one share is another. -/
theorem sumTo_one {N i : Nat} (hi : i < N) (f g : Nat → Nat) (h : ∀ j, j ≠ i → g j = f j) : sumTo N g + f i = sumTo N f + g i := by
  induction N with
  | zero => omega
  | succ n ih =>
    show sumTo n g + g n + f i = sumTo n f + f n + g i
    by_cases e : i = n
    · subst e
      have : sumTo i g = sumTo i f := sumTo_congr fun j hj => h j (by omega)
      omega
    · have := ih (by omega)
      have := h n (fun x => e x.symm)
      omega
theorem sum_set (γ : Gh) {i : Nat} (hi : i < γ.N) (l : Lo) (k : Tk) : (γ.set i l).sum k + (γ.lo i).res.tk k = γ.sum k + l.res.tk k := by
  have := sumTo_one hi (fun j => (γ.lo j).res.tk k) (fun j => ((γ.set i l).lo j).res.tk k) (fun j e => by rw [set_ne γ l e])
  simp only [set_same] at this
  exact this
theorem cnt_set (γ : Gh) {i : Nat} (hi : i < γ.N) (l : Lo) (u : Nat) : (γ.set i l).cnt u + (γ.lo i).wk u = γ.cnt u + l.wk u := by
  have := sumTo_one hi (fun j => (γ.lo j).wk u) (fun j => ((γ.set i l).lo j).wk u) (fun j e => by rw [set_ne γ l e])
  simp only [set_same] at this
  exact this
theorem le_sum (γ : Gh) {i : Nat} (hi : i < γ.N) (k : Tk) : (γ.lo i).res.tk k ≤ γ.sum k := le_sumTo (f := fun j => (γ.lo j).res.tk k) hi
end
end Go.Proofs.Ytofohjbcgchhoaa

/-
  STEPS, on: a new pool, a new group, a new gate.
-/
import Derived.Test.YtofohjbcgchhoaaD13
namespace Go.Proofs.Ytofohjbcgchhoaa
open Go.Conc
open Go.RowKit
open Go.ConcN (sumTo sumTo_congr le_sumTo)

section
variable {B0 : Nat} {w0 : World} {PP : Value → World → Prop} {γ γ' : Gh} {w : World} {t : Trace} {i : Nat}

def PoolOk (B0 : Nat) (γ : Gh) (w : World) (p : Nat) (G : PoolG) : Prop :=
  B0 ≤ p ∧ w.cell? ⟨p, 1, none⟩ = some (.int .i64 (γ.sum (.alive p) : Nat)) ∧ w.cell? ⟨p, 2, none⟩ = some (.int .i64 (G.pk : Nat)) ∧
    w.cell? ⟨p, 3, none⟩ = some (.int .i64 (IntKind.i64.wrap (γ.sum (.begun p) : Nat))) ∧ (∀ j, w.frozen? ⟨p, j, none⟩ = false) ∧ B0 ≤ G.ch ∧ (∃ buf s r, w.heap[G.ch]? = some (.chan G.cap buf false s r false) ∧ buf.size = γ.sum (.slot p))
def WgOk (B0 : Nat) (γ : Gh) (w : World) (u : Nat) (G : WgG) : Prop :=
  B0 ≤ u ∧ w.cell? ⟨u, 0, none⟩ = some (.int .u64 ((γ.cnt u * 4294967296 + wtOf G.ph : Nat) : Int)) ∧ w.cell? ⟨u, 1, none⟩ = some (.int .u32 (smOf G.ph : Nat)) ∧ ∀ j, w.frozen? ⟨u, j, none⟩ = false
def GateOk (B0 : Nat) (γ : Gh) (w : World) (c : Nat) (G : GateG) : Prop :=
  B0 ≤ c ∧ B0 ≤ G.bg ∧ w.heap[c]? = some (.chan 0 #[] G.closed 0 0 false) ∧ w.cell? ⟨G.bg, 0, none⟩ = some (.int .i64 (γ.sum (.tb c) : Nat)) ∧ ∀ j, w.frozen? ⟨G.bg, j, none⟩ = false

theorem alloc_old {a : Addr} {v : Value} (o : Obj) (h : w.cell? a = some v) : (w.alloc o).cell? a = some v := by
  rw [World.cell?_alloc_old _ _ _ (Nat.ne_of_lt (lt_of_cell h))]; exact h
theorem alloc_oldf (a : Addr) (o : Obj) (h : a.block < w.heap.size) : (w.alloc o).frozen? a = w.frozen? a := (Near.alloc (fun _ => False) w o).froz a h
theorem alloc_chan {c cap : Nat} {buf : Array Value} {cl : Bool} {s r : Nat} {tm : Bool} (o : Obj) (h : w.heap[c]? = some (.chan cap buf cl s r tm)) : (w.alloc o).heap[c]? = some (.chan cap buf cl s r tm) := (Near.alloc (fun _ => False) w o).chan _ _ _ _ _ _ _ h

/-- A new block: what was there stands. -/
theorem Mem.grow (h : Mem B0 w0 γ w) (o : Obj) (hN : γ'.N = γ.N) (hc : ∀ j, j < γ.N → (γ'.lo j).res.cells = (γ.lo j).res.cells) (hro : ∀ j, j < γ.N → ∀ a v, (γ'.lo j).ro a v → (γ.lo j).ro a v ∨ (w.alloc o).cell? a = some v) (hoc : ∀ j, j < γ.N → ∀ c cap, (γ'.lo j).oc c = some cap → (γ.lo j).oc c = some cap)
    (hp : ∀ p G, γ'.pool p = some G → (γ.pool p = some G ∧ γ'.sum (.alive p) = γ.sum (.alive p) ∧ γ'.sum (.begun p) = γ.sum (.begun p) ∧ γ'.sum (.slot p) = γ.sum (.slot p)) ∨ PoolOk B0 γ' (w.alloc o) p G) (hw : ∀ u G, γ'.wg u = some G → (γ.wg u = some G ∧ γ'.cnt u = γ.cnt u) ∨ WgOk B0 γ' (w.alloc o) u G)
    (hg : ∀ c G, γ'.gate c = some G → (γ.gate c = some G ∧ γ'.sum (.tb c) = γ.sum (.tb c)) ∨ GateOk B0 γ' (w.alloc o) c G) : Mem B0 w0 γ' (w.alloc o) where
  bel := h.bel.alloc h.big o
  big := Nat.le_trans h.big (Near.alloc (fun _ => False) w o).size
  cell j hj a v e := by
    rw [hN] at hj
    rw [hc j hj] at e
    obtain ⟨h1, h2, h3⟩ := h.cell j hj a v e
    exact ⟨alloc_old o h1, by rw [alloc_oldf a o (lt_of_cell h1)]; exact h2, h3⟩
  ro j hj a v e := by
    rw [hN] at hj
    rcases hro j hj a v e with e | e
    · exact alloc_old o (h.ro j hj a v e)
    · exact e
  pool p G hG := by
    rcases hp p G hG with ⟨h0, e1, e2, e3⟩ | h0
    · obtain ⟨h1, h2, h3, h4, h5, h6, buf, s, r, h7, h8⟩ := h.pool p G h0
      rw [e1, e2, e3]
      exact ⟨h1, alloc_old o h2, alloc_old o h3, alloc_old o h4, fun j => by rw [alloc_oldf ⟨p, j, none⟩ o (lt_of_cell2 h2)]; exact h5 j, h6, buf, s, r, alloc_chan o h7, h8⟩
    · exact h0
  oc j hj c cap e := by
    rw [hN] at hj
    obtain ⟨h1, h2⟩ := h.oc j hj c cap (hoc j hj c cap e)
    exact ⟨h1, alloc_chan o h2⟩
  wg u G hG := by
    rcases hw u G hG with ⟨h0, e1⟩ | h0
    · obtain ⟨h1, h2, h3, h4⟩ := h.wg u G h0
      rw [e1]
      exact ⟨h1, alloc_old o h2, alloc_old o h3, fun j => by rw [alloc_oldf ⟨u, j, none⟩ o (lt_of_cell2 h2)]; exact h4 j⟩
    · exact h0
  gate c G hG := by
    rcases hg c G hG with ⟨h0, e1⟩ | h0
    · obtain ⟨h1, h2, h3, h4, h5⟩ := h.gate c G h0
      rw [e1]
      exact ⟨h1, h2, alloc_chan o h3, alloc_old o h4, fun j => by rw [alloc_oldf ⟨G.bg, j, none⟩ o (lt_of_cell2 h4)]; exact h5 j⟩
    · exact h0

/-- A new block whose cells are shared from the first. -/
theorem Whole.opens (h : Whole B0 w0 γ w t) (o : Obj) (hN : γ'.N = γ.N) (hlo : ∀ j, j ≠ i → γ'.lo j = γ.lo j) (hc : (γ'.lo i).res.cells = (γ.lo i).res.cells) (hro : ∀ a v, (γ'.lo i).ro a v → (γ.lo i).ro a v ∨ (a.block = w.heap.size ∧ ¬ AT γ' a)) (hst : (γ'.lo i).md.st = (γ.lo i).md.st) (hdf : (γ'.lo i).df = (γ.lo i).df) (hjn : (γ'.lo i).jn = (γ.lo i).jn)
    (hAT : ∀ a, AT γ' a → (AT γ a ∧ sd γ' a = sd γ a) ∨ a.block = w.heap.size) (hm : Mem B0 w0 γ' (w.alloc o)) (hn : Nums γ') (ht : Team γ') : Whole B0 w0 γ' (w.alloc o) t := by
  have hcell : ∀ j, (γ'.lo j).res.cells = (γ.lo j).res.cells := fun j => by
    by_cases e : j = i
    · rw [e]; exact hc
    · rw [hlo j e]
  have hro' : ∀ j a v, (γ'.lo j).ro a v → (γ.lo j).ro a v ∨ (a.block = w.heap.size ∧ ¬ AT γ' a) := fun j a v e => by
    by_cases ej : j = i
    · rw [ej] at e ⊢; exact hro a v e
    · rw [hlo j ej] at e; exact .inl e
  refine ⟨hm, ?_, hn, ht, ?_⟩
  · exact {
      ex := fun a b ha hb hne x hx => by rw [hN] at ha hb; rw [hcell] at hx ⊢; exact h.own.ex a b ha hb hne x hx
      exro := fun a b ha hb x v hx hv => by
        rw [hN] at ha hb
        rw [hcell] at hx
        rcases hro' b x v hv with e | ⟨e, _⟩
        · exact h.own.exro a b ha hb x v hx e
        · have := h.cell_lt ha hx; omega
      exAT := fun a ha x hx hA => by
        rw [hN] at ha
        rw [hcell] at hx
        rcases hAT x hA with ⟨e, _⟩ | e
        · exact h.own.exAT a ha x hx e
        · have := h.cell_lt ha hx; omega
      roAT := fun a ha x v hx hA => by
        rw [hN] at ha
        rcases hro' a x v hx with e | ⟨_, e⟩
        · rcases hAT x hA with ⟨e', _⟩ | e'
          · exact h.own.roAT a ha x v e e'
          · have := h.ro_lt ha e; omega
        · exact e hA }
  · have hsz : w.heap.size ≤ (w.alloc o).heap.size := (Near.alloc (fun _ => False) w o).size
    rw [hN]
    refine h.tr.sub hsz (fun j hj => ?_) (fun j hj => ?_) (fun j hj a ha => .inl ?_) (fun j hj a ha => ?_) (fun j hj c hc' => ?_) (fun a ha => ?_)
    · by_cases e : j = i
      · rw [e]; exact hst
      · rw [hlo j e]
    · by_cases e : j = i
      · rw [e]; exact hdf
      · rw [hlo j e]
    · have ha : (γ'.lo j).res.cells a ≠ none := ha
      rw [hcell] at ha; exact ha
    · obtain ⟨v, hv⟩ := ha
      rcases hro' j a v hv with e | ⟨e, _⟩
      · exact .inl ⟨v, e⟩
      · exact .inr (.inr (by omega))
    · have hc' : (γ'.lo j).jn c := hc'
      by_cases e : j = i
      · rw [e, hjn] at hc'; rw [e]; exact hc'
      · rw [hlo j e] at hc'; exact hc'
    · rcases hAT a ha with e | e
      · exact .inl e
      · exact .inr (by omega)

/-- The others, behind a new block. -/
theorem Keeps.opens (h : Whole B0 w0 γ w t) (o : Obj) (hN : γ'.N = γ.N) (hlo : ∀ j, j ≠ i → γ'.lo j = γ.lo j) (hg : ∀ c, (γ.gate c).isSome = true → (γ'.gate c).isSome = true) (wake : Bool) : Keeps (SY B0 w0 PP) i γ w γ' (w.alloc o) wake :=
  Keeps.atom h hlo hN hg (fun u G hu => by
    obtain ⟨_, _, h3, _⟩ := h.mem.wg u G hu
    rw [alloc_old o h3, h3]) (fun c G _ ⟨cap, s, r, tm, ho⟩ => ⟨cap, s, r, tm, alloc_chan o ho⟩) wake

theorem new_cell (cs : Array Value) (ty : TypeId) (j : Nat) : (w.alloc (.cells cs ty)).cell? ⟨w.heap.size, j, none⟩ = cs[j]? := World.cell?_alloc_new w cs ty j

/-! A group. -/
def Lo.opw (l : Lo) (u : Nat) : Lo := { l with ws := fun x => if x = u then some ⟨[], 0, 0⟩ else l.ws x }
theorem Whole.open_wg (h : Whole B0 w0 γ w t) (hact : (γ.lo i).md = .act) (ty : TypeId) :
    ∃ γ', Whole B0 w0 γ' (w.alloc (.cells #[.int .u64 0, .int .u32 0] ty)) t ∧ γ'.N = γ.N ∧ (∀ wake, Keeps (SY B0 w0 PP) i γ w γ' (w.alloc (.cells #[.int .u64 0, .int .u32 0] ty)) wake) ∧ γ'.lo i = (γ.lo i).opw w.heap.size := by
  obtain ⟨u, hu⟩ : ∃ u, u = w.heap.size := ⟨_, rfl⟩
  obtain ⟨o, ho⟩ : ∃ o, o = Obj.cells #[.int .u64 0, .int .u32 0] ty := ⟨_, rfl⟩
  obtain ⟨l', hl'⟩ : ∃ l', l' = (γ.lo i).opw u := ⟨_, rfl⟩
  have hnone : γ.wg u = none := by
    cases e : γ.wg u with
    | none => rfl
    | some G => have := h.wg_lt e; omega
  obtain ⟨γ', hγ'⟩ : ∃ γ', γ' = γ.setw i l' u ⟨i, 0, 0⟩ := ⟨_, rfl⟩
  have hlo : ∀ j, j ≠ i → γ'.lo j = γ.lo j := fun j hj => by rw [hγ']; exact setw_ne γ l' u _ hj
  have hli : γ'.lo i = l' := by rw [hγ']; exact setw_same γ i l' u _
  have hN : γ'.N = γ.N := by rw [hγ']; rfl
  have hwx : ∀ x, γ'.wg x = if x = u then some ⟨i, 0, 0⟩ else γ.wg x := fun x => by rw [hγ']; rfl
  have F : ∀ {α : Type} (f : Lo → α), f l' = f (γ.lo i) → ∀ j, f (γ'.lo j) = f (γ.lo j) := fun f h j => by
    by_cases e : j = i
    · rw [e, hli]; exact h
    · rw [hlo j e]
  have hpool : γ'.pool = γ.pool := by rw [hγ']; rfl
  have hgate : γ'.gate = γ.gate := by rw [hγ']; rfl
  have hsum : ∀ k, γ'.sum k = γ.sum k := fun k => sum_congr hN (fun j _ => F Lo.res (by rw [hl']; rfl) j) k
  have hcnt : ∀ x, γ'.cnt x = γ.cnt x := fun x => cnt_congr hN (fun j _ => F Lo.wk (by rw [hl']; rfl) j) x
  have hc0 : γ.cnt u = 0 := by
    have : ∀ n, n ≤ γ.N → sumTo n (fun j => (γ.lo j).wk u) = 0 := fun n => by
      induction n with
      | zero => exact fun _ => rfl
      | succ n ih =>
        intro hn
        have h1 := ih (by omega)
        have h2 := (h.team.nown u hnone n (by omega)).1
        show sumTo n (fun j => (γ.lo j).wk u) + (γ.lo n).wk u = 0
        omega
    exact this γ.N (Nat.le_refl _)
  have hB : B0 ≤ u := by rw [hu]; exact h.mem.big
  have hT : Team γ' := by
    have hT := h.team
    have hws : ∀ j x, x ≠ u → (γ'.lo j).ws x = (γ.lo j).ws x := fun j x hx => by
      by_cases e : j = i
      · rw [e, hli, hl']; simp [Lo.opw, hx]
      · rw [hlo j e]
    have hwo : ∀ j, j < γ.N → j ≠ i → (γ'.lo j).ws u = none := fun j hj e => by rw [hlo j e]; exact (hT.nown u hnone j hj).2.1
    have hwsu : (γ'.lo i).ws u = some ⟨[], 0, 0⟩ := by rw [hli, hl']; simp [Lo.opw]
    have fmd := F Lo.md (by rw [hl']; rfl)
    have fwg := F Lo.wg (by rw [hl']; rfl)
    have fwk := F Lo.wk (by rw [hl']; rfl)
    have fjn := F Lo.jn (by rw [hl']; rfl)
    have fres := F Lo.res (by rw [hl']; rfl)
    have fro := F Lo.ro (by rw [hl']; rfl)
    have fob := F Lo.ob (by rw [hl']; rfl)
    exact {
      pos := by rw [hN]; exact hT.pos
      main := by rw [fmd, fwg]; exact hT.main
      boss := fun b hb x B e => by
        rw [hN] at hb
        rw [fmd, hcnt, fwk]
        by_cases ex : x = u
        · rw [ex] at e ⊢
          by_cases eb : b = i
          · rw [eb] at e ⊢
            rw [hwsu] at e
            cases e
            exact ⟨hact, by simp, (fun c J hm => by cases hm), by rw [hc0]; exact Nat.le_refl _, ⟨i, 0, 0⟩, by rw [hwx, if_pos rfl], rfl, fun _ => rfl, fun e => absurd rfl e⟩
          · rw [hwo b hb eb] at e; cases e
        · rw [hws b x ex] at e
          obtain ⟨k1, k2, k3, k4, Gx, k5, k6⟩ := hT.boss b hb x B e
          refine ⟨k1, k2, fun c J hm => ?_, k4, Gx, by rw [hwx, if_neg ex]; exact k5, k6⟩
          obtain ⟨m1, m2, m3⟩ := k3 c J hm
          exact ⟨by rw [hN]; exact m1, m2, m3.of (by rw [fwg]) (by rw [fob]) (by rw [fmd]) (by rw [fwk]) (.inr (by rw [fres]))⟩
      led := fun c hc hc0' hg => by
        rw [hN] at hc
        rw [fmd] at hg
        obtain ⟨b, x, B, J, k1, k2, k3⟩ := hT.led c hc hc0' hg
        have ex : x ≠ u := fun e => by rw [e, (hT.nown u hnone b k1).2.1] at k2; cases k2
        exact ⟨b, x, B, J, by rw [hN]; exact k1, by rw [hws b x ex]; exact k2, k3⟩
      wk := fun j hj x e => by
        rw [hN] at hj
        rw [fwk] at e
        rw [fwg]
        have ex : x ≠ u := fun e' => by rw [e', (hT.nown u hnone j hj).1] at e; exact e rfl
        rw [hws j x ex]; exact hT.wk j hj x e
      small := fun x => by rw [hcnt]; exact hT.small x
      wph := fun x Gx hx => by
        rw [hcnt, hN]
        rw [hwx] at hx
        by_cases ex : x = u
        · rw [if_pos ex] at hx
          cases hx
          exact ⟨by simp, fun e => by simp at e, fun e => by simp at e, fun e => by simp at e⟩
        · rw [if_neg ex] at hx
          obtain ⟨k1, k2, k3, k4⟩ := hT.wph x Gx hx
          refine ⟨k1, k2, k3, fun e => ?_⟩
          obtain ⟨m1, m2, m3⟩ := k4 e
          exact ⟨m1, by rw [fwg]; exact m2, by rw [fmd]; exact m3⟩
      duty := fun j hj p a ph x e hp hx => by
        rw [hN] at hj
        rw [fmd] at e
        rw [fwg] at hx
        obtain ⟨k1, Gx, k2, k3⟩ := hT.duty j hj p a ph x e hp hx
        have ex : x ≠ u := fun e' => by rw [e', hnone] at k2; cases k2
        exact ⟨k1, Gx, by rw [hwx, if_neg ex]; exact k2, k3⟩
      gone := fun j hj e => by
        rw [hN] at hj
        rw [fmd] at e
        rw [fres, fro, fwk, fjn]; exact hT.gone j hj e
      jn := fun j hj e => by
        rw [hN] at hj
        rw [fmd] at e
        rw [fjn]
        exact ⟨(hT.jn j hj e).1, fun j' hj' hx => by rw [hN] at hj'; rw [fjn] at hx; exact (hT.jn j hj e).2 j' hj' hx⟩
      jng := fun c hc' e => by
        rw [hN] at hc'
        rw [fmd] at e
        obtain ⟨j, k1, k2, k3⟩ := hT.jng c hc' e
        exact ⟨j, by rw [hN]; exact k1, by rw [fmd]; exact k2, by rw [fjn]; exact k3⟩
      jlt := fun j hj c e => by rw [hN] at hj ⊢; rw [fjn] at e; exact hT.jlt j hj c e
      nown := fun x e j hj => by
        rw [hN] at hj
        rw [hwx] at e
        by_cases ex : x = u
        · rw [if_pos ex] at e; cases e
        · rw [if_neg ex] at e
          rw [fwk, fwg, hws j x ex]; exact hT.nown x e j hj }
  refine ⟨γ', ?_, hN, fun wake => ?_, by rw [hli, hl', hu]⟩
  · rw [← ho]
    refine h.opens o hN hlo (by rw [hli, hl']; rfl) (fun a v e => .inl (by rw [hli, hl'] at e; exact e)) (by rw [hli, hl']; rfl) (by rw [hli, hl']; rfl) (by rw [hli, hl']; rfl) (fun a ha => ?_) ?_ ?_ hT
    · by_cases e : a.block = u
      · exact .inr (by rw [e, hu])
      · refine .inl ⟨?_, ?_⟩
        · obtain ⟨a1, a2⟩ := ha
          refine ⟨a1, ?_⟩
          rw [hpool, hgate, hwx, if_neg e] at a2
          exact a2
        · unfold sd
          rw [hwx, if_neg e]
    · refine h.mem.grow o hN (fun j _ => F (fun l => l.res.cells) (by rw [hl']; rfl) j) (fun j _ a v e => .inl (by rw [F Lo.ro (by rw [hl']; rfl) j] at e; exact e)) (fun j _ c cap e => by rw [F Lo.oc (by rw [hl']; rfl) j] at e; exact e) (fun p G hp => .inl ⟨by rw [hpool] at hp; exact hp, hsum _, hsum _, hsum _⟩) (fun x G hx => ?_) (fun c G hc => .inl ⟨by rw [hgate] at hc; exact hc, hsum _⟩)
      rw [hwx] at hx
      by_cases e : x = u
      · rw [if_pos e] at hx
        cases hx
        right
        rw [e, ho]
        refine ⟨hB, ?_, ?_, fun j => ?_⟩
        · rw [hcnt, hc0, hu, new_cell]; rfl
        · rw [hu, new_cell]; rfl
        · rw [hu]; exact World.frozen?_alloc_new _ _ _ _
      · rw [if_neg e] at hx
        exact .inl ⟨hx, hcnt x⟩
    · exact h.nums.of hN hpool hgate (fun j _ => F (fun l => l.res.tk) (by rw [hl']; rfl) j) (fun j _ => F Lo.pk (by rw [hl']; rfl) j) (fun j _ => F Lo.pl (by rw [hl']; rfl) j) (fun j _ => F Lo.gl (by rw [hl']; rfl) j) (fun j _ => F Lo.cl (by rw [hl']; rfl) j) (fun j _ => F Lo.gk (by rw [hl']; rfl) j) (fun j _ => F Lo.oc (by rw [hl']; rfl) j) (F Lo.sk (by rw [hl']; rfl) 0) (fun j _ => F Lo.al (by rw [hl']; rfl) j) (fun j _ e => by rw [F Lo.md (by rw [hl']; rfl) j] at e; exact .inl e)
  · rw [← ho]
    exact Keeps.opens h o hN hlo (fun c hc => by rw [hgate]; exact hc) wake
end
end Go.Proofs.Ytofohjbcgchhoaa

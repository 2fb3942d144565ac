/-
  STEPS: one goroutine's own doing in its own cells, in new ones.
-/
import Derived.Test.YtofohjbcgchhoaaC2
namespace Go.Proofs.Ytofohjbcgchhoaa
open Go.Conc
open Go.RowKit
open Go.ConcN (sumTo upd sumTo_upd upd_ne upd_same sumTo_congr le_sumTo)

theorem lt_of_cell {w : World} {a : Addr} {v : Value} (h : w.cell? a = some v) : a.block < w.heap.size := by
  unfold World.cell? at h
  split at h
  · rename_i e; exact (Array.getElem?_eq_some_iff.1 e).1
  · cases h
theorem lt_of_cell2 {w : World} {b o : Nat} {v : Value} (h : w.cell? ⟨b, o, none⟩ = some v) : b < w.heap.size := lt_of_cell h
theorem lt_of_heap {w : World} {c : Nat} {o : Obj} (h : w.heap[c]? = some o) : c < w.heap.size := (Array.getElem?_eq_some_iff.1 h).1
theorem spot_of_cell {w : World} {a : Addr} {v : Value} (h : w.cell? a = some v) : a.spot = none := by
  unfold World.cell? at h
  split at h
  · split at h
    · cases h
    · rename_i e; simpa using e
  · cases h

/-- Outside of these cells the world is as it was; new blocks may be there. -/
structure Near (E : Addr → Prop) (w w' : World) : Prop where
  os : w'.os = w.os
  tape : w'.tape = w.tape
  output : w'.output = w.output
  size : w.heap.size ≤ w'.heap.size
  block : ∀ k, k < w.heap.size → (∀ a, E a → a.block ≠ k) → w'.heap[k]? = w.heap[k]?
  cell : ∀ a, a.block < w.heap.size → ¬ E a → w'.cell? a = w.cell? a
  froz : ∀ a, a.block < w.heap.size → w'.frozen? a = w.frozen? a
  chan : ∀ (c cap : Nat) (buf : Array Value) (cl : Bool) (s r : Nat) (tm : Bool), w.heap[c]? = some (.chan cap buf cl s r tm) → w'.heap[c]? = some (.chan cap buf cl s r tm)

theorem Near.refl (E : Addr → Prop) (w : World) : Near E w w := ⟨rfl, rfl, rfl, Nat.le_refl _, fun _ _ _ => rfl, fun _ _ _ => rfl, fun _ _ => rfl, fun _ _ _ _ _ _ _ h => h⟩
theorem Near.alloc (E : Addr → Prop) (w : World) (o : Obj) : Near E w (w.alloc o) where
  os := rfl
  tape := rfl
  output := rfl
  size := by simp
  block k hk _ := Below.heap_alloc w o k hk
  cell a ha _ := World.cell?_of_block (w := w) (Below.heap_alloc w o a.block ha)
  froz a ha := World.frozen?_of_block (w := w) (Below.heap_alloc w o a.block ha)
  chan c cap buf cl s r tm h := by rw [Below.heap_alloc w o c (lt_of_heap h)]; exact h
theorem Near.setCell (w : World) (a : Addr) (v : Value) : Near (· = a) w (w.setCell a v) where
  os := rfl
  tape := rfl
  output := rfl
  size := by simp [World.setCell]
  block k _ h := Below.heap_setCell w a v k (fun e => h a rfl e.symm)
  cell b _ h := by apply World.cell?_setCell_other; exact fun e => h e.symm
  froz b _ := by simp
  chan c cap buf cl s r tm h := by
    simp only [World.setCell, Array.getElem?_modify]
    split
    · rename_i e; rw [h]; rfl
    · exact h
theorem Near.trans {E : Addr → Prop} {w w' w'' : World} (h : Near E w w') (k : Near (fun a => E a ∨ w.heap.size ≤ a.block) w' w'') : Near E w w'' where
  os := k.os.trans h.os
  tape := k.tape.trans h.tape
  output := k.output.trans h.output
  size := Nat.le_trans h.size k.size
  block b hb hE := (k.block b (Nat.lt_of_lt_of_le hb h.size) (fun a ha e => by
    rcases ha with ha | ha
    · exact hE a ha e
    · omega)).trans (h.block b hb hE)
  cell a ha hE := (k.cell a (Nat.lt_of_lt_of_le ha h.size) (fun x => by
    rcases x with x | x
    · exact hE x
    · omega)).trans (h.cell a ha hE)
  froz a ha := (k.froz a (Nat.lt_of_lt_of_le ha h.size)).trans (h.froz a ha)
  chan c cap buf cl s r tm e := k.chan _ _ _ _ _ _ _ (h.chan _ _ _ _ _ _ _ e)
theorem Near.mono {E E' : Addr → Prop} {w w' : World} (h : Near E w w') (hE : ∀ a, E a → E' a) : Near E' w w' :=
  ⟨h.os, h.tape, h.output, h.size, fun k hk x => h.block k hk fun a ha => x a (hE a ha), fun a ha x => h.cell a ha fun e => x (hE a e), h.froz, h.chan⟩
theorem Near.drew (E : Addr → Prop) (w : World) (d : Nat) : Near E w (w.at d) := ⟨rfl, rfl, rfl, Nat.le_refl _, fun _ _ _ => rfl, fun _ _ _ => rfl, fun _ _ => rfl, fun _ _ _ _ _ _ _ h => h⟩

section
variable {B0 : Nat} {w0 : World} {γ : Gh} {w : World} {t : Trace}

theorem Whole.cell_lt (h : Whole B0 w0 γ w t) {j : Nat} (hj : j < γ.N) {a : Addr} (ha : (γ.lo j).res.cells a ≠ none) : a.block < w.heap.size := by
  obtain ⟨v, hv⟩ := Option.ne_none_iff_exists'.1 ha
  exact lt_of_cell (h.mem.cell j hj a v hv).1
theorem Whole.ro_lt (h : Whole B0 w0 γ w t) {j : Nat} (hj : j < γ.N) {a : Addr} {v : Value} (ha : (γ.lo j).ro a v) : a.block < w.heap.size := lt_of_cell (h.mem.ro j hj a v ha)
theorem Whole.at_lt (h : Whole B0 w0 γ w t) {a : Addr} (ha : AT γ a) : a.block < w.heap.size := by
  rcases ha.2 with ⟨h1, _⟩ | h1 | ⟨c, G, hG, e⟩
  · obtain ⟨G, hG⟩ := Option.isSome_iff_exists.1 h1
    have := lt_of_cell (h.mem.pool _ G hG).2.1
    exact this
  · obtain ⟨G, hG⟩ := Option.isSome_iff_exists.1 h1
    have := lt_of_cell (h.mem.wg _ G hG).2.1
    exact this
  · have := lt_of_cell (h.mem.gate c G hG).2.2.2.1
    rw [← e]; exact this

/-- The world turned in these cells alone: the atomic ones are as they were. -/
theorem Mem.near (h : Whole B0 w0 γ w t) {i : Nat} (hi : i < γ.N) {E : Addr → Prop} (hE : ∀ a, E a → (γ.lo i).res.cells a ≠ none) {w' : World} (hN : Near E w w') {l' : Lo}
    (htk : l'.res.tk = (γ.lo i).res.tk) (hwk : l'.wk = (γ.lo i).wk)
    (hc : ∀ a v, l'.res.cells a = some v → w'.cell? a = some v ∧ w'.frozen? a = false ∧ ((γ.lo i).res.cells a ≠ none ∨ w.heap.size ≤ a.block))
    (hr : ∀ a v, l'.ro a v → w'.cell? a = some v)
    (ho : ∀ c cap, l'.oc c = some cap → (γ.lo i).oc c = some cap ∨ (w.heap.size ≤ c ∧ w'.heap[c]? = some (.chan cap #[] false 0 0 false))) : Mem B0 w0 (γ.set i l') w' := by
  have hEB : ∀ a, E a → B0 ≤ a.block ∧ a.block < w.heap.size := fun a ha => by
    obtain ⟨v, hv⟩ := Option.ne_none_iff_exists'.1 (hE a ha)
    exact ⟨(h.mem.cell i hi a v hv).2.2, lt_of_cell (h.mem.cell i hi a v hv).1⟩
  have nAT : ∀ a, AT γ a → ¬ E a := fun a ha hEa => h.own.exAT i hi a (hE a hEa) ha
  have kAT : ∀ a, AT γ a → w'.cell? a = w.cell? a := fun a ha => hN.cell a (h.at_lt ha) (nAT a ha)
  have hs : ∀ k, (γ.set i l').sum k = γ.sum k := fun k => by
    unfold Gh.sum
    exact sumTo_congr fun j hj => by
      by_cases e : j = i
      · subst e; rw [set_same, htk]
      · rw [set_ne γ _ e]
  have hcn : ∀ u, (γ.set i l').cnt u = γ.cnt u := fun u => cnt_congr (γ := γ) (γ' := γ.set i l') rfl (fun j _ => set_field Lo.wk γ i l' hwk j) u
  exact {
    bel := ⟨hN.os.trans h.mem.bel.os, hN.tape.trans h.mem.bel.tape, hN.output.trans h.mem.bel.output, Nat.le_trans h.mem.bel.size hN.size, fun k hk => (hN.block k (Nat.lt_of_lt_of_le hk h.mem.big) (fun a ha e => by have := (hEB a ha).1; omega)).trans (h.mem.bel.block k hk)⟩
    big := Nat.le_trans h.mem.big hN.size
    cell := fun j hj a v hv => by
      by_cases e : j = i
      · subst e
        rw [set_same] at hv
        obtain ⟨h1, h2, h3⟩ := hc a v hv
        refine ⟨h1, h2, ?_⟩
        rcases h3 with h3 | h3
        · obtain ⟨v', hv'⟩ := Option.ne_none_iff_exists'.1 h3
          exact (h.mem.cell j hi a v' hv').2.2
        · exact Nat.le_trans h.mem.big h3
      · rw [set_ne γ _ e] at hv
        obtain ⟨h1, h2, h3⟩ := h.mem.cell j hj a v hv
        have hlt := lt_of_cell h1
        have hnE : ¬ E a := fun x => by
          have := h.own.ex i j hi hj (fun e' => e e'.symm) a (hE a x)
          rw [this] at hv; cases hv
        exact ⟨by rw [hN.cell a hlt hnE]; exact h1, by rw [hN.froz a hlt]; exact h2, h3⟩
    ro := fun j hj a v hv => by
      by_cases e : j = i
      · subst e
        rw [set_same] at hv
        exact hr a v hv
      · rw [set_ne γ _ e] at hv
        have h1 := h.mem.ro j hj a v hv
        rw [hN.cell a (lt_of_cell h1) (fun x => h.own.exro i j hi hj a v (hE a x) hv)]
        exact h1
    pool := fun p G hG => by
      rw [hs, hs, hs]
      obtain ⟨h1, h2, h3, h4, h5, h6, buf, s, r, h7, h8⟩ := h.mem.pool p G hG
      have hp : ∀ o, 1 ≤ o → o < 4 → AT γ ⟨p, o, none⟩ := fun o o1 o2 => ⟨rfl, .inl ⟨by rw [show γ.pool p = some G from hG]; rfl, o1, o2⟩⟩
      exact ⟨h1, by rw [kAT _ (hp 1 (by omega) (by omega))]; exact h2, by rw [kAT _ (hp 2 (by omega) (by omega))]; exact h3, by rw [kAT _ (hp 3 (by omega) (by omega))]; exact h4, fun j => by rw [hN.froz ⟨p, j, none⟩ (lt_of_cell2 h2)]; exact h5 j, h6, buf, s, r, hN.chan _ _ _ _ _ _ _ h7, h8⟩
    oc := fun j hj c cap e => by
      by_cases ej : j = i
      · subst ej
        rw [set_same] at e
        rcases ho c cap e with h1 | ⟨h1, h2⟩
        · obtain ⟨h2, h3⟩ := h.mem.oc j hi c cap h1
          exact ⟨h2, hN.chan _ _ _ _ _ _ _ h3⟩
        · exact ⟨Nat.le_trans h.mem.big h1, h2⟩
      · rw [set_ne γ _ ej] at e
        obtain ⟨h2, h3⟩ := h.mem.oc j hj c cap e
        exact ⟨h2, hN.chan _ _ _ _ _ _ _ h3⟩
    wg := fun u G hG => by
      rw [hcn]
      obtain ⟨h1, h2, h3, h4⟩ := h.mem.wg u G hG
      have hu : ∀ o, AT γ ⟨u, o, none⟩ := fun o => ⟨rfl, .inr (.inl (by rw [show γ.wg u = some G from hG]; rfl))⟩
      exact ⟨h1, by rw [kAT _ (hu 0)]; exact h2, by rw [kAT _ (hu 1)]; exact h3, fun j => by rw [hN.froz ⟨u, j, none⟩ (lt_of_cell2 h2)]; exact h4 j⟩
    gate := fun c G hG => by
      rw [hs]
      obtain ⟨h1, h2, h3, h4, h5⟩ := h.mem.gate c G hG
      have hu : AT γ ⟨G.bg, 0, none⟩ := ⟨rfl, .inr (.inr ⟨c, G, hG, rfl⟩)⟩
      exact ⟨h1, h2, hN.chan _ _ _ _ _ _ _ h3, by rw [kAT _ hu]; exact h4, fun j => by rw [hN.froz ⟨G.bg, j, none⟩ (lt_of_cell2 h4)]; exact h5 j⟩ }

/-- The cells of one goroutine changed: they still lie apart. -/
theorem Own.near (h : Whole B0 w0 γ w t) {i : Nat} (hi : i < γ.N) {l' : Lo}
    (hc : ∀ a, l'.res.cells a ≠ none → (γ.lo i).res.cells a ≠ none ∨ w.heap.size ≤ a.block)
    (hr : ∀ a v, l'.ro a v → (γ.lo i).ro a v ∨ (l'.res.cells a = none ∧ ((γ.lo i).res.cells a ≠ none ∨ w.heap.size ≤ a.block))) : Own (γ.set i l') where
  ex j k hj hk hne a ha := by
    by_cases ej : j = i
    · subst ej
      rw [set_same] at ha
      rw [set_ne γ _ (fun e => hne e.symm)]
      rcases hc a ha with h1 | h1
      · exact h.own.ex j k hj hk hne a h1
      · cases e : (γ.lo k).res.cells a with
        | none => rfl
        | some v => have := h.cell_lt hk (a := a) (by rw [e]; simp); omega
    · rw [set_ne γ _ ej] at ha
      by_cases ek : k = i
      · subst ek
        rw [set_same]
        cases e : l'.res.cells a with
        | none => rfl
        | some v =>
          rcases hc a (by rw [e]; simp) with h1 | h1
          · have := h.own.ex j k hj hk hne a ha; rw [this] at h1; exact absurd rfl h1
          · have := h.cell_lt hj ha; omega
      · rw [set_ne γ _ ek]
        exact h.own.ex j k hj hk hne a ha
  exro j k hj hk a v ha hv := by
    by_cases ej : j = i
    · subst ej
      rw [set_same] at ha
      by_cases ek : k = j
      · subst ek
        rw [set_same] at hv
        rcases hr a v hv with h1 | ⟨h1, _⟩
        · rcases hc a ha with h2 | h2
          · exact h.own.exro k k hk hk a v h2 h1
          · have := h.ro_lt hk h1; omega
        · exact ha h1
      · rw [set_ne γ _ ek] at hv
        rcases hc a ha with h2 | h2
        · exact h.own.exro j k hj hk a v h2 hv
        · have := h.ro_lt hk hv; omega
    · rw [set_ne γ _ ej] at ha
      by_cases ek : k = i
      · subst ek
        rw [set_same] at hv
        rcases hr a v hv with h1 | ⟨_, h1 | h1⟩
        · exact h.own.exro j k hj hk a v ha h1
        · have := h.own.ex j k hj hk ej a ha; rw [this] at h1; exact absurd rfl h1
        · have := h.cell_lt hj ha; omega
      · rw [set_ne γ _ ek] at hv
        exact h.own.exro j k hj hk a v ha hv
  exAT j hj a ha hAT := by
    have hAT : AT γ a := hAT
    by_cases ej : j = i
    · subst ej
      rw [set_same] at ha
      rcases hc a ha with h1 | h1
      · exact h.own.exAT j hj a h1 hAT
      · have := h.at_lt hAT; omega
    · rw [set_ne γ _ ej] at ha
      exact h.own.exAT j hj a ha hAT
  roAT j hj a v ha hAT := by
    have hAT : AT γ a := hAT
    by_cases ej : j = i
    · subst ej
      rw [set_same] at ha
      rcases hr a v ha with h1 | ⟨_, h1 | h1⟩
      · exact h.own.roAT j hj a v h1 hAT
      · exact h.own.exAT j hj a h1 hAT
      · have := h.at_lt hAT; omega
    · rw [set_ne γ _ ej] at ha
      exact h.own.roAT j hj a v ha hAT

/-- Own operations, behind a change of what is owned. -/
theorem Whole.trace (h : Whole B0 w0 γ w t) {i : Nat} (hi : i < γ.N) (hact : (γ.lo i).md = .act) {l' : Lo} {w' : World} {es : Array Event} (fn : FuncId) (pos : String)
    (hm : Mem B0 w0 (γ.set i l') w') (ho : Own (γ.set i l')) (hn : Nums (γ.set i l')) (ht : Team (γ.set i l')) (hB : w.heap.size ≤ w'.heap.size) (hmd : l'.md = .act) (hjn : l'.jn = (γ.lo i).jn)
    (hc : ∀ a, l'.res.cells a ≠ none → (γ.lo i).res.cells a ≠ none ∨ w.heap.size ≤ a.block) (hr : ∀ a v, l'.ro a v → (∃ v', (γ.lo i).ro a v') ∨ (γ.lo i).res.cells a ≠ none ∨ w.heap.size ≤ a.block)
    (hd : l'.df = deafBehind (γ.lo i).df es) (hev : ∀ e ∈ es, OkEv l'.tg (AT γ) (sd γ) i w'.heap.size e) : Whole B0 w0 (γ.set i l') w' (t ++ MemOp.ofEvents i fn pos es) := by
  refine ⟨hm, ho, hn, ht, ?_⟩
  have h1 : TInv γ.N w'.heap.size (fun j => if j = i then { l'.tg with df := (γ.lo i).df } else (γ.lo j).tg) (AT γ) (sd γ) t := h.tr.sub hB (fun j hj => by
      by_cases e : j = i
      · subst e; simp [Lo.tg, hmd, hact]
      · simp [e]) (fun j hj => by
      by_cases e : j = i
      · subst e; simp [Lo.tg]
      · simp [e]) (fun j hj a ha => by
      by_cases e : j = i
      · subst e
        simp only [if_true] at ha
        exact hc a ha
      · simp only [if_neg e] at ha; exact .inl ha) (fun j hj a ha => by
      by_cases e : j = i
      · subst e
        simp only [if_true] at ha
        obtain ⟨v, hv⟩ := ha
        rcases hr a v hv with ⟨v', h1⟩ | h1 | h1
        · exact .inl ⟨v', h1⟩
        · exact .inr (.inl h1)
        · exact .inr (.inr h1)
      · simp only [if_neg e] at ha; exact .inl ha) (fun j hj c hjc => by
      by_cases e : j = i
      · subst e
        simp only [if_true] at hjc
        show (γ.lo j).jn c
        rw [← hjn]; exact hjc
      · simp only [if_neg e] at hjc; exact hjc) (fun a ha => .inl ⟨ha, rfl⟩)
  have D0 := ho.disj ht
  have D1 : Disj γ.N (fun j => if j = i then { l'.tg with df := (γ.lo i).df } else (γ.lo j).tg) (AT γ) := by
    have key : ∀ j, (if j = i then { l'.tg with df := (γ.lo i).df } else (γ.lo j).tg).ex = ((γ.set i l').lo j).tg.ex ∧ (if j = i then { l'.tg with df := (γ.lo i).df } else (γ.lo j).tg).rd = ((γ.set i l').lo j).tg.rd ∧ (if j = i then { l'.tg with df := (γ.lo i).df } else (γ.lo j).tg).jn = ((γ.set i l').lo j).tg.jn ∧ (if j = i then { l'.tg with df := (γ.lo i).df } else (γ.lo j).tg).st = ((γ.set i l').lo j).tg.st := fun j => by
      by_cases e : j = i
      · subst e; rw [set_same]; simp
      · rw [set_ne γ _ e]; simp [e]
    exact ⟨fun a b ha hb hne x => by rw [(key a).1, (key b).1]; exact D0.ex a b ha hb hne x, fun a b ha hb x => by rw [(key a).1, (key b).2.1]; exact D0.rd a b ha hb x, fun a ha x => by rw [(key a).1]; exact D0.exAT a ha x, fun a ha x => by rw [(key a).2.1]; exact D0.rdAT a ha x, fun a b ha hb hne => by rw [(key a).2.2.2, (key b).2.2.1]; exact D0.self a b ha hb hne⟩
  have hops : ∀ op ∈ MemOp.ofEvents i fn pos es, op.g = i ∧ ∃ e ∈ es, op.act = .ofEvent e := fun op hop => by
    rw [ofEvents_eq] at hop
    obtain ⟨e, he, rfl⟩ := Array.mem_map.1 hop
    exact ⟨rfl, e, he, rfl⟩
  have h2 := h1.own D1 hi (u := MemOp.ofEvents i fn pos es) (fun op hop => (hops op hop).1) (fun op hop => by
      obtain ⟨_, e, he, hx⟩ := hops op hop
      rw [hx]
      refine okAct_of (g := _) ?_
      simp only [if_true]
      exact hev e he) (.inl (by simp [Lo.tg, hmd, Md.st])) (d := l'.df) (by rw [Deaf_own, h.tr.df i hi, hd]; rfl) (.inl (by simp [Lo.tg, hmd, Md.st]))
  have e : (fun j => if j = i then { (if i = i then { l'.tg with df := (γ.lo i).df } else (γ.lo i).tg) with df := l'.df } else (if j = i then { l'.tg with df := (γ.lo i).df } else (γ.lo j).tg)) = fun j => ((γ.set i l').lo j).tg := by
    funext j
    by_cases hj : j = i
    · subst hj; rw [set_same]; simp [Lo.tg]
    · rw [set_ne γ _ hj]; simp [hj]
  rw [← e]
  exact h2

/-- ONE GOROUTINE's OWN DOING, in its own cells and in new ones. -/
theorem Whole.near (h : Whole B0 w0 γ w t) {i : Nat} (hi : i < γ.N) (hact : (γ.lo i).md = .act) {E : Addr → Prop} (hE : ∀ a, E a → (γ.lo i).res.cells a ≠ none) {w' : World} (hN : Near E w w') {es : Array Event} (fn : FuncId) (pos : String)
    {C' : Addr → Option Value} {R' : Addr → Value → Prop} {O' : Nat → Option Nat} {d' : Nat} {l' : Lo} (hl : l' = { γ.lo i with res := ⟨C', (γ.lo i).res.tk⟩, ro := R', oc := O', df := d' })
    (hc : ∀ a v, C' a = some v → w'.cell? a = some v ∧ w'.frozen? a = false ∧ ((γ.lo i).res.cells a ≠ none ∨ w.heap.size ≤ a.block))
    (hr : ∀ a v, R' a v → w'.cell? a = some v ∧ ((γ.lo i).ro a v ∨ (C' a = none ∧ ((γ.lo i).res.cells a ≠ none ∨ w.heap.size ≤ a.block))))
    (ho : ∀ c cap, O' c = some cap → (γ.lo i).oc c = some cap ∨ (w.heap.size ≤ c ∧ w'.heap[c]? = some (.chan cap #[] false 0 0 false)))
    (hd : d' = deafBehind (γ.lo i).df es) (hev : ∀ e ∈ es, OkEv l'.tg (AT γ) (sd γ) i w'.heap.size e) : Whole B0 w0 (γ.set i l') w' (t ++ MemOp.ofEvents i fn pos es) := by
  have F : ∀ {α : Type} (f : Lo → α), f l' = f (γ.lo i) → ∀ j, f ((γ.set i l').lo j) = f (γ.lo j) := fun f h j => set_field f γ i l' h j
  have hc' : ∀ a, l'.res.cells a ≠ none → (γ.lo i).res.cells a ≠ none ∨ w.heap.size ≤ a.block := fun a ha => by
    obtain ⟨v, hv⟩ := Option.ne_none_iff_exists'.1 ha
    rw [hl] at hv
    exact (hc a v hv).2.2
  refine h.trace hi hact fn pos ?_ ?_ ?_ ?_ hN.size (by rw [hl]; exact hact) (by rw [hl]) hc' (fun a v hv => ?_) (by rw [hl]; exact hd) hev
  · exact Mem.near h hi hE hN (by rw [hl]) (by rw [hl]) (fun a v hv => by rw [hl] at hv; exact hc a v hv) (fun a v hv => by rw [hl] at hv; exact (hr a v hv).1) (fun c cap e => by rw [hl] at e; exact ho c cap e)
  · refine Own.near h hi hc' (fun a v hv => ?_)
    rw [hl] at hv ⊢
    exact (hr a v hv).2
  · have htk := F (fun l => l.res.tk) (by rw [hl])
    have hs : ∀ k, (γ.set i l').sum k = γ.sum k := fun k => by
      unfold Gh.sum
      exact sumTo_congr fun j hj => by rw [show ((γ.set i l').lo j).res.tk = (γ.lo j).res.tk from htk j]
    have hh := h.nums
    exact {
      slot := fun j hj p => by rw [htk j]; exact hh.slot j hj p
      pool := fun p G hG => by rw [hs]; exact hh.pool p G hG
      pk := fun j hj p G hG => by rw [F Lo.pk (by rw [hl]) j]; exact hh.pk j hj p G hG
      pl := fun j hj p ch cap so e => by rw [F Lo.pl (by rw [hl]) j] at e; exact hh.pl j hj p ch cap so e
      gl := fun j hj c bg n p e => by rw [F Lo.gl (by rw [hl]) j] at e; exact hh.gl j hj c bg n p e
      cl := fun j hj c e => by rw [F Lo.cl (by rw [hl]) j] at e; exact hh.cl j hj c e
      gate := fun c G hG => by
        rw [hs, hs]
        obtain ⟨h1, h2⟩ := hh.gate c G hG
        refine ⟨h1, ?_⟩
        rcases h2 with h2 | ⟨h2, h3, h4, h5⟩ | h2
        · exact .inl h2
        · exact .inr (.inl ⟨h2, h3, h4, fun j hj => by rw [htk j]; exact h5 j hj⟩)
        · exact .inr (.inr h2)
      al := fun j hj c e => by rw [F Lo.al (by rw [hl]) j] at e; rw [hs]; exact hh.al j hj c e
      gm := fun c G hG hcl j hj => by rw [htk j]; exact hh.gm c G hG hcl j hj
      gku := fun j hj c e => by
        rw [F Lo.gk (by rw [hl]) j] at e
        obtain ⟨k1, k2⟩ := hh.gku j hj c e
        exact ⟨k1, fun k hk hne => by rw [F Lo.gk (by rw [hl]) k]; exact k2 k hk hne⟩
      nopk := fun p hG j hj => by rw [F Lo.pk (by rw [hl]) j]; exact hh.nopk p hG j hj
      gk := fun j hj c k e => by rw [F Lo.gk (by rw [hl]) j] at e; rw [hs]; exact hh.gk j hj c k e
      idle := fun j hj e c => by rw [F Lo.md (by rw [hl]) j] at e; rw [htk j]; exact hh.idle j hj e c
      chp := hh.chp
      chpp := hh.chpp
      solo := fun p G hG hso => by rw [hs, F Lo.sk (by rw [hl]) 0]; exact hh.solo p G hG hso
      oc := fun j hj c e => by
        by_cases ej : j = i
        · subst ej
          rw [set_same] at e
          obtain ⟨cap, e⟩ := Option.ne_none_iff_exists'.1 e
          rw [hl] at e
          rcases ho c cap e with h1 | ⟨h1, h2⟩
          · obtain ⟨k1, k2, k3⟩ := hh.oc j hi c (by rw [h1]; simp)
            exact ⟨k1, k2, fun k hk hne => by rw [set_ne γ _ hne]; exact k3 k hk hne⟩
          · refine ⟨?_, fun p G hG e' => ?_, fun k hk hne => ?_⟩
            · show γ.gate c = none
              cases hg : γ.gate c with
              | none => rfl
              | some G => have := lt_of_heap (h.mem.gate c G hg).2.2.1; omega
            · obtain ⟨_, _, _, h7, _⟩ := (h.mem.pool p G hG).2.2.2.2.2.2
              have := lt_of_heap h7
              omega
            · rw [set_ne γ _ hne]
              cases hk' : (γ.lo k).oc c with
              | none => rfl
              | some cap' => have := lt_of_heap (h.mem.oc k hk c cap' hk').2; omega
        · rw [set_ne γ _ ej] at e
          obtain ⟨k1, k2, k3⟩ := hh.oc j hj c e
          refine ⟨k1, k2, fun k hk hne => ?_⟩
          by_cases ek : k = i
          · subst ek
            rw [set_same]
            cases hk' : l'.oc c with
            | none => rfl
            | some cap =>
              rw [hl] at hk'
              rcases ho c cap hk' with h1 | ⟨h1, _⟩
              · have := k3 k hk hne; rw [this] at h1; cases h1
              · obtain ⟨cap', e'⟩ := Option.ne_none_iff_exists'.1 e
                have := lt_of_heap (h.mem.oc j hj c cap' e').2
                omega
          · rw [set_ne γ _ ek]; exact k3 k hk hne
      bgi := hh.bgi
      nop := fun p hG j hj => by rw [htk j]; exact hh.nop p hG j hj
      nog := fun c hG j hj => by rw [htk j]; exact hh.nog c hG j hj }
  · have only : ∀ {α : Type} (f : Lo → α), ∀ j, j < γ.N → (γ.lo j).md = .act ∨ f ((γ.set i l').lo j) = f (γ.lo j) := fun f j hj => by
      by_cases e : j = i
      · subst e; exact .inl hact
      · exact .inr (by rw [set_ne γ _ e])
    exact h.team.of rfl rfl (fun j _ => F Lo.md (by rw [hl]) j) (fun j _ => F Lo.wg (by rw [hl]) j) (fun j _ => F Lo.wk (by rw [hl]) j) (fun j _ => F Lo.ws (by rw [hl]) j) (fun j _ => F Lo.jn (by rw [hl]) j) (fun j _ => F Lo.ob (by rw [hl]) j) (only Lo.res) (only Lo.ro)
  · rw [hl] at hv
    rcases (hr a v hv).2 with h1 | ⟨_, h1⟩
    · exact .inl ⟨v, h1⟩
    · exact .inr h1
end
end Go.Proofs.Ytofohjbcgchhoaa

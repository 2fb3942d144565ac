/-
  Steps towards TopCounts (no conditions of their own): THE GHOST: what a walk owns (chunks), what it may only read; how the world moves under it. REGIONS: one walk in the order of the text (or another given order) covers every order that may be drawn.
-/
import Derived.Below
import Derived.Laws.AppendOwn
import Derived.Laws.MakeOwn
import Derived.Laws.OwnMore
import Derived.OrdersHeld
import Derived.OrdersIn
import Derived.RangeFuncCalls
import Derived.RangeFuncLeaves
import Derived.RegionIn
import Derived.WalkKit
import Derived.WalkSpells
/- V1: THE GHOST: what a walk owns (chunks), what it may only read; how the world moves under it. -/
namespace Go.Proofs.YthkoodpnepfijaaGreatDoor
open Go.RowKit
set_option linter.unusedVariables false

/-- Cells that are only read from now on. -/
abbrev Fz := Addr → Value → Prop
def Fle (F G : Fz) : Prop := ∀ a v, F a v → G a v
theorem Fle.refl (F : Fz) : Fle F F := fun _ _ h => h
theorem Fle.trans {F G H : Fz} (h : Fle F G) (k : Fle G H) : Fle F H := fun a v x => k a v (h a v x)

/-- What is owned: a block of cells, an object, a row that may grow. -/
inductive Ch
  | c (r : Nat) (vs : List Value)
  | o (r : Nat) (ob : Obj)
  | g (v : Value) (e : TypeId) (s n : Nat) (xs : List Value)
def Ch.blk : Ch → Option Nat
  | .c r _ => some r
  | .o r _ => some r
  | .g v .. => v.ownBlock
def notCells : Obj → Prop
  | .cells .. => False
  | _ => True
def Ch.ok (B : Nat) (w : World) : Ch → Prop
  | .c r vs => B ≤ r ∧ ∃ e, w.heap[r]? = some (.cells vs.toArray e (0, 0))
  | .o r ob => B ≤ r ∧ w.heap[r]? = some ob ∧ notCells ob
  | .g v e s n xs => w.ownsRow B e s v n xs
/-- The cells that are known of a chunk. -/
def Ch.at : Ch → Addr → Option Value
  | .c r vs, a => if a.block = r ∧ a.spot = none then vs[a.off]? else none
  | .o _ _, _ => none
  | .g v _ _ _ xs, a => if v.ownBlock = some a.block ∧ a.spot = none then xs[a.off]? else none
def Apart (c d : Ch) : Prop := c.blk = none ∨ c.blk ≠ d.blk
theorem Apart.symm {c d : Ch} (h : Apart c d) : Apart d c := by
  rcases h with h | h
  · cases hd : d.blk with
    | none => exact .inl hd
    | some k => exact .inr (by rw [h, hd]; simp)
  · exact .inr fun e => h e.symm

structure Inv (B : Nat) (w0 : World) (own : List Ch) (F : Fz) (w : World) : Prop where
  bel : Below B w0 w
  big : B ≤ w.heap.size
  ok : ∀ c ∈ own, c.ok B w
  nod : own.Pairwise Apart
  fr : ∀ a v, F a v → w.cell? a = some v
  ex : ∀ c ∈ own, ∀ a v, c.blk = some a.block → ¬ F a v

theorem Ch.ok.lt {B : Nat} {w : World} {c : Ch} (h : c.ok B w) {k : Nat} (hk : c.blk = some k) : B ≤ k ∧ k < w.heap.size := by
  cases c with
  | c r vs => cases hk; obtain ⟨h1, e, h2⟩ := h; exact ⟨h1, (Array.getElem?_eq_some_iff.1 h2).1⟩
  | o r ob => cases hk; obtain ⟨h1, h2, _⟩ := h; exact ⟨h1, (Array.getElem?_eq_some_iff.1 h2).1⟩
  | g v e s n xs => exact World.ownsRow.lt h k hk
theorem Ch.ok.heap {B : Nat} {w w' : World} {c : Ch} (h : c.ok B w) (hh : ∀ k, c.blk = some k → w'.heap[k]? = w.heap[k]?) : c.ok B w' := by
  cases c with
  | c r vs => obtain ⟨h1, e, h2⟩ := h; exact ⟨h1, e, by rw [hh r rfl]; exact h2⟩
  | o r ob => obtain ⟨h1, h2, h3⟩ := h; exact ⟨h1, by rw [hh r rfl]; exact h2, h3⟩
  | g v e s n xs =>
    obtain ⟨h1, h2⟩ := h
    refine ⟨h1, ?_⟩
    rcases h2 with h2 | ⟨g, cap, cur, rfl, hb, hg, rest⟩
    · exact .inl h2
    · exact .inr ⟨g, cap, cur, rfl, hb, by rw [hh g rfl]; exact hg, rest⟩
theorem Ch.ok.at {B : Nat} {w : World} {c : Ch} (h : c.ok B w) {a : Addr} {v : Value} (hv : c.at a = some v) : w.cell? a = some v ∧ w.frozen? a = false ∧ c.blk = some a.block := by
  obtain ⟨b, o, sp⟩ := a
  cases c with
  | c r vs =>
    obtain ⟨h1, e, h2⟩ := h
    simp only [Ch.at] at hv
    split at hv
    · rename_i hh
      obtain ⟨rfl, rfl⟩ := hh
      refine ⟨?_, ?_, rfl⟩
      · rw [cell_of_row w b o _ e (0, 0) h2]; simpa using hv
      · simp [World.frozen?, h2]
    · cases hv
  | o r ob => cases hv
  | g v' e s n xs =>
    simp only [Ch.at] at hv
    split at hv
    · rename_i hh
      obtain ⟨hb, rfl⟩ := hh
      rcases h.2 with ⟨rfl, _⟩ | ⟨g, cap, cur, rfl, _, hg, rest⟩
      · cases hb
      · simp only [Value.ownBlock, Option.some.injEq] at hb
        subst hb
        have hlen : o < xs.length := (List.getElem?_eq_some_iff.1 hv).1
        have := h.1
        refine ⟨?_, World.ownsRow.frozenAt h o, rfl⟩
        rw [World.ownsRow.cellAt h o (by omega)]
        exact hv
    · cases hv

section
variable {B : Nat} {w0 w : World} {own : List Ch} {F : Fz}
theorem Inv.lt (h : Inv B w0 own F w) {c : Ch} (hc : c ∈ own) {k : Nat} (hk : c.blk = some k) : B ≤ k ∧ k < w.heap.size := (h.ok c hc).lt hk
theorem Inv.frlt (h : Inv B w0 own F w) {a : Addr} {v : Value} (hf : F a v) : a.block < w.heap.size := World.block_lt_of_cell? w a (h.fr a v hf)
/-- The world moves in the blocks T alone (and behind its end). -/
theorem Inv.change {w' : World} {own' : List Ch} {F' : Fz} (h : Inv B w0 own F w) (T : Nat → Prop) (hTB : ∀ k, T k → B ≤ k) (hTF : ∀ a v, F a v → ¬ T a.block)
    (hos : w'.os = w.os) (htp : w'.tape = w.tape) (hout : w'.output = w.output) (hsz : w.heap.size ≤ w'.heap.size)
    (hb : ∀ k, k < w.heap.size → ¬ T k → w'.heap[k]? = w.heap[k]?)
    (ok : ∀ c ∈ own', c.ok B w' ∨ (c ∈ own ∧ ∀ k, c.blk = some k → ¬ T k))
    (nod : own'.Pairwise Apart) (fr : ∀ a v, F' a v → F a v ∨ w'.cell? a = some v)
    (ex : ∀ c ∈ own', ∀ a v, c.blk = some a.block → ¬ F' a v) : Inv B w0 own' F' w' := by
  have hbig := h.big
  refine ⟨⟨hos.trans h.bel.os, htp.trans h.bel.tape, hout.trans h.bel.output, Nat.le_trans h.bel.size hsz, fun k hk => ?_⟩, Nat.le_trans h.big hsz, fun c hc => ?_, nod, fun a v hf => ?_, ex⟩
  · rw [hb k (by omega) fun ht => by have := hTB k ht; omega]
    exact h.bel.block k hk
  · rcases ok c hc with k | ⟨hc', hn⟩
    · exact k
    · exact (h.ok c hc').heap fun k hk => hb k (h.lt hc' hk).2 (hn k hk)
  · rcases fr a v hf with k | k
    · rw [World.cell?_of_block (w := w) (hb a.block (h.frlt k) (hTF a v k))]
      exact h.fr a v k
    · exact k
theorem Inv.drew (h : Inv B w0 own F w) (n : Nat) : Inv B w0 own F { w with drawn := n } := ⟨⟨h.bel.os, h.bel.tape, h.bel.output, h.bel.size, h.bel.block⟩, h.big, fun c hc => (h.ok c hc).heap fun _ _ => rfl, h.nod, h.fr, h.ex⟩
/-- Another order. -/
theorem Inv.perm {own' : List Ch} (h : Inv B w0 own F w) (hp : own.Perm own') : Inv B w0 own' F w :=
  ⟨h.bel, h.big, fun c hc => h.ok c (hp.mem_iff.2 hc), hp.pairwise h.nod fun {_ _} x => Apart.symm x, h.fr, fun c hc => h.ex c (hp.mem_iff.2 hc)⟩
/-- Some of it is let go. -/
theorem Inv.sub {own' : List Ch} (h : Inv B w0 own F w) (hs : List.Sublist own' own) : Inv B w0 own' F w :=
  ⟨h.bel, h.big, fun c hc => h.ok c (hs.subset hc), h.nod.sublist hs, h.fr, fun c hc => h.ex c (hs.subset hc)⟩
/-- What is known with a chunk's cells, too. -/
def Fz.add (F : Fz) (c : Ch) : Fz := fun a v => F a v ∨ c.at a = some v
theorem Fz.add_le (F : Fz) (c : Ch) : Fle F (F.add c) := fun _ _ h => .inl h
/-- The chunk at the head is only read from now on. -/
theorem Inv.ice {c : Ch} (h : Inv B w0 (c :: own) F w) : Inv B w0 own (F.add c) w := by
  have h1 := h.ok c (List.mem_cons_self ..)
  refine ⟨h.bel, h.big, fun d hd => h.ok d (List.mem_cons_of_mem _ hd), (List.pairwise_cons.1 h.nod).2, fun a v hf => ?_, fun d hd a v hb hf => ?_⟩
  · rcases hf with hf | hf
    · exact h.fr a v hf
    · exact (h1.at hf).1
  · rcases hf with hf | hf
    · exact h.ex d (List.mem_cons_of_mem _ hd) a v hb hf
    · have := (List.pairwise_cons.1 h.nod).1 d hd
      have hc := (h1.at hf).2.2
      rcases this with k | k
      · rw [hc] at k; cases k
      · exact k (by rw [hc, hb])
theorem Inv.cellAt (h : Inv B w0 own F w) {c : Ch} (hc : c ∈ own) {a : Addr} {v : Value} (hv : c.at a = some v) : w.cell? a = some v ∧ w.frozen? a = false ∧ B ≤ a.block := by
  obtain ⟨k1, k2, k3⟩ := (h.ok c hc).at hv
  exact ⟨k1, k2, (h.lt hc k3).1⟩
/-- A cell that can be read. -/
def Rd (own : List Ch) (F : Fz) (a : Addr) (v : Value) : Prop := F a v ∨ ∃ c ∈ own, c.at a = some v
theorem Inv.rd (h : Inv B w0 own F w) {a : Addr} {v : Value} (x : Rd own F a v) : w.cell? a = some v := by
  rcases x with x | ⟨c, hc, x⟩
  · exact h.fr a v x
  · exact (h.cellAt hc x).1
/-- A new block. -/
theorem Inv.new (h : Inv B w0 own F w) (ob : Obj) (c : Ch) (hc : c.blk = some w.heap.size) (hok : c.ok B (w.alloc ob)) : Inv B w0 (c :: own) F (w.alloc ob) := by
  refine h.change (fun _ => False) (fun _ x => x.elim) (fun _ _ _ x => x) rfl rfl rfl (by simp) (fun k hk _ => by rw [World.grownBy.block (World.grownBy_alloc w ob none) k hk (by simp)]) (fun d hd => ?_) (List.pairwise_cons.2 ⟨fun d hd => ?_, h.nod⟩) (fun _ _ x => .inl x) fun d hd a v hb hf => ?_
  · rcases List.mem_cons.1 hd with rfl | hd
    · exact .inl hok
    · exact .inr ⟨hd, fun _ _ x => x⟩
  · cases hk : d.blk with
    | none => exact .inr (by rw [hc, hk]; simp)
    | some k =>
      have := (h.lt hd hk).2
      refine .inr ?_
      rw [hc, hk]
      intro e
      cases e
      omega
  · rcases List.mem_cons.1 hd with rfl | hd
    · rw [hc] at hb
      have := h.frlt hf
      have := Option.some.inj hb
      omega
    · exact h.ex d hd a v hb hf
theorem Inv.newc (h : Inv B w0 own F w) (cs : Array Value) (t : TypeId) : Inv B w0 (.c w.heap.size cs.toList :: own) F (w.alloc (.cells cs t)) :=
  h.new _ _ rfl ⟨h.big, t, by rw [heap_alloc_new]⟩
theorem Inv.newo (h : Inv B w0 own F w) (ob : Obj) (hn : notCells ob) : Inv B w0 (.o w.heap.size ob :: own) F (w.alloc ob) :=
  h.new _ _ rfl ⟨h.big, heap_alloc_new w ob, hn⟩
theorem mem_set {α : Type} {l : List α} {p : Nat} {x y : α} (h : y ∈ l.set p x) : y = x ∨ ∃ q, q ≠ p ∧ l[q]? = some y := by
  obtain ⟨q, hq⟩ := List.getElem?_of_mem h
  rw [List.getElem?_set] at hq
  split at hq
  · split at hq
    · cases hq; exact .inl rfl
    · cases hq
  · rename_i hne
    exact .inr ⟨q, fun e => hne e.symm, hq⟩
theorem pairwise_at {l : List Ch} (h : l.Pairwise Apart) {p q : Nat} {x y : Ch} (hp : l[p]? = some x) (hq : l[q]? = some y) (hne : p ≠ q) : Apart x y := by
  obtain ⟨hp1, rfl⟩ := List.getElem?_eq_some_iff.1 hp
  obtain ⟨hq1, rfl⟩ := List.getElem?_eq_some_iff.1 hq
  rw [List.pairwise_iff_getElem] at h
  rcases Nat.lt_or_gt_of_ne hne with k | k
  · exact h p q hp1 hq1 k
  · exact (h q p hq1 hp1 k).symm
theorem pairwise_set {l : List Ch} (h : l.Pairwise Apart) {p : Nat} {x y : Ch} (hp : l[p]? = some x) (hy : ∀ z, Apart x z → Apart y z) : (l.set p y).Pairwise Apart := by
  rw [List.pairwise_iff_getElem]
  intro i j hi hj hij
  have hi' : i < l.length := by simpa using hi
  have hj' : j < l.length := by simpa using hj
  rw [List.getElem_set, List.getElem_set]
  split
  · rename_i e
    subst e
    rw [if_neg (by omega)]
    exact hy _ (pairwise_at h hp (List.getElem?_eq_getElem hj') (by omega))
  · rename_i e
    split
    · rename_i e'
      subst e'
      exact (hy _ (pairwise_at h hp (List.getElem?_eq_getElem hi') (by omega))).symm
    · exact pairwise_at h (List.getElem?_eq_getElem hi') (List.getElem?_eq_getElem hj') (by omega)
/-- A chunk moves, in its own block or into a new one. -/
theorem Inv.move {w' : World} (h : Inv B w0 own F w) {p : Nat} {c d : Ch} (hp : own[p]? = some c) (hg : w.grownBy w' c.blk)
    (hd : d.ok B w') (hblk : d.blk = c.blk ∨ ∀ k, d.blk = some k → w.heap.size ≤ k) : Inv B w0 (own.set p d) F w' := by
  have hc : c ∈ own := List.mem_of_getElem? hp
  have hap : ∀ q y, q ≠ p → own[q]? = some y → Apart c y := fun q y hne hy => pairwise_at h.nod hp hy fun e => hne e.symm
  refine h.change (fun k => c.blk = some k) (fun k hk => (h.lt hc hk).1) (fun a v hf hk => h.ex c hc a v hk hf) hg.os hg.tape hg.output hg.size (fun k hk hn => hg.block k hk fun e => hn e.symm) (fun y hy => ?_) ?_ (fun _ _ x => .inl x) fun y hy a v hb hf => ?_
  · rcases mem_set hy with rfl | ⟨q, hq, hy⟩
    · exact .inl hd
    · refine .inr ⟨List.mem_of_getElem? hy, fun k hk hck => ?_⟩
      rcases hap q y hq hy with e | e
      · rw [hck] at e; cases e
      · exact e (by rw [hck, hk])
  · rcases hblk with e | e
    · refine pairwise_set h.nod hp fun z hz => ?_
      unfold Apart at hz ⊢
      rw [e]; exact hz
    · rw [List.pairwise_iff_getElem]
      intro i j hi hj hij
      have hi' : i < own.length := by simpa using hi
      have hj' : j < own.length := by simpa using hj
      have key : ∀ q (hq : q < own.length), Apart d own[q] := fun q hq => by
        cases hk : d.blk with
        | none => exact .inl hk
        | some k =>
          refine .inr fun e' => ?_
          rw [hk] at e'
          have := (h.lt (List.getElem_mem hq) e'.symm).2
          have := e k hk
          omega
      rw [List.getElem_set, List.getElem_set]
      split
      · rw [if_neg (by omega)]; exact key j hj'
      · split
        · exact (key i hi').symm
        · exact pairwise_at h.nod (List.getElem?_eq_getElem hi') (List.getElem?_eq_getElem hj') (by omega)
  · rcases mem_set hy with rfl | ⟨q, hq, hy⟩
    · rcases hblk with e | e
      · rw [e] at hb; exact h.ex c hc a v hb hf
      · have := e _ hb
        have := h.frlt hf
        omega
    · exact h.ex y (List.mem_of_getElem? hy) a v hb hf
theorem grownBy_set (w : World) (a : Addr) (v : Value) : w.grownBy (w.setCell a v) (some a.block) :=
  ⟨rfl, rfl, rfl, by simp, fun k _ hk => heap_setCell_other w a k v (fun e => hk (by simp [e]))⟩
/-- A cell of an owned block is set. -/
theorem Inv.set (h : Inv B w0 own F w) {p r i : Nat} {vs : List Value} (hp : own[p]? = some (.c r vs)) (v : Value) : Inv B w0 (own.set p (.c r (vs.set i v))) F (w.setCell ⟨r, i, none⟩ v) := by
  obtain ⟨h1, e, h2⟩ := h.ok _ (List.mem_of_getElem? hp)
  refine h.move hp (grownBy_set w _ v) ⟨h1, e, ?_⟩ (.inl rfl)
  rw [heap_setCell_same w r i vs.toArray e v h2]
  simp
theorem Inv.setg (h : Inv B w0 own F w) {p r i : Nat} {e : TypeId} {s n cap m : Nat} {xs : List Value} (hp : own[p]? = some (.g (.slice (some ⟨r, 0, none⟩) n cap) e s n xs)) (v : Value) :
    Inv B w0 (own.set p (.g (.slice (some ⟨r, 0, none⟩) n cap) e s n (xs.set i v))) F (w.setCell ⟨r, i, none⟩ v) := by
  have h1 := h.ok _ (List.mem_of_getElem? hp)
  exact h.move hp (grownBy_set w _ v) (World.ownsRow.stored h1 i v).1 (.inl rfl)
/-- An object is set. -/
theorem Inv.seto (h : Inv B w0 own F w) {p r : Nat} {ob : Obj} (hp : own[p]? = some (.o r ob)) (ob' : Obj) (hn : notCells ob') : Inv B w0 (own.set p (.o r ob')) F { w with heap := w.heap.setIfInBounds r ob' } := by
  obtain ⟨h1, h2, h3⟩ := h.ok _ (List.mem_of_getElem? hp)
  have hlt := (Array.getElem?_eq_some_iff.1 h2).1
  refine h.move hp ⟨rfl, rfl, rfl, by simp, fun k _ hk => ?_⟩ ⟨h1, ?_, hn⟩ (.inl rfl)
  · rw [Array.getElem?_setIfInBounds_ne fun e => hk (by simp [Ch.blk, e])]
  · simp [hlt]
end
end Go.Proofs.YthkoodpnepfijaaGreatDoor
/- V2: REGIONS: one walk in the order of the text (or another given order) covers every order that may be drawn. -/
namespace Go.Proofs.YthkoodpnepfijaaGreatDoor
open Go.RowKit
set_option linter.unusedVariables false

/-- Nothing is barred; a round's frame or a function's. -/
def Fw (ro : Option Nat) : Fence := { Fence.wide with round := ro }
/-- What an operation must come to. -/
def upK (P : Program) (o : Oper) (a : Act) (K : Act → World → Prop) : Result Next → Prop
  | .ok (.value v) w' => K (a.put o.dst v) w'
  | .ok .skip w' => K (a.put o.dst undef) w'
  | .ok (.enter f args) w' => Calls P f args w' fun e w'' => ∃ v, e = .returned v ∧ K (a.put o.dst v) w''
  | .ok (.round l f tmps assign body) w' => RoundIn Fence.wide 0 P l f tmps assign body w' fun e w'' => ∃ v, e = .returned v ∧ K (a.put o.dst v) w''
  | _ => False
theorem upK_mono {P : Program} {o : Oper} {a : Act} {K K' : Act → World → Prop} (h : ∀ a w, K a w → K' a w) {r : Result Next} (hr : upK P o a K r) : upK P o a K' r := by
  cases r with
  | ok x w =>
    cases x <;> simp only [upK] at hr ⊢ <;> first
      | exact h _ _ hr
      | exact Calls.mono hr fun e w'' ⟨v, e1, e2⟩ => ⟨v, e1, h _ _ e2⟩
      | exact RoundIn.mono hr fun e w'' ⟨v, e1, e2⟩ => ⟨v, e1, h _ _ e2⟩
      | exact hr
  | halt x w => exact hr

section
variable {P : Program} {ops : Array Oper}
/-- One operation, whether it is wanted or not. -/
def stpO (P : Program) (ops : Array Oper) (o : Oper) (K : Act → World → Prop) (a : Act) (w : World) : Prop :=
  if Region.wanted o (yielded ops a.tmps) = true then upK P o a K ((execOp a.eval o).run P w) else K (a.put o.dst undef) w
theorem stpO_mono {o : Oper} {K K' : Act → World → Prop} (h : ∀ a w, K a w → K' a w) {a : Act} {w : World} (hr : stpO P ops o K a w) : stpO P ops o K' a w := by
  unfold stpO at *
  split
  · rename_i hw; rw [if_pos hw] at hr; exact upK_mono h hr
  · rename_i hw; rw [if_neg hw] at hr; exact h _ _ hr
/-- j waits for i, straightly or through others (three steps at most). -/
def reach (ops : Array Oper) : Nat → Nat → Nat → Bool
  | 0, _, _ => false
  | f + 1, j, i => match ops[j]? with
    | none => false
    | some o => o.after.any fun e => Region.binds .any e && (e.on == i || reach ops f e.on i)
/-- What has come up has all come up that it waits for. -/
def Dc (ops : Array Oper) (listed : Array Bool) : Prop := ∀ k o, ops[k]? = some o → listed.getD k false = true → ∀ e ∈ o.after, Region.binds .any e = true → listed.getD e.on false = true
theorem Dc.reach {listed : Array Bool} (hd : Dc ops listed) {i : Nat} (hi : listed.getD i false = false) : ∀ (f j : Nat) (o : Oper), ops[j]? = some o → (∀ e ∈ o.after, Region.binds .any e = true → listed.getD e.on false = true) → reach ops f j i = true → False
  | 0, j, o, _, _, h => by cases h
  | f + 1, j, o, hj, hall, h => by
    unfold Go.Proofs.YthkoodpnepfijaaGreatDoor.reach at h
    rw [hj] at h
    obtain ⟨e, he, hb⟩ := Array.any_eq_true'.1 h
    simp only [Bool.and_eq_true, Bool.or_eq_true, beq_iff_eq] at hb
    obtain ⟨hb1, hb2⟩ := hb
    have h1 := hall e he hb1
    rcases hb2 with h2 | h2
    · rw [h2, hi] at h1; cases h1
    · cases ho : ops[e.on]? with
      | none =>
        cases f with
        | zero => cases h2
        | succ f => unfold Go.Proofs.YthkoodpnepfijaaGreatDoor.reach at h2; rw [ho] at h2; cases h2
      | some o' => exact Dc.reach hd hi f e.on o' ho (hd e.on o' ho h1) h2
theorem Dc.set {listed : Array Bool} (hd : Dc ops listed) {j : Nat} {oj : Oper} (hj : ops[j]? = some oj) (hall : ∀ e ∈ oj.after, Region.binds .any e = true → listed.getD e.on false = true) : Dc ops (listed.setIfInBounds j true) := by
  have up : ∀ k, listed.getD k false = true → (listed.setIfInBounds j true).getD k false = true := fun k hk => by
    by_cases hjk : j = k
    · subst hjk
      have : j < listed.size := by
        rcases Nat.lt_or_ge j listed.size with h' | h'
        · exact h'
        · simp [Array.getElem?_eq_none h'] at hk
      simp [this]
    · simp only [Array.getD_eq_getD_getElem?, Array.getElem?_setIfInBounds_ne hjk] at hk ⊢; exact hk
  intro k o hk hl e he hb
  by_cases hjk : j = k
  · subst hjk
    rw [hj] at hk
    cases hk
    exact up _ (hall e he hb)
  · refine up _ (hd k o hk ?_ e he hb)
    simp only [Array.getD_eq_getD_getElem?, Array.getElem?_setIfInBounds_ne hjk] at hl ⊢; exact hl
/-- It waits for all that have come up. -/
def waits (ops : Array Oper) (listed : Array Bool) (i : Nat) : Bool :=
  match ops[i]? with
  | none => false
  | some _ => (List.range ops.size).all fun j => !listed.getD j false || reach ops 3 i j
/-- Whatever order is drawn; S: the worlds that there may be from here on. -/
def wpG (P : Program) (ops : Array Oper) (K : Act → World → Prop) : Nat → (World → Prop) → Array Bool → Act → World → Prop
  | 0, _, listed, a, w => Region.ready .any ops listed = [] ∧ K a w
  | fuel + 1, S, listed, a, w => (Region.ready .any ops listed = [] → K a w) ∧ ∀ i ∈ Region.ready .any ops listed, ∀ o, ops[i]? = some o →
      stpO P ops o (fun a' w' => ∃ S' : World → Prop, S' w' ∧ ((∀ u, S' u → S u) ∨ waits ops listed i = true) ∧ wpG P ops K fuel S' (listed.setIfInBounds i true) a' w') a w
theorem wpG_sub {K : Act → World → Prop} {fuel : Nat} {S S' : World → Prop} {listed : Array Bool} {a : Act} {w : World} (hs : ∀ u, S' u → S u) (h : wpG P ops K fuel S' listed a w) : wpG P ops K fuel S listed a w := by
  cases fuel with
  | zero => exact h
  | succ fuel => exact ⟨h.1, fun i hi o ho => stpO_mono (fun a w ⟨S'', h1, h2, h3⟩ => ⟨S'', h1, h2.imp (fun k u hu => hs u (k u hu)) id, h3⟩) (h.2 i hi o ho)⟩
theorem stpO_of_yields {S : World → Prop} {o : Oper} {v : Value} {a : Act} {w : World} {K : Act → World → Prop} (hy : YieldsIf P ops S o v a) (hS : S w) (h : K (a.put o.dst v) w) : stpO P ops o K a w := by
  unfold stpO
  rcases hy with ⟨hw, hv⟩ | ⟨hw, rfl⟩
  · rw [if_pos hw, hv w hS]; exact h
  · rw [if_neg (by simp [hw])]; exact h
theorem stpO_put {oi oj : Oper} {v : Value} {S : World → Prop} (hap : oi.apart ops oj = true)
    (hsi : ∀ cs b, oi.op ≠ .select cs b) (hsj : ∀ cs b, oj.op ≠ .select cs b) {K : Act → World → Prop} {a : Act} {w : World}
    (hy : YieldsIf P ops S oi v a) (h : stpO P ops oj K (a.put oi.dst v) w) :
    stpO P ops oj (fun a' w' => YieldsIf P ops S oi v a' ∧ K (a'.put oi.dst v) w') a w := by
  obtain ⟨h1, h2, h3⟩ := Oper.apart_spec hap
  have keep : ∀ (a : Act), YieldsIf P ops S oi v a → ∀ u, YieldsIf P ops S oi v (a.put oj.dst u) := fun a hy u =>
    hy.of_same (execOp_put oi hsi a oj.dst u h3) (wanted_put oi a oj.dst u h3)
  unfold stpO at *
  rw [wanted_put oj a oi.dst v h1] at h
  split
  · rename_i hw
    simp only [hw, if_true] at h
    rw [execOp_put oj hsj a oi.dst v h1] at h
    generalize (execOp a.eval oj).run P w = r at *
    cases r with
    | ok n w' =>
      cases n <;> simp only [upK] at h ⊢
      case value u => exact ⟨keep a hy u, by rw [← Act.put_comm a v u h2]; exact h⟩
      case skip => exact ⟨keep a hy _, by rw [← Act.put_comm a v undef h2]; exact h⟩
      case enter f args =>
        refine Calls.mono h fun e w'' ⟨u, he, hk⟩ => ⟨u, he, keep a hy u, by rw [← Act.put_comm a v u h2]; exact hk⟩
      case round l f tmps assign body =>
        refine RoundIn.mono h fun e w'' ⟨u, he, hk⟩ => ⟨u, he, keep a hy u, by rw [← Act.put_comm a v u h2]; exact hk⟩
    | halt x w' => exact h
  · rename_i hw
    simp only [hw] at h
    exact ⟨keep a hy _, by rw [← Act.put_comm a v undef h2]; exact h⟩
theorem YieldsIf.sub {S S' : World → Prop} {o : Oper} {v : Value} {a : Act} (hs : ∀ u, S' u → S u) (h : YieldsIf P ops S o v a) : YieldsIf P ops S' o v a :=
  h.imp (fun ⟨k, hv⟩ => ⟨k, fun w hw => hv w (hs w hw)⟩) id
/-- An operation that only reads may be taken first. -/
theorem wpG_first {K : Act → World → Prop} {i : Nat} {oi : Oper} {v : Value} (hi : ops[i]? = some oi) (hsel : ∀ (j : Nat) (o : Oper) cs b, ops[j]? = some o → o.op ≠ .select cs b) :
    ∀ (fuel : Nat) (S : World → Prop) (listed : Array Bool) (a : Act) (w : World),
      (∀ j oj, ops[j]? = some oj → j ≠ i → listed.getD j true = false → (∀ e ∈ oj.after, Region.binds .any e = true → e.on ≠ i) → oi.apart ops oj = true) →
      Dc ops listed → i ∈ Region.ready .any ops listed → YieldsIf P ops S oi v a → S w →
      wpG P ops K fuel S (listed.setIfInBounds i true) (a.put oi.dst v) w → wpG P ops K (fuel + 1) S listed a w := by
  intro fuel
  induction fuel with
  | zero =>
    intro S listed a w _ _ hr hy hS H
    refine ⟨fun h => (by rw [h] at hr; cases hr), fun j hj o ho => ?_⟩
    by_cases hji : j = i
    · subst hji
      rw [hi] at ho
      cases ho
      exact stpO_of_yields hy hS ⟨S, hS, .inl fun _ x => x, H⟩
    · have := ready_mono hj hji
      rw [H.1] at this
      cases this
  | succ fuel ih =>
    intro S listed a w hfree hdc hr hy hS H
    refine ⟨fun h => (by rw [h] at hr; cases hr), fun j hj o ho => ?_⟩
    by_cases hji : j = i
    · subst hji
      rw [hi] at ho
      cases ho
      exact stpO_of_yields hy hS ⟨S, hS, .inl fun _ x => x, H⟩
    · have h1 := H.2 j (ready_mono hj hji) o ho
      obtain ⟨hjun, oj, hoj, hall⟩ := mem_ready.1 hj
      rw [ho] at hoj
      cases hoj
      have hiun := (mem_ready.1 hr).1
      have hisz : i < listed.size := by
        rcases Nat.lt_or_ge i listed.size with h' | h'
        · exact h'
        · simp [Array.getElem?_eq_none h'] at hiun
      have hnot : ∀ e ∈ o.after, Region.binds .any e = true → e.on ≠ i := fun e he hb heq => by
        have h1 := hall e he hb
        rw [heq] at h1
        simp [hisz] at hiun h1
        rw [hiun] at h1; cases h1
      have hnw : ¬ waits ops (listed.setIfInBounds i true) j = true := fun hw => by
        have hilt : i < ops.size := (Array.getElem?_eq_some_iff.1 hi).1
        simp only [waits, ho, List.all_eq_true, List.mem_range] at hw
        have := hw i hilt
        simp only [Bool.or_eq_true, Bool.not_eq_true'] at this
        rcases this with k | k
        · simp [hisz] at k
        · refine hdc.reach (i := i) ?_ 3 j o ho hall k
          simp [hisz] at hiun ⊢
          exact hiun
      have h2 := stpO_put (hfree j o ho hji hjun hnot) (fun cs b => hsel i oi cs b hi) (fun cs b => hsel j o cs b ho) hy h1
      have hfree' : ∀ k ok, ops[k]? = some ok → k ≠ i → (listed.setIfInBounds j true).getD k true = false →
          (∀ e ∈ ok.after, Region.binds .any e = true → e.on ≠ i) → oi.apart ops ok = true := fun k ok hk hki hun hno => by
        refine hfree k ok hk hki ?_ hno
        by_cases hjk : j = k
        · subst hjk; exact hjun
        · rw [getD_set_ne true hjk] at hun; exact hun
      refine stpO_mono (fun a' w' ⟨hy', S', h3, h4, h5⟩ => ?_) h2
      have hsub : ∀ u, S' u → S u := h4.resolve_right hnw
      refine ⟨S', h3, .inl hsub, ih S' (listed.setIfInBounds j true) a' w' hfree' (hdc.set ho hall) (ready_mono hr (Ne.symm hji)) (YieldsIf.sub hsub hy') h3 ?_⟩
      rw [Array.setIfInBounds_comm _ _ hji]
      exact h5
theorem wpG_done {K : Act → World → Prop} {S : World → Prop} {listed : Array Bool} {a : Act} {w : World} (hr : Region.ready .any ops listed = []) (h : K a w) : ∀ fuel, wpG P ops K fuel S listed a w
  | 0 => ⟨hr, h⟩
  | _ + 1 => ⟨fun _ => h, by rw [hr]; simp⟩

/-- An operation that only reads (or reckons). -/
def isRd : Op → Bool
  | .call { callee := .builtin .len, .. } => true
  | .call { callee := .builtin .cap, .. } => true
  | .call { callee := .builtin .min, .. } => true
  | .call { callee := .builtin .max, .. } => true
  | .move _ | .pick .. | .load .. | .nilCheck _ | .binOp .. | .unOp .. | .convert .. | .makeInterface .. | .makeFunc .. | .slice .. | .fieldAddr .. | .field .. | .indexAddr .. | .index .. | .lookup .. | .build .. | .extract .. => true
  | _ => false
/-- The operations to come, each with the word whether it may come up ahead of one that has been walked. -/
def lay (ops : Array Oper) : Array Bool → List Nat → List (Bool × Oper)
  | _, [] => []
  | listed, i :: r => (!waits ops listed i, ops.getD i default) :: lay ops (listed.setIfInBounds i true) r
def ordOk (ops : Array Oper) : Array Bool → List Nat → Bool
  | listed, [] => (Region.ready .any ops listed).isEmpty
  | listed, i :: r => (match ops[i]? with
      | some o => if isRd o.op then Region.free .any ops listed i && (Region.ready .any ops listed).contains i else Region.ready .any ops listed == [i]
      | none => false) && ordOk ops (listed.setIfInBounds i true) r
/-- The walk. -/
def wpL (P : Program) (ops : Array Oper) (K : Act → World → Prop) : List (Bool × Oper) → (World → Prop) → Act → World → Prop
  | [], _, a, w => K a w
  | (n, o) :: rest, S, a, w => ∃ S' : World → Prop, S' w ∧ (∀ u, S' u → S u) ∧
      ((∃ v, YieldsIf P ops S' o v a ∧ isRd o.op = true ∧ wpL P ops K rest S' (a.put o.dst v) w) ∨
       (isRd o.op = false ∧ stpO P ops o (fun a' w' => ∃ S'' : World → Prop, S'' w' ∧ (n = true → ∀ u, S'' u → S' u) ∧ wpL P ops K rest S'' a' w') a w))
theorem wpL_sound {K : Act → World → Prop} (hsel : Region.noSelect ops = true) : ∀ (order : List Nat) (S : World → Prop) (listed : Array Bool) (a : Act) (w : World) (fuel : Nat), Dc ops listed → ordOk ops listed order = true →
    order.length ≤ fuel → wpL P ops K (lay ops listed order) S a w → wpG P ops K fuel S listed a w := by
  intro order
  induction order with
  | nil =>
    intro S listed a w fuel _ ho _ h
    simp only [ordOk, List.isEmpty_iff] at ho
    exact wpG_done ho h fuel
  | cons i r ih =>
    intro S listed a w fuel hdc ho hl h
    cases fuel with
    | zero => simp at hl
    | succ fuel =>
      simp only [ordOk, Bool.and_eq_true] at ho
      obtain ⟨ho1, ho2⟩ := ho
      simp only [lay, wpL] at h
      obtain ⟨S', hS', hsub, h⟩ := h
      have hl' : r.length ≤ fuel := by simp at hl; omega
      cases hi : ops[i]? with
      | none => rw [hi] at ho1; cases ho1
      | some o =>
        have hgd : ops.getD i default = o := by simp [hi]
        simp only [hi] at ho1
        rw [hgd] at h
        refine wpG_sub hsub ?_
        rcases h with ⟨v, hy, hrd, h⟩ | ⟨hrd, h⟩
        · rw [if_pos hrd, Bool.and_eq_true] at ho1
          have hri : i ∈ Region.ready .any ops listed := by simpa using ho1.2
          obtain ⟨_, oi, hoi, hall⟩ := mem_ready.1 hri
          exact wpG_first hi (Region.noSelect_spec hsel) fuel S' listed a w (Region.free_spec hi ho1.1) hdc hri hy hS' (ih S' _ _ w fuel (hdc.set hoi hall) ho2 hl' h)
        · rw [if_neg (by simp [hrd])] at ho1
          have hr : Region.ready .any ops listed = [i] := by simpa using ho1
          refine ⟨fun h0 => (by rw [hr] at h0; cases h0), fun j hj o' ho' => ?_⟩
          obtain ⟨_, oi, hoi, hall⟩ := mem_ready.1 hj
          have hdc' := hdc.set hoi hall
          rw [hr] at hj
          obtain rfl : j = i := by simpa using hj
          rw [hi] at ho'
          cases ho'
          refine stpO_mono (fun a' w' ⟨S'', k1, k2, k3⟩ => ⟨S'', k1, ?_, ih S'' _ a' w' fuel hdc' ho2 hl' k3⟩) h
          cases hw : waits ops listed j
          · exact .inl (k2 (by simp [hw]))
          · exact .inr rfl

/-- No operation of it is a defer statement. -/
def noDefer (ops : Array Oper) : Bool := ops.all fun o => match o.op with | .defer _ => false | _ => true
theorem noDefer_spec (h : noDefer ops = true) (j : Nat) (o : Oper) (ho : ops[j]? = some o) (c : Call) : o.op ≠ .defer c := by
  intro heq
  have := Array.all_eq_true_iff_forall_mem.1 h o (Array.mem_of_getElem? ho)
  simp [heq] at this
theorem wpOpIn_of_stp {ro : Option Nat} {Q : Exit → Act → World → Prop} {K : Act → World → Prop} {i : Nat} {o : Oper} (hi : ops[i]? = some o) (hd : ∀ c, o.op ≠ .defer c) {a : Act} {w : World} (h : stpO P ops o K a w) : wpOpIn (Fw ro) 0 P ops Q i K a w := by
  unfold wpOpIn stpO at *
  simp only [hi]
  split
  · rename_i hw
    rw [if_pos hw] at h
    refine ⟨fun _ _ => trivial, ?_⟩
    rw [Oper.semAt_eq _ _ _ hd]
    generalize (execOp a.eval o).run P w = r at *
    cases r with
    | ok n w' =>
      cases n <;> simp only [upK] at h
      case value u => exact h
      case skip => exact h
      case enter f args =>
        refine ⟨(fun x => by cases x), ?_⟩
        refine (callsIn_wide (n := 0)).2 (h.mono fun e w'' ⟨v, he, hk⟩ => ?_)
        subst he; exact hk
      case round l f tmps assign body =>
        refine ⟨(fun x => by cases x), RoundIn.mono h fun e w'' ⟨v, he, hk⟩ => ?_⟩
        subst he; exact hk
    | halt x w' => exact h.elim
  · rename_i hw
    rw [if_neg hw] at h
    exact ⟨fun _ _ => trivial, h⟩
theorem wpAnyIn_of_g {ro : Option Nat} {Q : Exit → Act → World → Prop} (hd : noDefer ops = true) : ∀ (fuel : Nat) (S : World → Prop) (listed : Array Bool) (a : Act) (w : World), wpG P ops (Q .normal) fuel S listed a w → wpAnyIn (Fw ro) 0 P .any ops Q fuel listed a w
  | 0, _, _, _, _, h => h
  | fuel + 1, S, listed, a, w, h => ⟨h.1, fun i hi => by
      obtain ⟨_, o, ho, _⟩ := mem_ready.1 hi
      exact wpOpIn_of_stp ho (fun c => noDefer_spec hd i o ho c) (stpO_mono (fun a' w' ⟨S', _, _, k⟩ => wpAnyIn_of_g hd fuel S' _ a' w' k) (h.2 i hi o ho))⟩
/-- **A region that draws its order.** -/
theorem wp_draw {ro : Option Nat} {id : Nat} {Q : Exit → Act → World → Prop} {S : World → Prop} {a : Act} {w : World} (order : List Nat) (hm : P.follows .mixedOrders = true) (hok : (Region.noSelect ops && noDefer ops && ordOk ops (Array.replicate ops.size false) order && (order.length == ops.size)) = true)
    (h : wpL P ops (Q .normal) (lay ops (Array.replicate ops.size false) order) S a { w with drawn := w.drawn + 1 }) : (Code.region id ops true).wpIn (Fw ro) 0 P Q a w := by
  simp only [Bool.and_eq_true, beq_iff_eq] at hok
  obtain ⟨⟨⟨h1, h2⟩, h3⟩, h4⟩ := hok
  refine wpIn_region_draw fun t => ?_
  simp only [Region.schedule, hm, Bool.true_or, if_true]
  exact wpAnyIn_sound ops.size t _ a _ (wpAnyIn_of_g h2 _ _ _ _ _ (wpL_sound h1 order S _ a _ _ (fun k o _ hl => by simp [Array.getD_eq_getD_getElem?, Array.getElem?_replicate] at hl; split at hl <;> cases hl) h3 (by omega) h))
/-- A walk in the order of the text. -/
def wpT (P : Program) (ops : Array Oper) (K : Act → World → Prop) : List Oper → Act → World → Prop
  | [], a, w => K a w
  | o :: rest, a, w => stpO P ops o (wpT P ops K rest) a w
theorem wpOps_of_T {ro : Option Nat} {Q : Exit → Act → World → Prop} (hd : noDefer ops = true) : ∀ (l : List Nat), (∀ i ∈ l, i < ops.size) → ∀ (a : Act) (w : World), wpT P ops (Q .normal) (l.map fun i => ops.getD i default) a w → wpOpsIn (Fw ro) 0 P ops Q l a w := by
  intro l
  induction l with
  | nil => exact fun _ a w h => h
  | cons i r ih =>
    intro hl a w h
    simp only [List.map_cons, wpT] at h
    have hlt := hl i (List.mem_cons_self ..)
    have hi : ops[i]? = some ops[i] := Array.getElem?_eq_getElem hlt
    have hgd : ops.getD i default = ops[i] := by simp [hi]
    rw [hgd] at h
    rw [wpOpsIn_cons]
    exact wpOpIn_of_stp hi (fun c => noDefer_spec hd i _ hi c) (stpO_mono (fun a' w' k => ih (fun j hj => hl j (List.mem_cons_of_mem _ hj)) a' w' k) h)
theorem range_ops (ops : Array Oper) : ((List.range ops.size).map fun i => ops.getD i default) = ops.toList := by
  apply List.ext_getElem
  · simp
  · intro i h1 h2
    have : i < ops.size := by simpa using h1
    simp [this]
theorem wp_text {ro : Option Nat} {id : Nat} {Q : Exit → Act → World → Prop} {a : Act} {w : World} (hd : noDefer ops = true) (h : wpT P ops (Q .normal) ops.toList a w) : (Code.region id ops false).wpIn (Fw ro) 0 P Q a w := by
  rw [← range_ops] at h
  exact wpIn_region (wpOps_of_T hd _ (fun i hi => by simpa using hi) a w h)
end
end Go.Proofs.YthkoodpnepfijaaGreatDoor

/-
  THE WALK OF ONE GOROUTINE, over what it has and knows.
-/
import Derived.Test.YtofohjbcgchhoaaD
import Derived.Conc.CompanyWords
import Derived.Conc.MarkLaws
import Derived.Conc.AtomicLaws2
namespace Go.Proofs.Ytofohjbcgchhoaa
open Go.Conc
open Go.RowKit

/-- Where a walk is. -/
structure En where
  B0 : Nat
  w0 : World
  PP : Value → World → Prop
  i : Nat
abbrev En.S (E : En) : Sys := SY E.B0 E.w0 E.PP
abbrev En.H (E : En) (γ : Gh) (w : World) (t : Trace) : Prop := Whole E.B0 E.w0 γ w t
def En.W (E : En) (n : Nat) (l : Lo) (fr : Frame) (cs : List Frame) : Prop := WP E.S Try.prog n E.i l fr cs

variable {E : En}

theorem Keeps.rfl' {S : Sys} {i : Nat} (γ : S.Gh) (w : World) (wake : Bool) : Keeps S i γ w γ w wake := ⟨fun _ _ _ => .inl rfl, fun _ _ h => .inr h, fun _ _ _ h => ⟨h, .inl⟩⟩
theorem evs_nil (i : Nat) (fr : Frame) (t : Trace) : t ++ evs i fr #[] = t := by simp [evs, MemOp.ofEvents]
theorem quit_act {l : Lo} (h : l.md = .act) : l.quit = none := by simp [Lo.quit, h]

/-- A step that turns nothing and lists nothing. -/
theorem En.W.ctl {n : Nat} {l : Lo} {fr fr' : Frame} {cs cs' : List Frame} (h : E.W n l fr' cs') (hs : ∀ w, stepG Try.prog (E.i == 0) (G fr cs) w = .go (G fr' cs') w #[]) : E.W (n + 1) l fr cs := by
  unfold En.W at h ⊢
  cases hq : l.quit with
  | none => exact .inr ⟨hq, fun γ w t hI ho hi => .go (hs w) (by rw [evs_nil]; exact hI) rfl (Keeps.rfl' _ _ _) (by rw [ho]; exact h)⟩
  | some d =>
    have key : E.i ≠ 0 ∧ ∃ d, E.S.quit l = some d ∧ QuitsD Try.prog n d (G fr' cs') := by
      cases n with
      | zero => exact h
      | succ n =>
        rcases h with h | ⟨h, _⟩
        · exact h
        · rw [show E.S.quit l = l.quit from rfl, hq] at h; cases h
    obtain ⟨h0, d', hd, hQ⟩ := key
    have e0 : (E.i == 0) = false := by simpa using h0
    exact .inl ⟨h0, d', hd, QuitsD.ctl rfl (fun w => by have := hs w; rw [e0] at this; exact this) hQ⟩

theorem En.W.mono {n n' : Nat} {l : Lo} {fr : Frame} {cs : List Frame} (h : E.W n l fr cs) (hn : n ≤ n') : E.W n' l fr cs := WP.mono h hn

/-- A step of a goroutine that works. -/
theorem En.W.go {n : Nat} {l : Lo} {fr : Frame} {cs : List Frame} (hact : l.quit = none)
    (h : ∀ γ w t, E.H γ w t → γ.lo E.i = l → E.i < γ.N → ∃ fr' cs' w' es γ', stepG Try.prog (E.i == 0) (G fr cs) w = .go (G fr' cs') w' es ∧ E.H γ' w' (t ++ evs E.i fr es) ∧ γ'.N = γ.N ∧ Keeps E.S E.i γ w γ' w' (mayWake Try.prog (G fr cs)) ∧ E.W n (γ'.lo E.i) fr' cs') : E.W (n + 1) l fr cs :=
  .inr ⟨hact, fun γ w t hI ho hi => by
    obtain ⟨fr', cs', w', es, γ', h1, h2, h3, h4, h5⟩ := h γ w t hI ho hi
    exact .go h1 h2 h3 h4 h5⟩

/-- A turn of the ghost alone. -/
def En.Turn (E : En) (l l' : Lo) : Prop := l.md = .act ∧ ∀ γ w t, E.H γ w t → γ.lo E.i = l → E.i < γ.N → ∃ γ', E.H γ' w t ∧ γ'.N = γ.N ∧ Keeps E.S E.i γ w γ' w false ∧ γ'.lo E.i = l'

theorem Keeps.trans' {S : Sys} {i : Nat} {γ γ' γ'' : S.Gh} {w w' w'' : World} {wake : Bool} (hN : S.num γ' = S.num γ) (h : Keeps S i γ w γ' w' false) (k : Keeps S i γ' w' γ'' w'' wake) : Keeps S i γ w γ'' w'' wake where
  own j hj hji := by
    rcases h.own j hj hji with h1 | ⟨d, h1, h2⟩
    · rcases k.own j (by rw [hN]; exact hj) hji with k1 | ⟨d', k1, k2⟩
      · exact .inl (k1.trans h1)
      · exact .inr ⟨d', by rw [← h1]; exact k1, k2⟩
    · rcases k.own j (by rw [hN]; exact hj) hji with k1 | ⟨d', k1, k2⟩
      · exact .inr ⟨d, h1, by rw [k1]; exact h2⟩
      · rw [h2] at k1; cases k1
        exact .inr ⟨d, h1, k2⟩
  stuck j hji hs := by
    rcases h.stuck j hji hs with h1 | h1
    · cases h1
    · exact k.stuck j hji h1
  gate j c hji hg := by
    obtain ⟨h1, h2⟩ := h.gate j c hji hg
    obtain ⟨k1, k2⟩ := k.gate j c hji h1
    refine ⟨k1, fun ho => ?_⟩
    rcases h2 ho with h3 | ⟨h3, _⟩
    · exact k2 h3
    · cases h3

theorem En.W.turn {n : Nat} {l l' : Lo} {fr : Frame} {cs : List Frame} (h : E.W n l' fr cs) (ht : E.Turn l l') (hq : l'.quit = none) (hc : ∀ w, ∃ fr' cs', stepG Try.prog (E.i == 0) (G fr cs) w = .go (G fr' cs') w #[]) : E.W n l fr cs := by
  unfold En.W at h ⊢
  cases n with
  | zero => obtain ⟨_, d, hd, _⟩ := h; rw [show E.S.quit l' = l'.quit from rfl, hq] at hd; cases hd
  | succ n =>
    rcases h with ⟨_, d, hd, _⟩ | ⟨_, h⟩
    · rw [show E.S.quit l' = l'.quit from rfl, hq] at hd; cases hd
    · refine .inr ⟨quit_act ht.1, fun γ w t hI ho hi => ?_⟩
      obtain ⟨γ', h1, h2, h3, h4⟩ := ht.2 γ w t hI ho hi
      obtain ⟨fr', cs', hst⟩ := hc w
      have hi' : E.i < γ'.N := by rw [h2]; exact hi
      have hx := h γ' w t h1 h4 hi'
      cases hx with
      | go hs hI' hn hk hW => exact .go hs hI' (hn.trans h2) (Keeps.trans' h2 h3 hk) hW
      | block hs _ => rw [hst] at hs; cases hs
      | spawn hs => rw [hst] at hs; cases hs
      | room hs => rw [hst] at hs; cases hs
      | dflt hs => rw [hst] at hs; cases hs
      | take hs => rw [hst] at hs; cases hs
      | shut hs => rw [hst] at hs; cases hs
      | park hs => rw [hst] at hs; cases hs
      | done h0 hs => rw [h0] at hst; rw [show ((0 : Nat) == 0) = true from rfl] at hst; rw [hst] at hs; cases hs

/-- How many steps a piece of code may take: e for an operation, L rounds of a loop. -/
def cost (e L : Nat) : Code → Nat
  | .seq x y => cost e L x + cost e L y + 1
  | .cond _ x y => cost e L x + cost e L y + 1
  | .block _ c => cost e L c + 2
  | .scope c => cost e L c + 2
  | .loop c => (L + 1) * (cost e L c + 1) + 1
  | .region _ ops _ => ops.size * e + 3
  | _ => 1

def En.After (E : En) (m : Nat) (b : Frame) (k : List Item) (cs : List Frame) : Exit → Act → Lo → Prop
  | .normal, a, l => E.W m l (b.at a k) cs
  | .exit id, a, l => ∃ k', exitTo id k = some k' ∧ E.W m l (b.at a k') cs
  | .ret, a, l => ∀ todo, E.W m l { b.at a todo with mode := .returning } cs
  | _, _, _ => False
theorem After.mono {m m' : Nat} {b : Frame} {k : List Item} {cs : List Frame} {x : Exit} {a : Act} {l : Lo} (h : E.After m b k cs x a l) (hm : m ≤ m') : E.After m' b k cs x a l := by
  cases x with
  | normal => exact En.W.mono h hm
  | exit id => obtain ⟨k', hk, hg⟩ := h; exact ⟨k', hk, hg.mono hm⟩
  | ret => exact fun todo => (h todo).mono hm
  | goto l => exact h
  | panic ch => exact h
  | outgrown => exact h
theorem After.push {m : Nat} {b : Frame} {x : Item} {k : List Item} {cs : List Frame} {ex : Exit} {a : Act} {l : Lo} (hx : x.plain = true) (he : ex ≠ .normal) (h : E.After m b k cs ex a l) : E.After m b (x :: k) cs ex a l := by
  cases ex with
  | normal => exact absurd rfl he
  | exit id => obtain ⟨k', hk, hg⟩ := h; exact ⟨k', by cases x <;> simp_all [exitTo, Item.plain], hg⟩
  | ret => exact h
  | goto l => exact h
  | panic ch => exact h
  | outgrown => exact h

/-- What is asked behind a piece of code: R where it is left at its end, else Q. -/
def Thn (R : Act → Lo → Prop) (Q : Exit → Act → Lo → Prop) : Exit → Act → Lo → Prop
  | .normal, a, l => R a l
  | ex, a, l => Q ex a l
def Inb (id : Nat) (Q : Exit → Act → Lo → Prop) : Exit → Act → Lo → Prop
  | .normal, a, l => Q .normal a l
  | .exit id', a, l => if id' = id then Q .normal a l else Q (.exit id') a l
  | ex, a, l => Q ex a l

/-- THE JUDGEMENT: a piece of code. -/
def En.C (E : En) (e L : Nat) (fn : FuncId) (c : Code) (Q : Exit → Act → Lo → Prop) (a : Act) (l : Lo) : Prop :=
  ∀ (b : Frame) (k : List Item) (cs : List Frame) (m : Nat), b.fn = fn → b.kind ≠ .early → (∀ ex a' l', Q ex a' l' → E.After m b k cs ex a' l') → E.W (m + cost e L c) l (b.at a (.code c :: k)) cs
/-- The operations of a region that are still to come. -/
def En.O (E : En) (e : Nat) (fn : FuncId) (ops : Array Oper) (todo : List Nat) (Q : Act → Lo → Prop) (a : Act) (l : Lo) : Prop :=
  ∀ (b : Frame) (k : List Item) (cs : List Frame) (m : Nat), b.fn = fn → b.kind ≠ .early → (∀ a' l', Q a' l' → E.W m l' (b.at a' k) cs) → E.W (m + (todo.length * e + 1)) l (b.at a (.inRegion ops todo :: k)) cs
/-- One operation. -/
def En.U (E : En) (e : Nat) (fn : FuncId) (ops : Array Oper) (j : Nat) (K : Act → Lo → Prop) (a : Act) (l : Lo) : Prop :=
  ∀ (rest : List Nat) (b : Frame) (k : List Item) (cs : List Frame) (m : Nat), b.fn = fn → b.kind ≠ .early → (∀ a' l', K a' l' → E.W m l' (b.at a' (.inRegion ops rest :: k)) cs) → E.W (m + e) l (b.at a (.inRegion ops (j :: rest) :: k)) cs

section rules
variable {e L : Nat} {fn : FuncId} {Q : Exit → Act → Lo → Prop} {a : Act} {l : Lo}

theorem c_mono {c : Code} {Q' : Exit → Act → Lo → Prop} (h : E.C e L fn c Q a l) (hq : ∀ ex a l, Q ex a l → Q' ex a l) : E.C e L fn c Q' a l :=
  fun b k cs m hb hk hc => h b k cs m hb hk fun ex a' l' q => hc ex a' l' (hq ex a' l' q)
theorem c_skip (h : Q .normal a l) : E.C e L fn .skip Q a l := fun _ _ _ _ _ _ hc => En.W.ctl (hc _ _ _ h) fun _ => stepG_skip
theorem c_label {x : Nat} (h : Q .normal a l) : E.C e L fn (.label x) Q a l := fun _ _ _ _ _ _ hc => En.W.ctl (hc _ _ _ h) fun _ => stepG_label
theorem c_ret (h : Q .ret a l) : E.C e L fn .ret Q a l := fun _ _ _ _ _ _ hc => En.W.ctl (hc _ _ _ h _) fun _ => stepG_ret'
theorem c_exit {id : Nat} (h : Q (.exit id) a l) : E.C e L fn (.exit id) Q a l := fun b k cs m _ _ hc => by
  obtain ⟨k', hk', hg⟩ := hc _ _ _ h
  exact En.W.ctl hg fun _ => stepG_exit hk'
theorem c_seq {x y : Code} (h : E.C e L fn x (Thn (fun a' l' => E.C e L fn y Q a' l') Q) a l) : E.C e L fn (.seq x y) Q a l := by
  intro b k cs m hb hk hc
  have hx : E.W (m + cost e L y + cost e L x) l (b.at a (.code x :: .code y :: k)) cs := by
    refine h b (.code y :: k) cs (m + cost e L y) hb hk fun ex a' l' q => ?_
    cases ex with
    | normal => exact q b k cs m hb hk hc
    | exit id => exact After.push rfl (by simp) (After.mono (hc _ _ _ q) (Nat.le_add_right _ _))
    | ret => exact After.push (x := .code y) rfl (by simp) (After.mono (hc _ _ _ q) (Nat.le_add_right _ _))
    | goto l => exact hc _ _ _ q
    | panic ch => exact hc _ _ _ q
    | outgrown => exact hc _ _ _ q
  have e1 : m + cost e L (.seq x y) = (m + cost e L y + cost e L x) + 1 := by simp only [cost]; omega
  rw [e1]
  exact En.W.ctl hx fun _ => stepG_seq
/-- A cut: what holds between x and y is said once. -/
theorem c_cut {x y : Code} (M : Act → Lo → Prop) (h : E.C e L fn x (Thn M Q) a l) (hy : ∀ a' l', M a' l' → E.C e L fn y Q a' l') : E.C e L fn (.seq x y) Q a l :=
  c_seq (c_mono h fun ex a' l' q => by cases ex <;> first | exact hy _ _ q | exact q)
/-- Behind a turn of the ghost. -/
theorem c_turn {x y : Code} {l' : Lo} (ht : E.Turn l l') (hq : l'.quit = none) (h : E.C e L fn (.seq x y) Q a l') : E.C e L fn (.seq x y) Q a l :=
  fun b k cs m hb hk hc => En.W.turn (h b k cs m hb hk hc) ht hq fun _ => ⟨_, _, stepG_seq⟩
theorem c_cond {c : Operand} {x y : Code} (t : Bool) (hc : a.eval c = .bool t) (h1 : t = true → E.C e L fn x Q a l) (h2 : t = false → E.C e L fn y Q a l) : E.C e L fn (.cond c x y) Q a l := by
  intro b k cs m hb hk hq
  cases t with
  | true =>
    have := (h1 rfl b k cs m hb hk hq).mono (n' := m + (cost e L x + cost e L y)) (by omega)
    exact En.W.ctl this fun _ => stepG_cond hc
  | false =>
    have := (h2 rfl b k cs m hb hk hq).mono (n' := m + (cost e L x + cost e L y)) (by omega)
    exact En.W.ctl this fun _ => stepG_cond hc
theorem c_block {id : Nat} {c : Code} (h : E.C e L fn c (Inb id Q) a l) : E.C e L fn (.block id c) Q a l := by
  intro b k cs m hb hk hc
  have hx : E.W (m + 1 + cost e L c) l (b.at a (.code c :: .inBlock id :: k)) cs := by
    refine h b (.inBlock id :: k) cs (m + 1) hb hk fun ex a' l' q => ?_
    cases ex with
    | normal => exact En.W.ctl (hc _ _ _ q) fun _ => stepG_inBlock
    | exit id' =>
      by_cases hid : id' = id
      · simp only [Inb, hid, if_true] at q
        exact ⟨k, by simp [exitTo, hid], (hc _ _ _ q).mono (Nat.le_succ _)⟩
      · simp only [Inb, hid, if_false] at q
        obtain ⟨k', hk', hg⟩ := hc _ _ _ q
        have : (id == id') = false := by simp; exact fun h => hid h.symm
        exact ⟨k', by simp [exitTo, this, hk'], hg.mono (Nat.le_succ _)⟩
    | ret => exact fun todo => (hc _ _ _ q todo).mono (Nat.le_succ _)
    | goto l => exact hc _ _ _ q
    | panic ch => exact hc _ _ _ q
    | outgrown => exact hc _ _ _ q
  have e1 : m + cost e L (.block id c) = (m + 1 + cost e L c) + 1 := by simp only [cost]; omega
  rw [e1]
  exact En.W.ctl hx fun _ => stepG_block
/-- A body with labels. -/
theorem stepG_scope {P : Program} {main : Bool} {b : Frame} {a : Act} {k : List Item} {cs : List Frame} {w : World} {c : Code} : stepG P main (G (b.at a (.code (.scope c) :: k)) cs) w = .go (G (b.at a (.code c :: .inScope c :: k)) cs) w #[] := by
  simp [G, stepG, stepG.exec, Frame.at]
theorem stepG_inScope {P : Program} {main : Bool} {b : Frame} {a : Act} {k : List Item} {cs : List Frame} {w : World} {c : Code} : stepG P main (G (b.at a (.inScope c :: k)) cs) w = .go (G (b.at a k) cs) w #[] := by
  simp [G, stepG, stepG.exec, Frame.at]
theorem c_scope {c : Code} (h : E.C e L fn c Q a l) : E.C e L fn (.scope c) Q a l := by
  intro b k cs m hb hk hc
  have hx : E.W (m + 1 + cost e L c) l (b.at a (.code c :: .inScope c :: k)) cs := by
    refine h b (.inScope c :: k) cs (m + 1) hb hk fun ex a' l' q => ?_
    cases ex with
    | normal => exact En.W.ctl (hc _ _ _ q) fun _ => stepG_inScope
    | exit id' =>
      obtain ⟨k', hk', hg⟩ := hc _ _ _ q
      exact ⟨k', by simp only [exitTo]; exact hk', hg.mono (Nat.le_succ _)⟩
    | ret => exact fun todo => (hc _ _ _ q todo).mono (Nat.le_succ _)
    | goto l => exact hc _ _ _ q
    | panic ch => exact hc _ _ _ q
    | outgrown => exact hc _ _ _ q
  have e1 : m + cost e L (.scope c) = (m + 1 + cost e L c) + 1 := by simp only [cost]; omega
  rw [e1]
  exact En.W.ctl hx fun _ => stepG_scope
theorem c_loop {c : Code} (I : Act → Lo → Prop) (μ : Act → Lo → Nat) (h₀ : I a l) (hN : μ a l ≤ L) (round : ∀ a l, I a l → E.C e L fn c (Thn (fun a' l' => I a' l' ∧ μ a' l' < μ a l) Q) a l) : E.C e L fn (.loop c) Q a l := by
  intro b k cs m hb hk hc
  obtain ⟨r, hr⟩ : ∃ r, r = cost e L c := ⟨_, rfl⟩
  have key : ∀ N a l, μ a l ≤ N → I a l → E.W (m + (N + 1) * (r + 1)) l (b.at a (.code c :: .inLoop c :: k)) cs := by
    intro N
    induction N with
    | zero =>
      intro a l hμ hI
      have := round a l hI b (.inLoop c :: k) cs (m + 1) hb hk fun ex a' l' q => by
        cases ex with
        | normal => exact absurd q.2 (by omega)
        | exit id => exact After.push rfl (by simp) (After.mono (hc _ _ _ q) (Nat.le_add_right _ _))
        | ret => exact After.push (x := .inLoop c) rfl (by simp) (After.mono (hc _ _ _ q) (Nat.le_add_right _ _))
        | goto l => exact hc _ _ _ q
        | panic ch => exact hc _ _ _ q
        | outgrown => exact hc _ _ _ q
      exact this.mono (by simp; omega)
    | succ N ih =>
      intro a l hμ hI
      have := round a l hI b (.inLoop c :: k) cs (m + (N + 1) * (r + 1) + 1) hb hk fun ex a' l' q => by
        cases ex with
        | normal => exact En.W.ctl (ih a' l' (by have := q.2; omega) q.1) fun _ => stepG_inLoop
        | exit id => exact After.push rfl (by simp) (After.mono (hc _ _ _ q) (by omega))
        | ret => exact After.push (x := .inLoop c) rfl (by simp) (After.mono (hc _ _ _ q) (by omega))
        | goto l => exact hc _ _ _ q
        | panic ch => exact hc _ _ _ q
        | outgrown => exact hc _ _ _ q
      refine this.mono ?_
      have : (N + 1 + 1) * (r + 1) = (N + 1) * (r + 1) + (r + 1) := by rw [Nat.succ_mul]
      omega
  have e1 : m + cost e L (.loop c) = (m + (L + 1) * (r + 1)) + 1 := by simp only [cost, hr]; omega
  rw [e1]
  exact En.W.ctl (key L a l hN h₀) fun _ => stepG_loop
theorem c_region {id : Nat} {ops : Array Oper} (h : E.O e fn ops (List.range ops.size) (Q .normal) a l) : E.C e L fn (.region id ops false) Q a l := by
  intro b k cs m hb hk hc
  have := h b k cs m hb hk fun a' l' q => hc _ _ _ q
  refine (En.W.ctl this fun _ => stepG_region).mono ?_
  simp [cost]; omega
theorem o_nil {ops : Array Oper} {Q : Act → Lo → Prop} (h : Q a l) : E.O e fn ops [] Q a l := fun b k cs m _ _ hc => by
  have := En.W.ctl (E := E) (fr := b.at a (.inRegion ops [] :: k)) (hc a l h) fun _ => stepG_region_end
  exact this.mono (by simp)
theorem o_cons {ops : Array Oper} {j : Nat} {rest : List Nat} {Q : Act → Lo → Prop} (h : E.U e fn ops j (fun a' l' => E.O e fn ops rest Q a' l') a l) : E.O e fn ops (j :: rest) Q a l := fun b k cs m hb hk hc => by
  have := h rest b k cs (m + (rest.length * e + 1)) hb hk fun a' l' q => q b k cs m hb hk hc
  refine this.mono ?_
  simp only [List.length_cons, Nat.succ_mul]
  omega
theorem u_mono {ops : Array Oper} {j : Nat} {K K' : Act → Lo → Prop} (h : E.U e fn ops j K a l) (hK : ∀ a l, K a l → K' a l) : E.U e fn ops j K' a l := fun rest b k cs m hb hk hc => h rest b k cs m hb hk fun a' l' q => hc a' l' (hK _ _ q)
theorem u_unwanted {ops : Array Oper} {j : Nat} {K : Act → Lo → Prop} {o : Oper} (he : 1 ≤ e) (ho : ops[j]? = some o) (hw : Region.wanted o (yielded ops a.tmps) = false) (h : K (a.put o.dst undef) l) : E.U e fn ops j K a l :=
  fun rest b k cs m _ _ hc => (En.W.ctl (hc _ _ h) fun _ => stepG_unwanted ho hw).mono (by omega)

/-- One operation of a goroutine that works, as the ghost will have it. -/
theorem u_step {ops : Array Oper} {j : Nat} {K : Act → Lo → Prop} {o : Oper} (he : 1 ≤ e) (hact : l.quit = none) (ho : ops[j]? = some o) (hw : Region.wanted o (yielded ops a.tmps) = true)
    (h : ∀ γ w t, E.H γ w t → γ.lo E.i = l → E.i < γ.N → ∀ pos, ∀ K' : Act → World → Prop,
      (∀ a' w', (∃ γ', E.H γ' w' (t ++ MemOp.ofEvents E.i fn pos (listed Try.prog fn a o w)) ∧ γ'.N = γ.N ∧ (∀ wake, Keeps E.S E.i γ w γ' w' wake) ∧ K a' (γ'.lo E.i)) → K' a' w') → uponK o a K' ((execOp a.eval o).run Try.prog w)) : E.U e fn ops j K a l := by
  intro rest b k cs m hb hk hc
  refine (En.W.go (n := m) hact fun γ w t hI hl hi => ?_).mono (by omega)
  have := h γ w t hI hl hi (b.at a (.inRegion ops (j :: rest) :: k)).place (fun a' w' => ∃ γ', E.H γ' w' (t ++ MemOp.ofEvents E.i fn (b.at a (.inRegion ops (j :: rest) :: k)).place (listed Try.prog fn a o w)) ∧ γ'.N = γ.N ∧ (∀ wake, Keeps E.S E.i γ w γ' w' wake) ∧ K a' (γ'.lo E.i)) (fun _ _ x => x)
  revert this
  cases hr : (execOp a.eval o).run Try.prog w with
  | halt x w' => exact False.elim
  | ok x w' =>
    cases x with
    | value v =>
      rintro ⟨γ', h1, h2, h3, h4⟩
      exact ⟨_, _, _, _, γ', stepG_value ho hw hk hr, by rw [hb]; unfold evs; rw [show (b.at a (.inRegion ops (j :: rest) :: k)).fn = fn from hb]; exact h1, h2, h3 _, hc _ _ h4⟩
    | skip =>
      rintro ⟨γ', h1, h2, h3, h4⟩
      exact ⟨_, _, _, _, γ', stepG_none ho hw hk hr, by rw [hb]; unfold evs; rw [show (b.at a (.inRegion ops (j :: rest) :: k)).fn = fn from hb]; exact h1, h2, h3 _, hc _ _ h4⟩
    | _ => exact False.elim

/-- What a goroutine knows of the world. -/
structure Fa (B0 : Nat) (l : Lo) (w : World) : Prop where
  cell : ∀ a v, l.res.cells a = some v → w.cell? a = some v
  froz : ∀ a v, l.res.cells a = some v → w.frozen? a = false
  ro : ∀ a v, l.ro a v → w.cell? a = some v
  oc : ∀ c cap, l.oc c = some cap → w.heap[c]? = some (.chan cap #[] false 0 0 false)
  big : B0 ≤ w.heap.size
  own : ∀ a v, l.res.cells a ≠ none → l.ro a v → False
theorem fa_of {γ : Gh} {w : World} {t : Trace} (h : E.H γ w t) (hi : E.i < γ.N) : Fa E.B0 (γ.lo E.i) w :=
  ⟨fun a v e => (h.mem.cell _ hi a v e).1, fun a v e => (h.mem.cell _ hi a v e).2.1, fun a v e => h.mem.ro _ hi a v e, fun c cap e => (h.mem.oc _ hi c cap e).2, h.mem.big, fun a v e1 e2 => h.own.exro _ _ hi hi a v e1 e2⟩

/-- A plain access of what is owned, a plain read of what may be read. -/
def PlainOf (l : Lo) (ev : Event) : Prop := ∃ ad wr, ev = ⟨.cell ad, wr, false⟩ ∧ (l.res.cells ad ≠ none ∨ (wr = false ∧ ∃ v, l.ro ad v))

theorem Keeps.near {γ : Gh} {w w' : World} {t : Trace} (h : E.H γ w t) (hi : E.i < γ.N) {X : Addr → Prop} (hX : ∀ a, X a → (γ.lo E.i).res.cells a ≠ none) (hN : Near X w w') (l' : Lo) (wake : Bool) : Keeps E.S E.i γ w (γ.set E.i l') w' wake where
  own j _ hj := .inl (set_ne γ l' hj)
  stuck j hj hs := by
    obtain ⟨h1, h2, h3, u, B, h4, h5, h6⟩ := hs
    refine .inr ⟨h1, by rw [set_ne γ l' hj]; exact h2, by rw [set_ne γ l' hj]; exact h3, u, B, by rw [set_ne γ l' hj]; exact h4, h5, ?_⟩
    obtain ⟨_, _, _, _, G, hG, _⟩ := h.team.boss j h1 u B h4
    rw [hN.cell ⟨u, 1, none⟩ (lt_of_cell2 (h.mem.wg u G hG).2.2.1) (fun x => h.own.exAT _ hi _ (hX _ x) ⟨rfl, .inr (.inl (by rw [show γ.wg u = some G from hG]; rfl))⟩)]
    exact h6
  gate j c hj hg := by
    obtain ⟨h1, h2, h3, h4⟩ := hg
    refine ⟨⟨h1, by rw [set_ne γ l' hj]; exact h2, h3, by rw [set_ne γ l' hj]; exact h4⟩, fun ho => ?_⟩
    obtain ⟨cap, s, r, tm, hc⟩ := ho
    exact .inl ⟨cap, s, r, tm, hN.chan _ _ _ _ _ _ _ hc⟩

theorem deaf_plain {l : Lo} {es : Array Event} (h : ∀ ev ∈ es, PlainOf l ev) (d : Nat) : deafBehind d es = d := by
  unfold deafBehind
  rw [← Array.foldl_toList]
  have : ∀ (xs : List Event), (∀ ev ∈ xs, PlainOf l ev) → ∀ d, xs.foldl (fun d e => match e.loc with | .mark .disable => d + 1 | .mark .enable => d - 1 | _ => d) d = d := by
    intro xs
    induction xs with
    | nil => exact fun _ _ => rfl
    | cons x xs ih =>
      intro hx d
      obtain ⟨ad, wr, rfl, _⟩ := hx x (by simp)
      simp only [List.foldl_cons]
      exact ih (fun ev he => hx ev (by simp [he])) d
  exact this _ (fun ev he => h ev (by simpa using he)) d

/-- An operation in the goroutine's own cells, in new ones. -/
theorem u_near {ops : Array Oper} {j : Nat} {K : Act → Lo → Prop} {o : Oper} (he : 1 ≤ e) (hact : l.md = .act) (ho : ops[j]? = some o) (hw : Region.wanted o (yielded ops a.tmps) = true)
    (h : ∀ w, Fa E.B0 l w → ∀ K' : Act → World → Prop,
      (∀ a' w' C' R' O', Near (fun a => l.res.cells a ≠ none) w w' →
        (∀ a v, C' a = some v → w'.cell? a = some v ∧ w'.frozen? a = false ∧ (l.res.cells a ≠ none ∨ w.heap.size ≤ a.block)) →
        (∀ a v, R' a v → w'.cell? a = some v ∧ (l.ro a v ∨ (C' a = none ∧ (l.res.cells a ≠ none ∨ w.heap.size ≤ a.block)))) →
        (∀ c cap, O' c = some cap → l.oc c = some cap ∨ (w.heap.size ≤ c ∧ w'.heap[c]? = some (.chan cap #[] false 0 0 false))) →
        (∀ ev ∈ listed Try.prog fn a o w, PlainOf { l with res := ⟨C', l.res.tk⟩, ro := R', oc := O' } ev) → K a' { l with res := ⟨C', l.res.tk⟩, ro := R', oc := O' } → K' a' w') → uponK o a K' ((execOp a.eval o).run Try.prog w)) : E.U e fn ops j K a l := by
  refine u_step he (quit_act hact) ho hw fun γ w t hI hl hi pos K' hK' => ?_
  subst hl
  refine h w (fa_of hI hi) K' fun a' w' C' R' O' hN hc hr hoc hev hK => hK' a' w' ?_
  refine ⟨γ.set E.i { γ.lo E.i with res := ⟨C', (γ.lo E.i).res.tk⟩, ro := R', oc := O' }, ?_, rfl, fun wake => Keeps.near hI hi (fun _ x => x) hN _ wake, by rw [set_same]; exact hK⟩
  refine Whole.near hI hi hact (fun _ x => x) hN fn pos (d' := (γ.lo E.i).df) rfl hc hr hoc (deaf_plain hev _).symm fun ev hmem => ?_
  obtain ⟨ad, wr, rfl, hx⟩ := hev ev hmem
  refine ⟨?_, ?_⟩
  · rcases hx with hx | ⟨_, v, hx⟩
    · obtain ⟨v, hv⟩ := Option.ne_none_iff_exists'.1 hx
      exact lt_of_cell (hc ad v hv).1
    · exact lt_of_cell (hr ad v hx).1
  · exact hx

/-- An operation that only reads. -/
theorem u_read {ops : Array Oper} {j : Nat} {K : Act → Lo → Prop} {o : Oper} (he : 1 ≤ e) (hact : l.md = .act) (ho : ops[j]? = some o) (hw : Region.wanted o (yielded ops a.tmps) = true)
    (h : ∀ w, Fa E.B0 l w → ∀ K' : Act → World → Prop, (∀ a', (∀ ev ∈ listed Try.prog fn a o w, PlainOf l ev) ∧ K a' l → K' a' w) → uponK o a K' ((execOp a.eval o).run Try.prog w)) : E.U e fn ops j K a l :=
  u_near he hact ho hw fun w hF K' hK' => h w hF K' fun a' ⟨hev, hk⟩ => hK' a' w l.res.cells l.ro l.oc (.refl _ _) (fun ad v hv => ⟨hF.cell ad v hv, hF.froz ad v hv, .inl (by rw [hv]; simp)⟩) (fun ad v hv => ⟨hF.ro ad v hv, .inl hv⟩) (fun _ _ x => .inl x) hev hk

def Lo.setc (l : Lo) (ad : Addr) (v : Value) : Lo := { l with res := ⟨fun x => if x = ad then some v else l.res.cells x, l.res.tk⟩ }
/-- A store into a cell of its own. -/
theorem u_store {ops : Array Oper} {j : Nat} {K : Act → Lo → Prop} {o : Oper} (he : 1 ≤ e) (hact : l.md = .act) (ho : ops[j]? = some o) (hw : Region.wanted o (yielded ops a.tmps) = true) (ad : Addr) (v : Value) (hown : l.res.cells ad ≠ none)
    (h : ∀ w, Fa E.B0 l w → ∀ K' : Act → World → Prop, (∀ a', (∀ ev ∈ listed Try.prog fn a o w, PlainOf l ev) ∧ K a' (l.setc ad v) → K' a' (w.setCell ad v)) → uponK o a K' ((execOp a.eval o).run Try.prog w)) : E.U e fn ops j K a l :=
  u_near he hact ho hw fun w hF K' hK' => h w hF K' fun a' ⟨hev, hk⟩ => by
    obtain ⟨v0, hv0⟩ := Option.ne_none_iff_exists'.1 hown
    refine hK' a' (w.setCell ad v) _ l.ro l.oc ((Near.setCell w ad v).mono fun _ x => by rw [x]; exact hown) (fun x y hy => ?_) (fun x y hy => ?_) (fun _ _ x => .inl x) (fun ev hm => ?_) hk
    · by_cases ex : x = ad
      · subst ex
        simp only [if_true, Option.some.injEq] at hy
        subst hy
        exact ⟨World.cell?_setCell_same _ _ _ (hF.cell _ _ hv0), by rw [World.frozen?_setCell]; exact hF.froz _ _ hv0, .inl hown⟩
      · rw [if_neg ex] at hy
        exact ⟨by rw [World.cell?_setCell_other _ _ _ _ (fun e => ex e.symm)]; exact hF.cell _ _ hy, by rw [World.frozen?_setCell]; exact hF.froz _ _ hy, .inl (by rw [hy]; simp)⟩
    · refine ⟨?_, .inl hy⟩
      rw [World.cell?_setCell_other _ _ _ _ (fun e => by subst e; exact hF.own _ y hown hy)]
      exact hF.ro x y hy
    · obtain ⟨b, wr, rfl, hx⟩ := hev ev hm
      refine ⟨b, wr, rfl, ?_⟩
      rcases hx with hx | hx
      · exact .inl (by show (if b = ad then some v else l.res.cells b) ≠ none; split <;> simp_all)
      · exact .inr hx

/-- New cells. -/
def Lo.addc (l : Lo) (r : Nat) (c : Array Value) : Lo := { l with res := ⟨fun x => if x.block = r ∧ x.spot = none then c[x.off]? else l.res.cells x, l.res.tk⟩ }
theorem alloc_froz (w : World) (c : Array Value) (t : TypeId) (a : Addr) (h : a.block = w.heap.size) : (w.alloc (.cells c t)).frozen? a = false := by
  obtain ⟨b, o, s⟩ := a
  simp only at h
  subst h
  exact World.frozen?_alloc_new w c t o
theorem u_alloc {ops : Array Oper} {j : Nat} {K : Act → Lo → Prop} {o : Oper} (he : 1 ≤ e) (hact : l.md = .act) (ho : ops[j]? = some o) (hw : Region.wanted o (yielded ops a.tmps) = true) (c : Array Value) (ty : TypeId)
    (h : ∀ w, Fa E.B0 l w → ∀ K' : Act → World → Prop, (∀ a', (∀ ev ∈ listed Try.prog fn a o w, PlainOf l ev) ∧ K a' (l.addc w.heap.size c) → K' a' (w.alloc (.cells c ty))) → uponK o a K' ((execOp a.eval o).run Try.prog w)) : E.U e fn ops j K a l :=
  u_near he hact ho hw fun w hF K' hK' => h w hF K' fun a' ⟨hev, hk⟩ => by
    have hlt : ∀ x y, l.res.cells x = some y → x.block ≠ w.heap.size := fun x y hy => Nat.ne_of_lt (lt_of_cell (hF.cell x y hy))
    refine hK' a' (w.alloc (.cells c ty)) _ l.ro l.oc (Near.alloc _ _ _) (fun x y hy => ?_) (fun x y hy => ?_) (fun _ _ x => .inl x) (fun ev hm => ?_) hk
    · by_cases ex : x.block = w.heap.size ∧ x.spot = none
      · rw [if_pos ex] at hy
        obtain ⟨b, o', s⟩ := x
        simp only at ex
        obtain ⟨rfl, rfl⟩ := ex
        exact ⟨by rw [World.cell?_alloc_new]; exact hy, alloc_froz _ _ _ _ rfl, .inr (Nat.le_refl _)⟩
      · rw [if_neg ex] at hy
        exact ⟨by rw [World.cell?_alloc_old _ _ _ (hlt x y hy)]; exact hF.cell x y hy, by rw [World.frozen?_alloc_old _ _ _ (hlt x y hy)]; exact hF.froz x y hy, .inl (by rw [hy]; simp)⟩
    · exact ⟨by rw [World.cell?_alloc_old _ _ _ (Nat.ne_of_lt (lt_of_cell (hF.ro x y hy)))]; exact hF.ro x y hy, .inl hy⟩
    · obtain ⟨b, wr, rfl, hx⟩ := hev ev hm
      refine ⟨b, wr, rfl, ?_⟩
      rcases hx with hx | hx
      · obtain ⟨y, hy⟩ := Option.ne_none_iff_exists'.1 hx
        exact .inl (by show (if b.block = w.heap.size ∧ b.spot = none then c[b.off]? else l.res.cells b) ≠ none; rw [if_neg (fun e => hlt b y hy e.1)]; exact hx)
      · exact .inr hx
end rules
end Go.Proofs.Ytofohjbcgchhoaa

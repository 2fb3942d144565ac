/-
  Steps towards TopCounts (no conditions of their own): THE JUDGEMENTS: a piece of code, the operations of a region, a call; what a frame holds is a list of (slot, value). THE RULES: one operation each.
-/
import Derived.Test.YthkoodpnepfijaaGreatDoorChecked
import Derived.Test.YthkoodpnepfijaaGreatDoorM01
import Derived.Laws.Cells
/- V3: THE JUDGEMENTS: a piece of code, the operations of a region, a call; what a frame holds is a list of (slot, value). -/
namespace Go.Proofs.YthkoodpnepfijaaGreatDoor
open Go.RowKit
set_option linter.unusedVariables false

abbrev Fr := List (Nat × Value)
def look (b : Nat → Value) : Fr → Nat → Value
  | [], i => b i
  | (k, v) :: r, i => bif Nat.beq k i then v else look b r i
def lookS : Fr → Nat → Option Value
  | [], _ => none
  | (k, v) :: r, i => bif Nat.beq k i then some v else lookS r i
theorem look_of {b : Nat → Value} : ∀ {x : Fr} {i : Nat} {v : Value}, lookS x i = some v → look b x i = v
  | (k, u) :: r, i, v, h => by
    unfold lookS at h
    unfold look
    cases hk : Nat.beq k i
    · rw [hk] at h; exact look_of h
    · rw [hk] at h; exact Option.some.inj h
structure St where
  x : Fr
  b : Nat → Value
  ds : List Deferred
  own : List Ch
  F : Fz
def St.act (n : Nat) (s : St) : Act := ⟨Array.ofFn (n := n) fun i => look s.b s.x i, s.ds⟩
def St.put (s : St) (d : Option Tmp) (v : Value) : St :=
  match d with
  | some d => { s with x := (d, v) :: s.x }
  | none => s
theorem act_put (n : Nat) (s : St) (d : Option Tmp) (v : Value) : (s.act n).put d v = (s.put d v).act n := by
  cases d with
  | none => rfl
  | some d =>
    simp only [St.act, Act.put, St.put, Act.mk.injEq, and_true]
    apply Array.ext
    · simp
    · intro i h1 h2
      rw [Array.getElem_setIfInBounds]
      · simp only [Array.getElem_ofFn, look]
        by_cases h : d = i
        · subst h; rw [if_pos rfl, show Nat.beq d d = true from Nat.beq_refl d]; rfl
        · have : Nat.beq d i = false := by
            cases hb : Nat.beq d i
            · rfl
            · exact absurd (Nat.eq_of_beq_eq_true hb) h
          rw [if_neg h, this, Array.getElem_ofFn]; rfl
      · simpa using h1
def evS (n : Nat) (x : Fr) : Operand → Option Value
  | .tmp t => bif Nat.blt t n then lookS x t else none
  | .const v => some v
  | .global g => some (.pointer (some ⟨g, 0, none⟩))
  | .func f => some (.func (.func f) #[] #[])
theorem ev_of {n : Nat} {s : St} {o : Operand} {v : Value} (h : evS n s.x o = some v) : (s.act n).eval o = v := by
  cases o with
  | tmp t =>
    simp only [evS] at h
    cases ht : Nat.blt t n
    · rw [ht] at h; cases h
    · rw [ht] at h
      have hlt : t < n := by simpa using ht
      have := look_of (b := s.b) h
      simp [Act.eval, St.act, hlt, this]
  | const u => exact Option.some.inj h
  | global g => exact Option.some.inj h
  | func f => exact Option.some.inj h
def evL (n : Nat) (x : Fr) : List Operand → Option (List Value)
  | [] => some []
  | o :: r => match evS n x o with
    | some v => match evL n x r with
      | some vs => some (v :: vs)
      | none => none
    | none => none
theorem evL_of {n : Nat} {s : St} : ∀ {l : List Operand} {vs : List Value}, evL n s.x l = some vs → l.map (s.act n).eval = vs
  | [], vs, h => by cases h; rfl
  | o :: r, vs, h => by
    unfold evL at h
    cases h1 : evS n s.x o with
    | none => rw [h1] at h; cases h
    | some v =>
      rw [h1] at h
      cases h2 : evL n s.x r with
      | none => rw [h2] at h; cases h
      | some us =>
        rw [h2] at h
        cases h
        rw [List.map_cons, ev_of h1, evL_of h2]
theorem evA_of {n : Nat} {s : St} {l : List Operand} {vs : List Value} (h : evL n s.x l = some vs) : (l.toArray).map (s.act n).eval = vs.toArray := by
  rw [List.map_toArray, evL_of h]

/-- May this operation come up ahead of one that has been walked? fl: the order, where the region draws one. -/
def Fg (ops : Array Oper) (fl : Option (List Nat)) (k : Nat) : Bool :=
  match fl with
  | none => false
  | some order => ((lay ops (Array.replicate ops.size false) order).reverse.getD k (false, default)).1
def zipF (ops : Array Oper) (fl : Option (List Nat)) : List Oper → List (Bool × Oper)
  | [] => []
  | o :: r => (Fg ops fl r.length, o) :: zipF ops fl r
theorem zipF_lay (ops : Array Oper) (order : List Nat) : zipF ops (some order) ((lay ops (Array.replicate ops.size false) order).map (·.2)) = lay ops (Array.replicate ops.size false) order := by
  generalize hL : lay ops (Array.replicate ops.size false) order = L
  have key : ∀ (M N : List (Bool × Oper)), N ++ M = L → zipF ops (some order) (M.map (·.2)) = M := by
    intro M
    induction M with
    | nil => intros; rfl
    | cons m M ih =>
      intro N hN
      rw [List.map_cons, zipF, ih (N ++ [m]) (by simpa using hN)]
      congr 1
      have : (Fg ops (some order) (List.map (fun x => x.2) M).length) = m.1 := by
        simp only [Fg, hL, ← hN]
        rw [List.getD_eq_getElem?_getD]
        simp
      rw [this]
  exact key L [] rfl
theorem lay_ops (ops : Array Oper) : ∀ (order : List Nat) (l : Array Bool), (lay ops l order).map (·.2) = order.map fun i => ops.getD i default
  | [], _ => rfl
  | i :: r, l => by rw [lay, List.map_cons, List.map_cons, lay_ops ops r]
/-- What stays told of the world for those operations that may still be looked at later. -/
inductive Wk : Option (List Nat) → Bool → List Ch → Fz → List Ch → Fz → List Ch → Prop
  | text {f wk F own' F'} : Wk none f wk F own' F' own'
  | keep {fl f wk F own' F'} (h : List.Sublist wk own') (hF : Fle F F') : Wk fl f wk F own' F' wk
  | more {fl f wk F own' F'} (wk' : List Ch) (h : List.Sublist wk' own') (hs : List.Sublist wk wk') (hF : Fle F F') : Wk fl f wk F own' F' wk'
  | late {fl f wk F own' F'} (wk' : List Ch) (hf : f = false) (h : List.Sublist wk' own') : Wk fl f wk F own' F' wk'
theorem Wk.sub {fl : Option (List Nat)} {f : Bool} {wk own' wk' : List Ch} {F F' : Fz} (h : Wk fl f wk F own' F' wk') : List.Sublist wk' own' := by
  cases h with
  | text => exact List.Sublist.refl _
  | keep h hF => exact h
  | more _ h hs hF => exact h
  | late _ hf h => exact h
theorem Wk.inv {ops : Array Oper} {fl : Option (List Nat)} {k : Nat} {wk own' wk' : List Ch} {F F' : Fz} (h : Wk fl (Fg ops fl k) wk F own' F' wk') {B : Nat} {w0 : World} : Fg ops fl k = true → ∀ u, Inv B w0 wk' F' u → Inv B w0 wk F u := by
  have key : ∀ (wk' : List Ch), List.Sublist wk wk' → Fle F F' → ∀ u, Inv B w0 wk' F' u → Inv B w0 wk F u := fun wk' hs hF u hu =>
    have h1 := hu.sub hs
    ⟨h1.bel, h1.big, h1.ok, h1.nod, fun a v x => h1.fr a v (hF a v x), fun c hc a v hb x => h1.ex c hc a v hb (hF a v x)⟩
  intro hf
  cases h with
  | text => cases hf
  | keep h hF => exact key _ (List.Sublist.refl _) hF
  | more _ h hs hF => exact key _ hs hF
  | late _ hff h => rw [hff] at hf; cases hf

/-- A piece of code. -/
structure C (n : Nat) (ro : Option Nat) (c : Code) (Q : Exit → St → Prop) (s : St) : Prop where
  out : ∀ B w0 w, Inv B w0 s.own s.F w → c.wpIn (Fw ro) 0 Tryz.prog (fun e a' w' => ∃ s' : St, a' = s'.act n ∧ Inv B w0 s'.own s'.F w' ∧ Q e s') (s.act n) w
/-- The operations of a region that are still to come. -/
structure O (n : Nat) (ops : Array Oper) (fl : Option (List Nat)) (todo : List Oper) (K : St → Prop) (wk : List Ch) (s : St) : Prop where
  out : ∀ B w0 w, Inv B w0 s.own s.F w → match fl with
    | none => wpT Tryz.prog ops (fun a' w' => ∃ s' : St, a' = s'.act n ∧ Inv B w0 s'.own s'.F w' ∧ K s') todo (s.act n) w
    | some _ => wpL Tryz.prog ops (fun a' w' => ∃ s' : St, a' = s'.act n ∧ Inv B w0 s'.own s'.F w' ∧ K s') (zipF ops fl todo) (Inv B w0 wk s.F) (s.act n) w
  sub : List.Sublist wk s.own
/-- A call. -/
structure N (f : FuncId) (args : List Value) (own : List Ch) (F : Fz) (Post : Value → List Ch → Fz → Prop) : Prop where
  out : ∀ B w0 w, Inv B w0 own F w → Calls Tryz.prog f args.toArray w fun e w' => ∃ v own' F', e = .returned v ∧ Inv B w0 own' F' w' ∧ Post v own' F'
theorem N.mono {f : FuncId} {args : List Value} {own : List Ch} {F : Fz} {Post Post' : Value → List Ch → Fz → Prop} (h : N f args own F Post) (hp : ∀ v o F, Post v o F → Post' v o F) : N f args own F Post' := ⟨fun B w0 w hI =>
  (h.out B w0 w hI).mono fun _ _ ⟨v, o', F', h1, h2, h3⟩ => ⟨v, o', F', h1, h2, hp _ _ _ h3⟩⟩

def Thn (R : St → Prop) (Q : Exit → St → Prop) : Exit → St → Prop
  | .normal, s => R s
  | ex, s => Q ex s
def Inb (id : Nat) (Q : Exit → St → Prop) : Exit → St → Prop
  | .normal, s => Q .normal s
  | .exit id', s => bif Nat.beq id' id then Q .normal s else Q (.exit id') s
  | ex, s => Q ex s

section
variable {n : Nat} {ro : Option Nat} {Q : Exit → St → Prop} {s : St}
theorem C.mono {c : Code} {Q' : Exit → St → Prop} (h : C n ro c Q s) (hq : ∀ ex s, Q ex s → Q' ex s) : C n ro c Q' s :=
  ⟨fun B w0 w hI => wpIn_mono (h.out B w0 w hI) fun _ _ _ ⟨s', h0, h1, h2⟩ => ⟨s', h0, h1, hq _ _ h2⟩⟩
theorem c_skip (h : Q .normal s) : C n ro .skip Q s := ⟨fun _ _ _ hI => wpIn_skip ⟨s, rfl, hI, h⟩⟩
theorem c_label {x : Nat} (h : Q .normal s) : C n ro (.label x) Q s := ⟨fun _ _ _ hI => wpIn_label ⟨s, rfl, hI, h⟩⟩
theorem c_ret (h : Q .ret s) : C n ro .ret Q s := ⟨fun _ _ _ hI => wpIn_ret ⟨s, rfl, hI, h⟩⟩
theorem c_exit {id : Nat} (h : Q (.exit id) s) : C n ro (.exit id) Q s := ⟨fun _ _ _ hI => wpIn_exit ⟨s, rfl, hI, h⟩⟩
theorem c_seq {x y : Code} (h : C n ro x (Thn (fun s' => C n ro y Q s') Q) s) : C n ro (.seq x y) Q s := by
  refine ⟨fun B w0 w hI => ?_⟩
  refine wpIn_seq (wpIn_mono (h.out B w0 w hI) fun ex a' w' hq => ?_)
  obtain ⟨s', h0, h1, h2⟩ := hq
  cases ex with
  | normal => subst h0; exact h2.out B w0 w' h1
  | exit id => exact ⟨s', h0, h1, h2⟩
  | goto x => exact ⟨s', h0, h1, h2⟩
  | ret => exact ⟨s', h0, h1, h2⟩
  | panic ch => exact ⟨s', h0, h1, h2⟩
  | outgrown => exact ⟨s', h0, h1, h2⟩
/-- What is owned and known is told anew. -/
theorem c_turn {c : Code} {own' : List Ch} {F' : Fz} (ht : ∀ B w0 w, Inv B w0 s.own s.F w → Inv B w0 own' F' w) (h : C n ro c Q { s with own := own', F := F' }) : C n ro c Q s := ⟨fun B w0 w hI => h.out B w0 w (ht B w0 w hI)⟩
/-- The frame told anew: these slots hold these values. -/
def fits (x : Fr) : Fr → Prop
  | [] => True
  | (k, v) :: r => lookS x k = some v ∧ fits x r
theorem fits_look {b : Nat → Value} {x : Fr} : ∀ {y : Fr}, fits x y → ∀ i, look (look b x) y i = look b x i
  | [], _, i => rfl
  | (k, v) :: r, h, i => by
    rw [look]
    cases hk : Nat.beq k i
    · exact fits_look h.2 i
    · have := Nat.eq_of_beq_eq_true hk
      subst this
      exact (look_of h.1).symm
theorem act_fits {y : Fr} (h : fits s.x y) : s.act n = ({ s with x := y, b := look s.b s.x } : St).act n := by
  simp only [St.act, Act.mk.injEq, and_true]
  apply Array.ext
  · simp
  · intro i h1 h2
    simp only [Array.getElem_ofFn]
    exact (fits_look h i).symm
theorem c_frame {c : Code} (y : Fr) (hf : fits s.x y) (h : ∀ b, C n ro c Q { s with x := y, b := b }) : C n ro c Q s := ⟨fun B w0 w hI => by
  rw [act_fits hf]
  exact (h _).out B w0 w hI⟩
theorem c_cond {c : Operand} {x y : Code} {t : Bool} (hc : evS n s.x c = some (.bool t)) (h1 : t = true → C n ro x Q s) (h2 : t = false → C n ro y Q s) : C n ro (.cond c x y) Q s := ⟨fun B w0 w hI =>
  wpIn_cond_split (ev_of hc) (fun e => (h1 e).out B w0 w hI) (fun e => (h2 e).out B w0 w hI)⟩
theorem c_block {id : Nat} {c : Code} (h : C n ro c (Inb id Q) s) : C n ro (.block id c) Q s := by
  refine ⟨fun B w0 w hI => ?_⟩
  refine wpIn_block (wpIn_mono (h.out B w0 w hI) fun ex a' w' hq => ?_)
  obtain ⟨s', h0, h1, h2⟩ := hq
  cases ex with
  | exit id' =>
    simp only [Exit.inBlock, Inb] at h2 ⊢
    split
    · rename_i e; subst e; rw [show Nat.beq id' id' = true from Nat.beq_refl id'] at h2; exact ⟨s', h0, h1, h2⟩
    · rename_i e
      have : Nat.beq id' id = false := by
        cases hb : Nat.beq id' id
        · rfl
        · exact absurd (Nat.eq_of_beq_eq_true hb) e
      rw [this] at h2; exact ⟨s', h0, h1, h2⟩
  | normal => exact ⟨s', h0, h1, h2⟩
  | goto x => exact ⟨s', h0, h1, h2⟩
  | ret => exact ⟨s', h0, h1, h2⟩
  | panic ch => exact ⟨s', h0, h1, h2⟩
  | outgrown => exact ⟨s', h0, h1, h2⟩
/-- A loop: the states at its head are a family. -/
theorem c_loop {ι : Type} {c : Code} (X : ι → Fr) (own : ι → List Ch) (F : ι → Fz) (P : ι → Prop) (μ : ι → Nat) (i : ι) (hx : fits s.x (X i)) (ho : s.own = own i) (hF : s.F = F i) (hP : P i)
    (round : ∀ i b, P i → C n ro c (Thn (fun s' => ∃ j, fits s'.x (X j) ∧ s'.own = own j ∧ s'.F = F j ∧ s'.ds = s.ds ∧ P j ∧ μ j < μ i) Q) ⟨X i, b, s.ds, own i, F i⟩) : C n ro (.loop c) Q s := by
  refine ⟨fun B w0 w hI => ?_⟩
  intro fb k cs hro hb hr
  have key : ∀ (m : Nat) (i : ι) (b : Nat → Value) (w : World), μ i = m → P i → Inv B w0 (own i) (F i) w →
      ∃ e a' w', (∃ s' : St, a' = s'.act n ∧ Inv B w0 s'.own s'.F w' ∧ Q e s') ∧ ArrivesIn (Machine.fenced Tryz.prog (Fw ro)) Tryz.prog (lone (fb.atR (St.act n ⟨X i, b, s.ds, own i, F i⟩) (.code c :: .inLoop c :: k)) cs w) fb k cs e a' w' := by
    intro m
    induction m using Nat.strongRecOn with
    | _ m ih =>
      intro i b w hm hp hI
      obtain ⟨e, a₁, w₁, ⟨s', h0, h1, hq⟩, harr⟩ := (round i b hp).out B w0 w hI fb (.inLoop c :: k) cs hro hb hr
      cases e with
      | normal =>
        obtain ⟨j, hf, ho', hF', hd, hpj, hlt⟩ := hq
        obtain ⟨e₂, a₂, w₂, hq₂, harr₂⟩ := ih (μ j) (hm ▸ hlt) j (look s'.b s'.x) w₁ rfl hpj (by rw [← ho', ← hF']; exact h1)
        refine ⟨e₂, a₂, w₂, hq₂, .of_steps (StepsIn.trans harr (.one (fenced_calm hb hr rfl) stepR_inLoop)) ?_⟩
        have : s'.act n = St.act n ⟨X j, look s'.b s'.x, s.ds, own j, F j⟩ := by rw [act_fits hf]; simp only [St.act, hd]
        rw [h0, this]
        exact harr₂
      | exit id => exact ⟨_, a₁, w₁, ⟨s', h0, h1, hq⟩, .pass (x := .inLoop c) rfl (fun _ _ => .inl (by simp)) harr⟩
      | goto l => exact ⟨_, a₁, w₁, ⟨s', h0, h1, hq⟩, .pass (x := .inLoop c) rfl (fun _ _ => .inl (by simp)) harr⟩
      | ret => exact ⟨_, a₁, w₁, ⟨s', h0, h1, hq⟩, .pass (x := .inLoop c) rfl (fun _ _ => .inl (by simp)) harr⟩
      | panic ch => exact ⟨_, a₁, w₁, ⟨s', h0, h1, hq⟩, .pass (x := .inLoop c) rfl (fun _ _ => .inl (by simp)) harr⟩
      | outgrown => exact ⟨_, a₁, w₁, ⟨s', h0, h1, hq⟩, .pass (x := .inLoop c) rfl (fun _ _ => .inl (by simp)) harr⟩
  rw [ho, hF] at hI
  obtain ⟨e, a', w', hq, harr⟩ := key _ i (look s.b s.x) w rfl hP hI
  refine ⟨e, a', w', hq, .of_steps (.one (fenced_calm hb hr rfl) stepR_loop) ?_⟩
  have : s.act n = St.act n ⟨X i, look s.b s.x, s.ds, own i, F i⟩ := by rw [act_fits hx]; rfl
  rw [this]
  exact harr
theorem c_text {id : Nat} {ops : Array Oper} {l : List Oper} (hl : ops = l.toArray) (hd : noDefer ops = true) (h : O n ops none l (Q .normal) s.own s) : C n ro (.region id ops false) Q s := ⟨fun B w0 w hI => by
  have h1 := h.out B w0 w hI
  refine wp_text hd ?_
  subst hl
  exact h1⟩
theorem prog_mixed : Tryz.prog.follows .mixedOrders = true := by kernel_rfl
theorem c_drawo {id : Nat} {ops : Array Oper} (order : List Nat) (wk : List Ch) (hw : List.Sublist wk s.own) (hok : (Region.noSelect ops && noDefer ops && ordOk ops (Array.replicate ops.size false) order && (order.length == ops.size)) = true)
    (h : O n ops (some order) (order.map fun i => ops.getD i default) (Q .normal) wk s) : C n ro (.region id ops true) Q s := ⟨fun B w0 w hI => by
  have h1 := h.out B w0 { w with drawn := w.drawn + 1 } (hI.drew _)
  simp only at h1
  rw [← lay_ops ops order (Array.replicate ops.size false), zipF_lay] at h1
  exact wp_draw order prog_mixed hok h1⟩
theorem c_draw {id : Nat} {ops : Array Oper} {l : List Oper} (hl : ops = l.toArray) (wk : List Ch) (hw : List.Sublist wk s.own) (hok : (Region.noSelect ops && noDefer ops && ordOk ops (Array.replicate ops.size false) (List.range ops.size) && ((List.range ops.size).length == ops.size)) = true)
    (h : O n ops (some (List.range ops.size)) l (Q .normal) wk s) : C n ro (.region id ops true) Q s := by
  refine c_drawo (List.range ops.size) wk hw hok ?_
  rw [range_ops]
  subst hl
  exact h
end
/-- What a body must come to. -/
def bodyP (n : Nat) (fn : Func) (Post : Value → List Ch → Fz → Prop) : Exit → St → Prop
  | .normal, s | .ret, s => s.ds = [] ∧ ∃ v, (∀ B w0 w, Inv B w0 s.own s.F w → (results fn (s.act n).tmps).run Tryz.prog w = .ok v w) ∧ Post v s.own s.F
  | _, _ => False
def args0 : Nat → List Value → Fr
  | _, [] => []
  | i, v :: r => (i, v) :: args0 (i + 1) r
theorem look_args0 (b : Nat → Value) : ∀ (l : List Value) (k i : Nat), look b (args0 k l) i = if h : k ≤ i ∧ i - k < l.length then l[i - k] else b i
  | [], k, i => by simp [args0, look]
  | v :: r, k, i => by
    rw [args0, look, look_args0 b r (k + 1) i]
    by_cases h : k = i
    · subst h
      rw [show Nat.beq k k = true from Nat.beq_refl k]
      simp
    · have : Nat.beq k i = false := by
        cases hb : Nat.beq k i
        · rfl
        · exact absurd (Nat.eq_of_beq_eq_true hb) h
      rw [this]
      by_cases h1 : k + 1 ≤ i ∧ i - (k + 1) < r.length
      · have h2 : k ≤ i ∧ i - k < (v :: r).length := by simp; omega
        rw [cond_false, dif_pos h1, dif_pos h2]
        have e : i - k = (i - (k + 1)) + 1 := by omega
        simp [e]
      · have h2 : ¬ (k ≤ i ∧ i - k < (v :: r).length) := by simp at h1 ⊢; omega
        rw [cond_false, dif_neg h1, dif_neg h2]
theorem act_args (n : Nat) (args : List Value) (own : List Ch) (F : Fz) (h : args.length ≤ n) : (⟨args.toArray ++ Array.replicate (n - args.toArray.size) undef, []⟩ : Act) = St.act n ⟨args0 0 args, fun _ => undef, [], own, F⟩ := by
  simp only [St.act, Act.mk.injEq, and_true]
  apply Array.ext
  · simp; omega
  · intro i h1 h2
    rw [Array.getElem_ofFn, look_args0]
    rw [Array.getElem_append]
    by_cases hi : i < args.length
    · rw [dif_pos (by simpa using hi), dif_pos (by simpa using hi)]; simp
    · rw [dif_neg (by simpa using hi), dif_neg (by simp; omega)]; simp
/-- A contract out of a walk. -/
theorem n_of {f : FuncId} {fn : Func} {c : Code} {n : Nat} {args : List Value} {own : List Ch} {F : Fz} {Post : Value → List Ch → Fz → Prop} (hf : Tryz.prog.funcs[f]? = some fn) (hb : fn.body = some c) (hn : fn.ntmps = n) (ha : Nat.ble args.length n = true)
    (h : C n none c (bodyP n fn Post) ⟨args0 0 args, fun _ => undef, [], own, F⟩) : N f args own F Post := by
  refine ⟨fun B w0 w hI => ?_⟩
  have hw := h.out B w0 w hI
  have hw : c.wp Tryz.prog (fun e a' w' => ∃ s' : St, a' = s'.act n ∧ Inv B w0 s'.own s'.F w' ∧ bodyP n fn Post e s') (St.act n ⟨args0 0 args, fun _ => undef, [], own, F⟩) w := wpIn_wide.1 hw
  rw [← act_args n args own F (by simpa using ha)] at hw
  subst hn
  refine calls_of_wp hf hb (wp_mono hw fun ex a' w' ⟨s', h0, h1, h2⟩ => ?_)
  subst h0
  cases ex with
  | normal => obtain ⟨hd, v, hr, hp⟩ := h2; exact ⟨hd, v, hr B w0 w' h1, v, _, _, rfl, h1, hp⟩
  | ret => obtain ⟨hd, v, hr, hp⟩ := h2; exact ⟨hd, v, hr B w0 w' h1, v, _, _, rfl, h1, hp⟩
  | exit id => exact h2.elim
  | goto x => exact h2.elim
  | panic ch => exact h2.elim
  | outgrown => exact h2.elim
end Go.Proofs.YthkoodpnepfijaaGreatDoor
/- V4: THE RULES: one operation each. -/
namespace Go.Proofs.YthkoodpnepfijaaGreatDoor
open Go.RowKit
set_option linter.unusedVariables false
set_option linter.unusedSimpArgs false

/-! ### what is known of a type -/
def flatD : TypeDesc → Bool
  | .struct _ | .array _ _ => false
  | _ => true
/-- A slice type; its element and the element's size. -/
class SlT (t : Nat) (e s : outParam Nat) : Prop where
  h : Tryz.prog.underlying t = some (.slice e)
  hs : (Tryz.prog.info? e).map (·.size) = some s
/-- A type of one cell. -/
class FlT (t : Nat) : Prop where
  h : (Tryz.prog.underlying t).map flatD = some true
  hs : (Tryz.prog.info? t).map (·.size) = some 1
/-- A struct or an array, of k cells. -/
class AgT (t : Nat) (k : outParam Nat) : Prop where
  h : (Tryz.prog.underlying t).map flatD = some false
  hs : (Tryz.prog.info? t).map (·.size) = some k
def fieldOf (P : Program) (t f : Nat) : Option Field :=
  match P.underlying t with
  | some (.struct fs) => fs[f]?
  | _ => none
/-- A struct's field: where it stands, its type. -/
class FdT (t f : Nat) (off e : outParam Nat) : Prop where
  h : (fieldOf Tryz.prog t f).map (fun d => (d.offset, d.type)) = some (off, e)
  hz : ((Tryz.prog.info? e).map fun i => Nat.beq i.size 0) = some false
theorem FdT.fld {t f off e : Nat} (h : FdT t f off e) : ∃ fs d, Tryz.prog.underlying t = some (.struct fs) ∧ fs[f]? = some d ∧ d.offset = off ∧ d.type = e := by
  have := h.h
  unfold fieldOf at this
  split at this
  · rename_i fs hfs
    obtain ⟨d, hd, he⟩ := Option.map_eq_some_iff.1 this
    cases he
    exact ⟨fs, d, hfs, hd, rfl, rfl⟩
  · cases this
/-- The cells of a type's zero. -/
class ZrT (t : Nat) (zs : outParam (List Value)) : Prop where
  h : ((Tryz.prog.info? t).bind (·.zero)).map (·.cells) = some zs.toArray
/-- Its bytes are few. -/
class ByT (t : Nat) (by_ : outParam Nat) : Prop where
  h : (Tryz.prog.info? t).map (·.bytes) = some by_

section
variable {w : World}
theorem size_run {el s : Nat} (hs : (Tryz.prog.info? el).map (·.size) = some s) (w : World) : (sizeOf el).run Tryz.prog w = .ok s w := by
  obtain ⟨i, hi, hs⟩ := Option.map_eq_some_iff.1 hs
  unfold sizeOf
  simp [run_typeInfo w hi, Result.andThen, hs]
theorem FlT.agg {t : Nat} (h : FlT t) (w : World) : (isAgg t).run Tryz.prog w = .ok false w := by
  obtain ⟨d, hu, hd⟩ := Option.map_eq_some_iff.1 h.h
  unfold isAgg
  simp only [Sem.run_bind, run_underlying hu, Result.andThen]
  cases d <;> first | rfl | cases hd
theorem AgT.agg {t k : Nat} (h : AgT t k) (w : World) : (isAgg t).run Tryz.prog w = .ok true w := by
  obtain ⟨d, hu, hd⟩ := Option.map_eq_some_iff.1 h.h
  unfold isAgg
  simp only [Sem.run_bind, run_underlying hu, Result.andThen]
  cases d <;> first | rfl | cases hd
theorem loadVar_flat {t : Nat} (h : FlT t) {ad : Addr} {v : Value} (hc : w.cell? ad = some v) : (loadVar t ad).run Tryz.prog w = .ok v w := by
  unfold loadVar
  simp [h.agg, hc, Result.andThen]
theorem loadVar_agg {t k : Nat} (h : AgT t k) {ad : Addr} {vs : List Value} (hl : vs.length = k) (hc : ∀ i v, vs[i]? = some v → w.cell? (ad.add i) = some v) : (loadVar t ad).run Tryz.prog w = .ok (.agg vs.toArray) w := by
  unfold loadVar
  have := run_loadCells_list (P := Tryz.prog) w ad vs hc
  rw [hl] at this
  simp [h.agg, size_run h.hs, this, Result.andThen]
end

def One : Value → Bool
  | .agg _ | .tuple _ => false
  | _ => true
theorem One.cells {v : Value} (h : One v = true) : v.cells = #[v] := by cases v <;> first | rfl | cases h
theorem One.one {v : Value} (h : One v = true) : v.oneCell' = true := by cases v <;> first | rfl | cases h

section
variable {n : Nat} {ops : Array Oper} {fl : Option (List Nat)} {rest : List Oper} {K : St → Prop} {wk : List Ch} {x : Fr} {b : Nat → Value} {ds : List Deferred} {own : List Ch} {F : Fz}
  {d ty : Nat} {pos : String} {af : Array Edge} {gd : Option (Nat × Bool)}
theorem o_nil (hs : List.Sublist wk own) (h : K ⟨x, b, ds, own, F⟩) : O n ops fl [] K wk ⟨x, b, ds, own, F⟩ := ⟨fun B w0 w hI => by cases fl <;> exact ⟨_, rfl, hI, h⟩, hs⟩
/-- An operation that only reads. -/
theorem o_rd {op : Op} (v : Value) (hrd : isRd op = true) (hv : ∀ B w0 w, Inv B w0 wk F w → (execOp (St.act n ⟨x, b, ds, own, F⟩).eval ⟨some d, op, ty, pos, af, none⟩).run Tryz.prog w = .ok (.value v) w)
    (h : O n ops fl rest K wk ⟨(d, v) :: x, b, ds, own, F⟩) : O n ops fl (⟨some d, op, ty, pos, af, none⟩ :: rest) K wk ⟨x, b, ds, own, F⟩ := ⟨fun B w0 w hI => by
  have hh := h.out B w0 w hI
  cases fl with
  | none =>
    simp only [wpT] at hh ⊢
    unfold stpO
    rw [if_pos (show Region.wanted _ _ = true from rfl), hv B w0 w (hI.sub h.sub)]
    show wpT _ _ _ _ _ _
    rw [act_put]
    exact hh
  | some fl =>
    simp only [zipF, wpL] at hh ⊢
    refine ⟨Inv B w0 wk F, hI.sub h.sub, fun _ x => x, .inl ⟨v, .inl ⟨rfl, fun w hw => hv B w0 w hw⟩, hrd, ?_⟩⟩
    rw [act_put]
    exact hh, h.sub⟩
/-- An operation that acts. -/
theorem o_ef {op : Op} {dd : Option Tmp} (hsub : List.Sublist wk own) (hrd : isRd op = false) (h : ∀ B w0 w, Inv B w0 own F w → upK Tryz.prog ⟨dd, op, ty, pos, af, none⟩ (St.act n ⟨x, b, ds, own, F⟩) (fun a' w' => ∃ s' wk', a' = s'.act n ∧ Inv B w0 s'.own s'.F w' ∧ Wk fl (Fg ops fl rest.length) wk F s'.own s'.F wk' ∧ O n ops fl rest K wk' s')
      ((execOp (St.act n ⟨x, b, ds, own, F⟩).eval ⟨dd, op, ty, pos, af, none⟩).run Tryz.prog w)) : O n ops fl (⟨dd, op, ty, pos, af, none⟩ :: rest) K wk ⟨x, b, ds, own, F⟩ := ⟨fun B w0 w hI => by
  have hh := h B w0 w hI
  cases fl with
  | none =>
    simp only [wpT]
    unfold stpO
    rw [if_pos (show Region.wanted _ _ = true from rfl)]
    refine upK_mono (fun a' w' ⟨s', wk', e, h1, h2, h3⟩ => ?_) hh
    subst e
    exact h3.out B w0 w' h1
  | some fl =>
    simp only [zipF, wpL]
    refine ⟨Inv B w0 wk F, hI.sub hsub, fun _ x => x, .inr ⟨hrd, ?_⟩⟩
    unfold stpO
    rw [if_pos (show Region.wanted _ _ = true from rfl)]
    refine upK_mono (fun a' w' ⟨s', wk', e, h1, h2, h3⟩ => ?_) hh
    subst e
    exact ⟨Inv B w0 wk' s'.F, h1.sub h2.sub, h2.inv, h3.out B w0 w' h1⟩, hsub⟩
/-- What is owned and known is told anew (a region in the order of the text). -/
theorem o_turn {todo : List Oper} {own' : List Ch} {F' : Fz} (ht : ∀ B w0 w, Inv B w0 own F w → Inv B w0 own' F' w) (h : O n ops none todo K own' ⟨x, b, ds, own', F'⟩) : O n ops none todo K own ⟨x, b, ds, own, F⟩ := ⟨fun B w0 w hI => h.out B w0 w (ht B w0 w hI), List.Sublist.refl _⟩
/-- .. a region that draws. -/
theorem o_turnd {order : List Nat} {todo : List Oper} {own' wk' : List Ch} {F' : Fz} (hsub : List.Sublist wk own) (ht : ∀ B w0 w, Inv B w0 own F w → Inv B w0 own' F' w) (hw : ∀ B w0 w, Inv B w0 wk' F' w → Inv B w0 wk F w) (h : O n ops (some order) todo K wk' ⟨x, b, ds, own', F'⟩) : O n ops (some order) todo K wk ⟨x, b, ds, own, F⟩ := ⟨fun B w0 w hI => by
  have h1 := h.out B w0 w (ht B w0 w hI)
  have key : ∀ (l : List (Bool × Oper)) (S S' : World → Prop) (K : Act → World → Prop) (a : Act) (w : World), (∀ u, S' u → S u) → wpL Tryz.prog ops K l S' a w → wpL Tryz.prog ops K l S a w := fun l S S' K a w hs hl => by
    cases l with
    | nil => exact hl
    | cons p r => obtain ⟨S1, k1, k2, k3⟩ := hl; exact ⟨S1, k1, fun u hu => hs u (k2 u hu), k3⟩
  exact key _ _ _ _ _ _ (fun u hu => hw B w0 u hu) h1, hsub⟩
/-- The slot that a guard looks at. -/
def gslot (ops : Array Oper) (j : Nat) : Option Nat := (ops[j]?).bind (·.dst)
theorem wanted_of {j t : Nat} {want c : Bool} {o : Oper} {s : St} (hg : gslot ops j = some t) (hc : evS n s.x (.tmp t) = some (.bool c)) (ho : o.guard = some (j, want)) : Region.wanted o (yielded ops (s.act n).tmps) = (c == want) := by
  have h1 : (s.act n).tmps[t]? = some (.bool c) := by
    have := ev_of (s := s) hc
    simp only [evS] at hc
    cases ht : Nat.blt t n
    · rw [ht] at hc; cases hc
    · have hlt : t < n := by simpa using ht
      rw [ht] at hc
      have h2 := look_of (b := s.b) hc
      simp [St.act, hlt, h2]
  unfold gslot at hg
  simp only [Region.wanted, ho, yielded, hg, Option.bind_some, h1]
  cases c <;> cases want <;> rfl
theorem stpO_guard {o o' : Oper} {a : Act} {w : World} {K : Act → World → Prop} (h1 : Region.wanted o (yielded ops a.tmps) = true) (h2 : Region.wanted o' (yielded ops a.tmps) = true) (hd : o'.dst = o.dst) (he : execOp a.eval o' = execOp a.eval o) (h : stpO Tryz.prog ops o' K a w) : stpO Tryz.prog ops o K a w := by
  unfold stpO at h ⊢
  rw [if_pos h2, he] at h
  rw [if_pos h1]
  revert h
  generalize (execOp a.eval o).run Tryz.prog w = r
  intro h
  cases r with
  | ok x w' => cases x <;> simp only [upK, hd] at h ⊢ <;> exact h
  | halt x w' => exact h
/-- A guarded operation: its test is told. -/
theorem o_guard {op : Op} {dd : Option Tmp} {j t : Nat} {want : Bool} (c : Bool) (hg : gslot ops j = some t) (hc : evS n x (.tmp t) = some (.bool c))
    (h1 : c = want → O n ops fl (⟨dd, op, ty, pos, af, none⟩ :: rest) K wk ⟨x, b, ds, own, F⟩) (h2 : c = !want → O n ops fl rest K wk (St.put ⟨x, b, ds, own, F⟩ dd undef)) : O n ops fl (⟨dd, op, ty, pos, af, some (j, want)⟩ :: rest) K wk ⟨x, b, ds, own, F⟩ := by
  by_cases e : c = want
  · have k := h1 e
    have hw : Region.wanted ⟨dd, op, ty, pos, af, some (j, want)⟩ (yielded ops (St.act n ⟨x, b, ds, own, F⟩).tmps) = true := by
      rw [wanted_of (s := ⟨x, b, ds, own, F⟩) hg hc rfl, e]; simp
    refine ⟨fun B w0 w hI => ?_, k.sub⟩
    have k1 := k.out B w0 w hI
    cases fl with
    | none =>
      simp only [wpT] at k1 ⊢
      exact stpO_guard (o' := ⟨dd, op, ty, pos, af, none⟩) hw rfl rfl rfl k1
    | some fl =>
      simp only [zipF, wpL] at k1 ⊢
      obtain ⟨S', a1, a2, a3⟩ := k1
      refine ⟨S', a1, a2, ?_⟩
      rcases a3 with ⟨v, hy, hrd, h⟩ | ⟨hrd, h⟩
      · refine .inl ⟨v, .inl ⟨hw, ?_⟩, hrd, h⟩
        rcases hy with ⟨_, hv⟩ | ⟨hn, _⟩
        · exact hv
        · cases hn
      · exact .inr ⟨hrd, stpO_guard (o' := ⟨dd, op, ty, pos, af, none⟩) hw rfl rfl rfl h⟩
  · have e' : c = !want := by cases c <;> cases want <;> simp_all
    have k := h2 e'
    have hown : ∀ v : Value, (St.put ⟨x, b, ds, own, F⟩ dd v).own = own ∧ (St.put ⟨x, b, ds, own, F⟩ dd v).F = F := fun v => by cases dd <;> exact ⟨rfl, rfl⟩
    refine ⟨fun B w0 w hI => ?_, by have := k.sub; rw [(hown _).1] at this; exact this⟩
    have hw : Region.wanted ⟨dd, op, ty, pos, af, some (j, want)⟩ (yielded ops (St.act n ⟨x, b, ds, own, F⟩).tmps) = false := by
      rw [wanted_of (s := ⟨x, b, ds, own, F⟩) hg hc rfl, e']; cases want <;> rfl
    have k1 := k.out B w0 w (by rw [(hown _).1, (hown _).2]; exact hI)
    rw [(hown _).2] at k1
    have hsub := k.sub
    rw [(hown _).1] at hsub
    cases fl with
    | none =>
      simp only [wpT] at k1 ⊢
      unfold stpO
      rw [if_neg (by simp [hw]), act_put]
      exact k1
    | some fl =>
      simp only [zipF, wpL]
      refine ⟨Inv B w0 wk F, hI.sub hsub, fun _ x => x, ?_⟩
      cases hrd : isRd op
      · refine .inr ⟨rfl, ?_⟩
        unfold stpO
        rw [if_neg (by simp [hw]), act_put]
        exact ⟨Inv B w0 wk F, hI.sub hsub, fun _ _ x => x, k1⟩
      · refine .inl ⟨undef, .inr ⟨hw, rfl⟩, rfl, ?_⟩
        rw [act_put]
        exact k1

theorem evx {a : Operand} {v : Value} (h : evS n x a = some v) : (St.act n ⟨x, b, ds, own, F⟩).eval a = v := ev_of (s := ⟨x, b, ds, own, F⟩) h
theorem evxs {l : List Operand} {vs : List Value} (h : evL n x l = some vs) : (l.toArray).map (St.act n ⟨x, b, ds, own, F⟩).eval = vs.toArray := evA_of (s := ⟨x, b, ds, own, F⟩) h

/-! ### operations that ask no memory -/
theorem o_move {a : Operand} {v : Value} (ha : evS n x a = some v) (h : O n ops fl rest K wk ⟨(d, v) :: x, b, ds, own, F⟩) : O n ops fl (⟨some d, .move a, ty, pos, af, none⟩ :: rest) K wk ⟨x, b, ds, own, F⟩ :=
  o_rd v rfl (fun B w0 w hw => by unfold execOp; simp [evx ha]) h
theorem o_assign {a : Operand} {v : Value} (ha : evS n x a = some v) (h : O n ops fl rest K wk ⟨(d, v) :: x, b, ds, own, F⟩) : O n ops fl (⟨some d, .assign a, ty, pos, af, none⟩ :: rest) K wk ⟨x, b, ds, own, F⟩ :=
  o_ef h.sub rfl fun B w0 w hI => by
    unfold execOp
    simp only [evx ha, Sem.run_pure, upK]
    exact ⟨⟨(d, v) :: x, b, ds, own, F⟩, wk, act_put n ⟨x, b, ds, own, F⟩ (some d) v, hI, .keep h.sub (Fle.refl F), h⟩
theorem o_pickt {c a a' : Operand} {v : Value} (hc : evS n x c = some (.bool true)) (ha : evS n x a = some v) (h : O n ops fl rest K wk ⟨(d, v) :: x, b, ds, own, F⟩) : O n ops fl (⟨some d, .pick c a a', ty, pos, af, none⟩ :: rest) K wk ⟨x, b, ds, own, F⟩ :=
  o_rd v rfl (fun B w0 w hw => by unfold execOp; simp [evx ha, evx hc, asBool]) h
theorem o_pickf {c a a' : Operand} {v : Value} (hc : evS n x c = some (.bool false)) (ha : evS n x a' = some v) (h : O n ops fl rest K wk ⟨(d, v) :: x, b, ds, own, F⟩) : O n ops fl (⟨some d, .pick c a a', ty, pos, af, none⟩ :: rest) K wk ⟨x, b, ds, own, F⟩ :=
  o_rd v rfl (fun B w0 w hw => by unfold execOp; simp [evx ha, evx hc, asBool]) h
/-- A slot that is told true or false. -/
theorem o_known {todo : List Oper} {t : Nat} {c : Bool} (c' : Bool) (hc : lookS x t = some (.bool c)) (e : c = c') (h : O n ops fl todo K wk ⟨(t, .bool c') :: x, b, ds, own, F⟩) : O n ops fl todo K wk ⟨x, b, ds, own, F⟩ := by
  subst e
  have : St.act n ⟨(t, .bool c) :: x, b, ds, own, F⟩ = St.act n ⟨x, b, ds, own, F⟩ := by
    simp only [St.act, Act.mk.injEq, and_true]
    apply Array.ext
    · simp
    · intro i h1 h2
      simp only [Array.getElem_ofFn, look]
      cases hk : Nat.beq t i
      · rfl
      · have := Nat.eq_of_beq_eq_true hk
        subst this
        exact (look_of hc).symm
  exact ⟨fun B w0 w hI => by rw [← this]; exact h.out B w0 w hI, h.sub⟩
theorem o_len {a : Operand} {t e z : Nat} [ht : SlT t e z] {A : Option Addr} {m c : Nat} (ha : evS n x a = some (.slice A m c)) (h : O n ops fl rest K wk ⟨(d, .int .i64 (m : Nat)) :: x, b, ds, own, F⟩) : O n ops fl (⟨some d, .call { callee := .builtin .len, args := #[a], argTypes := #[t] }, ty, pos, af, none⟩ :: rest) K wk ⟨x, b, ds, own, F⟩ :=
  o_rd _ rfl (fun B w0 w hw => by unfold execOp; simp [resolve, invoke, builtin, Builtin.len_, evx ha, run_underlying ht.h, Result.andThen, goInt]) h
theorem o_cap {a : Operand} {t e z : Nat} [ht : SlT t e z] {A : Option Addr} {m c : Nat} (ha : evS n x a = some (.slice A m c)) (h : O n ops fl rest K wk ⟨(d, .int .i64 (c : Nat)) :: x, b, ds, own, F⟩) : O n ops fl (⟨some d, .call { callee := .builtin .cap, args := #[a], argTypes := #[t] }, ty, pos, af, none⟩ :: rest) K wk ⟨x, b, ds, own, F⟩ :=
  o_rd _ rfl (fun B w0 w hw => by unfold execOp; simp [resolve, invoke, builtin, Builtin.cap_, evx ha, run_underlying ht.h, Result.andThen, goInt]) h
/-- A comparison of two numbers. -/
def cmpV : BinOp → Int → Int → Option Bool
  | .lss, p, q => some (decide (p < q))
  | .leq, p, q => some (decide (p ≤ q))
  | .gtr, p, q => some (decide (q < p))
  | .geq, p, q => some (decide (q ≤ p))
  | .eql, p, q => some (decide (p = q))
  | .neq, p, q => some (!decide (p = q))
  | _, _, _ => none
theorem run_cmp {op : BinOp} {k : IntKind} {p q : Int} {c : Bool} {t : Nat} {u v : Operand} (hc : cmpV op p q = some c) (w : World) : Sem.run Tryz.prog (do eqGuard op t u v (.int k p) (.int k q); binOp op t (.int k p) (.int k q)) w = .ok (.bool c) w := by
  cases op <;> simp only [cmpV, Option.some.injEq, reduceCtorEq] at hc <;> subst hc <;> simp [eqGuard, binOp, Op.intCmp, Result.andThen, bne] <;> rfl
theorem o_cmp {op : BinOp} {a a' : Operand} {t t' : Nat} {k : IntKind} {p q : Int} {c : Bool} (ha : evS n x a = some (.int k p)) (ha' : evS n x a' = some (.int k q)) (hc : cmpV op p q = some c) (h : O n ops fl rest K wk ⟨(d, .bool c) :: x, b, ds, own, F⟩) : O n ops fl (⟨some d, .binOp op t a a' t', ty, pos, af, none⟩ :: rest) K wk ⟨x, b, ds, own, F⟩ :=
  o_rd _ rfl (fun B w0 w hw => by
    have := run_cmp (t := t) (u := a) (v := a') (k := k) hc w
    unfold execOp
    simp only [evx ha, evx ha', Sem.run_bind, this, Result.andThen, Sem.run_pure]) h
/-- Within its kind. -/
def inK : IntKind → Int → Prop
  | .i8, z => -128 ≤ z ∧ z ≤ 127
  | .i16, z => -32768 ≤ z ∧ z ≤ 32767
  | .i32, z => -2147483648 ≤ z ∧ z ≤ 2147483647
  | .i64, z => -9223372036854775808 ≤ z ∧ z ≤ 9223372036854775807
  | .u8, z => 0 ≤ z ∧ z ≤ 255
  | .u16, z => 0 ≤ z ∧ z ≤ 65535
  | .u32, z => 0 ≤ z ∧ z ≤ 4294967295
  | .u64, z => 0 ≤ z ∧ z ≤ 18446744073709551615
theorem wrap_in {k : IntKind} {z : Int} (h : inK k z) : k.wrap z = z := by
  cases k <;> simp only [inK] at h <;> simp only [IntKind.wrap, IntKind.signed, IntKind.bits] <;> simp at h ⊢ <;> omega
/-- + - * -/
def arV : BinOp → Int → Int → Option Int
  | .add, p, q => some (p + q)
  | .sub, p, q => some (p - q)
  | .mul, p, q => some (p * q)
  | _, _, _ => none
theorem o_ar {op : BinOp} {a a' : Operand} {t t' : Nat} {k : IntKind} {p q z : Int} (ha : evS n x a = some (.int k p)) (ha' : evS n x a' = some (.int k q)) (hz : arV op p q = some z) (hk : inK k z) (h : O n ops fl rest K wk ⟨(d, .int k z) :: x, b, ds, own, F⟩) : O n ops fl (⟨some d, .binOp op t a a' t', ty, pos, af, none⟩ :: rest) K wk ⟨x, b, ds, own, F⟩ :=
  o_rd _ rfl (fun B w0 w hw => by
    unfold execOp
    cases op <;> simp only [arV, Option.some.injEq, reduceCtorEq] at hz <;> subst hz <;> simp [evx ha, evx ha', eqGuard, binOp, Op.intArith, Result.andThen, wrap_in hk]) h
theorem o_not {a : Operand} {t : Nat} {c : Bool} (ha : evS n x a = some (.bool c)) (h : O n ops fl rest K wk ⟨(d, .bool !c) :: x, b, ds, own, F⟩) : O n ops fl (⟨some d, .unOp .not t a, ty, pos, af, none⟩ :: rest) K wk ⟨x, b, ds, own, F⟩ :=
  o_rd _ rfl (fun B w0 w hw => by unfold execOp; simp [evx ha, Op.unary]) h
theorem o_neg {a : Operand} {t : Nat} {k : IntKind} {p : Int} (ha : evS n x a = some (.int k p)) (hk : inK k (-p)) (h : O n ops fl rest K wk ⟨(d, .int k (-p)) :: x, b, ds, own, F⟩) : O n ops fl (⟨some d, .unOp .neg t a, ty, pos, af, none⟩ :: rest) K wk ⟨x, b, ds, own, F⟩ :=
  o_rd _ rfl (fun B w0 w hw => by
    have := wrap_in hk
    unfold execOp; simp [evx ha, Op.unary, Op.intArith, this]) h
end
end Go.Proofs.YthkoodpnepfijaaGreatDoor

/-
  THE MACHINE OF MANY GOROUTINES, each of which walks under an invariant of all: on every tape the run ends by goroutine 0's return.
-/
import Derived.Test.YtofohjbcgchhoaaA2
import Derived.Conc.CrowdComm
namespace Go.Proofs.Ytofohjbcgchhoaa
open Go.Conc
open Go.ConcN (sumTo upd sumTo_upd upd_ne upd_same sumTo_congr)

def Opn (w : World) (c : Nat) : Prop := ∃ cap s r tm, w.heap[c]? = some (.chan cap #[] false s r tm)
def Shut (w : World) (c : Nat) : Prop := ∃ cap buf s r tm, w.heap[c]? = some (.chan cap buf true s r tm)

/-- What stands behind the run: a ghost of the whole, of which each goroutine bears its part. -/
structure Sys where
  Gh : Type
  Lo : Type
  num : Gh → Nat
  own : Gh → Nat → Lo
  Inv : Gh → World → Trace → Prop
  /-- it sleeps at a semaphore that is nought -/
  Stuck : Gh → Nat → World → Prop
  /-- it waits at a channel till it is closed -/
  Gate : Gh → Nat → Nat → Prop
  /-- it only leaves, so deaf -/
  quit : Lo → Option Nat
  Post : Value → World → Prop

variable (S : Sys) (P : Program)

/-- What a step of goroutine i's leaves of the others. -/
structure Keeps (i : Nat) (γ : S.Gh) (w : World) (γ' : S.Gh) (w' : World) (wake : Bool) : Prop where
  own : ∀ j, j < S.num γ → j ≠ i → S.own γ' j = S.own γ j ∨ ∃ d, S.quit (S.own γ j) = some d ∧ S.quit (S.own γ' j) = some d
  stuck : ∀ j, j ≠ i → S.Stuck γ j w → wake = true ∨ S.Stuck γ' j w'
  gate : ∀ j c, j ≠ i → S.Gate γ j c → S.Gate γ' j c ∧ (Opn w c → Opn w' c ∨ (wake = true ∧ Shut w' c))

/-- The operations that the trace gains. -/
def evs (i : Nat) (fr : Frame) (es : Array Event) : Array MemOp := MemOp.ofEvents i fr.fn fr.place es

inductive Nx (i : Nat) (K : Nat → S.Lo → Frame → List Frame → Prop) (γ : S.Gh) (w : World) (t : Trace) (fr : Frame) (cs : List Frame) : Prop where
  | go {fr' : Frame} {cs' : List Frame} {w' : World} {es : Array Event} {γ' : S.Gh} (hs : stepG P (i == 0) (G fr cs) w = .go (G fr' cs') w' es) (hI : S.Inv γ' w' (t ++ evs i fr es)) (hn : S.num γ' = S.num γ)
      (hk : Keeps S i γ w γ' w' (mayWake P (G fr cs))) (h : K i (S.own γ' i) fr' cs')
  | block (hs : stepG P (i == 0) (G fr cs) w = .go { G fr cs with status := .blocked } w #[]) (hst : S.Stuck γ i w)
  | spawn {fr' : Frame} {cs' : List Frame} {child : Frame} {w' : World} {es : Array Event} {γ' : S.Gh} (hs : stepG P (i == 0) (G fr cs) w = .spawn (G fr' cs') (G child []) w' es)
      (hI : S.Inv γ' w' (t ++ (((evs i fr es).push { g := i, fn := fr.fn, pos := fr.place, act := .go (S.num γ) }).push { g := S.num γ, fn := child.fn, pos := fr.place, act := .start }))) (hn : S.num γ' = S.num γ + 1)
      (hk : Keeps S i γ w γ' w' false) (h : K i (S.own γ' i) fr' cs') (hc : K (S.num γ) (S.own γ' (S.num γ)) child [])
  | room {fr' : Frame} {w₁ : World} {es : Array Event} {γ' : S.Gh} {c cap s r : Nat} {buf : Array Value} {tm bl : Bool} {v z : Value} {sh : CommShape}
      (hs : stepG P (i == 0) (G fr cs) w = .comm (G fr cs) #[scase c v z] bl sh w₁ es) (hc : w₁.heap[c]? = some (.chan cap buf false s r tm)) (hr : buf.size < cap) (hg : ∀ j, ¬ S.Gate γ j c)
      (hf : (G fr cs).finishComm P #[scase c v z] sh 0 undef false = G fr' cs)
      (hI : S.Inv γ' (w₁.setChan c cap (buf.push v) false (s + 1) r tm) (t ++ (evs i fr es ++ #[{ g := i, fn := fr.fn, pos := fr.place, act := .send c s }, { g := i, fn := fr.fn, pos := fr.place, act := .sendDone c s }])))
      (hn : S.num γ' = S.num γ) (hk : Keeps S i γ w γ' (w₁.setChan c cap (buf.push v) false (s + 1) r tm) false) (h : K i (S.own γ' i) fr' cs)
  | dflt {fr' : Frame} {w₁ : World} {es : Array Event} {γ' : S.Gh} {c cap s r : Nat} {buf : Array Value} {tm : Bool} {v z : Value} {sh : CommShape}
      (hs : stepG P (i == 0) (G fr cs) w = .comm (G fr cs) #[scase c v z] false sh w₁ es) (hc : w₁.heap[c]? = some (.chan cap buf false s r tm)) (hr : cap ≤ buf.size) (hg : ∀ j, ¬ S.Gate γ j c)
      (hf : (G fr cs).finishComm P #[scase c v z] sh (-1) undef false = G fr' cs) (hI : S.Inv γ' w₁ (t ++ evs i fr es)) (hn : S.num γ' = S.num γ) (hk : Keeps S i γ w γ' w₁ false) (h : K i (S.own γ' i) fr' cs)
  | take {fr' : Frame} {w₁ : World} {es : Array Event} {γ' : S.Gh} {c cap s r : Nat} {buf : Array Value} {tm bl cl : Bool} {z : Value} {sh : CommShape}
      (hs : stepG P (i == 0) (G fr cs) w = .comm (G fr cs) #[rcase c z] bl sh w₁ es) (hc : w₁.heap[c]? = some (.chan cap buf cl s r tm)) (hr : 0 < buf.size)
      (hf : (G fr cs).finishComm P #[rcase c z] sh 0 (buf.getD 0 undef) true = G fr' cs)
      (hI : S.Inv γ' (w₁.setChan c cap (buf.extract 1 buf.size) cl s (r + 1) tm) (t ++ (evs i fr es ++ #[{ g := i, fn := fr.fn, pos := fr.place, act := .recv c r cap }, { g := i, fn := fr.fn, pos := fr.place, act := .recvDone c r }])))
      (hn : S.num γ' = S.num γ) (hk : Keeps S i γ w γ' (w₁.setChan c cap (buf.extract 1 buf.size) cl s (r + 1) tm) false) (h : K i (S.own γ' i) fr' cs)
  | shut {fr' : Frame} {w₁ : World} {es : Array Event} {γ' : S.Gh} {c cap s r : Nat} {tm bl : Bool} {z : Value} {sh : CommShape}
      (hs : stepG P (i == 0) (G fr cs) w = .comm (G fr cs) #[rcase c z] bl sh w₁ es) (hc : w₁.heap[c]? = some (.chan cap #[] true s r tm))
      (hf : (G fr cs).finishComm P #[rcase c z] sh 0 z false = G fr' cs)
      (hI : S.Inv γ' w₁ (t ++ (evs i fr es ++ #[{ g := i, fn := fr.fn, pos := fr.place, act := .recvClosed c }]))) (hn : S.num γ' = S.num γ) (hk : Keeps S i γ w γ' w₁ false) (h : K i (S.own γ' i) fr' cs)
  | park {c : Nat} {z : Value} {sh : CommShape} (hs : stepG P (i == 0) (G fr cs) w = .comm (G fr cs) #[rcase c z] true sh w #[]) (hg : S.Gate γ i c) (ho : Opn w c)
  | done {v : Value} (h0 : i = 0) (hs : stepG P true (G fr cs) w = .ended (.done v) w #[]) (hp : S.Post v w) (hr : ∀ said, ¬ Race said t) (hh : t.HandedOver)
      (hq : ∀ j, j < S.num γ → j ≠ 0 → ∃ d, S.quit (S.own γ j) = some d ∧ Deaf t j = d)

/-- A goroutine's whole way: within so many steps of its own. -/
def WP : Nat → Nat → S.Lo → Frame → List Frame → Prop
  | 0 => fun i l fr cs => i ≠ 0 ∧ ∃ d, S.quit l = some d ∧ QuitsD P 0 d (G fr cs)
  | n + 1 => fun i l fr cs => (i ≠ 0 ∧ ∃ d, S.quit l = some d ∧ QuitsD P (n + 1) d (G fr cs)) ∨
      (S.quit l = none ∧ ∀ γ w t, S.Inv γ w t → S.own γ i = l → i < S.num γ → Nx S P i (WP n) γ w t fr cs)

/-- What is asked of the whole. -/
structure Fits : Prop where
  draw : ∀ γ w t d, S.Inv γ w t → S.Inv γ (w.at d) t
  drawS : ∀ γ i w d, S.Stuck γ i w → S.Stuck γ i (w.at d)
  mute : ∀ γ w t i d fn pos es, S.Inv γ w t → i < S.num γ → S.quit (S.own γ i) = some d → (∀ e ∈ es, Event.mute e = true) →
    ∃ γ', S.Inv γ' w (t ++ MemOp.ofEvents i fn pos es) ∧ S.num γ' = S.num γ ∧ S.quit (S.own γ' i) = some (deafBehind d es) ∧ (∀ j, j ≠ i → S.own γ' j = S.own γ j) ∧ (∀ j, S.Stuck γ j w → S.Stuck γ' j w) ∧ ∀ j c, S.Gate γ j c → S.Gate γ' j c
  alive : ∀ γ w t, S.Inv γ w t → S.quit (S.own γ 0) = none → (∀ i, i < S.num γ → S.quit (S.own γ i) ≠ none ∨ S.Stuck γ i w ∨ ∃ c, S.Gate γ i c ∧ Opn w c) → False

/-- How a goroutine's record stands to what is said of it. -/
def Seat (γ : S.Gh) (w : World) (n i : Nat) (g : Goroutine) : Prop :=
  (∃ d, S.quit (S.own γ i) = some d ∧ i ≠ 0 ∧ QuitsD P n d g) ∨
  (g.dying = none ∧ WP S P n i (S.own γ i) g.frame g.callers ∧ S.quit (S.own γ i) = none ∧
    (g.status = .running ∨ (g.status = .blocked ∧ g.offers = none ∧ S.Stuck γ i w) ∨ ∃ c z sh, g.status = .blocked ∧ g.offers = some (#[rcase c z], sh) ∧ S.Gate γ i c ∧ Opn w c))

def cnt (g : Goroutine) : Nat := match g.status with | .running => 1 | _ => 0
def cntAt (gs : Array Goroutine) (i : Nat) : Nat := match gs[i]? with | some g => cnt g | none => 0

def BInv (μ : Nat × Nat) (m : Machine) (t : Trace) : Prop :=
  ∃ (gs : Array Goroutine) (w : World) (sl : Option (Nat × Nat)) (γ : S.Gh) (b : Nat → Nat), m = crowd gs w sl ∧ S.Inv γ w t ∧ S.num γ = gs.size ∧ 0 < gs.size ∧ (∀ i g, gs[i]? = some g → Seat S P γ w (b i) i g) ∧
    μ = (sumTo gs.size (fun i => 3 ^ b i), sumTo gs.size (cntAt gs))

section
variable {S P}

theorem WP.more {n i : Nat} {l : S.Lo} {fr : Frame} {cs : List Frame} (h : WP S P n i l fr cs) : WP S P (n + 1) i l fr cs := by
  induction n generalizing i l fr cs with
  | zero =>
    obtain ⟨h0, d, hq, hd⟩ := h
    exact .inl ⟨h0, d, hq, .inl hd⟩
  | succ n ih =>
    have mono : ∀ {γ w t}, Nx S P i (WP S P n) γ w t fr cs → Nx S P i (WP S P (n + 1)) γ w t fr cs := by
      intro γ w t hx
      cases hx with
      | go hs hI hn hk h => exact .go hs hI hn hk (ih h)
      | block hs hst => exact .block hs hst
      | spawn hs hI hn hk h hc => exact .spawn hs hI hn hk (ih h) (ih hc)
      | room hs hc hr hg hf hI hn hk h => exact .room hs hc hr hg hf hI hn hk (ih h)
      | dflt hs hc hr hg hf hI hn hk h => exact .dflt hs hc hr hg hf hI hn hk (ih h)
      | take hs hc hr hf hI hn hk h => exact .take hs hc hr hf hI hn hk (ih h)
      | shut hs hc hf hI hn hk h => exact .shut hs hc hf hI hn hk (ih h)
      | park hs hg ho => exact .park hs hg ho
      | done h0 hs hp hr hh hq => exact .done h0 hs hp hr hh hq
    rcases h with ⟨h0, d, hq, hd⟩ | ⟨hq, h⟩
    · refine .inl ⟨h0, d, hq, ?_⟩
      have key : ∀ n d g, QuitsD P n d g → QuitsD P (n + 1) d g := by
        intro n
        induction n with
        | zero => exact fun d g h => .inl h
        | succ n ih => exact fun d g h => h.elim .inl fun ⟨hs, g', es, hm, hst, hq⟩ => .inr ⟨hs, g', es, hm, hst, ih _ _ hq⟩
      exact key _ _ _ hd
    · exact .inr ⟨hq, fun γ w t hI ho hi => mono (h γ w t hI ho hi)⟩
theorem WP.mono {n n' i : Nat} {l : S.Lo} {fr : Frame} {cs : List Frame} (h : WP S P n i l fr cs) (hn : n ≤ n') : WP S P n' i l fr cs := by
  induction hn with
  | refl => exact h
  | step _ ih => exact ih.more

theorem stepG_G {main : Bool} {g : Goroutine} {w : World} (hd : g.dying = none) : stepG P main g w = stepG P main (G g.frame g.callers) w := by
  cases g
  simp only at hd
  subst hd
  rfl
theorem mayWake_G {g : Goroutine} : mayWake P g = mayWake P (G g.frame g.callers) := rfl

theorem cnt_le (g : Goroutine) : cnt g ≤ 1 := by unfold cnt; split <;> omega
theorem pow3 {a b : Nat} (h : a < b) : 2 * 3 ^ a < 3 ^ b := by
  have h1 : 3 ^ (a + 1) ≤ 3 ^ b := Nat.pow_le_pow_right (by decide) h
  have h2 : 0 < 3 ^ a := Nat.pow_pos (by decide)
  rw [Nat.pow_succ] at h1
  omega
theorem pow3_pos (a : Nat) : 0 < 3 ^ a := Nat.pow_pos (by decide)

/-- The others' records behind a step. -/
theorem Seat.woken {γ γ' : S.Gh} {w w' : World} {n i j : Nat} {o : Goroutine} {g g' : Goroutine} (h : Seat S P γ w n j o) (hj : j < S.num γ) (hji : j ≠ i) {wake : Bool} (hk : Keeps S i γ w γ' w' wake) (hw : (mayWake P g && g'.status != .blocked && g'.status != .waiting) = wake) : Seat S P γ' w' n j (Go.Conc.woken P g g' w' o) := by
  rcases h with ⟨d, hq, h0, hQ⟩ | ⟨hd, hW, hq, hs⟩
  · rw [woken_quitsD hQ]
    rcases hk.own j hj hji with e | ⟨d', e1, e2⟩
    · exact .inl ⟨d, by rw [e]; exact hq, h0, hQ⟩
    · rw [hq] at e1; cases e1
      exact .inl ⟨d, e2, h0, hQ⟩
  · have eo : S.own γ' j = S.own γ j := by
      rcases hk.own j hj hji with e | ⟨d', e1, _⟩
      · exact e
      · rw [hq] at e1; cases e1
    have hW' : WP S P n j (S.own γ' j) o.frame o.callers := by rw [eo]; exact hW
    have hq' : S.quit (S.own γ' j) = none := by rw [eo]; exact hq
    rcases hs with hs | ⟨hs, hof, hst⟩ | ⟨c, z, sh, hs, hof, hg, ho⟩
    · rw [woken_run hs]
      exact .inr ⟨hd, hW', hq', .inl hs⟩
    · unfold Go.Conc.woken
      by_cases hwk : wake = true
      · rw [if_pos (by rw [hw]; exact hwk)]
        have : o.again w' = { o with status := .running } := by unfold Goroutine.again; simp [hs, hof]
        rw [this]
        exact .inr ⟨hd, hW', hq', .inl rfl⟩
      · rw [if_neg (by rw [hw]; exact hwk)]
        rcases hk.stuck j hji hst with e | e
        · exact absurd e hwk
        · exact .inr ⟨hd, hW', hq', .inr (.inl ⟨hs, hof, e⟩)⟩
    · obtain ⟨hg', hop⟩ := hk.gate j c hji hg
      have eo' : o = parked o #[rcase c z] sh := by
        cases o
        simp only at hs hof
        subst hs hof
        rfl
      rcases hop ho with hop | ⟨hwk, cap, buf, s, r, tm, hsh⟩
      · obtain ⟨cap, s, r, tm, hc⟩ := hop
        have : Go.Conc.woken P g g' w' o = o := by rw [eo', woken_recv_open g g' hc]
        rw [this]
        exact .inr ⟨hd, hW', hq', .inr (.inr ⟨c, z, sh, hs, hof, hg', cap, s, r, tm, hc⟩)⟩
      · unfold Go.Conc.woken
        rw [if_pos (by rw [hw]; exact hwk), eo', again_recv_closed hsh]
        exact .inr ⟨hd, hW', hq', .inl rfl⟩

theorem Seat.awake {γ : S.Gh} {w : World} {n i : Nat} {g : Goroutine} (h : Seat S P γ w n i g) : awake g := by
  rcases h with ⟨d, _, _, hQ⟩ | ⟨_, _, _, hs⟩
  · exact fun t => by rcases hQ.status with e | e <;> simp [e]
  · exact fun t => by rcases hs with e | ⟨e, _⟩ | ⟨_, _, _, e, _⟩ <;> simp [e]
/-- Another's record stands, where nobody is woken. -/
theorem Seat.stands {γ γ' : S.Gh} {w w' : World} {n i j : Nat} {o : Goroutine} (h : Seat S P γ w n j o) (hj : j < S.num γ) (hji : j ≠ i) (hk : Keeps S i γ w γ' w' false) : Seat S P γ' w' n j o := by
  have e : Go.Conc.woken P { o with status := .finished } { o with status := .blocked } w' o = o := by
    unfold Go.Conc.woken
    rw [if_neg (by simp)]
  have := h.woken (P := P) (g := { o with status := .finished }) (g' := { o with status := .blocked }) hj hji hk (by simp)
  rwa [e] at this
end
end Go.Proofs.Ytofohjbcgchhoaa

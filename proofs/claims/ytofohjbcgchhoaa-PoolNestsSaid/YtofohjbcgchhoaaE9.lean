/-
  THE WALK, on: what the channels' operations make of the ghost; a fork; what is new.
-/
import Derived.Test.YtofohjbcgchhoaaE8
namespace Go.Proofs.Ytofohjbcgchhoaa
open Go.Conc
open Go.RowKit
variable {E : En} {l : Lo} {fn : FuncId} {K : Value → Lo → Prop}

def Lo.solo (l : Lo) : Prop := ∀ u B, l.ws u = some B → B.ws = []

/-- What a pool's channel holds. -/
theorem Whole.slot_chan {B0 : Nat} {w0 : World} {γ : Gh} {w : World} {t : Trace} (h : Whole B0 w0 γ w t) {i p ch cap : Nat} {so : Bool} (hi : i < γ.N) (hpl : (γ.lo i).pl p = some (ch, cap, so)) :
    ∃ k buf s r, γ.pool p = some ⟨ch, cap, k, so⟩ ∧ γ.gate ch = none ∧ w.heap[ch]? = some (.chan cap buf false s r false) ∧ buf.size = γ.sum (.slot p) := by
  obtain ⟨k, hG⟩ := h.nums.pl i hi p ch cap so hpl
  obtain ⟨_, _, _, _, _, _, buf, s, r, hc, hb⟩ := h.mem.pool p _ hG
  refine ⟨k, buf, s, r, hG, ?_, hc, hb⟩
  rcases h.nums.chp p _ ch hG with e | e
  · exact e
  · exact absurd rfl e

/-- A slot is asked for. -/
theorem at_select {p ch cap : Nat} {so : Bool} (v : Value) (hact : l.md = .act) (hpl : l.pl p = some (ch, cap, so)) (hso : so = true → E.i = 0)
    (h1 : K (.tuple #[.int .i64 0, .bool false]) ((l.tok (.slot p) (l.res.tk (.slot p) + 1)).skd p (l.sk p + 1)))
    (h2 : (so = true → cap ≤ l.sk p) → (E.i = 0 → l.solo → cap ≤ l.res.tk (.slot p)) → K (.tuple #[.int .i64 (-1), .bool false]) l) :
    E.All l fun γ w t pos => ∃ cap buf s r, γ.gate ch = none ∧ w.heap[ch]? = some (.chan cap buf false s r false) ∧
      (buf.size < cap → ∃ l', E.StepC γ w t (w.setChan ch cap (buf.push v) false (s + 1) r false) [{ g := E.i, fn := fn, pos := pos, act := .send ch s }, { g := E.i, fn := fn, pos := pos, act := .sendDone ch s }] l' ∧ K (.tuple #[.int .i64 0, .bool false]) l') ∧
      (cap ≤ buf.size → ∃ l', E.StepC γ w t w [] l' ∧ K (.tuple #[.int .i64 (-1), .bool false]) l') := fun γ w t pos hI hl hi => by
  subst hl
  obtain ⟨k, buf, s, r, hG, hg, hc, hb⟩ := Whole.slot_chan hI hi hpl
  refine ⟨cap, buf, s, r, hg, hc, fun hlt => ⟨_, ?_, h1⟩, fun hle => ⟨γ.lo E.i, ?_, ?_⟩⟩
  · have hal := hI.nums.slot E.i hi p
    have key := Whole.slots (PP := E.PP) hI hi hact hG (n := (γ.lo E.i).res.tk (.slot p) + 1) (y := (γ.lo E.i).sk p + 1) (buf := buf.push v) (s := s + 1) (r := r) hc hb (by simp; omega) (by simp; omega) (by omega) (fun e => by
      refine .inl ⟨hso e, ?_⟩
      have h0 := hI.nums.solo p _ hG e
      rw [← hso e] at h0
      simp only [Array.size_push]
      omega) (u := [{ g := E.i, fn := fn, pos := pos, act := .send ch s }, { g := E.i, fn := fn, pos := pos, act := .sendDone ch s }]) (fun x hx => by
      simp only [List.mem_cons, List.not_mem_nil, or_false] at hx
      rcases hx with rfl | rfl
      · exact ⟨rfl, ⟨rfl, by simp, by simp, by simp⟩, lt_of_heap hc⟩
      · exact ⟨rfl, ⟨rfl, by simp, by simp, by simp⟩, lt_of_heap hc⟩)
    exact ⟨_, key.1, rfl, key.2 _, set_same _ _ _⟩
  · exact ⟨γ, by simpa using hI, rfl, Keeps.rfl' (S := E.S) γ w false, rfl⟩
  · refine h2 (fun e => ?_) (fun h0 ha => ?_)
    · have := hI.nums.solo p _ hG e
      rw [← hso e] at this
      omega
    · have := Whole.alone_sum hI (by rw [h0] at ha; exact ha) (.slot p)
      rw [← h0] at this
      omega

/-- A slot is given back. -/
theorem at_recv {p ch cap x : Nat} {so : Bool} {KK : Lo → Prop} (hact : l.md = .act) (hpl : l.pl p = some (ch, cap, so)) (hx : l.res.tk (.slot p) = x + 1) (hal : l.res.tk (.alive p) ≤ x)
    (h : KK (l.tok (.slot p) x)) :
    E.All l fun γ w t pos => ∃ cap buf s r, w.heap[ch]? = some (.chan cap buf false s r false) ∧ 0 < buf.size ∧
      ∃ l', E.StepC γ w t (w.setChan ch cap (buf.extract 1 buf.size) false s (r + 1) false) [{ g := E.i, fn := fn, pos := pos, act := .recv ch r cap }, { g := E.i, fn := fn, pos := pos, act := .recvDone ch r }] l' ∧ KK l' := fun γ w t pos hI hl hi => by
  subst hl
  obtain ⟨k, buf, s, r, hG, hg, hc, hb⟩ := Whole.slot_chan hI hi hpl
  have hle := le_sum γ hi (.slot p)
  have hcap := (hI.nums.pool p _ hG).2.2.2
  have hsz : (buf.extract 1 buf.size).size = buf.size - 1 := by simp
  refine ⟨cap, buf, s, r, hc, by omega, _, ?_, h⟩
  have key := Whole.slots (PP := E.PP) hI hi hact hG (n := x) (y := (γ.lo E.i).sk p) (buf := buf.extract 1 buf.size) (s := s) (r := r + 1) hc hb (by omega) (by simp only at hcap; omega) (by omega) (fun e => .inr ⟨by omega, rfl⟩) (u := [{ g := E.i, fn := fn, pos := pos, act := .recv ch r cap }, { g := E.i, fn := fn, pos := pos, act := .recvDone ch r }]) (fun y hy => by
      simp only [List.mem_cons, List.not_mem_nil, or_false] at hy
      rcases hy with rfl | rfl
      · exact ⟨rfl, ⟨rfl, by simp, by simp, by simp⟩, lt_of_heap hc⟩
      · exact ⟨rfl, ⟨rfl, by simp, by simp, by simp⟩, lt_of_heap hc⟩)
  refine ⟨_, key.1, rfl, key.2 _, ?_⟩
  rw [set_same]
  unfold Lo.skd
  congr 1
  funext q
  by_cases e : q = p <;> simp [e, Lo.tok]

/-- It waits at a gate. -/
theorem at_gate {c bg n p : Nat} {KK : Lo → Prop} (hact : l.md = .act) (hgl : l.gl c = some (bg, n, p)) (htr : ∀ c, l.res.tk (.tr c) = 0) (h : KK (l.cld c)) :
    E.All l fun γ w t pos => (GateAt γ E.i c ∧ Opn w c) ∨ ∃ cap s r, w.heap[c]? = some (.chan cap #[] true s r false) ∧
      ∃ l', E.StepC γ w t w [{ g := E.i, fn := fn, pos := pos, act := .recvClosed c }] l' ∧ KK l' := fun γ w t pos hI hl hi => by
  subst hl
  obtain ⟨cl, hG⟩ := hI.nums.gl E.i hi c bg n p hgl
  obtain ⟨_, _, hc, _⟩ := hI.mem.gate c _ hG
  cases cl with
  | false => exact .inl ⟨⟨hi, hact, by rw [show γ.gate c = _ from hG]; rfl, htr⟩, 0, 0, 0, false, hc⟩
  | true =>
    refine .inr ⟨0, 0, 0, hc, _, ?_, h⟩
    have key := Whole.know_shut (PP := E.PP) hI hi hact hG rfl (u := [{ g := E.i, fn := fn, pos := pos, act := .recvClosed c }]) (fun y hy => by
      simp only [List.mem_cons, List.not_mem_nil, or_false] at hy
      subst hy
      exact ⟨rfl, ⟨rfl, by simp, by simp, by simp⟩, lt_of_heap hc⟩)
    exact ⟨_, key.1, rfl, key.2 _, set_same _ _ _⟩
/-- Goroutine 0, alone, has no right left: the gate is shut. -/
theorem turn_shut {c bg n p : Nat} (h0 : E.i = 0) (hact : l.md = .act) (hws : l.solo) (hgl : l.gl c = some (bg, n, p)) (htr : l.res.tk (.tr c) = 0) : E.Turn l (l.cld c) :=
  ⟨hact, fun γ w t hI hl hi => by
    subst hl
    obtain ⟨cl, hG⟩ := hI.nums.gl E.i hi c bg n p hgl
    have hs := Whole.alone_sum hI (by rw [h0] at hws; exact hws) (.tr c)
    rw [← h0, htr] at hs
    have hcl : cl = true := by
      rcases (hI.nums.gate c _ hG).2 with ⟨_, h1, h2⟩ | ⟨_, _, h1, _⟩ | ⟨h1, _⟩
      · omega
      · omega
      · exact h1
    have key := Whole.know_shut (PP := E.PP) hI hi hact hG hcl (u := []) (fun y hy => by cases hy)
    exact ⟨γ.set E.i ((γ.lo E.i).cld c), by simpa using key.1, rfl, key.2 _, set_same _ _ _⟩⟩
/-- The gate is opened. -/
theorem at_close {c bg n p : Nat} {KK : Lo → Prop} (hact : l.md = .act) (hgl : l.gl c = some (bg, n, p)) (hal : l.al c) (htr : l.res.tk (.tr c) = 1) (h : KK ((l.tok (.tr c) 0).cld c)) :
    E.All l fun γ w t pos => w.heap[c]? = some (.chan 0 #[] false 0 0 false) ∧ ∃ l', E.Step fn γ w t pos (w.setChan c 0 #[] true 0 0 false) #[⟨.obj c, false, true⟩, ⟨.obj c, true, true⟩] l' ∧ KK l' := fun γ w t pos hI hl hi => by
  subst hl
  have key := Whole.gate_close (PP := E.PP) hI hi hact hgl hal htr fn pos (es := #[⟨.obj c, false, true⟩, ⟨.obj c, true, true⟩]) (fun e he => by
    simp only [List.mem_toArray, List.mem_cons, List.not_mem_nil, or_false] at he
    rcases he with rfl | rfl
    · exact ⟨false, rfl⟩
    · exact ⟨true, rfl⟩) rfl
  refine ⟨key.1, _, ⟨_, key.2.1, rfl, key.2.2, ?_⟩, h⟩
  show (γ.set E.i _).lo E.i = _
  rw [set_same]
/-- One more has begun. -/
theorem at_begin {c bg n p x : Nat} (hact : l.md = .act) (hgl : l.gl c = some (bg, n, p)) (htr : l.res.tk (.tr c) = x + 1) (htb : l.res.tk (.tb c) = 0)
    (h1 : x = 0 → K (.int .i64 (n : Nat)) ((l.tok (.tb c) 1).ald c)) (h2 : ∀ k : Nat, k + 1 < n → n < 4294967296 → K (.int .i64 (k + 1 : Nat)) ((l.tok (.tb c) 1).tok (.tr c) x)) : E.AddAt l fn ⟨bg, 0, none⟩ .i64 1 K := fun γ w t pos hI hl hi => by
  subst hl
  obtain ⟨k, hk, hn, hc, hf, l', k1, k2, k3, k4⟩ := Whole.gate_begin (PP := E.PP) hI hi hact hgl htr htb fn pos
  have e : IntKind.i64.wrap ((k : Int) + 1) = ((k + 1 : Nat) : Int) := by rw [IntKind.wrap_i64]; omega
  refine ⟨_, l', hc, hf, ⟨γ.set E.i l', ?_, rfl, ?_, set_same _ _ _⟩, ?_⟩
  · rw [e]; exact k3
  · rw [e]; exact k4 _
  · rw [e]
    by_cases hkn : k + 1 = n
    · obtain ⟨hx, rfl⟩ := k1 hkn
      rw [hkn]
      exact h1 hx
    · rw [k2 hkn]
      exact h2 k (by omega) hn

/-- A fork. -/
theorem at_fork {u hi' x : Nat} {ws : List (Nat × (Res → Prop))} (hdf : l.df = 0) (hB : l.ws u = some ⟨ws, hi', 0⟩) (hwk : l.wk u = x + 1) {Rc Rr : Res} (hP : Parts l Rc Rr) (J : Res → Prop) {KK : Lo → Prop} {CC : Nat → Lo → Prop}
    (hp : ∀ N, KK (l.parent N u x Rr J ws hi')) (hc : ∀ N, N ≠ 0 → CC N (l.child N u Rc J)) :
    E.All l fun γ w t pos => ∃ lp lc, (∀ cf, ∃ γ', E.H γ' w (t ++ #[{ g := E.i, fn := fn, pos := pos, act := .go γ.N }, { g := γ.N, fn := cf, pos := pos, act := .start }]) ∧ γ'.N = γ.N + 1 ∧ Keeps E.S E.i γ w γ' w false ∧ γ'.lo E.i = lp ∧ γ'.lo γ.N = lc) ∧
      KK lp ∧ CC γ.N lc := fun γ w t pos hI hl hi => by
  subst hl
  refine ⟨_, _, fun cf => ?_, hp γ.N, hc γ.N (by have := hI.team.pos; omega)⟩
  have key := Whole.fork (PP := E.PP) hI hi hdf hB hwk hP J (a := { g := E.i, fn := fn, pos := pos, act := .go γ.N }) (b := { g := γ.N, fn := cf, pos := pos, act := .start }) ⟨rfl, rfl⟩ ⟨rfl, rfl⟩
  refine ⟨_, key.1, rfl, key.2, ?_, ?_⟩
  · simp [Gh.born, Nat.ne_of_lt hi]
  · simp [Gh.born]
end Go.Proofs.Ytofohjbcgchhoaa

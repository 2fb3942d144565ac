/-
  THE START: one goroutine, a call from outside; the run of a law.
-/
import Derived.Test.YtofohjbcgchhoaaH3
namespace Go.Proofs.Ytofohjbcgchhoaa
open Go.Conc
open Go.RowKit
open Go.ConcN (sumTo upd sumTo_upd upd_ne upd_same sumTo_congr le_sumTo)

/-- What goroutine 0 has at first: it may read all that was there. -/
def lo0 (W : World) : Lo where
  md := .act
  df := 0
  res := ⟨fun _ => none, fun _ => 0⟩
  ro := fun a v => a.block < W.heap.size ∧ W.cell? a = some v
  jn := fun j => j = 0
  pk := fun _ => 0
  pl := fun _ => none
  gl := fun _ => none
  cl := fun _ => False
  wg := none
  wk := fun _ => 0
  ws := fun _ => none
  gk := fun _ => none
  oc := fun _ => none
  sk := fun _ => 0
  ob := fun _ => True
  al := fun _ => False
def gh0 (W : World) : Gh where
  N := 1
  lo := fun _ => lo0 W
  pool := fun _ => none
  wg := fun _ => none
  gate := fun _ => none

theorem sum0 (W : World) (k : Tk) : (gh0 W).sum k = 0 := by simp [Gh.sum, gh0, sumTo, lo0]
theorem noAT (W : World) (a : Addr) : ¬ AT (gh0 W) a := by
  rintro ⟨_, h | h | ⟨c, G, h, _⟩⟩
  · simp [gh0] at h
  · simp [gh0] at h
  · simp [gh0] at h

theorem tinv0 (B : Nat) (f : Nat → Tg) (AT : Addr → Prop) (sd : Addr → Nat) (hdf : (f 0).df = 0) (hst : (f 0).st = .act) : TInv 1 B f AT sd #[] where
  clean said := by
    rintro ⟨a, b, _, ⟨xa, xb, ha, _⟩, _⟩
    simp [Trace.act?] at ha
  low op h := by simp at h
  norel op h := by simp at h
  plainObj k x h := by simp [touchAt, Trace.act?] at h
  at_ k x a h := by simp [touchAt, Trace.act?] at h
  ex i _ a _ k x h := by simp [touchAt, Trace.act?] at h
  rd i _ a _ k x h := by simp [touchAt, Trace.act?] at h
  jn i _ c _ k h := by simp [Trace.g?] at h
  df i hi := by
    have : i = 0 := by omega
    subst this
    rw [hdf]; rfl
  relp i hi p a h := by
    have : i = 0 := by omega
    subst this
    rw [hst] at h; cases h
  seen op h := by simp at h

theorem whole0 (W : World) : Whole W.heap.size W (gh0 W) W #[] where
  mem := {
    bel := Below.refl _ _
    big := Nat.le_refl _
    cell := fun i _ a v h => by simp [gh0, lo0] at h
    ro := fun i _ a v h => h.2
    pool := fun p G h => by simp [gh0] at h
    oc := fun i _ c cap h => by simp [gh0, lo0] at h
    wg := fun u G h => by simp [gh0] at h
    gate := fun c G h => by simp [gh0] at h }
  own := {
    ex := fun i j _ _ _ a h => by simp [gh0, lo0] at h
    exro := fun i j _ _ a v h => by simp [gh0, lo0] at h
    exAT := fun i _ a h => by simp [gh0, lo0] at h
    roAT := fun i _ a v _ => noAT W a }
  nums := {
    slot := fun i _ p => Nat.le_refl _
    pool := fun p G h => by simp [gh0] at h
    pk := fun i _ p G h => by simp [gh0] at h
    pl := fun i _ p ch cap so h => by simp [gh0, lo0] at h
    gl := fun i _ c bg n p h => by simp [gh0, lo0] at h
    cl := fun i _ c h => h.elim
    gate := fun c G h => by simp [gh0] at h
    al := fun i _ c h => h.elim
    gm := fun c G h => by simp [gh0] at h
    gk := fun i _ c k h => by simp [gh0, lo0] at h
    gku := fun i _ c h => by simp [gh0, lo0] at h
    nopk := fun p _ i _ => rfl
    idle := fun i _ h => absurd rfl h
    chp := fun p G c h => by simp [gh0] at h
    chpp := fun p G p' G' h => by simp [gh0] at h
    solo := fun p G h => by simp [gh0] at h
    oc := fun i _ c h => by simp [gh0, lo0] at h
    bgi := fun c G c' G' h => by simp [gh0] at h
    nop := fun p _ i _ => ⟨rfl, rfl, rfl⟩
    nog := fun p _ i _ => ⟨rfl, rfl, rfl⟩ }
  team := {
    pos := by simp [gh0]
    main := ⟨rfl, rfl⟩
    boss := fun b _ u B h => by simp [gh0, lo0] at h
    led := fun c hc h0 => by simp [gh0] at hc; omega
    wk := fun i _ u h => by simp [gh0, lo0] at h
    wph := fun u G h => by simp [gh0] at h
    duty := fun i _ p a ph u h => by simp [gh0, lo0] at h
    gone := fun i _ h => by simp [gh0, lo0] at h
    jn := fun i hi _ => by
      have : i = 0 := by simp [gh0] at hi; omega
      subst this
      exact ⟨rfl, fun j hj _ => by simp [gh0] at hj; omega⟩
    jng := fun c _ h => by simp [gh0, lo0] at h
    small := fun u => by simp [Gh.cnt, gh0, sumTo, lo0]
    jlt := fun i hi c h => by
      have : c = 0 := h
      simp [gh0, this]
    nown := fun u _ i _ => ⟨rfl, rfl, by simp [gh0, lo0]⟩ }
  tr := tinv0 _ _ _ _ rfl rfl

theorem calm0 (W : World) : Calm (lo0 W) where
  md := rfl
  df := rfl
  solo := fun u B h => by simp [lo0] at h
  tr := fun _ => rfl
  gm := fun _ => .inr rfl
  slot0 := fun _ => ⟨rfl, rfl⟩
  sk := fun _ _ => rfl

/-- THE RUN OF A LAW. -/
theorem run_law {f : FuncId} {args : Array Value} {W : World} {N : Nat} {l2 : Lo → Prop} (hin : ¬ 2 = f)
    (hC : ∀ l', l2 l' → l'.md = .act ∧ l'.solo)
    (hB : ∀ E : En, E.i = 0 → E.B f args N (lo0 W) fun v l' => v = .bool true ∧ l2 l') :
    ∃ M last o w' t', runNT Try.prog (M + 1) (solo (G (Frame.enter Try.prog f args .normal) []) W) #[] = (.ended o w', t') ∧
      runN Try.prog M (solo (G (Frame.enter Try.prog f args .normal) []) W) = .next last ∧ step Try.prog last = .ended o w' ∧
      Go.Conc.Good Try.prog (fun v w' => v = .bool true ∧ Below W.heap.size W w') last o w' t' := by
  obtain ⟨fn, c, hf, hname, hb, h⟩ := hB ⟨W.heap.size, W, fun v w' => v = .bool true ∧ Below W.heap.size W w', 0⟩ rfl
  have hI : (SY W.heap.size W fun v w' => v = .bool true ∧ Below W.heap.size W w').Inv (gh0 W) W #[] := whole0 W
  have hW := h (base f) [] 1 rfl (by simp [base]) fun a' l' v todo hd hr hp => by
    obtain ⟨hm, hs⟩ := hC l' hp.2
    refine w_done rfl (quit_act hm) rfl hd hf hin hr hs fun γ w t hI' _ => ⟨hp.1, hI'.mem.bel⟩
  have he : Frame.enter Try.prog f args .normal = (base f).at (act0 fn args) [.code c] := by
    simp [Frame.enter, hf, hb, act0, base, Frame.at]
  rw [he]
  exact runs (fits W.heap.size W _) hI rfl hW
end Go.Proofs.Ytofohjbcgchhoaa

/-
  THE GHOST: what each goroutine has and knows; pools, groups, gates; the invariant of all.
-/
import Derived.Test.YtofohjbcgchhoaaB2
import Derived.Below
namespace Go.Proofs.Ytofohjbcgchhoaa
open Go.Conc
open Go.RowKit
open Go.ConcN (sumTo upd sumTo_upd upd_ne upd_same sumTo_congr le_sumTo)

/-- Shares in counters: of a pool (slots taken, alive, begun), of a gate (rights to begin, begun, members). -/
inductive Tk where
  | slot (p : Nat)
  | alive (p : Nat)
  | begun (p : Nat)
  | tr (c : Nat)
  | tb (c : Nat)
  | gm (c : Nat)
  deriving DecidableEq
/-- What a goroutine owns. -/
structure Res where
  cells : Addr → Option Value
  tk : Tk → Nat
/-- How it stands: it works; it has released (and still owes the group: 0 its counting down, 2 a store, 3 a wake-up); it only leaves; it has been collected. -/
inductive Md where
  | act
  | rel (p : Nat) (a : Addr) (ph : Nat)
  | quit (p : Nat) (a : Addr)
  | gone
/-- A group that it leads: its workers, each with what it will have; a bound of the counter; does it wait? -/
structure Boss where
  ws : List (Nat × (Res → Prop))
  hi : Nat
  ph : Nat
structure Lo where
  md : Md
  df : Nat
  res : Res
  ro : Addr → Value → Prop
  jn : Nat → Prop
  pk : Nat → Nat
  pl : Nat → Option (Nat × Nat × Bool)
  gl : Nat → Option (Nat × Nat × Nat)
  cl : Nat → Prop
  wg : Option Nat
  wk : Nat → Nat
  ws : Nat → Option Boss
  gk : Nat → Option Nat
  oc : Nat → Option Nat
  sk : Nat → Nat
  ob : Res → Prop
  al : Nat → Prop

structure PoolG where
  ch : Nat
  cap : Nat
  pk : Nat
  solo : Bool
structure WgG where
  boss : Nat
  ph : Nat
  du : Nat
structure GateG where
  bg : Nat
  n : Nat
  p : Nat
  closed : Bool
structure Gh where
  N : Nat
  lo : Nat → Lo
  pool : Nat → Option PoolG
  wg : Nat → Option WgG
  gate : Nat → Option GateG

def Gh.sum (γ : Gh) (k : Tk) : Nat := sumTo γ.N fun i => (γ.lo i).res.tk k
def Gh.cnt (γ : Gh) (u : Nat) : Nat := sumTo γ.N fun i => (γ.lo i).wk u
/-- The cells that are touched atomically. -/
def AT (γ : Gh) (a : Addr) : Prop :=
  a.spot = none ∧ (((γ.pool a.block).isSome = true ∧ 1 ≤ a.off ∧ a.off < 4) ∨ (γ.wg a.block).isSome = true ∨ ∃ c G, γ.gate c = some G ∧ G.bg = a.block)
def sd (γ : Gh) (a : Addr) : Nat := ((γ.wg a.block).map (·.boss)).getD 0
def Md.st : Md → St
  | .act => .act
  | .rel p a _ | .quit p a => .rel p a
  | .gone => .gone
def Lo.tg (l : Lo) : Tg where
  st := l.md.st
  ex := fun a => l.res.cells a ≠ none
  rd := fun a => ∃ v, l.ro a v
  jn := l.jn
  df := l.df
def Lo.quit (l : Lo) : Option Nat :=
  match l.md with
  | .quit _ _ | .gone => some l.df
  | _ => none

/-- A group's two numbers. -/
def wtOf (ph : Nat) : Nat := if ph = 1 ∨ ph = 2 then 1 else 0
def smOf (ph : Nat) : Nat := if ph = 4 then 1 else 0

/-- What memory holds. -/
structure Mem (B0 : Nat) (w0 : World) (γ : Gh) (w : World) : Prop where
  bel : Below B0 w0 w
  big : B0 ≤ w.heap.size
  cell : ∀ i, i < γ.N → ∀ a v, (γ.lo i).res.cells a = some v → w.cell? a = some v ∧ w.frozen? a = false ∧ B0 ≤ a.block
  ro : ∀ i, i < γ.N → ∀ a v, (γ.lo i).ro a v → w.cell? a = some v
  pool : ∀ p G, γ.pool p = some G → B0 ≤ p ∧ w.cell? ⟨p, 1, none⟩ = some (.int .i64 (γ.sum (.alive p) : Nat)) ∧ w.cell? ⟨p, 2, none⟩ = some (.int .i64 (G.pk : Nat)) ∧
    w.cell? ⟨p, 3, none⟩ = some (.int .i64 (IntKind.i64.wrap (γ.sum (.begun p) : Nat))) ∧ (∀ j, w.frozen? ⟨p, j, none⟩ = false) ∧ B0 ≤ G.ch ∧
    (∃ buf s r, w.heap[G.ch]? = some (.chan G.cap buf false s r false) ∧ buf.size = γ.sum (.slot p))
  oc : ∀ i, i < γ.N → ∀ c cap, (γ.lo i).oc c = some cap → B0 ≤ c ∧ w.heap[c]? = some (.chan cap #[] false 0 0 false)
  wg : ∀ u G, γ.wg u = some G → B0 ≤ u ∧ w.cell? ⟨u, 0, none⟩ = some (.int .u64 ((γ.cnt u * 4294967296 + wtOf G.ph : Nat) : Int)) ∧ w.cell? ⟨u, 1, none⟩ = some (.int .u32 (smOf G.ph : Nat)) ∧ ∀ j, w.frozen? ⟨u, j, none⟩ = false
  gate : ∀ c G, γ.gate c = some G → B0 ≤ c ∧ B0 ≤ G.bg ∧ w.heap[c]? = some (.chan 0 #[] G.closed 0 0 false) ∧ w.cell? ⟨G.bg, 0, none⟩ = some (.int .i64 (γ.sum (.tb c) : Nat)) ∧ ∀ j, w.frozen? ⟨G.bg, j, none⟩ = false

/-- Who has what. -/
structure Own (γ : Gh) : Prop where
  ex : ∀ i j, i < γ.N → j < γ.N → i ≠ j → ∀ a, (γ.lo i).res.cells a ≠ none → (γ.lo j).res.cells a = none
  exro : ∀ i j, i < γ.N → j < γ.N → ∀ a v, (γ.lo i).res.cells a ≠ none → ¬ (γ.lo j).ro a v
  exAT : ∀ i, i < γ.N → ∀ a, (γ.lo i).res.cells a ≠ none → ¬ AT γ a
  roAT : ∀ i, i < γ.N → ∀ a v, (γ.lo i).ro a v → ¬ AT γ a

/-- Pools, gates: numbers. -/
structure Nums (γ : Gh) : Prop where
  slot : ∀ i, i < γ.N → ∀ p, (γ.lo i).res.tk (.alive p) ≤ (γ.lo i).res.tk (.slot p)
  pool : ∀ p G, γ.pool p = some G → G.pk ≤ G.cap ∧ 1 ≤ G.cap ∧ G.cap ≤ 16 ∧ γ.sum (.slot p) ≤ G.cap
  pk : ∀ i, i < γ.N → ∀ p G, γ.pool p = some G → (γ.lo i).pk p ≤ G.pk
  pl : ∀ i, i < γ.N → ∀ p ch cap so, (γ.lo i).pl p = some (ch, cap, so) → ∃ k, γ.pool p = some ⟨ch, cap, k, so⟩
  gl : ∀ i, i < γ.N → ∀ c bg n p, (γ.lo i).gl c = some (bg, n, p) → ∃ cl, γ.gate c = some ⟨bg, n, p, cl⟩
  cl : ∀ i, i < γ.N → ∀ c, (γ.lo i).cl c → ∃ G, γ.gate c = some G ∧ G.closed = true
  gate : ∀ c G, γ.gate c = some G → G.n < 4294967296 ∧ ((G.closed = false ∧ γ.sum (.tb c) < G.n ∧ γ.sum (.tr c) + γ.sum (.tb c) = G.n) ∨ (G.closed = false ∧ γ.sum (.tb c) = G.n ∧ γ.sum (.tr c) = 1 ∧ ∀ i, i < γ.N → (γ.lo i).res.tk (.tr c) ≠ 0 → (γ.lo i).res.tk (.tb c) ≠ 0) ∨ (G.closed = true ∧ γ.sum (.tb c) = G.n ∧ γ.sum (.tr c) = 0))
  al : ∀ i, i < γ.N → ∀ c, (γ.lo i).al c → ∃ G, γ.gate c = some G ∧ γ.sum (.tb c) = G.n
  gm : ∀ c G, γ.gate c = some G → G.closed = false → ∀ i, i < γ.N → (γ.lo i).res.tk (.gm c) ≤ (γ.lo i).res.tk (.alive G.p)
  gk : ∀ i, i < γ.N → ∀ c k, (γ.lo i).gk c = some k → γ.sum (.gm c) = k
  gku : ∀ i, i < γ.N → ∀ c, (γ.lo i).gk c ≠ none → γ.gate c ≠ none ∧ ∀ j, j < γ.N → j ≠ i → (γ.lo j).gk c = none
  nopk : ∀ p, γ.pool p = none → ∀ i, i < γ.N → (γ.lo i).pk p = 0
  idle : ∀ i, i < γ.N → (γ.lo i).md ≠ .act → ∀ c, (γ.lo i).res.tk (.tr c) = 0
  chp : ∀ p G c, γ.pool p = some G → γ.gate c = none ∨ c ≠ G.ch
  chpp : ∀ p G p' G', γ.pool p = some G → γ.pool p' = some G' → G.ch = G'.ch → p = p'
  solo : ∀ p G, γ.pool p = some G → G.solo = true → γ.sum (.slot p) ≤ (γ.lo 0).sk p
  oc : ∀ i, i < γ.N → ∀ c, (γ.lo i).oc c ≠ none → γ.gate c = none ∧ (∀ p G, γ.pool p = some G → G.ch ≠ c) ∧ ∀ j, j < γ.N → j ≠ i → (γ.lo j).oc c = none
  bgi : ∀ c G c' G', γ.gate c = some G → γ.gate c' = some G' → G.bg = G'.bg → c = c'
  nop : ∀ p, γ.pool p = none → ∀ i, i < γ.N → (γ.lo i).res.tk (.slot p) = 0 ∧ (γ.lo i).res.tk (.alive p) = 0 ∧ (γ.lo i).res.tk (.begun p) = 0
  nog : ∀ c, γ.gate c = none → ∀ i, i < γ.N → (γ.lo i).res.tk (.tr c) = 0 ∧ (γ.lo i).res.tk (.tb c) = 0 ∧ (γ.lo i).res.tk (.gm c) = 0

/-- A worker of group u, as its leader knows it. -/
def Works (l : Lo) (u : Nat) (J : Res → Prop) : Prop :=
  l.wg = some u ∧ match l.md with
    | .act => l.wk u = 1 ∧ l.ob = J
    | .rel _ a ph => a = ⟨u, 0, none⟩ ∧ J l.res ∧ l.wk u = (if ph = 0 then 1 else 0)
    | .quit _ a => a = ⟨u, 0, none⟩ ∧ J l.res ∧ l.wk u = 0
    | .gone => False

/-- Leaders and workers. -/
structure Team (γ : Gh) : Prop where
  pos : 0 < γ.N
  main : (γ.lo 0).md = .act ∧ (γ.lo 0).wg = none
  boss : ∀ b, b < γ.N → ∀ u B, (γ.lo b).ws u = some B → (γ.lo b).md = .act ∧ (B.ws.map (·.1)).Nodup ∧ (∀ c J, (c, J) ∈ B.ws → c < γ.N ∧ b < c ∧ Works (γ.lo c) u J) ∧
    γ.cnt u ≤ B.hi ∧ ∃ G, γ.wg u = some G ∧ G.boss = b ∧ (B.ph = 0 → G.ph = 0) ∧ (B.ph ≠ 0 → G.ph ≠ 0 ∧ (γ.lo b).wk u = 0)
  led : ∀ c, c < γ.N → c ≠ 0 → (γ.lo c).md ≠ .gone → ∃ b u B J, b < γ.N ∧ (γ.lo b).ws u = some B ∧ (c, J) ∈ B.ws
  wk : ∀ i, i < γ.N → ∀ u, (γ.lo i).wk u ≠ 0 → (γ.lo i).wg = some u ∨ ∃ B, (γ.lo i).ws u = some B
  wph : ∀ u G, γ.wg u = some G → G.ph ≤ 4 ∧ (G.ph = 1 → 0 < γ.cnt u) ∧ (2 ≤ G.ph → γ.cnt u = 0) ∧ (G.ph = 2 ∨ G.ph = 3 → G.du < γ.N ∧ (γ.lo G.du).wg = some u ∧ ∃ p a, (γ.lo G.du).md = .rel p a G.ph)
  duty : ∀ i, i < γ.N → ∀ p a ph u, (γ.lo i).md = .rel p a ph → ph ≠ 0 → (γ.lo i).wg = some u → (ph = 2 ∨ ph = 3) ∧ ∃ G, γ.wg u = some G ∧ G.ph = ph ∧ G.du = i
  gone : ∀ i, i < γ.N → (γ.lo i).md = .gone → (∀ a, (γ.lo i).res.cells a = none) ∧ (∀ k, (γ.lo i).res.tk k = 0) ∧ (∀ a v, ¬ (γ.lo i).ro a v) ∧ (∀ u, (γ.lo i).wk u = 0) ∧ ∀ c, ¬ (γ.lo i).jn c
  jn : ∀ i, i < γ.N → (γ.lo i).md ≠ .gone → (γ.lo i).jn i ∧ ∀ j, j < γ.N → (γ.lo j).jn i → j = i
  jng : ∀ c, c < γ.N → (γ.lo c).md = .gone → ∃ i, i < γ.N ∧ (γ.lo i).md ≠ .gone ∧ (γ.lo i).jn c
  small : ∀ u, γ.cnt u < 2147483648
  jlt : ∀ i, i < γ.N → ∀ c, (γ.lo i).jn c → c < γ.N
  nown : ∀ u, γ.wg u = none → ∀ i, i < γ.N → (γ.lo i).wk u = 0 ∧ (γ.lo i).ws u = none ∧ (γ.lo i).wg ≠ some u

/-- The invariant of all. -/
structure Whole (B0 : Nat) (w0 : World) (γ : Gh) (w : World) (t : Trace) : Prop where
  mem : Mem B0 w0 γ w
  own : Own γ
  nums : Nums γ
  team : Team γ
  tr : TInv γ.N w.heap.size (fun i => (γ.lo i).tg) (AT γ) (sd γ) t

def Stuck (γ : Gh) (i : Nat) (w : World) : Prop := i < γ.N ∧ (γ.lo i).md = .act ∧ (∀ c, (γ.lo i).res.tk (.tr c) = 0) ∧ ∃ u B, (γ.lo i).ws u = some B ∧ B.ph ≠ 0 ∧ w.cell? ⟨u, 1, none⟩ = some (.int .u32 0)
def GateAt (γ : Gh) (i c : Nat) : Prop := i < γ.N ∧ (γ.lo i).md = .act ∧ (γ.gate c).isSome = true ∧ ∀ c', (γ.lo i).res.tk (.tr c') = 0

def SY (B0 : Nat) (w0 : World) (Post : Value → World → Prop) : Sys where
  Gh := Gh
  Lo := Lo
  num := Gh.N
  own := Gh.lo
  Inv := Whole B0 w0
  Stuck := Stuck
  Gate := GateAt
  quit := Lo.quit
  Post := Post

/-- The traces' side condition, out of the ghost's. -/
theorem Own.disj {γ : Gh} (h : Own γ) (T : Team γ) : Disj γ.N (fun i => (γ.lo i).tg) (AT γ) where
  ex i j hi hj hne a he := by
    have := h.ex i j hi hj hne a he
    simp [Lo.tg, this]
  rd i j hi hj a he := fun ⟨v, hv⟩ => h.exro i j hi hj a v he hv
  exAT i hi a he := h.exAT i hi a he
  rdAT i hi a he := by obtain ⟨v, hv⟩ := he; exact h.roAT i hi a v hv
  self i j hi hj hne ha hjn := by
    have hg : (γ.lo i).md ≠ .gone := by
      intro e
      simp only [Lo.tg, e, Md.st] at ha
      cases ha
    exact hne ((T.jn i hi hg).2 j hj hjn).symm

theorem sum_pos {N : Nat} {f : Nat → Nat} (h : 0 < sumTo N f) : ∃ i, i < N ∧ 0 < f i := by
  induction N with
  | zero => cases h
  | succ n ih =>
    by_cases hn : 0 < f n
    · exact ⟨n, by omega, hn⟩
    · have h' : 0 < sumTo n f := by
        have h : 0 < sumTo n f + f n := h
        omega
      obtain ⟨i, hi, h'⟩ := ih h'
      exact ⟨i, by omega, h'⟩
theorem exists_max (N : Nat) (p : Nat → Prop) (h : ∃ i, i < N ∧ p i) : ∃ i, i < N ∧ p i ∧ ∀ j, j < N → p j → j ≤ i := by
  induction N with
  | zero => obtain ⟨i, hi, _⟩ := h; omega
  | succ n ih =>
    by_cases hn : p n
    · exact ⟨n, by omega, hn, fun j hj _ => by omega⟩
    · obtain ⟨i, hi, hp⟩ := h
      have hin : i ≠ n := fun e => hn (e ▸ hp)
      obtain ⟨k, hk, hkp, hm⟩ := ih ⟨i, by omega, hp⟩
      exact ⟨k, by omega, hkp, fun j hj hpj => by
        have : j ≠ n := fun e => hn (e ▸ hpj)
        exact hm j (by omega) hpj⟩

/-- Nobody sleeps for ever. -/
theorem alive_all {B0 : Nat} {w0 : World} {γ : Gh} {w : World} {t : Trace} (h : Whole B0 w0 γ w t) (hall : ∀ i, i < γ.N → (γ.lo i).quit ≠ none ∨ Stuck γ i w ∨ ∃ c, GateAt γ i c ∧ Opn w c) : False := by
  have hact : ∀ i, (γ.lo i).md = .act → (γ.lo i).quit = none := fun i e => by simp [Lo.quit, e]
  have noright : ∀ i, i < γ.N → ∀ c, (γ.lo i).res.tk (.tr c) = 0 := fun i hi c => by
    rcases hall i hi with hq | hs | ⟨_, hg, _⟩
    · exact h.nums.idle i hi (fun e => hq (hact i e)) c
    · exact hs.2.2.1 c
    · exact hg.2.2.2 c
  have nogate : ∀ i c, i < γ.N → GateAt γ i c → ¬ Opn w c := by
    rintro i c hi ⟨_, _, hgs, _⟩ ⟨cap, s, r, tm, hc⟩
    obtain ⟨G, hG⟩ := Option.isSome_iff_exists.1 hgs
    have hm := (h.mem.gate c G hG).2.2.1
    rw [hm] at hc
    injection hc with hc
    injection hc with _ _ hcl
    have hz : γ.sum (.tr c) = 0 := by
      rcases Nat.eq_zero_or_pos (γ.sum (.tr c)) with e | e
      · exact e
      · obtain ⟨k, hk, hkp⟩ := sum_pos e
        have := noright k hk c
        omega
    rcases (h.nums.gate c G hG).2 with ⟨_, e1, e2⟩ | ⟨_, _, e, _⟩ | ⟨e, _⟩
    · omega
    · omega
    · rw [hcl] at e; cases e
  have stuck : ∀ i, i < γ.N → (γ.lo i).quit = none → Stuck γ i w := fun i hi hq => by
    rcases hall i hi with e | e | ⟨c, hg, ho⟩
    · exact absurd hq e
    · exact e
    · exact (nogate i c hi hg ho).elim
  obtain ⟨b, hb, hsb, hmax⟩ := exists_max γ.N (fun i => Stuck γ i w) ⟨0, h.team.pos, stuck 0 h.team.pos (hact 0 h.team.main.1)⟩
  obtain ⟨_, hmd, _, u, B, hws, hph, hsem⟩ := hsb
  obtain ⟨_, _, hmem, _, G, hG, hGb, _, hG1⟩ := h.team.boss b hb u B hws
  obtain ⟨hGne, hbwk⟩ := hG1 hph
  obtain ⟨hle, h1, h2, h3⟩ := h.team.wph u G hG
  have hsm := (h.mem.wg u G hG).2.2.1
  rw [hsm] at hsem
  injection hsem with hsem
  injection hsem with _ hsem
  have hne4 : G.ph ≠ 4 := fun e => by simp [smOf, e] at hsem
  by_cases e1 : G.ph = 1
  · obtain ⟨i, hi, hip⟩ := sum_pos (h1 e1)
    rcases h.team.wk i hi u (by omega) with hw | ⟨B', hB'⟩
    · have hi0 : i ≠ 0 := fun e => by rw [e, h.team.main.2] at hw; cases hw
      have hg : (γ.lo i).md ≠ .gone := fun e => by have := (h.team.gone i hi e).2.2.2.1 u; omega
      obtain ⟨b', u', B'', J, hb', hws', hin⟩ := h.team.led i hi hi0 hg
      obtain ⟨_, _, hmem', _, G', hG', hGb', _⟩ := h.team.boss b' hb' u' B'' hws'
      obtain ⟨_, hlt, hwk⟩ := hmem' i J hin
      have hu : u' = u := by
        have := hwk.1
        rw [hw] at this
        exact (Option.some.inj this).symm
      subst hu
      rw [hG] at hG'
      cases hG'
      have hbb : b' = b := by rw [← hGb', ← hGb]
      have hq : (γ.lo i).quit = none := by
        have := hwk.2
        unfold Lo.quit
        cases hm : (γ.lo i).md with
        | act => rfl
        | rel p a ph => rfl
        | quit p a => rw [hm] at this; simp only at this; omega
        | gone => exact absurd hm hg
      have := hmax i hi (stuck i hi hq)
      omega
    · obtain ⟨_, _, _, _, G', hG', hGb', _⟩ := h.team.boss i hi u B' hB'
      rw [hG] at hG'
      cases hG'
      have : i = b := by rw [← hGb', ← hGb]
      subst this
      omega
  · have h23 : G.ph = 2 ∨ G.ph = 3 := by omega
    obtain ⟨hd, _, p, a, hm⟩ := h3 h23
    have hq : (γ.lo G.du).quit = none := by simp [Lo.quit, hm]
    have := (stuck G.du hd hq).2.1
    rw [hm] at this
    cases this
end Go.Proofs.Ytofohjbcgchhoaa

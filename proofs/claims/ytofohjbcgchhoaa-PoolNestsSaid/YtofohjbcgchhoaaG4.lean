/-
  WHAT A POOL'S LOOP KEEPS: in plain words, no program in sight.
-/
import Derived.Test.YtofohjbcgchhoaaG3
import Derived.Test.YtofohjbcgchhoaaE12
namespace Go.Proofs.Ytofohjbcgchhoaa
open Go.Conc
open Go.RowKit
open Go.ConcN (sumTo sumTo_congr le_sumTo)

/-- A goroutine has made new cells, frozen new ones: no more. -/
structure Grow (l l' : Lo) : Prop where
  md : l'.md = l.md
  df : l'.df = l.df
  pl : l'.pl = l.pl
  gl : l'.gl = l.gl
  pk : l'.pk = l.pk
  cl : l'.cl = l.cl
  wg : l'.wg = l.wg
  wk : l'.wk = l.wk
  ws : l'.ws = l.ws
  gk : l'.gk = l.gk
  ob : l'.ob = l.ob
  sk : l'.sk = l.sk
  tk : l'.res.tk = l.res.tk
  ro : ∀ a v, l.ro a v → l'.ro a v
  cell : ∀ a, l.res.cells a ≠ none → l'.res.cells a = l.res.cells a
theorem Grow.refl (l : Lo) : Grow l l := ⟨rfl, rfl, rfl, rfl, rfl, rfl, rfl, rfl, rfl, rfl, rfl, rfl, rfl, fun _ _ h => h, fun _ _ => rfl⟩
theorem Grow.addc {l l1 : Lo} (h : Grow l l1) {r : Nat} (hr : Fresh l1 r) (c : Array Value) : Grow l (l1.addc r c) :=
  ⟨h.md, h.df, h.pl, h.gl, h.pk, h.cl, h.wg, h.wk, h.ws, h.gk, h.ob, h.sk, h.tk, h.ro, fun a ha => by
    have h1 : l1.res.cells a = l.res.cells a := h.cell a ha
    rw [addc_old fun e => ha (by rw [← h1]; exact hr.cell a e), h1]⟩
theorem Grow.setc {l l1 : Lo} (h : Grow l l1) {ad : Addr} (hn : l.res.cells ad = none) (v : Value) : Grow l (l1.setc ad v) :=
  ⟨h.md, h.df, h.pl, h.gl, h.pk, h.cl, h.wg, h.wk, h.ws, h.gk, h.ob, h.sk, h.tk, h.ro, fun a ha => by
    have hne : a ≠ ad := fun e => ha (e ▸ hn)
    show (if a = ad then _ else _) = _
    rw [if_neg hne]; exact h.cell a ha⟩
theorem Grow.froz {l l1 : Lo} (h : Grow l l1) {C' : Addr → Option Value} {R' : Addr → Value → Prop} (hc : ∀ a, l.res.cells a ≠ none → C' a = l1.res.cells a) (hr : ∀ a v, l1.ro a v → R' a v) : Grow l { l1 with res := ⟨C', l1.res.tk⟩, ro := R' } :=
  ⟨h.md, h.df, h.pl, h.gl, h.pk, h.cl, h.wg, h.wk, h.ws, h.gk, h.ob, h.sk, h.tk, fun a v x => hr a v (h.ro a v x), fun a ha => (hc a ha).trans (h.cell a ha)⟩

theorem Ext.setc {l l' : Lo} (h : Ext l l') (ad : Addr) (v : Value) : Ext l (l'.setc ad v) := ⟨h.md, h.df, h.ro, h.pl, h.gl, h.pk, h.cl⟩

/-- A call of Do: so many tasks, where they lie, what the caller had; its blocks. -/
structure DoPar where
  n : Nat
  ts : Nat → Task
  A : Addr
  l0 : Lo
  pool : Bool
  p : Nat
  ch : Nat
  cap : Nat
  so : Bool
  gc : Option Nat
  O : Nat
  u : Nat
  bp : Nat
  bo : Nat
def DoPar.pa (D : DoPar) : Option Addr := if D.pool then some ⟨D.p, 0, none⟩ else none
def DoPar.pv (D : DoPar) : Value := .pointer D.pa
/-- What a worker promises. -/
def DoPar.J (D : DoPar) (j : Nat) (r : Res) : Prop := ∃ x, r.cells ⟨D.O, j, none⟩ = some (.int .i64 x) ∧ (D.ts j).post x r.cells ∧ ∀ k, (∀ c, D.gc = some c → k ≠ .gm c) → r.tk k = (D.ts j).T' k

/-- What a call of Do asks. -/
structure DoPre (D : DoPar) (e0 : Prop) : Prop where
  pos : 1 ≤ D.n
  act : D.l0.md = .act
  df : D.l0.df = 0
  cellA : ∀ j, j < D.n → D.l0.res.cells (D.A.add j) = some (D.ts j).v ∧ ∀ i, i < D.n → ¬ (D.ts i).foot (D.A.add j)
  ok : ∀ j, j < D.n → (D.ts j).Ok
  nil : ∀ j, j < D.n → (D.ts j).v = .nilFunc → (∀ a, ¬ (D.ts j).foot a) ∧ ∀ k, (D.ts j).T k = 0 ∧ (D.ts j).T' k = 0
  own : ∀ j, j < D.n → ∀ a, (D.ts j).foot a → D.l0.res.cells a ≠ none
  disj : ∀ i j, i < D.n → j < D.n → i ≠ j → ∀ a, (D.ts i).foot a → ¬ (D.ts j).foot a
  slots : ∀ q, D.l0.res.tk (.alive q) ≤ D.l0.res.tk (.slot q)
  gm : ∀ c, D.l0.cl c ∨ D.l0.res.tk (.gm c) = 0
  tr : ∀ c, D.l0.res.tk (.tr c) = sumTo D.n fun j => (D.ts j).T (.tr c)
  T : ∀ k, sumTo D.n (fun j => (D.ts j).T k) ≤ D.l0.res.tk k
  nop : D.pool = false → D.gc = none
  isp : D.pool = true → D.l0.pl D.p = some (D.ch, D.cap, D.so) ∧ D.l0.ro ⟨D.p, 0, none⟩ (.chan (some D.ch)) ∧ 1 ≤ D.cap
  free : D.gc = none → D.so = false ∧ ∀ j, j < D.n → ∀ c, (D.ts j).T (.tr c) = 0
  gate : ∀ c, D.gc = some c → D.so = true ∧ e0 ∧ D.l0.sk D.p = 0 ∧ D.n ≤ D.cap + 1 ∧ (∀ j, j < D.n → (D.ts j).v ≠ .nilFunc) ∧ (∃ bg m, D.l0.gl c = some (bg, m, D.p)) ∧ D.l0.gk c = some 0 ∧ D.l0.res.tk (.gm c) = 0 ∧ D.l0.res.tk (.tb c) = 0 ∧
    (∀ j, j < D.n → 1 ≤ (D.ts j).T (.tr c)) ∧ (∀ j, j < D.n → (D.ts j).T (.tb c) = 0) ∧ ∀ c', c' ≠ c → ∀ j, j < D.n → (D.ts j).T (.tr c') = 0

theorem DoPre.put {D : DoPar} {e0 : Prop} (h : DoPre D e0) (O u bp bo : Nat) : DoPre { D with O := O, u := u, bp := bp, bo := bo } e0 :=
  ⟨h.pos, h.act, h.df, h.cellA, h.ok, h.nil, h.own, h.disj, h.slots, h.gm, h.tr, h.T, h.nop, h.isp, h.free, h.gate⟩

/-- Ahead of round i. -/
structure DoAt (D : DoPar) (e0 : Prop) (i : Nat) (l : Lo) (ws : List (Nat × (Res → Prop))) (hi : Nat) (fk : List Nat) (xs : Nat → Int) : Prop where
  ext : Ext D.l0 l
  roP : l.ro ⟨D.bp, 0, none⟩ D.pv
  roO : l.ro ⟨D.bo, 0, none⟩ (.slice (some ⟨D.O, 0, none⟩) D.n D.n)
  wsu : l.ws D.u = some ⟨ws, hi, 0⟩
  hile : hi ≤ i
  wsx : ∀ x, x ≠ D.u → l.ws x = D.l0.ws x
  wk : l.wk = D.l0.wk
  wg : l.wg = D.l0.wg
  ob : l.ob = D.l0.ob
  js : ws.map (·.2) = fk.map D.J
  fkl : ∀ j ∈ fk, j < i ∧ (D.ts j).v ≠ .nilFunc
  nd : fk.Nodup
  todo : ∀ j, i ≤ j → j < D.n → (∀ a, (D.ts j).foot a → l.res.cells a = D.l0.res.cells a) ∧ l.res.cells ⟨D.O, j, none⟩ ≠ none
  done : ∀ j, j < i → j ∉ fk → l.res.cells ⟨D.O, j, none⟩ = some (.int .i64 (xs j)) ∧ ((D.ts j).v = .nilFunc → xs j = 1) ∧ ((D.ts j).v ≠ .nilFunc → (D.ts j).post (xs j) l.res.cells)
  rest : ∀ a, (∀ j, j < D.n → ¬ (D.ts j).foot a) → D.l0.res.cells a ≠ none → l.res.cells a = D.l0.res.cells a
  tk : ∀ k, (∀ c, k ≠ .gm c) → l.res.tk k + sumTo i (fun j => (D.ts j).T k) = D.l0.res.tk k + sumTo i (fun j => if j ∈ fk then 0 else (D.ts j).T' k)
  gm : ∀ c, l.res.tk (.gm c) = D.l0.res.tk (.gm c)
  gk : ∀ c, D.gc ≠ some c → l.gk c = D.l0.gk c
  sk : ∀ q, (∀ ch cap, D.l0.pl q ≠ some (ch, cap, false)) → (D.pool = true → q ≠ D.p) → l.sk q = D.l0.sk q
  gate : ∀ c, D.gc = some c → l.gk c = some fk.length ∧ fk.length ≤ l.pk D.p ∧ l.sk D.p ≤ i ∧ (i < D.n → fk.length = i) ∧ i ≤ fk.length + 1
  pk1 : D.pool = true → e0 → D.l0.solo → D.l0.res.tk (.slot D.p) = 0 → (∃ j, j < i ∧ (D.ts j).v ≠ .nilFunc) → 1 ≤ l.pk D.p

section
variable {D : DoPar} {e0 : Prop} {i : Nat} {l l' : Lo} {ws : List (Nat × (Res → Prop))} {hi : Nat} {fk : List Nat} {xs : Nat → Int}

theorem DoAt.grow (h : DoAt D e0 i l ws hi fk xs) (P : DoPre D e0) (hin : i ≤ D.n) (g : Grow l l') : DoAt D e0 i l' ws hi fk xs where
  ext := ⟨by rw [g.md]; exact h.ext.md, by rw [g.df]; exact h.ext.df, fun a v x => g.ro a v (h.ext.ro a v x), by rw [g.pl]; exact h.ext.pl, by rw [g.gl]; exact h.ext.gl, by rw [g.pk]; exact h.ext.pk, by rw [g.cl]; exact h.ext.cl⟩
  roP := g.ro _ _ h.roP
  roO := g.ro _ _ h.roO
  wsu := by rw [g.ws]; exact h.wsu
  hile := h.hile
  wsx := by rw [g.ws]; exact h.wsx
  wk := by rw [g.wk]; exact h.wk
  wg := by rw [g.wg]; exact h.wg
  ob := by rw [g.ob]; exact h.ob
  js := h.js
  fkl := h.fkl
  nd := h.nd
  todo j h1 h2 := by
    obtain ⟨k1, k2⟩ := h.todo j h1 h2
    exact ⟨fun a ha => by rw [g.cell a (by rw [k1 a ha]; exact P.own j h2 a ha)]; exact k1 a ha, by rw [g.cell _ k2]; exact k2⟩
  done j h1 h2 := by
    obtain ⟨k1, k2, k3⟩ := h.done j h1 h2
    refine ⟨by rw [g.cell _ (by rw [k1]; simp)]; exact k1, k2, fun hv => ?_⟩
    refine (P.ok j (by omega)).loc _ _ _ (fun a ha => ?_) (k3 hv)
    rw [g.cell a ((P.ok j (by omega)).own _ _ (k3 hv) a ha)]
  rest a h1 h2 := by rw [g.cell a (by rw [h.rest a h1 h2]; exact h2)]; exact h.rest a h1 h2
  tk := by rw [g.tk]; exact h.tk
  gm := by rw [g.tk]; exact h.gm
  gk := by rw [g.gk]; exact h.gk
  sk := by rw [g.sk]; exact h.sk
  gate := by rw [g.gk, g.pk, g.sk]; exact h.gate
  pk1 := by rw [g.pk]; exact h.pk1

/-- A slot of the answer's row is told. -/
theorem DoAt.told (P : DoPre D e0) (hin : i < D.n) (h : DoAt D e0 i l ws hi fk xs) (hO : ∀ j k, j < D.n → ¬ (D.ts j).foot ⟨D.O, k, none⟩) (hO0 : ∀ k, D.l0.res.cells ⟨D.O, k, none⟩ = none) {l2 : Lo} {x : Int}
    (hk : Kept (D.ts i).foot (D.ts i).T (D.ts i).T' l l2) (hx1 : (D.ts i).v = .nilFunc → x = 1) (hx2 : (D.ts i).v ≠ .nilFunc → (D.ts i).post x l2.res.cells) (hgi : ∀ c, D.gc = some c → i + 1 = D.n)
    (hpk : D.pool = true → e0 → D.l0.solo → D.l0.res.tk (.slot D.p) = 0 → (D.ts i).v ≠ .nilFunc → 1 ≤ l.pk D.p)
    (hsp : ∀ c, D.gc = some c → l2.sk D.p = l.sk D.p) :
    DoAt D e0 (i + 1) (l2.setc ⟨D.O, i, none⟩ (.int .i64 x)) ws hi fk (fun j => if j = i then x else xs j) := by
  have hni : i ∉ fk := fun e => by have := (h.fkl i e).1; omega
  have ho := P.ok i hin
  have hc : ∀ a, ¬ (D.ts i).foot a → a ≠ ⟨D.O, i, none⟩ → l.res.cells a ≠ none → (l2.setc ⟨D.O, i, none⟩ (.int .i64 x)).res.cells a = l.res.cells a := fun a h1 h2 h3 => by
    show (if a = _ then _ else _) = _
    rw [if_neg h2]; exact hk.cell a h1 h3
  exact {
    ext := h.ext.trans (hk.ext.setc _ _)
    roP := hk.ext.ro _ _ h.roP
    roO := hk.ext.ro _ _ h.roO
    wsu := (congrFun hk.ws D.u).trans h.wsu
    hile := Nat.le_succ_of_le h.hile
    wsx := fun y hy => (congrFun hk.ws y).trans (h.wsx y hy)
    wk := hk.wk.trans h.wk
    wg := hk.wg.trans h.wg
    ob := hk.ob.trans h.ob
    js := h.js
    fkl := fun j hj => ⟨by have := (h.fkl j hj).1; omega, (h.fkl j hj).2⟩
    nd := h.nd
    todo := fun j h1 h2 => by
      obtain ⟨k1, k2⟩ := h.todo j (by omega) h2
      refine ⟨fun a ha => ?_, ?_⟩
      · rw [hc a (P.disj j i h2 hin (by omega) a ha) (fun e => hO j i h2 (e ▸ ha)) (by rw [k1 a ha]; exact P.own j h2 a ha)]; exact k1 a ha
      · rw [hc _ (hO i j hin) (fun e => by simp only [Addr.mk.injEq, true_and, and_true] at e; omega) k2]; exact k2
    done := fun j h1 h2 => by
      by_cases e : j = i
      · subst e
        refine ⟨by simp [Lo.setc], fun hv => by rw [if_pos rfl]; exact hx1 hv, fun hv => ?_⟩
        rw [if_pos rfl]
        refine ho.loc _ _ _ (fun a ha => ?_) (hx2 hv)
        show _ = (if a = _ then _ else _)
        rw [if_neg (show ¬ (a = (⟨D.O, j, none⟩ : Addr)) from fun e => hO j j hin (e ▸ ha))]
      · obtain ⟨k1, k2, k3⟩ := h.done j (by omega) h2
        rw [if_neg e]
        refine ⟨?_, k2, fun hv => ?_⟩
        · rw [hc _ (hO i j hin) (fun e' => by simp only [Addr.mk.injEq, true_and, and_true] at e'; omega) (by rw [k1]; simp)]; exact k1
        · refine (P.ok j (by omega)).loc _ _ _ (fun a ha => ?_) (k3 hv)
          rw [hc a (P.disj j i (by omega) hin e a ha) (fun e' : a = _ => hO j i (by omega) (e' ▸ ha)) ((P.ok j (by omega)).own _ _ (k3 hv) a ha)]
    rest := fun a h1 h2 => by
      have := h.rest a h1 h2
      rw [hc a (h1 i hin) (fun e : a = _ => h2 (by rw [e]; exact hO0 i)) (by rw [this]; exact h2)]; exact this
    tk := fun k hk0 => by
      have h1 := h.tk k hk0
      have h2 := hk.tk k
      show l2.res.tk k + sumTo (i + 1) _ = _ + sumTo (i + 1) _
      simp only [sumTo, if_neg hni]
      omega
    gm := fun c => by
      have h1 := h.gm c
      have h2 := hk.tk (.gm c)
      have h3 := ho.gm c
      show l2.res.tk _ = _
      omega
    gk := fun c hcn => by rw [show (l2.setc _ _).gk = l2.gk from rfl, hk.gk]; exact h.gk c hcn
    sk := fun q h1 h2 => by
      show l2.sk q = _
      rw [hk.sk q (by rw [h.ext.pl]; exact h1)]; exact h.sk q h1 h2
    gate := fun c hcg => by
      obtain ⟨g1, g2, g3, g4, g5⟩ := h.gate c hcg
      have := hgi c hcg
      refine ⟨by show l2.gk c = _; rw [hk.gk]; exact g1, Nat.le_trans g2 (hk.ext.pk _), by show l2.sk D.p ≤ _; rw [hsp c hcg]; omega, fun e => by omega, by have := g4 (by omega); omega⟩
    pk1 := fun h1 h2 h3 h4 ⟨j, h5, h6⟩ => by
      refine Nat.le_trans ?_ (hk.ext.pk _)
      by_cases e : j = i
      · exact hpk h1 h2 h3 h4 (e ▸ h6)
      · exact h.pk1 h1 h2 h3 h4 ⟨j, by omega, h6⟩ }

/-- A worker has been sent. -/
theorem DoAt.sent (P : DoPre D e0) (hin : i < D.n) (h : DoAt D e0 i l ws hi fk xs) (hO : ∀ j k, j < D.n → ¬ (D.ts j).foot ⟨D.O, k, none⟩) (hO0 : ∀ k, D.l0.res.cells ⟨D.O, k, none⟩ = none) (hv : (D.ts i).v ≠ .nilFunc) {l4 : Lo} {N : Nat}
    (hext : Ext l l4) (hws : l4.ws = fun y => if y = D.u then some ⟨(N, D.J i) :: ws, hi + 1, 0⟩ else l.ws y) (hwk : l4.wk = l.wk) (hwg : l4.wg = l.wg) (hob : l4.ob = l.ob)
    (hc : ∀ a, ¬ (D.ts i).foot a → a ≠ ⟨D.O, i, none⟩ → l.res.cells a ≠ none → l4.res.cells a = l.res.cells a) (htk : ∀ k, (∀ c, k ≠ .gm c) → l4.res.tk k + (D.ts i).T k = l.res.tk k) (hgm : ∀ c, l4.res.tk (.gm c) = l.res.tk (.gm c))
    (hgk : ∀ c, l4.gk c = if D.gc = some c then some (fk.length + 1) else l.gk c) (hsk : ∀ q, l4.sk q = if q = D.p then l.sk q + 1 else l.sk q) (hpool : D.pool = true) (hpk : 1 ≤ l4.pk D.p) (hpk2 : ∀ c, D.gc = some c → fk.length + 1 ≤ l4.pk D.p) :
    DoAt D e0 (i + 1) l4 ((N, D.J i) :: ws) (hi + 1) (i :: fk) xs := by
  have hni : i ∉ fk := fun e => by have := (h.fkl i e).1; omega
  exact {
    ext := h.ext.trans hext
    roP := hext.ro _ _ h.roP
    roO := hext.ro _ _ h.roO
    wsu := by rw [hws]; simp
    hile := by have := h.hile; omega
    wsx := fun y hy => by rw [hws]; simp only [if_neg hy]; exact h.wsx y hy
    wk := hwk.trans h.wk
    wg := hwg.trans h.wg
    ob := hob.trans h.ob
    js := by simp [h.js]
    fkl := fun j hj => by
      rcases List.mem_cons.1 hj with e | e
      · subst e; exact ⟨by omega, hv⟩
      · exact ⟨by have := (h.fkl j e).1; omega, (h.fkl j e).2⟩
    nd := List.nodup_cons.2 ⟨hni, h.nd⟩
    todo := fun j h1 h2 => by
      obtain ⟨k1, k2⟩ := h.todo j (by omega) h2
      refine ⟨fun a ha => ?_, ?_⟩
      · rw [hc a (P.disj j i h2 hin (by omega) a ha) (fun e => hO j i h2 (e ▸ ha)) (by rw [k1 a ha]; exact P.own j h2 a ha)]; exact k1 a ha
      · rw [hc _ (hO i j hin) (fun e => by simp only [Addr.mk.injEq, true_and, and_true] at e; omega) k2]; exact k2
    done := fun j h1 h2 => by
      have e : j ≠ i := fun e => h2 (e ▸ List.mem_cons_self ..)
      obtain ⟨k1, k2, k3⟩ := h.done j (by omega) (fun e => h2 (List.mem_cons_of_mem _ e))
      refine ⟨?_, k2, fun hv => ?_⟩
      · rw [hc _ (hO i j hin) (fun e' => by simp only [Addr.mk.injEq, true_and, and_true] at e'; omega) (by rw [k1]; simp)]; exact k1
      · refine (P.ok j (by omega)).loc _ _ _ (fun a ha => ?_) (k3 hv)
        rw [hc a (P.disj j i (by omega) hin e a ha) (fun e' : a = _ => hO j i (by omega) (e' ▸ ha)) ((P.ok j (by omega)).own _ _ (k3 hv) a ha)]
    rest := fun a h1 h2 => by
      have := h.rest a h1 h2
      rw [hc a (h1 i hin) (fun e : a = _ => h2 (by rw [e]; exact hO0 i)) (by rw [this]; exact h2)]; exact this
    tk := fun k hk0 => by
      have h1 := h.tk k hk0
      have h2 := htk k hk0
      have e : sumTo i (fun j => if j ∈ i :: fk then 0 else (D.ts j).T' k) = sumTo i (fun j => if j ∈ fk then 0 else (D.ts j).T' k) := sumTo_congr fun j hj => by
        have : j ≠ i := by omega
        simp [this]
      simp only [List.mem_cons] at e
      simp only [sumTo, List.mem_cons, true_or, if_true, e]
      omega
    gm := fun c => by rw [hgm]; exact h.gm c
    gk := fun c hcn => by rw [hgk, if_neg hcn]; exact h.gk c hcn
    sk := fun q h1 h2 => by rw [hsk, if_neg (h2 hpool)]; exact h.sk q h1 h2
    gate := fun c hcg => by
      obtain ⟨g1, g2, g3, g4, g5⟩ := h.gate c hcg
      refine ⟨by rw [hgk, if_pos hcg]; simp, by simp only [List.length_cons]; exact hpk2 c hcg, by rw [hsk, if_pos rfl]; omega, fun e => ?_, ?_⟩
      · have := g4 hin; simp only [List.length_cons]; omega
      · have := g4 hin; simp only [List.length_cons]; omega
    pk1 := fun _ _ _ _ _ => hpk }

/-! What is collected. -/
theorem fold_tk (k : Tk) : ∀ (rs : List Res) (r0 : Res), (rs.foldl Res.add r0).tk k = r0.tk k + (rs.map (fun r => r.tk k)).sum := by
  intro rs
  induction rs with
  | nil => intro r0; simp
  | cons r rs ih => intro r0; simp only [List.foldl_cons, ih, List.map_cons, List.sum_cons]; show r0.tk k + r.tk k + _ = _; omega
theorem fold_old {a : Addr} {v : Value} : ∀ (rs : List Res) (r0 : Res), r0.cells a = some v → (rs.foldl Res.add r0).cells a = some v := by
  intro rs
  induction rs with
  | nil => intro r0 h; exact h
  | cons r rs ih => intro r0 h; exact ih _ (by show (r0.cells a).or _ = _; rw [h]; rfl)
theorem fold_new {a : Addr} {v : Value} {r : Res} (hv : r.cells a = some v) : ∀ (rs : List Res) (r0 : Res), Apart r0 rs → r ∈ rs → (rs.foldl Res.add r0).cells a = some v := by
  intro rs
  induction rs with
  | nil => intro r0 _ h; cases h
  | cons x rs ih =>
    intro r0 hap hm
    rcases List.mem_cons.1 hm with e | e
    · subst e
      refine fold_old rs _ ?_
      have : r0.cells a = none := by
        cases e : r0.cells a with
        | none => rfl
        | some u => have := hap.1 a (by rw [e]; simp); rw [hv] at this; cases this
      show (r0.cells a).or _ = _
      rw [this]; exact hv
    · exact ih _ hap.2 e
theorem met_js {J : Nat → Res → Prop} : ∀ {ws : List (Nat × (Res → Prop))} {rs : List Res}, Met ws rs → ∀ {fk : List Nat}, ws.map (·.2) = fk.map J → ∀ {T : Nat → Nat} {k : Tk}, (∀ j r, J j r → r.tk k = T j) → (rs.map (fun r => r.tk k)).sum = (fk.map T).sum ∧ ∀ j ∈ fk, ∃ r ∈ rs, J j r := by
  intro ws rs hm
  induction hm with
  | nil =>
    intro fk h T k hT
    cases fk with
    | nil => exact ⟨rfl, fun j hj => by cases hj⟩
    | cons x xs => cases h
  | cons hJ _ ih =>
    intro fk h T k hT
    cases fk with
    | nil => cases h
    | cons x xs =>
      simp only [List.map_cons, List.cons.injEq] at h
      obtain ⟨h1, h2⟩ := h
      obtain ⟨k1, k2⟩ := ih h2 hT
      rw [h1] at hJ
      refine ⟨by simp only [List.map_cons, List.sum_cons, k1, hT _ _ hJ], fun j hj => ?_⟩
      rcases List.mem_cons.1 hj with e | e
      · exact ⟨_, List.mem_cons_self .., e ▸ hJ⟩
      · obtain ⟨r, r1, r2⟩ := k2 j e
        exact ⟨r, List.mem_cons_of_mem _ r1, r2⟩

/-- What a call of Do leaves. -/
structure DoPost (D : DoPar) (e0 : Prop) (xs : Nat → Int) (l' : Lo) : Prop where
  out : ∀ j, j < D.n → l'.res.cells ⟨D.O, j, none⟩ = some (.int .i64 (xs j)) ∧ ((D.ts j).v = .nilFunc → xs j = 1) ∧ ((D.ts j).v ≠ .nilFunc → (D.ts j).post (xs j) l'.res.cells)
  ext : Ext D.l0 l'
  ws : l'.ws = D.l0.ws
  wk : l'.wk = D.l0.wk
  wg : l'.wg = D.l0.wg
  ob : l'.ob = D.l0.ob
  rest : ∀ a, (∀ j, j < D.n → ¬ (D.ts j).foot a) → D.l0.res.cells a ≠ none → l'.res.cells a = D.l0.res.cells a
  tk : ∀ k, (∀ c, k ≠ .gm c) → l'.res.tk k + sumTo D.n (fun j => (D.ts j).T k) = D.l0.res.tk k + sumTo D.n (fun j => (D.ts j).T' k)
  gm : ∀ c, D.gc ≠ some c → l'.res.tk (.gm c) = D.l0.res.tk (.gm c)
  gk : ∀ c, D.gc ≠ some c → l'.gk c = D.l0.gk c
  sk : ∀ q, (∀ ch cap, D.l0.pl q ≠ some (ch, cap, false)) → (D.pool = true → q ≠ D.p) → l'.sk q = D.l0.sk q
  gate : ∀ c, D.gc = some c → D.n ≤ l'.pk D.p + 1
  pk1 : D.pool = true → e0 → D.l0.solo → D.l0.res.tk (.slot D.p) = 0 → (∃ j, j < D.n ∧ (D.ts j).v ≠ .nilFunc) → 1 ≤ l'.pk D.p

theorem DoAt.over (P : DoPre D e0) (h : DoAt D e0 D.n l ws hi fk xs) (hu : D.l0.ws D.u = none) {rs : List Res} {jn' : Nat → Prop} (hm : Met ws rs) (ha : Apart l.res rs) :
    ∃ xs', DoPost D e0 xs' { l with res := rs.foldl Res.add l.res, jn := jn', ws := fun x => if x = D.u then none else l.ws x } := by
  have hJ : ∀ j ∈ fk, ∃ r ∈ rs, D.J j r := by
    have := met_js hm h.js (T := fun j => (D.ts j).T' (.tr 0)) (k := .tr 0) (fun j r hr => hr.choose_spec.2.2 _ (by simp))
    exact this.2
  classical
  have hx : ∃ xs' : Nat → Int, (∀ j, j ∉ fk → xs' j = xs j) ∧ ∀ j ∈ fk, ∃ r ∈ rs, r.cells ⟨D.O, j, none⟩ = some (.int .i64 (xs' j)) ∧ (D.ts j).post (xs' j) r.cells := by
    refine ⟨fun j => if hj : j ∈ fk then (hJ j hj).choose_spec.2.choose else xs j, fun j hj => by simp [hj], fun j hj => ?_⟩
    refine ⟨(hJ j hj).choose, (hJ j hj).choose_spec.1, ?_⟩
    simp only [dif_pos hj]
    exact ⟨(hJ j hj).choose_spec.2.choose_spec.1, (hJ j hj).choose_spec.2.choose_spec.2.1⟩
  obtain ⟨xs', hx1, hx2⟩ := hx
  have hold : ∀ a, l.res.cells a ≠ none → (rs.foldl Res.add l.res).cells a = l.res.cells a := fun a hne => by
    obtain ⟨v, hv⟩ := Option.ne_none_iff_exists'.1 hne
    rw [hv]; exact fold_old rs _ hv
  refine ⟨xs', ?_⟩
  exact {
    out := fun j hj => by
      by_cases e : j ∈ fk
      · obtain ⟨r, hr, h1, h2⟩ := hx2 j e
        refine ⟨fold_new h1 rs _ ha hr, fun hv => absurd hv (h.fkl j e).2, fun hv => ?_⟩
        refine (P.ok j hj).loc _ _ _ (fun a hfa => ?_) h2
        obtain ⟨v, hv'⟩ := Option.ne_none_iff_exists'.1 ((P.ok j hj).own _ _ h2 a hfa)
        rw [hv']; exact (fold_new hv' rs _ ha hr).symm
      · obtain ⟨k1, k2, k3⟩ := h.done j hj e
        rw [hx1 j e]
        refine ⟨fold_old rs _ k1, k2, fun hv => ?_⟩
        refine (P.ok j hj).loc _ _ _ (fun a hfa => ?_) (k3 hv)
        exact (hold a ((P.ok j hj).own _ _ (k3 hv) a hfa)).symm
    ext := ⟨h.ext.md, h.ext.df, h.ext.ro, h.ext.pl, h.ext.gl, h.ext.pk, h.ext.cl⟩
    ws := by
      funext x
      by_cases e : x = D.u
      · simp only [e, if_true]; exact hu.symm
      · simp only [if_neg e]; exact h.wsx x e
    wk := h.wk
    wg := h.wg
    ob := h.ob
    rest := fun a h1 h2 => by
      have := h.rest a h1 h2
      rw [← this]; exact hold a (by rw [this]; exact h2)
    tk := fun k hk => by
      have h1 := h.tk k hk
      have h2 := (met_js hm h.js (T := fun j => (D.ts j).T' k) (k := k) (fun j r hr => hr.choose_spec.2.2 _ fun c _ => hk c)).1
      have h3 := sum_apart D.n (fun j => (D.ts j).T' k) fk h.nd fun j hj => (h.fkl j hj).1
      show (rs.foldl Res.add l.res).tk k + _ = _
      rw [fold_tk, h2]
      omega
    gm := fun c hc => by
      have h2 := (met_js hm h.js (T := fun j => (D.ts j).T' (.gm c)) (k := .gm c) (fun j r hr => hr.choose_spec.2.2 _ fun c' h1 h2 => hc (by rw [h1]; simpa using h2.symm))).1
      have h3 : (fk.map (fun j => (D.ts j).T' (.gm c))).sum = 0 := by
        have : ∀ (xs : List Nat), (∀ j ∈ xs, j < D.n) → (xs.map (fun j => (D.ts j).T' (.gm c))).sum = 0 := by
          intro xs
          induction xs with
          | nil => intro _; rfl
          | cons x xs ih => intro hx; simp only [List.map_cons, List.sum_cons, ih fun j hj => hx j (List.mem_cons_of_mem _ hj), ((P.ok x (hx x (List.mem_cons_self ..))).gm c).2]
        exact this fk fun j hj => (h.fkl j hj).1
      show (rs.foldl Res.add l.res).tk (.gm c) = _
      rw [fold_tk, h2, h3]
      exact h.gm c
    gk := h.gk
    sk := h.sk
    gate := fun c hc => by
      obtain ⟨_, g2, _, _, g5⟩ := h.gate c hc
      show D.n ≤ l.pk D.p + 1
      omega
    pk1 := h.pk1 }
end
end Go.Proofs.Ytofohjbcgchhoaa

/-
  THE WALK: works.
-/
import Derived.Test.YtofohjbcgchhoaaH2
namespace Go.Proofs.Ytofohjbcgchhoaa
open Go.Conc
open Go.RowKit
open Go.ConcN (sumTo sumTo_congr le_sumTo)
set_option maxRecDepth 100000
set_option linter.unusedSimpArgs false
set_option linter.unusedVariables false

/-- How goroutine 0 stands between two calls. -/
structure Calm (l : Lo) : Prop where
  md : l.md = .act
  df : l.df = 0
  solo : l.solo
  tr : ∀ c, l.res.tk (.tr c) = 0
  gm : ∀ c, l.cl c ∨ l.res.tk (.gm c) = 0
  slot0 : ∀ q, l.res.tk (.slot q) = 0 ∧ l.res.tk (.alive q) = 0
  sk : ∀ q, l.pl q = none → l.sk q = 0
theorem Calm.slots {l : Lo} (h : Calm l) (q : Nat) : l.res.tk (.alive q) ≤ l.res.tk (.slot q) := by rw [(h.slot0 q).2]; exact Nat.zero_le _
/-- What stays known. -/
structure Later (l l' : Lo) : Prop where
  ro : ∀ a v, l.ro a v → l'.ro a v
  pl : ∀ q x, l.pl q = some x → l'.pl q = some x
  cell : ∀ a, l.res.cells a ≠ none → l'.res.cells a = l.res.cells a
theorem Later.refl (l : Lo) : Later l l := ⟨fun _ _ h => h, fun _ _ h => h, fun _ _ => rfl⟩
theorem Later.trans {l l' l'' : Lo} (h : Later l l') (k : Later l' l'') : Later l l'' :=
  ⟨fun a v x => k.ro a v (h.ro a v x), fun q x e => k.pl q x (h.pl q x e), fun a ha => by rw [k.cell a (by rw [h.cell a ha]; exact ha), h.cell a ha]⟩
theorem Later.grow {l l' : Lo} (g : Grow l l') : Later l l' := ⟨g.ro, fun q x e => by rw [g.pl]; exact e, g.cell⟩
theorem Calm.grow {l l' : Lo} (h : Calm l) (g : Grow l l') : Calm l' where
  md := g.md.trans h.md
  df := g.df.trans h.df
  solo := fun u B hB => h.solo u B (by rw [← g.ws]; exact hB)
  tr := fun c => by rw [g.tk]; exact h.tr c
  gm := fun c => by rw [g.cl, g.tk]; exact h.gm c
  slot0 := fun q => by rw [g.tk]; exact h.slot0 q
  sk := fun q hq => by rw [g.sk]; exact h.sk q (by rw [← g.pl]; exact hq)
theorem Calm.new {l : Lo} (h : Calm l) {ch p cap : Nat} (so : Bool) (hch : Fresh l ch) (hp : Fresh (l.opc ch cap) p) : Calm ((l.opc ch cap).opp p ch cap so) where
  md := h.md
  df := h.df
  solo := h.solo
  tr := h.tr
  gm := h.gm
  slot0 := h.slot0
  sk := fun q hq => h.sk q (by
    have hq : (if q = p then _ else l.pl q) = none := hq
    by_cases e : q = p
    · rw [if_pos e] at hq; cases hq
    · rw [if_neg e] at hq; exact hq)
theorem Later.new {l : Lo} {ch p cap : Nat} (so : Bool) (hp : Fresh (l.opc ch cap) p) : Later l ((l.opc ch cap).opp p ch cap so) where
  ro := fun a v x => .inl x
  pl := fun q x e => by
    show (if q = p then _ else l.pl q) = _
    rw [if_neg (fun h => by have := hp.pl; rw [← h] at this; rw [show (l.opc ch cap).pl q = l.pl q from rfl, e] at this; cases this)]
    exact e
  cell := fun _ _ => rfl
/-- Behind a call of Do by goroutine 0. -/
theorem Calm.did {D : DoPar} {e0 : Prop} (P : DoPre D e0) {xs : Nat → Int} {l' : Lo} (h : Calm D.l0) (k : DoPost D e0 xs l') (hg : D.gc = none) : Calm l' where
  md := k.ext.md
  df := k.ext.df
  solo := fun u B hB => h.solo u B (by rw [← k.ws]; exact hB)
  tr := fun c => by
    have h1 := k.tk (.tr c) (by simp)
    have h2 := h.tr c
    have h3 : sumTo D.n (fun j => (D.ts j).T' (.tr c)) = 0 := sumTo_zero fun j hj => (P.ok j hj).tr c
    omega
  gm := fun c => by
    rcases h.gm c with e | e
    · exact .inl (k.ext.cl c e)
    · exact .inr ((k.gm c (by rw [hg]; simp)).trans e)
  slot0 := fun q => by
    have h1 := k.tk (.alive q) (by simp)
    have h2 := k.tk (.slot q) (by simp)
    have z1 : sumTo D.n (fun j => (D.ts j).T (.alive q)) = 0 := sumTo_zero fun j hj => ((P.ok j hj).alive q).1
    have z2 : sumTo D.n (fun j => (D.ts j).T (.slot q)) = 0 := sumTo_zero fun j hj => ((P.ok j hj).slot q).1
    have z3 : sumTo D.n (fun j => (D.ts j).T' (.alive q)) = 0 := sumTo_zero fun j hj => ((P.ok j hj).alive q).2
    have z4 : sumTo D.n (fun j => (D.ts j).T' (.slot q)) = 0 := sumTo_zero fun j hj => ((P.ok j hj).slot q).2
    have := h.slot0 q
    omega
  sk := fun q hq => by
    rw [k.ext.pl] at hq
    rw [k.sk q (fun ch cap e => by rw [hq] at e; cases e) (fun hp e => by rw [e, (P.isp hp).1] at hq; cases hq)]
    exact h.sk q hq
theorem Later.did {D : DoPar} {e0 : Prop} (P : DoPre D e0) {xs : Nat → Int} {l' : Lo} (k : DoPost D e0 xs l') (l : Lo) (h : Later l D.l0) (hn : ∀ a, l.res.cells a ≠ none → ∀ j, j < D.n → ¬ (D.ts j).foot a) : Later l l' where
  ro := fun a v x => k.ext.ro a v (h.ro a v x)
  pl := fun q x e => by rw [k.ext.pl]; exact h.pl q x e
  cell := fun a ha => by
    have h1 := h.cell a ha
    rw [k.rest a (hn a ha) (by rw [h1]; exact ha), h1]


/-- A task that answers a number, or a nil one. -/
def tkOf (pool : Option Nat) : Option (Nat × Int) → Task
  | some (b, x) => ansTask b x pool
  | none => ⟨.nilFunc, fun _ => False, fun _ => 0, fun _ => 0, fun _ _ => True⟩
def valOf : Option (Nat × Int) → Int
  | some (_, x) => x
  | none => 1
def numOf (pool : Option Nat) (bs : Nat → Option (Nat × Int)) (n : Nat) (p : Nat) : Nat := sumTo n fun j => (tkOf pool (bs j)).T' (.begun p)

theorem ans_pre {D : DoPar} {bs : Nat → Option (Nat × Int)} {pool : Option Nat} {A0 : Nat} (e0 : Prop) (hA0 : D.A = ⟨A0, 0, none⟩) (hts : D.ts = fun j => tkOf pool (bs j)) (hpos : 1 ≤ D.n) (hC : Calm D.l0) (hA : ∀ j, j < D.n → D.l0.res.cells (D.A.add j) = some (tkOf pool (bs j)).v) (hb : ∀ j b x, j < D.n → bs j = some (b, x) → D.l0.res.cells ⟨b, 0, none⟩ = some (.int .i64 x) ∧ b ≠ A0)
    (hd : ∀ i j b x c y, i < D.n → j < D.n → i ≠ j → bs i = some (b, x) → bs j = some (c, y) → b ≠ c) (hg : D.gc = none) (hso : D.so = false) (hp : D.pool = true → D.l0.pl D.p = some (D.ch, D.cap, D.so) ∧ D.l0.ro ⟨D.p, 0, none⟩ (.chan (some D.ch)) ∧ 1 ≤ D.cap) : DoPre D e0 := by
  have hT : ∀ j k, (D.ts j).T k = 0 := fun j k => by
    rw [hts]
    simp only
    cases bs j with
    | none => rfl
    | some q => rfl
  have hz : ∀ n k, sumTo n (fun j => (D.ts j).T k) = 0 := fun n k => sumTo_zero fun j _ => hT j k
  exact {
    pos := hpos
    act := hC.md
    df := hC.df
    cellA := fun j hj => by
      refine ⟨by rw [hts]; exact hA j hj, fun i hi hf => ?_⟩
      rw [hts] at hf
      simp only at hf
      cases e : bs i with
      | none => rw [e] at hf; exact hf
      | some q =>
        obtain ⟨b, x⟩ := q
        rw [e] at hf
        have hf : D.A.add j = ⟨b, 0, none⟩ := hf
        have := (hb i b x hi e).2
        rw [hA0, Addr.add_lit] at hf
        exact this (congrArg Addr.block hf).symm
    ok := fun j _ => by
      rw [hts]
      simp only
      cases bs j with
      | none => exact ⟨fun _ _ _ _ h => h, fun _ _ _ a ha => ha.elim, fun _ => ⟨rfl, rfl⟩, fun _ => ⟨rfl, rfl⟩, fun _ => ⟨rfl, rfl⟩, fun _ => rfl⟩
      | some q => exact ansOk _ _ _
    nil := fun j _ hv => by
      rw [hts] at hv ⊢
      simp only at hv ⊢
      cases e : bs j with
      | none => exact ⟨fun _ h => h, fun _ => ⟨rfl, rfl⟩⟩
      | some q => rw [e] at hv; cases hv
    own := fun j hj a ha => by
      rw [hts] at ha
      simp only at ha
      cases e : bs j with
      | none => rw [e] at ha; exact ha.elim
      | some q =>
        obtain ⟨b, x⟩ := q
        rw [e] at ha
        have ha : a = ⟨b, 0, none⟩ := ha
        rw [ha, (hb j b x hj e).1]
        simp
    disj := fun i j hi hj hne a h1 h2 => by
      rw [hts] at h1 h2
      simp only at h1 h2
      cases e : bs i with
      | none => rw [e] at h1; exact h1
      | some q =>
        cases e' : bs j with
        | none => rw [e'] at h2; exact h2
        | some q' =>
          obtain ⟨b, x⟩ := q
          obtain ⟨c, y⟩ := q'
          rw [e] at h1
          rw [e'] at h2
          have h1 : a = ⟨b, 0, none⟩ := h1
          have h2 : a = ⟨c, 0, none⟩ := h2
          rw [h1] at h2
          exact hd i j b x c y hi hj hne e e' (congrArg Addr.block h2)
    slots := hC.slots
    gm := hC.gm
    tr := fun c => by rw [hz]; exact hC.tr c
    T := fun k => by rw [hz]; exact Nat.zero_le _
    nop := fun _ => hg
    isp := hp
    free := fun _ => ⟨hso, fun j _ c => hT j _⟩
    gate := fun c hc => by rw [hg] at hc; cases hc }

/-- A call of Do by goroutine 0, of tasks that answer numbers. -/
theorem do_ans (n : Nat) : ∃ N, ∀ (E : En) (l : Lo) (A c : Nat) (bs : Nat → Option (Nat × Int)) (pool : Option (Nat × Nat × Nat)), 1 ≤ n → n ≤ 1048576 → Calm l → (∀ j, j < n → l.res.cells ⟨A, j, none⟩ = some (tkOf (pool.map (·.1)) (bs j)).v) → (∀ j b x, j < n → bs j = some (b, x) → l.res.cells ⟨b, 0, none⟩ = some (.int .i64 x) ∧ b ≠ A) →
    (∀ i j b x c y, i < n → j < n → i ≠ j → bs i = some (b, x) → bs j = some (c, y) → b ≠ c) → (∀ p ch cap, pool = some (p, ch, cap) → l.pl p = some (ch, cap, false) ∧ l.ro ⟨p, 0, none⟩ (.chan (some ch)) ∧ 1 ≤ cap) →
    E.N 11 #[.pointer (pool.map fun q => ⟨q.1, 0, none⟩), .slice (some ⟨A, 0, none⟩) n c] N l fun v l' => ∃ O, v = .slice (some ⟨O, 0, none⟩) n n ∧ (∀ j, j < n → l'.res.cells ⟨O, j, none⟩ = some (.int .i64 (valOf (bs j)))) ∧ Calm l' ∧ Later l l' ∧
      (∀ p, l'.res.tk (.alive p) = l.res.tk (.alive p)) ∧ ∀ p, l'.res.tk (.begun p) = l.res.tk (.begun p) + numOf (pool.map (·.1)) bs n p := by
  obtain ⟨n1, h1⟩ := ans_pool
  obtain ⟨n2, h2⟩ := ans_nil
  obtain ⟨N, h11⟩ := do11 n (n1 + n2)
  refine ⟨N, fun E l A c bs pool hpos hn hC hA hb hd hp => ?_⟩
  obtain ⟨D, hD⟩ : ∃ D : DoPar, D = { n := n, ts := fun j => tkOf (pool.map (·.1)) (bs j), A := ⟨A, 0, none⟩, l0 := l, pool := pool.isSome, p := (pool.map (·.1)).getD 0, ch := (pool.map (·.2.1)).getD 0, cap := (pool.map (·.2.2)).getD 0, so := false, gc := none, O := 0, u := 0, bp := 0, bo := 0 } := ⟨_, rfl⟩
  have hpa : D.pa = pool.map fun q => ⟨q.1, 0, none⟩ := by
    rw [hD]
    unfold DoPar.pa
    cases pool with
    | none => rfl
    | some q => rfl
  have P : DoPre D (E.i = 0) := by
    refine ans_pre (bs := bs) (pool := pool.map (·.1)) (A0 := A) _ (by rw [hD]) (by rw [hD]) (by rw [hD]; exact hpos) (by rw [hD]; exact hC) (fun j hj => ?_) (fun j b x hj e => ?_) (fun i j b x c y hi hj => ?_) (by rw [hD]) (by rw [hD]) (fun hpp => ?_)
    · rw [hD] at hj ⊢
      rw [Addr.add_lit, Nat.zero_add]
      exact hA j hj
    · rw [hD] at hj ⊢
      exact hb j b x hj e
    · rw [hD] at hi hj
      exact hd i j b x c y hi hj
    · rw [hD] at hpp ⊢
      cases e : pool with
      | none => rw [e] at hpp; cases hpp
      | some q => exact hp q.1 q.2.1 q.2.2 e
  have hrun : ∀ j, j < n → (D.ts j).v = .nilFunc ∨ ((∃ f first capv, (D.ts j).v = .func (.func f) first capv) ∧ RunOk D.l0 D.pv (n1 + n2) D.gc (D.ts j)) := fun j hj => by
    unfold DoPar.pv
    rw [hpa, hD]
    simp only
    cases e : bs j with
    | none => exact .inl rfl
    | some q =>
      obtain ⟨b, x⟩ := q
      refine .inr ⟨⟨35, #[], #[.pointer (some ⟨b, 0, none⟩)], rfl⟩, ?_⟩
      cases e' : pool with
      | none =>
        intro E' l' a1 a2 a3 a4 a5 a6 a7
        exact En.N.more (h2 l b x (hb j b x hj e).1 E' l' a1 a2 a3 a4 a5 a6 a7) (by omega)
      | some q =>
        intro E' l' a1 a2 a3 a4 a5 a6 a7
        exact En.N.more (h1 l q.1 q.2.1 q.2.2 false b x (hp q.1 q.2.1 q.2.2 e').1 (hb j b x hj e).1 E' l' a1 a2 a3 a4 a5 a6 a7) (by omega)
  have hrun' : ∀ j, j < n → (D.ts j).v = .nilFunc ∨ ((∃ f first capv, (D.ts j).v = .func f first capv) ∧ RunOk D.l0 D.pv (n1 + n2) D.gc (D.ts j)) := fun j hj => (hrun j hj).imp id fun ⟨⟨f, x, y, e⟩, h⟩ => ⟨⟨_, _, _, e⟩, h⟩
  have key := h11 E D c (by rw [hD]) hn P hrun'
  unfold DoPar.pv at key
  rw [hpa] at key
  have eA : D.A = ⟨A, 0, none⟩ := by rw [hD]
  have el : D.l0 = l := by rw [hD]
  have eg : D.gc = none := by rw [hD]
  have en : D.n = n := by rw [hD]
  have et : D.ts = fun j => tkOf (pool.map (·.1)) (bs j) := by rw [hD]
  clear hD
  subst el
  rw [← eA]
  refine key.mono fun v l' hp => ?_
  obtain ⟨O, u, bp, bo, xs, rfl, hO, K⟩ := hp
  have hout : ∀ j, j < n → l'.res.cells ⟨O, j, none⟩ = some (.int .i64 (valOf (bs j))) ∧ ∀ b x, bs j = some (b, x) → l'.res.cells ⟨b, 0, none⟩ = some (.int .i64 x) := fun j hj => by
    have h := K.out j (by rw [← en] at hj; exact hj)
    simp only [et] at h
    cases e : bs j with
    | none =>
      rw [e] at h
      refine ⟨?_, fun b x h => by cases h⟩
      rw [h.1, h.2.1 rfl]; rfl
    | some q =>
      obtain ⟨b, x⟩ := q
      rw [e] at h
      have h3 := h.2.2 (by simp [tkOf, ansTask])
      have h3 : xs j = x ∧ l'.res.cells ⟨b, 0, none⟩ = some (.int .i64 x) := h3
      refine ⟨by rw [h.1, h3.1]; rfl, fun b' x' h => by cases h; exact h3.2⟩
  refine ⟨O, rfl, fun j hj => (hout j hj).1, ?_, ?_, fun p => ?_, fun p => ?_⟩
  · exact Calm.did (P.put O u bp bo) hC K eg
  · refine ⟨fun a v x => K.ext.ro a v x, fun q x e => by rw [K.ext.pl]; exact e, fun a ha => ?_⟩
    by_cases hf : ∃ j b x, j < n ∧ bs j = some (b, x) ∧ a = ⟨b, 0, none⟩
    · obtain ⟨j, b, x, hj, e, rfl⟩ := hf
      rw [(hout j hj).2 b x e, (hb j b x hj e).1]
    · refine K.rest a (fun j hj hfoot => ?_) ha
      have hj : j < n := by rw [← en]; exact hj
      simp only [et] at hfoot
      cases e : bs j with
      | none => rw [e] at hfoot; exact hfoot
      | some q =>
        obtain ⟨b, x⟩ := q
        rw [e] at hfoot
        exact hf ⟨j, b, x, hj, e, hfoot⟩
  · have t1 := K.tk (.alive p) (by simp)
    have z2 := sumTo_zero (N := D.n) (f := fun j => (D.ts j).T (.alive p)) fun j hj => ((P.ok j hj).alive p).1
    have z4 := sumTo_zero (N := D.n) (f := fun j => (D.ts j).T' (.alive p)) fun j hj => ((P.ok j hj).alive p).2
    simp only at t1
    rw [z2, z4] at t1
    exact t1
  · have t1 := K.tk (.begun p) (by simp)
    have z2 : sumTo D.n (fun j => (D.ts j).T (.begun p)) = 0 := sumTo_zero fun j _ => by
      simp only [et]
      cases bs j with
      | none => rfl
      | some q => rfl
    simp only at t1
    rw [z2] at t1
    unfold numOf
    simp only [et, en] at t1
    exact t1

set_option maxHeartbeats 8000000 in
theorem works6 : ∃ n, ∀ (E : En) (l : Lo) (Post : Value → Lo → Prop), E.i = 0 → Calm l → (∀ l', Calm l' → Later l l' → Post (.bool true) l') → E.N 6 #[] n l Post := by
  obtain ⟨n8, h8⟩ := new8
  obtain ⟨n17, h17⟩ := workers17
  obtain ⟨n20, h20⟩ := answers20
  obtain ⟨n11, h11⟩ := do_ans 3
  obtain ⟨n13, h13⟩ := equal13 3
  obtain ⟨n15, h15⟩ := begun15
  obtain ⟨n14, h14⟩ := alive14
  refine ⟨_, fun E l Post h0 hC h => n_of_b (b_of (e := n8 + n17 + n20 + n11 + n13 + n15 + n14 + 2) (L := 0) Try.func6 (by rfl) rfl ?_)⟩
  have hact := hC.md
  simp only [act0, Try.ntmps6, List.size_toArray, List.length_cons, List.length_nil, Nat.reduceAdd, Nat.reduceSub, Array.replicate_succ, Array.replicate_zero, List.push_toArray, List.append_toArray, List.nil_append, List.cons_append]
  repeat (first
    | (refine c_seq ?_)
    | (refine c_region ?_
       simp only [List.size_toArray, List.length_cons, List.length_nil, Nat.reduceAdd, Nat.zero_add, List.range, List.range.loop])
    | (refine o_nil ?_
       simp only [Thn, Inb, if_true, if_false, reduceIte, Nat.reduceEqDiff])
    | (refine c_skip ?_
       simp only [Thn, Inb, if_true, if_false, reduceIte, Nat.reduceEqDiff])
    | (refine c_cond true (by rfl) (fun _ => ?_) (fun e => by cases e))
    | (refine c_cond false (by rfl) (fun e => by cases e) (fun _ => ?_))
    | (refine c_block ?_)
    | (refine c_label ?_
       simp only [Thn, Inb, if_true, if_false, reduceIte, Nat.reduceEqDiff])
    | (refine c_scope ?_)
    | (refine o_cons (u_read (by omega) hact rfl (by rfl) fun w hF K' hK' => ?_)
       go_simp
       refine hK' _ ⟨?_, ?_⟩
       focus
         rw [listed_nil]
         · simp
         · (simp [go_sem]; done)
       clear hK' K' hF w
       try walk_nrm)
    | (refine o_cons (u_unwanted (by omega) rfl (by rfl) ?_)
       try walk_nrm))
  refine o_cons (u_callx (n := n8) #[.int .i64 3] (by omega) rfl (by rfl) rfl (by walk_nrm) ?_)
  refine h8 E 3 false l _ hact fun ch p hch hp => ?_
  obtain ⟨l1, hl1⟩ : ∃ l1, l1 = (l.opc ch (capOf 3)).opp p ch (capOf 3) false := ⟨_, rfl⟩
  have hC1 : Calm l1 := by rw [hl1]; exact hC.new false hch hp
  have hL1 : Later l l1 := by rw [hl1]; exact Later.new false hp
  have hpl1 : l1.pl p = some (ch, 3, false) := by rw [hl1]; show (if p = p then _ else _) = _; rw [if_pos rfl]; rfl
  have hro1 : l1.ro ⟨p, 0, none⟩ (.chan (some ch)) := by rw [hl1]; exact .inr ⟨rfl, rfl⟩
  have tk1 : l1.res.tk (.alive p) = 0 ∧ l1.res.tk (.begun p) = 0 := by rw [hl1]; exact ⟨hp.tk.2.1, hp.tk.2.2.1⟩
  rw [← hl1]
  have hact1 := hC1.md
  try walk_nrm
  repeat (first
    | (refine c_seq ?_)
    | (refine c_region ?_
       simp only [List.size_toArray, List.length_cons, List.length_nil, Nat.reduceAdd, Nat.zero_add, List.range, List.range.loop])
    | (refine o_nil ?_
       simp only [Thn, Inb, if_true, if_false, reduceIte, Nat.reduceEqDiff])
    | (refine c_skip ?_
       simp only [Thn, Inb, if_true, if_false, reduceIte, Nat.reduceEqDiff])
    | (refine c_cond true (by rfl) (fun _ => ?_) (fun e => by cases e))
    | (refine c_cond false (by rfl) (fun e => by cases e) (fun _ => ?_))
    | (refine c_block ?_)
    | (refine c_label ?_
       simp only [Thn, Inb, if_true, if_false, reduceIte, Nat.reduceEqDiff])
    | (refine c_scope ?_)
    | (refine o_cons (u_read (by omega) hact1 rfl (by rfl) fun w hF K' hK' => ?_)
       go_simp
       refine hK' _ ⟨?_, ?_⟩
       focus
         rw [listed_nil]
         · simp
         · (simp [go_sem]; done)
       clear hK' K' hF w
       try walk_nrm)
    | (refine o_cons (u_unwanted (by omega) rfl (by rfl) ?_)
       try walk_nrm))
  refine o_cons (u_callx (n := n17) #[.pointer (some ⟨p, 0, none⟩)] (by omega) rfl (by rfl) rfl (by walk_nrm) ?_)
  refine h17 E p ch 3 false l1 _ hact1 hpl1 hro1 ?_
  try walk_nrm
  repeat (first
    | (refine c_seq ?_)
    | (refine c_region ?_
       simp only [List.size_toArray, List.length_cons, List.length_nil, Nat.reduceAdd, Nat.zero_add, List.range, List.range.loop])
    | (refine o_nil ?_
       simp only [Thn, Inb, if_true, if_false, reduceIte, Nat.reduceEqDiff])
    | (refine c_skip ?_
       simp only [Thn, Inb, if_true, if_false, reduceIte, Nat.reduceEqDiff])
    | (refine c_cond true (by rfl) (fun _ => ?_) (fun e => by cases e))
    | (refine c_cond false (by rfl) (fun e => by cases e) (fun _ => ?_))
    | (refine c_block ?_)
    | (refine c_label ?_
       simp only [Thn, Inb, if_true, if_false, reduceIte, Nat.reduceEqDiff])
    | (refine c_scope ?_)
    | (refine o_cons (u_read (by omega) hact1 rfl (by rfl) fun w hF K' hK' => ?_)
       go_simp
       refine hK' _ ⟨?_, ?_⟩
       focus
         rw [listed_nil]
         · simp
         · (simp [go_sem]; done)
       clear hK' K' hF w
       try walk_nrm)
    | (refine o_cons (u_unwanted (by omega) rfl (by rfl) ?_)
       try walk_nrm))
  refine o_cons (u_callx (n := n20) #[.int .i64 0] (by omega) rfl (by rfl) rfl (by walk_nrm) ?_)
  refine h20 E 0 l1 _ hact1 fun b0 hb0 => ?_
  obtain ⟨l2, hl2⟩ : ∃ l2, l2 = l1.addc b0 #[.int .i64 0] := ⟨_, rfl⟩
  have g2 : Grow l1 l2 := by rw [hl2]; exact (Grow.refl _).addc hb0 _
  rw [← hl2]
  have hact2 : l2.md = .act := g2.md.trans hact1
  have cb0 : l2.res.cells ⟨b0, 0, none⟩ = some (.int .i64 0) := by rw [hl2, addc_new]; rfl
  try walk_nrm
  refine o_cons (u_callx (n := n20) #[.int .i64 5] (by omega) rfl (by rfl) rfl (by walk_nrm) ?_)
  refine h20 E 5 l2 _ hact2 fun b1 hb1 => ?_
  obtain ⟨l3, hl3⟩ : ∃ l3, l3 = l2.addc b1 #[.int .i64 5] := ⟨_, rfl⟩
  have g3' : Grow l2 l3 := by rw [hl3]; exact (Grow.refl _).addc hb1 _
  have g3 : Grow l1 l3 := by rw [hl3]; exact g2.addc hb1 _
  rw [← hl3]
  have hact3 : l3.md = .act := g3.md.trans hact1
  have cb1 : l3.res.cells ⟨b1, 0, none⟩ = some (.int .i64 5) := by rw [hl3, addc_new]; rfl
  try walk_nrm
  refine o_cons (u_callx (n := n20) #[.int .i64 0] (by omega) rfl (by rfl) rfl (by walk_nrm) ?_)
  refine h20 E 0 l3 _ hact3 fun b2 hb2 => ?_
  obtain ⟨l4, hl4⟩ : ∃ l4, l4 = l3.addc b2 #[.int .i64 0] := ⟨_, rfl⟩
  have g4' : Grow l3 l4 := by rw [hl4]; exact (Grow.refl _).addc hb2 _
  have g4 : Grow l1 l4 := by rw [hl4]; exact g3.addc hb2 _
  rw [← hl4]
  have hact4 : l4.md = .act := g4.md.trans hact1
  have cb2 : l4.res.cells ⟨b2, 0, none⟩ = some (.int .i64 0) := by rw [hl4, addc_new]; rfl
  try walk_nrm
  refine o_cons (u_new (by omega) hact4 rfl (by rfl) (.cells #[.func (.func 35) #[] #[.pointer (some ⟨b0, 0, none⟩)], .func (.func 35) #[] #[.pointer (some ⟨b1, 0, none⟩)], .func (.func 35) #[] #[.pointer (some ⟨b2, 0, none⟩)]] 34) (fun r => .slice (some ⟨r, 0, none⟩) 3 3) (fun r => l4.addc r #[.func (.func 35) #[] #[.pointer (some ⟨b0, 0, none⟩)], .func (.func 35) #[] #[.pointer (some ⟨b1, 0, none⟩)], .func (.func 35) #[] #[.pointer (some ⟨b2, 0, none⟩)]]) (fun w => ?_) (fun w => ?_) (new_cells hact4 _ _) fun A hA => ?_)
  · simp [go_sem]
  · simp [go_sem]
  obtain ⟨l5, hl5⟩ : ∃ l5, l5 = l4.addc A #[.func (.func 35) #[] #[.pointer (some ⟨b0, 0, none⟩)], .func (.func 35) #[] #[.pointer (some ⟨b1, 0, none⟩)], .func (.func 35) #[] #[.pointer (some ⟨b2, 0, none⟩)]] := ⟨_, rfl⟩
  have g5' : Grow l4 l5 := by rw [hl5]; exact (Grow.refl _).addc hA _
  have g5 : Grow l1 l5 := by rw [hl5]; exact g4.addc hA _
  rw [← hl5]
  have hC5 := hC1.grow g5
  have hact5 := hC5.md
  have cA : ∀ j : Nat, l5.res.cells ⟨A, j, none⟩ = #[.func (.func 35) #[] #[.pointer (some ⟨b0, 0, none⟩)], .func (.func 35) #[] #[.pointer (some ⟨b1, 0, none⟩)], .func (.func 35) #[] #[.pointer (some ⟨b2, 0, none⟩)]][j]? := fun j => by rw [hl5, addc_new]
  have d0 : l5.res.cells ⟨b0, 0, none⟩ = some (.int .i64 0) := by
    have e3 := g3'.cell ⟨b0, 0, none⟩ (by rw [cb0]; simp)
    have e4 := g4'.cell ⟨b0, 0, none⟩ (by rw [e3, cb0]; simp)
    rw [g5'.cell _ (by rw [e4, e3, cb0]; simp), e4, e3, cb0]
  have d1 : l5.res.cells ⟨b1, 0, none⟩ = some (.int .i64 5) := by
    have e4 := g4'.cell ⟨b1, 0, none⟩ (by rw [cb1]; simp)
    rw [g5'.cell _ (by rw [e4, cb1]; simp), e4, cb1]
  have d2 : l5.res.cells ⟨b2, 0, none⟩ = some (.int .i64 0) := by rw [g5'.cell _ (by rw [cb2]; simp), cb2]
  have n01 : b0 ≠ b1 := fun e => by have := hb1.cell ⟨b0, 0, none⟩ e; rw [cb0] at this; cases this
  have n02 : b0 ≠ b2 := fun e => by have := hb2.cell ⟨b0, 0, none⟩ e; rw [g3'.cell _ (by rw [cb0]; simp), cb0] at this; cases this
  have n12 : b1 ≠ b2 := fun e => by have := hb2.cell ⟨b1, 0, none⟩ e; rw [cb1] at this; cases this
  have nA0 : b0 ≠ A := fun e => by
    have e3 := g3'.cell ⟨b0, 0, none⟩ (by rw [cb0]; simp)
    have e4 := g4'.cell ⟨b0, 0, none⟩ (by rw [e3, cb0]; simp)
    have := hA.cell ⟨b0, 0, none⟩ e; rw [e4, e3, cb0] at this; cases this
  have nA1 : b1 ≠ A := fun e => by
    have e4 := g4'.cell ⟨b1, 0, none⟩ (by rw [cb1]; simp)
    have := hA.cell ⟨b1, 0, none⟩ e; rw [e4, cb1] at this; cases this
  have nA2 : b2 ≠ A := fun e => by have := hA.cell ⟨b2, 0, none⟩ e; rw [cb2] at this; cases this
  have t5 : l5.res.tk = l1.res.tk := g5.tk
  clear g5' g4' g3' g2 g3 g4 hl5 hl4 hl3 hl2 cb0 cb1 cb2 hact2 hact3 hact4 hb0 hb1 hb2 hA
  try walk_nrm
  obtain ⟨bs, hbs⟩ : ∃ bs : Nat → Option (Nat × Int), bs = fun j => if j = 0 then some (b0, 0) else if j = 1 then some (b1, 5) else some (b2, 0) := ⟨_, rfl⟩
  have three : ∀ j, j < 3 → j = 0 ∨ j = 1 ∨ j = 2 := fun j hj => by omega
  refine o_cons (u_callx (n := n11) #[.pointer (some ⟨p, 0, none⟩), .slice (some ⟨A, 0, none⟩) 3 3] (by omega) rfl (by rfl) rfl (by walk_nrm) ?_)
  refine (h11 E l5 A 3 bs (some (p, ch, 3)) (by omega) (by omega) hC5 (fun j hj => ?_) (fun j b x hj e => ?_) (fun i j b x c y hi hj hne e e' => ?_) (fun p' ch' cap' e => ?_)).mono fun v l6 hp6 => ?_
  · rw [cA, hbs]
    rcases three j hj with rfl | rfl | rfl <;> rfl
  · rw [hbs] at e
    rcases three j hj with rfl | rfl | rfl <;> simp only [if_true, if_false, Nat.reduceEqDiff, reduceIte, Nat.one_ne_zero, Option.some.injEq, Prod.mk.injEq] at e <;> obtain ⟨rfl, rfl⟩ := e
    · exact ⟨d0, nA0⟩
    · exact ⟨d1, nA1⟩
    · exact ⟨d2, nA2⟩
  · rw [hbs] at e e'
    rcases three i hi with rfl | rfl | rfl <;> rcases three j hj with rfl | rfl | rfl <;> simp only [if_true, if_false, Nat.reduceEqDiff, reduceIte, Nat.one_ne_zero, Option.some.injEq, Prod.mk.injEq] at e e' <;> obtain ⟨rfl, rfl⟩ := e <;> obtain ⟨rfl, rfl⟩ := e'
    all_goals first | exact absurd rfl hne | assumption | exact n01.symm | exact n02.symm | exact n12.symm
  · cases e
    exact ⟨by rw [g5.pl]; exact hpl1, g5.ro _ _ hro1, by omega⟩
  obtain ⟨O, rfl, hO, hC6, hL6, ha6, hb6⟩ := hp6
  have hact6 := hC6.md
  try walk_nrm
  refine o_cons (u_new (by omega) hact6 rfl (by rfl) (.cells #[.int .i64 0, .int .i64 5, .int .i64 0] 32) (fun r => .slice (some ⟨r, 0, none⟩) 3 3) (fun r => l6.addc r #[.int .i64 0, .int .i64 5, .int .i64 0]) (fun w => ?_) (fun w => ?_) (new_cells hact6 _ _) fun B hB => ?_)
  · simp [go_sem]
  · simp [go_sem]
  obtain ⟨l7, hl7⟩ : ∃ l7, l7 = l6.addc B #[.int .i64 0, .int .i64 5, .int .i64 0] := ⟨_, rfl⟩
  have g7 : Grow l6 l7 := by rw [hl7]; exact (Grow.refl _).addc hB _
  rw [← hl7]
  have hC7 := hC6.grow g7
  have hact7 := hC7.md
  have cB : ∀ j : Nat, l7.res.cells ⟨B, j, none⟩ = #[.int .i64 0, .int .i64 5, .int .i64 0][j]? := fun j => by rw [hl7, addc_new]
  have hL7 : Later l l7 := hL1.trans ((Later.grow g5).trans (hL6.trans (Later.grow g7)))
  have hpl7 : l7.pl p = some (ch, 3, false) := (hL6.trans (Later.grow g7)).pl _ _ ((Later.grow g5).pl _ _ hpl1)
  have ta : l7.res.tk (.alive p) = 0 := by rw [g7.tk, ha6, t5]; exact tk1.1
  have tb : l7.res.tk (.begun p) = 3 := by
    rw [g7.tk, hb6, t5, tk1.2, hbs]
    simp [numOf, sumTo, tkOf, ansTask, bg1]
  try walk_nrm
  refine o_cons (u_callx (n := n13) #[.slice (some ⟨O, 0, none⟩) 3 3, .slice (some ⟨B, 0, none⟩) 3 3] (by omega) rfl (by rfl) rfl (by walk_nrm) ?_)
  refine h13 E ⟨O, 0, none⟩ ⟨B, 0, none⟩ 3 3 (fun j => valOf (bs j)) l7 _ (by omega) hact7 (fun j hj => ?_) (fun j hj => ?_) ?_
  · rw [Addr.add_lit, Nat.zero_add, g7.cell _ (by rw [hO j hj]; simp)]; exact hO j hj
  · rw [Addr.add_lit, Nat.zero_add, cB, hbs]
    rcases three j hj with rfl | rfl | rfl <;> rfl
  try walk_nrm
  repeat (first
    | (refine c_seq ?_)
    | (refine c_region ?_
       simp only [List.size_toArray, List.length_cons, List.length_nil, Nat.reduceAdd, Nat.zero_add, List.range, List.range.loop])
    | (refine o_nil ?_
       simp only [Thn, Inb, if_true, if_false, reduceIte, Nat.reduceEqDiff])
    | (refine c_skip ?_
       simp only [Thn, Inb, if_true, if_false, reduceIte, Nat.reduceEqDiff])
    | (refine c_cond true (by rfl) (fun _ => ?_) (fun e => by cases e))
    | (refine c_cond false (by rfl) (fun e => by cases e) (fun _ => ?_))
    | (refine c_block ?_)
    | (refine c_label ?_
       simp only [Thn, Inb, if_true, if_false, reduceIte, Nat.reduceEqDiff])
    | (refine c_scope ?_)
    | (refine o_cons (u_read (by omega) hact7 rfl (by rfl) fun w hF K' hK' => ?_)
       go_simp
       refine hK' _ ⟨?_, ?_⟩
       focus
         rw [listed_nil]
         · simp
         · (simp [go_sem]; done)
       clear hK' K' hF w
       try walk_nrm)
    | (refine o_cons (u_unwanted (by omega) rfl (by rfl) ?_)
       try walk_nrm))
  refine o_cons (u_callx (n := n15) #[.pointer (some ⟨p, 0, none⟩)] (by omega) rfl (by rfl) rfl (by walk_nrm) ?_)
  refine h15 E p ch 3 false l7 _ h0 hact7 hpl7 hC7.solo (by rw [tb]; omega) ?_
  rw [tb]
  try walk_nrm
  repeat (first
    | (refine c_seq ?_)
    | (refine c_region ?_
       simp only [List.size_toArray, List.length_cons, List.length_nil, Nat.reduceAdd, Nat.zero_add, List.range, List.range.loop])
    | (refine o_nil ?_
       simp only [Thn, Inb, if_true, if_false, reduceIte, Nat.reduceEqDiff])
    | (refine c_skip ?_
       simp only [Thn, Inb, if_true, if_false, reduceIte, Nat.reduceEqDiff])
    | (refine c_cond true (by rfl) (fun _ => ?_) (fun e => by cases e))
    | (refine c_cond false (by rfl) (fun e => by cases e) (fun _ => ?_))
    | (refine c_block ?_)
    | (refine c_label ?_
       simp only [Thn, Inb, if_true, if_false, reduceIte, Nat.reduceEqDiff])
    | (refine c_scope ?_)
    | (refine o_cons (u_read (by omega) hact7 rfl (by rfl) fun w hF K' hK' => ?_)
       go_simp
       refine hK' _ ⟨?_, ?_⟩
       focus
         rw [listed_nil]
         · simp
         · (simp [go_sem]; done)
       clear hK' K' hF w
       try walk_nrm)
    | (refine o_cons (u_unwanted (by omega) rfl (by rfl) ?_)
       try walk_nrm))
  refine o_cons (u_callx (n := n14) #[.pointer (some ⟨p, 0, none⟩)] (by omega) rfl (by rfl) rfl (by walk_nrm) ?_)
  refine h14 E p ch 3 false l7 _ h0 hact7 hpl7 hC7.solo (by rw [ta]; omega) ?_
  rw [ta]
  try walk_nrm
  repeat (first
    | (refine c_seq ?_)
    | (refine c_region ?_
       simp only [List.size_toArray, List.length_cons, List.length_nil, Nat.reduceAdd, Nat.zero_add, List.range, List.range.loop])
    | (refine o_nil ?_
       simp only [Thn, Inb, if_true, if_false, reduceIte, Nat.reduceEqDiff])
    | (refine c_skip ?_
       simp only [Thn, Inb, if_true, if_false, reduceIte, Nat.reduceEqDiff])
    | (refine c_cond true (by rfl) (fun _ => ?_) (fun e => by cases e))
    | (refine c_cond false (by rfl) (fun e => by cases e) (fun _ => ?_))
    | (refine c_block ?_)
    | (refine c_label ?_
       simp only [Thn, Inb, if_true, if_false, reduceIte, Nat.reduceEqDiff])
    | (refine c_scope ?_)
    | (refine o_cons (u_read (by omega) hact7 rfl (by rfl) fun w hF K' hK' => ?_)
       go_simp
       refine hK' _ ⟨?_, ?_⟩
       focus
         rw [listed_nil]
         · simp
         · (simp [go_sem]; done)
       clear hK' K' hF w
       try walk_nrm)
    | (refine o_cons (u_unwanted (by omega) rfl (by rfl) ?_)
       try walk_nrm))
  refine c_ret ?_
  refine ⟨rfl, _, resultsC_tmp (by rfl) _, ?_⟩
  exact h l7 hC7 hL7
end Go.Proofs.Ytofohjbcgchhoaa

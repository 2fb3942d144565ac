/-
  PLAIN LAW: a unit, its bytes, the reading of bytes.
-/
import Derived.KernelRfl
namespace Go.Proofs.Ytcelcognmdcenaa

/-- An instruction. -/
structure Ins where
  op : Int
  to : Int
  a : Int
  b : Int
  c : Int
/-- A program. -/
structure Pr where
  ins : Int
  regs : Int
  code : List Ins
  outs : List Int
/-- A unit. -/
structure Un where
  k1 : Int
  k2 : Int
  pts : List (Int × Int)
  left : Pr
  right : Pr
  back : Pr

/-- May an instruction's constant be? -/
def constOk (op c : Int) : Bool :=
  if op = 5 ∨ op = 6 then decide (c ≠ 0 ∧ -512 ≤ c ∧ c ≤ 512) else if op = 7 ∨ op = 8 then decide (1 ≤ c ∧ c ≤ 64) else decide (c = 0)
def Ins.ok (regs : Int) (i : Ins) : Bool :=
  decide (1 ≤ i.op ∧ i.op ≤ 8 ∧ 0 ≤ i.to ∧ i.to < regs ∧ 0 ≤ i.a ∧ i.a < regs) &&
    (if i.op = 3 ∨ i.op = 4 then decide (0 ≤ i.b ∧ i.b < regs ∧ i.c = 0) else decide (i.b = 0) && constOk i.op i.c)
def Pr.ok (p : Pr) : Bool :=
  decide (1 ≤ p.ins ∧ p.ins ≤ p.regs ∧ p.regs ≤ 128 ∧ p.code.length ≤ 16384 ∧ 1 ≤ p.outs.length ∧ p.outs.length ≤ 128) &&
    p.outs.all (fun k => decide (0 ≤ k ∧ k < p.regs)) && p.code.all (Ins.ok p.regs)
def inP (x : Int × Int) : Bool := decide (-16 ≤ x.1 ∧ x.1 ≤ 16 ∧ -16 ≤ x.2 ∧ x.2 ≤ 16)
def Un.headOk (u : Un) : Bool := decide (1 ≤ u.k1 ∧ 1 ≤ u.k2 ∧ u.k1 ≤ 8 ∧ u.k2 ≤ 8 ∧ u.pts.length ≤ 255)
def Un.fault (u : Un) : Nat :=
  if u.headOk && u.pts.all inP then (if u.left.ok && u.right.ok && u.back.ok then 0 else 80) else 2

/-- A number's low byte; a number in two bytes. -/
def by8 (n : Int) : Nat := (n % 256).toNat
def by16 (n : Int) : List Nat := [by8 (n / 256), by8 n]
def Ins.bytes (i : Ins) : List Nat := [by8 i.op, by8 i.to, by8 i.a, by8 i.b] ++ by16 i.c
def Pr.bytes (p : Pr) : List Nat :=
  [by8 p.ins, by8 p.regs] ++ by16 p.code.length ++ p.code.flatMap Ins.bytes ++ [by8 p.outs.length] ++ p.outs.map by8
def ptBytes (x : Int × Int) : List Nat := [by8 x.1, by8 x.2]
def Un.body (u : Un) : List Nat :=
  [65, 78, 86, 49, by8 u.k1, by8 u.k2, by8 u.pts.length] ++ u.pts.flatMap ptBytes ++ u.left.bytes ++ u.right.bytes ++ u.back.bytes
/-- The check of bytes: the first k. -/
def chkTo (b : Nat → Nat) : Nat → Nat
  | 0 => 0
  | k + 1 => (chkTo b k + (k + 1) * b k) % 65521
def chk (b : List Nat) : Nat := chkTo (fun i => b.getD i 0) b.length
def Un.bytes (u : Un) : List Nat := u.body ++ by16 (chk u.body)

/-! Reading: a value and the next place, or the place at which the bytes are wrong. -/
abbrev Rd (α : Type) := Except Nat (α × Nat)
def andR {α β : Type} (x : Rd α) (f : α → Nat → Rd β) : Rd β :=
  match x with
  | .error q => .error q
  | .ok (v, q) => f v q
def one (good : Nat → Bool) (b : List Nat) (p : Nat) : Rd Nat :=
  match b[p]? with
  | some x => if good x then .ok (x, p + 1) else .error p
  | none => .error p
/-- The bytes xs stand in b from p on. -/
def At (b : List Nat) (p : Nat) (xs : List Nat) : Prop := ∀ i, i < xs.length → b[p + i]? = xs[i]?
theorem At.nil (b : List Nat) (p : Nat) : At b p [] := fun _ hi => absurd hi (Nat.not_lt_zero _)
theorem At.append {b : List Nat} {p : Nat} {xs ys : List Nat} : At b p (xs ++ ys) ↔ At b p xs ∧ At b (p + xs.length) ys := by
  constructor
  · intro h
    refine ⟨fun i hi => ?_, fun i hi => ?_⟩
    · rw [h i (by rw [List.length_append]; omega), List.getElem?_append_left hi]
    · rw [Nat.add_assoc, h (xs.length + i) (by rw [List.length_append]; omega), List.getElem?_append_right (by omega), Nat.add_sub_cancel_left]
  · rintro ⟨h1, h2⟩ i hi
    rw [List.length_append] at hi
    rcases Nat.lt_or_ge i xs.length with h | h
    · rw [h1 i h, List.getElem?_append_left h]
    · have := h2 (i - xs.length) (by omega)
      rw [List.getElem?_append_right h, ← this]
      congr 1; omega

/-- A reader that reads back what is told, and looks at no byte but those it passes and the one at which it stops. -/
structure Good {α : Type} (r : List Nat → Nat → Rd α) (ok : α → Prop) (bytes : α → List Nat) : Prop where
  sound : ∀ b p v q, r b p = .ok (v, q) → ok v ∧ q = p + (bytes v).length ∧ At b p (bytes v)
  full : ∀ b p v, ok v → At b p (bytes v) → r b p = .ok (v, p + (bytes v).length)
  locOk : ∀ b b' p v q, r b p = .ok (v, q) → (∀ i, i < q → b[i]? = b'[i]?) → r b' p = .ok (v, q)
  locErr : ∀ b b' p q, r b p = .error q → (∀ i, i ≤ q → b[i]? = b'[i]?) → r b' p = .error q
  geErr : ∀ b p q, r b p = .error q → p ≤ q
  leErr : ∀ b p q, r b p = .error q → p ≤ b.length → q ≤ b.length
  leOk : ∀ b p v q, r b p = .ok (v, q) → p ≤ b.length → q ≤ b.length

theorem good_one (good : Nat → Bool) : Good (one good) (fun x => good x = true) (fun x => [x]) := by
  have key : ∀ b p x q, one good b p = .ok (x, q) ↔ b[p]? = some x ∧ good x = true ∧ q = p + 1 := by
    intro b p x q
    unfold one
    cases h : b[p]? with
    | none => simp
    | some y =>
      by_cases hy : good y = true
      · simp only [hy, if_true, Except.ok.injEq, Prod.mk.injEq, Option.some.injEq]
        constructor
        · rintro ⟨rfl, rfl⟩; exact ⟨rfl, hy, rfl⟩
        · rintro ⟨rfl, _, rfl⟩; exact ⟨rfl, rfl⟩
      · simp only [hy, Bool.false_eq_true, if_false, Option.some.injEq]
        constructor
        · intro h; cases h
        · rintro ⟨rfl, h, _⟩; exact absurd h hy
  have kerr : ∀ b p q, one good b p = .error q ↔ q = p ∧ ∀ x, b[p]? = some x → good x = false := by
    intro b p q
    unfold one
    cases h : b[p]? with
    | none =>
      constructor
      · intro h; cases h; exact ⟨rfl, fun x hx => by cases hx⟩
      · rintro ⟨rfl, _⟩; rfl
    | some y =>
      by_cases hy : good y = true
      · simp only [hy, if_true]
        constructor
        · intro h; cases h
        · rintro ⟨_, h⟩; rw [h y rfl] at hy; cases hy
      · simp only [hy, Bool.false_eq_true, if_false]
        constructor
        · intro h; cases h; exact ⟨rfl, fun x hx => by cases hx; simpa using hy⟩
        · rintro ⟨rfl, _⟩; rfl
  refine ⟨?_, ?_, ?_, ?_, ?_, ?_, ?_⟩
  · intro b p v q h
    obtain ⟨h1, h2, rfl⟩ := (key ..).1 h
    refine ⟨h2, rfl, fun i hi => ?_⟩
    obtain rfl : i = 0 := by simpa using hi
    simpa using h1
  · intro b p v hv h
    exact (key ..).2 ⟨by simpa using h 0 (by simp), hv, rfl⟩
  · intro b b' p v q h hb
    obtain ⟨h1, h2, rfl⟩ := (key ..).1 h
    exact (key ..).2 ⟨by rw [← hb p (by omega)]; exact h1, h2, rfl⟩
  · intro b b' p q h hb
    obtain ⟨rfl, h2⟩ := (kerr ..).1 h
    exact (kerr ..).2 ⟨rfl, fun x hx => h2 x (by rw [hb _ (Nat.le_refl _)]; exact hx)⟩
  · intro b p q h
    obtain ⟨rfl, _⟩ := (kerr ..).1 h
    exact Nat.le_refl _
  · intro b p q h hp
    obtain ⟨rfl, _⟩ := (kerr ..).1 h
    exact hp
  · intro b p v q h hp
    obtain ⟨h1, _, rfl⟩ := (key ..).1 h
    have := (List.getElem?_eq_some_iff.1 h1).1
    omega

/-- One behind the other. -/
theorem Good.bind {α β : Type} {r1 : List Nat → Nat → Rd α} {ok1 : α → Prop} {by1 : α → List Nat} (h1 : Good r1 ok1 by1) {r2 : α → List Nat → Nat → Rd β} {ok2 : α → β → Prop} {by2 : α → β → List Nat} (h2 : ∀ a, ok1 a → Good (r2 a) (ok2 a) (by2 a)) :
    Good (fun b p => andR (r1 b p) fun a q => andR (r2 a b q) fun x q => .ok ((a, x), q)) (fun v => ok1 v.1 ∧ ok2 v.1 v.2) (fun v => by1 v.1 ++ by2 v.1 v.2) := by
  have key : ∀ b p v q, (andR (r1 b p) fun a q => andR (r2 a b q) fun x q => .ok ((a, x), q)) = .ok (v, q) ↔ ∃ q1, r1 b p = .ok (v.1, q1) ∧ r2 v.1 b q1 = .ok (v.2, q) := by
    rintro b p ⟨a, x⟩ q
    unfold andR
    cases e1 : r1 b p with
    | error e => simp
    | ok y =>
      obtain ⟨a', q1⟩ := y
      cases e2 : r2 a' b q1 with
      | error e =>
        simp only [e2]
        constructor
        · intro h; cases h
        · rintro ⟨q1', h, h'⟩; cases h; rw [e2] at h'; cases h'
      | ok z =>
        obtain ⟨x', q2⟩ := z
        simp only [e2]
        constructor
        · intro h; cases h; exact ⟨q1, rfl, e2⟩
        · rintro ⟨q1', h, h'⟩; cases h; rw [e2] at h'; cases h'; rfl
  have kerr : ∀ b p q, (andR (r1 b p) fun a q => andR (r2 a b q) fun x q => (.ok ((a, x), q) : Rd (α × β))) = .error q ↔ r1 b p = .error q ∨ ∃ a q1, r1 b p = .ok (a, q1) ∧ r2 a b q1 = .error q := by
    intro b p q
    unfold andR
    cases e1 : r1 b p with
    | error e => simp
    | ok y =>
      obtain ⟨a', q1⟩ := y
      cases e2 : r2 a' b q1 with
      | error e =>
        simp only [e2]
        constructor
        · intro h; cases h; exact .inr ⟨a', q1, rfl, e2⟩
        · rintro (h | ⟨a, q1', h, h'⟩)
          · cases h
          · cases h; rw [e2] at h'; cases h'; rfl
      | ok z =>
        obtain ⟨x', q2⟩ := z
        simp only [e2]
        constructor
        · intro h; cases h
        · rintro (h | ⟨a, q1', h, h'⟩)
          · cases h
          · cases h; rw [e2] at h'; cases h'
  refine ⟨?_, ?_, ?_, ?_, ?_, ?_, ?_⟩
  · intro b p v q h
    obtain ⟨q1, e1, e2⟩ := (key ..).1 h
    obtain ⟨a1, a2, a3⟩ := h1.sound _ _ _ _ e1
    obtain ⟨b1, b2, b3⟩ := (h2 _ a1).sound _ _ _ _ e2
    subst a2
    exact ⟨⟨a1, b1⟩, by rw [List.length_append]; omega, At.append.2 ⟨a3, b3⟩⟩
  · rintro b p v ⟨o1, o2⟩ h
    obtain ⟨a1, a2⟩ := At.append.1 h
    exact (key ..).2 ⟨_, h1.full _ _ _ o1 a1, by rw [List.length_append, ← Nat.add_assoc]; exact (h2 _ o1).full _ _ _ o2 a2⟩
  · intro b b' p v q h hb
    obtain ⟨q1, e1, e2⟩ := (key ..).1 h
    obtain ⟨a1, a2, a3⟩ := h1.sound _ _ _ _ e1
    obtain ⟨b1, b2, b3⟩ := (h2 _ a1).sound _ _ _ _ e2
    exact (key ..).2 ⟨q1, h1.locOk _ _ _ _ _ e1 (fun i hi => hb i (by omega)), (h2 _ a1).locOk _ _ _ _ _ e2 hb⟩
  · intro b b' p q h hb
    rcases (kerr ..).1 h with e | ⟨a, q1, e1, e2⟩
    · exact (kerr ..).2 (.inl (h1.locErr _ _ _ _ e hb))
    · obtain ⟨a1, a2, a3⟩ := h1.sound _ _ _ _ e1
      have hq := (h2 _ a1).geErr _ _ _ e2
      exact (kerr ..).2 (.inr ⟨a, q1, h1.locOk _ _ _ _ _ e1 (fun i hi => hb i (by omega)), (h2 _ a1).locErr _ _ _ _ e2 hb⟩)
  · intro b p q h
    rcases (kerr ..).1 h with e | ⟨a, q1, e1, e2⟩
    · exact h1.geErr _ _ _ e
    · have a2 := (h1.sound _ _ _ _ e1).2.1
      have hq := (h2 _ (h1.sound _ _ _ _ e1).1).geErr _ _ _ e2
      omega
  · intro b p q h hp
    rcases (kerr ..).1 h with e | ⟨a, q1, e1, e2⟩
    · exact h1.leErr _ _ _ e hp
    · exact (h2 _ (h1.sound _ _ _ _ e1).1).leErr _ _ _ e2 (h1.leOk _ _ _ _ e1 hp)
  · intro b p v q h hp
    obtain ⟨q1, e1, e2⟩ := (key ..).1 h
    exact (h2 _ (h1.sound _ _ _ _ e1).1).leOk _ _ _ _ e2 (h1.leOk _ _ _ _ e1 hp)

/-- The same values in other clothes. -/
theorem Good.iso {α β : Type} {r : List Nat → Nat → Rd α} {ok : α → Prop} {by1 : α → List Nat} (h : Good r ok by1) (okB : β → Prop) (byB : β → List Nat) (f : α → β)
    (hf : ∀ x, ok x → okB (f x) ∧ byB (f x) = by1 x) (hg : ∀ y, okB y → ∃ x, ok x ∧ f x = y) :
    Good (fun b p => andR (r b p) fun a q => .ok (f a, q)) okB byB := by
  have key : ∀ b p y q, (andR (r b p) fun a q => .ok (f a, q)) = .ok (y, q) ↔ ∃ x, f x = y ∧ r b p = .ok (x, q) := by
    intro b p y q
    unfold andR
    cases e : r b p with
    | error e => simp
    | ok z =>
      obtain ⟨x, q'⟩ := z
      simp only
      constructor
      · intro h; cases h; exact ⟨x, rfl, rfl⟩
      · rintro ⟨x', rfl, h⟩; cases h; rfl
  have kerr : ∀ b p q, (andR (r b p) fun a q => (.ok (f a, q) : Rd β)) = .error q ↔ r b p = .error q := by
    intro b p q
    unfold andR
    cases e : r b p with
    | error e => simp
    | ok z =>
      constructor
      · intro h; cases h
      · intro h; cases h
  refine ⟨?_, ?_, ?_, ?_, ?_, ?_, ?_⟩
  · intro b p v q e
    obtain ⟨x, rfl, e'⟩ := (key ..).1 e
    have hx := h.sound _ _ _ _ e'
    rw [(hf x hx.1).2]
    exact ⟨(hf x hx.1).1, hx.2⟩
  · intro b p v o e
    obtain ⟨x, hx, rfl⟩ := hg v o
    rw [(hf x hx).2] at e ⊢
    exact (key ..).2 ⟨x, rfl, h.full _ _ _ hx e⟩
  · intro b b' p v q e hb
    obtain ⟨x, hx, e'⟩ := (key ..).1 e
    exact (key ..).2 ⟨x, hx, h.locOk _ _ _ _ _ e' hb⟩
  · intro b b' p q e hb; exact (kerr ..).2 (h.locErr _ _ _ _ ((kerr ..).1 e) hb)
  · intro b p q e; exact h.geErr _ _ _ ((kerr ..).1 e)
  · intro b p q e; exact h.leErr _ _ _ ((kerr ..).1 e)
  · intro b p v q e
    obtain ⟨x, _, e'⟩ := (key ..).1 e
    exact h.leOk _ _ _ _ e'

/-- So many, one behind the other. -/
def rMany {α : Type} (r : List Nat → Nat → Rd α) : Nat → List Nat → Nat → Rd (List α)
  | 0, _, p => .ok ([], p)
  | k + 1, b, p => andR (rMany r k b p) fun xs q => andR (r b q) fun x q => .ok (xs ++ [x], q)
theorem good_many {α : Type} {r : List Nat → Nat → Rd α} {ok : α → Prop} {by1 : α → List Nat} (h : Good r ok by1) : ∀ k, Good (rMany r k) (fun xs => xs.length = k ∧ ∀ x ∈ xs, ok x) (fun xs => xs.flatMap by1) := by
  intro k
  induction k with
  | zero =>
    refine ⟨?_, ?_, ?_, ?_, ?_, ?_, ?_⟩
    · intro b p v q e; cases e; exact ⟨⟨rfl, fun x hx => by cases hx⟩, rfl, At.nil _ _⟩
    · rintro b p v ⟨o, _⟩ _; obtain rfl := List.length_eq_zero_iff.1 o; rfl
    · intro b b' p v q e _; exact e
    · intro b b' p q e; cases e
    · intro b p q e; cases e
    · intro b p q e; cases e
    · intro b p v q e hp; cases e; exact hp
  | succ k ih =>
    have h1 := (ih.bind (r2 := fun _ => r) (ok2 := fun _ => ok) (by2 := fun _ => by1) (fun _ _ => h)).iso (fun xs : List α => xs.length = k + 1 ∧ ∀ x ∈ xs, ok x) (fun xs => xs.flatMap by1) (fun v => v.1 ++ [v.2])
      (fun v hv => ⟨⟨by rw [List.length_append, hv.1.1]; rfl, fun x hx => by
        rcases List.mem_append.1 hx with hx | hx
        · exact hv.1.2 x hx
        · rw [List.mem_singleton.1 hx]; exact hv.2⟩, by rw [List.flatMap_append]; simp⟩)
      (fun y hy => by
        have hne : y ≠ [] := by intro e; rw [e] at hy; exact absurd hy.1 (by simp)
        refine ⟨(y.dropLast, y.getLast hne), ⟨⟨by rw [List.length_dropLast, hy.1]; rfl, fun x hx => hy.2 x (List.dropLast_subset _ hx)⟩, hy.2 _ (List.getLast_mem hne)⟩, List.dropLast_concat_getLast hne⟩)
    have e : (fun b p => andR (andR (rMany r k b p) fun a q => andR (r b q) fun x q => .ok ((a, x), q)) fun v q => .ok (v.1 ++ [v.2], q)) = rMany r (k + 1) := by
      funext b p
      show _ = andR (rMany r k b p) fun xs q => andR (r b q) fun x q => .ok (xs ++ [x], q)
      unfold andR
      cases rMany r k b p with
      | error e => rfl
      | ok z =>
        obtain ⟨xs, q⟩ := z
        simp only
        cases r b q with
        | error e => rfl
        | ok z => rfl
    rw [← e]
    exact h1

theorem by8_nat {x : Nat} (h : x < 256) : by8 (x : Int) = x := by unfold by8; omega
theorem by8_lt (n : Int) : by8 n < 256 := by unfold by8; omega
/-- A number from one to another one. -/
def rNum (lo hi : Int) (b : List Nat) (p : Nat) : Rd Int := andR (one (fun x => decide (lo ≤ (x : Int) ∧ (x : Int) ≤ hi)) b p) fun x q => .ok ((x : Int), q)
theorem good_num {lo hi : Int} (h0 : 0 ≤ lo) (h1 : hi ≤ 255) : Good (rNum lo hi) (fun n => lo ≤ n ∧ n ≤ hi) (fun n => [by8 n]) :=
  (good_one _).iso _ _ (fun x : Nat => (x : Int))
    (fun x hx => by
      have hx' := of_decide_eq_true hx
      exact ⟨hx', by rw [by8_nat (by omega)]⟩)
    (fun y hy => ⟨y.toNat, decide_eq_true (by omega), by omega⟩)
/-- A byte with its sign. -/
def sgn8 (x : Nat) : Int := if x < 128 then x else (x : Int) - 256
def rCoord (b : List Nat) (p : Nat) : Rd Int := andR (one (fun x => decide (x < 256 ∧ (x ≤ 16 ∨ 240 ≤ x))) b p) fun x q => .ok (sgn8 x, q)
theorem good_coord : Good rCoord (fun n => -16 ≤ n ∧ n ≤ 16) (fun n => [by8 n]) :=
  (good_one _).iso _ _ sgn8
    (fun x hx => by
      have hx' := of_decide_eq_true hx
      unfold sgn8
      refine ⟨by split <;> omega, ?_⟩
      congr 1
      unfold by8
      split <;> omega)
    (fun y hy => ⟨by8 y, decide_eq_true (by unfold by8; omega), by unfold sgn8 by8; split <;> omega⟩)

def sgn16 (h l : Nat) : Int := if h < 128 then (h : Int) * 256 + l else (h : Int) * 256 + l - 65536
/-- Is there a low byte? -/
def highOk (op : Int) (h : Nat) : Bool := if op = 5 ∨ op = 6 then decide (h ≤ 2 ∨ h = 254 ∨ h = 255) else decide (h = 0)
def lowOk (op : Int) (h l : Nat) : Bool := decide (l < 256) && constOk op (sgn16 h l)
def rConst (op : Int) (b : List Nat) (p : Nat) : Rd Int :=
  andR (andR (one (highOk op) b p) fun h q => andR (one (lowOk op h) b q) fun l q => .ok ((h, l), q)) fun v q => .ok (sgn16 v.1 v.2, q)
theorem high_lt {op : Int} {h : Nat} (e : highOk op h = true) : h < 256 := by
  unfold highOk at e
  split at e
  · have := of_decide_eq_true e; omega
  · have := of_decide_eq_true e; omega
theorem by16_sgn {h l : Nat} (h1 : h < 256) (h2 : l < 256) : by16 (sgn16 h l) = [h] ++ [l] := by
  unfold by16 sgn16 by8
  split
  · congr 1
    · omega
    · congr 1; omega
  · congr 1
    · omega
    · congr 1; omega
theorem const_rng {op c : Int} (h : constOk op c = true) : -512 ≤ c ∧ c ≤ 512 ∧ (¬ (op = 5 ∨ op = 6) → 0 ≤ c ∧ c ≤ 64) := by
  unfold constOk at h
  split at h
  · have := of_decide_eq_true h
    exact ⟨this.2.1, this.2.2, fun h => by contradiction⟩
  · split at h
    · have := of_decide_eq_true h; omega
    · have := of_decide_eq_true h; omega
theorem good_const (op : Int) : Good (rConst op) (fun c => constOk op c = true) by16 :=
  ((good_one (highOk op)).bind (fun h _ => good_one (lowOk op h))).iso _ _ (fun v => sgn16 v.1 v.2)
    (fun v hv => by
      obtain ⟨h1, h2⟩ := hv
      unfold lowOk at h2
      rw [Bool.and_eq_true] at h2
      exact ⟨h2.2, by16_sgn (high_lt h1) (of_decide_eq_true h2.1)⟩)
    (fun c hc => by
      have hr := const_rng hc
      have e : sgn16 (by8 (c / 256)) (by8 c) = c := by unfold sgn16 by8; split <;> omega
      refine ⟨(by8 (c / 256), by8 c), ⟨?_, ?_⟩, e⟩
      · unfold highOk
        by_cases h : op = 5 ∨ op = 6
        · rw [if_pos h]; exact decide_eq_true (by unfold by8; omega)
        · rw [if_neg h]; have := hr.2.2 h; exact decide_eq_true (by unfold by8; omega)
      · show (decide (by8 c < 256) && constOk op (sgn16 (by8 (c / 256)) (by8 c))) = true
        rw [e, hc, decide_eq_true (by8_lt c)]; rfl)

/-- Two readers, one behind the other. -/
def seqR {α β : Type} (r1 : List Nat → Nat → Rd α) (r2 : α → List Nat → Nat → Rd β) (b : List Nat) (p : Nat) : Rd (α × β) := andR (r1 b p) fun a q => andR (r2 a b q) fun x q => .ok ((a, x), q)
theorem Good.seq {α β : Type} {r1 : List Nat → Nat → Rd α} {ok1 : α → Prop} {by1 : α → List Nat} (h1 : Good r1 ok1 by1) {r2 : α → List Nat → Nat → Rd β} {ok2 : α → β → Prop} {by2 : α → β → List Nat} (h2 : ∀ a, ok1 a → Good (r2 a) (ok2 a) (by2 a)) :
    Good (seqR r1 r2) (fun v => ok1 v.1 ∧ ok2 v.1 v.2) (fun v => by1 v.1 ++ by2 v.1 v.2) := h1.bind h2
/-- An instruction. -/
def rIns (regs : Int) (b : List Nat) (p : Nat) : Rd Ins :=
  andR (seqR (rNum 1 8) (fun op => seqR (rNum 0 (regs - 1)) fun _ => seqR (rNum 0 (regs - 1)) fun _ => seqR (rNum 0 (if op = 3 ∨ op = 4 then regs - 1 else 0)) fun _ => rConst op) b p)
    fun v q => .ok (⟨v.1, v.2.1, v.2.2.1, v.2.2.2.1, v.2.2.2.2⟩, q)
theorem good_ins {regs : Int} (h : regs ≤ 128) : Good (rIns regs) (fun i => i.ok regs = true) Ins.bytes :=
  ((good_num (lo := 1) (hi := 8) (by decide) (by decide)).seq fun op _ =>
    (good_num (lo := 0) (hi := regs - 1) (by decide) (by omega)).seq fun _ _ =>
    (good_num (lo := 0) (hi := regs - 1) (by decide) (by omega)).seq fun _ _ =>
    (good_num (lo := 0) (hi := if op = 3 ∨ op = 4 then regs - 1 else 0) (by decide) (by split <;> omega)).seq fun _ _ => good_const op).iso _ _ _
    (fun v hv => by
      obtain ⟨op, to, a, x, c⟩ := v
      obtain ⟨h1, h2, h3, h4, h5⟩ := hv
      simp only at h1 h2 h3 h4 h5
      refine ⟨?_, rfl⟩
      unfold Ins.ok
      simp only
      rw [decide_eq_true (by omega), Bool.true_and]
      by_cases ho : op = 3 ∨ op = 4
      · rw [if_pos ho] at h4 ⊢
        have hc : c = 0 := by
          unfold constOk at h5
          rw [if_neg (by omega), if_neg (by omega)] at h5
          exact of_decide_eq_true h5
        exact decide_eq_true (by omega)
      · rw [if_neg ho] at h4 ⊢
        rw [h5, decide_eq_true (by omega)]; rfl)
    (fun i hi => by
      obtain ⟨op, to, a, x, c⟩ := i
      unfold Ins.ok at hi
      simp only [Bool.and_eq_true] at hi
      obtain ⟨h1, h2⟩ := hi
      have h1' := of_decide_eq_true h1
      refine ⟨(op, to, a, x, c), ⟨by simp only; omega, by simp only; omega, by simp only; omega, ?_, ?_⟩, rfl⟩
      · simp only
        by_cases ho : op = 3 ∨ op = 4
        · rw [if_pos ho] at h2 ⊢
          have := of_decide_eq_true h2; omega
        · rw [if_neg ho] at h2 ⊢
          rw [Bool.and_eq_true] at h2
          have := of_decide_eq_true h2.1; omega
      · simp only
        by_cases ho : op = 3 ∨ op = 4
        · rw [if_pos ho] at h2
          have := of_decide_eq_true h2
          unfold constOk
          rw [if_neg (by omega), if_neg (by omega)]
          exact decide_eq_true this.2.2
        · rw [if_neg ho, Bool.and_eq_true] at h2
          exact h2.2)

/-- How many instructions. -/
def rCount (b : List Nat) (p : Nat) : Rd Nat :=
  andR (seqR (one fun h => decide (h ≤ 64)) (fun h => one fun l => decide (l < 256 ∧ h * 256 + l ≤ 16384)) b p) fun v q => .ok (v.1 * 256 + v.2, q)
theorem good_count : Good rCount (fun n => n ≤ 16384) (fun n => by16 (n : Int)) :=
  ((good_one _).seq fun h _ => good_one _).iso _ _ _
    (fun v hv => by
      have h1 := of_decide_eq_true hv.1
      have h2 := of_decide_eq_true hv.2
      refine ⟨h2.2, ?_⟩
      unfold by16 by8
      show _ = [v.1] ++ [v.2]
      congr 1
      · omega
      · congr 1; omega)
    (fun n hn => ⟨(n / 256, n % 256), ⟨decide_eq_true (by simp only; omega), decide_eq_true (by simp only; omega)⟩, by simp only; omega⟩)

theorem flat_by8 (l : List Int) : l.flatMap (fun n => [by8 n]) = l.map by8 := by
  induction l with
  | nil => rfl
  | cons a l ih => simp [ih]
/-- A program. -/
def rPr (b : List Nat) (p : Nat) : Rd Pr :=
  andR (seqR (rNum 1 128) (fun ins => seqR (rNum ins 128) fun regs => seqR rCount fun n => seqR (rMany (rIns regs) n) fun _ => seqR (rNum 1 128) fun m => rMany (rNum 0 (regs - 1)) m.toNat) b p)
    fun v q => .ok (⟨v.1, v.2.1, v.2.2.2.1, v.2.2.2.2.2⟩, q)
theorem good_pr : Good rPr (fun p => p.ok = true) Pr.bytes :=
  ((good_num (lo := 1) (hi := 128) (by decide) (by decide)).seq fun ins h1 =>
    (good_num (lo := ins) (hi := 128) (by omega) (by decide)).seq fun regs h2 =>
    good_count.seq fun n _ =>
    (good_many (good_ins (regs := regs) h2.2) n).seq fun _ _ =>
    (good_num (lo := 1) (hi := 128) (by decide) (by decide)).seq fun m _ =>
    good_many (good_num (lo := 0) (hi := regs - 1) (by decide) (by omega)) m.toNat).iso _ _ _
    (fun v hv => by
      obtain ⟨ins, regs, n, code, m, outs⟩ := v
      obtain ⟨h1, h2, h3, ⟨h4, h5⟩, h6, h7, h8⟩ := hv
      simp only at h1 h2 h3 h4 h5 h6 h7 h8
      subst h4
      have hm : m = (outs.length : Int) := by omega
      subst hm
      refine ⟨?_, ?_⟩
      · unfold Pr.ok
        simp only
        rw [decide_eq_true (by omega), Bool.true_and, Bool.and_eq_true]
        exact ⟨List.all_eq_true.2 fun k hk => decide_eq_true (by have := h8 k hk; omega), List.all_eq_true.2 fun i hi => h5 i hi⟩
      · unfold Pr.bytes
        simp [flat_by8])
    (fun p hp => by
      obtain ⟨ins, regs, code, outs⟩ := p
      unfold Pr.ok at hp
      simp only [Bool.and_eq_true] at hp
      obtain ⟨⟨h1, h2⟩, h3⟩ := hp
      have h1' := of_decide_eq_true h1
      refine ⟨(ins, regs, code.length, code, outs.length, outs), ⟨by simp only; omega, by simp only; omega, by simp only; omega, ⟨rfl, fun i hi => List.all_eq_true.1 h3 i hi⟩, by simp only; omega, by simp, fun k hk => by have := of_decide_eq_true (List.all_eq_true.1 h2 k hk); simp only; omega⟩, rfl⟩)

def rPt : List Nat → Nat → Rd (Int × Int) := seqR rCoord fun _ => rCoord
theorem good_pt : Good rPt (fun x => inP x = true) ptBytes :=
  { (good_coord.seq fun _ _ => good_coord) with
    sound := fun b p v q e => by
      have h := (good_coord.seq fun _ _ => good_coord).sound b p v q e
      exact ⟨decide_eq_true (by have := h.1; omega), h.2⟩
    full := fun b p v o e => (good_coord.seq fun _ _ => good_coord).full b p v (by have := of_decide_eq_true o; omega) e }
/-- A unit, ahead of its check. -/
def rBody (b : List Nat) (p : Nat) : Rd Un :=
  andR (seqR (rNum 65 65) (fun _ => seqR (rNum 78 78) fun _ => seqR (rNum 86 86) fun _ => seqR (rNum 49 49) fun _ => seqR (rNum 1 8) fun _ => seqR (rNum 1 8) fun _ => seqR (rNum 0 255) fun n => seqR (rMany rPt n.toNat) fun _ => seqR rPr fun _ => seqR rPr fun _ => rPr) b p)
    fun v q => .ok (⟨v.2.2.2.2.1, v.2.2.2.2.2.1, v.2.2.2.2.2.2.2.1, v.2.2.2.2.2.2.2.2.1, v.2.2.2.2.2.2.2.2.2.1, v.2.2.2.2.2.2.2.2.2.2⟩, q)

theorem fault_iff (u : Un) : u.fault = 0 ↔ u.headOk = true ∧ u.pts.all inP = true ∧ u.left.ok = true ∧ u.right.ok = true ∧ u.back.ok = true := by
  unfold Un.fault
  cases u.headOk <;> cases u.pts.all inP <;> cases u.left.ok <;> cases u.right.ok <;> cases u.back.ok <;> simp
theorem good_body : Good rBody (fun u => u.fault = 0) Un.body :=
  ((good_num (lo := 65) (hi := 65) (by decide) (by decide)).seq fun _ _ =>
    (good_num (lo := 78) (hi := 78) (by decide) (by decide)).seq fun _ _ =>
    (good_num (lo := 86) (hi := 86) (by decide) (by decide)).seq fun _ _ =>
    (good_num (lo := 49) (hi := 49) (by decide) (by decide)).seq fun _ _ =>
    (good_num (lo := 1) (hi := 8) (by decide) (by decide)).seq fun _ _ =>
    (good_num (lo := 1) (hi := 8) (by decide) (by decide)).seq fun _ _ =>
    (good_num (lo := 0) (hi := 255) (by decide) (by decide)).seq fun n _ =>
    (good_many good_pt n.toNat).seq fun _ _ =>
    good_pr.seq fun _ _ => good_pr.seq fun _ _ => good_pr).iso _ _ _
    (fun v hv => by
      obtain ⟨m1, m2, m3, m4, k1, k2, n, pts, l, r, k⟩ := v
      obtain ⟨h1, h2, h3, h4, h5, h6, h7, ⟨h8, h9⟩, h10, h11, h12⟩ := hv
      simp only at h1 h2 h3 h4 h5 h6 h7 h8 h9 h10 h11 h12
      obtain rfl : m1 = 65 := by omega
      obtain rfl : m2 = 78 := by omega
      obtain rfl : m3 = 86 := by omega
      obtain rfl : m4 = 49 := by omega
      obtain rfl : n = (pts.length : Int) := by omega
      refine ⟨(fault_iff _).2 ⟨decide_eq_true (by simp only; omega), List.all_eq_true.2 h9, h10, h11, h12⟩, ?_⟩
      unfold Un.body
      simp [by8])
    (fun u hu => by
      obtain ⟨h1, h2, h3, h4, h5⟩ := (fault_iff u).1 hu
      have h1' := of_decide_eq_true h1
      exact ⟨(65, 78, 86, 49, u.k1, u.k2, u.pts.length, u.pts, u.left, u.right, u.back), ⟨by simp, by simp, by simp, by simp, by simp only; omega, by simp only; omega, by simp only; omega, ⟨by simp, List.all_eq_true.1 h2⟩, h3, h4, h5⟩, rfl⟩)

theorem chkTo_lt (f : Nat → Nat) (k : Nat) : chkTo f k < 65521 := by
  cases k with
  | zero => show 0 < 65521; decide
  | succ k => exact Nat.mod_lt _ (by decide)
theorem chkTo_congr {f g : Nat → Nat} : ∀ k, (∀ i, i < k → f i = g i) → chkTo f k = chkTo g k := by
  intro k
  induction k with
  | zero => intro _; rfl
  | succ k ih => intro h; unfold chkTo; rw [ih fun i hi => h i (by omega), h k (by omega)]
/-- The check that a reader reckons is the body's. -/
theorem chk_at {b xs : List Nat} (h : At b 0 xs) : chkTo (fun i => b.getD i 0) xs.length = chk xs := by
  unfold chk
  refine chkTo_congr _ fun i hi => ?_
  have := h i hi
  rw [Nat.zero_add] at this
  simp only [List.getD_eq_getElem?_getD, this]
/-- A unit and its check. -/
def rAll (b : List Nat) (p : Nat) : Rd Un :=
  andR (seqR rBody (fun u => seqR (rNum ((chk u.body / 256 : Nat) : Int) ((chk u.body / 256 : Nat) : Int)) fun _ => rNum ((chk u.body % 256 : Nat) : Int) ((chk u.body % 256 : Nat) : Int)) b p) fun v q => .ok (v.1, q)
theorem good_all : Good rAll (fun u => u.fault = 0) Un.bytes :=
  (good_body.seq fun u _ =>
    (good_num (lo := ((chk u.body / 256 : Nat) : Int)) (hi := ((chk u.body / 256 : Nat) : Int)) (by omega) (by have := chkTo_lt (fun i => u.body.getD i 0) u.body.length; unfold chk; omega)).seq fun _ _ =>
    good_num (lo := ((chk u.body % 256 : Nat) : Int)) (hi := ((chk u.body % 256 : Nat) : Int)) (by omega) (by omega)).iso _ _ _
    (fun v hv => by
      obtain ⟨u, h, l⟩ := v
      obtain ⟨h1, h2, h3⟩ := hv
      simp only at h1 h2 h3
      refine ⟨h1, ?_⟩
      have e1 : h = ((chk u.body : Nat) : Int) / 256 := by omega
      have e2 : by8 l = by8 ((chk u.body : Nat) : Int) := by unfold by8; omega
      unfold Un.bytes by16
      rw [e1, e2]; rfl)
    (fun u hu => ⟨(u, ((chk u.body / 256 : Nat) : Int), ((chk u.body % 256 : Nat) : Int)), ⟨hu, by simp only; omega, by simp only; omega⟩, rfl⟩)

theorem at_self (xs : List Nat) : At xs 0 xs := fun i _ => by rw [Nat.zero_add]
theorem all_self {u : Un} (h : u.fault = 0) : rAll u.bytes 0 = .ok (u, u.bytes.length) := by
  have := good_all.full u.bytes 0 u h (at_self _)
  rwa [Nat.zero_add] at this
/-- No unit's bytes begin another one's. -/
theorem prefix_eq {u v : Un} (hu : u.fault = 0) (hv : v.fault = 0) (h : ∀ i, i < u.bytes.length → u.bytes[i]? = v.bytes[i]?) : u = v := by
  have h1 := good_all.locOk _ v.bytes 0 u _ (all_self hu) h
  rw [all_self hv] at h1
  cases h1; rfl
/-- Cut short: refused at the cut. -/
theorem cut_err {u : Un} (hu : u.fault = 0) {k : Nat} (hk : k < u.bytes.length) : rAll (u.bytes.take k) 0 = .error k := by
  have hl : (u.bytes.take k).length = k := by rw [List.length_take]; omega
  have ht : ∀ i, i < k → (u.bytes.take k)[i]? = u.bytes[i]? := fun i hi => by rw [List.getElem?_take]; simp [hi]
  cases e : rAll (u.bytes.take k) 0 with
  | error q =>
    have h1 := good_all.leErr _ _ _ e (Nat.zero_le _)
    rw [hl] at h1
    by_cases hq : q = k
    · rw [hq]
    · have h2 := good_all.locErr _ u.bytes _ _ e (fun i hi => ht i (by omega))
      rw [all_self hu] at h2
      cases h2
  | ok z =>
    obtain ⟨v, q⟩ := z
    have h1 := good_all.leOk _ _ _ _ e (Nat.zero_le _)
    rw [hl] at h1
    have h2 := good_all.locOk _ u.bytes _ _ _ e (fun i hi => ht i (by omega))
    rw [all_self hu] at h2
    cases h2
    omega

theorem cop : ∀ d, d < 256 → 0 < d → Nat.gcd 65521 d = 1 := by decide +kernel
theorem chk_dif {f g : Nat → Nat} {i : Nat} (hfg : ∀ j, j ≠ i → f j = g j) : ∀ k, ((chkTo f k : Int) - chkTo g k - (if i < k then ((i : Int) + 1) * ((f i : Int) - g i) else 0)) % 65521 = 0 := by
  intro k
  induction k with
  | zero => rfl
  | succ k ih =>
    unfold chkTo
    by_cases hk : k = i
    · subst hk
      rw [if_neg (Nat.lt_irrefl _)] at ih
      rw [if_pos (Nat.lt_succ_self _)]
      have e : ((k : Int) + 1) * ((f k : Int) - g k) = ((k + 1) * f k : Nat) - ((k + 1) * g k : Nat) := by
        rw [Int.mul_sub]; push_cast; rfl
      rw [e]
      generalize (k + 1) * f k = x at *
      generalize (k + 1) * g k = y at *
      omega
    · rw [hfg k hk]
      have e : (if i < k + 1 then ((i : Int) + 1) * ((f i : Int) - g i) else 0) = (if i < k then ((i : Int) + 1) * ((f i : Int) - g i) else 0) := by
        by_cases h : i < k
        · rw [if_pos h, if_pos (by omega)]
        · rw [if_neg h, if_neg (by omega)]
      rw [e]
      generalize (k + 1) * g k = y at *
      generalize (if i < k then ((i : Int) + 1) * ((f i : Int) - g i) else 0) = z at *
      omega
/-- One byte changed changes the check. -/
theorem chk_step {f g : Nat → Nat} {i : Nat} (hi : (i + 1) % 65521 ≠ 0) (hfg : ∀ j, j ≠ i → f j = g j) (hf : f i < 256) (hg : g i < 256) (hne : f i ≠ g i) (k : Nat) (hk : i < k) : chkTo f k ≠ chkTo g k := by
  intro e
  have h := chk_dif hfg k
  rw [if_pos hk, e] at h
  have h1 : (65521 : Int) ∣ ((i : Int) + 1) * ((f i : Int) - g i) := by
    generalize ((i : Int) + 1) * ((f i : Int) - g i) = z at *
    omega
  have h2 : 65521 ∣ (i + 1) * ((f i : Int) - g i).natAbs := by
    have := Int.natAbs_dvd_natAbs.2 h1
    rw [Int.natAbs_mul] at this
    exact this
  have h3 := Nat.Coprime.dvd_of_dvd_mul_right (cop _ (by omega) (by omega)) h2
  exact hi (Nat.mod_eq_zero_of_dvd h3)

/-- The readers' last word: a unit, or the place at which the bytes are wrong. -/
def dec (b : List Nat) : Except Nat Un :=
  match rAll b 0 with
  | .error q => .error q
  | .ok (u, q) => if q < b.length then .error q else .ok u
theorem dec_self {u : Un} (h : u.fault = 0) : dec u.bytes = .ok u := by
  unfold dec; rw [all_self h]; simp
theorem at_full {b xs : List Nat} (h : At b 0 xs) (hl : b.length = xs.length) : b = xs := by
  apply List.ext_getElem?
  intro i
  by_cases hi : i < xs.length
  · have := h i hi
    rwa [Nat.zero_add] at this
  · rw [List.getElem?_eq_none (by omega), List.getElem?_eq_none (by omega)]
theorem dec_ok {b : List Nat} {u : Un} (h : dec b = .ok u) : u.fault = 0 ∧ b = u.bytes := by
  unfold dec at h
  cases e : rAll b 0 with
  | error q => rw [e] at h; cases h
  | ok z =>
    obtain ⟨v, q⟩ := z
    rw [e] at h
    simp only at h
    have hle := good_all.leOk _ _ _ _ e (Nat.zero_le _)
    obtain ⟨h1, h2, h3⟩ := good_all.sound _ _ _ _ e
    split at h
    · cases h
    · cases h
      exact ⟨h1, at_full h3 (by omega)⟩
theorem dec_le {b : List Nat} {q : Nat} (h : dec b = .error q) : q ≤ b.length := by
  unfold dec at h
  cases e : rAll b 0 with
  | error q' => rw [e] at h; cases h; exact good_all.leErr _ _ _ e (Nat.zero_le _)
  | ok z =>
    obtain ⟨v, q'⟩ := z
    rw [e] at h
    simp only at h
    split at h
    · cases h; omega
    · cases h
theorem dec_cut {u : Un} (hu : u.fault = 0) {k : Nat} (hk : k < u.bytes.length) : dec (u.bytes.take k) = .error k := by
  unfold dec; rw [cut_err hu hk]
theorem by16_len (n : Int) : (by16 n).length = 2 := rfl
theorem by16_inj {m n : Nat} (hm : m < 65536) (hn : n < 65536) (h0 : (by16 (m : Int))[0]? = (by16 (n : Int))[0]?) (h1 : (by16 (m : Int))[1]? = (by16 (n : Int))[1]?) : m = n := by
  simp only [by16, by8, List.getElem?_cons_zero, List.getElem?_cons_succ, Option.some.injEq] at h0 h1
  omega
theorem chk_lt (b : List Nat) : chk b < 65536 := by
  have := chkTo_lt (fun i => b.getD i 0) b.length
  unfold chk; omega
/-- One byte changed: refused, and not ahead of it. -/
theorem dec_change {u : Un} (hu : u.fault = 0) {l : List Nat} {i : Nat} (hl : l.length = u.bytes.length) (hi : i < u.bytes.length) (hm : (i + 1) % 65521 ≠ 0)
    (hs : ∀ j, j ≠ i → l[j]? = u.bytes[j]?) (hne : l.getD i 0 ≠ u.bytes.getD i 0) (hlt : ∀ j, l.getD j 0 < 256) (hlu : ∀ j, u.bytes.getD j 0 < 256) : ∃ q, dec l = .error q ∧ i ≤ q := by
  unfold dec
  cases e : rAll l 0 with
  | error q =>
    refine ⟨q, rfl, ?_⟩
    by_cases hq : i ≤ q
    · exact hq
    · have h2 := good_all.locErr _ u.bytes _ _ e (fun j hj => hs j (by omega))
      rw [all_self hu] at h2
      cases h2
  | ok z =>
    obtain ⟨v, q⟩ := z
    simp only
    have hle := good_all.leOk _ _ _ _ e (Nat.zero_le _)
    by_cases hq : q < l.length
    · rw [if_pos hq]
      refine ⟨q, rfl, ?_⟩
      by_cases hq' : i ≤ q
      · exact hq'
      · have h2 := good_all.locOk _ u.bytes _ _ _ e (fun j hj => hs j (by omega))
        rw [all_self hu] at h2
        cases h2
        omega
    · exfalso
      obtain ⟨h1, h2, h3⟩ := good_all.sound _ _ _ _ e
      have hlv : l = v.bytes := at_full h3 (by omega)
      have hlen : v.body.length = u.body.length := by
        have := congrArg List.length hlv
        rw [hl] at this
        unfold Un.bytes at this
        rw [List.length_append, List.length_append, by16_len, by16_len] at this
        omega
      have hul : u.bytes.length = u.body.length + 2 := by unfold Un.bytes; rw [List.length_append, by16_len]
      by_cases hb : i < u.body.length
      · have hc : chk v.body = chk u.body := by
          have g : ∀ k, k < 2 → (by16 ((chk v.body : Nat) : Int))[k]? = (by16 ((chk u.body : Nat) : Int))[k]? := by
            intro k hk
            have := hs (u.body.length + k) (by omega)
            rw [hlv] at this
            unfold Un.bytes at this
            rw [List.getElem?_append_right (by omega), List.getElem?_append_right (by omega), hlen, Nat.add_sub_cancel_left] at this
            exact this
          exact by16_inj (chk_lt _) (chk_lt _) (g 0 (by omega)) (g 1 (by omega))
        have hvl : ∀ j, j < u.body.length → v.body[j]? = l[j]? := fun j hj => by
          rw [hlv]; unfold Un.bytes; rw [List.getElem?_append_left (by omega)]
        have hul' : ∀ j, j < u.body.length → u.body[j]? = u.bytes[j]? := fun j hj => by
          unfold Un.bytes; rw [List.getElem?_append_left (by omega)]
        unfold chk at hc
        rw [hlen] at hc
        have := chk_step (f := fun j => v.body.getD j 0) (g := fun j => u.body.getD j 0) (i := i) hm
          (fun j hj => by
            simp only [List.getD_eq_getElem?_getD]
            by_cases hjl : j < u.body.length
            · rw [hvl j hjl, hul' j hjl, hs j hj]
            · rw [List.getElem?_eq_none (by omega), List.getElem?_eq_none (by omega)])
          (by have := hlt i; simp only [List.getD_eq_getElem?_getD] at this ⊢; rw [hvl i hb]; exact this)
          (by have := hlu i; simp only [List.getD_eq_getElem?_getD] at this ⊢; rw [hul' i hb]; exact this)
          (by simp only [List.getD_eq_getElem?_getD] at hne ⊢; rw [hvl i hb, hul' i hb]; exact hne)
          u.body.length hb
        exact this hc
      · have hbody : v.body = u.body := by
          apply List.ext_getElem?
          intro j
          by_cases hj : j < u.body.length
          · have := hs j (by omega)
            rw [hlv] at this
            unfold Un.bytes at this
            rw [List.getElem?_append_left (by omega), List.getElem?_append_left (by omega)] at this
            exact this
          · rw [List.getElem?_eq_none (by omega), List.getElem?_eq_none (by omega)]
        apply hne
        rw [hlv]
        unfold Un.bytes
        rw [hbody]
theorem flat_lt {α : Type} {f : α → List Nat} (h : ∀ x, ∀ n ∈ f x, n < 256) (l : List α) : ∀ n ∈ l.flatMap f, n < 256 := by
  intro n hn
  obtain ⟨x, _, hx⟩ := List.mem_flatMap.1 hn
  exact h x n hx
theorem by16_mem {k : Int} {n : Nat} (h : n ∈ by16 k) : n < 256 := by
  simp only [by16, List.mem_cons, List.not_mem_nil, or_false] at h
  rcases h with h | h <;> (rw [h]; exact by8_lt _)
theorem pr_lt (p : Pr) : ∀ n ∈ p.bytes, n < 256 := by
  intro n hn
  unfold Pr.bytes at hn
  simp only [List.mem_append, List.mem_cons, List.not_mem_nil, or_false, List.mem_map] at hn
  rcases hn with (((( h | h) | h) | h) | h) | h
  · rw [h]; exact by8_lt _
  · rw [h]; exact by8_lt _
  · exact by16_mem h
  · refine flat_lt (fun i n hn => ?_) _ n h
    unfold Ins.bytes at hn
    simp only [List.mem_append, List.mem_cons, List.not_mem_nil, or_false] at hn
    rcases hn with (h | h | h | h) | h
    · rw [h]; exact by8_lt _
    · rw [h]; exact by8_lt _
    · rw [h]; exact by8_lt _
    · rw [h]; exact by8_lt _
    · exact by16_mem h
  · rw [h]; exact by8_lt _
  · obtain ⟨x, _, rfl⟩ := h; exact by8_lt _
theorem body_lt (u : Un) : ∀ n ∈ u.body, n < 256 := by
  intro n hn
  unfold Un.body at hn
  simp only [List.mem_append, List.mem_cons, List.not_mem_nil, or_false] at hn
  rcases hn with ((((h | h | h | h | h | h | h) | h) | h) | h) | h
  · omega
  · omega
  · omega
  · omega
  · rw [h]; exact by8_lt _
  · rw [h]; exact by8_lt _
  · rw [h]; exact by8_lt _
  · refine flat_lt (fun x n hn => ?_) _ n h
    simp only [ptBytes, List.mem_cons, List.not_mem_nil, or_false] at hn
    rcases hn with h | h <;> (rw [h]; exact by8_lt _)
  · exact pr_lt _ n h
  · exact pr_lt _ n h
  · exact pr_lt _ n h
theorem bytes_lt (u : Un) : ∀ n ∈ u.bytes, n < 256 := by
  intro n hn
  unfold Un.bytes at hn
  rcases List.mem_append.1 hn with h | h
  · exact body_lt u n h
  · exact by16_mem h

/-! Readers in memory: a place, and whether the bytes are wrong there. -/
/-- What a reader's call leaves: from a right place the value and the next one, or the wrong place; from a wrong one nothing. -/
def Out {α : Type} (r : List Nat → Nat → Rd α) (b : List Nat) (s : Nat × Bool) (v : α) (s' : Nat × Bool) : Prop :=
  match s with
  | (p, true) => s' = (p, true)
  | (p, false) => match r b p with
    | .ok (x, q) => v = x ∧ s' = (q, false)
    | .error q => s' = (q, true)
theorem Out.seq {α β : Type} {r1 : List Nat → Nat → Rd α} {r2 : α → List Nat → Nat → Rd β} {b : List Nat} {s s1 s2 : Nat × Bool} {x : α} {y : β} (h1 : Out r1 b s x s1) (h2 : Out (r2 x) b s1 y s2) : Out (seqR r1 r2) b s (x, y) s2 := by
  obtain ⟨p, wr⟩ := s
  cases wr with
  | true =>
    have h1 : s1 = (p, true) := h1
    subst h1
    exact h2
  | false =>
    unfold Out at h1
    simp only at h1
    unfold Out seqR andR
    simp only
    cases e : r1 b p with
    | error q =>
      rw [e] at h1
      simp only at h1 ⊢
      subst h1
      exact h2
    | ok z =>
      obtain ⟨x', q⟩ := z
      rw [e] at h1
      simp only at h1 ⊢
      obtain ⟨rfl, rfl⟩ := h1
      unfold Out at h2
      simp only at h2
      cases e2 : r2 x b q with
      | error q2 => rw [e2] at h2; exact h2
      | ok z2 =>
        obtain ⟨y', q2⟩ := z2
        rw [e2] at h2
        simp only at h2 ⊢
        obtain ⟨rfl, rfl⟩ := h2
        exact ⟨rfl, rfl⟩
theorem Out.map {α β : Type} {r : List Nat → Nat → Rd α} {b : List Nat} {s s1 : Nat × Bool} {x : α} (h : Out r b s x s1) (f : α → β) : Out (fun b p => andR (r b p) fun v q => .ok (f v, q)) b s (f x) s1 := by
  obtain ⟨p, wr⟩ := s
  cases wr with
  | true => exact h
  | false =>
    unfold Out at h ⊢
    unfold andR
    simp only at h ⊢
    cases e : r b p with
    | error q => rw [e] at h; exact h
    | ok z =>
      obtain ⟨x', q⟩ := z
      rw [e] at h
      simp only at h ⊢
      exact ⟨by rw [h.1], h.2⟩
theorem Out.nil {α : Type} (r : List Nat → Nat → Rd α) (b : List Nat) (s : Nat × Bool) : Out (rMany r 0) b s [] s := by
  obtain ⟨p, wr⟩ := s
  cases wr with
  | true => exact rfl
  | false => exact ⟨rfl, rfl⟩
theorem Out.snoc {α : Type} {r : List Nat → Nat → Rd α} {b : List Nat} {k : Nat} {s s1 s2 : Nat × Bool} {xs : List α} {x : α} (h1 : Out (rMany r k) b s xs s1) (h2 : Out r b s1 x s2) : Out (rMany r (k + 1)) b s (xs ++ [x]) s2 := by
  have h := (h1.seq (r2 := fun _ => r) h2).map (fun v => v.1 ++ [v.2])
  have e : (fun (b : List Nat) (p : Nat) => andR (seqR (rMany r k) (fun _ => r) b p) fun v q => (.ok (v.1 ++ [v.2], q) : Rd (List α))) = rMany r (k + 1) := by
    funext b p
    show _ = andR (rMany r k b p) fun xs q => andR (r b q) fun x q => .ok (xs ++ [x], q)
    unfold seqR andR
    cases rMany r k b p with
    | error e => rfl
    | ok z =>
      obtain ⟨xs, q⟩ := z
      simp only
      cases r b q with
      | error e => rfl
      | ok z => rfl
  rwa [e] at h
/-- Wrong once, wrong for good. -/
theorem Out.stop {α : Type} {r : List Nat → Nat → Rd α} {b : List Nat} {k n : Nat} {s s1 : Nat × Bool} {xs : List α} (h : Out (rMany r k) b s xs s1) (hw : s1.2 = true) (hk : k ≤ n) (ys : List α) : Out (rMany r n) b s ys s1 := by
  obtain ⟨q, wr⟩ := s1
  cases hw
  induction n with
  | zero =>
    obtain rfl : k = 0 := by omega
    obtain ⟨p, wr⟩ := s
    cases wr with
    | true => exact h
    | false => exact absurd h.2 (by simp)
  | succ n ih =>
    by_cases e : k = n + 1
    · subst e
      obtain ⟨p, wr⟩ := s
      cases wr with
      | true => exact h
      | false =>
        unfold Out at h ⊢
        simp only at h ⊢
        cases e : rMany r (n + 1) b p with
        | error q => rw [e] at h; exact h
        | ok z => rw [e] at h; exact absurd h.2 (by simp)
    · have h1 := ih (by omega)
      obtain ⟨p, wr⟩ := s
      cases wr with
      | true => exact h1
      | false =>
        unfold Out at h1 ⊢
        simp only at h1 ⊢
        unfold rMany andR
        cases e : rMany r n b p with
        | error q => rw [e] at h1; exact h1
        | ok z => rw [e] at h1; exact absurd h1.2 (by simp)
theorem Out.wrong {α : Type} {r : List Nat → Nat → Rd α} {b : List Nat} {s s1 : Nat × Bool} {x : α} (h : Out r b s x s1) (hw : s.2 = true) (y : α) : Out r b s y s1 := by
  obtain ⟨p, wr⟩ := s
  cases hw
  exact h
/-- From a right place to a wrong one: the value is none of it. -/
theorem Out.any {α : Type} {r : List Nat → Nat → Rd α} {b : List Nat} {s s1 : Nat × Bool} {x : α} (h : Out r b s x s1) (hw : s1.2 = true) (y : α) : Out r b s y s1 := by
  obtain ⟨p, wr⟩ := s
  obtain ⟨q, wr1⟩ := s1
  cases hw
  cases wr with
  | true => exact h
  | false =>
    unfold Out at h ⊢
    simp only at h ⊢
    cases e : r b p with
    | error q => rw [e] at h; exact h
    | ok z => rw [e] at h; exact absurd h.2 (by simp)
end Go.Proofs.Ytcelcognmdcenaa

/-
  Steps towards TopCounts (no conditions of their own): PLAINLY: the program that interpolates, the program that evaluates. LOOPS AND JOINS whose states are told anew at the end of each way; what a program is in memory. STRUCTS OF NUMBERS, compared.
-/
import Derived.Test.YthkoodpnepfijaaGreatDoorM08
import Derived.Test.YthkoodpnepfijaaGreatDoorM09
/- PU: PLAINLY: the program that interpolates, the program that evaluates. -/
namespace Go.Proofs.YthkoodpnepfijaaGreatDoor
set_option linter.unusedVariables false

/-! ### what divides both coordinates, and how it is put together -/
def gcdP (p : Pnt) : Int := (Int.gcd p.A p.B : Nat)
def bezS (A B g : Int) : Nat → Int → Int × Int
  | 0, _ => (0, 0)
  | f + 1, u => if (g - u * A).tmod B = 0 then (u, (g - u * A).tdiv B) else if (g - -u * A).tmod B = 0 then (-u, (g - -u * A).tdiv B) else bezS A B g f (u + 1)
def bezP (p : Pnt) : Int × Int := if gcdP p = 0 then (0, 0) else if p.B = 0 then (p.A.tdiv (gcdP p), 0) else bezS p.A p.B (gcdP p) 17 0
def prim (p : Pnt) : Pnt := ⟨p.A.tdiv (gcdP p), p.B.tdiv (gcdP p)⟩
def InP (p : Pnt) : Prop := -16 ≤ p.A ∧ p.A ≤ 16 ∧ -16 ≤ p.B ∧ p.B ≤ 16
instance (p : Pnt) : Decidable (InP p) := inferInstanceAs (Decidable (_ ∧ _))
def NotP (p : Pnt) : Prop := p.A = 0 ∧ p.B = 0
instance (p : Pnt) : Decidable (NotP p) := inferInstanceAs (Decidable (_ ∧ _))
/-- What is true of each point. -/
structure BzOk (p : Pnt) : Prop where
  g0 : 0 < gcdP p
  g16 : gcdP p ≤ 16
  eq : (bezP p).1 * p.A + (bezP p).2 * p.B = gcdP p
  u16 : -16 ≤ (bezP p).1 ∧ (bezP p).1 ≤ 16
  v16 : -16 ≤ (bezP p).2 ∧ (bezP p).2 ≤ 16
  pa : p.A = gcdP p * (prim p).A
  pb : p.B = gcdP p * (prim p).B
  pg : gcdP (prim p) = 1
  pin : InP (prim p)
  pn : ¬ NotP (prim p)
theorem BzOk_iff (p : Pnt) : BzOk p ↔ 0 < gcdP p ∧ gcdP p ≤ 16 ∧ (bezP p).1 * p.A + (bezP p).2 * p.B = gcdP p ∧ (-16 ≤ (bezP p).1 ∧ (bezP p).1 ≤ 16) ∧ (-16 ≤ (bezP p).2 ∧ (bezP p).2 ≤ 16) ∧ p.A = gcdP p * (prim p).A ∧ p.B = gcdP p * (prim p).B ∧ gcdP (prim p) = 1 ∧ InP (prim p) ∧ ¬ NotP (prim p) :=
  ⟨fun h => ⟨h.g0, h.g16, h.eq, h.u16, h.v16, h.pa, h.pb, h.pg, h.pin, h.pn⟩, fun ⟨a, b, c, d, e, f, g, h, i, j⟩ => ⟨a, b, c, d, e, f, g, h, i, j⟩⟩
instance (p : Pnt) : Decidable (BzOk p) := decidable_of_iff _ (BzOk_iff p).symm
theorem bz_all : ∀ a b : Fin 33, NotP ⟨(a.val : Int) - 16, (b.val : Int) - 16⟩ ∨ BzOk ⟨(a.val : Int) - 16, (b.val : Int) - 16⟩ := by decide +kernel
theorem bz_ok {p : Pnt} (h : InP p) (hn : ¬ NotP p) : BzOk p := by
  obtain ⟨A, B⟩ := p
  obtain ⟨h1, h2, h3, h4⟩ := h
  simp only at h1 h2 h3 h4
  have := bz_all ⟨(A + 16).toNat, by omega⟩ ⟨(B + 16).toNat, by omega⟩
  simp only at this
  rw [show (((A + 16).toNat : Nat) : Int) - 16 = A by omega, show (((B + 16).toNat : Nat) : Int) - 16 = B by omega] at this
  rcases this with h | h
  · exact absurd h hn
  · exact h

/-! ### the program that interpolates -/
def ptAt (l : List Pnt) (k : Nat) : Pnt := l.getD k ⟨0, 0⟩
def whole (l : List Pnt) (k : Nat) : Pnt := prim (ptAt l k)
def uvAt (l : List Pnt) (k : Nat) : Int × Int := bezP (whole l k)
def preI (n : Nat) (l : List Pnt) (k : Nat) : List Ins := (List.replicate (n - 1) (ov (k : Nat) (gcdP (ptAt l k)))).flatten
def madeC (l : List Pnt) : List Ins := (List.range l.length).flatMap (preI l.length l) ++ solve l.length (whole l) (uvAt l) (l.length - 1) 0
def madeP (l : List Pnt) : Prg := ⟨(l.length : Nat), (3 * l.length + 1 : Nat), madeC l, (List.range l.length).map fun j => ((l.length + j : Nat) : Int)⟩
/-- Right points: within, none nought, no two one. -/
structure RightP (l : List Pnt) : Prop where
  len : 1 ≤ l.length
  len15 : l.length ≤ 15
  inp : ∀ p ∈ l, InP p
  notp : ∀ p ∈ l, ¬ NotP p
  twin : ∀ i j, i < l.length → j < l.length → i ≠ j → (ptAt l i).A * (ptAt l j).B - (ptAt l j).A * (ptAt l i).B ≠ 0
theorem RightP.bz {l : List Pnt} (h : RightP l) {i : Nat} (hi : i < l.length) : BzOk (ptAt l i) := by
  have hm : ptAt l i ∈ l := by unfold ptAt; rw [List.getD_eq_getElem?_getD, List.getElem?_eq_getElem hi]; exact List.getElem_mem hi
  exact bz_ok (h.inp _ hm) (h.notp _ hm)
theorem RightP.bzw {l : List Pnt} (h : RightP l) {i : Nat} (hi : i < l.length) : BzOk (whole l i) := bz_ok (h.bz hi).pin (h.bz hi).pn
/-- The values of a polynomial at points. -/
def vals (c : Nat → Int) (e : Nat) (l : List Pnt) : List Int := l.map fun p => V c e p.A p.B
theorem pre_run {k : Nat} {g x : Int} (hg : g ≠ 0) : ∀ (m : Nat) (s : Rg), s k = g ^ m * x → exec ((List.replicate m (ov (k : Nat) g)).flatten) s = some (s.set k x)
  | 0, s, h => by rw [List.replicate_zero, List.flatten_nil, exec_nil, Rg.set_self]; rw [h]; simp
  | m + 1, s, h => by
    rw [List.replicate_succ, List.flatten_cons]
    refine exec_two (ov_run (k : Nat) g s (g ^ m * x) hg (by rw [h, Int.pow_succ]; grind)) ?_
    rw [pre_run hg m _ (Rg.set_same ..), Rg.set_set]
theorem pres_run {n : Nat} {l : List Pnt} {x : Nat → Int} : ∀ (ks : List Nat) (s : Rg), ks.Nodup → (∀ k ∈ ks, gcdP (ptAt l k) ≠ 0) → (∀ k ∈ ks, s (k : Nat) = gcdP (ptAt l k) ^ (n - 1) * x k) →
    ∃ t, exec (ks.flatMap (preI n l)) s = some t ∧ (∀ k ∈ ks, t (k : Nat) = x k) ∧ Agr (fun r => ∃ k ∈ ks, r = (k : Nat)) s t
  | [], s, _, _, _ => ⟨s, rfl, (fun k hk => by cases hk), Agr.refl _ _⟩
  | k :: ks, s, hnd, hg, h => by
    obtain ⟨t, b1, b2, b3⟩ := pres_run (n := n) (x := x) ks (s.set (k : Nat) (x k)) (List.nodup_cons.1 hnd).2 (fun j hj => hg j (List.mem_cons_of_mem _ hj)) (fun j hj => by
      rw [Rg.set_ne _ _ (fun e => (List.nodup_cons.1 hnd).1 (mem_eq (by omega) hj))]; exact h j (List.mem_cons_of_mem _ hj))
    refine ⟨t, exec_two (pre_run (hg k (List.mem_cons_self ..)) _ s (h k (List.mem_cons_self ..))) b1, fun j hj => ?_, Agr.trans (fun r hr => Rg.set_ne _ _ fun e => hr ⟨k, List.mem_cons_self .., e⟩) (b3.mono fun r ⟨j, hj, e⟩ => ⟨j, List.mem_cons_of_mem _ hj, e⟩)⟩
    rcases List.mem_cons.1 hj with rfl | hj
    · rw [b3 _ fun ⟨q, hq, e⟩ => (List.nodup_cons.1 hnd).1 (mem_eq (by omega) hq), Rg.set_same]
    · exact b2 j hj
theorem rg0_at (l : List Int) (k : Nat) : rg0 l (k : Nat) = l.getD k 0 := by unfold rg0; rw [if_pos (by omega), Int.toNat_natCast]
/-- **The program answers the coefficients.** -/
theorem made_runs {l : List Pnt} (h : RightP l) (c : Nat → Int) (hc : ∀ j, l.length ≤ j → c j = 0) : Runs (madeP l) (vals c (l.length - 1) l) ((List.range l.length).map c) := by
  have hlen := h.len
  obtain ⟨s1, a1, a2, a3⟩ := pres_run (n := l.length) (l := l) (x := fun k => V c (l.length - 1) (whole l k).A (whole l k).B) (List.range l.length) (rg0 (vals c (l.length - 1) l)) List.nodup_range (fun k hk => by
    have := (h.bz (List.mem_range.1 hk)).g0; omega) (fun k hk => by
    have hk := List.mem_range.1 hk
    rw [rg0_at, ← V_scale]
    have hb := h.bz hk
    show (vals _ _ _).getD k 0 = V c (l.length - 1) (gcdP (ptAt l k) * (prim (ptAt l k)).A) (gcdP (ptAt l k) * (prim (ptAt l k)).B)
    rw [← hb.pa, ← hb.pb]
    unfold vals ptAt
    simp [List.getD_eq_getElem?_getD, hk])
  have hd : ∀ i j, i < l.length → j < l.length → i ≠ j → (whole l i).A * (whole l j).B - (whole l j).A * (whole l i).B ≠ 0 := fun i j hi hj hij h0 => by
    have h1 := h.twin i j hi hj hij
    rw [(h.bz hi).pa, (h.bz hi).pb, (h.bz hj).pa, (h.bz hj).pb] at h1
    apply h1
    show gcdP (ptAt l i) * (whole l i).A * (gcdP (ptAt l j) * (whole l j).B) - gcdP (ptAt l j) * (whole l j).A * (gcdP (ptAt l i) * (whole l i).B) = 0
    have : gcdP (ptAt l i) * (whole l i).A * (gcdP (ptAt l j) * (whole l j).B) - gcdP (ptAt l j) * (whole l j).A * (gcdP (ptAt l i) * (whole l i).B) = gcdP (ptAt l i) * gcdP (ptAt l j) * ((whole l i).A * (whole l j).B - (whole l j).A * (whole l i).B) := by grind
    rw [this, h0]; simp
  obtain ⟨s2, b1, b2, b3⟩ := solve_run (n := l.length) (W := whole l) (uv := uvAt l) hd (fun i hi => (h.bzw hi).eq.trans (h.bz hi).pg) (l.length - 1) 0 c s1 (by omega) (fun j hj => hc j (by omega)) (fun i _ hi => a2 i (List.mem_range.2 hi))
  refine ⟨s2, exec_two a1 b1, ?_⟩
  show _ = ((List.range l.length).map fun j => ((l.length + j : Nat) : Int)).map s2
  rw [List.map_map]
  refine List.map_congr_left fun j hj => ?_
  have := b2 j (by have := List.mem_range.1 hj; omega)
  exact this.symm

/-! ### the program that evaluates -/
def evTimes (to a c : Int) : Ins := if c = 1 then ⟨1, to, a, 0, 0⟩ else if c = -1 then ⟨2, to, a, 0, 0⟩ else if c = 2 then ⟨7, to, a, 0, 1⟩ else if c = 4 then ⟨7, to, a, 0, 2⟩ else if c = 8 then ⟨7, to, a, 0, 3⟩ else if c = 16 then ⟨7, to, a, 0, 4⟩ else ⟨5, to, a, 0, c⟩
def evAdd (i : Ins) : List Ins := if i.op ≠ 1 ∨ i.to ≠ i.a then [i] else []
def scaledL (to c : Int) : Nat → Int → List Ins
  | 0, _ => []
  | n + 1, a => evAdd (evTimes to a c) ++ scaledL to c n to
def evTerm (to term : Int) (q : Pnt) (n j : Nat) : List Ins := if q.B = 1 ∨ (q.B = -1 ∧ n % 2 = 0) then [⟨3, to, to, (j : Nat), 0⟩] else if q.B = -1 then [⟨4, to, to, (j : Nat), 0⟩] else scaledL term q.B n (j : Nat) ++ [⟨3, to, to, term, 0⟩]
/-- The places j - 1 .. 0 of e + 1. -/
def evJ (e : Nat) (to term : Int) (q : Pnt) : Nat → Int → List Ins
  | 0, _ => []
  | j + 1, fr => evAdd (evTimes to fr q.A) ++ evTerm to term q (e - j) j ++ evJ e to term q j to
def evPt (k n i : Nat) (q : Pnt) : List Ins :=
  if k = 1 then [] else if q.A = 0 ∧ q.B = 0 then [⟨4, (k + i : Nat), 0, 0, 0⟩] else if q.A = 0 then scaledL (k + i : Nat) q.B (k - 1) 0 else if q.B = 0 then scaledL (k + i : Nat) q.A (k - 1) (k - 1 : Nat) else evJ (k - 1) (k + i : Nat) (k + n : Nat) q (k - 1) (k - 1 : Nat)
def evalC (k : Nat) (l : List Pnt) : List Ins := (List.range l.length).flatMap fun i => evPt k l.length i (ptAt l i)
def evalP (k : Nat) (l : List Pnt) : Prg := ⟨(k : Nat), (k + l.length + 1 : Nat), evalC k l, (List.range l.length).map fun i => if k = 1 then 0 else ((k + i : Nat) : Int)⟩
theorem evAdd_run {i : Ins} {s t : Rg} (h : stepI i s = some t) : exec (evAdd i) s = some t := by
  unfold evAdd
  split
  · rw [exec_one]; exact h
  · rename_i hn
    have h1 : i.op = 1 ∧ i.to = i.a := by omega
    rw [exec_nil, ← h]
    simp [stepI, Ins.val, h1.1, h1.2, Rg.set_self]
theorem evTimes_run (to a c : Int) (s : Rg) : stepI (evTimes to a c) s = some (s.set to (s a * c)) := by
  unfold evTimes
  split
  · rename_i h; simp [stepI, Ins.val, h]
  split
  · rename_i h; simp [stepI, Ins.val, h]
  split
  · rename_i h; simp [stepI, Ins.val, h]
  split
  · rename_i h; simp [stepI, Ins.val, h]
  split
  · rename_i h; simp [stepI, Ins.val, h]
  split
  · rename_i h; simp [stepI, Ins.val, h]
  · simp [stepI, Ins.val]
theorem scaled_run (to c : Int) : ∀ (n : Nat) (a : Int) (s : Rg), 0 < n → exec (scaledL to c n a) s = some (s.set to (s a * c ^ n))
  | 0, a, s, h => by omega
  | 1, a, s, _ => by rw [scaledL, scaledL, List.append_nil, evAdd_run (evTimes_run ..), Int.pow_one]
  | n + 2, a, s, _ => by
    rw [scaledL]
    refine exec_two (evAdd_run (evTimes_run ..)) ?_
    rw [scaled_run to c (n + 1) to _ (by omega), Rg.set_same, Rg.set_set]
    congr 2
    rw [Int.pow_succ c (n + 1)]; grind
def Th (c : Nat → Int) (e : Nat) (A B : Int) : Nat → Int
  | 0 => c e
  | i + 1 => A * Th c e A B i + c (e - 1 - i) * B ^ (i + 1)
def Vs (c : Nat → Int) (A B : Int) : Nat → Int
  | 0 => 0
  | m + 1 => B * Vs c A B m + c m * A ^ m
theorem Vs_V (c : Nat → Int) (A B : Int) : ∀ m, Vs c A B (m + 1) = V c m A B
  | 0 => by simp [Vs, V]
  | m + 1 => by rw [Vs, Vs_V c A B m, V]
theorem V_Th (c : Nat → Int) (e : Nat) (A B : Int) : ∀ i, i ≤ e → V c e A B = A ^ (e - i) * Th c e A B i + B ^ (i + 1) * Vs c A B (e - i)
  | 0, _ => by rw [← Vs_V, Vs, Th, Nat.sub_zero]; grind
  | i + 1, h => by
    rw [V_Th c e A B i (by omega), Th]
    obtain ⟨m, hm⟩ : ∃ m, e - i = m + 1 := ⟨e - i - 1, by omega⟩
    rw [hm, show e - (i + 1) = m by omega, show e - 1 - i = m by omega, Vs, Int.pow_succ, Int.pow_succ B (i + 1)]
    grind
theorem evTerm_run {to term : Int} {q : Pnt} {n j : Nat} (s : Rg) (hn : 0 < n) (hjt : (j : Int) ≠ to) (ht : term ≠ to) : ∃ t, exec (evTerm to term q n j) s = some t ∧ t to = s to + s (j : Nat) * q.B ^ n ∧ Agr (fun r => r = to ∨ r = term) s t := by
  unfold evTerm
  split
  · rename_i h
    refine ⟨_, add_run .., ?_, fun r hr => Rg.set_ne _ _ (by omega)⟩
    rw [Rg.set_same]
    rcases h with h | ⟨h, h2⟩
    · rw [h, Int.one_pow]; omega
    · rw [h, neg_one_pow, if_pos h2]; omega
  · rename_i h
    split
    · rename_i h1
      refine ⟨_, sub_run .., ?_, fun r hr => Rg.set_ne _ _ (by omega)⟩
      rw [Rg.set_same, h1, neg_one_pow, if_neg (by omega)]; omega
    · refine ⟨_, exec_two (scaled_run _ _ _ _ _ hn) (add_run ..), ?_, fun r hr => ?_⟩
      · rw [Rg.set_same, Rg.set_ne _ _ (Ne.symm ht), Rg.set_same]
      · rw [Rg.set_ne _ _ (by omega), Rg.set_ne _ _ (by omega)]
theorem evJ_run {e : Nat} {to term : Int} {q : Pnt} {c : Nat → Int} (hto : (e : Int) < to) (htm : (e : Int) < term) (hne : term ≠ to) : ∀ (j : Nat) (fr : Int) (s : Rg), j ≤ e → (∀ i, i ≤ e → s (i : Nat) = c i) → s fr = Th c e q.A q.B (e - j) → (0 < j ∨ fr = to) → ∃ t, exec (evJ e to term q j fr) s = some t ∧ t to = Th c e q.A q.B e ∧ Agr (fun r => r = to ∨ r = term) s t
  | 0, fr, s, _, _, hf, hz => by
    rw [Nat.sub_zero] at hf
    rcases hz with h | h
    · omega
    · exact ⟨s, rfl, h ▸ hf, Agr.refl _ _⟩
  | j + 1, fr, s, hj, hs, hf, _ => by
    obtain ⟨t1, a1, a2, a3⟩ := evTerm_run (q := q) (n := e - j) (j := j) (s.set to (s fr * q.A)) (by omega) (by omega) hne
    obtain ⟨t2, b1, b2, b3⟩ := evJ_run (q := q) (c := c) hto htm hne j to t1 (by omega) (fun i hi => by rw [a3 _ (by omega), Rg.set_ne _ _ (by omega)]; exact hs i hi) (by
      rw [a2, Rg.set_same, Rg.set_ne _ _ (by omega), hs j (by omega), hf]
      obtain ⟨m, hm⟩ : ∃ m, e - j = m + 1 := ⟨e - j - 1, by omega⟩
      rw [hm, show e - (j + 1) = m by omega, Th, show e - 1 - m = j by omega]
      grind) (.inr rfl)
    exact ⟨t2, exec_two (exec_two (evAdd_run (evTimes_run ..)) a1) b1, b2, (Agr.trans (fun r hr => Rg.set_ne _ _ (by omega)) a3).trans b3⟩
theorem V_x0 (c : Nat → Int) (B : Int) : ∀ e, V c e 0 B = c 0 * B ^ e
  | 0 => by simp [V]
  | e + 1 => by rw [V, V_x0 c B e, Int.zero_pow (by omega), Int.pow_succ]; grind
theorem V_y0 (c : Nat → Int) (A : Int) : ∀ e, V c e A 0 = c e * A ^ e
  | 0 => by simp [V]
  | e + 1 => by rw [V]; simp
theorem evPt_run {k n i : Nat} {q : Pnt} {c : Nat → Int} (s : Rg) (hk : 2 ≤ k) (hi : i < n) (hs : ∀ j, j < k → s (j : Nat) = c j) : ∃ t, exec (evPt k n i q) s = some t ∧ t (k + i : Nat) = V c (k - 1) q.A q.B ∧ Agr (fun r => r = (k + i : Nat) ∨ r = (k + n : Nat)) s t := by
  unfold evPt
  rw [if_neg (by omega)]
  split
  · rename_i h
    refine ⟨_, sub_run .., ?_, fun r hr => Rg.set_ne _ _ (by omega)⟩
    rw [Rg.set_same, h.1, h.2, V_x0, Int.zero_pow (by omega), Int.mul_zero, Int.sub_self]
  split
  · rename_i h
    refine ⟨_, scaled_run _ _ _ _ _ (by omega), ?_, fun r hr => Rg.set_ne _ _ (by omega)⟩
    have := hs 0 (by omega)
    rw [Rg.set_same, h, V_x0, ← this]; rfl
  split
  · rename_i h
    refine ⟨_, scaled_run _ _ _ _ _ (by omega), ?_, fun r hr => Rg.set_ne _ _ (by omega)⟩
    rw [Rg.set_same, h, V_y0, hs _ (by omega)]
  · obtain ⟨t, a1, a2, a3⟩ := evJ_run (e := k - 1) (to := (k + i : Nat)) (term := (k + n : Nat)) (q := q) (c := c) (by omega) (by omega) (by omega) (k - 1) (k - 1 : Nat) s (Nat.le_refl _) (fun j hj => hs j (by omega)) (by rw [Nat.sub_self, Th]; exact hs _ (by omega)) (.inl (by omega))
    refine ⟨t, a1, ?_, a3⟩
    rw [a2, V_Th c (k - 1) q.A q.B (k - 1) (Nat.le_refl _), Nat.sub_self, Vs]; simp
theorem evs_run {k n : Nat} {l : List Pnt} {c : Nat → Int} (hk : 2 ≤ k) : ∀ (is : List Nat) (s : Rg), is.Nodup → (∀ i ∈ is, i < n) → (∀ j, j < k → s (j : Nat) = c j) → ∃ t, exec (is.flatMap fun i => evPt k n i (ptAt l i)) s = some t ∧ (∀ i ∈ is, t (k + i : Nat) = V c (k - 1) (ptAt l i).A (ptAt l i).B) ∧ Agr (fun r => (∃ i ∈ is, r = (k + i : Nat)) ∨ r = (k + n : Nat)) s t
  | [], s, _, _, _ => ⟨s, rfl, (fun i hi => by cases hi), Agr.refl _ _⟩
  | i :: is, s, hnd, hn, hs => by
    have hi := hn i (List.mem_cons_self ..)
    obtain ⟨t1, a1, a2, a3⟩ := evPt_run (q := ptAt l i) (c := c) s hk hi hs
    obtain ⟨t2, b1, b2, b3⟩ := evs_run (l := l) (n := n) (c := c) hk is t1 (List.nodup_cons.1 hnd).2 (fun j hj => hn j (List.mem_cons_of_mem _ hj)) (fun j hj => by rw [a3 _ (by omega)]; exact hs j hj)
    refine ⟨t2, exec_two a1 b1, fun j hj => ?_, (a3.mono fun r hr => hr.imp (fun e => ⟨i, List.mem_cons_self .., e⟩) id).trans (b3.mono fun r hr => hr.imp (fun ⟨j, hj, e⟩ => ⟨j, List.mem_cons_of_mem _ hj, e⟩) id)⟩
    rcases List.mem_cons.1 hj with rfl | hj
    · rw [b3 _ fun hr => by
        rcases hr with ⟨q, hq, e⟩ | e
        · exact (List.nodup_cons.1 hnd).1 (mem_eq (by omega) hq)
        · omega]
      exact a2
    · exact b2 j hj
/-- **The program answers the values.** -/
theorem eval_runs {k : Nat} {l : List Pnt} (hk : 1 ≤ k) (c : List Int) (hc : c.length = k) : Runs (evalP k l) c (vals (fun j => c.getD j 0) (k - 1) l) := by
  by_cases h1 : k = 1
  · subst h1
    refine ⟨rg0 c, ?_, ?_⟩
    · show exec (evalC 1 l) _ = _
      have : evalC 1 l = [] := by
        unfold evalC
        rw [List.flatMap_eq_nil_iff]
        intro i _
        simp [evPt]
      rw [this]; rfl
    · show _ = ((List.range l.length).map fun i => if 1 = 1 then (0 : Int) else ((1 + i : Nat) : Int)).map (rg0 c)
      unfold vals
      apply List.ext_getElem?
      intro i
      simp only [List.getElem?_map, if_true]
      by_cases hi : i < l.length
      · simp [hi, V, rg0]
      · simp [hi]
  · obtain ⟨t, a1, a2, a3⟩ := evs_run (n := l.length) (l := l) (c := fun j => c.getD j 0) (by omega : 2 ≤ k) (List.range l.length) (rg0 c) List.nodup_range (fun i hi => List.mem_range.1 hi) (fun j _ => rg0_at c j)
    refine ⟨t, a1, ?_⟩
    show _ = ((List.range l.length).map fun i => if k = 1 then (0 : Int) else ((k + i : Nat) : Int)).map t
    unfold vals
    apply List.ext_getElem?
    intro i
    simp only [List.getElem?_map, if_neg h1]
    by_cases hi : i < l.length
    · have := a2 i (List.mem_range.2 hi)
      simp only [List.getElem?_range hi, Option.map_some, this]
      simp [ptAt, hi]
    · simp [hi]
theorem eval_nodiv (k : Nat) (l : List Pnt) : NoDiv (evalP k l) := by
  have ht : ∀ to a c, (evTimes to a c).op ≠ 6 ∧ (evTimes to a c).op ≠ 8 := fun to a c => by
    unfold evTimes; repeat' split
    all_goals simp
  have ha : ∀ (j i : Ins), i ∈ evAdd j → j.op ≠ 6 ∧ j.op ≠ 8 → i.op ≠ 6 ∧ i.op ≠ 8 := fun j i hi hj => by
    unfold evAdd at hi; split at hi
    · rw [List.mem_singleton.1 hi]; exact hj
    · cases hi
  have hs : ∀ to c n a, ∀ i ∈ scaledL to c n a, i.op ≠ 6 ∧ i.op ≠ 8 := by
    intro to c n
    induction n with
    | zero => intro a i hi; cases hi
    | succ n ih =>
      intro a i hi
      rw [scaledL] at hi
      rcases List.mem_append.1 hi with h | h
      · exact ha _ _ h (ht _ _ _)
      · exact ih _ _ h
  have hT : ∀ to term q n j, ∀ i ∈ evTerm to term q n j, i.op ≠ 6 ∧ i.op ≠ 8 := fun to term q n j i hi => by
    unfold evTerm at hi; split at hi
    · rw [List.mem_singleton.1 hi]; simp
    split at hi
    · rw [List.mem_singleton.1 hi]; simp
    · rcases List.mem_append.1 hi with h | h
      · exact hs _ _ _ _ _ h
      · rw [List.mem_singleton.1 h]; simp
  have hJ : ∀ e to term q j fr, ∀ i ∈ evJ e to term q j fr, i.op ≠ 6 ∧ i.op ≠ 8 := by
    intro e to term q j
    induction j with
    | zero => intro fr i hi; cases hi
    | succ j ih =>
      intro fr i hi
      rw [evJ] at hi
      rcases List.mem_append.1 hi with h | h
      · rcases List.mem_append.1 h with h | h
        · exact ha _ _ h (ht _ _ _)
        · exact hT _ _ _ _ _ _ h
      · exact ih _ _ h
  intro i hi
  obtain ⟨m, _, hi⟩ := List.mem_flatMap.1 hi
  unfold evPt at hi
  split at hi
  · cases hi
  split at hi
  · rw [List.mem_singleton.1 hi]; simp
  split at hi
  · exact hs _ _ _ _ _ hi
  split at hi
  · exact hs _ _ _ _ _ hi
  · exact hJ _ _ _ _ _ _ _ hi
end Go.Proofs.YthkoodpnepfijaaGreatDoor
/- VB: LOOPS AND JOINS whose states are told anew at the end of each way; what a program is in memory. -/
namespace Go.Proofs.YthkoodpnepfijaaGreatDoor
open Go.RowKit
set_option linter.unusedVariables false

theorem Turn.of {own own' : List Ch} {F F' : Fz} (hs : List.Sublist own' own) (hF : Fle F' F) : Turn own F own' F' := fun B w0 w h => by
  have h1 := h.sub hs
  exact ⟨h1.bel, h1.big, h1.ok, h1.nod, fun a v x => h1.fr a v (hF a v x), fun c hc a v hb x => h1.ex c hc a v hb (hF a v x)⟩
theorem Turn.skip {c : Ch} {own own' : List Ch} {F F' : Fz} (h : Turn own F own' F') : Turn (c :: own) F own' F' := Turn.drop.trans h
theorem Turn.fle {own : List Ch} {F F' : Fz} (hF : Fle F' F) : Turn own F own F' := Turn.of (List.Sublist.refl _) hF
theorem c_post {n : Nat} {ro : Option Nat} {Q Q' : Exit → St → Prop} {s : St} {c : Code} (h : C n ro c Q s) (hq : ∀ ex s', Q ex s' → ∃ o F, Turn s'.own s'.F o F ∧ Q' ex { s' with own := o, F := F }) : C n ro c Q' s :=
  ⟨fun B w0 w hI => wpIn_mono (h.out B w0 w hI) fun ex a' w' ⟨s', h0, h1, h2⟩ => by
    obtain ⟨o, F, ht, hq'⟩ := hq ex s' h2
    exact ⟨{ s' with own := o, F := F }, h0, ht B w0 w' h1, hq'⟩⟩
theorem c_loopT {n : Nat} {ro : Option Nat} {Q : Exit → St → Prop} {x : Fr} {b : Nat → Value} {ds : List Deferred} {ow : List Ch} {F0 : Fz} {c : Code} (P : Nat → Pt) (h0 : ∃ m y o F, P m y o F ∧ fits x y ∧ Turn ow F0 o F)
    (round : ∀ m y o F b, P m y o F → C n ro c (Thn (fun s' => ∃ m' y o F, P m' y o F ∧ fits s'.x y ∧ Turn s'.own s'.F o F ∧ s'.ds = ds ∧ m' < m) Q) ⟨y, b, ds, o, F⟩) : C n ro (.loop c) Q ⟨x, b, ds, ow, F0⟩ := by
  obtain ⟨m, y, o, F, hp, hf, ht⟩ := h0
  refine c_turn ht ?_
  refine c_loopE P ⟨m, y, o, F, hp, hf, rfl, rfl⟩ fun m y o F b hp => ?_
  refine c_post (round m y o F b hp) fun ex s' hq => ?_
  cases ex with
  | normal => obtain ⟨m', y, o, F, hp, hf, ht, hd, hm⟩ := hq; exact ⟨o, F, ht, m', y, o, F, hp, hf, rfl, rfl, hd, hm⟩
  | exit id => exact ⟨_, _, Turn.refl _ _, hq⟩
  | goto l => exact ⟨_, _, Turn.refl _ _, hq⟩
  | ret => exact ⟨_, _, Turn.refl _ _, hq⟩
  | panic ch => exact ⟨_, _, Turn.refl _ _, hq⟩
  | outgrown => exact ⟨_, _, Turn.refl _ _, hq⟩
theorem c_joinT {n : Nat} {ro : Option Nat} {Q : Exit → St → Prop} {x0 : Fr} {b0 : Nat → Value} {o0 : List Ch} {F0 : Fz} {c c' : Code} {ds : List Deferred} (P : Pt)
    (h1 : C n ro c (Thn (fun s' => ∃ y o F, P y o F ∧ fits s'.x y ∧ Turn s'.own s'.F o F ∧ s'.ds = ds) Q) ⟨x0, b0, ds, o0, F0⟩)
    (h2 : ∀ y o F b, P y o F → C n ro c' Q ⟨y, b, ds, o, F⟩) : C n ro c (Thn (fun s' => C n ro c' Q s') Q) ⟨x0, b0, ds, o0, F0⟩ := by
  refine c_joinE P (c_post h1 fun ex s' hq => ?_) h2
  cases ex with
  | normal => obtain ⟨y, o, F, hp, hf, ht, hd⟩ := hq; exact ⟨o, F, ht, y, o, F, hp, hf, rfl, rfl, hd⟩
  | exit id => exact ⟨_, _, Turn.refl _ _, hq⟩
  | goto l => exact ⟨_, _, Turn.refl _ _, hq⟩
  | ret => exact ⟨_, _, Turn.refl _ _, hq⟩
  | panic ch => exact ⟨_, _, Turn.refl _ _, hq⟩
  | outgrown => exact ⟨_, _, Turn.refl _ _, hq⟩

/-! ### data in memory -/
def vi (z : Int) : Value := .int .i64 z
def vPt (p : Pnt) : List Value := [.int .i64 p.A, .int .i64 p.B]
def vIn (i : Ins) : List Value := [.int .i64 i.op, .int .i64 i.to, .int .i64 i.a, .int .i64 i.b, .int .i64 i.c]
abbrev z0P : Pnt := ⟨0, 0⟩
abbrev z0I : Ins := ⟨0, 0, 0, 0, 0⟩
abbrev PtsR (F : Fz) (v : Value) (l : List Pnt) : Prop := RowS F v vPt 2 z0P l
abbrev CodR (F : Fz) (v : Value) (l : List Ins) : Prop := RowS F v vIn 5 z0I l
abbrev IntsR (F : Fz) (v : Value) (l : List Int) : Prop := RowM F v vi 0 l
/-- A program's value. -/
structure PrR (F : Fz) (cv ov : Value) (p : Prg) : Prop where
  code : CodR F cv p.code
  outs : IntsR F ov p.outs
theorem PrR.le {F G : Fz} {cv ov : Value} {p : Prg} (h : PrR F cv ov p) (hl : Fle F G) : PrR G cv ov p := ⟨h.code.le hl, h.outs.le hl⟩
def vPr (p : Prg) (cv ov : Value) : Value := .agg #[.int .i64 p.ins, .int .i64 p.regs, cv, ov]
theorem RowM.take {α : Type} {F : Fz} {v : Value} {f : α → Value} {z0 : α} {l : List α} (h : RowM F v f z0 l) {A : Option Addr} {m c : Nat} (hv : v = .slice A m c) {k c' : Nat} (hk : k ≤ l.length) (hc : k ≤ c') : RowM F (.slice A k c') f z0 (l.take k) := by
  subst hv
  unfold RowM at *
  rw [List.map_take]
  exact Row.take h k c' (by obtain ⟨A', c0, e, _⟩ := h; cases e; simpa using hk) hc
theorem Rows.take {F : Fz} {s : Nat} {A : Option Addr} {m c : Nat} {xs : List (List Value)} (h : Rows F s (.slice A m c) xs) (k c' : Nat) (hk : k ≤ m) (hc : k ≤ c') : Rows F s (.slice A k c') (xs.take k) := by
  obtain ⟨A', c0, e, h2, h3⟩ := h
  cases e
  have hl : (xs.take k).length = k := by rw [List.length_take]; omega
  refine ⟨A, c', by rw [hl], by omega, fun i u hu => h3 i u ?_⟩
  rw [List.getElem?_take] at hu
  split at hu
  · exact hu
  · cases hu
theorem Rows.drop {F : Fz} {s : Nat} {A : Option Addr} {m c : Nat} {xs : List (List Value)} (h : Rows F s (.slice A m c) xs) (k : Nat) (hk : k ≤ m) : Rows F s (.slice (if c = k then A else A.map (·.add (k * s))) (m - k) (c - k)) (xs.drop k) := by
  obtain ⟨A', c0, e, h2, h3⟩ := h
  cases e
  have hl : (xs.drop k).length = xs.length - k := List.length_drop
  refine ⟨_, c - k, by rw [hl], by omega, fun i u hu => ?_⟩
  rw [List.getElem?_drop] at hu
  obtain ⟨hs, B, e, hB⟩ := h3 (k + i) u hu
  have hlt := (List.getElem?_eq_some_iff.1 hu).1
  rw [if_neg (by omega), e]
  refine ⟨hs, B.add (k * s), rfl, ?_⟩
  rw [Addr.add_add, ← Nat.add_mul]; exact hB
section
variable {n : Nat} {ops : Array Oper} {fl : Option (List Nat)} {rest : List Oper} {K : St → Prop} {wk : List Ch} {x : Fr} {b : Nat → Value} {ds : List Deferred} {own : List Ch} {F : Fz}
  {d ty : Nat} {pos : String} {af : Array Edge}
/-- xs[:h] -/
theorem o_slhS {α : Type} {a hi : Operand} {t e s : Nat} [ht : SlT t e s] {v : Value} {f : α → List Value} {z0 : α} {l : List α} {k : IntKind} {z : Int} (h' : Nat) (ha : evS n x a = some v) (hr : RowS F v f s z0 l) (hhi : evS n x hi = some (.int k z)) (hz : z = h') (h1 : h' ≤ l.length)
    (h : ∀ v', RowS F v' f s z0 (l.take h') → O n ops fl rest K wk ⟨(d, v') :: x, b, ds, own, F⟩) : O n ops fl (⟨some d, .slice t a none (some hi) none, ty, pos, af, none⟩ :: rest) K wk ⟨x, b, ds, own, F⟩ := by
  have hr' := hr
  obtain ⟨A, c, rfl, h2, h3⟩ := hr
  rw [List.length_map] at ha h2 hr'
  refine o_slice (A' := A) 0 h' c ha rfl ⟨k, z, hhi, hz⟩ rfl (fun e => by cases e) (Nat.zero_le _) (by omega) (Nat.le_refl _) (by split <;> cases A <;> simp [Addr.add]) (h _ ?_)
  have := Rows.take hr'.rows h' (c - 0) h1 (by omega)
  rw [← List.map_take] at this
  exact this
theorem o_slhM {α : Type} {a hi : Operand} {t e : Nat} [ht : SlT t e 1] {v : Value} {f : α → Value} {z0 : α} {l : List α} {k : IntKind} {z : Int} (h' : Nat) (ha : evS n x a = some v) (hr : RowM F v f z0 l) (hhi : evS n x hi = some (.int k z)) (hz : z = h') (h1 : h' ≤ l.length)
    (h : ∀ v', RowM F v' f z0 (l.take h') → O n ops fl rest K wk ⟨(d, v') :: x, b, ds, own, F⟩) : O n ops fl (⟨some d, .slice t a none (some hi) none, ty, pos, af, none⟩ :: rest) K wk ⟨x, b, ds, own, F⟩ := by
  refine o_slicer (s := 1) h' ha hr.row hhi hz (.inl rfl) (by rw [List.length_map]; exact h1) fun v' hv => h v' ?_
  unfold RowM; rw [List.map_take]; exact hv
/-- xs[l:] -/
theorem o_sllM {α : Type} {a lo : Operand} {t e : Nat} [ht : SlT t e 1] {v : Value} {f : α → Value} {z0 : α} {l : List α} {k : IntKind} {z : Int} (l' : Nat) (ha : evS n x a = some v) (hr : RowM F v f z0 l) (hlo : evS n x lo = some (.int k z)) (hz : z = l') (h1 : l' ≤ l.length)
    (h : ∀ v', RowM F v' f z0 (l.drop l') → O n ops fl rest K wk ⟨(d, v') :: x, b, ds, own, F⟩) : O n ops fl (⟨some d, .slice t a (some lo) none none, ty, pos, af, none⟩ :: rest) K wk ⟨x, b, ds, own, F⟩ := by
  refine o_slicel l' ha hr.row hlo hz (by rw [List.length_map]; exact h1) fun v' hv => h v' ?_
  unfold RowM; rw [List.map_drop]; exact hv
theorem o_sllS {α : Type} {a lo : Operand} {t e s : Nat} [ht : SlT t e s] {v : Value} {f : α → List Value} {z0 : α} {l : List α} {k : IntKind} {z : Int} (l' : Nat) (ha : evS n x a = some v) (hr : RowS F v f s z0 l) (hlo : evS n x lo = some (.int k z)) (hz : z = l') (h1 : l' ≤ l.length)
    (h : ∀ v', RowS F v' f s z0 (l.drop l') → O n ops fl rest K wk ⟨(d, v') :: x, b, ds, own, F⟩) : O n ops fl (⟨some d, .slice t a (some lo) none none, ty, pos, af, none⟩ :: rest) K wk ⟨x, b, ds, own, F⟩ := by
  have hr' := hr
  obtain ⟨A, c, rfl, h2, h3⟩ := hr
  rw [List.length_map] at ha h2 hr'
  refine o_slice l' l.length c ha ⟨k, z, hlo, hz⟩ rfl rfl (fun e => by cases e) h1 h2 (Nat.le_refl _) rfl (h _ ?_)
  have := Rows.drop hr'.rows l' h1
  rw [← List.map_drop] at this
  exact this
end
end Go.Proofs.YthkoodpnepfijaaGreatDoor
/- VC: STRUCTS OF NUMBERS, compared. -/
namespace Go.Proofs.YthkoodpnepfijaaGreatDoor
open Go.RowKit
set_option linter.unusedVariables false
def fInt (P : Program) (f : Field) (k : Nat) : Bool := (f.name != "_") && (f.offset == k) && (match P.underlying f.type with | some (.int .i64) => true | _ => false) && (match P.info? f.type with | some i => i.size == 1 | none => false)
def intF (P : Program) : Nat → List Field → Bool
  | _, [] => true
  | k, f :: r => fInt P f k && intF P (k+1) r
def eqTy (P : Program) (t m : Nat) : Bool := (match P.underlying t with | some (.struct fs) => intF P 0 fs.toList && (fs.size == m) | _ => false) && !P.stoodInHeld t && !P.eqGuardType P.depth t
class EqT (t : Nat) (m : outParam Nat) : Prop where
  h : eqTy Tryz.prog t m = true
instance : EqT 75 2 := ⟨by kernel_rfl⟩
instance : EqT 119 5 := ⟨by kernel_rfl⟩
instance : EqT 37 4 := ⟨by kernel_rfl⟩
instance : EqT 218 4 := ⟨by kernel_rfl⟩
def intsOf : List Value → Option (List Int)
  | [] => some []
  | .int .i64 z :: r => (intsOf r).map (z :: ·)
  | _ :: _ => none
theorem intsOf_map : ∀ {vs : List Value} {zs : List Int}, intsOf vs = some zs → vs = zs.map vi
  | [], zs, h => by cases h; rfl
  | v :: r, zs, h => by
    cases v with
    | int k z =>
      cases k <;> simp only [intsOf, reduceCtorEq] at h
      obtain ⟨l, h1, rfl⟩ := Option.map_eq_some_iff.1 h
      rw [intsOf_map h1]; rfl
    | _ => simp [intsOf] at h
theorem fInt_part {P : Program} {f : Field} {k : Nat} (h : fInt P f k = true) {vs : Array Value} {v : Value} (hv : vs[k]? = some v) (w : World) : f.name ≠ "_" ∧ P.underlying f.type = some (.int .i64) ∧ (part f.type vs f.offset).run P w = .ok v w := by
  unfold fInt at h
  simp only [Bool.and_eq_true, bne_iff_ne, beq_iff_eq] at h
  obtain ⟨⟨⟨h1, h2⟩, h3⟩, h4⟩ := h
  have hu : P.underlying f.type = some (.int .i64) := by
    split at h3
    · assumption
    · cases h3
  refine ⟨h1, hu, ?_⟩
  have ha : (isAgg f.type).run P w = .ok false w := by
    unfold isAgg
    simp [run_underlying hu, Result.andThen]
  unfold part
  simp [ha, Result.andThen, h2, hv]
theorem eq_loop {P : Program} : ∀ (fs : List Field) (k : Nat) (zs ys : List Int), intF P k fs = true → fs.length = zs.length → fs.length = ys.length → ∀ (vs us : Array Value), (∀ i z, zs[i]? = some z → vs[k + i]? = some (vi z)) → (∀ i z, ys[i]? = some z → us[k + i]? = some (vi z)) → ∀ w : World,
    Sem.run P (forIn fs ((none : Option Bool), ()) fun f __s =>
          if f.name = "_" then pure (ForInStep.yield (none, ()))
          else do
            let a ← part f.type vs f.offset
            let b ← part f.type us f.offset
            let c ← Op.equalIn 9999 f.type a b
            if c = false then pure (ForInStep.done (some false, ())) else pure (ForInStep.yield (none, ()))) w = .ok (if zs = ys then none else some false, ()) w
  | [], k, [], [], _, _, _, vs, us, _, _, w => by simp [Sem.run_pure]
  | f :: fs, k, z :: zs, y :: ys, hF, h1, h2, vs, us, hv, hu, w => by
    unfold intF at hF
    simp only [Bool.and_eq_true] at hF
    obtain ⟨hn, hun, p1⟩ := fInt_part hF.1 (hv 0 z rfl) w
    obtain ⟨_, _, p2⟩ := fInt_part hF.1 (hu 0 y rfl) w
    have he : (Op.equalIn 9999 f.type (vi z) (vi y)).run P w = .ok (z == y) w := by
      rw [show (9999 : Nat) = 9998 + 1 from rfl]
      unfold Op.equalIn
      simp [run_underlying hun, vi, Result.andThen]
    have ih := eq_loop fs (k + 1) zs ys hF.2 (by simpa using h1) (by simpa using h2) vs us (fun i z hz => by rw [show k + 1 + i = k + (i + 1) by omega]; exact hv (i + 1) z hz) (fun i z hz => by rw [show k + 1 + i = k + (i + 1) by omega]; exact hu (i + 1) z hz) w
    rw [List.forIn_cons]
    simp only [hn, if_false, Sem.run_bind, p1, p2, he, Result.andThen]
    by_cases hzy : z = y
    · subst hzy
      simp only [beq_self_eq_true, Bool.true_eq_false, if_false, Sem.run_pure]
      rw [ih]
      simp
    · have hb : (z == y) = false := by simpa using hzy
      simp only [hb, if_true, Sem.run_pure]
      rw [if_neg (by simp [hzy])]
  | [], k, z :: zs, _, _, h1, _, _, _, _, _, _ => by simp at h1
  | [], k, [], y :: ys, _, _, h2, _, _, _, _, _ => by simp at h2
  | f :: fs, k, [], _, _, h1, _, _, _, _, _, _ => by simp at h1
  | f :: fs, k, z :: zs, [], _, _, h2, _, _, _, _, _ => by simp at h2
theorem run_eqs {t m : Nat} (ht : EqT t m) {zs ys : List Int} (h1 : zs.length = m) (h2 : ys.length = m) (w : World) : (Op.equal t (.agg (zs.map vi).toArray) (.agg (ys.map vi).toArray)).run Tryz.prog w = .ok (decide (zs = ys)) w ∧ Tryz.prog.eqGuardType Tryz.prog.depth t = false := by
  have h := ht.h
  unfold eqTy at h
  cases hu : Tryz.prog.underlying t with
  | none => rw [hu] at h; simp at h
  | some d =>
    cases d with
    | struct fs =>
      rw [hu] at h
      simp only [Bool.and_eq_true, Bool.not_eq_true', beq_iff_eq] at h
      obtain ⟨⟨⟨k1, k2⟩, k3⟩, k4⟩ := h
      refine ⟨?_, k4⟩
      have hlen : fs.toList.length = m := by simpa using k2
      have hl := eq_loop fs.toList 0 zs ys k1 (by omega) (by omega) (zs.map vi).toArray (ys.map vi).toArray (fun i z hz => by simp [hz]) (fun i z hz => by simp [hz]) w
      unfold Op.equal Op.maxDepth Op.equalIn
      simp [run_underlying hu, Result.andThen, k3]
      rw [← Array.forIn_toList, hl]
      by_cases e : zs = ys <;> simp [e, Sem.run_pure]
    | _ => rw [hu] at h; simp at h
section
variable {n : Nat} {ops : Array Oper} {fl : Option (List Nat)} {rest : List Oper} {K : St → Prop} {wk : List Ch} {x : Fr} {b : Nat → Value} {ds : List Deferred} {own : List Ch} {F : Fz}
  {d ty : Nat} {pos : String} {af : Array Edge}
theorem o_eqs {a a' : Operand} {t t' m : Nat} [ht : EqT t m] {vs us : List Value} {zs ys : List Int} (c : Bool) (ha : evS n x a = some (.agg vs.toArray)) (ha' : evS n x a' = some (.agg us.toArray)) (hz : intsOf vs = some zs) (hy : intsOf us = some ys) (h1 : zs.length = m) (h2 : ys.length = m) (hc : decide (zs = ys) = c)
    (h : O n ops fl rest K wk ⟨(d, .bool c) :: x, b, ds, own, F⟩) : O n ops fl (⟨some d, .binOp .eql t a a' t', ty, pos, af, none⟩ :: rest) K wk ⟨x, b, ds, own, F⟩ :=
  o_rd _ rfl (fun B w0 w hw => by
    obtain ⟨e1, e2⟩ := run_eqs ht h1 h2 w
    rw [intsOf_map hz] at ha
    rw [intsOf_map hy] at ha'
    unfold execOp
    simp [evx ha, evx ha', eqGuard, binOp, Result.andThen, e1, e2, hc]) h
theorem o_buildA {t m e s : Nat} {ps : List (Nat × Operand)} {vs : List (Nat × Value)} {zs cs : List Value} [ht : ArT t m e s] [hz : ZrT t zs] (hv : evP n x ps = some vs) (hc : forceO (layV (fun i => some (i * s, s)) zs vs) = some cs)
    (h : O n ops fl rest K wk ⟨(d, .agg cs.toArray) :: x, b, ds, own, F⟩) : O n ops fl (⟨some d, .build t ps.toArray, ty, pos, af, none⟩ :: rest) K wk ⟨x, b, ds, own, F⟩ :=
  o_rd _ rfl (fun B w0 w hw => by
    obtain ⟨z0, hz0, hzc⟩ := Option.map_eq_some_iff.1 hz.h
    obtain ⟨i, hi, hzi⟩ := Option.bind_eq_some_iff.1 hz0
    have h3 := fill_lay _ _ _ _ (forceO_eq hc)
    have h4 : (ps.toArray.map fun (i, o) => (i, (St.act n ⟨x, b, ds, own, F⟩).eval o)).toList = vs := by rw [List.map_toArray]; exact evP_of hv
    unfold execOp
    simp only [Instr.build, h4]
    simp [run_underlying ht.h, zeroValue, run_typeInfo w hi, hzi, Result.andThen, size_run ht.hs, hzc, h3]) h
end
end Go.Proofs.YthkoodpnepfijaaGreatDoor

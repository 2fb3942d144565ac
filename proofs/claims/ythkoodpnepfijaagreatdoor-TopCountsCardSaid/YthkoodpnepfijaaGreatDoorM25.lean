/-
  Steps towards TopCounts (no conditions of their own): REGISTERS GIVEN ANEW, PLAINLY: the registers of the values that live; the program that is made does the same. WALKS: prog: Needed.
-/
import Derived.Test.YthkoodpnepfijaaGreatDoorM23
import Derived.Test.YthkoodpnepfijaaGreatDoorM24
/- PG: REGISTERS GIVEN ANEW, PLAINLY: the registers of the values that live; the program that is made does the same. -/
namespace Go.Proofs.YthkoodpnepfijaaGreatDoor
set_option linter.unusedVariables false

theorem asc_none_app {κ : Type} [DecidableEq κ] {l : List (κ × Int)} {k : κ} {v : Int} (h : asc l k = none) (q : κ) : asc (l ++ [(k, v)]) q = if q = k then some v else asc l q := by
  induction l with
  | nil => rfl
  | cons p r ih =>
    obtain ⟨k', u'⟩ := p
    unfold asc at h
    split at h
    · cases h
    · rename_i e
      rw [List.cons_append, asc, ih h, asc]
      by_cases e1 : q = k'
      · rw [if_pos e1, if_pos e1, if_neg (fun e2 => e (by rw [← e2, e1]))]
      · rw [if_neg e1, if_neg e1]
/-- A map that knows one more key. -/
def Upd (a a' : List (Int × Int)) (k v : Int) : Prop := ∀ q, asc a' q = if q = k then some v else asc a q
/-- What the pass has made of the first instructions: where values stand, which registers are free, the code. -/
structure PkI (p : Prg) (k : Nat) (at' : List (Int × Int)) (free : List Bool) (code : List Ins) : Prop where
  has : ∀ v, Live p k v → ∃ q : Nat, asc at' v = some (q : Int) ∧ q < free.length ∧ free.getD q true = false
  inj : ∀ v w q, Live p k v → Live p k w → asc at' v = some q → asc at' w = some q → v = w
  non : ∀ q, q < free.length → free.getD q true = false → ∃ v, Live p k v ∧ asc at' v = some (q : Int)
  low : p.ins ≤ free.length
  fits : (free.length : Int) ≤ p.regs
  len : code.length ≤ k
  ok : ∀ i ∈ code, i.ok free.length
  nodiv : NoDiv p → ∀ i ∈ code, i.op ≠ 6 ∧ i.op ≠ 8
  run : ∀ l t, (l.length : Int) = p.ins → exec (p.code.take k) (rg0 l) = some t → ∃ t', exec code (rg0 l) = some t' ∧ ∀ r, 0 ≤ r → r < p.regs → at_ (lvL p k) r = true → ∃ q : Nat, asc at' (hd_ (heldK p k) r) = some (q : Int) ∧ t' q = t r
theorem Live.val {p : Prg} (h : p.ok) {k : Nat} (hk : k ≤ p.code.length) {v : Int} (hv : Live p k v) : 0 ≤ v ∧ v < cntK p k := by
  obtain ⟨r, r0, r1, _, rfl⟩ := hv
  obtain ⟨g1, g2, g3⟩ := held_ok h k hk
  exact g2 _ (hd_mem g1 r0 r1)
theorem live_unt {p : Prg} (h : p.ok) {k : Nat} (hk : k ≤ p.code.length) {v : Int} (h0 : 0 ≤ v) (h1 : v < cntK p k) : ((k : Int) ≤ (untF p).getD v.toNat (-1) ↔ Live p k v) := live_iff h (p.code.length - k) k (by omega) v h0 h1
/-- The first values of the beginning. -/
def at0 (n : Nat) : List (Int × Int) := (List.range n).map fun i : Nat => ((i : Int), (i : Int))
theorem at0_succ (n : Nat) : at0 (n + 1) = at0 n ++ [((n : Int), (n : Int))] := by unfold at0; rw [List.range_succ, List.map_append]; rfl
theorem asc_at0 : ∀ (n : Nat) (q : Int), asc (at0 n) q = if 0 ≤ q ∧ q < n then some q else none
  | 0, q => by rw [if_neg (by omega)]; simp [at0, asc]
  | n + 1, q => by
    have hn : asc (at0 n) (n : Int) = none := by rw [asc_at0 n, if_neg (by omega)]
    rw [at0_succ, asc_none_app hn, asc_at0 n]
    by_cases h : q = n
    · rw [if_pos h, if_pos (by omega), h]
    · rw [if_neg h]
      by_cases h2 : 0 ≤ q ∧ q < n
      · rw [if_pos h2, if_pos (by omega)]
      · rw [if_neg h2, if_neg (by omega)]
def free0 (p : Prg) (n : Nat) : List Bool := (List.range n).map fun v => decide ((untF p).getD v (-1) < 0)
theorem free0_len (p : Prg) (n : Nat) : (free0 p n).length = n := by simp [free0]
theorem free0_at {p : Prg} {n q : Nat} (h : q < n) : (free0 p n).getD q true = decide ((untF p).getD q (-1) < 0) := by
  unfold free0
  rw [List.getD_eq_getElem?_getD, List.getElem?_map, List.getElem?_range h]; rfl
/-- How many values are laid at the beginning. -/
def laidN (p : Prg) : Nat := if 0 ≤ (untF p).getD p.ins.toNat (-1) then p.ins.toNat + 1 else p.ins.toNat
theorem cnt_zero {p : Prg} (h : p.ok) : (cntK p 0 : Int) = p.ins + 1 := by
  have := h.ins1
  unfold cntK untK
  rw [fwd, List.length_replicate]; omega
theorem held_zero {p : Prg} {r : Int} (h0 : 0 ≤ r) (h1 : r < p.regs) : hd_ (heldK p 0) r = min r p.ins := by
  have e : heldK p 0 = held0 p := rfl
  rw [e]
  unfold hd_ held0
  rw [List.getD_eq_getElem?_getD, List.getElem?_map, List.getElem?_range (by omega)]
  simp only [Option.map_some, Option.getD_some]
  rw [show ((r.toNat : Nat) : Int) = r by omega]
theorem pk_nil {p : Prg} (h : p.ok) : PkI p 0 (at0 (laidN p)) (free0 p (laidN p)) [] := by
  have h1 := h.ins1
  have h2 := h.insr
  have hc := cnt_zero h
  have hN : laidN p = p.ins.toNat ∨ laidN p = p.ins.toNat + 1 := by unfold laidN; split <;> simp
  have key : ∀ v, Live p 0 v → 0 ≤ v ∧ v < laidN p ∧ 0 ≤ (untF p).getD v.toNat (-1) := fun v hv => by
    obtain ⟨v0, v1⟩ := hv.val h (Nat.zero_le _)
    have hu := (live_unt h (Nat.zero_le _) v0 v1).2 hv
    refine ⟨v0, ?_, by omega⟩
    by_cases e : v = p.ins
    · unfold laidN
      rw [← e, if_pos (by omega)]; omega
    · omega
  refine ⟨fun v hv => ?_, fun v w q hv hw ha hb => ?_, fun q hq hf => ?_, by rw [free0_len]; omega, ?_, Nat.le_refl _, fun i hi => (by cases hi), fun _ i hi => (by cases hi), fun l t hl hx => ?_⟩
  · obtain ⟨k1, k2, k3⟩ := key v hv
    refine ⟨v.toNat, by rw [asc_at0, if_pos ⟨k1, k2⟩]; congr 1; omega, by rw [free0_len]; omega, ?_⟩
    rw [free0_at (by omega)]
    exact decide_eq_false (by omega)
  · obtain ⟨k1, k2, _⟩ := key v hv
    obtain ⟨k3, k4, _⟩ := key w hw
    rw [asc_at0, if_pos ⟨k1, k2⟩] at ha
    rw [asc_at0, if_pos ⟨k3, k4⟩] at hb
    have e1 := Option.some.inj ha
    have e2 := Option.some.inj hb
    omega
  · rw [free0_len] at hq
    rw [free0_at hq] at hf
    have hf := of_decide_eq_false hf
    refine ⟨q, (live_unt h (Nat.zero_le _) (by omega) (by omega)).1 (by rw [Int.toNat_natCast]; omega), by rw [asc_at0, if_pos ⟨by omega, by omega⟩]⟩
  · rw [free0_len]
    unfold laidN
    split
    · rename_i hu
      obtain ⟨r, r0, r1, _, e⟩ := (live_unt h (Nat.zero_le _) (v := p.ins) (by omega) (by omega)).1 (by omega)
      rw [held_zero r0 r1] at e
      omega
    · omega
  · simp only [List.take_zero, exec] at hx
    cases hx
    refine ⟨rg0 l, rfl, fun r r0 r1 hr => ?_⟩
    obtain ⟨k1, k2, k3⟩ := key _ ⟨r, r0, r1, hr, rfl⟩
    rw [held_zero r0 r1] at k1 k2 ⊢
    refine ⟨(min r p.ins).toNat, by rw [asc_at0, if_pos ⟨k1, k2⟩]; congr 1; omega, ?_⟩
    unfold rg0
    rw [if_pos (by omega), if_pos r0]
    by_cases hri : r < p.ins
    · congr 1; omega
    · rw [List.getD_eq_getElem?_getD, List.getElem?_eq_none (by omega), List.getD_eq_getElem?_getD, List.getElem?_eq_none (by omega)]
theorem take_step {p : Prg} {k : Nat} (hk : k < p.code.length) {l : List Int} {t : Rg} (hx : exec (p.code.take (k + 1)) (rg0 l) = some t) : ∃ u x, exec (p.code.take k) (rg0 l) = some u ∧ (insK p k).val u = some x ∧ t = u.set (insK p k).to x := by
  have hg : p.code[k] = insK p k := by unfold insK; rw [List.getD_eq_getElem?_getD, List.getElem?_eq_getElem hk]; rfl
  rw [List.take_add_one, List.getElem?_eq_getElem hk, Option.toList_some, exec_app, hg] at hx
  cases hy : exec (p.code.take k) (rg0 l) with
  | none => rw [hy] at hx; cases hx
  | some u =>
    rw [hy] at hx
    simp only [Option.bind_some, exec] at hx
    cases hst : stepI (insK p k) u with
    | none => rw [hst] at hx; cases hx
    | some u' =>
      rw [hst] at hx
      have hx : some u' = some t := hx
      cases hx
      unfold stepI at hst
      cases hiv : (insK p k).val u with
      | none => rw [hiv] at hst; cases hst
      | some x =>
        rw [hiv] at hst
        exact ⟨u, x, rfl, hiv, (Option.some.inj hst).symm⟩
theorem pk_no {p : Prg} {k : Nat} {at' : List (Int × Int)} {free : List Bool} {code : List Ins} (h : p.ok) (hk : k < p.code.length) (hn : (needL p).getD k false = false) (hP : PkI p k at' free code) : PkI p (k + 1) at' free code := by
  obtain ⟨l1, l2⟩ := need_no hk hn
  obtain ⟨e1, e2, e3⟩ := fwd_no hn
  have hL : ∀ v, Live p (k + 1) v ↔ Live p k v := fun v => by unfold Live; rw [l1, e1]
  refine ⟨fun v hv => hP.has v ((hL v).1 hv), fun v w q hv hw => hP.inj v w q ((hL v).1 hv) ((hL w).1 hw), fun q hq hf => ?_, hP.low, hP.fits, Nat.le_succ_of_le hP.len, hP.ok, hP.nodiv, fun l t hl hx => ?_⟩
  · obtain ⟨v, hv, ha⟩ := hP.non q hq hf
    exact ⟨v, (hL v).2 hv, ha⟩
  · obtain ⟨u, x, hu, hv, rfl⟩ := take_step hk hx
    obtain ⟨t', h1, h2⟩ := hP.run l u hl hu
    refine ⟨t', h1, fun r r0 r1 hr => ?_⟩
    have hrt : r ≠ (insK p k).to := fun e => by rw [e, l2] at hr; cases hr
    rw [e1, Rg.set_ne _ _ hrt]
    exact h2 r r0 r1 (by rw [l1]; exact hr)
/-- The registers of a and b are given back. -/
def freed (p : Prg) (k : Nat) (free : List Bool) (qa qb : Nat) : List Bool :=
  let f := if (untF p).getD (aK p k).toNat (-1) = (k : Int) then free.set qa true else free
  if (untF p).getD (bK p k).toNat (-1) = (k : Int) then f.set qb true else f
/-- A register is given. -/
structure GiveR (free1 free' : List Bool) (w : Nat) : Prop where
  h : (w < free1.length ∧ free1.getD w false = true ∧ free' = free1.set w false) ∨ ((∀ q, q < free1.length → free1.getD q true = false) ∧ w = free1.length ∧ free' = free1 ++ [false])
theorem freed_len (p : Prg) (k : Nat) (free : List Bool) (qa qb : Nat) : (freed p k free qa qb).length = free.length := by
  unfold freed
  simp only
  split <;> split <;> simp [List.length_set]
theorem getD_setQ {l : List Bool} {i j : Nat} {v d : Bool} (h : i < l.length) : (l.set i v).getD j d = if j = i then v else l.getD j d := by
  rw [List.getD_eq_getElem?_getD, List.getElem?_set, List.getD_eq_getElem?_getD]
  by_cases e : j = i
  · subst e; rw [if_pos rfl, if_pos h, if_pos rfl]; rfl
  · rw [if_neg (by omega), if_neg e]
theorem freed_at {p : Prg} {k : Nat} {free : List Bool} {qa qb q : Nat} {d : Bool} (ha : qa < free.length) (hb : qb < free.length) : (freed p k free qa qb).getD q d = if ((untF p).getD (aK p k).toNat (-1) = (k : Int) ∧ q = qa) ∨ ((untF p).getD (bK p k).toNat (-1) = (k : Int) ∧ q = qb) then true else free.getD q d := by
  unfold freed
  simp only
  generalize (untF p).getD (aK p k).toNat (-1) = ua
  generalize (untF p).getD (bK p k).toNat (-1) = ub
  by_cases h1 : ua = (k : Int)
  · rw [if_pos h1]
    by_cases h2 : ub = (k : Int)
    · rw [if_pos h2, getD_setQ (by rw [List.length_set]; exact hb), getD_setQ ha]
      by_cases e1 : q = qb
      · rw [if_pos e1, if_pos (.inr ⟨h2, e1⟩)]
      · rw [if_neg e1]
        by_cases e2 : q = qa
        · rw [if_pos e2, if_pos (.inl ⟨h1, e2⟩)]
        · rw [if_neg e2, if_neg (by rintro (⟨_, h⟩ | ⟨_, h⟩); exact e2 h; exact e1 h)]
    · rw [if_neg h2, getD_setQ ha]
      by_cases e2 : q = qa
      · rw [if_pos e2, if_pos (.inl ⟨h1, e2⟩)]
      · rw [if_neg e2, if_neg (by rintro (⟨_, h⟩ | ⟨h, _⟩); exact e2 h; exact h2 h)]
  · rw [if_neg h1]
    by_cases h2 : ub = (k : Int)
    · rw [if_pos h2, getD_setQ hb]
      by_cases e1 : q = qb
      · rw [if_pos e1, if_pos (.inr ⟨h2, e1⟩)]
      · rw [if_neg e1, if_neg (by rintro (⟨h, _⟩ | ⟨_, h⟩); exact h1 h; exact e1 h)]
    · rw [if_neg h2, if_neg (by rintro (⟨h, _⟩ | ⟨h, _⟩); exact h1 h; exact h2 h)]
theorem pigeon {α : Type} [DecidableEq α] (f : Nat → α) (hf : ∀ i j, f i = f j → i = j) : ∀ (m : Nat) (L : List α), (∀ q, q < m → f q ∈ L) → m ≤ L.length
  | 0, L, _ => Nat.zero_le _
  | m + 1, L, h => by
    have hm := h m (Nat.lt_succ_self m)
    have := pigeon f hf m (L.erase (f m)) (fun q hq => by
      rw [List.mem_erase_of_ne (fun e => by have := hf _ _ e; omega)]
      exact h q (by omega))
    rw [List.length_erase_of_mem hm] at this
    have := List.length_pos_of_mem hm
    omega
theorem unt_ab {p : Prg} (h : p.ok) {k : Nat} (hk : k < p.code.length) {v : Int} (h0 : 0 ≤ v) (e : (untF p).getD v.toNat (-1) = (k : Int)) : v = aK p k ∨ v = bK p k := by
  obtain ⟨i1, _, _⟩ := unt_fwd h p.code.length (Nat.le_refl _)
  unfold untF at e
  rw [(unt_fold (outV p) _ (outV_ok h)).2 v h0] at e
  split at e
  · omega
  · exact (i1 v h0 k e).2.2
theorem live_ab {p : Prg} (h : p.ok) {k : Nat} (hk : k < p.code.length) (hn : (needL p).getD k false = true) : at_ (lvL p k) (insK p k).a = true ∧ (twoOp (insK p k).op → at_ (lvL p k) (insK p k).b = true) ∧ Live p k (aK p k) ∧ Live p k (bK p k) := by
  have hi := insK_ok h hk
  obtain ⟨l1, l2⟩ := need_yes hk hn
  have hb : ∀ r ∈ (insK p k).asks, 0 ≤ r ∧ r.toNat < ((lvL p (k + 1)).set (insK p k).to.toNat false).length := fun r hr => by
    have := hi.asks r hr
    rw [List.length_set, lvL_len]; omega
  have ha : at_ (lvL p k) (insK p k).a = true := by rw [l1, mark_at hb hi.a0]; right; unfold Ins.asks; split <;> simp
  have hb2 : twoOp (insK p k).op → at_ (lvL p k) (insK p k).b = true := fun h2 => by rw [l1, mark_at hb hi.b0]; right; unfold Ins.asks; rw [if_pos h2]; simp
  refine ⟨ha, hb2, ⟨_, hi.a0, hi.a1, ha, rfl⟩, ?_⟩
  unfold bK
  split
  · rename_i h2; exact ⟨_, hi.b0, hi.b1, hb2 h2, rfl⟩
  · exact ⟨_, hi.a0, hi.a1, ha, rfl⟩
theorem Ins.ok_mono {i : Ins} {r s : Int} (h : i.ok r) (hrs : r ≤ s) : i.ok s := ⟨h.op1, h.op8, h.to0, by have := h.to1; omega, h.a0, by have := h.a1; omega, h.b0, by have := h.b1; omega, h.bz, h.cc⟩
theorem pk_yes {p : Prg} {k : Nat} {at' at2 : List (Int × Int)} {free free' : List Bool} {code : List Ins} {qa qb w : Nat} {b : Int} (h : p.ok) (hk : k < p.code.length) (hn : (needL p).getD k false = true) (hP : PkI p k at' free code)
    (ha : asc at' (aK p k) = some (qa : Int)) (hb : asc at' (bK p k) = some (qb : Int)) (hg : GiveR (freed p k free qa qb) free' w) (hu : Upd at' at2 (cntK p k : Nat) w) (hbb : b = if twoOp (insK p k).op then (qb : Int) else (insK p k).b) :
    PkI p (k + 1) at2 free' (code ++ [⟨(insK p k).op, w, qa, b, (insK p k).c⟩]) ∧ free'.length = max free.length (w + 1) := by
  have hi := insK_ok h hk
  obtain ⟨l1, l2⟩ := need_yes hk hn
  obtain ⟨e1, e2, e3⟩ := fwd_yes hn
  obtain ⟨g1, g2, g3⟩ := held_ok h k (by omega)
  obtain ⟨la, lb, lva, lvb⟩ := live_ab h hk hn
  have t0 := hi.to0
  have t1 := hi.to1
  have hqa : qa < free.length ∧ free.getD qa true = false := by
    obtain ⟨q, k1, k2, k3⟩ := hP.has _ lva
    rw [ha] at k1
    have : qa = q := by have := Option.some.inj k1; omega
    rw [this]; exact ⟨k2, k3⟩
  have hqb : qb < free.length ∧ free.getD qb true = false := by
    obtain ⟨q, k1, k2, k3⟩ := hP.has _ lvb
    rw [hb] at k1
    have : qb = q := by have := Option.some.inj k1; omega
    rw [this]; exact ⟨k2, k3⟩
  have hfl := freed_len p k free qa qb
  have hfa := fun q (d : Bool) => freed_at (p := p) (k := k) (free := free) (qa := qa) (qb := qb) (q := q) (d := d) hqa.1 hqb.1
  have hheld : ∀ r, 0 ≤ r → hd_ (heldK p (k + 1)) r = if r = (insK p k).to then ((cntK p k : Nat) : Int) else hd_ (heldK p k) r := fun r r0 => by rw [e1, hd_set g1 t0 t1 r0]
  have hmk : ∀ r, 0 ≤ r → r ≠ (insK p k).to → at_ (lvL p (k + 1)) r = true → at_ (lvL p k) r = true := fun r r0 hne hr => by
    rw [l1, mark_at (fun q hq => ?_) r0, set_at t0 (by rw [lvL_len]; omega) r0, if_neg hne]
    · exact .inl hr
    · have := hi.asks q hq
      rw [List.length_set, lvL_len]; omega
  have hold : ∀ v, Live p (k + 1) v → v = (cntK p k : Nat) ∨ (v < (cntK p k : Nat) ∧ Live p k v) := fun v ⟨r, r0, r1, hr, hv⟩ => by
    rw [hheld r r0] at hv
    split at hv
    · exact .inl hv.symm
    · rename_i hne
      refine .inr ⟨?_, r, r0, r1, hmk r r0 hne hr, hv⟩
      rw [← hv]; exact (g2 _ (hd_mem g1 r0 r1)).2
  have hfresh : Live p (k + 1) (cntK p k : Nat) := ⟨_, t0, t1, l2, by rw [hheld _ t0, if_pos rfl]⟩
  have hge : ∀ v, Live p (k + 1) v → (k : Int) + 1 ≤ (untF p).getD v.toNat (-1) := fun v hv => by
    obtain ⟨v0, v1⟩ := hv.val h (by omega)
    have := (live_unt h (k := k + 1) (by omega) v0 v1).2 hv
    omega
  -- a register of a value that goes on to live stays
  have hstay : ∀ v q, Live p (k + 1) v → Live p k v → asc at' v = some ((q : Nat) : Int) → free.getD q true = false → ∀ d, free.getD q d = false → (freed p k free qa qb).getD q d = false := fun v q hv hv' hq hf d hfd => by
    rw [hfa, if_neg, hfd]
    rintro (⟨c1, c2⟩ | ⟨c1, c2⟩)
    · subst c2
      have := hP.inj v (aK p k) _ hv' lva hq ha
      have h3 := hge v hv
      rw [this, c1] at h3
      omega
    · subst c2
      have := hP.inj v (bK p k) _ hv' lvb hq hb
      have h3 := hge v hv
      rw [this, c1] at h3
      omega
  have hstay2 : ∀ v, Live p (k + 1) v → Live p k v → ∃ q : Nat, asc at' v = some (q : Int) ∧ q < free.length ∧ (∀ d, (freed p k free qa qb).getD q d = false) := fun v hv hv' => by
    obtain ⟨q, k1, k2, k3⟩ := hP.has v hv'
    refine ⟨q, k1, k2, fun d => hstay v q hv hv' k1 k3 d ?_⟩
    rw [List.getD_eq_getElem?_getD, List.getElem?_eq_getElem k2] at k3 ⊢
    exact k3
  -- a register that is not free is a living value's
  have hnon : ∀ q, q < free.length → (freed p k free qa qb).getD q true = false → ∃ v, Live p (k + 1) v ∧ v < (cntK p k : Nat) ∧ asc at' v = some (q : Int) := fun q hq hf => by
    rw [hfa] at hf
    split at hf
    · cases hf
    · rename_i hne
      obtain ⟨v, hv, hva⟩ := hP.non q hq hf
      obtain ⟨v0, v1⟩ := hv.val h (by omega)
      have hk0 := (live_unt h (by omega) v0 v1).2 hv
      refine ⟨v, (live_unt h (k := k + 1) (by omega) v0 (by rw [e3]; omega)).1 ?_, v1, hva⟩
      have : (untF p).getD v.toNat (-1) ≠ (k : Int) := fun e => by
        rcases unt_ab h hk v0 e with rfl | rfl
        · rw [ha] at hva
          have := Option.some.inj hva
          exact hne (.inl ⟨e, by omega⟩)
        · rw [hb] at hva
          have := Option.some.inj hva
          exact hne (.inr ⟨e, by omega⟩)
      omega
  -- the register that is given
  have hw : w < free'.length ∧ free.length ≤ free'.length ∧ free'.getD w true = false ∧ (∀ q, q < free.length → (freed p k free qa qb).getD q true = false → q ≠ w ∧ free'.getD q true = false) ∧ (∀ q, q < free'.length → q ≠ w → free'.getD q true = false → q < free.length ∧ (freed p k free qa qb).getD q true = false) ∧ free'.length = max free.length (w + 1) ∧ (free'.length : Int) ≤ p.regs := by
    rcases hg.h with ⟨c1, c2, rfl⟩ | ⟨c1, rfl, rfl⟩
    · rw [List.length_set]
      refine ⟨c1, by omega, by rw [getD_setQ c1, if_pos rfl], fun q hq hf => ?_, fun q hq hne hf => ?_, by omega, by rw [hfl]; exact hP.fits⟩
      · have : q ≠ w := fun e => by
          subst e
          rw [List.getD_eq_getElem?_getD, List.getElem?_eq_getElem c1] at c2 hf
          rw [Option.getD_some] at c2 hf
          rw [c2] at hf; cases hf
        exact ⟨this, by rw [getD_setQ c1, if_neg this]; exact hf⟩
      · rw [getD_setQ c1, if_neg hne] at hf
        exact ⟨by omega, hf⟩
    · rw [List.length_append, List.length_singleton, hfl]
      have happ : ∀ q, q < free.length → (freed p k free qa qb ++ [false]).getD q true = (freed p k free qa qb).getD q true := fun q hq => by
        rw [List.getD_eq_getElem?_getD, List.getElem?_append_left (by omega), List.getD_eq_getElem?_getD]
      refine ⟨by omega, by omega, ?_, fun q hq hf => ⟨by omega, by rw [happ q hq]; exact hf⟩, fun q hq hne hf => ⟨by omega, by rw [happ q (by omega)] at hf; exact hf⟩, by omega, ?_⟩
      · rw [List.getD_eq_getElem?_getD, List.getElem?_append_right (by omega), hfl, Nat.sub_self]; rfl
      · -- each register is a living value's, and that is held by a register of the given program, not by the one that is set
        have hp := pigeon (fun q : Nat => some (q : Int)) (fun i j e => by have := Option.some.inj e; omega) free.length (((List.range p.regs.toNat).erase (insK p k).to.toNat).map fun r : Nat => asc at' (hd_ (heldK p k) r)) (fun q hq => by
          obtain ⟨v, ⟨r, r0, r1, hr, hv⟩, hvc, hva⟩ := hnon q hq (c1 q (by omega))
          rw [hheld r r0] at hv
          split at hv
          · omega
          · rename_i hne
            refine List.mem_map.2 ⟨r.toNat, ?_, ?_⟩
            · rw [List.mem_erase_of_ne (by omega)]
              exact List.mem_range.2 (by omega)
            · rw [show ((r.toNat : Nat) : Int) = r by omega, hv, hva])
        rw [List.length_map, List.length_erase_of_mem (List.mem_range.2 (by omega)), List.length_range] at hp
        omega
  obtain ⟨w1, w2, w3, w4, w5, w6, w7⟩ := hw
  refine ⟨⟨fun v hv => ?_, fun v v' q hv hv' hq hq' => ?_, fun q hq hf => ?_, by have := hP.low; omega, w7, ?_, fun i hi' => ?_, fun hnd i hi' => ?_, fun l t hl hx => ?_⟩, w6⟩
  · rw [hu v]
    rcases hold v hv with rfl | ⟨hlt, hv'⟩
    · rw [if_pos rfl]; exact ⟨w, rfl, w1, w3⟩
    · rw [if_neg (by omega)]
      obtain ⟨q, k1, k2, k3⟩ := hstay2 v hv hv'
      exact ⟨q, k1, by omega, (w4 q k2 (k3 true)).2⟩
  · rw [hu v] at hq
    rw [hu v'] at hq'
    rcases hold v hv with rfl | ⟨hlt, hv1⟩
    · rw [if_pos rfl] at hq
      rcases hold v' hv' with rfl | ⟨hlt', hv1'⟩
      · rfl
      · rw [if_neg (by omega)] at hq'
        obtain ⟨q', k1, k2, k3⟩ := hstay2 v' hv' hv1'
        rw [k1] at hq'
        have := (w4 q' k2 (k3 true)).1
        have := Option.some.inj (hq.trans hq'.symm)
        omega
    · rw [if_neg (by omega)] at hq
      rcases hold v' hv' with rfl | ⟨hlt', hv1'⟩
      · rw [if_pos rfl] at hq'
        obtain ⟨q', k1, k2, k3⟩ := hstay2 v hv hv1
        rw [k1] at hq
        have := (w4 q' k2 (k3 true)).1
        have := Option.some.inj (hq.trans hq'.symm)
        omega
      · rw [if_neg (by omega)] at hq'
        exact hP.inj v v' q hv1 hv1' hq hq'
  · by_cases e : q = w
    · subst e
      exact ⟨_, hfresh, by rw [hu, if_pos rfl]⟩
    · obtain ⟨k1, k2⟩ := w5 q hq e hf
      obtain ⟨v, hv, hlt, hva⟩ := hnon q k1 k2
      exact ⟨v, hv, by rw [hu, if_neg (by omega)]; exact hva⟩
  · rw [List.length_append, List.length_singleton]; have := hP.len; omega
  · rcases List.mem_append.1 hi' with hi' | hi'
    · exact Ins.ok_mono (hP.ok i hi') (by omega)
    · rw [List.mem_singleton.1 hi', hbb]
      refine ⟨hi.op1, hi.op8, by simp only; omega, by simp only; omega, by simp only; omega, by simp only; omega, ?_, ?_, fun h2 => ?_, hi.cc⟩
      · simp only; split
        · omega
        · exact hi.b0
      · simp only; split
        · omega
        · rename_i h2; rw [hi.bz h2]; omega
      · simp only at h2 ⊢; rw [if_neg h2]; exact hi.bz h2
  · rcases List.mem_append.1 hi' with hi' | hi'
    · exact hP.nodiv hnd i hi'
    · rw [List.mem_singleton.1 hi']
      have hm : insK p k ∈ p.code := by
        unfold insK
        rw [List.getD_eq_getElem?_getD, List.getElem?_eq_getElem hk]
        exact List.getElem_mem hk
      have := hnd _ hm
      exact this
  · obtain ⟨u, x, hux, hv, rfl⟩ := take_step hk hx
    obtain ⟨t', h1, h2⟩ := hP.run l u hl hux
    have hta : t' qa = u (insK p k).a := by
      obtain ⟨q, k1, k2⟩ := h2 _ hi.a0 hi.a1 la
      have : aK p k = hd_ (heldK p k) (insK p k).a := rfl
      rw [← this, ha] at k1
      rw [Option.some.inj k1]; exact k2
    have htb : twoOp (insK p k).op → t' qb = u (insK p k).b := fun h2' => by
      obtain ⟨q, k1, k2⟩ := h2 _ hi.b0 hi.b1 (lb h2')
      have : bK p k = hd_ (heldK p k) (insK p k).b := by unfold bK; rw [if_pos h2']
      rw [← this, hb] at k1
      rw [Option.some.inj k1]; exact k2
    have hval : (Ins.mk (insK p k).op w qa b (insK p k).c).val t' = some x := by
      rw [← hv, hbb]
      unfold Ins.val
      simp only [hta]
      by_cases h2' : twoOp (insK p k).op
      · rw [if_pos h2', htb h2']
      · have n3 : ¬ (insK p k).op = 3 := fun e => h2' (.inl e)
        have n4 : ¬ (insK p k).op = 4 := fun e => h2' (.inr e)
        simp only [n3, n4, if_false]
    refine ⟨t'.set w x, ?_, fun r r0 r1 hr => ?_⟩
    · rw [exec_app, h1]
      simp only [Option.bind_some, exec, stepI, hval, Option.map_some]
    · rw [hu, hheld r r0]
      by_cases hrt : r = (insK p k).to
      · rw [if_pos hrt, if_pos rfl]
        exact ⟨w, rfl, by rw [Rg.set_same, hrt, Rg.set_same]⟩
      · rw [if_neg hrt, if_neg (by have := (g2 _ (hd_mem g1 r0 r1)).2; omega)]
        obtain ⟨q, k1, k2⟩ := h2 r r0 r1 (hmk r r0 hrt hr)
        have hlv : Live p (k + 1) (hd_ (heldK p k) r) := ⟨r, r0, r1, hr, by rw [hheld r r0, if_neg hrt]⟩
        obtain ⟨q', j1, j2, j3⟩ := hstay2 _ hlv ⟨r, r0, r1, hmk r r0 hrt hr, rfl⟩
        have hqq : q = q' := by rw [k1] at j1; have := Option.some.inj j1; omega
        subst hqq
        have := (w4 q j2 (j3 true)).1
        exact ⟨q, k1, by rw [Rg.set_ne _ _ (by omega), Rg.set_ne _ _ hrt]; exact k2⟩
theorem pk_sim {p : Prg} {at' : List (Int × Int)} {free : List Bool} {code : List Ins} {outs : List Int} (h : p.ok) (hP : PkI p p.code.length at' free code) (hl : outs.length = p.outs.length) (ho : ∀ n, n < p.outs.length → asc at' ((outV p).getD n 0) = some (outs.getD n 0)) :
    Sim p ⟨p.ins, (free.length : Nat), code, outs⟩ := by
  have hlive : ∀ r ∈ p.outs, at_ (lvL p p.code.length) r = true := fun r hr => by
    have : lvL p p.code.length = live0 p := by unfold lvL; rw [List.drop_length]; rfl
    rw [this]
    exact (live0_at h (h.outs r hr).1).2 hr
  have key : ∀ n (hn : n < p.outs.length), asc at' (hd_ (heldK p p.code.length) p.outs[n]) = some (outs.getD n 0) := fun n hn => by
    have := ho n hn
    unfold outV at this
    rwa [List.getD_eq_getElem?_getD, List.getElem?_map, List.getElem?_eq_getElem hn] at this
  have hrange : ∀ n (hn : n < p.outs.length), ∃ q : Nat, outs.getD n 0 = q ∧ q < free.length := fun n hn => by
    have hr := h.outs _ (List.getElem_mem hn)
    obtain ⟨q, k1, k2, _⟩ := hP.has _ ⟨p.outs[n], hr.1, hr.2, hlive _ (List.getElem_mem hn), rfl⟩
    rw [key n hn] at k1
    exact ⟨q, Option.some.inj k1, k2⟩
  have hlow := hP.low
  have hfit := hP.fits
  have hregs := h.regs
  refine ⟨⟨h.ins1, hlow, by simp only; omega, Nat.le_trans hP.len h.len, by simp only; rw [hl]; exact h.out1, by simp only; rw [hl]; exact h.outn, fun r hr => ?_, hP.ok⟩, rfl, hl, hP.nodiv, fun l o hll ⟨s, hs, he⟩ => ?_⟩
  · obtain ⟨n, hn, rfl⟩ := List.getElem_of_mem hr
    obtain ⟨q, k1, k2⟩ := hrange n (by simp only at hn; omega)
    rw [List.getD_eq_getElem?_getD, List.getElem?_eq_getElem hn] at k1
    simp only [Option.getD_some] at k1
    rw [k1]; simp only; omega
  · obtain ⟨t', h1, h2⟩ := hP.run l s hll (by rw [List.take_length]; exact hs)
    refine ⟨t', h1, ?_⟩
    rw [he]
    refine List.ext_getElem (by simp [hl]) fun n k1 k2 => ?_
    rw [List.getElem_map, List.getElem_map]
    have hn : n < p.outs.length := by simpa using k1
    have hr := h.outs _ (List.getElem_mem hn)
    obtain ⟨q, j1, j2⟩ := h2 _ hr.1 hr.2 (hlive _ (List.getElem_mem hn))
    rw [key n hn] at j1
    have hn2 : n < outs.length := by omega
    rw [List.getD_eq_getElem?_getD, List.getElem?_eq_getElem hn2] at j1
    rw [show outs[n] = (q : Int) from Option.some.inj j1]
    exact j2.symm
end Go.Proofs.YthkoodpnepfijaaGreatDoor
/- XU: WALKS: prog: Needed. -/
namespace Go.Proofs.YthkoodpnepfijaaGreatDoor
open Go.RowKit
set_option linter.unusedVariables false
set_option linter.unusedSimpArgs false
set_option maxRecDepth 100000
set_option maxHeartbeats 1000000
theorem needed131 {F : Fz} {p : Prg} {cv ov : Value} (hP : PrR F cv ov p) (hok : p.ok) : Pu 131 [vPr p cv ov] F fun u F' => ∃ v, u = .tuple #[v, .int .i64 0] ∧ RowM F' v vb false (needL p) := fun own => by
  obtain ⟨A1, c1, e1⟩ := hP.code.dest
  obtain ⟨A2, c2, e2⟩ := hP.outs.dest
  subst e1 e2
  have o1 := hok.ins1
  have o2 := hok.insr
  have o3 := hok.regs
  have o4 := hok.len
  have o6 := hok.outn
  refine n_funD Tryz.func131 Tryz.ntmps131 rfl rfl rfl ?_
  refine go ?_
  intro r1
  refine go ?_
  refine o_pu rfl (right156 hP hok) (fun v F0 hF0 e => ?_) sl
  subst e
  have hP0 := hP.le hF0
  have hO := hP0.outs
  have hC := hP0.code
  refine go ?_
  refine o_make p.code.length rfl rfl (by omega) (by omega) (fun rO => ?_)
  rw [rep_one, show List.replicate p.code.length (Value.bool false) = (outB p.code (live0 p) 0).map vb by simp [outB, vb, liv]]
  refine go ?_
  intro r4
  refine go ?_
  refine o_make p.regs.toNat rfl (by omega) (by omega) (by omega) (fun rA => ?_)
  rw [rep_one, show List.replicate p.regs.toNat (Value.bool false) = (mark (List.replicate p.regs.toNat false) (p.outs.take 0)).map vb by simp [mark, vb]]
  refine go ?_
  intro r5
  refine go ?_
  refine c_loopT (fun m X o G => ∃ j : Nat, m = p.outs.length - j ∧ X = [(1, .pointer (some ⟨r1, 0, none⟩)), (4, .pointer (some ⟨r4, 0, none⟩)), (5, .pointer (some ⟨r5, 0, none⟩)), (23, .slice A2 p.outs.length c2), (24, .int .i64 (p.outs.length : Nat)), (25, .int .i64 (j : Nat))] ∧ .c r5 [.slice (some ⟨rA, 0, none⟩) p.regs.toNat p.regs.toNat] :: .c rA ((mark (List.replicate p.regs.toNat false) (p.outs.take j)).map vb) :: .c r4 [.slice (some ⟨rO, 0, none⟩) p.code.length p.code.length] :: .c rO ((outB p.code (live0 p) 0).map vb) :: .c r1 [.int .i64 p.ins, .int .i64 p.regs, .slice A1 p.code.length c1, .slice A2 p.outs.length c2] :: own = o ∧ F0 = G ∧ j ≤ p.outs.length)
    ⟨_, _, _, _, ⟨0, rfl, rfl, rfl, rfl, by omega⟩, ⟨rfl, rfl, rfl, rfl, rfl, rfl, trivial⟩, Turn.refl _ _⟩ ?_
  rintro _ _ _ _ b ⟨j, rfl, rfl, rfl, rfl, hj⟩
  by_cases hjl : j < p.outs.length
  · have hr := hok.outs _ (getD_mem (z := 0) hjl)
    have hml := mark_len (List.replicate p.regs.toNat false) (p.outs.take j)
    rw [List.length_replicate] at hml
    have hsn := mark_snoc (A := List.replicate p.regs.toNat false) hjl
    generalize mark (List.replicate p.regs.toNat false) (p.outs.take j) = M at *
    generalize hq : p.outs.getD j 0 = q at *
    obtain ⟨hr0, hr1⟩ := hr
    obtain ⟨n, rfl⟩ : ∃ n : Nat, q = n := ⟨q.toNat, by omega⟩
    rw [Int.toNat_natCast] at hsn
    refine go ?_
    refine o_val (.int .i64 (n : Nat)) (congrArg vi hq) ?_
    refine go ?_
    exact ⟨_, _, _, _, ⟨j + 1, rfl, rfl, rfl, rfl, by omega⟩, ⟨rfl, rfl, rfl, rfl, rfl, eqI (by omega), trivial⟩, by rw [hsn, ← vb_set M n true]; exact Turn.refl _ _, rfl, by omega⟩
  · obtain rfl : j = p.outs.length := by omega
    rw [List.take_length]
    rw [show mark (List.replicate p.regs.toNat false) p.outs = live0 p from rfl]
    rw [show (live0 p).map vb = (livA p.code (live0 p) 0).map vb by simp [livA, liv]]
    refine go ?_
    refine o_pu rfl (back130 (p := p) (A1 := A1) (A2 := A2) (c1 := c1) (c2 := c2) (m1 := p.code.length) (m2 := p.outs.length)) (fun v F1 hF1 ⟨A, e, hA⟩ => ?_) sl
    subst e
    refine go ?_
    have hl0 := live0_len p
    unfold needL
    generalize hA0 : live0 p = A0 at *
    refine c_rangeA (ps := [35, 36]) (capt := [.pointer (some A)]) (xs := bwd p.code)
      (fun vs r => (9, .pointer (some ⟨r, 0, none⟩)) :: (8, vs.headD undef) :: (36, (vs.tail).headD undef) :: (35, vs.headD undef) :: [(4, .pointer (some ⟨r4, 0, none⟩)), (5, .pointer (some ⟨r5, 0, none⟩))])
      (fun vs r => [.c r (match (vs.tail).headD undef with | .agg us => us.toList | _ => [])])
      (fun i o G' => o = .c r5 [.slice (some ⟨rA, 0, none⟩) p.regs.toNat p.regs.toNat] :: .c rA ((livA p.code A0 i).map vb) :: .c r4 [.slice (some ⟨rO, 0, none⟩) p.code.length p.code.length] :: .c rO ((outB p.code A0 i).map vb) :: .c r1 [.int .i64 p.ins, .int .i64 p.regs, .slice A1 p.code.length c1, .slice A2 p.outs.length c2] :: own ∧ Fle F1 G') (fun i o G1 G2 ⟨e, h⟩ hl => ⟨e, h.trans hl⟩)
      rfl (back155 hA (hP0.le hF1) hok) (fun vs hvs => by obtain ⟨z, _, rfl⟩ := List.mem_map.1 hvs; rfl) ⟨rfl, Fle.refl _⟩ ?_ ?_ ?_
    · intro vs hvs l o G'
      obtain ⟨z, _, rfl⟩ := List.mem_map.1 hvs
      refine c_fr [(36, .agg (vIn (p.code.getD (p.code.length - 1 - z) z0I)).toArray), (35, .int .i64 ((p.code.length - 1 - z : Nat) : Int)), (4, .pointer (some ⟨r4, 0, none⟩)), (5, .pointer (some ⟨r5, 0, none⟩))] ⟨rfl, rfl, rfl, rfl, trivial⟩ fun b => ?_
      refine go ?_
      intro r9
      refine go ?_
      exact ⟨rfl, _, r9, rfl⟩
    · rintro i vs hvs l b r9 _ G' tail ⟨rfl, hF'⟩ hG'
      have hi : i < p.code.length := by have := (List.getElem?_eq_some_iff.1 hvs).1; rwa [bwd_len] at this
      rw [bwd_get hi] at hvs
      cases hvs
      have hno := livA_no (A := A0) hi
      have hyes := livA_yes (A := A0) hi
      have hlA := livA_len p.code A0 i
      have hlO := outB_len p.code A0 (Nat.le_of_lt hi)
      have hik := hok.code _ (getD_mem (z := z0I) (show p.code.length - 1 - i < p.code.length by omega))
      generalize hk : p.code.length - 1 - i = k at *
      generalize hI : p.code.getD k z0I = I at *
      generalize hLA : livA p.code A0 i = LA at *
      generalize hLO : outB p.code A0 i = LO at *
      have i0 := hik.to0
      have i1 := hik.to1
      obtain ⟨t, ht⟩ : ∃ t : Nat, I.to = t := ⟨I.to.toNat, by omega⟩
      refine c_fr [(9, .pointer (some ⟨r9, 0, none⟩)), (8, .int .i64 (k : Nat)), (4, .pointer (some ⟨r4, 0, none⟩)), (5, .pointer (some ⟨r5, 0, none⟩))] ⟨rfl, rfl, rfl, rfl, trivial⟩ fun b => ?_
      have hvI : vIn I = [.int .i64 I.op, .int .i64 (t : Nat), .int .i64 I.a, .int .i64 I.b, .int .i64 I.c] := by unfold vIn; rw [ht]
      refine c_owneq (own' := .c r9 [.int .i64 I.op, .int .i64 (t : Nat), .int .i64 I.a, .int .i64 I.b, .int .i64 I.c] :: .c r5 [.slice (some ⟨rA, 0, none⟩) p.regs.toNat p.regs.toNat] :: .c rA (LA.map vb) :: .c r4 [.slice (some ⟨rO, 0, none⟩) p.code.length p.code.length] :: .c rO (LO.map vb) :: .c r1 [.int .i64 p.ins, .int .i64 p.regs, .slice A1 p.code.length c1, .slice A2 p.outs.length c2] :: (own ++ tail)) (by rw [← hvI]; rfl) ?_
      have hat : at_ LA I.to = LA.getD t false := by unfold at_; rw [ht]; rfl
      rw [hat] at hno hyes
      refine go ?_
      cases hb : LA.getD t false
      · refine go ?_
        refine ⟨rfl, _, _, ?_, ⟨rfl, hF'⟩, Fle.refl _⟩
        rw [(hno hb).1, (hno hb).2]
        exact Turn.drop
      · obtain ⟨y1, y2⟩ := hyes hb
        rw [ht] at y1
        rw [Int.toNat_natCast] at y1
        refine goT ?_
        refine c_drww [.c r9 [.int .i64 I.op, .int .i64 (t : Nat), .int .i64 I.a, .int .i64 I.b, .int .i64 I.c], .c r5 [.slice (some ⟨rA, 0, none⟩) p.regs.toNat p.regs.toNat], .c r4 [.slice (some ⟨rO, 0, none⟩) p.code.length p.code.length]] sl rfl (by decide +kernel) ?_
        refine go ?_
        refine o_stN rfl inferInstance rfl rfl get4 rfl (by rw [List.length_map]; omega) sl (.keep sl (Fle.refl _)) ?_
        refine go ?_
        refine o_stN rfl inferInstance rfl rfl get2 rfl (by rw [List.length_map]; omega) sl (.keep sl (Fle.refl _)) ?_
        refine o_nil sl ?_
        refine go ?_
        refine o_val (.agg (vIn I).toArray) (by rw [hvI]) ?_
        refine o_pu rfl (asks83 I) (fun v F2 hF2 hv => ?_) sl
        rw [asks_eq hik] at hv
        obtain ⟨Av, cv, ev⟩ := hv.dest
        subst ev
        have hal : I.asks.length ≤ 2 := by unfold Ins.asks; split <;> simp
        refine go ?_
        refine c_loopT (fun m X o G => ∃ j : Nat, m = I.asks.length - j ∧ X = [(5, .pointer (some ⟨r5, 0, none⟩)), (51, .slice Av I.asks.length cv), (52, .int .i64 (I.asks.length : Nat)), (53, .int .i64 (j : Nat))] ∧ .c r9 [.int .i64 I.op, .int .i64 (t : Nat), .int .i64 I.a, .int .i64 I.b, .int .i64 I.c] :: .c r5 [.slice (some ⟨rA, 0, none⟩) p.regs.toNat p.regs.toNat] :: .c rA ((mark (LA.set t false) (I.asks.take j)).map vb) :: .c r4 [.slice (some ⟨rO, 0, none⟩) p.code.length p.code.length] :: .c rO ((LO.set k true).map vb) :: .c r1 [.int .i64 p.ins, .int .i64 p.regs, .slice A1 p.code.length c1, .slice A2 p.outs.length c2] :: (own ++ tail) = o ∧ F2 = G ∧ j ≤ I.asks.length)
          ⟨_, _, _, _, ⟨0, rfl, rfl, rfl, rfl, by omega⟩, ⟨rfl, rfl, rfl, rfl, trivial⟩, by rw [← vb_set LO k true, List.take_zero, show mark (LA.set t false) [] = LA.set t false from rfl, ← vb_set LA t false]; exact Turn.refl _ _⟩ ?_
        rintro _ _ _ _ b ⟨j, rfl, rfl, rfl, rfl, hj⟩
        by_cases hjl : j < I.asks.length
        · have hr := hik.asks _ (getD_mem (z := 0) hjl)
          have hml := mark_len (LA.set t false) (I.asks.take j)
          rw [List.length_set] at hml
          have hsn := mark_snoc (A := LA.set t false) hjl
          generalize mark (LA.set t false) (I.asks.take j) = M at *
          generalize hq : I.asks.getD j 0 = q at *
          obtain ⟨hr0, hr1⟩ := hr
          obtain ⟨n, rfl⟩ : ∃ n : Nat, q = n := ⟨q.toNat, by omega⟩
          rw [Int.toNat_natCast] at hsn
          refine go ?_
          refine o_val (.int .i64 (n : Nat)) (congrArg vi hq) ?_
          refine go ?_
          exact ⟨_, _, _, _, ⟨j + 1, rfl, rfl, rfl, rfl, by omega⟩, ⟨rfl, rfl, rfl, eqI (by omega), trivial⟩, by rw [hsn, ← vb_set M n true]; exact Turn.refl _ _, rfl, by omega⟩
        · obtain rfl : j = I.asks.length := by omega
          rw [List.take_length, ← y1, ← y2]
          refine go ?_
          exact ⟨rfl, _, _, Turn.drop, ⟨rfl, hF'.trans hF2⟩, hF2⟩
    · rintro D _ G' ⟨rfl, hF'⟩ hG'
      rw [bwd_len]
      refine go ?_
      refine ⟨D, _, rfl, rfl, _, _, _, .cons (.tmp rfl) (.cons (.tmp rfl) .nil), (Turn.perm (pkP 3 rfl (.refl _))).trans (Turn.ice.trans (Turn.skip (Turn.skip (Turn.skip Turn.drop)))), rfl, ((hF0.trans hF1).trans hF').trans (Fz.add_le _ _), _, rfl, ?_⟩
      have h0 : outB p.code A0 p.code.length = (liv p.code A0).2 := by unfold outB; rw [Nat.sub_self]; rfl
      rw [h0]
      exact rowM_ice (liv_len _ _).2 (Nat.le_refl _)
end Go.Proofs.YthkoodpnepfijaaGreatDoor

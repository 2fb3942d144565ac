/-
  Steps towards TopCounts (no conditions of their own): REGISTERS GIVEN ANEW, PLAINLY: which value lives how long; a register for each that lives.
-/
import Derived.Test.YthkoodpnepfijaaGreatDoorM22
/- PF: REGISTERS GIVEN ANEW, PLAINLY: which value lives how long; a register for each that lives. -/
namespace Go.Proofs.YthkoodpnepfijaaGreatDoor
set_option linter.unusedVariables false

abbrev zI : Ins := ⟨0, 0, 0, 0, 0⟩
def needL (p : Prg) : List Bool := (liv p.code (live0 p)).2
def lvL (p : Prg) (k : Nat) : List Bool := (liv (p.code.drop k) (live0 p)).1
def insK (p : Prg) (k : Nat) : Ins := p.code.getD k zI
theorem needL_len (p : Prg) : (needL p).length = p.code.length := (liv_len _ _).2
theorem lvL_len (p : Prg) (k : Nat) : (lvL p k).length = p.regs.toNat := by unfold lvL; rw [(liv_len _ _).1, live0_len]
theorem need_at : ∀ (c : List Ins) (A : List Bool) (k : Nat), k < c.length → (liv c A).2.getD k false = at_ (liv (c.drop (k + 1)) A).1 (c.getD k zI).to
  | [], A, k, h => absurd h (by simp)
  | i :: r, A, 0, h => by
    rw [liv_cons]
    simp only [List.drop_succ_cons, List.drop_zero, List.getD_cons_zero]
    split
    · rename_i e; rw [e]; rfl
    · rename_i e; rw [Bool.not_eq_true] at e; rw [e]; rfl
  | i :: r, A, k + 1, h => by
    rw [liv_cons, List.drop_succ_cons, List.getD_cons_succ, ← need_at r A k (by simpa using h)]
    split <;> rfl
theorem drop_k {p : Prg} {k : Nat} (hk : k < p.code.length) : p.code.drop k = insK p k :: p.code.drop (k + 1) := by
  unfold insK
  rw [List.drop_eq_getElem_cons hk, List.getD_eq_getElem?_getD, List.getElem?_eq_getElem hk]; rfl
theorem need_no {p : Prg} {k : Nat} (hk : k < p.code.length) (h : (needL p).getD k false = false) : lvL p k = lvL p (k + 1) ∧ at_ (lvL p (k + 1)) (insK p k).to = false := by
  have h1 := need_at p.code (live0 p) k hk
  have h2 : at_ (lvL p (k + 1)) (insK p k).to = false := by rw [← h]; exact h1.symm
  refine ⟨?_, h2⟩
  unfold lvL at h2 ⊢
  rw [drop_k hk, liv_cons, h2]; rfl
theorem need_yes {p : Prg} {k : Nat} (hk : k < p.code.length) (h : (needL p).getD k false = true) : lvL p k = mark ((lvL p (k + 1)).set (insK p k).to.toNat false) (insK p k).asks ∧ at_ (lvL p (k + 1)) (insK p k).to = true := by
  have h1 := need_at p.code (live0 p) k hk
  have h2 : at_ (lvL p (k + 1)) (insK p k).to = true := by rw [← h]; exact h1.symm
  refine ⟨?_, h2⟩
  unfold lvL at h2 ⊢
  rw [drop_k hk, liv_cons, if_pos h2]
theorem insK_ok {p : Prg} (h : p.ok) {k : Nat} (hk : k < p.code.length) : (insK p k).ok p.regs := by
  unfold insK
  rw [List.getD_eq_getElem?_getD, List.getElem?_eq_getElem hk]
  exact h.code _ (List.getElem_mem hk)
/-- Of each register its value, of each value the last instruction that asks it. -/
def fwd (p : Prg) : Nat → List Int × List Int
  | 0 => (held0 p, List.replicate (p.ins + 1).toNat (-1))
  | k + 1 =>
    if (needL p).getD k false then
      ((fwd p k).1.set (insK p k).to.toNat ((fwd p k).2.length : Nat),
       ((fwd p k).2.set (hd_ (fwd p k).1 (insK p k).a).toNat (k : Nat)).set (if twoOp (insK p k).op then hd_ (fwd p k).1 (insK p k).b else hd_ (fwd p k).1 (insK p k).a).toNat (k : Nat) ++ [-1])
    else fwd p k
def heldK (p : Prg) (k : Nat) : List Int := (fwd p k).1
def untK (p : Prg) (k : Nat) : List Int := (fwd p k).2
def cntK (p : Prg) (k : Nat) : Nat := (untK p k).length
def aK (p : Prg) (k : Nat) : Int := hd_ (heldK p k) (insK p k).a
def bK (p : Prg) (k : Nat) : Int := if twoOp (insK p k).op then hd_ (heldK p k) (insK p k).b else aK p k
theorem fwd_yes {p : Prg} {k : Nat} (h : (needL p).getD k false = true) : heldK p (k + 1) = (heldK p k).set (insK p k).to.toNat (cntK p k : Nat) ∧ untK p (k + 1) = ((untK p k).set (aK p k).toNat (k : Nat)).set (bK p k).toNat (k : Nat) ++ [-1] ∧ cntK p (k + 1) = cntK p k + 1 := by
  unfold cntK bK aK heldK untK
  rw [fwd, if_pos h]
  exact ⟨rfl, rfl, by simp⟩
theorem fwd_no {p : Prg} {k : Nat} (h : (needL p).getD k false = false) : heldK p (k + 1) = heldK p k ∧ untK p (k + 1) = untK p k ∧ cntK p (k + 1) = cntK p k := by
  unfold cntK heldK untK
  rw [fwd, if_neg (by rw [h]; simp)]
  exact ⟨rfl, rfl, rfl⟩
theorem held_ok {p : Prg} (h : p.ok) : ∀ k, k ≤ p.code.length → ((heldK p k).length : Int) = p.regs ∧ (∀ v ∈ heldK p k, 0 ≤ v ∧ v < cntK p k) ∧ p.ins + 1 ≤ cntK p k
  | 0, _ => by
    have h1 := h.ins1
    have h2 := h.insr
    have hc : (cntK p 0 : Int) = p.ins + 1 := by unfold cntK untK; rw [fwd, List.length_replicate]; omega
    have hh : heldK p 0 = held0 p := rfl
    refine ⟨?_, fun v hv => ?_, by omega⟩
    · rw [hh]; unfold held0; rw [List.length_map, List.length_range]; omega
    · rw [hh] at hv
      obtain ⟨r, _, rfl⟩ := List.mem_map.1 hv
      show 0 ≤ min (r : Int) p.ins ∧ min (r : Int) p.ins < _
      omega
  | k + 1, hk => by
    obtain ⟨h1, h2, h3⟩ := held_ok h k (by omega)
    cases hn : (needL p).getD k false
    · obtain ⟨e1, e2, e3⟩ := fwd_no hn
      rw [e1, e3]; exact ⟨h1, h2, h3⟩
    · obtain ⟨e1, e2, e3⟩ := fwd_yes hn
      rw [e1, e3]
      refine ⟨by rw [List.length_set]; exact h1, fun v hv => ?_, by omega⟩
      rcases List.mem_or_eq_of_mem_set hv with hv | rfl
      · have := h2 v hv; omega
      · omega
theorem ab_ok {p : Prg} (h : p.ok) {k : Nat} (hk : k < p.code.length) : (0 ≤ aK p k ∧ aK p k < cntK p k) ∧ (0 ≤ bK p k ∧ bK p k < cntK p k) := by
  obtain ⟨h1, h2, h3⟩ := held_ok h k (by omega)
  have hi := insK_ok h hk
  have ha := h2 _ (hd_mem h1 hi.a0 hi.a1)
  have hb := h2 _ (hd_mem h1 hi.b0 hi.b1)
  refine ⟨ha, ?_⟩
  unfold bK
  split
  · exact hb
  · exact ha
def untE (p : Prg) (v : Int) (U : List Int) : Int := U.getD v.toNat (-1)
/-- A value lives ahead of the instruction k. -/
def Live (p : Prg) (k : Nat) (v : Int) : Prop := ∃ r, 0 ≤ r ∧ r < p.regs ∧ at_ (lvL p k) r = true ∧ hd_ (heldK p k) r = v
theorem unt_fwd {p : Prg} (h : p.ok) : ∀ m, m ≤ p.code.length → (∀ v : Int, 0 ≤ v → ∀ k : Nat, (untK p m).getD v.toNat (-1) = (k : Int) → k < m ∧ (needL p).getD k false = true ∧ (v = aK p k ∨ v = bK p k)) ∧
    (∀ k, k < m → (needL p).getD k false = true → ∀ v : Int, (v = aK p k ∨ v = bK p k) → (k : Int) ≤ (untK p m).getD v.toNat (-1)) ∧ ∀ v : Int, 0 ≤ v → -1 ≤ (untK p m).getD v.toNat (-1)
  | 0, _ => by
    have e : ∀ n : Nat, (untK p 0).getD n (-1) = -1 := fun n => by
      unfold untK
      rw [fwd, List.getD_eq_getElem?_getD, List.getElem?_replicate]
      split <;> rfl
    refine ⟨fun v hv k hk => ?_, fun k hk => by omega, fun v _ => by rw [e]; omega⟩
    rw [e] at hk; omega
  | m + 1, hm => by
    obtain ⟨i1, i2, i3⟩ := unt_fwd h m (by omega)
    cases hn : (needL p).getD m false
    · obtain ⟨e1, e2, e3⟩ := fwd_no hn
      rw [e2]
      refine ⟨fun v hv k hk => ?_, fun k hk hnk v hv => ?_, i3⟩
      · have := i1 v hv k hk
        exact ⟨by omega, this.2⟩
      · have : k ≠ m := fun e => by subst e; rw [hn] at hnk; cases hnk
        exact i2 k (by omega) hnk v hv
    · obtain ⟨e1, e2, e3⟩ := fwd_yes hn
      obtain ⟨ha, hb⟩ := ab_ok h (k := m) (by omega)
      have hlen : (untK p m).length = cntK p m := rfl
      -- the new list, place by place
      have key : ∀ v : Int, 0 ≤ v → (untK p (m + 1)).getD v.toNat (-1) = if v = aK p m ∨ v = bK p m then (m : Int) else (untK p m).getD v.toNat (-1) := fun v hv => by
        rw [e2, List.getD_eq_getElem?_getD, List.getElem?_append]
        rw [List.length_set, List.length_set, hlen]
        by_cases hlt : v.toNat < cntK p m
        · rw [if_pos hlt, List.getElem?_set, List.getElem?_set, List.length_set, hlen]
          by_cases h2 : v = bK p m
          · rw [if_pos (by omega), if_pos (by omega), if_pos (.inr h2)]; rfl
          · rw [if_neg (by omega)]
            by_cases h1 : v = aK p m
            · rw [if_pos (by omega), if_pos (by omega), if_pos (.inl h1)]; rfl
            · rw [if_neg (by omega), if_neg (by omega), List.getD_eq_getElem?_getD]
        · rw [if_neg hlt, if_neg (by omega), List.getD_eq_getElem?_getD, List.getElem?_eq_none (l := untK p m) (by omega)]
          have : ∀ n : Nat, (([-1] : List Int)[n]?).getD (-1) = -1 := fun n => by cases n <;> rfl
          rw [this]; rfl
      refine ⟨fun v hv k hk => ?_, fun k hk hnk v hv => ?_, fun v hv => ?_⟩
      · rw [key v hv] at hk
        split at hk
        · rename_i hab
          obtain rfl : m = k := by omega
          exact ⟨by omega, hn, hab⟩
        · have := i1 v hv k hk
          exact ⟨by omega, this.2⟩
      · have hv0 : 0 ≤ v := by
          have := ab_ok h (k := k) (by omega)
          rcases hv with rfl | rfl
          · exact this.1.1
          · exact this.2.1
        rw [key v hv0]
        split
        · omega
        · rename_i hab
          have : k ≠ m := fun e => by subst e; exact hab hv
          exact i2 k (by omega) hnk v hv
      · rw [key v hv]
        split
        · omega
        · exact i3 v hv
/-- The values that are outs. -/
def outV (p : Prg) : List Int := p.outs.map (hd_ (heldK p p.code.length))
def untF (p : Prg) : List Int := (outV p).foldl (fun U v => U.set v.toNat (p.code.length : Nat)) (untK p p.code.length)
theorem outV_ok {p : Prg} (h : p.ok) : ∀ v ∈ outV p, 0 ≤ v ∧ v < cntK p p.code.length := by
  obtain ⟨h1, h2, h3⟩ := held_ok h p.code.length (Nat.le_refl _)
  intro v hv
  obtain ⟨r, hr, rfl⟩ := List.mem_map.1 hv
  have := h.outs r hr
  exact h2 _ (hd_mem h1 this.1 this.2)
theorem unt_fold {n : Int} : ∀ (l U : List Int), (∀ v ∈ l, 0 ≤ v ∧ v < (U.length : Int)) → ((l.foldl (fun U v => U.set v.toNat n) U).length = U.length ∧ ∀ v : Int, 0 ≤ v → (l.foldl (fun U v => U.set v.toNat n) U).getD v.toNat (-1) = if v ∈ l then n else U.getD v.toNat (-1))
  | [], U, _ => ⟨rfl, fun v _ => by simp⟩
  | u :: l, U, hl => by
    have hu := hl u (List.mem_cons_self ..)
    obtain ⟨k1, k2⟩ := unt_fold (n := n) l (U.set u.toNat n) (fun v hv => by rw [List.length_set]; exact hl v (List.mem_cons_of_mem _ hv))
    rw [List.foldl_cons]
    refine ⟨by rw [k1, List.length_set], fun v hv => ?_⟩
    rw [k2 v hv]
    by_cases hm : v ∈ l
    · rw [if_pos hm, if_pos (List.mem_cons_of_mem _ hm)]
    · rw [if_neg hm, List.getD_eq_getElem?_getD, List.getElem?_set]
      by_cases e : v = u
      · subst e
        rw [if_pos rfl, if_pos (by omega), if_pos (List.mem_cons_self ..)]; rfl
      · rw [if_neg (by omega), if_neg (by simp [e, hm]), List.getD_eq_getElem?_getD]
theorem untF_len {p : Prg} (h : p.ok) : (untF p).length = cntK p p.code.length := (unt_fold (outV p) _ (outV_ok h)).1
theorem cnt_mono {p : Prg} : ∀ {k m : Nat}, k ≤ m → cntK p k ≤ cntK p m
  | k, 0, h => by rw [show k = 0 by omega]; exact Nat.le_refl _
  | k, m + 1, h => by
    by_cases e : k = m + 1
    · rw [e]; exact Nat.le_refl _
    · have := cnt_mono (p := p) (show k ≤ m by omega)
      cases hn : (needL p).getD m false
      · rw [(fwd_no hn).2.2]; exact this
      · rw [(fwd_yes hn).2.2]; omega
/-- **Who lives.** -/
theorem live_iff {p : Prg} (h : p.ok) : ∀ (d k : Nat), k + d = p.code.length → ∀ v : Int, 0 ≤ v → v < cntK p k → ((k : Int) ≤ (untF p).getD v.toNat (-1) ↔ Live p k v)
  | 0, k, hk, v, hv0, hv => by
    obtain rfl : k = p.code.length := by omega
    obtain ⟨i1, i2, i3⟩ := unt_fwd h p.code.length (Nat.le_refl _)
    unfold untF
    rw [(unt_fold (outV p) _ (outV_ok h)).2 v hv0]
    have hlv : lvL p p.code.length = live0 p := by unfold lvL; rw [List.drop_length]; rfl
    unfold Live
    rw [hlv]
    split
    · rename_i hm
      obtain ⟨r, hr, rfl⟩ := List.mem_map.1 hm
      have := h.outs r hr
      exact ⟨fun _ => ⟨r, this.1, this.2, (live0_at h this.1).2 hr, rfl⟩, fun _ => Int.le_refl _⟩
    · rename_i hm
      constructor
      · intro hle
        obtain ⟨n, hn⟩ : ∃ n : Nat, (untK p p.code.length).getD v.toNat (-1) = (n : Int) := ⟨((untK p p.code.length).getD v.toNat (-1)).toNat, by omega⟩
        have := (i1 v hv0 n hn).1
        omega
      · rintro ⟨r, r0, r1, hr, rfl⟩
        exact absurd (List.mem_map.2 ⟨r, (live0_at h r0).1 hr, rfl⟩) hm
  | d + 1, k, hk, v, hv0, hv => by
    have hkl : k < p.code.length := by omega
    have ih := live_iff h d (k + 1) (by omega) v hv0 (by have := cnt_mono (p := p) (show k ≤ k + 1 by omega); omega)
    obtain ⟨i1, i2, i3⟩ := unt_fwd h p.code.length (Nat.le_refl _)
    obtain ⟨g1, g2, g3⟩ := held_ok h k (by omega)
    have hi := insK_ok h hkl
    -- the instruction k asks just a and b
    have hU : ∀ v : Int, 0 ≤ v → ((untF p).getD v.toNat (-1) = (k : Int) → (needL p).getD k false = true ∧ (v = aK p k ∨ v = bK p k)) := fun v hv0 e => by
      unfold untF at e
      rw [(unt_fold (outV p) _ (outV_ok h)).2 v hv0] at e
      split at e
      · omega
      · exact (i1 v hv0 k e).2
    have hU2 : (needL p).getD k false = true → (v = aK p k ∨ v = bK p k) → (k : Int) ≤ (untF p).getD v.toNat (-1) := fun hn hab => by
      unfold untF
      rw [(unt_fold (outV p) _ (outV_ok h)).2 v hv0]
      split
      · omega
      · exact i2 k hkl hn v hab
    cases hn : (needL p).getD k false
    · obtain ⟨l1, l2⟩ := need_no hkl hn
      obtain ⟨e1, e2, e3⟩ := fwd_no hn
      have hL : Live p (k + 1) v ↔ Live p k v := by unfold Live; rw [l1, e1]
      rw [← hL, ← ih]
      constructor
      · intro hle
        have : (untF p).getD v.toNat (-1) ≠ (k : Int) := fun e => by have := (hU v hv0 e).1; rw [hn] at this; cases this
        omega
      · intro hle; omega
    · obtain ⟨l1, l2⟩ := need_yes hkl hn
      obtain ⟨e1, e2, e3⟩ := fwd_yes hn
      have hlen := lvL_len p (k + 1)
      have t0 := hi.to0
      have t1 := hi.to1
      have hmk : ∀ r, 0 ≤ r → (at_ (lvL p k) r = true ↔ (r ≠ (insK p k).to ∧ at_ (lvL p (k + 1)) r = true) ∨ r ∈ (insK p k).asks) := fun r r0 => by
        rw [l1, mark_at (fun q hq => ?_) r0, set_at t0 (by omega) r0]
        · constructor
          · rintro (h' | h')
            · split at h'
              · cases h'
              · rename_i hne; exact .inl ⟨hne, h'⟩
            · exact .inr h'
          · rintro (⟨h1, h2⟩ | h')
            · left; rw [if_neg h1]; exact h2
            · exact .inr h'
        · have := hi.asks q hq
          rw [List.length_set]; omega
      constructor
      · intro hle
        by_cases hk1 : (k : Int) + 1 ≤ (untF p).getD v.toNat (-1)
        · obtain ⟨r, r0, r1, hr, hv'⟩ := ih.1 (by omega)
          rw [e1, hd_set g1 t0 t1 r0] at hv'
          by_cases hrt : r = (insK p k).to
          · rw [if_pos hrt] at hv'; omega
          · rw [if_neg hrt] at hv'
            exact ⟨r, r0, r1, (hmk r r0).2 (.inl ⟨hrt, hr⟩), hv'⟩
        · obtain ⟨_, hab⟩ := hU v hv0 (by omega)
          rcases hab with rfl | rfl
          · exact ⟨(insK p k).a, hi.a0, hi.a1, (hmk _ hi.a0).2 (.inr (by unfold Ins.asks; split <;> simp)), rfl⟩
          · unfold bK
            split
            · rename_i h2
              exact ⟨(insK p k).b, hi.b0, hi.b1, (hmk _ hi.b0).2 (.inr (by unfold Ins.asks; rw [if_pos h2]; simp)), rfl⟩
            · exact ⟨(insK p k).a, hi.a0, hi.a1, (hmk _ hi.a0).2 (.inr (by unfold Ins.asks; split <;> simp)), rfl⟩
      · rintro ⟨r, r0, r1, hr, rfl⟩
        rcases (hmk r r0).1 hr with ⟨hrt, hr'⟩ | hr'
        · have : Live p (k + 1) (hd_ (heldK p k) r) := ⟨r, r0, r1, hr', by rw [e1, hd_set g1 t0 t1 r0, if_neg hrt]⟩
          have := ih.2 this
          omega
        · refine hU2 hn ?_
          unfold Ins.asks at hr'
          split at hr'
          · rename_i h2
            simp only [List.mem_cons, List.not_mem_nil, or_false] at hr'
            rcases hr' with rfl | rfl
            · exact .inl rfl
            · right; unfold bK; rw [if_pos h2]
          · simp only [List.mem_cons, List.not_mem_nil, or_false] at hr'
            subst hr'; exact .inl rfl
end Go.Proofs.YthkoodpnepfijaaGreatDoor

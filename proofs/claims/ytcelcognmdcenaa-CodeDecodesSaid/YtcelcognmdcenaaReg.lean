/-
  LAW: a region that draws its order, by an invariant on what has been done so far, in whatever order that was.
-/
import Derived.Orders
import Derived.WalkKit
namespace Go.Proofs.Ytcelcognmdcenaa
section
variable {P : Program} {ops : Array Oper} {Q : Exit → Act → World → Prop}

theorem wpAny_inv (I : (Nat → Bool) → Act → World → Prop)
    (hstep : ∀ S a w i o, I S a w → ops[i]? = some o → S i = false → (∀ e ∈ o.after, Region.binds .any e = true → S e.on = true) → wpOp P ops Q i (fun a' w' => I (fun j => if j = i then true else S j) a' w') a w)
    (hend : ∀ S a w, I S a w → (∀ i, i < ops.size → S i = true) → Q .normal a w)
    (hback : ∀ (i : Nat) (o : Oper), ops[i]? = some o → ∀ e ∈ o.after, e.on < i) :
    ∀ (fuel : Nat) (listed : Array Bool) (a : Act) (w : World), listed.size = ops.size → I (fun j => listed.getD j false) a w →
      ((List.range ops.size).filter fun j => !listed.getD j false).length ≤ fuel → wpAny P .any ops Q fuel listed a w := by
  -- nobody is ready: all have come up
  have hall : ∀ (listed : Array Bool), listed.size = ops.size → Region.ready .any ops listed = [] → ∀ i, i < ops.size → listed.getD i false = true := by
    intro listed hsz hr i
    induction i using Nat.strongRecOn with
    | ind i ih =>
      intro hi
      cases h : listed.getD i false with
      | true => rfl
      | false =>
        exfalso
        have hm : i ∈ Region.ready .any ops listed := by
          unfold Region.ready
          rw [List.mem_filter]
          refine ⟨by simpa using hi, ?_⟩
          have h1 : listed.getD i true = false := by
            have hil : i < listed.size := by omega
            simp [hil] at h ⊢
            exact h
          rw [h1]
          obtain ⟨o, ho⟩ : ∃ o, ops[i]? = some o := ⟨ops[i], by simp [hi]⟩
          rw [ho]
          simp only [Bool.not_false, Option.map_some, Option.getD_some, Bool.true_and]
          rw [Array.all_eq_true']
          intro e he
          have hlt := hback i o ho e he
          rw [ih e.on hlt (by omega)]
          simp
        rw [hr] at hm
        cases hm
  intro fuel
  induction fuel with
  | zero =>
    intro listed a w hsz hI hf
    have hnil : (List.range ops.size).filter (fun j => !listed.getD j false) = [] := List.eq_nil_of_length_eq_zero (by omega)
    have hdone : ∀ i, i < ops.size → listed.getD i false = true := by
      intro i hi
      rw [List.filter_eq_nil_iff] at hnil
      simpa using hnil i (by simpa using hi)
    refine ⟨?_, hend _ a w hI hdone⟩
    unfold Region.ready
    rw [List.filter_eq_nil_iff]
    intro i hi
    have hi := List.mem_range.1 hi
    have h1 : listed.getD i true = true := by
      have := hdone i hi
      have hil : i < listed.size := by omega
      simp [hil] at this ⊢
      exact this
    rw [h1]; simp
  | succ fuel ih =>
    intro listed a w hsz hI hf
    refine ⟨fun hr => hend _ a w hI (hall listed hsz hr), fun i hi => ?_⟩
    obtain ⟨hun, o, ho, hdep⟩ := mem_ready.1 hi
    have hil : i < listed.size := by
      rcases Nat.lt_or_ge i listed.size with h | h
      · exact h
      · simp [Array.getElem?_eq_none h] at hun
    have h0 : listed.getD i false = false := by
      simp [hil] at hun ⊢
      exact hun
    refine wpOp_mono (fun a' w' hI' => ?_) (hstep _ a w i o hI ho h0 (fun e he hb => hdep e he hb))
    have hset : ∀ j, (listed.setIfInBounds i true).getD j false = if j = i then true else listed.getD j false := by
      intro j
      by_cases e : j = i
      · subst e; simp [hil]
      · have : ¬ i = j := fun h => e h.symm
        simp [e, this]
    refine ih _ a' w' (by simpa using hsz) ?_ ?_
    · have : (fun j => (listed.setIfInBounds i true).getD j false) = fun j => if j = i then true else listed.getD j false := funext hset
      rw [this]; exact hI'
    · have hlt : ((List.range ops.size).filter fun j => !(listed.setIfInBounds i true).getD j false).length < ((List.range ops.size).filter fun j => !listed.getD j false).length := by
        have h2 : (List.range ops.size).filter (fun j => !(listed.setIfInBounds i true).getD j false) = ((List.range ops.size).filter fun j => !listed.getD j false).filter fun j => decide (j ≠ i) := by
          rw [List.filter_filter]
          apply List.filter_congr
          intro j _
          rw [hset]
          by_cases e : j = i <;> simp [e]
        rw [h2]
        have hmem : i ∈ (List.range ops.size).filter fun j => !listed.getD j false := by
          rw [List.mem_filter]
          exact ⟨by simp; omega, by rw [h0]; rfl⟩
        rcases Nat.lt_or_ge (((List.range ops.size).filter fun j => !listed.getD j false).filter fun j => decide (j ≠ i)).length ((List.range ops.size).filter fun j => !listed.getD j false).length with h | h
        · exact h
        · have := List.length_filter_eq_length_iff.1 (Nat.le_antisymm (List.length_filter_le _ _) h) i hmem
          simp at this
      omega

theorem wp_region_inv (hm : P.follows .mixedOrders = true) {id : Nat} {a0 : Act} {w0 : World} (I : (Nat → Bool) → Act → World → Prop)
    (h0 : I (fun _ => false) a0 w0.drew)
    (hback : ∀ (i : Nat) (o : Oper), ops[i]? = some o → ∀ e ∈ o.after, e.on < i)
    (hstep : ∀ S a w i o, I S a w → ops[i]? = some o → S i = false → (∀ e ∈ o.after, Region.binds .any e = true → S e.on = true) → wpOp P ops Q i (fun a' w' => I (fun j => if j = i then true else S j) a' w') a w)
    (hend : ∀ S a w, I S a w → (∀ i, i < ops.size → S i = true) → Q .normal a w) : (Code.region id ops true).wp P Q a0 w0 := by
  refine wp_region_any hm (wpAny_inv I hstep hend hback ops.size _ a0 _ (by simp) ?_ ?_)
  · have : (fun j => (Array.replicate ops.size false).getD j false) = fun _ => false := by
      funext j
      by_cases h : j < ops.size <;> simp [h]
    rw [this]; exact h0
  · have := List.length_filter_le (fun j => !(Array.replicate ops.size false).getD j false) (List.range ops.size)
    simpa using this

/-- One operation, not guarded. -/
theorem wpOp_of {i : Nat} {o : Oper} {a : Act} {w : World} {K : Act → World → Prop} (ho : ops[i]? = some o) (hg : o.guard = none) (h : o.wp P a w K Q) : wpOp P ops Q i K a w := by
  unfold wpOp
  simp only [ho]
  have hw : Region.wanted o (yielded ops a.tmps) = true := by simp [Region.wanted, hg]
  rw [if_pos hw]
  exact .inl h
/-- One operation that is wanted. -/
theorem wpOp_want {i : Nat} {o : Oper} {a : Act} {w : World} {K : Act → World → Prop} (ho : ops[i]? = some o) (hw : Region.wanted o (yielded ops a.tmps) = true) (h : o.wp P a w K Q) : wpOp P ops Q i K a w := by
  unfold wpOp
  simp only [ho]
  rw [if_pos hw]
  exact .inl h
end
end Go.Proofs.Ytcelcognmdcenaa

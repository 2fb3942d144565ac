/-
  THE WALK, on: regions that draw their order; reads at a way out; a deferred call that recovers; what channels make of the ghost.
-/
import Derived.Test.YtofohjbcgchhoaaE7
import Derived.Orders
import Derived.Conc.CompanyDraw
namespace Go.Proofs.Ytofohjbcgchhoaa
open Go.Conc
open Go.RowKit
variable {E : En}

section draw
variable {e L : Nat} {fn : FuncId} {ops : Array Oper}

theorem go_length (md : Region.Mode) (ops : Array Oper) : ∀ (fuel t : Nat) (listed : Array Bool), (Region.linearise.go md ops fuel t listed []).length ≤ fuel := by
  intro fuel
  induction fuel with
  | zero => intro t listed; simp [Region.linearise.go]
  | succ fuel ih =>
    intro t listed
    simp only [Region.linearise.go]
    split
    · rw [linearise_go_acc]
      simp only [List.reverse_singleton, List.singleton_append, List.length_cons]
      have := ih (t / ((List.range ops.size).filter fun i => !listed.getD i true && ((ops[i]?).map (·.after.all fun e => !Region.binds md e || listed.getD e.on false)).getD false).length) (listed.setIfInBounds (by assumption) true)
      omega
    · simp

theorem ready_all {listed : Array Bool} (hback : ∀ (i : Nat) (o : Oper), ops[i]? = some o → ∀ e ∈ o.after, e.on < i) (hsz : listed.size = ops.size) (hr : Region.ready .any ops listed = []) : ∀ i, i < ops.size → listed.getD i false = true := by
  intro i
  induction i using Nat.strongRecOn with
  | ind i ih =>
    intro hi
    cases h : listed.getD i false with
    | true => rfl
    | false =>
      exfalso
      have hm : i ∈ Region.ready .any ops listed := by
        unfold Region.ready
        rw [List.mem_filter]
        refine ⟨by simpa using hi, ?_⟩
        have h1 : listed.getD i true = false := by
          have hil : i < listed.size := by omega
          simp [hil] at h ⊢
          exact h
        rw [h1]
        obtain ⟨o, ho⟩ : ∃ o, ops[i]? = some o := ⟨ops[i], by simp [hi]⟩
        rw [ho]
        simp only [Bool.not_false, Option.map_some, Option.getD_some, Bool.true_and]
        rw [Array.all_eq_true']
        intro e he
        have hlt := hback i o ho e he
        rw [ih e.on hlt (by omega)]
        simp
      rw [hr] at hm
      cases hm

/-- The operations of a region in an order that was drawn: by an invariant over those that have come up. -/
theorem o_inv {Q : Act → Lo → Prop} (I : (Nat → Bool) → Act → Lo → Prop)
    (hback : ∀ (i : Nat) (o : Oper), ops[i]? = some o → ∀ e ∈ o.after, e.on < i)
    (hstep : ∀ S a l i o, I S a l → ops[i]? = some o → S i = false → (∀ ed ∈ o.after, Region.binds .any ed = true → S ed.on = true) → E.U e fn ops i (fun a' l' => I (fun j => if j = i then true else S j) a' l') a l)
    (hend : ∀ S a l, I S a l → (∀ i, i < ops.size → S i = true) → Q a l) :
    ∀ (fuel t : Nat) (listed : Array Bool) (a : Act) (l : Lo), listed.size = ops.size → I (fun j => listed.getD j false) a l →
      ((List.range ops.size).filter fun j => !listed.getD j false).length ≤ fuel → E.O e fn ops (Region.linearise.go .any ops fuel t listed []) Q a l := by
  intro fuel
  induction fuel with
  | zero =>
    intro t listed a l hsz hI hf
    have hnil : (List.range ops.size).filter (fun j => !listed.getD j false) = [] := List.eq_nil_of_length_eq_zero (by omega)
    have hdone : ∀ i, i < ops.size → listed.getD i false = true := by
      intro i hi
      rw [List.filter_eq_nil_iff] at hnil
      simpa using hnil i (by simpa using hi)
    have : Region.linearise.go .any ops 0 t listed [] = [] := by simp [Region.linearise.go]
    rw [this]
    exact o_nil (hend _ a l hI hdone)
  | succ fuel ih =>
    intro t listed a l hsz hI hf
    simp only [Region.linearise.go]
    change E.O e fn ops (match (Region.ready .any ops listed)[t % (Region.ready .any ops listed).length]? with
      | some i => Region.linearise.go .any ops fuel (t / (Region.ready .any ops listed).length) (listed.setIfInBounds i true) [i]
      | none => [].reverse) Q a l
    cases hi : (Region.ready .any ops listed)[t % (Region.ready .any ops listed).length]? with
    | none =>
      have hnil : Region.ready .any ops listed = [] := by
        cases hr : Region.ready .any ops listed with
        | nil => rfl
        | cons x xs =>
          rw [hr] at hi
          have hlt : t % (x :: xs).length < (x :: xs).length := Nat.mod_lt _ (by simp)
          simp at hi
          simp at hlt
          omega
      exact o_nil (hend _ a l hI (ready_all hback hsz hnil))
    | some i =>
      simp only []
      rw [linearise_go_acc, List.reverse_singleton, List.singleton_append]
      obtain ⟨hun, o, ho, hdep⟩ := mem_ready.1 (List.mem_of_getElem? hi)
      have hil : i < listed.size := by
        rcases Nat.lt_or_ge i listed.size with h | h
        · exact h
        · simp [Array.getElem?_eq_none h] at hun
      have h0 : listed.getD i false = false := by
        simp [hil] at hun ⊢
        exact hun
      refine o_cons (u_mono (hstep _ a l i o hI ho h0 (fun e he hb => hdep e he hb)) fun a' l' hI' => ?_)
      have hset : ∀ j, (listed.setIfInBounds i true).getD j false = if j = i then true else listed.getD j false := by
        intro j
        by_cases e : j = i
        · subst e; simp [hil]
        · have : ¬ i = j := fun h => e h.symm
          simp [e, this]
      refine ih _ _ a' l' (by simpa using hsz) ?_ ?_
      · have : (fun j => (listed.setIfInBounds i true).getD j false) = fun j => if j = i then true else listed.getD j false := funext hset
        rw [this]; exact hI'
      · have hlt : ((List.range ops.size).filter fun j => !(listed.setIfInBounds i true).getD j false).length < ((List.range ops.size).filter fun j => !listed.getD j false).length := by
          have h2 : (List.range ops.size).filter (fun j => !(listed.setIfInBounds i true).getD j false) = ((List.range ops.size).filter fun j => !listed.getD j false).filter fun j => decide (j ≠ i) := by
            rw [List.filter_filter]
            apply List.filter_congr
            intro j _
            rw [hset]
            by_cases e : j = i <;> simp [e]
          rw [h2]
          have hmem : i ∈ (List.range ops.size).filter fun j => !listed.getD j false := by
            rw [List.mem_filter]
            exact ⟨by simp; omega, by rw [h0]; rfl⟩
          rcases Nat.lt_or_ge (((List.range ops.size).filter fun j => !listed.getD j false).filter fun j => decide (j ≠ i)).length ((List.range ops.size).filter fun j => !listed.getD j false).length with h | h
          · exact h
          · have := List.length_filter_eq_length_iff.1 (Nat.le_antisymm (List.length_filter_le _ _) h) i hmem
            simp at this
        omega

/-- A step that only reads. -/
theorem En.W.read {n : Nat} {l : Lo} {fr fr' : Frame} {cs cs' : List Frame} (hact : l.md = .act) (h : E.W n l fr' cs')
    (hs : ∀ w, Fa E.B0 l w → ∃ es d, stepG Try.prog (E.i == 0) (G fr cs) w = .go (G fr' cs') (w.at d) es ∧ ∀ ev ∈ es, PlainOf l ev) : E.W (n + 1) l fr cs := by
  refine En.W.go (quit_act hact) fun γ w t hI hl hi => ?_
  subst hl
  have hF := fa_of hI hi
  obtain ⟨es, d, h1, h2⟩ := hs w hF
  refine ⟨fr', cs', w.at d, es, γ.set E.i { γ.lo E.i with res := ⟨(γ.lo E.i).res.cells, (γ.lo E.i).res.tk⟩, ro := (γ.lo E.i).ro, oc := (γ.lo E.i).oc }, h1, ?_, rfl, Keeps.near hI hi (X := fun _ => False) (fun _ x => x.elim) (Near.drew _ w d) _ _, by rw [set_same]; exact h⟩
  refine Whole.near hI hi hact (E := fun _ => False) (fun _ x => x.elim) (Near.drew _ w d) fr.fn fr.place (d' := (γ.lo E.i).df) rfl (fun a v e => ⟨hF.cell a v e, hF.froz a v e, .inl (by rw [e]; simp)⟩) (fun a v e => ⟨hF.ro a v e, .inl e⟩) (fun c cap e => .inl e) (deaf_plain h2 _).symm fun ev hmem => ?_
  obtain ⟨ad, wr, rfl, hx⟩ := h2 ev hmem
  refine ⟨?_, ?_⟩
  · rcases hx with hx | ⟨_, v, hx⟩
    · obtain ⟨v, hv⟩ := Option.ne_none_iff_exists'.1 hx
      exact lt_of_cell (hF.cell ad v hv)
    · exact lt_of_cell (hF.ro ad v hx)
  · exact hx

/-- A region that draws its order. -/
theorem c_draw {Q : Exit → Act → Lo → Prop} {a : Act} {l : Lo} {id : Nat} (hact : l.md = .act) (I : (Nat → Bool) → Act → Lo → Prop)
    (hback : ∀ (i : Nat) (o : Oper), ops[i]? = some o → ∀ e ∈ o.after, e.on < i) (h0 : I (fun _ => false) a l)
    (hstep : ∀ S a l i o, I S a l → ops[i]? = some o → S i = false → (∀ ed ∈ o.after, Region.binds .any ed = true → S ed.on = true) → E.U e fn ops i (fun a' l' => I (fun j => if j = i then true else S j) a' l') a l)
    (hend : ∀ S a l, I S a l → (∀ i, i < ops.size → S i = true) → Q .normal a l) : E.C e L fn (.region id ops true) Q a l := by
  have hm : Try.prog.follows .mixedOrders = true := by kernel_rfl
  intro b k cs m hb hk hc
  have key : ∀ t, E.W (m + (ops.size * e + 1)) l (b.at a (.inRegion ops (Region.schedule (Try.prog.follows .mixedOrders) ops t) :: k)) cs := fun t => by
    have hI : E.O e fn ops (Region.linearise.go .any ops ops.size t (Array.replicate ops.size false) []) (Q .normal) a l := by
      refine o_inv I hback hstep hend ops.size t _ a l (by simp) ?_ ?_
      · have : (fun j => (Array.replicate ops.size false).getD j false) = fun _ => false := by
          funext j
          by_cases h : j < ops.size <;> simp [h]
        rw [this]; exact h0
      · have := List.length_filter_le (fun j => !(Array.replicate ops.size false).getD j false) (List.range ops.size)
        simpa using this
    have hlen := go_length .any ops ops.size t (Array.replicate ops.size false)
    have := hI b k cs m hb hk fun a' l' q => hc _ _ _ q
    have e1 : Region.schedule (Try.prog.follows .mixedOrders) ops t = Region.linearise.go .any ops ops.size t (Array.replicate ops.size false) [] := by
      simp only [Region.schedule, hm, Bool.true_or, if_true]
      rfl
    rw [e1]
    refine this.mono ?_
    have := Nat.mul_le_mul_right e hlen
    omega
  refine En.W.mono (n := m + (ops.size * e + 1) + 1) ?_ (by simp only [cost]; omega)
  refine En.W.go (quit_act hact) fun γ w t hI hl hi => ?_
  refine ⟨_, _, { w with drawn := w.drawn + 1 }, #[], γ, stepG_region_draw, ?_, rfl, ⟨fun _ _ _ => .inl rfl, fun _ _ h => .inr h, fun _ _ _ h => ⟨h, .inl⟩⟩, ?_⟩
  · rw [evs_none, Array.append_empty]
    exact Whole.at hI (w.drawn + 1)
  · rw [hl]
    exact key _
end draw
end Go.Proofs.Ytofohjbcgchhoaa

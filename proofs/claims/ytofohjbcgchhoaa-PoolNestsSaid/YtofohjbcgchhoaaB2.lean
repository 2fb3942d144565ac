/-
  THE MACHINE OF MANY GOROUTINES, on: the step; the run.
-/
import Derived.Test.YtofohjbcgchhoaaB
import Derived.Conc.LeavingOf
namespace Go.Proofs.Ytofohjbcgchhoaa
open Go.Conc
open Go.ConcN (sumTo upd sumTo_upd upd_ne upd_same sumTo_congr)

section
variable {S : Sys} {P : Program}

def Lt2 : Nat × Nat → Nat × Nat → Prop := Prod.Lex (· < ·) (· < ·)
theorem lt2_wf : WellFounded Lt2 := (Prod.lex ⟨_, Nat.lt_wfRel.wf⟩ ⟨_, Nat.lt_wfRel.wf⟩).wf

theorem sum_less {n : Nat} {b : Nat → Nat} {i k : Nat} (hi : i < n) (hk : k < b i) : sumTo n (fun j => 3 ^ upd b i k j) < sumTo n (fun j => 3 ^ b j) := by
  have h := sumTo_upd b k (fun x => 3 ^ x) hi
  have := pow3 hk
  have := pow3_pos k
  omega

theorem cnt_zero {g : Goroutine} (h : g.status ≠ .running) : cnt g = 0 := by
  unfold cnt
  split
  · rename_i e; exact absurd e h
  · rfl
theorem partners_none {gs : Array Goroutine} {γ : S.Gh} {w : World} {b : Nat → Nat} (hs : ∀ i g, gs[i]? = some g → Seat S P γ w (b i) i g) (i c : Nat) (send : Bool) (hg : send = true ∨ ∀ j, ¬ S.Gate γ j c) : partners (gs.setIfInBounds i ph) c send = [] := by
  refine partners_nil fun j g hj => ?_
  rcases getElem?_stand gs i j g hj with ⟨_, rfl⟩ | ⟨_, hj'⟩
  · exact offersAt_ph c send
  · rcases hs j g hj' with ⟨d, _, _, hQ⟩ | ⟨_, _, _, h⟩
    · exact offersAt_of_not_blocked (by rcases hQ.status with e | e <;> simp [e]) c send
    · rcases h with e | ⟨e, ho, _⟩ | ⟨c', z, sh, e, ho, hgt, _⟩
      · exact offersAt_of_not_blocked (by simp [e]) c send
      · unfold offersAt; simp [e, ho]
      · have eo : g = parked g #[rcase c' z] sh := by
          cases g
          simp only at e ho
          subst e ho
          rfl
        rw [eo]
        cases send with
        | true => exact offersAt_parked_recv' g c' z sh c
        | false =>
          rw [offersAt_parked_recv g c' z sh c, if_neg]
          rintro rfl
          exact hg.elim (fun h => by cases h) (fun h => h j hgt)

theorem seat_run {γ : S.Gh} {w : World} {n i : Nat} {fr : Frame} {cs : List Frame} (h : WP S P n i (S.own γ i) fr cs) : Seat S P γ w n i (G fr cs) := by
  cases n with
  | zero =>
    obtain ⟨h0, d, hq, hd⟩ := h
    exact .inl ⟨d, hq, h0, hd⟩
  | succ n =>
    rcases h with ⟨h0, d, hq, hd⟩ | ⟨hq, h⟩
    · exact .inl ⟨d, hq, h0, hd⟩
    · exact .inr ⟨rfl, .inr ⟨hq, h⟩, hq, .inl rfl⟩

theorem step_inv (F : Fits S) (μ : Nat × Nat) (m : Machine) (t : Trace) (h : BInv S P μ m t) :
    (∃ o w ops, stepT P m = (.ended o w, ops) ∧ Go.Conc.Good P S.Post m o w (t ++ ops)) ∨ (∃ m' ops μ', stepT P m = (.next m', ops) ∧ Lt2 μ' μ ∧ BInv S P μ' m' (t ++ ops)) := by
  obtain ⟨gs, w, sl, γ, b, rfl, hI, hN, hpos, hs, rfl⟩ := h
  have haw : ∀ g ∈ gs, awake g := by
    intro g hg
    obtain ⟨i, hi, rfl⟩ := Array.mem_iff_getElem.1 hg
    exact (hs i _ (Array.getElem?_eq_getElem hi)).awake
  have hsome : ∃ (i : Nat) (g : Goroutine), gs[i]? = some g ∧ g.status = .running := by
    by_cases hx : ∃ (i : Nat) (g : Goroutine), gs[i]? = some g ∧ g.status = .running
    · exact hx
    · exfalso
      have hno : ∀ (i : Nat) (g : Goroutine), gs[i]? = some g → g.status ≠ .running := fun i g hi e => hx ⟨i, g, hi, e⟩
      have h0 : S.quit (S.own γ 0) = none := by
        rcases hs 0 _ (Array.getElem?_eq_getElem hpos) with ⟨d, _, hne, _⟩ | ⟨_, _, hq, _⟩
        · exact absurd rfl hne
        · exact hq
      refine F.alive γ w t hI h0 fun i hi => ?_
      rw [hN] at hi
      have hg := Array.getElem?_eq_getElem hi
      rcases hs i _ hg with ⟨d, hq, _, _⟩ | ⟨_, _, _, hst⟩
      · exact .inl (by rw [hq]; simp)
      · rcases hst with e | ⟨_, _, e⟩ | ⟨c, _, _, _, _, e1, e2⟩
        · exact absurd e (hno i _ hg)
        · exact .inr (.inl e)
        · exact .inr (.inr ⟨c, e1, e2⟩)
  obtain ⟨i, g, d, sl', hi, hg, hst⟩ := crowd_pick (P := P) (w := w) (sl := sl) haw hsome
  have hlt : i < gs.size := (Array.getElem?_eq_some_iff.1 hi).1
  have hiN : i < S.num γ := by rw [hN]; exact hlt
  have hI1 := F.draw γ w t d hI
  -- the seats at the machine's own draw
  have hs1 : ∀ j o, gs[j]? = some o → Seat S P γ (w.at d) (b j) j o := by
    intro j o ho
    rcases hs j o ho with x | ⟨x1, x2, x3, x4⟩
    · exact .inl x
    · refine .inr ⟨x1, x2, x3, ?_⟩
      rcases x4 with e | ⟨e1, e2, e3⟩ | ⟨c, z, sh, e1, e2, e3, e4⟩
      · exact .inl e
      · exact .inr (.inl ⟨e1, e2, F.drawS _ _ _ d e3⟩)
      · exact .inr (.inr ⟨c, z, sh, e1, e2, e3, e4⟩)
  clear hs haw hsome
  generalize w.at d = w1 at *
  -- the three ways in which the machine goes on
  have goes : ∀ {g' : Goroutine} {w' : World} {es : Array Event} {γ' : S.Gh} {k : Nat} {wake : Bool}, stepG P (i == 0) g w1 = .go g' w' es → S.Inv γ' w' (t ++ MemOp.ofEvents i g.frame.fn g.frame.place es) → S.num γ' = S.num γ →
      Keeps S i γ w1 γ' w' wake → (mayWake P g && g'.status != .blocked && g'.status != .waiting) = wake → Seat S P γ' w' k i g' → (k < b i ∨ (k = b i ∧ g'.status ≠ .running ∧ wake = false)) →
      ∃ m' ops μ', stepT P (crowd gs w sl) = (.next m', ops) ∧ Lt2 μ' (sumTo gs.size (fun i => 3 ^ b i), sumTo gs.size (cntAt gs)) ∧ BInv S P μ' m' (t ++ ops) := by
    intro g' w' es γ' k wake hstp hI' hn' hk hwake hseat hless
    have hr := runT_crowd_go (P := P) (sl := sl') hi hstp
    have hsz : ((gs.map (Go.Conc.woken P g g' w')).setIfInBounds i g').size = gs.size := by simp
    refine ⟨_, _, _, hst.trans hr, ?_, _, w', sl', γ', upd b i k, rfl, hI', by rw [hsz, hn', hN], by rw [hsz]; exact hpos, fun j o ho => ?_, rfl⟩
    · rw [hsz]
      rcases hless with hlt' | ⟨rfl, hnr, hwf⟩
      · exact .left _ _ (sum_less hlt hlt')
      · have e : (fun j => 3 ^ upd b i (b i) j) = fun j => 3 ^ b j := by
          funext j
          by_cases hj : j = i
          · subst hj; rw [upd_same]
          · rw [upd_ne _ _ hj]
        rw [e]
        refine .right _ ?_
        have hc : sumTo gs.size (cntAt ((gs.map (Go.Conc.woken P g g' w')).setIfInBounds i g')) = sumTo gs.size (upd (cntAt gs) i 0) := by
          refine sumTo_congr fun j hj => ?_
          by_cases hji : j = i
          · subst hji
            rw [upd_same]
            unfold cntAt
            rw [Array.getElem?_setIfInBounds_self_of_lt (by simpa using hj)]
            exact cnt_zero hnr
          · rw [upd_ne _ _ hji]
            unfold cntAt
            rw [Array.getElem?_setIfInBounds_ne (fun e => hji e.symm), Array.getElem?_map]
            cases gs[j]? with
            | none => rfl
            | some o =>
              simp only [Option.map_some]
              have : Go.Conc.woken P g g' w' o = o := by
                unfold Go.Conc.woken
                rw [if_neg (by rw [hwake, hwf]; simp)]
              rw [this]
        rw [hc]
        have hu := sumTo_upd (cntAt gs) 0 id hlt
        have h1 : cntAt gs i = 1 := by unfold cntAt cnt; rw [hi]; simp [hg]
        simp only [id] at hu
        show sumTo gs.size (fun a => upd (cntAt gs) i 0 a) < sumTo gs.size (fun a => cntAt gs a)
        omega
    · by_cases hji : j = i
      · subst hji
        rw [Array.getElem?_setIfInBounds_self_of_lt (by simpa using hlt)] at ho
        obtain rfl := Option.some.inj ho
        rw [upd_same]; exact hseat
      · rw [Array.getElem?_setIfInBounds_ne (fun e => hji e.symm), Array.getElem?_map] at ho
        obtain ⟨y, hy, rfl⟩ := Option.map_eq_some_iff.1 ho
        rw [upd_ne _ _ hji]
        exact (hs1 j y hy).woken (by rw [hN]; exact (Array.getElem?_eq_some_iff.1 hy).1) hji hk hwake
  have lays : ∀ {g' : Goroutine} {w' : World} {ops : Array MemOp} {γ' : S.Gh} {k : Nat}, runT P (crowd gs w1 sl') i = (.next (crowd (gs.setIfInBounds i g') w' sl'), ops) → S.Inv γ' w' (t ++ ops) → S.num γ' = S.num γ → Keeps S i γ w1 γ' w' false → Seat S P γ' w' k i g' →
      (k < b i ∨ (k = b i ∧ g'.status ≠ .running)) → ∃ m' ops μ', stepT P (crowd gs w sl) = (.next m', ops) ∧ Lt2 μ' (sumTo gs.size (fun i => 3 ^ b i), sumTo gs.size (cntAt gs)) ∧ BInv S P μ' m' (t ++ ops) := by
    intro g' w' ops γ' k hr hI' hn' hk hseat hless
    have hsz : (gs.setIfInBounds i g').size = gs.size := by simp
    refine ⟨_, _, _, hst.trans hr, ?_, _, w', sl', γ', upd b i k, rfl, hI', by rw [hsz, hn', hN], by rw [hsz]; exact hpos, fun j o ho => ?_, rfl⟩
    · rw [hsz]
      rcases hless with hlt' | ⟨rfl, hnr⟩
      · exact .left _ _ (sum_less hlt hlt')
      · have e : (fun j => 3 ^ upd b i (b i) j) = fun j => 3 ^ b j := by
          funext j
          by_cases hj : j = i
          · subst hj; rw [upd_same]
          · rw [upd_ne _ _ hj]
        rw [e]
        refine .right _ ?_
        have hc : sumTo gs.size (cntAt (gs.setIfInBounds i g')) = sumTo gs.size (upd (cntAt gs) i 0) := by
          refine sumTo_congr fun j hj => ?_
          by_cases hji : j = i
          · subst hji
            rw [upd_same]
            unfold cntAt
            rw [Array.getElem?_setIfInBounds_self_of_lt hj]
            exact cnt_zero hnr
          · rw [upd_ne _ _ hji]
            unfold cntAt
            rw [Array.getElem?_setIfInBounds_ne (fun e => hji e.symm)]
        rw [hc]
        have hu := sumTo_upd (cntAt gs) 0 id hlt
        have h1 : cntAt gs i = 1 := by unfold cntAt cnt; rw [hi]; simp [hg]
        simp only [id] at hu
        show sumTo gs.size (fun a => upd (cntAt gs) i 0 a) < sumTo gs.size (fun a => cntAt gs a)
        omega
    · by_cases hji : j = i
      · subst hji
        rw [Array.getElem?_setIfInBounds_self_of_lt hlt] at ho
        obtain rfl := Option.some.inj ho
        rw [upd_same]; exact hseat
      · rw [Array.getElem?_setIfInBounds_ne (fun e => hji e.symm)] at ho
        rw [upd_ne _ _ hji]
        exact (hs1 j o ho).stands (by rw [hN]; exact (Array.getElem?_eq_some_iff.1 ho).1) hji hk
  rcases hs1 i g hi with ⟨dq, hq, h0, hQ⟩ | ⟨hdy, hW, hq, _⟩
  · -- it leaves
    cases hb : b i with
    | zero => rw [hb] at hQ; rw [hQ.1] at hg; cases hg
    | succ k =>
      rw [hb] at hQ
      rcases hQ with ⟨hf, _⟩ | ⟨_, g', es, hm, hstp, hQ'⟩
      · rw [hf] at hg; cases hg
      obtain ⟨γ', hI', hn', hq', ho', hsk, hgt⟩ := F.mute γ w1 t i dq g.frame.fn g.frame.place es hI1 hiN hq hm
      have hi0 : (i == 0) = false := by simpa using h0
      refine .inr (goes (k := k) (by rw [hi0]; exact hstp w1) hI' hn' (wake := (mayWake P g && g'.status != .blocked && g'.status != .waiting)) ⟨fun j _ hji => .inl (ho' j hji), fun j _ hx => .inr (hsk j hx), fun j c _ hx => ⟨hgt j c hx, .inl⟩⟩ rfl (.inl ⟨_, hq', h0, hQ'⟩) (.inl (by omega)))
  · cases hb : b i with
    | zero =>
      rw [hb] at hW
      obtain ⟨_, dq, hx, _⟩ := hW
      rw [hq] at hx; cases hx
    | succ k =>
      rw [hb] at hW
      rcases hW with ⟨_, dq, hx, _⟩ | ⟨_, hW⟩
      · rw [hq] at hx; cases hx
      have hN' := hW γ w1 t hI1 rfl hiN
      have hsg : ∀ {r}, stepG P (i == 0) (G g.frame g.callers) w1 = r → stepG P (i == 0) g w1 = r := fun h => by rw [stepG_G hdy]; exact h
      cases hN' with
      | go hs hI' hn' hk h =>
        exact .inr (goes (k := k) (hsg hs) hI' hn' hk (by rw [mayWake_G (g := g)]; show (_ && true && true) = _; simp) (seat_run h) (.inl (by omega)))
      | block hs hstk =>
        refine .inr (goes (k := b i) (γ' := γ) (wake := false) (hsg hs) (by simpa [MemOp.ofEvents] using hI1) rfl ⟨fun j _ _ => .inl rfl, fun j _ hx => .inr hx, fun j c _ hx => ⟨hx, .inl⟩⟩ (by simp) ?_ (.inr ⟨rfl, by simp, rfl⟩))
        rw [hb]
        exact .inr ⟨rfl, .inr ⟨hq, hW⟩, hq, .inr (.inl ⟨rfl, rfl, hstk⟩)⟩
      | @spawn fr' cs' child w' es γ' hs hI' hn' hk h hc =>
        have hr := runT_crowd_spawn (P := P) (sl := sl') hi (hsg hs)
        have hsz : ((gs.setIfInBounds i (G fr' cs')).push (G child [])).size = gs.size + 1 := by simp
        rw [hN] at hI' hc
        refine .inr ⟨_, _, _, hst.trans hr, ?_, _, w', sl', γ', upd (upd b i k) gs.size k, rfl, hI', by rw [hsz, hn', hN], by rw [hsz]; omega, fun j o ho => ?_, rfl⟩
        · rw [hsz]
          refine .left _ _ ?_
          have e1 : sumTo (gs.size + 1) (fun j => 3 ^ upd (upd b i k) gs.size k j) = sumTo gs.size (fun j => 3 ^ upd b i k j) + 3 ^ k := by
            show sumTo gs.size _ + 3 ^ upd (upd b i k) gs.size k gs.size = _
            rw [upd_same, sumTo_congr (g := fun j => 3 ^ upd b i k j) fun j hj => by rw [upd_ne _ _ (by omega)]]
          rw [e1]
          have hu := sumTo_upd b k (fun x => 3 ^ x) hlt
          have := pow3 (show k < b i by omega)
          have := pow3_pos k
          omega
        · rw [Array.getElem?_push] at ho
          by_cases hjn : j = (gs.setIfInBounds i (G fr' cs')).size
          · rw [if_pos hjn] at ho
            obtain rfl := Option.some.inj ho
            simp at hjn
            subst hjn
            rw [upd_same]
            exact seat_run hc
          · rw [if_neg hjn] at ho
            have hjl : j < gs.size := by
              have := (Array.getElem?_eq_some_iff.1 ho).1
              simpa using this
            rw [upd_ne _ _ (by omega)]
            by_cases hji : j = i
            · subst hji
              rw [Array.getElem?_setIfInBounds_self_of_lt hlt] at ho
              obtain rfl := Option.some.inj ho
              rw [upd_same]
              exact seat_run h
            · rw [Array.getElem?_setIfInBounds_ne (fun e => hji e.symm)] at ho
              rw [upd_ne _ _ hji]
              exact (hs1 j o ho).stands (by rw [hN]; exact hjl) hji hk
      | room hs hc hrm hgt hf hI' hn' hk h =>
        have hr := crowd_send_room (P := P) (sl := sl') hi (hsg hs) hc hrm (partners_none hs1 i _ false (.inr hgt))
        rw [hf] at hr
        exact .inr (lays (k := k) hr hI' hn' hk (seat_run h) (.inl (by omega)))
      | dflt hs hc hrm hgt hf hI' hn' hk h =>
        have hr := crowd_default (P := P) (sl := sl') hi (hsg hs) (fun cc hcc => by
          obtain rfl : cc = _ := by simpa using hcc
          exact ways_send_none hc hrm (partners_none hs1 i _ false (.inr hgt)))
        rw [hf] at hr
        exact .inr (lays (k := k) hr hI' hn' hk (seat_run h) (.inl (by omega)))
      | take hs hc hrm hf hI' hn' hk h =>
        have hr := crowd_recv_buf (P := P) (sl := sl') hi (hsg hs) hc hrm (partners_none hs1 i _ true (.inl rfl))
        rw [hf] at hr
        exact .inr (lays (k := k) hr hI' hn' hk (seat_run h) (.inl (by omega)))
      | shut hs hc hf hI' hn' hk h =>
        have hr := crowd_recv_closed (P := P) (sl := sl') hi (hsg hs) hc (partners_none hs1 i _ true (.inl rfl))
        rw [hf] at hr
        exact .inr (lays (k := k) hr hI' hn' hk (seat_run h) (.inl (by omega)))
      | park hs hgt hop =>
        obtain ⟨cap, s, r, tm, hc⟩ := hop
        have hr := crowd_waits (P := P) (sl := sl') hi (hsg hs) (fun cc hcc => by
          obtain rfl : cc = _ := by simpa using hcc
          exact ways_recv_none hc (partners_none hs1 i _ true (.inl rfl)))
        refine .inr (lays (k := b i) (γ' := γ) hr (by simpa [MemOp.ofEvents] using hI1) rfl ⟨fun j _ _ => .inl rfl, fun j _ hx => .inr hx, fun j c _ hx => ⟨hx, .inl⟩⟩ ?_ (.inr ⟨rfl, by simp [parked]⟩))
        rw [hb]
        exact .inr ⟨rfl, .inr ⟨hq, hW⟩, hq, .inr (.inr ⟨_, _, _, rfl, rfl, hgt, cap, s, r, tm, hc⟩)⟩
      | done h0 hs hp hrc hho hqs =>
        subst h0
        have hr := runT_many_ended (P := P) (sl := sl') (i := 0) hi (hsg (show stepG P (0 == 0) _ w1 = _ from hs))
        have et : t ++ MemOp.ofEvents 0 g.frame.fn g.frame.place #[] = t := by simp [MemOp.ofEvents]
        refine .inl ⟨_, _, _, hst.trans hr, _, rfl, hp, ?_, ?_, ⟨fun x hx => ?_, rfl⟩, fun j x hx hj => ?_⟩
        · rw [et]; exact hrc
        · rw [et]; exact hho
        · obtain ⟨j, hj⟩ := List.mem_iff_getElem?.1 hx
          rw [List.getElem?_drop] at hj
          have hj' : gs[1 + j]? = some x := by simpa [crowd] using hj
          rcases hs1 (1 + j) x hj' with ⟨dq, _, _, hQ⟩ | ⟨_, _, hqn, _⟩
          · exact ⟨_, hQ.leaves⟩
          · obtain ⟨dq, hqs', _⟩ := hqs (1 + j) (by rw [hN]; exact (Array.getElem?_eq_some_iff.1 hj').1) (by omega)
            rw [hqn] at hqs'; cases hqs'
        · rw [et]
          have hxg : gs[j]? = some x := hx
          obtain ⟨dq, hqs', hdf⟩ := hqs j (by rw [hN]; exact (Array.getElem?_eq_some_iff.1 hxg).1) hj
          rcases hs1 j x hxg with ⟨dq', hq', _, hQ⟩ | ⟨_, _, hqn, _⟩
          · rw [hqs'] at hq'; cases hq'
            refine ⟨b j, ?_⟩
            have := hQ.hears (crowd gs w sl).world
            rwa [← hdf] at this
          · rw [hqn] at hqs'; cases hqs'

/-- ON EVERY TAPE THE RUN ENDS BY GOROUTINE 0's RETURN. -/
theorem runs (F : Fits S) {γ : S.Gh} {w : World} {fr : Frame} {n : Nat} (hI : S.Inv γ w #[]) (hN : S.num γ = 1) (h : WP S P n 0 (S.own γ 0) fr []) :
    ∃ N last o w' t', runNT P (N + 1) (solo (G fr []) w) #[] = (.ended o w', t') ∧ runN P N (solo (G fr []) w) = .next last ∧ step P last = .ended o w' ∧ Go.Conc.Good P S.Post last o w' t' :=
  run_of_inv lt2_wf (BInv S P) (Go.Conc.Good P S.Post) (step_inv F) _ _ _ ⟨#[G fr []], w, none, γ, fun _ => n, rfl, hI, hN, by simp, fun i g hi => by
    have : i = 0 := by
      have := (Array.getElem?_eq_some_iff.1 hi).1
      simpa using this
    subst this
    simp only [List.getElem?_toArray, List.getElem?_cons_zero, Option.some.injEq] at hi
    subst hi
    exact seat_run h, rfl⟩
end
end Go.Proofs.Ytofohjbcgchhoaa

/-
  Steps towards TopCounts (no conditions of their own): NOTHING RECKONED TWICE, PLAINLY: registers hold values; a value that is held is moved. MAPS OF ITS OWN: keys to numbers; look-up, entry, store.
-/
import Derived.Test.YthkoodpnepfijaaGreatDoorM13
import Derived.Test.YthkoodpnepfijaaGreatDoorM19
import Derived.MapKept
/- PE: NOTHING RECKONED TWICE, PLAINLY: registers hold values; a value that is held is moved. -/
namespace Go.Proofs.YthkoodpnepfijaaGreatDoor
set_option linter.unusedVariables false

/-- What an instruction reckons with. -/
structure Key where
  op : Int
  a : Int
  b : Int
  c : Int
deriving DecidableEq
def hd_ (held : List Int) (r : Int) : Int := held.getD r.toNat 0
def keyF (held : List Int) (i : Ins) : Key :=
  if i.op = 3 ∧ hd_ held i.b < hd_ held i.a then ⟨i.op, hd_ held i.b, hd_ held i.a, i.c⟩
  else if i.op = 3 ∨ i.op = 4 then ⟨i.op, hd_ held i.a, hd_ held i.b, i.c⟩ else ⟨i.op, hd_ held i.a, -1, i.c⟩
def asc {κ : Type} [DecidableEq κ] : List (κ × Int) → κ → Option Int
  | [], _ => none
  | (k, v) :: r, q => if q = k then some v else asc r q
theorem asc_mem {κ : Type} [DecidableEq κ] {q : κ} {v : Int} : ∀ {l : List (κ × Int)}, asc l q = some v → (q, v) ∈ l
  | (k, u) :: r, h => by
    unfold asc at h
    split at h
    · rename_i e; cases h; subst e; exact List.mem_cons_self ..
    · exact List.mem_cons_of_mem _ (asc_mem h)
def kval (k : Key) (val : Int → Int) : Option Int := (Ins.mk k.op 0 k.a k.b k.c).val val
theorem kval_key (held : List Int) (i : Ins) (val : Int → Int) : kval (keyF held i) val = i.val fun r => val (hd_ held r) := by
  unfold keyF kval
  split
  · rename_i h
    unfold Ins.val
    simp only [h.1]
    simp
    omega
  split
  · rename_i h
    unfold Ins.val
    rcases h with h | h <;> simp [h]
  · rename_i h
    unfold Ins.val
    have h3 : ¬ i.op = 3 := fun e => h (.inl e)
    have h4 : ¬ i.op = 4 := fun e => h (.inr e)
    simp only [h3, h4, if_false]
theorem kval_lt {k : Key} {val val' : Int → Int} {n : Int} (ha : k.a < n) (hb : k.b < n) (h : ∀ v, v < n → val v = val' v) : kval k val = kval k val' := by
  unfold kval
  refine Ins.val_alike fun r hr => h r ?_
  unfold Ins.asks at hr
  split at hr
  · simp only [List.mem_cons, List.not_mem_nil, or_false] at hr
    rcases hr with rfl | rfl
    · exact ha
    · exact hb
  · simp only [List.mem_cons, List.not_mem_nil, or_false] at hr
    subst hr; exact ha
/-- What the pass has made of the first instructions. -/
structure ShI (p : Prg) (k : Nat) (held : List Int) (known : List (Key × Int)) (next : Int) (code : List Ins) : Prop where
  ok : ∀ i ∈ code, i.ok p.regs
  len : code.length ≤ k
  nodiv : NoDiv p → ∀ i ∈ code, i.op ≠ 6 ∧ i.op ≠ 8
  hlen : (held.length : Int) = p.regs
  hlt : ∀ v ∈ held, 0 ≤ v ∧ v < next
  next0 : 0 ≤ next
  klt : ∀ q ∈ known, q.1.a < next ∧ q.1.b < next ∧ 0 ≤ q.2 ∧ q.2 < next
  run : ∀ l t, (l.length : Int) = p.ins → exec (p.code.take k) (rg0 l) = some t → exec code (rg0 l) = some t ∧ ∃ val : Int → Int, (∀ r, 0 ≤ r → r < p.regs → t r = val (hd_ held r)) ∧ ∀ q ∈ known, kval q.1 val = some (val q.2)
/-- At the beginning. -/
def held0 (p : Prg) : List Int := (List.range p.regs.toNat).map fun r : Nat => min (r : Int) p.ins
theorem sh_nil {p : Prg} (h : p.ok) : ShI p 0 (held0 p) [] (p.ins + 1) [] := by
  have h1 := h.ins1
  have h2 := h.insr
  refine ⟨fun i h => (by cases h), Nat.le_refl _, fun _ i h => (by cases h), by unfold held0; rw [List.length_map, List.length_range]; omega, fun v hv => ?_, by omega, fun q h => (by cases h), fun l t hl hx => ?_⟩
  · obtain ⟨r, _, rfl⟩ := List.mem_map.1 hv
    show 0 ≤ min (r : Int) p.ins ∧ min (r : Int) p.ins < p.ins + 1
    omega
  · simp only [List.take_zero, exec] at hx
    cases hx
    refine ⟨rfl, rg0 l, fun r h0 hr => ?_, fun q h => (by cases h)⟩
    unfold hd_ held0
    have hlt : r.toNat < p.regs.toNat := by omega
    rw [List.getD_eq_getElem?_getD, List.getElem?_map, List.getElem?_range hlt]
    simp only [Option.map_some, Option.getD_some]
    unfold rg0
    rw [if_pos h0, if_pos (by omega)]
    by_cases hri : r < p.ins
    · rw [show (min ((r.toNat : Nat) : Int) p.ins).toNat = r.toNat by omega]
    · rw [show (min ((r.toNat : Nat) : Int) p.ins).toNat = p.ins.toNat by omega]
      rw [List.getD_eq_getElem?_getD, List.getElem?_eq_none (by omega), List.getD_eq_getElem?_getD, List.getElem?_eq_none (by omega)]
theorem hd_mem {held : List Int} {r regs : Int} (hl : (held.length : Int) = regs) (h0 : 0 ≤ r) (h1 : r < regs) : hd_ held r ∈ held := by
  unfold hd_
  have : r.toNat < held.length := by omega
  rw [List.getD_eq_getElem?_getD, List.getElem?_eq_getElem this]
  exact List.getElem_mem this
theorem hd_set {held : List Int} {to r regs v : Int} (hl : (held.length : Int) = regs) (h0 : 0 ≤ to) (h1 : to < regs) (hr : 0 ≤ r) : hd_ (held.set to.toNat v) r = if r = to then v else hd_ held r := by
  unfold hd_
  rw [List.getD_eq_getElem?_getD, List.getD_eq_getElem?_getD, List.getElem?_set]
  by_cases h : r = to
  · subst h; rw [if_pos rfl, if_pos rfl, if_pos (by omega)]; rfl
  · rw [if_neg (by omega), if_neg h]
/-- What an instruction reckons: its value, what is known then. -/
structure Rck (held : List Int) (known : List (Key × Int)) (next : Int) (i : Ins) (v : Int) (known' : List (Key × Int)) (next' : Int) : Prop where
  h : (i.op = 1 ∧ v = hd_ held i.a ∧ known' = known ∧ next' = next) ∨ (i.op ≠ 1 ∧ asc known (keyF held i) = some v ∧ known' = known ∧ next' = next) ∨ (i.op ≠ 1 ∧ asc known (keyF held i) = none ∧ v = next ∧ known' = known ++ [(keyF held i, next)] ∧ next' = next + 1)
/-- An instruction that asks other holders of the same values. -/
structure Askd (held : List Int) (regs : Int) (i j : Ins) : Prop where
  op : j.op = i.op
  to : j.to = i.to
  c : j.c = i.c
  a : 0 ≤ j.a ∧ j.a < regs ∧ hd_ held j.a = hd_ held i.a
  b : (twoOp i.op ∧ 0 ≤ j.b ∧ j.b < regs ∧ hd_ held j.b = hd_ held i.b) ∨ (¬ twoOp i.op ∧ j.b = i.b)
/-- What is made of it. -/
structure Shd (held : List Int) (regs : Int) (i j : Ins) (v : Int) (code : List Ins) (held' : List Int) (code' : List Ins) : Prop where
  h : (hd_ held i.to = v ∧ held' = held ∧ code' = code) ∨ (held' = held.set i.to.toNat v ∧ ((∃ r, 0 ≤ r ∧ r < regs ∧ hd_ held r = v ∧ code' = code ++ [⟨1, i.to, r, 0, 0⟩]) ∨ ((∀ r, 0 ≤ r → r < regs → hd_ held r ≠ v) ∧ code' = code ++ [j])))
theorem sh_step {p : Prg} {k : Nat} {held held' : List Int} {known known' : List (Key × Int)} {next next' : Int} {code code' : List Ins} {z i j : Ins} {v : Int} (h : p.ok) (hS : ShI p k held known next code) (hk : k < p.code.length) (hi : p.code.getD k z = i)
    (hr : Rck held known next i v known' next') (ha : Askd held p.regs i j) (hd : Shd held p.regs i j v code held' code') : ShI p (k + 1) held' known' next' code' := by
  have hg : p.code[k] = i := by rw [← hi, List.getD_eq_getElem?_getD, List.getElem?_eq_getElem hk]; rfl
  have hm : i ∈ p.code := by rw [← hg]; exact List.getElem_mem hk
  have hio := h.code i hm
  have t0 := hio.to0
  have t1 := hio.to1
  have hl := hS.hlen
  have hto := hS.hlt _ (hd_mem hl t0 t1)
  have hA := hS.hlt _ (hd_mem hl hio.a0 hio.a1)
  have hB := hS.hlt _ (hd_mem hl hio.b0 hio.b1)
  have n0 := hS.next0
  have hkey : (keyF held i).a < next ∧ (keyF held i).b < next := by
    unfold keyF
    split
    · exact ⟨hB.2, hA.2⟩
    split
    · exact ⟨hA.2, hB.2⟩
    · exact ⟨hA.2, by simp; omega⟩
  have hvn : 0 ≤ v ∧ v < next' ∧ next ≤ next' := by
    rcases hr.h with ⟨_, e1, _, e2⟩ | ⟨_, e1, _, e2⟩ | ⟨_, _, e1, _, e2⟩
    · subst e1 e2; exact ⟨hA.1, hA.2, Int.le_refl _⟩
    · subst e2; have := hS.klt _ (asc_mem e1); exact ⟨this.2.2.1, this.2.2.2, Int.le_refl _⟩
    · subst e1 e2; omega
  have hjok : j.ok p.regs := by
    refine ⟨by rw [ha.op]; exact hio.op1, by rw [ha.op]; exact hio.op8, by rw [ha.to]; exact t0, by rw [ha.to]; exact t1, ha.a.1, ha.a.2.1, ?_, ?_, fun hn => ?_, by rw [ha.op, ha.c]; exact hio.cc⟩
    · rcases ha.b with hb | hb
      · exact hb.2.1
      · rw [hb.2]; exact hio.b0
    · rcases ha.b with hb | hb
      · exact hb.2.2.1
      · rw [hb.2]; exact hio.b1
    · rw [ha.op] at hn
      rcases ha.b with hb | hb
      · exact absurd hb.1 hn
      · rw [hb.2]; exact hio.bz hn
  have hmv : ∀ r, 0 ≤ r → r < p.regs → (Ins.mk 1 i.to r 0 0).ok p.regs := fun r h0 h1 => ⟨by simp, by simp, t0, t1, h0, h1, by simp, by simp; omega, fun _ => rfl, by simp [constOk]⟩
  have hnew : code' = code ∨ ∃ x : Ins, x.ok p.regs ∧ (x.op = i.op ∨ x.op = 1) ∧ code' = code ++ [x] := by
    rcases hd.h with ⟨_, _, e⟩ | ⟨_, ⟨r, h0, h1, _, e⟩ | ⟨_, e⟩⟩
    · exact .inl e
    · exact .inr ⟨_, hmv r h0 h1, .inr rfl, e⟩
    · exact .inr ⟨j, hjok, .inl ha.op, e⟩
  have hheld : held' = held ∨ held' = held.set i.to.toNat v := by
    rcases hd.h with ⟨_, e, _⟩ | ⟨e, _⟩
    · exact .inl e
    · exact .inr e
  refine ⟨fun x hx => ?_, ?_, fun hn x hx => ?_, ?_, fun u hu => ?_, by omega, fun q hq => ?_, fun l t hll hx => ?_⟩
  · rcases hnew with rfl | ⟨y, hy, _, rfl⟩
    · exact hS.ok x hx
    · rcases List.mem_append.1 hx with hx | hx
      · exact hS.ok x hx
      · rw [List.mem_singleton.1 hx]; exact hy
  · have := hS.len
    rcases hnew with rfl | ⟨y, hy, _, rfl⟩
    · omega
    · simp; omega
  · rcases hnew with rfl | ⟨y, hy, ho, rfl⟩
    · exact hS.nodiv hn x hx
    · rcases List.mem_append.1 hx with hx | hx
      · exact hS.nodiv hn x hx
      · rw [List.mem_singleton.1 hx]
        have := hn i hm
        omega
  · rcases hheld with rfl | rfl
    · exact hl
    · rw [List.length_set]; exact hl
  · rcases hheld with rfl | rfl
    · have := hS.hlt u hu; omega
    · rcases List.mem_or_eq_of_mem_set hu with hu | rfl
      · have := hS.hlt u hu; omega
      · omega
  · rcases hr.h with ⟨_, _, e1, e2⟩ | ⟨_, _, e1, e2⟩ | ⟨_, _, _, e1, e2⟩
    · subst e1 e2; exact hS.klt q hq
    · subst e1 e2; exact hS.klt q hq
    · subst e1
      rcases List.mem_append.1 hq with hq | hq
      · have := hS.klt q hq; omega
      · rw [List.mem_singleton.1 hq]; simp only; omega
  · rw [List.take_add_one, List.getElem?_eq_getElem hk, Option.toList_some, exec_app] at hx
    cases hy : exec (p.code.take k) (rg0 l) with
    | none => rw [hy] at hx; cases hx
    | some u =>
      rw [hy] at hx
      obtain ⟨hc, val, hv1, hv2⟩ := hS.run l u hll hy
      simp only [Option.bind_some, exec, hg] at hx
      cases hst : stepI i u with
      | none => rw [hst] at hx; cases hx
      | some u' =>
        rw [hst] at hx
        have hx : some u' = some t := hx
        cases hx
        unfold stepI at hst
        cases hiv : i.val u with
        | none => rw [hiv] at hst; cases hst
        | some x =>
          rw [hiv] at hst
          have hst : some (u.set i.to x) = some t := hst
          cases hst
          -- what the instruction comes to, through the values
          have hal : i.val u = i.val fun r => val (hd_ held r) := Ins.val_alike fun r hr' => by
            have := hio.asks r hr'
            exact hv1 r this.1 this.2
          have hkv : kval (keyF held i) val = some x := by rw [kval_key, ← hal, hiv]
          obtain ⟨val', hsame, hvx, hkn⟩ : ∃ val' : Int → Int, (∀ w, w < next → val' w = val w) ∧ val' v = x ∧ ∀ q ∈ known', kval q.1 val' = some (val' q.2) := by
            rcases hr.h with ⟨ho, e, e1, e2⟩ | ⟨ho, e, e1, e2⟩ | ⟨ho, e, e0, e1, e2⟩
            · subst e1
              refine ⟨val, fun _ _ => rfl, ?_, hv2⟩
              rw [hal] at hiv
              unfold Ins.val at hiv
              simp [ho] at hiv
              rw [e, hiv]
            · subst e1
              refine ⟨val, fun _ _ => rfl, ?_, hv2⟩
              have := hv2 _ (asc_mem e)
              rw [hkv] at this
              exact (Option.some.inj this).symm
            · subst e1 e0
              refine ⟨fun w => if w = v then x else val w, fun w hw => if_neg (by omega), by simp, fun q hq => ?_⟩
              have key : ∀ k : Key, k.a < v → k.b < v → kval k (fun w => if w = v then x else val w) = kval k val := fun k h1 h2 => kval_lt h1 h2 fun w hw => if_neg (by omega)
              rcases List.mem_append.1 hq with hq | hq
              · have hql := hS.klt q hq
                rw [key q.1 hql.1 hql.2.1, hv2 q hq]
                exact congrArg some (if_neg (by omega)).symm
              · rw [List.mem_singleton.1 hq]
                simp only
                rw [key _ hkey.1 hkey.2, hkv]
                simp
          have hheldv : ∀ r, 0 ≤ r → r < p.regs → u r = val' (hd_ held r) := fun r h0 h1 => by
            rw [hsame _ (hS.hlt _ (hd_mem hl h0 h1)).2]; exact hv1 r h0 h1
          have hnh : ∀ r, 0 ≤ r → r < p.regs → (u.set i.to x) r = val' (hd_ (held.set i.to.toNat v) r) := fun r h0 h1 => by
            rw [hd_set hl t0 t1 h0]
            unfold Rg.set
            split
            · exact hvx.symm
            · exact hheldv r h0 h1
          rcases hd.h with ⟨e1, e2, e3⟩ | ⟨e1, ⟨r, h0, h1, e2, e3⟩ | ⟨e2, e3⟩⟩
          · subst e2 e3
            have heq : u.set i.to x = u := by
              funext r
              unfold Rg.set
              split
              · rename_i er; rw [er, hheldv _ t0 t1, e1, hvx]
              · rfl
            rw [heq]
            exact ⟨hc, val', hheldv, hkn⟩
          · subst e1 e3
            refine ⟨?_, val', hnh, hkn⟩
            rw [exec_app, hc]
            simp only [Option.bind_some, exec, stepI, Ins.val]
            simp
            rw [hheldv r h0 h1, e2, hvx]
          · subst e1 e3
            refine ⟨?_, val', hnh, hkn⟩
            rw [exec_app, hc]
            have hjv : j.val u = some x := by
              rw [← hiv]
              have hja : u j.a = u i.a := by rw [hheldv _ ha.a.1 ha.a.2.1, hheldv _ hio.a0 hio.a1, ha.a.2.2]
              unfold Ins.val
              rw [ha.op, ha.c, hja]
              rcases ha.b with hb | hb
              · rw [hheldv j.b hb.2.1 hb.2.2.1, hheldv i.b hio.b0 hio.b1, hb.2.2.2]
              · rw [hb.2]
            simp only [Option.bind_some, exec, stepI, hjv, Option.map_some, ha.to]
/-- The outs: other holders of the same values. -/
theorem sh_sim {p : Prg} {held : List Int} {known : List (Key × Int)} {next : Int} {code : List Ins} {outs : List Int} (h : p.ok) (hS : ShI p p.code.length held known next code) (hl : outs.length = p.outs.length)
    (ho : ∀ n, n < p.outs.length → 0 ≤ outs.getD n 0 ∧ outs.getD n 0 < p.regs ∧ hd_ held (outs.getD n 0) = hd_ held (p.outs.getD n 0)) : Sim p { p with code := code, outs := outs } := by
  refine ⟨⟨h.ins1, h.insr, h.regs, Nat.le_trans hS.len h.len, by simp only; rw [hl]; exact h.out1, by simp only; rw [hl]; exact h.outn, fun r hr => ?_, hS.ok⟩, rfl, hl, hS.nodiv, fun l o hll ⟨s, hs, he⟩ => ?_⟩
  · obtain ⟨n, hn, rfl⟩ := List.getElem_of_mem hr
    have := ho n (by simp only at hn; omega)
    rw [List.getD_eq_getElem?_getD, List.getElem?_eq_getElem hn] at this
    exact ⟨this.1, this.2.1⟩
  · obtain ⟨hc, val, hv, _⟩ := hS.run l s hll (by rw [List.take_length]; exact hs)
    refine ⟨s, hc, ?_⟩
    rw [he]
    refine List.ext_getElem (by simp [hl]) fun n h1 h2 => ?_
    rw [List.getElem_map, List.getElem_map]
    have hn1 : n < p.outs.length := by simpa using h1
    have hn2 : n < outs.length := by omega
    have k := ho n hn1
    rw [List.getD_eq_getElem?_getD, List.getElem?_eq_getElem hn2, List.getD_eq_getElem?_getD, List.getElem?_eq_getElem hn1] at k
    have hr := h.outs _ (List.getElem_mem hn1)
    simp only [Option.getD_some] at k
    rw [hv _ hr.1 hr.2, hv _ k.1 k.2.1, k.2.2]
end Go.Proofs.YthkoodpnepfijaaGreatDoor
/- VK: MAPS OF ITS OWN: keys to numbers; look-up, entry, store. -/
namespace Go.Proofs.YthkoodpnepfijaaGreatDoor
open Go.RowKit
set_option linter.unusedVariables false
set_option linter.unusedSimpArgs false
set_option maxRecDepth 100000
section
variable {κ : Type}
def ents (enc : κ → Value) : List (κ × Int) → Nat → List MapEntry
  | [], _ => []
  | (k, v) :: r, b => ⟨enc k, vi v, b⟩ :: ents enc r (b + 1)
theorem ents_len (enc : κ → Value) : ∀ (l : List (κ × Int)) (b : Nat), (ents enc l b).length = l.length
  | [], _ => rfl
  | (k, v) :: r, b => by rw [ents, List.length_cons, ents_len enc r, List.length_cons]
theorem ents_app (enc : κ → Value) (k : κ) (v : Int) : ∀ (l : List (κ × Int)) (b : Nat), ents enc (l ++ [(k, v)]) b = ents enc l b ++ [⟨enc k, vi v, b + l.length⟩]
  | [], b => rfl
  | (k', v') :: r, b => by rw [List.cons_append, ents, ents_app enc k v r, ents, List.length_cons, show b + 1 + r.length = b + (r.length + 1) by omega]; rfl
theorem ents_get (enc : κ → Value) : ∀ (l : List (κ × Int)) (b i : Nat) (k : κ) (v : Int), l[i]? = some (k, v) → (ents enc l b)[i]? = some ⟨enc k, vi v, b + i⟩
  | (k', v') :: r, b, 0, k, v, h => by cases h; rfl
  | (k', v') :: r, b, i + 1, k, v, h => by
    rw [ents, List.getElem?_cons_succ, ents_get enc r (b + 1) i k v (by simpa using h), show b + 1 + i = b + (i + 1) by omega]
theorem ents_set (enc : κ → Value) : ∀ (l : List (κ × Int)) (b i : Nat) (k : κ) (v : Int), (ents enc l b).set i ⟨enc k, vi v, b + i⟩ = ents enc (l.set i (k, v)) b
  | [], _, _, _, _ => rfl
  | (k', v') :: r, b, 0, k, v => rfl
  | (k', v') :: r, b, i + 1, k, v => by
    have := ents_set enc r (b + 1) i k v
    rw [show b + 1 + i = b + (i + 1) by omega] at this
    rw [ents, List.set_cons_succ, this, List.set_cons_succ, ents]
variable [DecidableEq κ]
def fnd : List (κ × Int) → κ → Nat → Option (Nat × Int)
  | [], _, _ => none
  | (k, v) :: r, q, i => if q = k then some (i, v) else fnd r q (i + 1)
theorem fnd_asc : ∀ (l : List (κ × Int)) (q : κ) (i : Nat), (fnd l q i).map (·.2) = asc l q
  | [], _, _ => rfl
  | (k, v) :: r, q, i => by
    unfold fnd asc
    split
    · rfl
    · exact fnd_asc r q (i + 1)
theorem fnd_get : ∀ {l : List (κ × Int)} {q : κ} {b i : Nat} {v : Int}, fnd l q b = some (i, v) → b ≤ i ∧ l[i - b]? = some (q, v)
  | (k, u) :: r, q, b, i, v, h => by
    unfold fnd at h
    split at h
    · rename_i e; cases h; subst e; exact ⟨Nat.le_refl _, by simp⟩
    · obtain ⟨h1, h2⟩ := fnd_get h
      refine ⟨by omega, ?_⟩
      rw [show i - b = (i - (b + 1)) + 1 by omega, List.getElem?_cons_succ]
      exact h2
def updA (l : List (κ × Int)) (k : κ) (v : Int) : List (κ × Int) := match fnd l k 0 with
  | some (i, _) => l.set i (k, v)
  | none => l ++ [(k, v)]
def entA (l : List (κ × Int)) (k : κ) : List (κ × Int) × Nat := match fnd l k 0 with
  | some (i, _) => (l, i)
  | none => (l ++ [(k, 0)], l.length)
theorem ent_upd (l : List (κ × Int)) (k : κ) (v : Int) : (entA l k).2 < (entA l k).1.length ∧ ((entA l k).1[(entA l k).2]?).map (·.1) = some k ∧ (entA l k).1.set (entA l k).2 (k, v) = updA l k v := by
  unfold entA updA
  cases h : fnd l k 0 with
  | none => simp
  | some p =>
    obtain ⟨i, u⟩ := p
    have := (fnd_get h).2
    rw [Nat.sub_zero] at this
    refine ⟨(List.getElem?_eq_some_iff.1 this).1, by simp only; rw [this]; rfl, rfl⟩
theorem asc_set : ∀ {l : List (κ × Int)} {k : κ} {b i : Nat} {u : Int}, fnd l k b = some (i, u) → ∀ (v : Int) (q : κ), asc (l.set (i - b) (k, v)) q = if q = k then some v else asc l q
  | (k', u') :: r, k, b, i, u, h, v, q => by
    unfold fnd at h
    split at h
    · rename_i e; cases h; subst e
      rw [Nat.sub_self, List.set_cons_zero, asc, asc]
      split <;> rfl
    · rename_i e
      have h1 := (fnd_get h).1
      rw [show i - b = (i - (b + 1)) + 1 by omega, List.set_cons_succ, asc, asc_set h, asc]
      by_cases e1 : q = k'
      · rw [if_pos e1, if_pos e1]
        rw [if_neg (fun e2 => e (by rw [← e2, e1]))]
      · rw [if_neg e1, if_neg e1]
theorem asc_app : ∀ (l : List (κ × Int)) (k : κ) (v : Int) (q : κ), asc l k = none → asc (l ++ [(k, v)]) q = if q = k then some v else asc l q
  | [], k, v, q, _ => rfl
  | (k', u') :: r, k, v, q, h => by
    unfold asc at h
    split at h
    · cases h
    · rename_i e
      rw [List.cons_append, asc, asc_app r k v q h, asc]
      by_cases e1 : q = k'
      · rw [if_pos e1, if_pos e1]
        rw [if_neg (fun e2 => e (by rw [← e2, e1]))]
      · rw [if_neg e1, if_neg e1]
theorem asc_upd (l : List (κ × Int)) (k : κ) (v : Int) (q : κ) : asc (updA l k v) q = if q = k then some v else asc l q := by
  unfold updA
  cases h : fnd l k 0 with
  | none =>
    have : asc l k = none := by rw [← fnd_asc l k 0, h]; rfl
    exact asc_app l k v q this
  | some p => exact asc_set (b := 0) h v q
theorem upd_new {l : List (κ × Int)} {k : κ} {v : Int} (h : asc l k = none) : updA l k v = l ++ [(k, v)] := by
  unfold updA
  cases hf : fnd l k 0 with
  | none => rfl
  | some p => rw [← fnd_asc l k 0, hf] at h; cases h
/-- A type of keys. -/
class KeyT (kt : TypeId) (enc : κ → Value) : Prop where
  find : ∀ k l w, (Instr.findKey kt (enc k) (ents enc l 0)).run Tryz.prog w = .ok ((fnd l k 0).map fun p => (p.1, vi p.2)) w
  chk : ∀ b k w, (Instr.checkKey b 10000 kt (enc k)).run Tryz.prog w = .ok () w
  bits : ∀ k, Instr.sameBits 10000 (enc k) (enc k) = true
class MapT (t : TypeId) (kt : outParam TypeId) : Prop where
  h : Tryz.prog.underlying t = some (.map kt 3)
instance : MapT 165 218 := ⟨by kernel_rfl⟩
instance : MapT 176 3 := ⟨by kernel_rfl⟩
end
def kvL (k : Key) : List Value := [k.op, k.a, k.b, k.c].map vi
def encK (k : Key) : Value := .agg (kvL k).toArray
theorem u3 : Tryz.prog.underlying 3 = some (.int .i64) := by kernel_rfl
theorem chk3 (b : Bool) (m : Nat) (v : Value) (w : World) : (Instr.checkKey b (m + 1) 3 v).run Tryz.prog w = .ok () w := by
  unfold Instr.checkKey
  simp only [Sem.run_bind, run_underlying u3, Result.andThen]
  cases v <;> simp
theorem bits_int (m : Nat) (z : Int) : Instr.sameBits m (vi z) (vi z) = true := by
  cases m <;> simp [Instr.sameBits, vi]
theorem bits_key (m : Nat) (k : Key) : Instr.sameBits (m + 1) (encK k) (encK k) = true := by
  unfold encK kvL Instr.sameBits
  simp [bits_int]
instance : KeyT 3 vi where
  find k l w := by
    refine MapKept.run_findKey u3 ?_
    have key : ∀ (l : List (Int × Int)) (b i : Nat), Instr.findNow (.int .i64) (vi k) (ents vi l b) i = some ((fnd l k i).map fun p => (p.1, vi p.2)) := by
      intro l
      induction l with
      | nil => intros; rfl
      | cons p r ih =>
        intro b i
        obtain ⟨k', v⟩ := p
        rw [ents, Instr.findNow, fnd]
        by_cases e : k = k'
        · subst e; simp [Instr.sameNow, vi]
        · have : (k == k') = false := by simpa using e
          rw [if_neg e, ← ih (b + 1) (i + 1)]
          simp [Instr.sameNow, vi, this]
    exact key l 0 0
  chk b k w := chk3 b 9999 (vi k) w
  bits k := bits_int 10000 k
theorem eqt218 : EqT 218 4 := inferInstance
theorem chk_int {f : Field} {k : Nat} (h : fInt Tryz.prog f k = true) (b : Bool) (v : Value) (m : Nat) (w : World) : (Instr.checkKey b (m + 1) f.type v).run Tryz.prog w = .ok () w := by
  have hu : Tryz.prog.underlying f.type = some (.int .i64) := by
    unfold fInt at h
    simp only [Bool.and_eq_true] at h
    have h3 := h.1.2
    split at h3
    · assumption
    · cases h3
  unfold Instr.checkKey
  simp only [Sem.run_bind, run_underlying hu, Result.andThen]
  cases v <;> simp
theorem chk_loop : ∀ (fs : List Field) (k : Nat) (zs : List Int) (vs : Array Value) (b : Bool) (m : Nat), intF Tryz.prog k fs = true → fs.length = zs.length → (∀ i z, zs[i]? = some z → vs[k + i]? = some (vi z)) → ∀ w : World,
    Sem.run Tryz.prog (forIn fs PUnit.unit fun f _ => if f.name ≠ "_" then do (Instr.checkKey b (m + 1) f.type (← part f.type vs f.offset)); pure (ForInStep.yield PUnit.unit) else pure (ForInStep.yield PUnit.unit)) w = .ok PUnit.unit w
  | [], k, zs, vs, b, m, _, _, _, w => by simp [Sem.run_pure]
  | f :: fs, k, [], vs, b, m, _, h1, _, w => by simp at h1
  | f :: fs, k, z :: zs, vs, b, m, hF, h1, hv, w => by
    unfold intF at hF
    simp only [Bool.and_eq_true] at hF
    obtain ⟨hn, hun, p1⟩ := fInt_part hF.1 (hv 0 z rfl) w
    have ih := chk_loop fs (k + 1) zs vs b m hF.2 (by simpa using h1) (fun i z hz => by rw [show k + 1 + i = k + (i + 1) by omega]; exact hv (i + 1) z hz) w
    rw [List.forIn_cons]
    simp only [hn, ne_eq, not_false_eq_true, if_true, Sem.run_bind, p1, Result.andThen, chk_int hF.1, Sem.run_pure]
    exact ih
theorem chk218 (b : Bool) (m : Nat) (k : Key) (w : World) : (Instr.checkKey b (m + 1 + 1) 218 (encK k)).run Tryz.prog w = .ok () w := by
  have h := eqt218.h
  unfold eqTy at h
  cases hu : Tryz.prog.underlying 218 with
  | none => rw [hu] at h; simp at h
  | some d =>
    cases d with
    | struct fs =>
      rw [hu] at h
      simp only [Bool.and_eq_true, Bool.not_eq_true', beq_iff_eq] at h
      obtain ⟨⟨⟨k1, k2⟩, k3⟩, k4⟩ := h
      unfold Instr.checkKey
      simp only [Sem.run_bind, run_underlying hu, Result.andThen, encK, kvL]
      have := chk_loop fs.toList 0 [k.op, k.a, k.b, k.c] ([k.op, k.a, k.b, k.c].map vi).toArray b m k1 (by simpa using k2) (fun i z hz => by simp only [Nat.zero_add]; simp only [List.getElem?_toArray, List.getElem?_map, hz]; rfl) w
      rw [← Array.forIn_toList]
      rw [this]; rfl
    | _ => rw [hu] at h; simp at h
instance : KeyT 218 encK where
  find k l w := by
    have h := eqt218.h
    unfold eqTy at h
    cases hu : Tryz.prog.underlying 218 with
    | none => rw [hu] at h; simp at h
    | some d =>
      cases d with
      | struct fs =>
        cases l with
        | nil => simp [Instr.findKey, run_underlying hu, Result.andThen, ents, Instr.findNow, fnd]
        | cons p r =>
          have hno : Instr.findNow (.struct fs) (encK k) (ents encK (p :: r) 0) 0 = none := by
            obtain ⟨k', v⟩ := p
            rw [ents, Instr.findNow]
            simp [Instr.sameNow]
          have hask : ∀ (l : List (Key × Int)) (b i : Nat), (Instr.findAsking 218 (encK k) (ents encK l b) i).run Tryz.prog w = .ok ((fnd l k i).map fun p => (p.1, vi p.2)) w := by
            intro l
            induction l with
            | nil => intros; simp [ents, Instr.findAsking, fnd]
            | cons p r ih =>
              intro b i
              obtain ⟨k', v⟩ := p
              have he := (run_eqs eqt218 (zs := [k.op, k.a, k.b, k.c]) (ys := [k'.op, k'.a, k'.b, k'.c]) rfl rfl w).1
              rw [ents, Instr.findAsking, fnd]
              simp only [Sem.run_bind]
              rw [show (Op.equal 218 (encK k) (encK k')).run Tryz.prog w = _ from he]
              by_cases e : k = k'
              · subst e; simp [Result.andThen]
              · have hd : decide ([k.op, k.a, k.b, k.c] = [k'.op, k'.a, k'.b, k'.c]) = false := decide_eq_false fun h => e (by cases k; cases k'; simp_all)
                rw [if_neg e, hd]
                simp only [Result.andThen, Bool.false_eq_true, if_false]
                exact ih (b + 1) (i + 1)
          unfold Instr.findKey
          simp only [Sem.run_bind, run_underlying hu, Result.andThen, hno]
          exact hask (p :: r) 0 0
      | _ => rw [hu] at h; simp at h
  chk b k w := chk218 b 9998 k w
  bits k := bits_key 9999 k
theorem modify_get {α : Type} {l : List α} {i : Nat} {a : α} (f : α → α) (h : l[i]? = some a) : l.modify i f = l.set i (f a) := by
  apply List.ext_getElem?
  intro j
  rw [List.getElem?_modify, List.getElem?_set]
  split
  · rename_i e; subst e; rw [h]; simp [(List.getElem?_eq_some_iff.1 h).1]
  · simp
theorem set_get {α : Type} {l : List α} {i : Nat} {a : α} (h : l[i]? = some a) : l.set i a = l := by
  apply List.ext_getElem?
  intro j
  rw [List.getElem?_set]
  split
  · rename_i e; subst e; rw [h]; simp [(List.getElem?_eq_some_iff.1 h).1]
  · rfl
/-! ### the operations -/
section
variable {κ : Type} [DecidableEq κ]
def mapO (enc : κ → Value) (l : List (κ × Int)) : Obj := .map (ents enc l 0).toArray l.length
theorem zero3 (w : World) : (zeroValue 3).run Tryz.prog w = .ok (vi 0) w := by
  have h : (Tryz.prog.info? 3).bind (·.zero) = some (.int .i64 0) := by kernel_rfl
  obtain ⟨i, hi, hz⟩ := Option.bind_eq_some_iff.1 h
  unfold zeroValue
  simp [run_typeInfo w hi, hz, Result.andThen, vi]
theorem run_lookup {t kt : TypeId} {enc : κ → Value} (ht : MapT t kt) (hk : KeyT kt enc) {l : List (κ × Int)} {r : Nat} {w : World} (hb : w.heap[r]? = some (mapO enc l)) (k : κ) (c : Bool) :
    (Instr.lookup t (.map (some r)) (enc k) c).run Tryz.prog w = .ok (if c then .tuple #[vi ((asc l k).getD 0), .bool (asc l k).isSome] else vi ((asc l k).getD 0)) w := by
  unfold Instr.lookup
  have h1 := MapKept.run_getObj_map (P := Tryz.prog) hb
  simp only [Sem.run_bind, run_underlying ht.h, Result.andThen, h1, Sem.run_pure, hk.chk]
  rw [hk.find k l w, ← fnd_asc l k 0]
  cases fnd l k 0 with
  | none => cases c <;> simp [zero3, Result.andThen, vi]
  | some p => cases c <;> simp
theorem run_mapUpdate {t kt : TypeId} {enc : κ → Value} (ht : MapT t kt) (hk : KeyT kt enc) {l : List (κ × Int)} {r : Nat} {w : World} (hb : w.heap[r]? = some (mapO enc l)) (k : κ) (v : Int) :
    (Instr.mapUpdate t (.map (some r)) (enc k) (vi v)).run Tryz.prog w = .ok () { w with heap := w.heap.setIfInBounds r (mapO enc (updA l k v)) } := by
  unfold Instr.mapUpdate
  have h1 := MapKept.run_getObj_map (P := Tryz.prog) hb
  simp only [Sem.run_bind, run_underlying ht.h, Result.andThen, h1, Sem.run_pure, hk.chk]
  rw [hk.find k l w]
  unfold updA
  cases h : fnd l k 0 with
  | none =>
    simp only [Option.map_none]
    rw [MapKept.run_setObj_map _ hb]
    have e : (ents enc l 0).toArray.push ⟨enc k, vi v, l.length⟩ = (ents enc (l ++ [(k, v)]) 0).toArray := by rw [ents_app, Nat.zero_add]; simp
    simp only [e, mapO, List.length_append, List.length_singleton]
  | some p =>
    obtain ⟨i, u⟩ := p
    have hg := (fnd_get h).2
    rw [Nat.sub_zero] at hg
    have hge := ents_get enc l 0 i k u hg
    rw [Nat.zero_add] at hge
    have e : (((ents enc l 0).toArray[i]?).map (·.key)).getD (enc k) = enc k := by rw [List.getElem?_toArray, hge]; rfl
    simp only [Option.map_some, e, Instr.keyThatStays, hk.bits, if_true, Sem.run_bind, Sem.run_pure, Result.andThen]
    rw [MapKept.run_setObj_map _ hb]
    have e2 : ((ents enc l 0).toArray.modify i fun e => { e with key := enc k, val := vi v }) = (ents enc (l.set i (k, v)) 0).toArray := by
      rw [← ents_set enc l 0 i k v, Nat.zero_add, List.modify_toArray]
      congr 1
      rw [modify_get _ hge]
    simp only [e2, mapO, List.length_set]
theorem run_mapEntry {t kt : TypeId} {enc : κ → Value} (ht : MapT t kt) (hk : KeyT kt enc) {l : List (κ × Int)} {r : Nat} {w : World} (hb : w.heap[r]? = some (mapO enc l)) (k : κ) :
    ∃ v, (Instr.mapEntry t (.map (some r)) (enc k)).run Tryz.prog w = .ok (.tuple #[v, .int .i64 ((entA l k).2 : Nat)]) { w with heap := w.heap.setIfInBounds r (mapO enc (entA l k).1) } := by
  unfold Instr.mapEntry
  have h1 := MapKept.run_getObj_map (P := Tryz.prog) hb
  simp only [Sem.run_bind, run_underlying ht.h, Result.andThen, h1, Sem.run_pure, hk.chk]
  rw [hk.find k l w]
  unfold entA
  cases h : fnd l k 0 with
  | none =>
    simp only [Option.map_none, Sem.run_bind, zero3, Result.andThen]
    rw [MapKept.run_setObj_map _ hb]
    have e : (ents enc l 0).toArray.push ⟨enc k, vi 0, l.length⟩ = (ents enc (l ++ [(k, 0)]) 0).toArray := by rw [ents_app, Nat.zero_add]; simp
    exact ⟨vi 0, by simp only [e, mapO, List.length_append, List.length_singleton, Sem.run_pure]; rfl⟩
  | some p =>
    obtain ⟨i, u⟩ := p
    have hg := (fnd_get h).2
    rw [Nat.sub_zero] at hg
    have hge := ents_get enc l 0 i k u hg
    rw [Nat.zero_add] at hge
    have e : (((ents enc l 0).toArray[i]?).map (·.key)).getD (enc k) = enc k := by rw [List.getElem?_toArray, hge]; rfl
    have e3 : (((ents enc l 0).toArray[i]?).map (fun x => (x.born : Int))).getD 0 = i := by rw [List.getElem?_toArray, hge]; rfl
    simp only [Option.map_some, e, e3, Instr.keyThatStays, hk.bits, if_true, Sem.run_bind, Sem.run_pure, Result.andThen]
    rw [MapKept.run_setObj_map _ hb]
    have e2 : ((ents enc l 0).toArray.modify i fun e => { e with key := enc k }) = (ents enc l 0).toArray := by
      rw [List.modify_toArray]
      congr 1
      rw [modify_get _ hge]
      exact set_get hge
    exact ⟨vi u, by simp only [e2, mapO]; rfl⟩
omit [DecidableEq κ] in
theorem run_entryStore {t : TypeId} {enc : κ → Value} {l : List (κ × Int)} {r : Nat} {w : World} (hb : w.heap[r]? = some (mapO enc l)) {k : κ} {u v : Int} {i : Nat} (hi : l[i]? = some (k, u)) :
    (Instr.entryStore t (.map (some r)) (.int .i64 (i : Nat)) (vi v)).run Tryz.prog w = .ok () { w with heap := w.heap.setIfInBounds r (mapO enc (l.set i (k, v))) } := by
  unfold Instr.entryStore
  have h1 := MapKept.run_getObj_map (P := Tryz.prog) hb
  have hlt := (List.getElem?_eq_some_iff.1 hi).1
  have hfind : (ents enc l 0).toArray.findIdx? (fun e => (e.born : Int) == (i : Nat)) = some i := by
    rw [List.findIdx?_toArray, List.findIdx?_eq_some_iff_getElem]
    refine ⟨by rw [ents_len]; exact hlt, ?_, fun j hj => ?_⟩
    · have hge := ents_get enc l 0 i k u hi
      have := (List.getElem?_eq_some_iff.1 hge).2
      rw [this]; simp
    · have hjl : j < l.length := by omega
      have hge := ents_get enc l 0 j (l[j]).1 (l[j]).2 (List.getElem?_eq_getElem hjl)
      have := (List.getElem?_eq_some_iff.1 hge).2
      rw [this]; simp; omega
  simp only [Sem.run_bind, Result.andThen, h1, asInt, asIntOf, Sem.run_pure, Sem.run_map, hfind]
  rw [MapKept.run_setObj_map _ hb]
  have hge := ents_get enc l 0 i k u hi
  rw [Nat.zero_add] at hge
  have e2 : ((ents enc l 0).toArray.modify i fun e => { e with val := vi v }) = (ents enc (l.set i (k, v)) 0).toArray := by
    rw [← ents_set enc l 0 i k v, Nat.zero_add, List.modify_toArray]
    congr 1
    rw [modify_get _ hge]
  simp only [e2, mapO, List.length_set]
variable {n : Nat} {ops : Array Oper} {fl : Option (List Nat)} {rest : List Oper} {K : St → Prop} {wk : List Ch} {x : Fr} {b : Nat → Value} {ds : List Deferred} {own : List Ch} {F : Fz} {d ty : Nat} {pos : String} {af : Array Edge}
omit [DecidableEq κ] in
theorem o_mkmap {t : TypeId} (enc : κ → Value) (hsub : List.Sublist wk own) {wk' : Nat → List Ch} (hw : ∀ r, Wk fl (Fg ops fl rest.length) wk F (.o r (mapO enc []) :: own) F (wk' r))
    (h : ∀ r, O n ops fl rest K (wk' r) ⟨(d, .map (some r)) :: x, b, ds, .o r (mapO enc []) :: own, F⟩) : O n ops fl (⟨some d, .makeMap t none, ty, pos, af, none⟩ :: rest) K wk ⟨x, b, ds, own, F⟩ :=
  o_ef hsub rfl fun B w0 w hI => by
    have hr : (execOp (St.act n ⟨x, b, ds, own, F⟩).eval ⟨some d, .makeMap t none, ty, pos, af, none⟩).run Tryz.prog w = .ok (.value (.map (some w.heap.size))) (w.alloc (mapO enc [])) := rfl
    rw [hr]
    exact ⟨_, _, act_putx .., hI.newo _ trivial, hw _, h _⟩
theorem o_look {t kt : TypeId} {enc : κ → Value} [ht : MapT t kt] [hk : KeyT kt enc] {a i : Operand} {l : List (κ × Int)} {r : Nat} {c : Bool} (p : Nat) (k : κ) (ha : evS n x a = some (.map (some r))) (hi : evS n x i = some (enc k)) (hp : wk[p]? = some (.o r (mapO enc l)))
    (h : O n ops fl rest K wk ⟨(d, if c then .tuple #[vi ((asc l k).getD 0), .bool (asc l k).isSome] else vi ((asc l k).getD 0)) :: x, b, ds, own, F⟩) : O n ops fl (⟨some d, .lookup t a i c, ty, pos, af, none⟩ :: rest) K wk ⟨x, b, ds, own, F⟩ :=
  o_rd _ rfl (fun B w0 w hw => by
    have hok := hw.ok _ (List.mem_of_getElem? hp)
    unfold execOp
    simp only [evx ha, evx hi, Sem.run_bind, run_lookup ht hk hok.2.1 k c, Result.andThen, Sem.run_pure]) h
theorem o_mapUp {t kt : TypeId} {enc : κ → Value} [ht : MapT t kt] [hk : KeyT kt enc] {a i u : Operand} {l : List (κ × Int)} {r : Nat} {v : Int} {own' wk' : List Ch} (p : Nat) (k : κ) (ha : evS n x a = some (.map (some r))) (hi : evS n x i = some (enc k)) (hu : evS n x u = some (vi v)) (hp : own[p]? = some (.o r (mapO enc l)))
    (ho : setC own p (.o r (mapO enc (updA l k v))) = some own') (hsub : List.Sublist wk own) (hw : Wk fl (Fg ops fl rest.length) wk F own' F wk')
    (h : O n ops fl rest K wk' ⟨x, b, ds, own', F⟩) : O n ops fl (⟨none, .mapUpdate t a i u, ty, pos, af, none⟩ :: rest) K wk ⟨x, b, ds, own, F⟩ :=
  o_ef hsub rfl fun B w0 w hI => by
    have hok := hI.ok _ (List.mem_of_getElem? hp)
    have hI' := hI.seto hp (mapO enc (updA l k v)) trivial
    rw [setC_eq ho] at hI'
    unfold execOp
    simp only [evx ha, evx hi, evx hu, Sem.run_bind, run_mapUpdate ht hk hok.2.1 k v, Result.andThen, Sem.run_pure]
    exact ⟨⟨x, b, ds, own', F⟩, wk', rfl, hI', hw, h⟩
theorem o_mapEn {t kt : TypeId} {enc : κ → Value} [ht : MapT t kt] [hk : KeyT kt enc] {a i : Operand} {l : List (κ × Int)} {r : Nat} {own' wk' : List Ch} (p : Nat) (k : κ) (ha : evS n x a = some (.map (some r))) (hi : evS n x i = some (enc k)) (hp : own[p]? = some (.o r (mapO enc l)))
    (ho : setC own p (.o r (mapO enc (entA l k).1)) = some own') (hsub : List.Sublist wk own) (hw : Wk fl (Fg ops fl rest.length) wk F own' F wk')
    (h : ∀ v, O n ops fl rest K wk' ⟨(d, .tuple #[v, .int .i64 ((entA l k).2 : Nat)]) :: x, b, ds, own', F⟩) : O n ops fl (⟨some d, .mapEntry t a i, ty, pos, af, none⟩ :: rest) K wk ⟨x, b, ds, own, F⟩ :=
  o_ef hsub rfl fun B w0 w hI => by
    have hok := hI.ok _ (List.mem_of_getElem? hp)
    have hI' := hI.seto hp (mapO enc (entA l k).1) trivial
    rw [setC_eq ho] at hI'
    obtain ⟨v, hr⟩ := run_mapEntry ht hk hok.2.1 k
    unfold execOp
    simp only [evx ha, evx hi, Sem.run_bind, hr, Result.andThen, Sem.run_pure]
    exact ⟨_, wk', act_putx .., hI', hw, h v⟩
theorem o_entSt {t kt : TypeId} {enc : κ → Value} [ht : MapT t kt] {a i u : Operand} {l : List (κ × Int)} {r : Nat} {v : Int} {own' wk' : List Ch} (p : Nat) (k : κ) (ha : evS n x a = some (.map (some r))) (hi : evS n x i = some (.int .i64 ((entA l k).2 : Nat))) (hu : evS n x u = some (vi v)) (hp : own[p]? = some (.o r (mapO enc (entA l k).1)))
    (ho : setC own p (.o r (mapO enc (updA l k v))) = some own') (hsub : List.Sublist wk own) (hw : Wk fl (Fg ops fl rest.length) wk F own' F wk')
    (h : O n ops fl rest K wk' ⟨x, b, ds, own', F⟩) : O n ops fl (⟨none, .entryStore t a i u, ty, pos, af, none⟩ :: rest) K wk ⟨x, b, ds, own, F⟩ :=
  o_ef hsub rfl fun B w0 w hI => by
    have hok := hI.ok _ (List.mem_of_getElem? hp)
    obtain ⟨g1, g2, g3⟩ := ent_upd l k v
    obtain ⟨⟨k', u'⟩, hq, e⟩ := Option.map_eq_some_iff.1 g2
    have e : k' = k := e
    subst e
    have hI' := hI.seto hp (mapO enc (updA l k' v)) trivial
    rw [setC_eq ho] at hI'
    have hr := run_entryStore (t := t) hok.2.1 (v := v) hq
    rw [g3] at hr
    unfold execOp
    simp only [evx ha, evx hi, evx hu, Sem.run_bind, hr, Result.andThen, Sem.run_pure]
    exact ⟨⟨x, b, ds, own', F⟩, wk', rfl, hI', hw, h⟩
end
end Go.Proofs.YthkoodpnepfijaaGreatDoor

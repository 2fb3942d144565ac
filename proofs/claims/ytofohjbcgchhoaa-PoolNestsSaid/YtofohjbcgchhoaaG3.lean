/-
  WHAT A TASK IS; A WORKER'S WALK.
-/
import Derived.Test.YtofohjbcgchhoaaF3
import Derived.Test.YtofohjbcgchhoaaG1
import Derived.Test.YtofohjbcgchhoaaG2
namespace Go.Proofs.Ytofohjbcgchhoaa
open Go.Conc
open Go.RowKit
set_option maxRecDepth 100000
set_option linter.unusedSimpArgs false
set_option linter.unusedVariables false

/-- What is known grows. -/
structure Ext (l l' : Lo) : Prop where
  md : l'.md = .act
  df : l'.df = 0
  ro : ∀ a v, l.ro a v → l'.ro a v
  pl : l'.pl = l.pl
  gl : l'.gl = l.gl
  pk : ∀ p, l.pk p ≤ l'.pk p
  cl : ∀ c, l.cl c → l'.cl c
theorem Ext.trans {l l' l'' : Lo} (h : Ext l l') (k : Ext l' l'') : Ext l l'' :=
  ⟨k.md, k.df, fun a v x => k.ro a v (h.ro a v x), k.pl.trans h.pl, k.gl.trans h.gl, fun p => Nat.le_trans (h.pk p) (k.pk p), fun c x => k.cl c (h.cl c x)⟩
theorem Ext.refl {l : Lo} (h : l.md = .act) (hd : l.df = 0) : Ext l l := ⟨h, hd, fun _ _ x => x, rfl, rfl, fun _ => Nat.le_refl _, fun _ x => x⟩

/-- A task: a function value (or nil), the cells that are its own, the shares that it takes and gives, what it leaves. -/
structure Task where
  v : Value
  foot : Addr → Prop
  T : Tk → Nat
  T' : Tk → Nat
  post : Int → (Addr → Option Value) → Prop

/-- What a task leaves as it was. -/
structure Kept (foot : Addr → Prop) (T T' : Tk → Nat) (l l' : Lo) : Prop where
  ext : Ext l l'
  cell : ∀ a, ¬ foot a → l.res.cells a ≠ none → l'.res.cells a = l.res.cells a
  tk : ∀ k, l'.res.tk k + T k = l.res.tk k + T' k
  wg : l'.wg = l.wg
  wk : l'.wk = l.wk
  ws : l'.ws = l.ws
  gk : l'.gk = l.gk
  ob : l'.ob = l.ob
  sk : ∀ p, (∀ ch cap, l.pl p ≠ some (ch, cap, false)) → l'.sk p = l.sk p

/-- How a task may be told: its shares. -/
structure Task.Ok (t : Task) : Prop where
  loc : ∀ x C C', (∀ a, t.foot a → C a = C' a) → t.post x C → t.post x C'
  own : ∀ x C, t.post x C → ∀ a, t.foot a → C a ≠ none
  slot : ∀ p, t.T (.slot p) = 0 ∧ t.T' (.slot p) = 0
  alive : ∀ p, t.T (.alive p) = 0 ∧ t.T' (.alive p) = 0
  gm : ∀ c, t.T (.gm c) = 0 ∧ t.T' (.gm c) = 0
  tr : ∀ c, t.T' (.tr c) = 0

/-- The task does what it should, run by the pool's 'run', whoever runs it. -/
def RunOk (l0 : Lo) (pv : Value) (nr : Nat) (gc : Option Nat) (t : Task) : Prop :=
  ∀ (E : En) (l : Lo), Ext l0 l → (∀ a, t.foot a → l.res.cells a = l0.res.cells a) → (∀ k, t.T k ≤ l.res.tk k) → (∀ c, l.res.tk (.tr c) = t.T (.tr c)) → (∀ c, gc = some c → l.res.tk (.tb c) = 0) →
    (∀ p, l.res.tk (.alive p) ≤ l.res.tk (.slot p)) → (∀ c, gc = some c ∨ l.cl c ∨ l.res.tk (.gm c) = 0) →
    E.N 23 #[pv, t.v] nr l fun v l' => ∃ x, v = .int .i64 x ∧ t.post x l'.res.cells ∧ Kept t.foot t.T t.T' l l' ∧ ∀ c, gc = some c → l'.cl c

theorem back_of {ops : Array Oper} (h : (List.range ops.size).all (fun i => match ops[i]? with | some o => o.after.toList.all (fun e => decide (e.on < i)) | none => true) = true) : ∀ (i : Nat) (o : Oper), ops[i]? = some o → ∀ e ∈ o.after, e.on < i := by
  intro i o ho e he
  rw [List.all_eq_true] at h
  have hi : i < ops.size := (Array.getElem?_eq_some_iff.1 ho).1
  have := h i (List.mem_range.2 hi)
  rw [ho] at this
  simp only at this
  rw [List.all_eq_true] at this
  simpa using this e (by simpa using he)

/-- Where a worker is in its one line. -/
def Inv25 (u bp bt bo bi p O m j : Nat) (gc : Option Nat) (t : Task) (l1 : Lo) (S : Nat → Bool) (a : Act) (l : Lo) : Prop :=
  ∃ x6 x7 x8 x9 x10 x11 : Value, a = ⟨#[.pointer (some ⟨u, 0, none⟩), .pointer (some ⟨bp, 0, none⟩), .pointer (some ⟨bt, 0, none⟩), .pointer (some ⟨bo, 0, none⟩), .pointer (some ⟨bi, 0, none⟩), .pointer (some ⟨p, 0, none⟩), x6, x7, x8, x9, x10, x11], [dcl 27 #[.pointer (some ⟨p, 0, none⟩)] #[], dcl 26 #[.pointer (some ⟨u, 0, none⟩)] #[]]⟩ ∧
    (S 0 = true → x6 = .slice (some ⟨O, 0, none⟩) m m) ∧ (S 1 = true → x7 = .int .i64 (j : Nat)) ∧ (S 2 = true → x8 = .pointer (some ⟨p, 0, none⟩)) ∧ (S 3 = true → x9 = t.v) ∧ (S 5 = true → x11 = .pointer (some ⟨O, j, none⟩)) ∧
    ((S 4 = false ∧ S 6 = false ∧ l = l1) ∨ (S 4 = true ∧ ∃ x l2, x10 = .int .i64 x ∧ (t.post x l2.res.cells ∧ Kept t.foot t.T t.T' l1 l2 ∧ ∀ c, gc = some c → l2.cl c) ∧ ((S 6 = false ∧ l = l2) ∨ (S 6 = true ∧ l = l2.setc ⟨O, j, none⟩ (.int .i64 x)))))

set_option maxHeartbeats 4000000 in
theorem child25 (nr : Nat) : ∃ n, ∀ (E : En) (u bp bt bo bi p ch cap O m j : Nat) (so : Bool) (gc : Option Nat) (t : Task) (lb l : Lo), E.i ≠ 0 → t.Ok → RunOk lb (.pointer (some ⟨p, 0, none⟩)) nr gc t → Ext lb l → (∀ a, t.foot a → l.res.cells a = lb.res.cells a) → (∀ k, t.T k ≤ l.res.tk k) → (∀ c, l.res.tk (.tr c) = t.T (.tr c)) → (∀ c, gc = some c → l.res.tk (.tb c) = 0) →
    (∀ p, l.res.tk (.alive p) ≤ l.res.tk (.slot p)) → (∀ c, gc = some c ∨ l.res.tk (.gm c) = 0 ∨ l.cl c) → l.wg = some u → l.wk u = 1 → (∀ x, l.ws x = none) →
    l.ro ⟨bp, 0, none⟩ (.pointer (some ⟨p, 0, none⟩)) → l.ro ⟨bt, 0, none⟩ t.v → l.ro ⟨bo, 0, none⟩ (.slice (some ⟨O, 0, none⟩) m m) → l.ro ⟨bi, 0, none⟩ (.int .i64 (j : Nat)) → l.ro ⟨p, 0, none⟩ (.chan (some ch)) → j < m → l.pl p = some (ch, cap, so) → l.res.tk (.slot p) = 1 → l.res.tk (.alive p) = 1 →
    l.res.cells ⟨O, j, none⟩ ≠ none → ¬ t.foot ⟨O, j, none⟩ →
    (∀ r x, r.cells ⟨O, j, none⟩ = some (.int .i64 x) → t.post x r.cells → (∀ k, r.tk k + t.T k + (if k = .slot p ∨ k = .alive p then 1 else 0) = l.res.tk k + t.T' k) → l.ob r) →
    E.W n l (bornFr Try.prog.funcs.size [dcl 25 #[] #[.pointer (some ⟨u, 0, none⟩), .pointer (some ⟨bp, 0, none⟩), .pointer (some ⟨bt, 0, none⟩), .pointer (some ⟨bo, 0, none⟩), .pointer (some ⟨bi, 0, none⟩)]]) [] := by
  obtain ⟨n26, h26⟩ := done26
  obtain ⟨n27, h27⟩ := leave27
  obtain ⟨c25, hc25⟩ : ∃ c, Try.f25.body = some c := ⟨_, rfl⟩
  refine ⟨2 + n26 + 2 + n27 + 2 + cost (nr + 2) 0 c25 + 2, fun E u bp bt bo bi p ch cap O m j so gc t lb l h0 hok hrun hext hfoot hT htr htb hal hgm hwg hwk hws hbp hbt hbo hbi hpch hjm hpl hsl hali hcell hnf hJ => ?_⟩
  -- the way out
  have hout : ∀ (a' : Act) (l' : Lo) (todo : List Item), (a'.defers = [dcl 27 #[.pointer (some ⟨p, 0, none⟩)] #[], dcl 26 #[.pointer (some ⟨u, 0, none⟩)] #[]] ∧ ∃ x l2, (t.post x l2.res.cells ∧ Kept t.foot t.T t.T' l l2 ∧ ∀ c, gc = some c → l2.cl c) ∧ l' = l2.setc ⟨O, j, none⟩ (.int .i64 x)) →
      E.W (2 + n26 + 2 + n27 + 2) l' { (baseD 25).at a' todo with mode := .returning } [bornFr Try.prog.funcs.size []] := by
    rintro a' l' todo ⟨hd, x, l2, ⟨hp, hk, hcl⟩, rfl⟩
    have hsl2 : l2.res.tk (.slot p) = 0 + 1 := by have := hk.tk (.slot p); have := hok.slot p; omega
    have hal2 : l2.res.tk (.alive p) = 0 + 1 := by have := hk.tk (.alive p); have := hok.alive p; omega
    have hO : l2.res.cells ⟨O, j, none⟩ ≠ none := by rw [hk.cell _ hnf hcell]; exact hcell
    obtain ⟨l3, hl3⟩ : ∃ l3, l3 = l2.setc ⟨O, j, none⟩ (.int .i64 x) := ⟨_, rfl⟩
    rw [← hl3]
    have hact3 : l3.md = .act := by rw [hl3]; exact hk.ext.md
    refine w_deferred (args := #[.pointer (some ⟨p, 0, none⟩)]) (cap := #[]) (h27 E p ch cap 0 0 so l3 hact3 (by rw [hl3]; exact (congrFun hk.ext.pl p).trans hpl) (by rw [hl3]; exact hk.ext.ro _ _ hpch) (by rw [hl3]; exact hsl2) (by rw [hl3]; exact hal2) (Nat.le_refl _) fun c => ?_) hd fun v l4 hl4 => ?_
    · rw [hl3]
      rcases hgm c with e | e | e
      · exact .inr (hcl c e)
      · have := hk.tk (.gm c); have := hok.gm c; exact .inl (by show l2.res.tk _ = 0; omega)
      · exact .inr (hk.ext.cl c e)
    · have e4 : ∀ k, l4.res.tk k = if k = .slot p ∨ k = .alive p then 0 else l2.res.tk k := fun k => by
        rw [hl4, hl3]
        by_cases e1 : k = .slot p
        · simp [Lo.tok, e1]
        · by_cases e2 : k = .alive p
          · simp [Lo.tok, e2]
          · simp [Lo.tok, Lo.setc, e1, e2]
      have c4 : l4.res.cells = l3.res.cells := by rw [hl4]; rfl
      refine w_deferred (args := #[.pointer (some ⟨u, 0, none⟩)]) (cap := #[]) (h26 E u l4 (by rw [hl4]; exact hact3) (by rw [hl4, hl3]; exact hk.ext.df) (by rw [hl4, hl3]; exact hk.wg.trans hwg) (by rw [hl4, hl3]; exact (congrFun hk.wk u).trans hwk) ?_ (fun y => by rw [hl4, hl3]; exact (congrFun hk.ws y).trans (hws y)) fun c => ?_) rfl fun v l5 hl5 => ?_
      · have e5 : l4.ob = l.ob := by rw [hl4, hl3]; exact hk.ob
        rw [e5]
        refine hJ l4.res x ?_ ?_ fun k => ?_
        · rw [c4, hl3]; simp [Lo.setc]
        · refine hok.loc x _ _ (fun a ha => ?_) hp
          rw [c4, hl3]
          have : a ≠ ⟨O, j, none⟩ := fun e => hnf (e ▸ ha)
          simp [Lo.setc, this]
        · rw [e4]
          have := hk.tk k
          by_cases e1 : k = .slot p ∨ k = .alive p
          · rw [if_pos e1, if_pos e1]
            rcases e1 with e1 | e1
            · subst e1; have := hok.slot p; omega
            · subst e1; have := hok.alive p; omega
          · rw [if_neg e1, if_neg e1]; omega
      · rw [e4]
        simp only [reduceCtorEq, or_self, if_false]
        have := hk.tk (.tr c); have := hok.tr c; have := htr c
        omega
      · exact w_die h0 hl5 Try.func25 (by rfl) rfl
  have hact := hext.md
  have hq := quit_act hact
  refine w_born (n := 2 + n26 + 2 + n27 + 2 + cost (nr + 2) 0 c25 + 1) Try.func25 (by rfl) hc25 ?_
  suffices hC : E.C (nr + 2) 0 25 c25 (fun ex a' l' => ex = .normal ∧ a'.defers = [dcl 27 #[.pointer (some ⟨p, 0, none⟩)] #[], dcl 26 #[.pointer (some ⟨u, 0, none⟩)] #[]] ∧ ∃ x l2, (t.post x l2.res.cells ∧ Kept t.foot t.T t.T' l l2 ∧ ∀ c, gc = some c → l2.cl c) ∧ l' = l2.setc ⟨O, j, none⟩ (.int .i64 x)) (act0 Try.f25 #[.pointer (some ⟨u, 0, none⟩), .pointer (some ⟨bp, 0, none⟩), .pointer (some ⟨bt, 0, none⟩), .pointer (some ⟨bo, 0, none⟩), .pointer (some ⟨bi, 0, none⟩)]) l by
    have := hC (baseD 25) [] [bornFr Try.prog.funcs.size []] (2 + n26 + 2 + n27 + 2 + 1) rfl (by simp [baseD]) fun ex a' l' q => by
      obtain ⟨rfl, hd, hx⟩ := q
      exact En.W.ctl (hout a' l' [] ⟨hd, hx⟩) fun _ => stepG_end
    exact this.mono (by omega)
  clear hout
  obtain rfl := Option.some.inj hc25
  simp only [act0, Try.ntmps25, List.size_toArray, List.length_cons, List.length_nil, Nat.reduceAdd, Nat.reduceSub, Array.replicate_succ, Array.replicate_zero, List.push_toArray, List.append_toArray, List.nil_append, List.cons_append]
  clear hc25
  repeat (first
    | (refine c_seq ?_)
    | (refine c_region ?_
       simp only [List.size_toArray, List.length_cons, List.length_nil, Nat.reduceAdd, Nat.zero_add, List.range, List.range.loop])
    | (refine o_nil ?_
       simp only [Thn, Inb, if_true, if_false, reduceIte, Nat.reduceEqDiff])
    | (refine c_skip ?_
       simp only [Thn, Inb, if_true, if_false, reduceIte, Nat.reduceEqDiff])
    | (refine c_cond true (by rfl) (fun _ => ?_) (fun e => by cases e))
    | (refine c_cond false (by rfl) (fun e => by cases e) (fun _ => ?_))
    | (refine c_block ?_)
    | (refine c_label ?_
       simp only [Thn, Inb, if_true, if_false, reduceIte, Nat.reduceEqDiff])
    | (refine c_scope ?_)
    | (refine o_cons (u_read (by omega) hact rfl (by rfl) fun w hF K' hK' => ?_)
       go_simp
       refine hK' _ ⟨?_, ?_⟩
       focus
         rw [listed_nil]
         · simp
         · (simp [go_sem]; done)
       clear hK' K' hF w
       try walk_nrm)
    | (refine o_cons (u_unwanted (by omega) rfl (by rfl) ?_)
       try walk_nrm))
  refine o_cons (u_defer (by omega) rfl (by rfl) rfl rfl ?_)
  try walk_nrm
  repeat (first
    | (refine c_seq ?_)
    | (refine c_region ?_
       simp only [List.size_toArray, List.length_cons, List.length_nil, Nat.reduceAdd, Nat.zero_add, List.range, List.range.loop])
    | (refine o_nil ?_
       simp only [Thn, Inb, if_true, if_false, reduceIte, Nat.reduceEqDiff])
    | (refine c_skip ?_
       simp only [Thn, Inb, if_true, if_false, reduceIte, Nat.reduceEqDiff])
    | (refine c_cond true (by rfl) (fun _ => ?_) (fun e => by cases e))
    | (refine c_cond false (by rfl) (fun e => by cases e) (fun _ => ?_))
    | (refine c_block ?_)
    | (refine c_label ?_
       simp only [Thn, Inb, if_true, if_false, reduceIte, Nat.reduceEqDiff])
    | (refine c_scope ?_)
    | (refine o_cons (u_read (by omega) hact rfl (by rfl) fun w hF K' hK' => ?_)
       go_simp
       refine hK' _ ⟨?_, ?_⟩
       focus
         rw [listed_nil]
         · simp
         · (simp [go_sem]; done)
       clear hK' K' hF w
       try walk_nrm)
    | (refine o_cons (u_unwanted (by omega) rfl (by rfl) ?_)
       try walk_nrm))
  refine o_cons (u_load (.pointer (some ⟨p, 0, none⟩)) (by omega) hact rfl (by rfl) rfl Try.underlying29 rfl rfl (.inr hbp) ?_)
  try walk_nrm
  refine o_cons (u_defer (by omega) rfl (by rfl) rfl rfl ?_)
  try walk_nrm
  repeat (first
    | (refine c_seq ?_)
    | (refine c_region ?_
       simp only [List.size_toArray, List.length_cons, List.length_nil, Nat.reduceAdd, Nat.zero_add, List.range, List.range.loop])
    | (refine o_nil ?_
       simp only [Thn, Inb, if_true, if_false, reduceIte, Nat.reduceEqDiff])
    | (refine c_skip ?_
       simp only [Thn, Inb, if_true, if_false, reduceIte, Nat.reduceEqDiff])
    | (refine c_cond true (by rfl) (fun _ => ?_) (fun e => by cases e))
    | (refine c_cond false (by rfl) (fun e => by cases e) (fun _ => ?_))
    | (refine c_block ?_)
    | (refine c_label ?_
       simp only [Thn, Inb, if_true, if_false, reduceIte, Nat.reduceEqDiff])
    | (refine c_scope ?_)
    | (refine o_cons (u_read (by omega) hact rfl (by rfl) fun w hF K' hK' => ?_)
       go_simp
       refine hK' _ ⟨?_, ?_⟩
       focus
         rw [listed_nil]
         · simp
         · (simp [go_sem]; done)
       clear hK' K' hF w
       try walk_nrm)
    | (refine o_cons (u_unwanted (by omega) rfl (by rfl) ?_)
       try walk_nrm))
  refine c_draw hact (Inv25 u bp bt bo bi p O m j gc t l) (back_of (by rfl)) ⟨_, _, _, _, _, _, rfl, by simp, by simp, by simp, by simp, by simp, .inl ⟨rfl, rfl, rfl⟩⟩ ?_ ?_
  · intro S a l' i o hI ho hSi hdep
    obtain ⟨x6, x7, x8, x9, x10, x11, rfl, k0, k1, k2, k3, k5, kst⟩ := hI
    have hactl : l'.md = .act := by
      rcases kst with ⟨_, _, rfl⟩ | ⟨_, x, l2, _, ⟨_, hk, _⟩, ⟨_, rfl⟩ | ⟨_, rfl⟩⟩
      · exact hact
      · exact hk.ext.md
      · exact hk.ext.md
    have hrol : ∀ a v, l.ro a v → l'.ro a v := by
      rcases kst with ⟨_, _, rfl⟩ | ⟨_, x, l2, _, ⟨_, hk, _⟩, ⟨_, rfl⟩ | ⟨_, rfl⟩⟩
      · exact fun _ _ h => h
      · exact hk.ext.ro
      · exact hk.ext.ro
    rcases i with _ | _ | _ | _ | _ | _ | _ | i
    · -- 0
      simp only [List.getElem?_toArray, List.getElem?_cons_zero, List.getElem?_cons_succ, Option.some.injEq] at ho
      subst ho
      refine u_load (.slice (some ⟨O, 0, none⟩) m m) (by omega) hactl rfl (by rfl) rfl Try.underlying35 rfl rfl (.inr (hrol _ _ hbo)) ?_
      unfold Inv25
      refine ⟨_, _, _, _, _, _, rfl, ?_, ?_, ?_, ?_, ?_, ?_⟩
      all_goals simp only [Nat.reduceEqDiff, reduceIte, if_true, if_false]
      all_goals first | exact fun _ => rfl | exact fun _ => trivial | exact k0 | exact k1 | exact k2 | exact k3 | exact k5 | exact kst
    · -- 1
      simp only [List.getElem?_toArray, List.getElem?_cons_zero, List.getElem?_cons_succ, Option.some.injEq] at ho
      subst ho
      refine u_load (.int .i64 (j : Nat)) (by omega) hactl rfl (by rfl) rfl Try.underlying3 rfl rfl (.inr (hrol _ _ hbi)) ?_
      unfold Inv25
      refine ⟨_, _, _, _, _, _, rfl, ?_, ?_, ?_, ?_, ?_, ?_⟩
      all_goals simp only [Nat.reduceEqDiff, reduceIte, if_true, if_false]
      all_goals first | exact fun _ => rfl | exact fun _ => trivial | exact k0 | exact k1 | exact k2 | exact k3 | exact k5 | exact kst
    · -- 2
      simp only [List.getElem?_toArray, List.getElem?_cons_zero, List.getElem?_cons_succ, Option.some.injEq] at ho
      subst ho
      refine u_load (.pointer (some ⟨p, 0, none⟩)) (by omega) hactl rfl (by rfl) rfl Try.underlying29 rfl rfl (.inr (hrol _ _ hbp)) ?_
      unfold Inv25
      refine ⟨_, _, _, _, _, _, rfl, ?_, ?_, ?_, ?_, ?_, ?_⟩
      all_goals simp only [Nat.reduceEqDiff, reduceIte, if_true, if_false]
      all_goals first | exact fun _ => rfl | exact fun _ => trivial | exact k0 | exact k1 | exact k2 | exact k3 | exact k5 | exact kst
    · -- 3
      simp only [List.getElem?_toArray, List.getElem?_cons_zero, List.getElem?_cons_succ, Option.some.injEq] at ho
      subst ho
      refine u_load (t.v) (by omega) hactl rfl (by rfl) rfl Try.underlying34 rfl rfl (.inr (hrol _ _ hbt)) ?_
      unfold Inv25
      refine ⟨_, _, _, _, _, _, rfl, ?_, ?_, ?_, ?_, ?_, ?_⟩
      all_goals simp only [Nat.reduceEqDiff, reduceIte, if_true, if_false]
      all_goals first | exact fun _ => rfl | exact fun _ => trivial | exact k0 | exact k1 | exact k2 | exact k3 | exact k5 | exact kst
    · -- 4
      simp only [List.getElem?_toArray, List.getElem?_cons_zero, List.getElem?_cons_succ, Option.some.injEq] at ho
      subst ho
      have s2 : S 2 = true := hdep ⟨2, .data⟩ (by simp) rfl
      have s3 : S 3 = true := hdep ⟨3, .data⟩ (by simp) rfl
      obtain rfl := k2 s2
      obtain rfl := k3 s3
      obtain ⟨hS6, hll⟩ : S 6 = false ∧ l' = l := by
        rcases kst with ⟨_, e⟩ | ⟨e, _⟩
        · exact e
        · rw [e] at hSi; cases hSi
      subst hll
      refine u_callx (n := nr) #[.pointer (some ⟨p, 0, none⟩), t.v] (by omega) rfl (by rfl) rfl (by walk_nrm) ?_
      refine (hrun E l' hext hfoot hT htr htb hal (fun c => (hgm c).elim .inl fun e => .inr e.symm)).mono fun v l2 hp => ?_
      obtain ⟨x, rfl, hp⟩ := hp
      unfold Inv25
      refine ⟨_, _, _, _, _, _, rfl, ?_, ?_, ?_, ?_, ?_, ?_⟩
      all_goals simp only [Nat.reduceEqDiff, reduceIte, if_true, if_false]
      all_goals first | exact fun _ => rfl | exact fun _ => trivial | exact k0 | exact k1 | exact k5 | skip
      exact .inr ⟨trivial, x, l2, rfl, hp, .inl ⟨hS6, rfl⟩⟩
    · -- 5
      simp only [List.getElem?_toArray, List.getElem?_cons_zero, List.getElem?_cons_succ, Option.some.injEq] at ho
      subst ho
      have s0 : S 0 = true := hdep ⟨0, .data⟩ (by simp) rfl
      have s1 : S 1 = true := hdep ⟨1, .data⟩ (by simp) rfl
      obtain rfl := k0 s0
      obtain rfl := k1 s1
      refine u_index (A := ⟨O, 0, none⟩) (n := m) (c := m) (k := .i64) (m := j) (by omega) rfl (by rfl) rfl Try.underlying35 (by rfl) rfl rfl hjm ?_
      unfold Inv25
      refine ⟨_, _, _, _, _, _, rfl, ?_, ?_, ?_, ?_, ?_, ?_⟩
      all_goals simp only [Nat.reduceEqDiff, reduceIte, if_true, if_false]
      all_goals first | exact fun _ => rfl | exact fun _ => trivial | exact k2 | exact k3 | exact kst | skip
      intro _
      rw [Addr.add_lit, Nat.zero_add]
    · -- 6
      simp only [List.getElem?_toArray, List.getElem?_cons_zero, List.getElem?_cons_succ, Option.some.injEq] at ho
      subst ho
      have s4 : S 4 = true := hdep ⟨4, .data⟩ (by simp) rfl
      have s5 : S 5 = true := hdep ⟨5, .data⟩ (by simp) rfl
      obtain rfl := k5 s5
      obtain ⟨x, l2, rfl, hp, hst⟩ : ∃ x l2, x10 = .int .i64 x ∧ (t.post x l2.res.cells ∧ Kept t.foot t.T t.T' l l2 ∧ ∀ c, gc = some c → l2.cl c) ∧ ((S 6 = false ∧ l' = l2) ∨ (S 6 = true ∧ l' = l2.setc ⟨O, j, none⟩ (.int .i64 x))) := by
        rcases kst with ⟨e, _⟩ | ⟨_, h⟩
        · rw [s4] at e; cases e
        · exact h
      have hll : l' = l2 := by
        rcases hst with ⟨_, e⟩ | ⟨e, _⟩
        · exact e
        · rw [e] at hSi; cases hSi
      subst hll
      have hO : l'.res.cells ⟨O, j, none⟩ ≠ none := by rw [hp.2.1.cell _ hnf hcell]; exact hcell
      refine u_store1 (ad := ⟨O, j, none⟩) (.int .i64 x) (by omega) hactl rfl (by rfl) rfl (by rfl) rfl rfl rfl hO ?_
      unfold Inv25
      refine ⟨_, _, _, _, _, _, rfl, ?_, ?_, ?_, ?_, ?_, ?_⟩
      all_goals simp only [Nat.reduceEqDiff, reduceIte, if_true, if_false]
      all_goals first | exact fun _ => rfl | exact fun _ => trivial | exact k0 | exact k1 | exact k2 | exact k3 | skip
      exact .inr ⟨s4, x, l', rfl, hp, .inr ⟨trivial, rfl⟩⟩
    · simp at ho
  · intro S a l' hI hall
    obtain ⟨x6, x7, x8, x9, x10, x11, rfl, k0, k1, k2, k3, k5, kst⟩ := hI
    have s4 := hall 4 (by decide)
    have s6 := hall 6 (by decide)
    obtain ⟨x, l2, rfl, hp, hst⟩ : ∃ x l2, x10 = .int .i64 x ∧ (t.post x l2.res.cells ∧ Kept t.foot t.T t.T' l l2 ∧ ∀ c, gc = some c → l2.cl c) ∧ ((S 6 = false ∧ l' = l2) ∨ (S 6 = true ∧ l' = l2.setc ⟨O, j, none⟩ (.int .i64 x))) := by
      rcases kst with ⟨e, _⟩ | ⟨_, h⟩
      · rw [s4] at e; cases e
      · exact h
    refine ⟨rfl, rfl, x, l2, hp, ?_⟩
    rcases hst with ⟨e, _⟩ | ⟨_, e⟩
    · rw [s6] at e; cases e
    · exact e
end Go.Proofs.Ytofohjbcgchhoaa

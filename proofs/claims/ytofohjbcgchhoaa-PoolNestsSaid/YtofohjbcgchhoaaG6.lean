/-
  THE WALK: Do.
-/
import Derived.Test.YtofohjbcgchhoaaF2
import Derived.Test.YtofohjbcgchhoaaF4
import Derived.Test.YtofohjbcgchhoaaG4b
import Derived.Test.YtofohjbcgchhoaaG5
namespace Go.Proofs.Ytofohjbcgchhoaa
open Go.Conc
open Go.RowKit
open Go.ConcN (sumTo sumTo_congr le_sumTo)
set_option maxRecDepth 100000
set_option linter.unusedSimpArgs false
set_option linter.unusedVariables false

def Fr11 (v1 : Value) (v2 : Value) (v5 : Value) (v6 : Value) (v16 : Value) (v17 : Value) (ds : List Deferred) (a : Act) : Prop := ∃ x0 x3 x4 x7 x8 x9 x10 x11 x12 x13 x14 x18 x19 x20 x21 x22 x23 x24 x25 x26 x27 x28 x29 x30 x31 x32 x33 x34 x35 x36 x37 x38 x39 x40 x41 x42 : Value, a = ⟨#[x0, v1, v2, x3, x4, v5, v6, x7, x8, x9, x10, x11, x12, x13, x14, v1, v16, v17, x18, x19, x20, x21, x22, x23, x24, x25, x26, x27, x28, x29, x30, x31, x32, x33, x34, x35, x36, x37, x38, x39, x40, x41, x42], ds⟩

def Fr11b (v1 : Value) (v2 : Value) (v5 : Value) (v6 : Value) (v7 : Value) (v8 : Value) (v16 : Value) (v17 : Value) (y32 : Value) (y33 : Value) (y34 : Value) (y35 : Value) (y36 : Value) (y37 : Value) (ds : List Deferred) (a : Act) : Prop := ∃ x0 x3 x4 x9 x10 x11 x12 x13 x14 x18 x19 x20 x21 x22 x23 x24 x25 x26 x27 x28 x29 x30 x31 x38 x39 x40 x41 x42 : Value, a = ⟨#[x0, v1, v2, x3, x4, v5, v6, v7, v8, x9, x10, x11, x12, x13, x14, v1, v16, v17, x18, x19, x20, x21, x22, x23, x24, x25, x26, x27, x28, x29, x30, x31, y32, y33, y34, y35, y36, y37, x38, x39, x40, x41, x42], ds⟩

/-- Where Do is in the line in which it runs a task itself. -/
def Inv11 (v1 v2 v5 v6 v7 v8 v16 v17 : Value) (pa : Option Addr) (O m j : Nat) (gc : Option Nat) (t : Task) (l1 : Lo) (S : Nat → Bool) (a : Act) (l : Lo) : Prop :=
  ∃ y32 y33 y34 y35 y36 y37 : Value, Fr11b v1 v2 v5 v6 v7 v8 v16 v17 y32 y33 y34 y35 y36 y37 [] a ∧
    (S 0 = true → y32 = .slice (some ⟨O, 0, none⟩) m m) ∧ (S 1 = true → y33 = .int .i64 (j : Nat)) ∧ (S 2 = true → y34 = .pointer pa) ∧ (S 3 = true → y35 = t.v) ∧ (S 5 = true → y37 = .pointer (some ⟨O, j, none⟩)) ∧
    ((S 4 = false ∧ S 6 = false ∧ l = l1) ∨ (S 4 = true ∧ ∃ x l2, y36 = .int .i64 x ∧ (t.post x l2.res.cells ∧ Kept t.foot t.T t.T' l1 l2 ∧ ∀ c, gc = some c → l2.cl c) ∧ ((S 6 = false ∧ l = l2) ∨ (S 6 = true ∧ l = l2.setc ⟨O, j, none⟩ (.int .i64 x)))))

theorem took_tk (l : Lo) (p q : Nat) (k : Tk) : (l.took p q).res.tk k = l.res.tk k + (if k = .slot p ∨ k = .alive p then 1 else 0) := by
  unfold Lo.took Lo.tok Lo.skd Lo.pkd
  by_cases e1 : k = .slot p
  · subst e1; simp
  · by_cases e2 : k = .alive p
    · subst e2; simp
    · simp [e1, e2]
def mintk (gc : Option Nat) (k : Tk) : Nat := match gc with | some c => if k = .gm c then 1 else 0 | none => 0
/-- One more member of the gate. -/
def Lo.mint (l : Lo) (gc : Option Nat) (g : Nat) : Lo := { l with gk := fun c => if gc = some c then some (g + 1) else l.gk c, res := ⟨l.res.cells, fun k => l.res.tk k + mintk gc k⟩ }
theorem turn_mint {E : En} {l : Lo} {gc : Option Nat} {g p : Nat} (hact : l.md = .act) (hg : ∀ c, gc = some c → l.gk c = some g ∧ (∃ bg m, l.gl c = some (bg, m, p)) ∧ l.res.tk (.gm c) + 1 ≤ l.res.tk (.alive p)) : E.Turn l (l.mint gc g) := by
  refine turn_know hact (pk' := l.pk) (cl' := l.cl) (al' := l.al) (gk' := fun c => if gc = some c then some (g + 1) else l.gk c) (tk' := fun k => l.res.tk k + mintk gc k) rfl (fun _ => Nat.le_refl _) (fun _ x => x) (fun _ x => x) (fun k hk => ?_) (fun c => ?_)
  · cases gc with
    | none => rfl
    | some c => simp [mintk, hk c]
  · by_cases e : gc = some c
    · obtain ⟨k1, ⟨bg, m, k2⟩, k3⟩ := hg c e
      refine .inr ⟨g, bg, m, p, k1, by simp [e], by simp [mintk, e], k2, k3⟩
    · refine .inl ⟨by simp [e], ?_⟩
      cases gc with
      | none => rfl
      | some c' =>
        have : c ≠ c' := fun h => e (by rw [h])
        simp [mintk, this]

def mu11 (n : Nat) (a : Act) : Nat := match (a.tmps[17]? : Option Value) with | some (.int _ x) => n - x.toNat | _ => 0

set_option maxHeartbeats 16000000 in
theorem do11 (n nr : Nat) : ∃ N, ∀ (E : En) (D : DoPar) (c : Nat), D.n = n → n ≤ 1048576 → DoPre D (E.i = 0) → (∀ j, j < n → (D.ts j).v = .nilFunc ∨ ((∃ f first capv, (D.ts j).v = .func f first capv) ∧ RunOk D.l0 D.pv nr D.gc (D.ts j))) →
    E.N 11 #[D.pv, .slice (some D.A) n c] N D.l0 fun v l' => ∃ O u bp bo xs, v = .slice (some ⟨O, 0, none⟩) n n ∧ (∀ k, D.l0.res.cells ⟨O, k, none⟩ = none) ∧ DoPost { D with O := O, u := u, bp := bp, bo := bo } (E.i = 0) xs l' := by
  obtain ⟨n22, h22⟩ := takeOk
  obtain ⟨n24, h24⟩ := wg_up
  obtain ⟨n28, h28⟩ := wg_wait n
  obtain ⟨n25, h25⟩ := child25 nr
  refine ⟨_, fun E D c hDn hn P hrun => n_of_b (b_of (e := n22 + n24 + n28 + n25 + nr + 4) (L := n + 1) Try.func11 (by rfl) rfl ?_)⟩
  have hact := P.act
  have hq := quit_act hact
  unfold DoPar.pv
  simp only [act0, Try.ntmps11, List.size_toArray, List.length_cons, List.length_nil, Nat.reduceAdd, Nat.reduceSub, Array.replicate_succ, Array.replicate_zero, List.push_toArray, List.append_toArray, List.nil_append, List.cons_append]
  repeat (first
    | (refine c_seq ?_)
    | (refine c_region ?_
       simp only [List.size_toArray, List.length_cons, List.length_nil, Nat.reduceAdd, Nat.zero_add, List.range, List.range.loop])
    | (refine o_nil ?_
       simp only [Thn, Inb, if_true, if_false, reduceIte, Nat.reduceEqDiff])
    | (refine c_skip ?_
       simp only [Thn, Inb, if_true, if_false, reduceIte, Nat.reduceEqDiff])
    | (refine c_cond true (by rfl) (fun _ => ?_) (fun e => by cases e))
    | (refine c_cond false (by rfl) (fun e => by cases e) (fun _ => ?_))
    | (refine c_block ?_)
    | (refine c_label ?_
       simp only [Thn, Inb, if_true, if_false, reduceIte, Nat.reduceEqDiff])
    | (refine c_scope ?_)
    | (refine o_cons (u_read (by omega) hact rfl (by rfl) fun w hF K' hK' => ?_)
       go_simp
       refine hK' _ ⟨?_, ?_⟩
       focus
         rw [listed_nil]
         · simp
         · (simp [go_sem]; done)
       clear hK' K' hF w
       try walk_nrm)
    | (refine o_cons (u_unwanted (by omega) rfl (by rfl) ?_)
       try walk_nrm))
  refine o_cons (u_new (by omega) hact rfl (by rfl) (.cells #[.pointer D.pa] 29) (fun r => .pointer (some ⟨r, 0, none⟩)) (fun r => D.l0.addc r #[.pointer D.pa]) (fun w => by simp [go_sem]) (fun w => by simp [go_sem]) (new_cells hact _ _) fun bp hbp => ?_)
  obtain ⟨l1, hl1⟩ : ∃ l1, l1 = D.l0.addc bp #[.pointer D.pa] := ⟨_, rfl⟩
  rw [← hl1]
  have g1 : Grow D.l0 l1 := by rw [hl1]; exact (Grow.refl _).addc hbp _
  have hact1 : l1.md = .act := g1.md.trans hact
  try walk_nrm
  repeat (first
    | (refine c_seq ?_)
    | (refine c_region ?_
       simp only [List.size_toArray, List.length_cons, List.length_nil, Nat.reduceAdd, Nat.zero_add, List.range, List.range.loop])
    | (refine o_nil ?_
       simp only [Thn, Inb, if_true, if_false, reduceIte, Nat.reduceEqDiff])
    | (refine c_skip ?_
       simp only [Thn, Inb, if_true, if_false, reduceIte, Nat.reduceEqDiff])
    | (refine c_cond true (by rfl) (fun _ => ?_) (fun e => by cases e))
    | (refine c_cond false (by rfl) (fun e => by cases e) (fun _ => ?_))
    | (refine c_block ?_)
    | (refine c_label ?_
       simp only [Thn, Inb, if_true, if_false, reduceIte, Nat.reduceEqDiff])
    | (refine c_scope ?_)
    | (refine o_cons (u_read (by omega) hact1 rfl (by rfl) fun w hF K' hK' => ?_)
       go_simp
       refine hK' _ ⟨?_, ?_⟩
       focus
         rw [listed_nil]
         · simp
         · (simp [go_sem]; done)
       clear hK' K' hF w
       try walk_nrm)
    | (refine o_cons (u_unwanted (by omega) rfl (by rfl) ?_)
       try walk_nrm))
  have hn1 : 1 ≤ n := by rw [← hDn]; exact P.pos
  have hn0 : ((n : Int) == 0) = false := by simp only [beq_eq_false_iff_ne, ne_eq]; omega
  refine c_cond false (by simp [Act.eval, hn0]) (fun e => by cases e) (fun _ => ?_)
  repeat (first
    | (refine c_seq ?_)
    | (refine c_region ?_
       simp only [List.size_toArray, List.length_cons, List.length_nil, Nat.reduceAdd, Nat.zero_add, List.range, List.range.loop])
    | (refine o_nil ?_
       simp only [Thn, Inb, if_true, if_false, reduceIte, Nat.reduceEqDiff])
    | (refine c_skip ?_
       simp only [Thn, Inb, if_true, if_false, reduceIte, Nat.reduceEqDiff])
    | (refine c_cond true (by rfl) (fun _ => ?_) (fun e => by cases e))
    | (refine c_cond false (by rfl) (fun e => by cases e) (fun _ => ?_))
    | (refine c_block ?_)
    | (refine c_label ?_
       simp only [Thn, Inb, if_true, if_false, reduceIte, Nat.reduceEqDiff])
    | (refine c_scope ?_)
    | (refine o_cons (u_read (by omega) hact1 rfl (by rfl) fun w hF K' hK' => ?_)
       go_simp
       refine hK' _ ⟨?_, ?_⟩
       focus
         rw [listed_nil]
         · simp
         · (simp [go_sem]; done)
       clear hK' K' hF w
       try walk_nrm)
    | (refine o_cons (u_unwanted (by omega) rfl (by rfl) ?_)
       try walk_nrm))
  refine o_cons (u_make n (by omega) hact1 rfl (by rfl) rfl Try.underlying35 Try.type32 rfl rfl (by decide) rfl hn rfl rfl fun O hO => ?_)
  obtain ⟨l2, hl2⟩ : ∃ l2, l2 = l1.addc O (Array.replicate n (.int .i64 0)) := ⟨_, rfl⟩
  rw [← hl2]
  have g2 : Grow D.l0 l2 := by rw [hl2]; exact g1.addc hO _
  have hact2 : l2.md = .act := g2.md.trans hact
  try walk_nrm
  refine o_cons (u_new (by omega) hact2 rfl (by rfl) (.cells #[.slice none 0 0] 35) (fun r => .pointer (some ⟨r, 0, none⟩)) (fun r => l2.addc r #[.slice none 0 0]) (fun w => by simp [go_sem]) (fun w => by simp [go_sem]) (new_cells hact2 _ _) fun bo hbo => ?_)
  obtain ⟨l3, hl3⟩ : ∃ l3, l3 = l2.addc bo #[.slice none 0 0] := ⟨_, rfl⟩
  rw [← hl3]
  have g3 : Grow D.l0 l3 := by rw [hl3]; exact g2.addc hbo _
  have hact3 : l3.md = .act := g3.md.trans hact
  have hbo0 : D.l0.res.cells ⟨bo, 0, none⟩ = none := by
    cases e : D.l0.res.cells ⟨bo, 0, none⟩ with
    | none => rfl
    | some v =>
      have := g2.cell ⟨bo, 0, none⟩ (by rw [e]; simp)
      rw [hbo.cell _ rfl, e] at this
      cases this
  have hbo3 : l3.res.cells ⟨bo, 0, none⟩ = some (.slice none 0 0) := by rw [hl3, addc_new]; rfl
  try walk_nrm
  refine o_cons (u_store1 (ad := ⟨bo, 0, none⟩) (.slice (some ⟨O, 0, none⟩) n n) (by omega) hact3 rfl (by rfl) rfl (by rfl) rfl rfl rfl (by rw [hbo3]; simp) ?_)
  obtain ⟨l4, hl4⟩ : ∃ l4, l4 = l3.setc ⟨bo, 0, none⟩ (.slice (some ⟨O, 0, none⟩) n n) := ⟨_, rfl⟩
  rw [← hl4]
  have g4 : Grow D.l0 l4 := by rw [hl4]; exact g3.setc hbo0 _
  have hact4 : l4.md = .act := g4.md.trans hact
  try walk_nrm
  repeat (first
    | (refine c_seq ?_)
    | (refine c_region ?_
       simp only [List.size_toArray, List.length_cons, List.length_nil, Nat.reduceAdd, Nat.zero_add, List.range, List.range.loop])
    | (refine o_nil ?_
       simp only [Thn, Inb, if_true, if_false, reduceIte, Nat.reduceEqDiff])
    | (refine c_skip ?_
       simp only [Thn, Inb, if_true, if_false, reduceIte, Nat.reduceEqDiff])
    | (refine c_cond true (by rfl) (fun _ => ?_) (fun e => by cases e))
    | (refine c_cond false (by rfl) (fun e => by cases e) (fun _ => ?_))
    | (refine c_block ?_)
    | (refine c_label ?_
       simp only [Thn, Inb, if_true, if_false, reduceIte, Nat.reduceEqDiff])
    | (refine c_scope ?_)
    | (refine o_cons (u_read (by omega) hact4 rfl (by rfl) fun w hF K' hK' => ?_)
       go_simp
       refine hK' _ ⟨?_, ?_⟩
       focus
         rw [listed_nil]
         · simp
         · (simp [go_sem]; done)
       clear hK' K' hF w
       try walk_nrm)
    | (refine o_cons (u_unwanted (by omega) rfl (by rfl) ?_)
       try walk_nrm))
  refine o_cons (u_new (by omega) hact4 rfl (by rfl) (.cells #[.int .u64 0, .int .u32 0] 60) (fun r => .pointer (some ⟨r, 0, none⟩)) (fun r => l4.opw r) (fun w => by simp [go_sem]) (fun w => by simp [go_sem]) (new_wg hact4 60) fun u hu => ?_)
  obtain ⟨l5, hl5⟩ : ∃ l5, l5 = l4.opw u := ⟨_, rfl⟩
  rw [← hl5]
  have hact5 : l5.md = .act := by rw [hl5]; exact hact4
  try walk_nrm
  repeat (first
    | (refine o_nil ?_
       simp only [Thn, Inb, if_true, if_false, reduceIte, Nat.reduceEqDiff])
    | (refine c_skip ?_
       simp only [Thn, Inb, if_true, if_false, reduceIte, Nat.reduceEqDiff])
    | (refine c_cond true (by rfl) (fun _ => ?_) (fun e => by cases e))
    | (refine c_cond false (by rfl) (fun e => by cases e) (fun _ => ?_))
    | (refine c_block ?_)
    | (refine c_label ?_
       simp only [Thn, Inb, if_true, if_false, reduceIte, Nat.reduceEqDiff])
    | (refine c_scope ?_)
    | (refine o_cons (u_read (by omega) hact5 rfl (by rfl) fun w hF K' hK' => ?_)
       go_simp
       refine hK' _ ⟨?_, ?_⟩
       focus
         rw [listed_nil]
         · simp
         · (simp [go_sem]; done)
       clear hK' K' hF w
       try walk_nrm)
    | (refine o_cons (u_unwanted (by omega) rfl (by rfl) ?_)
       try walk_nrm))
  -- what the blocks hold
  have cbp1 : l1.res.cells ⟨bp, 0, none⟩ = some (.pointer D.pa) := by rw [hl1, addc_new]; rfl
  have hbpO : bp ≠ O := fun e => by have := hO.cell ⟨bp, 0, none⟩ e; rw [cbp1] at this; cases this
  have cbp2 : l2.res.cells ⟨bp, 0, none⟩ = some (.pointer D.pa) := by rw [hl2, addc_old hbpO]; exact cbp1
  have cO2 : ∀ j, j < n → l2.res.cells ⟨O, j, none⟩ = some (.int .i64 0) := fun j hj => by rw [hl2, addc_new]; simp [hj]
  have hbpbo : bp ≠ bo := fun e => by have := hbo.cell ⟨bp, 0, none⟩ e; rw [cbp2] at this; cases this
  have hObo : O ≠ bo := fun e => by have := hbo.cell ⟨O, 0, none⟩ e; rw [cO2 0 (by omega)] at this; cases this
  have cbp4 : l4.res.cells ⟨bp, 0, none⟩ = some (.pointer D.pa) := by
    rw [hl4]; show (if _ = _ then _ else _) = _
    rw [if_neg (by simp [hbpbo]), hl3, addc_old hbpbo]; exact cbp2
  have cO4 : ∀ j, j < n → l4.res.cells ⟨O, j, none⟩ = some (.int .i64 0) := fun j hj => by
    rw [hl4]; show (if _ = _ then _ else _) = _
    rw [if_neg (by simp [hObo]), hl3, addc_old hObo]; exact cO2 j hj
  have cbo4 : l4.res.cells ⟨bo, 0, none⟩ = some (.slice (some ⟨O, 0, none⟩) n n) := by rw [hl4]; show (if _ = _ then _ else _) = _; rw [if_pos rfl]
  have hO0 : ∀ k, D.l0.res.cells ⟨O, k, none⟩ = none := fun k => by
    cases e : D.l0.res.cells ⟨O, k, none⟩ with
    | none => rfl
    | some v =>
      have := g1.cell ⟨O, k, none⟩ (by rw [e]; simp)
      rw [hO.cell _ rfl, e] at this
      cases this
  have hbp0 : D.l0.res.cells ⟨bp, 0, none⟩ = none := hbp.cell _ rfl
  have hu0 : D.l0.ws u = none := by rw [← g4.ws]; exact hu.ws
  have huk0 : D.l0.wk u = 0 := by rw [← g4.wk]; exact hu.wk
  -- the two variables are read only from now on
  obtain ⟨C', hC'⟩ : ∃ C' : Addr → Option Value, C' = fun a => if a = ⟨bp, 0, none⟩ ∨ a = ⟨bo, 0, none⟩ then none else l5.res.cells a := ⟨_, rfl⟩
  obtain ⟨R', hR'⟩ : ∃ R' : Addr → Value → Prop, R' = fun a v => l5.ro a v ∨ (a = ⟨bp, 0, none⟩ ∧ v = .pointer D.pa) ∨ (a = ⟨bo, 0, none⟩ ∧ v = .slice (some ⟨O, 0, none⟩) n n) := ⟨_, rfl⟩
  obtain ⟨l6, hl6⟩ : ∃ l6 : Lo, l6 = { l5 with res := ⟨C', l5.res.tk⟩, ro := R' } := ⟨_, rfl⟩
  have hturn : E.Turn l5 l6 := by
    rw [hl6]
    refine turn_cells hact5 C' R' (fun a v e => ?_) (fun a v e => ?_)
    · rw [hC'] at e
      simp only at e
      split at e
      · cases e
      · exact e
    · rw [hR'] at e
      rcases e with e | ⟨rfl, rfl⟩ | ⟨rfl, rfl⟩
      · exact .inl e
      · exact .inr ⟨by rw [hC']; simp, by rw [hl5]; exact cbp4⟩
      · exact .inr ⟨by rw [hC']; simp, by rw [hl5]; exact cbo4⟩
  refine c_turn hturn (by rw [hl6]; exact quit_act hact5) ?_
  have hact6 : l6.md = .act := by rw [hl6]; exact hact5
  obtain ⟨D', hD'⟩ : ∃ D' : DoPar, D' = { D with O := O, u := u, bp := bp, bo := bo } := ⟨_, rfl⟩
  have P' : DoPre D' (E.i = 0) := by rw [hD']; exact P.put O u bp bo
  have c6 : ∀ a, D.l0.res.cells a ≠ none → l6.res.cells a = D.l0.res.cells a := fun a ha => by
    have e1 : a ≠ ⟨bp, 0, none⟩ := fun e => ha (e ▸ hbp0)
    have e2 : a ≠ ⟨bo, 0, none⟩ := fun e => ha (e ▸ hbo0)
    rw [hl6]
    show C' a = _
    rw [hC']
    simp only [e1, e2, or_self, if_false]
    rw [hl5]
    exact g4.cell a ha
  have h0 : DoAt D' (E.i = 0) 0 l6 [] 0 [] (fun _ => 0) := by
    rw [hD', hl6, hl5]
    exact {
      ext := ⟨g4.md.trans hact, g4.df.trans P.df, fun a v e => by rw [hR']; exact .inl (by rw [hl5]; exact g4.ro a v e), g4.pl, g4.gl, fun p => by show _ ≤ l4.pk p; rw [g4.pk]; exact Nat.le_refl _, fun c e => by show l4.cl c; rw [g4.cl]; exact e⟩
      roP := by rw [hR']; exact .inr (.inl ⟨rfl, rfl⟩)
      roO := by rw [hR']; exact .inr (.inr ⟨rfl, by rw [hDn]⟩)
      wsu := by simp [Lo.opw]
      hile := Nat.le_refl _
      wsx := fun x hx => by show (if x = u then _ else _) = _; rw [if_neg hx, g4.ws]
      wk := g4.wk
      wg := g4.wg
      ob := g4.ob
      js := rfl
      fkl := fun j hj => by cases hj
      nd := List.nodup_nil
      todo := fun j _ hj => ⟨fun a ha => by have := c6 a (P.own j hj a ha); rw [hl6, hl5] at this; exact this, by
        show C' _ ≠ none
        rw [hC']
        simp only [Addr.mk.injEq, hObo, hbpO.symm, false_and, or_self, if_false]
        rw [hl5]
        show l4.res.cells _ ≠ none
        rw [cO4 j (by rw [← hDn]; exact hj)]
        simp⟩
      done := fun j hj => by omega
      rest := fun a _ ha => by have := c6 a ha; rw [hl6, hl5] at this; exact this
      tk := fun k _ => by show l4.res.tk k + _ = _; rw [g4.tk]; rfl
      gm := fun c => by show l4.res.tk _ = _; rw [g4.tk]
      gk := fun c _ => by show l4.gk c = _; rw [g4.gk]
      sk := fun q _ _ => by show l4.sk q = _; rw [g4.sk]
      gate := fun c hc => by
        obtain ⟨_, _, k1, _, _, _, k2, _⟩ := P.gate c hc
        exact ⟨by show l4.gk c = _; rw [g4.gk]; exact k2, Nat.zero_le _, by show l4.sk _ ≤ _; rw [g4.sk, k1]; exact Nat.le_refl _, fun _ => rfl, Nat.zero_le _⟩
      pk1 := fun _ _ _ _ ⟨j, hj, _⟩ => by omega }
  have hruns : ∀ j, j < n → (D'.ts j).v = .nilFunc ∨ ((∃ f first capv, (D'.ts j).v = .func f first capv) ∧ RunOk D'.l0 D'.pv nr D'.gc (D'.ts j)) := by rw [hD']; exact hrun
  have hfin : ∀ l', (∃ xs, DoPost D' (E.i = 0) xs l') → ∃ O' u bp bo xs, Value.slice (some ⟨O, 0, none⟩) n n = .slice (some ⟨O', 0, none⟩) n n ∧ (∀ k, D.l0.res.cells ⟨O', k, none⟩ = none) ∧ DoPost { D with O := O', u := u, bp := bp, bo := bo } (E.i = 0) xs l' := fun l' ⟨xs, h⟩ => ⟨O, u, bp, bo, xs, rfl, hO0, by rw [hD'] at h; exact h⟩
  have hDn' : D'.n = n := by rw [hD']; exact hDn
  have hDO : D'.O = O := by rw [hD']
  have hDu : D'.u = u := by rw [hD']
  have hDp : D'.bp = bp := by rw [hD']
  have hDo : D'.bo = bo := by rw [hD']
  have hDl : D'.l0 = D.l0 := by rw [hD']
  have hDA : D'.A = D.A := by rw [hD']
  have hDpa : D'.pa = D.pa := by rw [hD']; rfl
  have hDpv : D'.pv = .pointer D'.pa := rfl
  clear hC' hR' hl6 hl5 hl4 hl3 hl2 hl1 g1 g2 g3 g4 hbp hO hbo hu cbp1 cbp2 cbp4 cO2 cO4 cbo4 c6 hbo3 hrun
  obtain ⟨QQ, hQQ⟩ : ∃ QQ : Value → Lo → Prop, QQ = fun v l' => ∃ O u bp bo xs, v = .slice (some ⟨O, 0, none⟩) n n ∧ (∀ k, D.l0.res.cells ⟨O, k, none⟩ = none) ∧ DoPost { D with O := O, u := u, bp := bp, bo := bo } (E.i = 0) xs l' := ⟨_, rfl⟩
  have hfin' : ∀ l', (∃ xs, DoPost D' (E.i = 0) xs l') → QQ (.slice (some ⟨O, 0, none⟩) n n) l' := by rw [hQQ]; exact hfin
  rw [← hQQ]
  clear hQQ hfin hD'
  repeat (first
    | (refine c_seq ?_)
    | (refine c_region ?_
       simp only [List.size_toArray, List.length_cons, List.length_nil, Nat.reduceAdd, Nat.zero_add, List.range, List.range.loop])
    | (refine o_nil ?_
       simp only [Thn, Inb, if_true, if_false, reduceIte, Nat.reduceEqDiff])
    | (refine c_skip ?_
       simp only [Thn, Inb, if_true, if_false, reduceIte, Nat.reduceEqDiff])
    | (refine c_cond true (by rfl) (fun _ => ?_) (fun e => by cases e))
    | (refine c_cond false (by rfl) (fun e => by cases e) (fun _ => ?_))
    | (refine c_block ?_)
    | (refine c_label ?_
       simp only [Thn, Inb, if_true, if_false, reduceIte, Nat.reduceEqDiff])
    | (refine c_scope ?_)
    | (refine o_cons (u_read (by omega) hact6 rfl (by rfl) fun w hF K' hK' => ?_)
       go_simp
       refine hK' _ ⟨?_, ?_⟩
       focus
         rw [listed_nil]
         · simp
         · (simp [go_sem]; done)
       clear hK' K' hF w
       try walk_nrm)
    | (refine o_cons (u_unwanted (by omega) rfl (by rfl) ?_)
       try walk_nrm))
  refine c_loop (fun a' l' => ∃ i, i ≤ n ∧ Fr11 (.slice (some D.A) n c) (.pointer (some ⟨bp, 0, none⟩)) (.pointer (some ⟨bo, 0, none⟩)) (.pointer (some ⟨u, 0, none⟩)) (.int .i64 (n : Nat)) (.int .i64 (i : Nat)) [] a' ∧ ∃ ws hi fk xs, DoAt D' (E.i = 0) i l' ws hi fk xs) (fun a' _ => mu11 n a') ⟨0, Nat.zero_le _, ?_, [], 0, [], _, h0⟩ ?_ ?_
  focus
    exact ⟨_, _, _, _, _, _, _, _, _, _, _, _, _, _, _, _, _, _, _, _, _, _, _, _, _, _, _, _, _, _, _, _, _, _, _, _, rfl⟩
  focus
    show n - 0 ≤ _
    omega
  clear h0 hact6
  intro a' l' hI
  obtain ⟨i, hin, hfr, ws, hi, fk, xs, hat⟩ := hI
  obtain ⟨x0, x3, x4, x7, x8, x9, x10, x11, x12, x13, x14, x18, x19, x20, x21, x22, x23, x24, x25, x26, x27, x28, x29, x30, x31, x32, x33, x34, x35, x36, x37, x38, x39, x40, x41, x42, rfl⟩ := hfr
  rw [show mu11 n _ = n - i from rfl]
  have hact' := hat.ext.md
  by_cases hlt : i < n
  · have hd : decide ((i : Int) < (n : Int)) = true := by simp; omega
    repeat (first
      | (refine c_seq ?_)
      | (refine c_region ?_
         simp only [List.size_toArray, List.length_cons, List.length_nil, Nat.reduceAdd, Nat.zero_add, List.range, List.range.loop])
      | (refine o_nil ?_
         simp only [Thn, Inb, if_true, if_false, reduceIte, Nat.reduceEqDiff])
      | (refine c_skip ?_
         simp only [Thn, Inb, if_true, if_false, reduceIte, Nat.reduceEqDiff])
      | (refine c_cond true (by rfl) (fun _ => ?_) (fun e => by cases e))
      | (refine c_cond false (by rfl) (fun e => by cases e) (fun _ => ?_))
      | (refine c_block ?_)
      | (refine c_label ?_
         simp only [Thn, Inb, if_true, if_false, reduceIte, Nat.reduceEqDiff])
      | (refine c_scope ?_)
      | (refine o_cons (u_read (by omega) hact' rfl (by rfl) fun w hF K' hK' => ?_)
         go_simp
         refine hK' _ ⟨?_, ?_⟩
         focus
           rw [listed_nil]
           · simp
           · (simp [go_sem]; done)
         clear hK' K' hF w
         try walk_nrm)
      | (refine o_cons (u_unwanted (by omega) rfl (by rfl) ?_)
         try walk_nrm))
    -- the task and its number, each in a variable of its own
    obtain ⟨t, ht⟩ : ∃ t, t = D'.ts i := ⟨_, rfl⟩
    have hlt' : i < D'.n := by omega
    have hcA : l'.res.cells (D.A.add i) = some t.v := by
      have h1 := P'.cellA i hlt'
      rw [hDA, hDl] at h1
      rw [hat.rest _ h1.2 (by rw [hDl, h1.1]; simp), hDl, h1.1, ht]
    have htH : Hid (t = D'.ts i) := ht
    have hvo : t.v = .nilFunc ∨ ∃ f first capv, t.v = .func f first capv := by
      rw [ht]
      rcases hruns i hlt with e | ⟨⟨f, first, capv, e⟩, _⟩
      · exact .inl e
      · exact .inr ⟨_, _, _, e⟩
    have hrunt : t.v ≠ .nilFunc → RunOk D'.l0 D'.pv nr D'.gc t := fun hne => by
      rw [ht] at hne ⊢
      exact ((hruns i hlt).resolve_left hne).2
    clear ht
    refine o_cons (u_index (A := D.A) (n := n) (c := c) (k := .i64) (m := i) (by omega) rfl (by rfl) rfl Try.underlying33 (by rfl) rfl rfl hlt ?_)
    try walk_nrm
    refine o_cons (u_load t.v (by omega) hact' rfl (by rfl) rfl Try.underlying34 rfl rfl (.inl hcA) ?_)
    try walk_nrm
    refine o_cons (u_new (by omega) hact' rfl (by rfl) (.cells #[.int .i64 0] 3) (fun r => .pointer (some ⟨r, 0, none⟩)) (fun r => l'.addc r #[.int .i64 0]) (fun w => by simp [go_sem]) (fun w => by simp [go_sem]) (new_cells hact' _ _) fun bi hbi => ?_)
    obtain ⟨l1, hl1⟩ : ∃ l1, l1 = l'.addc bi #[.int .i64 0] := ⟨_, rfl⟩
    rw [← hl1]
    have g1 : Grow l' l1 := by rw [hl1]; exact (Grow.refl _).addc hbi _
    have hact1 : l1.md = .act := g1.md.trans hact'
    try walk_nrm
    refine o_cons (u_new (by omega) hact1 rfl (by rfl) (.cells #[.nilFunc] 34) (fun r => .pointer (some ⟨r, 0, none⟩)) (fun r => l1.addc r #[.nilFunc]) (fun w => by simp [go_sem]) (fun w => by simp [go_sem]) (new_cells hact1 _ _) fun bt hbt => ?_)
    obtain ⟨l2, hl2⟩ : ∃ l2, l2 = l1.addc bt #[.nilFunc] := ⟨_, rfl⟩
    rw [← hl2]
    have g2 : Grow l' l2 := by rw [hl2]; exact g1.addc hbt _
    have hact2 : l2.md = .act := g2.md.trans hact'
    have cbi1 : l1.res.cells ⟨bi, 0, none⟩ = some (.int .i64 0) := by rw [hl1, addc_new]; rfl
    have hbibt : bi ≠ bt := fun e => by have := hbt.cell ⟨bi, 0, none⟩ e; rw [cbi1] at this; cases this
    have cbi2 : l2.res.cells ⟨bi, 0, none⟩ = some (.int .i64 0) := by rw [hl2, addc_old hbibt]; exact cbi1
    have cbt2 : l2.res.cells ⟨bt, 0, none⟩ = some .nilFunc := by rw [hl2, addc_new]; rfl
    have hbi0 : l'.res.cells ⟨bi, 0, none⟩ = none := hbi.cell _ rfl
    have hbt0 : l'.res.cells ⟨bt, 0, none⟩ = none := by
      cases e : l'.res.cells ⟨bt, 0, none⟩ with
      | none => rfl
      | some v =>
        have := g1.cell ⟨bt, 0, none⟩ (by rw [e]; simp)
        rw [hbt.cell _ rfl, e] at this
        cases this
    try walk_nrm
    refine o_cons (u_store1 (ad := ⟨bi, 0, none⟩) (.int .i64 (i : Nat)) (by omega) hact2 rfl (by rfl) rfl (by rfl) rfl rfl rfl (by rw [cbi2]; simp) ?_)
    obtain ⟨l3, hl3⟩ : ∃ l3, l3 = l2.setc ⟨bi, 0, none⟩ (.int .i64 (i : Nat)) := ⟨_, rfl⟩
    rw [← hl3]
    have g3 : Grow l' l3 := by rw [hl3]; exact g2.setc hbi0 _
    have hact3 : l3.md = .act := g3.md.trans hact'
    have cbt3 : l3.res.cells ⟨bt, 0, none⟩ = some .nilFunc := by rw [hl3]; show (if _ = _ then _ else _) = _; rw [if_neg (by simp [hbibt.symm])]; exact cbt2
    have cbi3 : l3.res.cells ⟨bi, 0, none⟩ = some (.int .i64 (i : Nat)) := by rw [hl3]; show (if _ = _ then _ else _) = _; rw [if_pos rfl]
    try walk_nrm
    refine o_cons (u_store1 (ad := ⟨bt, 0, none⟩) t.v (by omega) hact3 rfl (by rfl) rfl (by rfl) rfl rfl (by rcases hvo with e | ⟨f, x, y, e⟩ <;> rw [e] <;> rfl) (by rw [cbt3]; simp) ?_)
    obtain ⟨l4, hl4⟩ : ∃ l4, l4 = l3.setc ⟨bt, 0, none⟩ t.v := ⟨_, rfl⟩
    rw [← hl4]
    have g4 : Grow l' l4 := by rw [hl4]; exact g3.setc hbt0 _
    have hact4 : l4.md = .act := g4.md.trans hact'
    have cbt4 : l4.res.cells ⟨bt, 0, none⟩ = some t.v := by rw [hl4]; show (if _ = _ then _ else _) = _; rw [if_pos rfl]
    have cbi4 : l4.res.cells ⟨bi, 0, none⟩ = some (.int .i64 (i : Nat)) := by rw [hl4]; show (if _ = _ then _ else _) = _; rw [if_neg (by simp [hbibt])]; exact cbi3
    have hat4 := hat.grow P' (by omega) g4
    clear hl4 hl3 hl2 hl1 g1 g2 g3 cbi1 cbi2 cbt2 cbt3 cbi3 hact1 hact2 hact3 hbt hbi
    try walk_nrm
    repeat (first
      | (refine c_seq ?_)
      | (refine c_region ?_
         simp only [List.size_toArray, List.length_cons, List.length_nil, Nat.reduceAdd, Nat.zero_add, List.range, List.range.loop])
      | (refine o_nil ?_
         simp only [Thn, Inb, if_true, if_false, reduceIte, Nat.reduceEqDiff])
      | (refine c_skip ?_
         simp only [Thn, Inb, if_true, if_false, reduceIte, Nat.reduceEqDiff])
      | (refine c_cond true (by rfl) (fun _ => ?_) (fun e => by cases e))
      | (refine c_cond false (by rfl) (fun e => by cases e) (fun _ => ?_))
      | (refine c_block ?_)
      | (refine c_label ?_
         simp only [Thn, Inb, if_true, if_false, reduceIte, Nat.reduceEqDiff])
      | (refine c_scope ?_)
      | (refine o_cons (u_read (by omega) hact4 rfl (by rfl) fun w hF K' hK' => ?_)
         go_simp
         refine hK' _ ⟨?_, ?_⟩
         focus
           rw [listed_nil]
           · simp
           · (simp [go_sem]; done)
         clear hK' K' hF w
         try walk_nrm)
      | (refine o_cons (u_unwanted (by omega) rfl (by rfl) ?_)
         try walk_nrm))
    have hO' : ∀ j k, j < D'.n → ¬ (D'.ts j).foot ⟨D'.O, k, none⟩ := fun j k hj hf => by
      have := P'.own j hj _ hf
      rw [hDl, hDO, hO0] at this
      exact this rfl
    have hO0' : ∀ k, D'.l0.res.cells ⟨D'.O, k, none⟩ = none := fun k => by rw [hDl, hDO]; exact hO0 k
    have hro4 : l4.ro ⟨bo, 0, none⟩ (.slice (some ⟨O, 0, none⟩) n n) := by have := hat4.roO; rw [hDo, hDO, hDn'] at this; exact this
    have hrp4 : l4.ro ⟨bp, 0, none⟩ (.pointer D'.pa) := by have := hat4.roP; rw [hDp] at this; exact this
    have hown4 : l4.res.cells ⟨O, i, none⟩ ≠ none := by have := (hat4.todo i (Nat.le_refl _) hlt').2; rw [hDO] at this; exact this
    have hw1 : IntKind.i64.wrap ((i : Int) + 1) = (i : Int) + 1 := by rw [IntKind.wrap_i64]; omega
    refine o_cons (u_load t.v (by omega) hact4 rfl (by rfl) rfl Try.underlying34 rfl rfl (.inl cbt4) ?_)
    try walk_nrm
    refine o_cons (u_isnil (by omega) rfl (by rfl) rfl rfl (fun hnil => ?_) (fun f first capv hfun => ?_) hvo)
    focus
      -- a nil task
      try walk_nrm
      repeat (first
        | (refine c_seq ?_)
        | (refine c_region ?_
           simp only [List.size_toArray, List.length_cons, List.length_nil, Nat.reduceAdd, Nat.zero_add, List.range, List.range.loop])
        | (refine o_nil ?_
           simp only [Thn, Inb, if_true, if_false, reduceIte, Nat.reduceEqDiff])
        | (refine c_skip ?_
           simp only [Thn, Inb, if_true, if_false, reduceIte, Nat.reduceEqDiff])
        | (refine c_cond true (by rfl) (fun _ => ?_) (fun e => by cases e))
        | (refine c_cond false (by rfl) (fun e => by cases e) (fun _ => ?_))
        | (refine c_block ?_)
        | (refine c_label ?_
           simp only [Thn, Inb, if_true, if_false, reduceIte, Nat.reduceEqDiff])
        | (refine c_scope ?_)
        | (refine o_cons (u_read (by omega) hact4 rfl (by rfl) fun w hF K' hK' => ?_)
           go_simp
           refine hK' _ ⟨?_, ?_⟩
           focus
             rw [listed_nil]
             · simp
             · (simp [go_sem]; done)
           clear hK' K' hF w
           try walk_nrm)
        | (refine o_cons (u_unwanted (by omega) rfl (by rfl) ?_)
           try walk_nrm))
      refine o_cons (u_load (.slice (some ⟨O, 0, none⟩) n n) (by omega) hact4 rfl (by rfl) rfl Try.underlying35 rfl rfl (.inr hro4) ?_)
      try walk_nrm
      refine o_cons (u_load (.int .i64 (i : Nat)) (by omega) hact4 rfl (by rfl) rfl Try.underlying3 rfl rfl (.inl cbi4) ?_)
      try walk_nrm
      refine o_cons (u_index (A := ⟨O, 0, none⟩) (n := n) (c := n) (k := .i64) (m := i) (by omega) rfl (by rfl) rfl Try.underlying35 (by rfl) rfl rfl hlt ?_)
      try walk_nrm
      rw [Addr.add_lit, Nat.zero_add]
      refine o_cons (u_store1 (ad := ⟨O, i, none⟩) (.int .i64 1) (by omega) hact4 rfl (by rfl) rfl (by rfl) rfl rfl rfl hown4 ?_)
      have hnext := hat4.told (x := 1) P' hlt' hO' hO0' ⟨Ext.refl hact4 hat4.ext.df, fun _ _ _ => rfl, fun k => by rw [((P'.nil i hlt' (by rw [← htH.out]; exact hnil)).2 k).1, ((P'.nil i hlt' (by rw [← htH.out]; exact hnil)).2 k).2], rfl, rfl, rfl, rfl, rfl, fun _ _ => rfl⟩ (fun _ => rfl) (fun e => absurd (by rw [← htH.out]; exact hnil) e) (fun c hc => absurd (by rw [← htH.out]; exact hnil) ((P'.gate c hc).2.2.2.2.1 i hlt')) (fun _ _ _ _ e => absurd (by rw [← htH.out]; exact hnil) e) (fun _ _ => rfl)
      rw [hDO] at hnext
      obtain ⟨l5, hl5⟩ : ∃ l5, l5 = l4.setc ⟨O, i, none⟩ (.int .i64 1) := ⟨_, rfl⟩
      rw [← hl5] at hnext
      rw [← hl5]
      have hact5 := hnext.ext.md
      try walk_nrm
      repeat (first
        | (refine c_seq ?_)
        | (refine c_region ?_
           simp only [List.size_toArray, List.length_cons, List.length_nil, Nat.reduceAdd, Nat.zero_add, List.range, List.range.loop])
        | (refine o_nil ?_
           simp only [Thn, Inb, if_true, if_false, reduceIte, Nat.reduceEqDiff])
        | (refine c_skip ?_
           simp only [Thn, Inb, if_true, if_false, reduceIte, Nat.reduceEqDiff])
        | (refine c_cond true (by rfl) (fun _ => ?_) (fun e => by cases e))
        | (refine c_cond false (by rfl) (fun e => by cases e) (fun _ => ?_))
        | (refine c_block ?_)
        | (refine c_label ?_
           simp only [Thn, Inb, if_true, if_false, reduceIte, Nat.reduceEqDiff])
        | (refine c_scope ?_)
        | (refine o_cons (u_read (by omega) hact5 rfl (by rfl) fun w hF K' hK' => ?_)
           go_simp
           refine hK' _ ⟨?_, ?_⟩
           focus
             rw [listed_nil]
             · simp
             · (simp [go_sem]; done)
           clear hK' K' hF w
           try walk_nrm)
        | (refine o_cons (u_unwanted (by omega) rfl (by rfl) ?_)
           try walk_nrm))
      refine c_exit ?_
      simp only [Thn, Inb, if_true, reduceIte]
      repeat (first
        | (refine c_seq ?_)
        | (refine c_region ?_
           simp only [List.size_toArray, List.length_cons, List.length_nil, Nat.reduceAdd, Nat.zero_add, List.range, List.range.loop])
        | (refine o_nil ?_
           simp only [Thn, Inb, if_true, if_false, reduceIte, Nat.reduceEqDiff])
        | (refine c_skip ?_
           simp only [Thn, Inb, if_true, if_false, reduceIte, Nat.reduceEqDiff])
        | (refine c_cond true (by rfl) (fun _ => ?_) (fun e => by cases e))
        | (refine c_cond false (by rfl) (fun e => by cases e) (fun _ => ?_))
        | (refine c_block ?_)
        | (refine c_label ?_
           simp only [Thn, Inb, if_true, if_false, reduceIte, Nat.reduceEqDiff])
        | (refine c_scope ?_)
        | (refine o_cons (u_read (by omega) hact5 rfl (by rfl) fun w hF K' hK' => ?_)
           go_simp
           refine hK' _ ⟨?_, ?_⟩
           focus
             rw [listed_nil]
             · simp
             · (simp [go_sem]; done)
           clear hK' K' hF w
           try walk_nrm)
        | (refine o_cons (u_unwanted (by omega) rfl (by rfl) ?_)
           try walk_nrm))
      refine ⟨⟨i + 1, by omega, ?_, _, _, _, _, hnext⟩, ?_⟩
      · exact ⟨_, _, _, _, _, _, _, _, _, _, _, _, _, _, _, _, _, _, _, _, _, _, _, _, _, _, _, _, _, _, _, _, _, _, _, _, rfl⟩
      · show n - (i + 1) < n - i
        omega
    focus
      have hfun : t.v = .func f first capv := hfun
      have hne : t.v ≠ .nilFunc := by rw [hfun]; simp
      have hne' : (D'.ts i).v ≠ .nilFunc := by rw [← htH.out]; exact hne
      have hsl4 : ∀ p, l4.res.tk (.alive p) ≤ l4.res.tk (.slot p) := fun p => by
        have t1 := hat4.tk (.alive p) (by simp)
        have t2 := hat4.tk (.slot p) (by simp)
        have z1 : sumTo i (fun j => (D'.ts j).T (.alive p)) = 0 := sumTo_zero fun j hj => ((P'.ok j (by omega)).alive p).1
        have z2 : sumTo i (fun j => (D'.ts j).T (.slot p)) = 0 := sumTo_zero fun j hj => ((P'.ok j (by omega)).slot p).1
        have z3 : sumTo i (fun j => if j ∈ fk then 0 else (D'.ts j).T' (.alive p)) = 0 := sumTo_zero fun j hj => by have := ((P'.ok j (by omega)).alive p).2; simp [this]
        have z4 : sumTo i (fun j => if j ∈ fk then 0 else (D'.ts j).T' (.slot p)) = 0 := sumTo_zero fun j hj => by have := ((P'.ok j (by omega)).slot p).2; simp [this]
        have := P'.slots p
        omega
      try walk_nrm
      repeat (first
        | (refine c_seq ?_)
        | (refine c_region ?_
           simp only [List.size_toArray, List.length_cons, List.length_nil, Nat.reduceAdd, Nat.zero_add, List.range, List.range.loop])
        | (refine o_nil ?_
           simp only [Thn, Inb, if_true, if_false, reduceIte, Nat.reduceEqDiff])
        | (refine c_skip ?_
           simp only [Thn, Inb, if_true, if_false, reduceIte, Nat.reduceEqDiff])
        | (refine c_cond true (by rfl) (fun _ => ?_) (fun e => by cases e))
        | (refine c_cond false (by rfl) (fun e => by cases e) (fun _ => ?_))
        | (refine c_block ?_)
        | (refine c_label ?_
           simp only [Thn, Inb, if_true, if_false, reduceIte, Nat.reduceEqDiff])
        | (refine c_scope ?_)
        | (refine o_cons (u_read (by omega) hact4 rfl (by rfl) fun w hF K' hK' => ?_)
           go_simp
           refine hK' _ ⟨?_, ?_⟩
           focus
             rw [listed_nil]
             · simp
             · (simp [go_sem]; done)
           clear hK' K' hF w
           try walk_nrm)
        | (refine o_cons (u_unwanted (by omega) rfl (by rfl) ?_)
           try walk_nrm))
      refine o_cons (u_load (.pointer D'.pa) (by omega) hact4 rfl (by rfl) rfl Try.underlying29 rfl rfl (.inr hrp4) ?_)
      try walk_nrm
      refine o_cons (u_callx (n := n22) #[.pointer D'.pa] (by omega) rfl (by rfl) rfl (by walk_nrm) ?_)
      refine (h22 E D' i l4 ws hi fk xs P' hat4 hlt' hsl4).mono fun v l5 hp => ?_
      rcases hp with ⟨rfl, rfl, f1, f2⟩ | ⟨rfl, hpool, q, hl5, q1, q2, q3⟩
      focus
        -- run here
        try walk_nrm
        repeat (first
          | (refine c_seq ?_)
          | (refine c_region ?_
             simp only [List.size_toArray, List.length_cons, List.length_nil, Nat.reduceAdd, Nat.zero_add, List.range, List.range.loop])
          | (refine o_nil ?_
             simp only [Thn, Inb, if_true, if_false, reduceIte, Nat.reduceEqDiff])
          | (refine c_skip ?_
             simp only [Thn, Inb, if_true, if_false, reduceIte, Nat.reduceEqDiff])
          | (refine c_cond true (by rfl) (fun _ => ?_) (fun e => by cases e))
          | (refine c_cond false (by rfl) (fun e => by cases e) (fun _ => ?_))
          | (refine c_block ?_)
          | (refine c_label ?_
             simp only [Thn, Inb, if_true, if_false, reduceIte, Nat.reduceEqDiff])
          | (refine c_scope ?_)
          | (refine o_cons (u_read (by omega) hact4 rfl (by rfl) fun w hF K' hK' => ?_)
             go_simp
             refine hK' _ ⟨?_, ?_⟩
             focus
               rw [listed_nil]
               · simp
               · (simp [go_sem]; done)
             clear hK' K' hF w
             try walk_nrm)
          | (refine o_cons (u_unwanted (by omega) rfl (by rfl) ?_)
             try walk_nrm))
        have hnfi : ¬ t.foot ⟨bi, 0, none⟩ := fun hf => by
          rw [htH.out] at hf
          have h1 := (hat.todo i (Nat.le_refl _) hlt').1 _ hf
          rw [hbi0] at h1
          exact P'.own i hlt' _ hf h1.symm
        have hnft : ¬ t.foot ⟨bt, 0, none⟩ := fun hf => by
          rw [htH.out] at hf
          have h1 := (hat.todo i (Nat.le_refl _) hlt').1 _ hf
          rw [hbt0] at h1
          exact P'.own i hlt' _ hf h1.symm
        have hnfO : ¬ t.foot ⟨O, i, none⟩ := fun hf => by rw [htH.out] at hf; rw [← hDO] at hf; exact hO' i i hlt' hf
        refine c_draw hact4 (Inv11 (.slice (some D.A) n c) (.pointer (some ⟨bp, 0, none⟩)) (.pointer (some ⟨bo, 0, none⟩)) (.pointer (some ⟨u, 0, none⟩)) (.pointer (some ⟨bi, 0, none⟩)) (.pointer (some ⟨bt, 0, none⟩)) (.int .i64 (n : Nat)) (.int .i64 (i : Nat)) D'.pa O n i D'.gc t l5) (back_of (by rfl)) ⟨_, _, _, _, _, _, ⟨_, _, _, _, _, _, _, _, _, _, _, _, _, _, _, _, _, _, _, _, _, _, _, _, _, _, _, _, rfl⟩, by simp, by simp, by simp, by simp, by simp, .inl ⟨rfl, rfl, rfl⟩⟩ ?_ ?_
        · intro S a lx y o hI ho hSi hdep
          obtain ⟨y32, y33, y34, y35, y36, y37, hfr, k0, k1, k2, k3, k5, kst⟩ := hI
          obtain ⟨x0, x3, x4, x9, x10, x11, x12, x13, x14, x18, x19, x20, x21, x22, x23, x24, x25, x26, x27, x28, x29, x30, x31, x38, x39, x40, x41, x42, rfl⟩ := hfr
          have hactl : lx.md = .act := by
            rcases kst with ⟨_, _, rfl⟩ | ⟨_, x, l2, _, ⟨_, hk, _⟩, ⟨_, rfl⟩ | ⟨_, rfl⟩⟩
            · exact hact4
            · exact hk.ext.md
            · exact hk.ext.md
          have hrol : ∀ a v, l5.ro a v → lx.ro a v := by
            rcases kst with ⟨_, _, rfl⟩ | ⟨_, x, l2, _, ⟨_, hk, _⟩, ⟨_, rfl⟩ | ⟨_, rfl⟩⟩
            · exact fun _ _ h => h
            · exact hk.ext.ro
            · exact hk.ext.ro
          have hcel : ∀ a v, ¬ t.foot a → a ≠ ⟨O, i, none⟩ → l5.res.cells a = some v → lx.res.cells a = some v := by
            rcases kst with ⟨_, _, rfl⟩ | ⟨_, x, l2, _, ⟨_, hk, _⟩, ⟨_, rfl⟩ | ⟨_, rfl⟩⟩
            · exact fun _ _ _ _ h => h
            · exact fun a v h1 _ h3 => by rw [hk.cell a h1 (by rw [h3]; simp)]; exact h3
            · exact fun a v h1 h2 h3 => by show (if a = _ then _ else _) = _; rw [if_neg h2, hk.cell a h1 (by rw [h3]; simp)]; exact h3
          have cbiO : (⟨bi, 0, none⟩ : Addr) ≠ ⟨O, i, none⟩ := fun e => by have := (hat.todo i (Nat.le_refl _) hlt').2; rw [hDO, ← e, hbi0] at this; exact this rfl
          have cbtO : (⟨bt, 0, none⟩ : Addr) ≠ ⟨O, i, none⟩ := fun e => by have := (hat.todo i (Nat.le_refl _) hlt').2; rw [hDO, ← e, hbt0] at this; exact this rfl
          rcases y with _ | _ | _ | _ | _ | _ | _ | y
          · -- 0
            simp only [List.getElem?_toArray, List.getElem?_cons_zero, List.getElem?_cons_succ, Option.some.injEq] at ho
            subst ho
            refine u_load (.slice (some ⟨O, 0, none⟩) n n) (by omega) hactl rfl (by rfl) rfl Try.underlying35 rfl rfl (.inr (hrol _ _ hro4)) ?_
            unfold Inv11
            refine ⟨_, _, _, _, _, _, ⟨_, _, _, _, _, _, _, _, _, _, _, _, _, _, _, _, _, _, _, _, _, _, _, _, _, _, _, _, rfl⟩, ?_, ?_, ?_, ?_, ?_, ?_⟩
            all_goals simp only [Nat.reduceEqDiff, reduceIte, if_true, if_false]
            all_goals first | exact fun _ => rfl | exact fun _ => trivial | exact k0 | exact k1 | exact k2 | exact k3 | exact k5 | exact kst
          · -- 1
            simp only [List.getElem?_toArray, List.getElem?_cons_zero, List.getElem?_cons_succ, Option.some.injEq] at ho
            subst ho
            refine u_load (.int .i64 (i : Nat)) (by omega) hactl rfl (by rfl) rfl Try.underlying3 rfl rfl (.inl (hcel _ _ hnfi cbiO cbi4)) ?_
            unfold Inv11
            refine ⟨_, _, _, _, _, _, ⟨_, _, _, _, _, _, _, _, _, _, _, _, _, _, _, _, _, _, _, _, _, _, _, _, _, _, _, _, rfl⟩, ?_, ?_, ?_, ?_, ?_, ?_⟩
            all_goals simp only [Nat.reduceEqDiff, reduceIte, if_true, if_false]
            all_goals first | exact fun _ => rfl | exact fun _ => trivial | exact k0 | exact k1 | exact k2 | exact k3 | exact k5 | exact kst
          · -- 2
            simp only [List.getElem?_toArray, List.getElem?_cons_zero, List.getElem?_cons_succ, Option.some.injEq] at ho
            subst ho
            refine u_load (.pointer D'.pa) (by omega) hactl rfl (by rfl) rfl Try.underlying29 rfl rfl (.inr (hrol _ _ hrp4)) ?_
            unfold Inv11
            refine ⟨_, _, _, _, _, _, ⟨_, _, _, _, _, _, _, _, _, _, _, _, _, _, _, _, _, _, _, _, _, _, _, _, _, _, _, _, rfl⟩, ?_, ?_, ?_, ?_, ?_, ?_⟩
            all_goals simp only [Nat.reduceEqDiff, reduceIte, if_true, if_false]
            all_goals first | exact fun _ => rfl | exact fun _ => trivial | exact k0 | exact k1 | exact k2 | exact k3 | exact k5 | exact kst
          · -- 3
            simp only [List.getElem?_toArray, List.getElem?_cons_zero, List.getElem?_cons_succ, Option.some.injEq] at ho
            subst ho
            refine u_load (t.v) (by omega) hactl rfl (by rfl) rfl Try.underlying34 rfl rfl (.inl (hcel _ _ hnft cbtO cbt4)) ?_
            unfold Inv11
            refine ⟨_, _, _, _, _, _, ⟨_, _, _, _, _, _, _, _, _, _, _, _, _, _, _, _, _, _, _, _, _, _, _, _, _, _, _, _, rfl⟩, ?_, ?_, ?_, ?_, ?_, ?_⟩
            all_goals simp only [Nat.reduceEqDiff, reduceIte, if_true, if_false]
            all_goals first | exact fun _ => rfl | exact fun _ => trivial | exact k0 | exact k1 | exact k2 | exact k3 | exact k5 | exact kst
          · -- 4
            simp only [List.getElem?_toArray, List.getElem?_cons_zero, List.getElem?_cons_succ, Option.some.injEq] at ho
            subst ho
            have s2 : S 2 = true := hdep ⟨2, .data⟩ (by simp) rfl
            have s3 : S 3 = true := hdep ⟨3, .data⟩ (by simp) rfl
            obtain rfl := k2 s2
            obtain rfl := k3 s3
            obtain ⟨hS6, hll⟩ : S 6 = false ∧ lx = l5 := by
              rcases kst with ⟨_, e⟩ | ⟨e, _⟩
              · exact e
              · rw [e] at hSi; cases hSi
            subst hll
            refine u_callx (n := nr) #[.pointer D'.pa, t.v] (by omega) rfl (by rfl) rfl (by walk_nrm) ?_
            refine (hrunt hne E lx hat4.ext (fun a ha => by rw [htH.out] at ha; exact (hat4.todo i (Nat.le_refl _) hlt').1 a ha) (fun k => by rw [htH.out]; exact hat4.has P' hlt' k) (fun c => by rw [htH.out]; exact hat4.ready P' hlt' f1 c) (fun c hc => hat4.tbs P' hlt' hc) hsl4 (fun c => .inr (hat4.gms P' c))).mono fun v l2 hp => ?_
            obtain ⟨x, rfl, hp⟩ := hp
            unfold Inv11
            refine ⟨_, _, _, _, _, _, ⟨_, _, _, _, _, _, _, _, _, _, _, _, _, _, _, _, _, _, _, _, _, _, _, _, _, _, _, _, rfl⟩, ?_, ?_, ?_, ?_, ?_, ?_⟩
            all_goals simp only [Nat.reduceEqDiff, reduceIte, if_true, if_false]
            all_goals first | exact fun _ => rfl | exact fun _ => trivial | exact k0 | exact k1 | exact k5 | skip
            exact .inr ⟨trivial, x, l2, rfl, hp, .inl ⟨hS6, rfl⟩⟩
          · -- 5
            simp only [List.getElem?_toArray, List.getElem?_cons_zero, List.getElem?_cons_succ, Option.some.injEq] at ho
            subst ho
            have s0 : S 0 = true := hdep ⟨0, .data⟩ (by simp) rfl
            have s1 : S 1 = true := hdep ⟨1, .data⟩ (by simp) rfl
            obtain rfl := k0 s0
            obtain rfl := k1 s1
            refine u_index (A := ⟨O, 0, none⟩) (n := n) (c := n) (k := .i64) (m := i) (by omega) rfl (by rfl) rfl Try.underlying35 (by rfl) rfl rfl hlt ?_
            unfold Inv11
            refine ⟨_, _, _, _, _, _, ⟨_, _, _, _, _, _, _, _, _, _, _, _, _, _, _, _, _, _, _, _, _, _, _, _, _, _, _, _, rfl⟩, ?_, ?_, ?_, ?_, ?_, ?_⟩
            all_goals simp only [Nat.reduceEqDiff, reduceIte, if_true, if_false]
            all_goals first | exact fun _ => rfl | exact fun _ => trivial | exact k2 | exact k3 | exact kst | skip
            intro _
            rw [Addr.add_lit, Nat.zero_add]
          · -- 6
            simp only [List.getElem?_toArray, List.getElem?_cons_zero, List.getElem?_cons_succ, Option.some.injEq] at ho
            subst ho
            have s4 : S 4 = true := hdep ⟨4, .data⟩ (by simp) rfl
            have s5 : S 5 = true := hdep ⟨5, .data⟩ (by simp) rfl
            obtain rfl := k5 s5
            obtain ⟨x, l2, rfl, hp, hst⟩ : ∃ x l2, y36 = .int .i64 x ∧ (t.post x l2.res.cells ∧ Kept t.foot t.T t.T' l5 l2 ∧ ∀ c, D'.gc = some c → l2.cl c) ∧ ((S 6 = false ∧ lx = l2) ∨ (S 6 = true ∧ lx = l2.setc ⟨O, i, none⟩ (.int .i64 x))) := by
              rcases kst with ⟨e, _⟩ | ⟨_, h⟩
              · rw [s4] at e; cases e
              · exact h
            have hll : lx = l2 := by
              rcases hst with ⟨_, e⟩ | ⟨e, _⟩
              · exact e
              · rw [e] at hSi; cases hSi
            subst hll
            have hOx : lx.res.cells ⟨O, i, none⟩ ≠ none := by rw [hp.2.1.cell _ hnfO hown4]; exact hown4
            refine u_store1 (ad := ⟨O, i, none⟩) (.int .i64 x) (by omega) hactl rfl (by rfl) rfl (by rfl) rfl rfl rfl hOx ?_
            unfold Inv11
            refine ⟨_, _, _, _, _, _, ⟨_, _, _, _, _, _, _, _, _, _, _, _, _, _, _, _, _, _, _, _, _, _, _, _, _, _, _, _, rfl⟩, ?_, ?_, ?_, ?_, ?_, ?_⟩
            all_goals simp only [Nat.reduceEqDiff, reduceIte, if_true, if_false]
            all_goals first | exact fun _ => rfl | exact fun _ => trivial | exact k0 | exact k1 | exact k2 | exact k3 | skip
            exact .inr ⟨s4, x, lx, rfl, hp, .inr ⟨trivial, rfl⟩⟩
          · simp at ho
        · intro S a lx hI hall
          obtain ⟨y32, y33, y34, y35, y36, y37, hfr, k0, k1, k2, k3, k5, kst⟩ := hI
          obtain ⟨x0, x3, x4, x9, x10, x11, x12, x13, x14, x18, x19, x20, x21, x22, x23, x24, x25, x26, x27, x28, x29, x30, x31, x38, x39, x40, x41, x42, rfl⟩ := hfr
          have s4 := hall 4 (by decide)
          have s6 := hall 6 (by decide)
          obtain ⟨x, l2, rfl, hp, hst⟩ : ∃ x l2, y36 = .int .i64 x ∧ (t.post x l2.res.cells ∧ Kept t.foot t.T t.T' l5 l2 ∧ ∀ c, D'.gc = some c → l2.cl c) ∧ ((S 6 = false ∧ lx = l2) ∨ (S 6 = true ∧ lx = l2.setc ⟨O, i, none⟩ (.int .i64 x))) := by
            rcases kst with ⟨e, _⟩ | ⟨_, h⟩
            · rw [s4] at e; cases e
            · exact h
          have hlx : lx = l2.setc ⟨O, i, none⟩ (.int .i64 x) := by
            rcases hst with ⟨e, _⟩ | ⟨_, e⟩
            · rw [s6] at e; cases e
            · exact e
          obtain ⟨hp1, hp2, hp3⟩ := hp
          rw [htH.out] at hp1 hp2
          have hnext := hat4.told (x := x) P' hlt' hO' hO0' hp2 (fun e => absurd e hne') (fun _ => hp1) f1 (fun e1 e2 e3 e4 _ => f2 e1 e2 e3 e4) (fun c hc => by
            obtain ⟨g1, _⟩ := P'.gate c hc
            refine hp2.sk D'.p fun ch cap e => ?_
            cases hpp : D'.pool with
            | false => rw [P'.nop hpp] at hc; cases hc
            | true => rw [hat4.ext.pl, (P'.isp hpp).1, g1] at e; simp at e)
          rw [hDO, ← hlx] at hnext
          have hactx := hnext.ext.md
          simp only [Thn]
          refine c_exit ?_
          simp only [Thn, Inb, if_true, reduceIte]
          repeat (first
            | (refine c_seq ?_)
            | (refine c_region ?_
               simp only [List.size_toArray, List.length_cons, List.length_nil, Nat.reduceAdd, Nat.zero_add, List.range, List.range.loop])
            | (refine o_nil ?_
               simp only [Thn, Inb, if_true, if_false, reduceIte, Nat.reduceEqDiff])
            | (refine c_skip ?_
               simp only [Thn, Inb, if_true, if_false, reduceIte, Nat.reduceEqDiff])
            | (refine c_cond true (by rfl) (fun _ => ?_) (fun e => by cases e))
            | (refine c_cond false (by rfl) (fun e => by cases e) (fun _ => ?_))
            | (refine c_block ?_)
            | (refine c_label ?_
               simp only [Thn, Inb, if_true, if_false, reduceIte, Nat.reduceEqDiff])
            | (refine c_scope ?_)
            | (refine o_cons (u_read (by omega) hactx rfl (by rfl) fun w hF K' hK' => ?_)
               go_simp
               refine hK' _ ⟨?_, ?_⟩
               focus
                 rw [listed_nil]
                 · simp
                 · (simp [go_sem]; done)
               clear hK' K' hF w
               try walk_nrm)
            | (refine o_cons (u_unwanted (by omega) rfl (by rfl) ?_)
               try walk_nrm))
          refine ⟨⟨i + 1, by omega, ?_, _, _, _, _, hnext⟩, ?_⟩
          · exact ⟨_, _, _, _, _, _, _, _, _, _, _, _, _, _, _, _, _, _, _, _, _, _, _, _, _, _, _, _, _, _, _, _, _, _, _, _, rfl⟩
          · show n - (i + 1) < n - i
            omega
      focus
        have hact5 : l5.md = .act := by rw [hl5]; exact hact4
        try walk_nrm
        repeat (first
          | (refine o_nil ?_
             simp only [Thn, Inb, if_true, if_false, reduceIte, Nat.reduceEqDiff])
          | (refine c_skip ?_
             simp only [Thn, Inb, if_true, if_false, reduceIte, Nat.reduceEqDiff])
          | (refine c_cond true (by rfl) (fun _ => ?_) (fun e => by cases e))
          | (refine c_cond false (by rfl) (fun e => by cases e) (fun _ => ?_))
          | (refine c_block ?_)
          | (refine c_label ?_
             simp only [Thn, Inb, if_true, if_false, reduceIte, Nat.reduceEqDiff])
          | (refine c_scope ?_)
          | (refine o_cons (u_read (by omega) hact5 rfl (by rfl) fun w hF K' hK' => ?_)
             go_simp
             refine hK' _ ⟨?_, ?_⟩
             focus
               rw [listed_nil]
               · simp
               · (simp [go_sem]; done)
             clear hK' K' hF w
             try walk_nrm)
          | (refine o_cons (u_unwanted (by omega) rfl (by rfl) ?_)
             try walk_nrm))
        have hpa : D'.pa = some ⟨D'.p, 0, none⟩ := by unfold DoPar.pa; rw [hpool]; rfl
        obtain ⟨p1, p2, p3⟩ := P'.isp hpool
        -- its two variables are read only from now on
        obtain ⟨C', hC'⟩ : ∃ C' : Addr → Option Value, C' = fun a => if a = ⟨bi, 0, none⟩ ∨ a = ⟨bt, 0, none⟩ then none else l5.res.cells a := ⟨_, rfl⟩
        obtain ⟨R', hR'⟩ : ∃ R' : Addr → Value → Prop, R' = fun a v => l5.ro a v ∨ (a = ⟨bi, 0, none⟩ ∧ v = .int .i64 (i : Nat)) ∨ (a = ⟨bt, 0, none⟩ ∧ v = t.v) := ⟨_, rfl⟩
        obtain ⟨l6, hl6⟩ : ∃ l6 : Lo, l6 = { l5 with res := ⟨C', l5.res.tk⟩, ro := R' } := ⟨_, rfl⟩
        have c5 : l5.res.cells = l4.res.cells := by rw [hl5]; rfl
        have hturn : E.Turn l5 l6 := by
          rw [hl6]
          refine turn_cells hact5 C' R' (fun a v e => ?_) (fun a v e => ?_)
          · rw [hC'] at e
            simp only at e
            split at e
            · cases e
            · exact e
          · rw [hR'] at e
            rcases e with e | ⟨rfl, rfl⟩ | ⟨rfl, rfl⟩
            · exact .inl e
            · exact .inr ⟨by rw [hC']; simp, by rw [c5]; exact cbi4⟩
            · exact .inr ⟨by rw [hC']; simp, by rw [c5]; exact cbt4⟩
        have t5 : ∀ k, l5.res.tk k = l4.res.tk k + (if k = .slot D'.p ∨ k = .alive D'.p then 1 else 0) := fun k => by rw [hl5]; exact took_tk _ _ _ _
        obtain ⟨l7, hl7⟩ : ∃ l7 : Lo, l7 = l6.mint D'.gc fk.length := ⟨_, rfl⟩
        have hact6 : l6.md = .act := by rw [hl6]; exact hact5
        have hturn2 : E.Turn l6 l7 := by
          rw [hl7]
          refine turn_mint (p := D'.p) hact6 fun c hc => ?_
          obtain ⟨_, _, _, _, _, ⟨bg, m, k1⟩, _, k2, _⟩ := P'.gate c hc
          refine ⟨by rw [hl6, hl5]; exact (hat4.gate c hc).1, ⟨bg, m, by rw [hl6, hl5]; exact (congrFun hat4.ext.gl c).trans k1⟩, ?_⟩
          have e1 : l6.res.tk (.gm c) = 0 := by
            rw [hl6]
            show l5.res.tk _ = 0
            rw [t5, hat4.gm c, k2]
            simp
          have e2 : l6.res.tk (.alive D'.p) = l4.res.tk (.alive D'.p) + 1 := by
            rw [hl6]
            show l5.res.tk _ = _
            rw [t5]
            simp
          omega
        have hact7 : l7.md = .act := by rw [hl7]; exact hact6
        refine c_turn (hturn.trans hturn2) (quit_act hact7) ?_
        have hdf7 : l7.df = 0 := by rw [hl7, hl6, hl5]; exact hat4.ext.df
        have hws7 : l7.ws u = some ⟨ws, hi, 0⟩ := by rw [hl7, hl6, hl5]; have := hat4.wsu; rw [hDu] at this; exact this
        have hwk7 : l7.wk u = 0 := by rw [hl7, hl6, hl5]; show l4.wk u = 0; rw [hat4.wk, hDl]; exact huk0
        have hhile := hat.hile
        repeat (first
          | (refine c_seq ?_)
          | (refine c_region ?_
             simp only [List.size_toArray, List.length_cons, List.length_nil, Nat.reduceAdd, Nat.zero_add, List.range, List.range.loop])
          | (refine o_nil ?_
             simp only [Thn, Inb, if_true, if_false, reduceIte, Nat.reduceEqDiff])
          | (refine c_skip ?_
             simp only [Thn, Inb, if_true, if_false, reduceIte, Nat.reduceEqDiff])
          | (refine c_cond true (by rfl) (fun _ => ?_) (fun e => by cases e))
          | (refine c_cond false (by rfl) (fun e => by cases e) (fun _ => ?_))
          | (refine c_block ?_)
          | (refine c_label ?_
             simp only [Thn, Inb, if_true, if_false, reduceIte, Nat.reduceEqDiff])
          | (refine c_scope ?_)
          | (refine o_cons (u_read (by omega) hact7 rfl (by rfl) fun w hF K' hK' => ?_)
             go_simp
             refine hK' _ ⟨?_, ?_⟩
             focus
               rw [listed_nil]
               · simp
               · (simp [go_sem]; done)
             clear hK' K' hF w
             try walk_nrm)
          | (refine o_cons (u_unwanted (by omega) rfl (by rfl) ?_)
             try walk_nrm))
        refine o_cons (u_callx (n := n24) #[.pointer (some ⟨u, 0, none⟩), .int .i64 1] (by omega) rfl (by rfl) rfl (by walk_nrm) ?_)
        refine (h24 E u hi ws l7 hact7 hdf7 hws7 (by omega)).mono fun v l8 hl8 => ?_
        rw [hwk7] at hl8
        have hact8 : l8.md = .act := by rw [hl8]; exact hact7
        try walk_nrm
        repeat (first
          | (refine c_seq ?_)
          | (refine c_region ?_
             simp only [List.size_toArray, List.length_cons, List.length_nil, Nat.reduceAdd, Nat.zero_add, List.range, List.range.loop])
          | (refine o_nil ?_
             simp only [Thn, Inb, if_true, if_false, reduceIte, Nat.reduceEqDiff])
          | (refine c_skip ?_
             simp only [Thn, Inb, if_true, if_false, reduceIte, Nat.reduceEqDiff])
          | (refine c_cond true (by rfl) (fun _ => ?_) (fun e => by cases e))
          | (refine c_cond false (by rfl) (fun e => by cases e) (fun _ => ?_))
          | (refine c_block ?_)
          | (refine c_label ?_
             simp only [Thn, Inb, if_true, if_false, reduceIte, Nat.reduceEqDiff])
          | (refine c_scope ?_)
          | (refine o_cons (u_read (by omega) hact8 rfl (by rfl) fun w hF K' hK' => ?_)
             go_simp
             refine hK' _ ⟨?_, ?_⟩
             focus
               rw [listed_nil]
               · simp
               · (simp [go_sem]; done)
             clear hK' K' hF w
             try walk_nrm)
          | (refine o_cons (u_unwanted (by omega) rfl (by rfl) ?_)
             try walk_nrm))
        have hbi8 : l8.ro ⟨bi, 0, none⟩ (.int .i64 (i : Nat)) := by rw [hl8, hl7, hl6]; show R' _ _; rw [hR']; exact .inr (.inl ⟨rfl, rfl⟩)
        have hbt8 : l8.ro ⟨bt, 0, none⟩ t.v := by rw [hl8, hl7, hl6]; show R' _ _; rw [hR']; exact .inr (.inr ⟨rfl, rfl⟩)
        have key := hat.fork (l8 := l8) P' hlt' hO' hO0' hne' hpool
          ⟨hact8, by rw [hl8]; exact hdf7, fun a v x => by rw [hl8, hl7, hl6]; show R' _ _; rw [hR']; exact .inl (by rw [hl5]; exact g4.ro a v x), by rw [hl8, hl7, hl6, hl5]; exact g4.pl, by rw [hl8, hl7, hl6, hl5]; exact g4.gl, fun x => by
            rw [hl8, hl7, hl6, hl5]
            show _ ≤ (if x = D'.p then q else l4.pk x)
            rw [← g4.pk]
            split
            · rename_i e; rw [e]; exact q2
            · exact Nat.le_refl _, fun x h => by rw [hl8, hl7, hl6, hl5]; show l4.cl x; rw [g4.cl]; exact h⟩
          (fun a ha => by
            have e1 : a ≠ ⟨bi, 0, none⟩ := fun e => ha (e ▸ hbi0)
            have e2 : a ≠ ⟨bt, 0, none⟩ := fun e => ha (e ▸ hbt0)
            rw [hl8, hl7, hl6]
            show C' a = _
            rw [hC']
            simp only [e1, e2, or_self, if_false]
            rw [c5]
            exact g4.cell a ha)
          (fun k => by
            rw [hl8, hl7, hl6]
            show l5.res.tk k + _ = _
            rw [t5, g4.tk]
            unfold DoPar.X mintk
            cases D'.gc with
            | none => simp
            | some c =>
              by_cases e : k = .gm c
              · subst e; simp
              · simp [e])
          (fun y hy => by
            rw [hDu] at hy
            rw [hl8, hl7, hl6, hl5]
            show (if y = u then _ else l4.ws y) = _
            rw [if_neg hy, g4.ws])
          (by rw [hat.wk, hDl, hDu]; exact huk0)
          (fun y hy => by
            rw [hDu] at hy
            rw [hl8, hl7, hl6, hl5]
            show (if y = u then _ else l4.wk y) = _
            rw [if_neg hy, g4.wk])
          (by rw [hl8, hl7, hl6, hl5]; exact g4.wg) (by rw [hl8, hl7, hl6, hl5]; exact g4.ob)
          (fun c => by rw [hl8, hl7, hl6, hl5]; show (if _ then _ else l4.gk c) = _; rw [g4.gk])
          (fun x => by rw [hl8, hl7, hl6, hl5]; show (if x = D'.p then l4.sk D'.p + 1 else l4.sk x) = _; rw [g4.sk]; split <;> simp_all)
          (by rw [hl8, hl7, hl6, hl5]; show 1 ≤ (if D'.p = D'.p then q else _); rw [if_pos rfl]; exact q1)
          (fun c hc => by rw [hl8, hl7, hl6, hl5]; show _ ≤ (if D'.p = D'.p then q else _); rw [if_pos rfl]; exact q3 c hc)
        rw [hDu] at key
        obtain ⟨kP, kA, kB⟩ := key
        have hws8 : l8.ws u = some ⟨ws, hi + 1, 0⟩ := by rw [hl8]; exact wsd_same _ _ _
        have hwk8 : l8.wk u = 0 + 1 := by rw [hl8]; simp [Lo.wsd, Lo.wkd]
        have hrp8 : l8.ro ⟨bp, 0, none⟩ (.pointer (some ⟨D'.p, 0, none⟩)) := by rw [hl8, hl7, hl6]; show R' _ _; rw [hR', ← hpa]; exact .inl (by rw [hl5]; exact hrp4)
        have hro8 : l8.ro ⟨bo, 0, none⟩ (.slice (some ⟨O, 0, none⟩) n n) := by rw [hl8, hl7, hl6]; show R' _ _; rw [hR']; exact .inl (by rw [hl5]; exact hro4)
        have hch8 : l8.ro ⟨D'.p, 0, none⟩ (.chan (some D'.ch)) := by rw [hl8, hl7, hl6]; show R' _ _; rw [hR']; exact .inl (by rw [hl5]; exact hat4.ext.ro _ _ p2)
        have hpl8 : l8.pl D'.p = some (D'.ch, D'.cap, D'.so) := by rw [hl8, hl7, hl6, hl5]; exact (congrFun hat4.ext.pl D'.p).trans p1
        refine o_cons (u_fork (nc := n25) (D'.J i) (by omega) hact8 rfl (by rfl) rfl rfl (by rw [hl8]; exact hdf7) hws8 hwk8 kP (fun N => ?_) (fun N hN => ?_))
        focus
          have hnext := kA N
          obtain ⟨l9, hl9⟩ : ∃ l9, l9 = l8.parent N u 0 (D'.Rr i l8) (D'.J i) ws (hi + 1) := ⟨_, rfl⟩
          rw [← hl9] at hnext
          rw [← hl9]
          have hact9 := hnext.ext.md
          try walk_nrm
          repeat (first
            | (refine c_seq ?_)
            | (refine c_region ?_
               simp only [List.size_toArray, List.length_cons, List.length_nil, Nat.reduceAdd, Nat.zero_add, List.range, List.range.loop])
            | (refine o_nil ?_
               simp only [Thn, Inb, if_true, if_false, reduceIte, Nat.reduceEqDiff])
            | (refine c_skip ?_
               simp only [Thn, Inb, if_true, if_false, reduceIte, Nat.reduceEqDiff])
            | (refine c_cond true (by rfl) (fun _ => ?_) (fun e => by cases e))
            | (refine c_cond false (by rfl) (fun e => by cases e) (fun _ => ?_))
            | (refine c_block ?_)
            | (refine c_label ?_
               simp only [Thn, Inb, if_true, if_false, reduceIte, Nat.reduceEqDiff])
            | (refine c_scope ?_)
            | (refine o_cons (u_read (by omega) hact9 rfl (by rfl) fun w hF K' hK' => ?_)
               go_simp
               refine hK' _ ⟨?_, ?_⟩
               focus
                 rw [listed_nil]
                 · simp
                 · (simp [go_sem]; done)
               clear hK' K' hF w
               try walk_nrm)
            | (refine o_cons (u_unwanted (by omega) rfl (by rfl) ?_)
               try walk_nrm))
          refine ⟨⟨i + 1, by omega, ?_, _, _, _, _, hnext⟩, ?_⟩
          · exact ⟨_, _, _, _, _, _, _, _, _, _, _, _, _, _, _, _, _, _, _, _, _, _, _, _, _, _, _, _, _, _, _, _, _, _, _, _, rfl⟩
          · show n - (i + 1) < n - i
            omega
        focus
          have B := kB N
          have hrunt' := hrunt hne
          rw [hDpv, hpa, htH.out] at hrunt'
          rw [htH.out] at hbt8
          have hcO : (l8.child N u (D'.Rc i l8) (D'.J i)).res.cells ⟨O, i, none⟩ ≠ none := by have := B.cell; rw [hDO] at this; exact this
          have hfO : ¬ (D'.ts i).foot ⟨O, i, none⟩ := by have := hO' i i hlt'; rw [hDO] at this; exact this
          have hen := B.ends
          rw [hDO] at hen
          exact h25 { E with i := N } u bp bt bo bi D'.p D'.ch D'.cap O n i D'.so D'.gc (D'.ts i) D'.l0 _ hN (P'.ok i hlt') hrunt' B.ext B.foot B.T B.tr B.tb B.slots B.gm rfl (by simp [Lo.child]) (fun _ => rfl) hrp8 hbt8 hro8 hbi8 hch8 hlt hpl8 B.slot1 B.alive1 hcO hfO hen
  · have hd : decide ((i : Int) < (n : Int)) = false := by simp; omega
    obtain rfl : i = n := by omega
    repeat (first
      | (refine c_seq ?_)
      | (refine c_region ?_
         simp only [List.size_toArray, List.length_cons, List.length_nil, Nat.reduceAdd, Nat.zero_add, List.range, List.range.loop])
      | (refine o_nil ?_
         simp only [Thn, Inb, if_true, if_false, reduceIte, Nat.reduceEqDiff])
      | (refine c_skip ?_
         simp only [Thn, Inb, if_true, if_false, reduceIte, Nat.reduceEqDiff])
      | (refine c_cond true (by rfl) (fun _ => ?_) (fun e => by cases e))
      | (refine c_cond false (by rfl) (fun e => by cases e) (fun _ => ?_))
      | (refine c_block ?_)
      | (refine c_label ?_
         simp only [Thn, Inb, if_true, if_false, reduceIte, Nat.reduceEqDiff])
      | (refine c_scope ?_)
      | (refine o_cons (u_read (by omega) hact' rfl (by rfl) fun w hF K' hK' => ?_)
         go_simp
         refine hK' _ ⟨?_, ?_⟩
         focus
           rw [listed_nil]
           · simp
           · (simp [go_sem]; done)
         clear hK' K' hF w
         try walk_nrm)
      | (refine o_cons (u_unwanted (by omega) rfl (by rfl) ?_)
         try walk_nrm))
    refine c_exit ?_
    simp only [Thn, Inb, if_true, reduceIte]
    repeat (first
      | (refine c_seq ?_)
      | (refine c_region ?_
         simp only [List.size_toArray, List.length_cons, List.length_nil, Nat.reduceAdd, Nat.zero_add, List.range, List.range.loop])
      | (refine o_nil ?_
         simp only [Thn, Inb, if_true, if_false, reduceIte, Nat.reduceEqDiff])
      | (refine c_skip ?_
         simp only [Thn, Inb, if_true, if_false, reduceIte, Nat.reduceEqDiff])
      | (refine c_cond true (by rfl) (fun _ => ?_) (fun e => by cases e))
      | (refine c_cond false (by rfl) (fun e => by cases e) (fun _ => ?_))
      | (refine c_block ?_)
      | (refine c_label ?_
         simp only [Thn, Inb, if_true, if_false, reduceIte, Nat.reduceEqDiff])
      | (refine c_scope ?_)
      | (refine o_cons (u_read (by omega) hact' rfl (by rfl) fun w hF K' hK' => ?_)
         go_simp
         refine hK' _ ⟨?_, ?_⟩
         focus
           rw [listed_nil]
           · simp
           · (simp [go_sem]; done)
         clear hK' K' hF w
         try walk_nrm)
      | (refine o_cons (u_unwanted (by omega) rfl (by rfl) ?_)
         try walk_nrm))
    have htr : ∀ c, l'.res.tk (.tr c) = 0 := fun c => by
      have t1 := hat.tk (.tr c) (by simp)
      have t2 := P'.tr c
      rw [hDn'] at t2
      have t3 : sumTo i (fun j => if j ∈ fk then 0 else (D'.ts j).T' (.tr c)) = 0 := sumTo_zero fun j hj => by
        have := (P'.ok j (by omega)).tr c
        simp [this]
      omega
    refine o_cons (u_callx (n := n28) #[.pointer (some ⟨u, 0, none⟩)] (by omega) rfl (by rfl) rfl (by walk_nrm) ?_)
    refine (h28 E u hi ws l' hat.hile hact' hat.ext.df (by rw [← hDu]; exact hat.wsu) (by rw [hat.wk, hDl]; exact huk0) htr).mono fun v l2 hp => ?_
    obtain ⟨rs, jn', ⟨hm, hap⟩, hl2⟩ := hp
    rw [← hDn'] at hat
    obtain ⟨xs', hpost⟩ := hat.over P' (by rw [hDl, hDu]; exact hu0) (jn' := jn') hm hap
    rw [hDu, ← hl2] at hpost
    have hact2 : l2.md = .act := by rw [hl2]; exact hact'
    have hro2 : l2.ro ⟨bo, 0, none⟩ (.slice (some ⟨O, 0, none⟩) i i) := by rw [hl2]; have := hat.roO; rw [hDo, hDO, hDn'] at this; exact this
    try walk_nrm
    repeat (first
      | (refine c_seq ?_)
      | (refine c_region ?_
         simp only [List.size_toArray, List.length_cons, List.length_nil, Nat.reduceAdd, Nat.zero_add, List.range, List.range.loop])
      | (refine o_nil ?_
         simp only [Thn, Inb, if_true, if_false, reduceIte, Nat.reduceEqDiff])
      | (refine c_skip ?_
         simp only [Thn, Inb, if_true, if_false, reduceIte, Nat.reduceEqDiff])
      | (refine c_cond true (by rfl) (fun _ => ?_) (fun e => by cases e))
      | (refine c_cond false (by rfl) (fun e => by cases e) (fun _ => ?_))
      | (refine c_block ?_)
      | (refine c_label ?_
         simp only [Thn, Inb, if_true, if_false, reduceIte, Nat.reduceEqDiff])
      | (refine c_scope ?_)
      | (refine o_cons (u_read (by omega) hact2 rfl (by rfl) fun w hF K' hK' => ?_)
         go_simp
         refine hK' _ ⟨?_, ?_⟩
         focus
           rw [listed_nil]
           · simp
           · (simp [go_sem]; done)
         clear hK' K' hF w
         try walk_nrm)
      | (refine o_cons (u_unwanted (by omega) rfl (by rfl) ?_)
         try walk_nrm))
    refine o_cons (u_load (.slice (some ⟨O, 0, none⟩) i i) (by omega) hact2 rfl (by rfl) rfl Try.underlying35 rfl rfl (.inr hro2) ?_)
    try walk_nrm
    repeat (first
      | (refine c_seq ?_)
      | (refine c_region ?_
         simp only [List.size_toArray, List.length_cons, List.length_nil, Nat.reduceAdd, Nat.zero_add, List.range, List.range.loop])
      | (refine o_nil ?_
         simp only [Thn, Inb, if_true, if_false, reduceIte, Nat.reduceEqDiff])
      | (refine c_skip ?_
         simp only [Thn, Inb, if_true, if_false, reduceIte, Nat.reduceEqDiff])
      | (refine c_cond true (by rfl) (fun _ => ?_) (fun e => by cases e))
      | (refine c_cond false (by rfl) (fun e => by cases e) (fun _ => ?_))
      | (refine c_block ?_)
      | (refine c_label ?_
         simp only [Thn, Inb, if_true, if_false, reduceIte, Nat.reduceEqDiff])
      | (refine c_scope ?_)
      | (refine o_cons (u_read (by omega) hact2 rfl (by rfl) fun w hF K' hK' => ?_)
         go_simp
         refine hK' _ ⟨?_, ?_⟩
         focus
           rw [listed_nil]
           · simp
           · (simp [go_sem]; done)
         clear hK' K' hF w
         try walk_nrm)
      | (refine o_cons (u_unwanted (by omega) rfl (by rfl) ?_)
         try walk_nrm))
    refine c_ret ?_
    refine ⟨rfl, _, resultsC_tmp (by rfl) _, ?_⟩
    exact hfin' l2 ⟨xs', hpost⟩
end Go.Proofs.Ytofohjbcgchhoaa

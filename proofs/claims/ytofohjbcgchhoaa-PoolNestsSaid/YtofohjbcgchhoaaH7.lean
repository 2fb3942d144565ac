/-
  THE WALKS: a pool that nobody has used: its peak is 0; Do without tasks; Together of no pool.
-/
import Derived.Test.YtofohjbcgchhoaaH3
namespace Go.Proofs.Ytofohjbcgchhoaa
open Go.Conc
open Go.RowKit
set_option maxRecDepth 100000
set_option linter.unusedSimpArgs false
set_option linter.unusedVariables false

/-- A cell of its own, read atomically. -/
theorem Whole.own_read {B0 : Nat} {w0 : World} {γ : Gh} {w : World} {t : Trace} (h : Whole B0 w0 γ w t) {i : Nat} (hi : i < γ.N) (hact : (γ.lo i).md = .act) {a : Addr} {v : Value} (ha : (γ.lo i).res.cells a = some v) (fn : FuncId) (pos : String) :
    Whole B0 w0 γ w (t ++ MemOp.ofEvents i fn pos #[⟨.cell a, false, true⟩]) := by
  refine ⟨h.mem, h.own, h.nums, h.team, ?_⟩
  have hlt := lt_of_cell (h.mem.cell i hi a v ha).1
  have hst : ((γ.lo i).tg).st = .act := by simp [Lo.tg, hact, Md.st]
  have htr := h.tr.own (h.own.disj h.team) hi (u := MemOp.ofEvents i fn pos #[⟨.cell a, false, true⟩]) (fun op hop => by
      rw [ofEvents_eq] at hop
      obtain ⟨e, _, rfl⟩ := Array.mem_map.1 hop
      rfl) (fun op hop => by
      rw [ofEvents_eq] at hop
      obtain ⟨e, he, rfl⟩ := Array.mem_map.1 hop
      obtain rfl : e = ⟨.cell a, false, true⟩ := by simpa using he
      refine ⟨hlt, (fun _ => by simp [MemAct.ofEvent]), fun y hy => ?_⟩
      simp only [MemAct.ofEvent, MemAct.touch?, Option.some.injEq] at hy
      subst hy
      exact .inr (.inr ⟨hst, by show (γ.lo i).res.cells a ≠ none; rw [ha]; simp⟩)) (.inl hst) (d := (γ.lo i).df) (by
      rw [Deaf_own, h.tr.df i hi]
      rfl) (.inl hst)
  have e : (fun j => if j = i then { (γ.lo i).tg with df := (γ.lo i).df } else (γ.lo j).tg) = fun j => (γ.lo j).tg := by
    funext j
    by_cases hj : j = i
    · subst hj; simp [Lo.tg]
    · rw [if_neg hj]
  rw [← e]
  exact htr
theorem at_own {E : En} {l : Lo} {fn : FuncId} {ad : Addr} {x : Int} {K : Value → Lo → Prop} (hact : l.md = .act) (hc : l.res.cells ad = some (.int .i64 x)) (h : K (.int .i64 x) l) : E.LoadAt l fn ad .i64 K := fun γ w t pos hI hl hi => by
  subst hl
  exact ⟨x, _, (hI.mem.cell _ hi _ _ hc).1, ⟨γ, Whole.own_read hI hi hact hc fn pos, rfl, Keeps.rfl' (S := E.S) γ w true, rfl⟩, h⟩

/-- A new pool, at goroutine 0. -/
theorem newC : ∃ n, ∀ (E : En) (w : Int) (so : Bool) (l : Lo) (Post : Value → Lo → Prop), Calm l →
    (∀ ch p l', Calm l' → Later l l' → l'.pl p = some (ch, capOf w, so) → l'.ro ⟨p, 0, none⟩ (.chan (some ch)) → Post (.pointer (some ⟨p, 0, none⟩)) l') → E.N 8 #[.int .i64 w] n l Post := by
  obtain ⟨n8, h8⟩ := new8
  refine ⟨n8, fun E w so l Post hC h => h8 E w so l Post hC.md fun ch p hch hp => ?_⟩
  refine h ch p _ (hC.new so hch hp) (Later.new so hp) ?_ (.inr ⟨rfl, rfl⟩)
  show (if p = p then _ else _) = _
  rw [if_pos rfl]

theorem Calm.opc {l : Lo} (h : Calm l) (c cap : Nat) : Calm (l.opc c cap) := ⟨h.md, h.df, h.solo, h.tr, h.gm, h.slot0, h.sk⟩
theorem Later.opc (l : Lo) (c cap : Nat) : Later l (l.opc c cap) := ⟨fun _ _ h => h, fun _ _ h => h, fun _ _ => rfl⟩

/-- A new pool, kept as cells of its own. -/
theorem new8p : ∃ n, ∀ (E : En) (w : Int) (l : Lo) (Post : Value → Lo → Prop), Calm l →
    (∀ p l', Calm l' → Later l l' → l'.res.cells ⟨p, 2, none⟩ = some (.int .i64 0) → Post (.pointer (some ⟨p, 0, none⟩)) l') → E.N 8 #[.int .i64 w] n l Post := by
  refine ⟨_, fun E w l Post hC h => n_of_b (b_of (e := 2) (L := 0) Try.func8 (by rfl) rfl ?_)⟩
  have hact := hC.md
  simp only [act0, Try.ntmps8, List.size_toArray, List.length_cons, List.length_nil, Nat.reduceAdd, Nat.reduceSub, Array.replicate_succ, Array.replicate_zero, List.push_toArray, List.append_toArray, List.nil_append, List.cons_append]
  repeat (first
    | (refine c_seq ?_)
    | (refine c_region ?_
       simp only [List.size_toArray, List.length_cons, List.length_nil, Nat.reduceAdd, Nat.zero_add, List.range, List.range.loop])
    | (refine o_nil ?_
       simp only [Thn, Inb, if_true, if_false, reduceIte, Nat.reduceEqDiff])
    | (refine c_skip ?_
       simp only [Thn, Inb, if_true, if_false, reduceIte, Nat.reduceEqDiff])
    | (refine c_cond true (by rfl) (fun _ => ?_) (fun e => by cases e))
    | (refine c_cond false (by rfl) (fun e => by cases e) (fun _ => ?_))
    | (refine c_block ?_)
    | (refine c_label ?_
       simp only [Thn, Inb, if_true, if_false, reduceIte, Nat.reduceEqDiff])
    | (refine c_scope ?_)
    | (refine o_cons (u_read (by omega) hact rfl (by rfl) fun w hF K' hK' => ?_)
       go_simp
       refine hK' _ ⟨?_, ?_⟩
       focus
         rw [listed_nil]
         · simp
         · (simp [go_sem]; done)
       clear hK' K' hF w
       try walk_nrm)
    | (refine o_cons (u_unwanted (by omega) rfl (by rfl) ?_)
       try walk_nrm))
  rw [capOf_int]
  obtain ⟨hc1, hc2⟩ := capOf_le w
  refine o_cons (u_new (by omega) hact rfl (by rfl) (.chan (capOf w) #[] false 0 0 false) (fun r => .chan (some r)) (fun r => l.opc r (capOf w)) (fun w' => ?_) (fun w' => ?_) (new_chan hact _) fun ch hch => ?_)
  · have := run_makeChan (P := Try.prog) (w := w') Try.underlying46 Try.type47 .i64 (capOf w) (by omega) (by show (0 : Int) * _ ≤ _; omega)
    unfold execOp
    simp [Act.eval, this, Result.andThen]
  · have := events_makeChan (P := Try.prog) (w := w') Try.underlying46 Try.type47 .i64 (capOf w) (by omega) (by show (0 : Int) * _ ≤ _; omega) #[]
    unfold execOp
    simp [Act.eval, this]
  have hC1 : Calm (l.opc ch (capOf w)) := hC.opc ch _
  have hL1 : Later l (l.opc ch (capOf w)) := Later.opc l ch _
  obtain ⟨l1, hl1⟩ : ∃ l1, l1 = l.opc ch (capOf w) := ⟨_, rfl⟩
  rw [← hl1] at hC1 hL1
  rw [← hl1]
  have hact1 := hC1.md
  try walk_nrm
  repeat (first
    | (refine c_seq ?_)
    | (refine c_region ?_
       simp only [List.size_toArray, List.length_cons, List.length_nil, Nat.reduceAdd, Nat.zero_add, List.range, List.range.loop])
    | (refine o_nil ?_
       simp only [Thn, Inb, if_true, if_false, reduceIte, Nat.reduceEqDiff])
    | (refine c_skip ?_
       simp only [Thn, Inb, if_true, if_false, reduceIte, Nat.reduceEqDiff])
    | (refine c_cond true (by rfl) (fun _ => ?_) (fun e => by cases e))
    | (refine c_cond false (by rfl) (fun e => by cases e) (fun _ => ?_))
    | (refine c_block ?_)
    | (refine c_label ?_
       simp only [Thn, Inb, if_true, if_false, reduceIte, Nat.reduceEqDiff])
    | (refine c_scope ?_)
    | (refine o_cons (u_read (by omega) hact1 rfl (by rfl) fun w hF K' hK' => ?_)
       go_simp
       refine hK' _ ⟨?_, ?_⟩
       focus
         rw [listed_nil]
         · simp
         · (simp [go_sem]; done)
       clear hK' K' hF w
       try walk_nrm)
    | (refine o_cons (u_unwanted (by omega) rfl (by rfl) ?_)
       try walk_nrm))
  refine o_cons (u_new (by omega) hact1 rfl (by rfl) (.cells #[.chan (some ch), .int .i64 0, .int .i64 0, .int .i64 0] 53) (fun r => .pointer (some ⟨r, 0, none⟩)) (fun r => l1.addc r #[.chan (some ch), .int .i64 0, .int .i64 0, .int .i64 0]) (fun w => by simp [go_sem]) (fun w => by simp [go_sem]) (new_cells hact1 _ _) fun p hp => ?_)
  obtain ⟨l2, hl2⟩ : ∃ l2, l2 = l1.addc p #[.chan (some ch), .int .i64 0, .int .i64 0, .int .i64 0] := ⟨_, rfl⟩
  have g2 : Grow l1 l2 := by rw [hl2]; exact (Grow.refl _).addc hp _
  have cp : l2.res.cells ⟨p, 2, none⟩ = some (.int .i64 0) := by rw [hl2, addc_new]; rfl
  rw [← hl2]
  have hC2 := hC1.grow g2
  have hact2 := hC2.md
  try walk_nrm
  repeat (first
    | (refine c_seq ?_)
    | (refine c_region ?_
       simp only [List.size_toArray, List.length_cons, List.length_nil, Nat.reduceAdd, Nat.zero_add, List.range, List.range.loop])
    | (refine o_nil ?_
       simp only [Thn, Inb, if_true, if_false, reduceIte, Nat.reduceEqDiff])
    | (refine c_skip ?_
       simp only [Thn, Inb, if_true, if_false, reduceIte, Nat.reduceEqDiff])
    | (refine c_cond true (by rfl) (fun _ => ?_) (fun e => by cases e))
    | (refine c_cond false (by rfl) (fun e => by cases e) (fun _ => ?_))
    | (refine c_block ?_)
    | (refine c_label ?_
       simp only [Thn, Inb, if_true, if_false, reduceIte, Nat.reduceEqDiff])
    | (refine c_scope ?_)
    | (refine o_cons (u_read (by omega) hact2 rfl (by rfl) fun w hF K' hK' => ?_)
       go_simp
       refine hK' _ ⟨?_, ?_⟩
       focus
         rw [listed_nil]
         · simp
         · (simp [go_sem]; done)
       clear hK' K' hF w
       try walk_nrm)
    | (refine o_cons (u_unwanted (by omega) rfl (by rfl) ?_)
       try walk_nrm))
  refine c_ret ?_
  refine ⟨rfl, _, resultsC_tmp (by rfl) _, ?_⟩
  exact h p l2 hC2 (hL1.trans (Later.grow g2)) cp

theorem peak16p : ∃ n, ∀ (E : En) (p : Nat) (l : Lo) (Post : Value → Lo → Prop), l.md = .act → l.res.cells ⟨p, 2, none⟩ = some (.int .i64 0) → Post (.int .i64 0) l → E.N 16 #[.pointer (some ⟨p, 0, none⟩)] n l Post := by
  obtain ⟨nf, hf⟩ := field32
  obtain ⟨n29, h29⟩ := count29 nf
  refine ⟨_, fun E p l Post hact hc h => n_of_b (b_of (e := n29 + 2) (L := 0) Try.func16 (by rfl) rfl ?_)⟩
  simp only [act0, Try.ntmps16, List.size_toArray, List.length_cons, List.length_nil, Nat.reduceAdd, Nat.reduceSub, Array.replicate_succ, Array.replicate_zero, List.push_toArray, List.append_toArray, List.nil_append, List.cons_append]
  repeat (first
    | (refine c_seq ?_)
    | (refine c_region ?_
       simp only [List.size_toArray, List.length_cons, List.length_nil, Nat.reduceAdd, Nat.zero_add, List.range, List.range.loop])
    | (refine o_nil ?_
       simp only [Thn, Inb, if_true, if_false, reduceIte, Nat.reduceEqDiff])
    | (refine c_skip ?_
       simp only [Thn, Inb, if_true, if_false, reduceIte, Nat.reduceEqDiff])
    | (refine c_cond true (by rfl) (fun _ => ?_) (fun e => by cases e))
    | (refine c_cond false (by rfl) (fun e => by cases e) (fun _ => ?_))
    | (refine c_block ?_)
    | (refine c_label ?_
       simp only [Thn, Inb, if_true, if_false, reduceIte, Nat.reduceEqDiff])
    | (refine c_scope ?_)
    | (refine o_cons (u_read (by omega) hact rfl (by rfl) fun w hF K' hK' => ?_)
       go_simp
       refine hK' _ ⟨?_, ?_⟩
       focus
         rw [listed_nil]
         · simp
         · (simp [go_sem]; done)
       clear hK' K' hF w
       try walk_nrm)
    | (refine o_cons (u_unwanted (by omega) rfl (by rfl) ?_)
       try walk_nrm))
  refine o_cons (u_callx (n := n29) #[.pointer (some ⟨p, 0, none⟩), .func (.func 32) #[] #[]] (by omega) rfl (by rfl) rfl (by walk_nrm) ?_)
  refine h29 E 32 p 2 l _ hact (hf E p l hact) (at_own hact hc ?_)
  try walk_nrm
  repeat (first
    | (refine c_seq ?_)
    | (refine c_region ?_
       simp only [List.size_toArray, List.length_cons, List.length_nil, Nat.reduceAdd, Nat.zero_add, List.range, List.range.loop])
    | (refine o_nil ?_
       simp only [Thn, Inb, if_true, if_false, reduceIte, Nat.reduceEqDiff])
    | (refine c_skip ?_
       simp only [Thn, Inb, if_true, if_false, reduceIte, Nat.reduceEqDiff])
    | (refine c_cond true (by rfl) (fun _ => ?_) (fun e => by cases e))
    | (refine c_cond false (by rfl) (fun e => by cases e) (fun _ => ?_))
    | (refine c_block ?_)
    | (refine c_label ?_
       simp only [Thn, Inb, if_true, if_false, reduceIte, Nat.reduceEqDiff])
    | (refine c_scope ?_)
    | (refine o_cons (u_read (by omega) hact rfl (by rfl) fun w hF K' hK' => ?_)
       go_simp
       refine hK' _ ⟨?_, ?_⟩
       focus
         rw [listed_nil]
         · simp
         · (simp [go_sem]; done)
       clear hK' K' hF w
       try walk_nrm)
    | (refine o_cons (u_unwanted (by omega) rfl (by rfl) ?_)
       try walk_nrm))
  refine c_ret ?_
  refine ⟨rfl, _, resultsC_tmp (by rfl) _, ?_⟩
  exact h

/-- Do without tasks. -/
theorem do_none : ∃ n, ∀ (E : En) (pa : Option Addr) (l : Lo) (Post : Value → Lo → Prop), l.md = .act → (∀ l', Grow l l' → Post (.slice none 0 0) l') → E.N 11 #[.pointer pa, .slice none 0 0] n l Post := by
  refine ⟨_, fun E pa l Post hact h => n_of_b (b_of (e := 2) (L := 0) Try.func11 (by rfl) rfl ?_)⟩
  simp only [act0, Try.ntmps11, List.size_toArray, List.length_cons, List.length_nil, Nat.reduceAdd, Nat.reduceSub, Array.replicate_succ, Array.replicate_zero, List.push_toArray, List.append_toArray, List.nil_append, List.cons_append]
  repeat (first
    | (refine c_seq ?_)
    | (refine c_region ?_
       simp only [List.size_toArray, List.length_cons, List.length_nil, Nat.reduceAdd, Nat.zero_add, List.range, List.range.loop])
    | (refine o_nil ?_
       simp only [Thn, Inb, if_true, if_false, reduceIte, Nat.reduceEqDiff])
    | (refine c_skip ?_
       simp only [Thn, Inb, if_true, if_false, reduceIte, Nat.reduceEqDiff])
    | (refine c_cond true (by rfl) (fun _ => ?_) (fun e => by cases e))
    | (refine c_cond false (by rfl) (fun e => by cases e) (fun _ => ?_))
    | (refine c_block ?_)
    | (refine c_label ?_
       simp only [Thn, Inb, if_true, if_false, reduceIte, Nat.reduceEqDiff])
    | (refine c_scope ?_)
    | (refine o_cons (u_read (by omega) hact rfl (by rfl) fun w hF K' hK' => ?_)
       go_simp
       refine hK' _ ⟨?_, ?_⟩
       focus
         rw [listed_nil]
         · simp
         · (simp [go_sem]; done)
       clear hK' K' hF w
       try walk_nrm)
    | (refine o_cons (u_unwanted (by omega) rfl (by rfl) ?_)
       try walk_nrm))
  refine o_cons (u_new (by omega) hact rfl (by rfl) (.cells #[.pointer pa] 29) (fun r => .pointer (some ⟨r, 0, none⟩)) (fun r => l.addc r #[.pointer pa]) (fun w => by simp [go_sem]) (fun w => by simp [go_sem]) (new_cells hact _ _) fun bp hbp => ?_)
  obtain ⟨l1, hl1⟩ : ∃ l1, l1 = l.addc bp #[.pointer pa] := ⟨_, rfl⟩
  rw [← hl1]
  have g1 : Grow l l1 := by rw [hl1]; exact (Grow.refl _).addc hbp _
  have hact1 : l1.md = .act := g1.md.trans hact
  try walk_nrm
  repeat (first
    | (refine c_seq ?_)
    | (refine c_region ?_
       simp only [List.size_toArray, List.length_cons, List.length_nil, Nat.reduceAdd, Nat.zero_add, List.range, List.range.loop])
    | (refine o_nil ?_
       simp only [Thn, Inb, if_true, if_false, reduceIte, Nat.reduceEqDiff])
    | (refine c_skip ?_
       simp only [Thn, Inb, if_true, if_false, reduceIte, Nat.reduceEqDiff])
    | (refine c_cond true (by rfl) (fun _ => ?_) (fun e => by cases e))
    | (refine c_cond false (by rfl) (fun e => by cases e) (fun _ => ?_))
    | (refine c_block ?_)
    | (refine c_label ?_
       simp only [Thn, Inb, if_true, if_false, reduceIte, Nat.reduceEqDiff])
    | (refine c_scope ?_)
    | (refine o_cons (u_read (by omega) hact1 rfl (by rfl) fun w hF K' hK' => ?_)
       go_simp
       refine hK' _ ⟨?_, ?_⟩
       focus
         rw [listed_nil]
         · simp
         · (simp [go_sem]; done)
       clear hK' K' hF w
       try walk_nrm)
    | (refine o_cons (u_unwanted (by omega) rfl (by rfl) ?_)
       try walk_nrm))
  refine c_ret ?_
  refine ⟨rfl, _, resultsC_tmp (by rfl) _, ?_⟩
  exact h l1 g1

/-- Together of no pool. -/
theorem together_nil : ∃ n, ∀ (E : En) (m : Int) (l : Lo) (Post : Value → Lo → Prop), l.md = .act → (∀ l', Grow l l' → Post (.tuple #[.bool false, .int .i64 1]) l') → E.N 19 #[.pointer none, .int .i64 m] n l Post := by
  refine ⟨_, fun E m l Post hact h => n_of_b (b_of (e := 2) (L := 0) Try.func19 (by rfl) rfl ?_)⟩
  simp only [act0, Try.ntmps19, List.size_toArray, List.length_cons, List.length_nil, Nat.reduceAdd, Nat.reduceSub, Array.replicate_succ, Array.replicate_zero, List.push_toArray, List.append_toArray, List.nil_append, List.cons_append]
  repeat (first
    | (refine c_seq ?_)
    | (refine c_region ?_
       simp only [List.size_toArray, List.length_cons, List.length_nil, Nat.reduceAdd, Nat.zero_add, List.range, List.range.loop])
    | (refine o_nil ?_
       simp only [Thn, Inb, if_true, if_false, reduceIte, Nat.reduceEqDiff])
    | (refine c_skip ?_
       simp only [Thn, Inb, if_true, if_false, reduceIte, Nat.reduceEqDiff])
    | (refine c_cond true (by rfl) (fun _ => ?_) (fun e => by cases e))
    | (refine c_cond false (by rfl) (fun e => by cases e) (fun _ => ?_))
    | (refine c_block ?_)
    | (refine c_label ?_
       simp only [Thn, Inb, if_true, if_false, reduceIte, Nat.reduceEqDiff])
    | (refine c_scope ?_)
    | (refine o_cons (u_read (by omega) hact rfl (by rfl) fun w hF K' hK' => ?_)
       go_simp
       refine hK' _ ⟨?_, ?_⟩
       focus
         rw [listed_nil]
         · simp
         · (simp [go_sem]; done)
       clear hK' K' hF w
       try walk_nrm)
    | (refine o_cons (u_unwanted (by omega) rfl (by rfl) ?_)
       try walk_nrm))
  refine o_cons (u_new (by omega) hact rfl (by rfl) (.cells #[.int .i64 m] 3) (fun r => .pointer (some ⟨r, 0, none⟩)) (fun r => l.addc r #[.int .i64 m]) (fun w => by simp [go_sem]) (fun w => by simp [go_sem]) (new_cells hact _ _) fun bn hbn => ?_)
  obtain ⟨l1, hl1⟩ : ∃ l1, l1 = l.addc bn #[.int .i64 m] := ⟨_, rfl⟩
  rw [← hl1]
  have g1 : Grow l l1 := by rw [hl1]; exact (Grow.refl _).addc hbn _
  have hact1 : l1.md = .act := g1.md.trans hact
  try walk_nrm
  repeat (first
    | (refine c_seq ?_)
    | (refine c_region ?_
       simp only [List.size_toArray, List.length_cons, List.length_nil, Nat.reduceAdd, Nat.zero_add, List.range, List.range.loop])
    | (refine o_nil ?_
       simp only [Thn, Inb, if_true, if_false, reduceIte, Nat.reduceEqDiff])
    | (refine c_skip ?_
       simp only [Thn, Inb, if_true, if_false, reduceIte, Nat.reduceEqDiff])
    | (refine c_cond true (by rfl) (fun _ => ?_) (fun e => by cases e))
    | (refine c_cond false (by rfl) (fun e => by cases e) (fun _ => ?_))
    | (refine c_block ?_)
    | (refine c_label ?_
       simp only [Thn, Inb, if_true, if_false, reduceIte, Nat.reduceEqDiff])
    | (refine c_scope ?_)
    | (refine o_cons (u_read (by omega) hact1 rfl (by rfl) fun w hF K' hK' => ?_)
       go_simp
       refine hK' _ ⟨?_, ?_⟩
       focus
         rw [listed_nil]
         · simp
         · (simp [go_sem]; done)
       clear hK' K' hF w
       try walk_nrm)
    | (refine o_cons (u_unwanted (by omega) rfl (by rfl) ?_)
       try walk_nrm))
  refine c_ret ?_
  refine ⟨rfl, _, resultsC_tmp2 (by rfl) _, ?_⟩
  exact h l1 g1

/-- A slice beside nil. -/
theorem equal_slice_nil {P : Program} {w : World} {t e : TypeId} (h : P.underlying t = some (.slice e)) (es : Array Event) :
    (Op.equal t (.slice none 0 0) (.slice none 0 0)).run P w = .ok true w ∧ (Op.equal t (.slice none 0 0) (.slice none 0 0)).events P w es = es := by
  have : ∀ d : Nat, (Op.equalIn (d + 1) t (.slice none 0 0) (.slice none 0 0)).run P w = .ok true w ∧ (Op.equalIn (d + 1) t (.slice none 0 0) (.slice none 0 0)).events P w es = es := fun d => by
    refine ⟨?_, ?_⟩ <;> simp [Op.equalIn, run_underlying h]
  exact this 9999
theorem eql_slice_nil {P : Program} {w : World} {t e : TypeId} (h : P.underlying t = some (.slice e)) :
    (binOp .eql t (.slice none 0 0) (.slice none 0 0)).run P w = .ok (.bool true) w ∧ (binOp .eql t (.slice none 0 0) (.slice none 0 0)).events P w #[] = #[] := by
  obtain ⟨h1, h2⟩ := equal_slice_nil (w := w) h #[]
  simp only [binOp]
  refine ⟨?_, ?_⟩ <;> simp [h1, h2]
theorem u_slicenil {E : En} {e : Nat} {fn : FuncId} {a : Act} {l : Lo} {K : Act → Lo → Prop} {ops : Array Oper} {j : Nat} {o : Oper} {x : Operand} (he : 1 ≤ e) (ho : ops[j]? = some o) (hw : Region.wanted o (yielded ops a.tmps) = true) (hop : o.op = .binOp .eql 35 x (.const (.slice none 0 0)) 35)
    (hx : a.eval x = .slice none 0 0) (h : K (a.put o.dst (.bool true)) l) : E.U e fn ops j K a l := by
  have hcn : a.eval (Operand.const (.slice none 0 0)) = .slice none 0 0 := rfl
  have hg : eqGuard BinOp.eql 35 x (Operand.const (.slice none 0 0)) (.slice none 0 0) (.slice none 0 0) = pure () := rfl
  have hn := fun w => eql_slice_nil (P := Try.prog) (w := w) Try.underlying35
  refine u_pure he ho hw (.bool true) (fun w => ?_) (fun w => ?_) h
  · unfold execOp
    simp [hop, hx, hcn, hg, (hn w).1, Result.andThen]
  · unfold execOp
    simp [hop, hx, hcn, hg, (hn w).2]
end Go.Proofs.Ytofohjbcgchhoaa

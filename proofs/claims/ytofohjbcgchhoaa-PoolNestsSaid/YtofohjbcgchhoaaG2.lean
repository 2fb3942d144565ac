/-
  THE WALKS: run.
-/
import Derived.Test.YtofohjbcgchhoaaF
import Derived.Test.YtofohjbcgchhoaaE11
namespace Go.Proofs.Ytofohjbcgchhoaa
open Go.Conc
open Go.RowKit
set_option maxRecDepth 100000
set_option linter.unusedSimpArgs false
set_option linter.unusedVariables false
variable {E : En}

/-- 'recover()' where nothing panics. -/
theorem stepG_recover {P : Program} {main : Bool} {b : Frame} {a : Act} {k : List Item} {cs : List Frame} {w : World} {rest : List Nat} {ops : Array Oper} {j : Nat} {o : Oper} {ats : Array TypeId} (ho : ops[j]? = some o) (hw : Region.wanted o (yielded ops a.tmps) = true) (hk : b.kind ≠ .early) (hr : b.roundOf = none)
    (hop : o.op = .call { callee := .builtin .recover, args := #[], argTypes := ats }) (hcs : ∀ fr : Frame, fr.kind = b.kind → tryRecover fr cs = none) :
    stepG P main (G (b.at a (.inRegion ops (j :: rest) :: k)) cs) w = .go (G (b.at (a.put o.dst .nilIface) (.inRegion ops rest :: k)) cs) w #[] := by
  have hrun : (execOp a.eval o).run P w = .ok .recover w := by
    unfold execOp
    simp [hop, resolve, invoke, builtin]
  have he : (execOp a.eval o).events P w #[] = #[] := by
    unfold execOp
    simp [hop, resolve, invoke, builtin]
  have hfin : (b.at a (.inRegion ops (j :: rest) :: k)).finish .nilIface = b.at (a.put o.dst .nilIface) (.inRegion ops rest :: k) := by rw [Frame.finish_at, ho]; rfl
  have hk' : (b.kind == CallKind.early) = false := by simpa using hk
  rw [stepG_oper ho hw, ← hfin]
  have hcs' : tryRecover { fn := b.fn, tmps := a.tmps, todo := .inRegion ops (j :: rest) :: k, defers := a.defers, mode := .run, kind := b.kind } cs = none := hcs _ rfl
  simp [stepG.apply, hrun, he, G, Frame.at, hk', hr, GStep.after, seen_none, hcs']

theorem w_recover {b : Frame} {a : Act} {todo : List Item} {cs : List Frame} {l : Lo} {ds : List Deferred} {m : Nat} {ad : Addr} (hd : a.defers = dcl 38 #[] #[.pointer (some ad)] :: ds)
    (h : E.W m l { b.at ⟨a.tmps, ds⟩ todo with mode := .returning } cs) : E.W (m + 12) l { b.at a todo with mode := .returning } cs := by
  suffices hh : E.W (m + 11) l ((baseD 38).at (act0 Try.f38 (#[] ++ #[.pointer (some ad)])) [.code _]) ({ b.at ⟨a.tmps, ds⟩ todo with mode := .returning } :: cs) from En.W.ctl hh fun w => stepG_unwind_dcl hd Try.func38 (by rfl) rfl
  simp only [act0, Try.ntmps38, List.size_toArray, List.length_cons, List.length_nil, Nat.reduceAdd, Nat.reduceSub, Array.replicate_succ, Array.replicate_zero, List.push_toArray, List.append_toArray, List.nil_append, List.cons_append]
  obtain ⟨fr, hfr⟩ : ∃ fr, fr = ({ b.at ⟨a.tmps, ds⟩ todo with mode := .returning } : Frame) := ⟨_, rfl⟩
  have hmode : fr.mode = .returning := by rw [hfr]
  have h : E.W m l fr cs := by rw [hfr]; exact h
  suffices hh : E.W (m + 11) l ((baseD 38).at { tmps := #[Value.pointer (some ad), undef, undef], defers := [] } [.code _]) (fr :: cs) by rw [hfr] at hh; exact hh
  refine En.W.ctl ?_ fun w => stepG_seq
  refine En.W.ctl ?_ fun w => stepG_region
  refine En.W.ctl ?_ fun w => stepG_recover (ats := #[]) rfl (by rfl) (by simp [baseD]) rfl rfl (fun f hf => by
    have hf : f.kind = .deferred := hf
    simp [tryRecover, hf, hmode])
  try walk_nrm
  refine En.W.ctl ?_ fun w => by
    have hn := neq_iface (P := Try.prog) (w := w) Try.underlying20
    have hg : eqGuard BinOp.neq 20 (Operand.tmp 1) (Operand.const Value.nilIface) Value.nilIface Value.nilIface = pure () := rfl
    rw [stepG_value (o := { dst := some 2, op := Op.binOp BinOp.neq 20 (Operand.tmp 1) (Operand.const Value.nilIface) 20, type := 4, pos := "pool.go:33", after := #[{ on := 0, ground := Ground.data }], guard := none }) rfl (by rfl) (by simp [baseD]) (v := .bool false) (w' := w) ?_]
    · rw [listed_nil]
      unfold execOp
      simp [Act.eval, hg, hn.2]
    · unfold execOp
      simp [Act.eval, hg, hn.1, Result.andThen]
  try walk_nrm
  refine En.W.ctl ?_ fun w => stepG_region_end
  refine En.W.ctl ?_ fun w => stepG_cond (t := false) (by rfl)
  simp only [Bool.false_eq_true, if_false]
  refine En.W.ctl ?_ fun w => stepG_skip
  refine En.W.ctl ?_ fun w => stepG_end
  refine En.W.ctl (h.mono (n' := m + 2) (by omega)) fun w => stepG_leave_deferred (b := baseD 38) (v := .tuple #[]) rfl rfl Try.func38 ((resultsC_none (by rfl) _ w).1) ((resultsC_none (by rfl) _ w).2) hmode
theorem stepG_leave_at {P : Program} {main : Bool} {b : Frame} {a : Act} {cs : List Frame} {w : World} {fn : Func} {todo : List Item} {c : Frame} {v : Value} {es : Array Event} (hn : b.kind = .normal) (hd : a.defers = []) (hf : P.funcs[b.fn]? = some fn)
    (hr : (results fn a.tmps).run P w = .ok v w) (he : (results fn a.tmps).events P w #[] = es) :
    stepG P main (G { b.at a todo with mode := .returning } (c :: cs)) w = .go (G (c.finish v) cs) w (seen P b.fn es) := by
  simp [G, stepG, unwind, doReturn, Frame.at, hn, hd, hf, hr, he, GStep.after]

/-- A function whose result lies in a cell, and that recovers on its way out. -/
theorem n_of_run {args : Array Value} {e L : Nat} {l : Lo} {Post : Value → Lo → Prop} {c : Code} (hb : Try.f23.body = some c)
    (h : E.C e L 23 c (fun ex a' l' => (ex = .normal ∨ ex = .ret) ∧ ∃ ad v, a'.defers = [dcl 38 #[] #[.pointer (some ad)]] ∧ a'.tmps.getD 4 undef = .pointer (some ad) ∧ l'.md = .act ∧ l'.res.cells ad = some v ∧ Post v l') (act0 Try.f23 args) l) : E.N 23 args (cost e L c + 15) l Post := by
  refine ⟨Try.f23, c, Try.func23, by rfl, hb, fun b a k cs ops j rest o m ho hk hc => ?_⟩
  have hend : ∀ (a' : Act) (l' : Lo) (todo : List Item), (∃ ad v, a'.defers = [dcl 38 #[] #[.pointer (some ad)]] ∧ a'.tmps.getD 4 undef = .pointer (some ad) ∧ l'.md = .act ∧ l'.res.cells ad = some v ∧ Post v l') → E.W (m + 13) l' { (base 23).at a' todo with mode := .returning } (b.at a (.inRegion ops (j :: rest) :: k) :: cs) := by
    rintro a' l' todo ⟨ad, v, hd, hs, hact, hv, hp⟩
    refine w_recover (m := m + 1) hd ?_
    refine En.W.read hact (hc v _ hp) fun w hF => ?_
    have hcell := hF.cell ad v hv
    obtain ⟨r1, r2⟩ := load_flat (P := Try.prog) (w := w) Try.underlying32 rfl hcell
    have e1 : (b.at a (.inRegion ops (j :: rest) :: k)).finish v = b.at (a.put o.dst v) (.inRegion ops rest :: k) := by rw [Frame.finish_at, ho]; rfl
    have hres : Try.f23.results = #[.cell 4 32] := by rfl
    have hr : (results Try.f23 a'.tmps).run Try.prog w = .ok v w ∧ (results Try.f23 a'.tmps).events Try.prog w #[] = #[⟨.cell ad, false, false⟩] := by
      have hs' : a'.tmps[4]?.getD undef = .pointer (some ad) := by simpa using hs
      refine ⟨?_, ?_⟩
      · simp [results, hres, hs', asAddr, r1, Result.andThen]
      · simp [results, hres, hs', asAddr, r1, r2]
    refine ⟨seen Try.prog 23 #[⟨.cell ad, false, false⟩], w.drawn, ?_, fun ev hm => ?_⟩
    · have := stepG_leave_at (main := E.i == 0) (b := base 23) (a := ⟨a'.tmps, []⟩) (cs := cs) (todo := todo) (c := b.at a (.inRegion ops (j :: rest) :: k)) rfl rfl Try.func23 hr.1 hr.2
      rw [e1] at this
      exact this
    · have := mem_seen hm
      simp only [List.mem_toArray, List.mem_cons, List.not_mem_nil, or_false] at this
      subst this
      exact ⟨ad, false, rfl, .inl (by rw [hv]; simp)⟩
  have := h (base 23) [] (b.at a (.inRegion ops (j :: rest) :: k) :: cs) (m + 14) rfl (by simp [base]) fun ex a' l' q => by
    obtain ⟨hex, hv⟩ := q
    rcases hex with rfl | rfl
    · exact En.W.ctl (hend a' l' [] hv) fun _ => stepG_end
    · exact fun todo => (hend a' l' todo hv).mono (Nat.le_succ _)
  exact this.mono (by omega)
set_option maxHeartbeats 8000000 in
theorem run_pool (nt : Nat) : ∃ n, ∀ (E : En) (p ch cap : Nat) (so : Bool) (f : FuncId) (first capv : Array Value) (l : Lo) (Post : Value → Lo → Prop), l.md = .act → l.pl p = some (ch, cap, so) →
    (∀ r, Fresh l r → E.N f (first ++ capv) nt ((l.addc r #[.int .i64 0]).tok (.begun p) (l.res.tk (.begun p) + 1)) fun v l' => l'.md = .act ∧ l'.res.cells ⟨r, 0, none⟩ ≠ none ∧ ∃ x, v = .int .i64 x ∧ Post (.int .i64 x) (l'.setc ⟨r, 0, none⟩ (.int .i64 x))) →
    E.N 23 #[.pointer (some ⟨p, 0, none⟩), .func (.func f) first capv] n l Post := by
  obtain ⟨n34, h34⟩ := add34
  refine ⟨_, fun E p ch cap so f first capv l Post hact hpl ht => n_of_run (e := n34 + nt + 2) (L := 0) rfl ?_⟩
  have hq := quit_act hact
  simp only [act0, Try.ntmps23, List.size_toArray, List.length_cons, List.length_nil, Nat.reduceAdd, Nat.reduceSub, Array.replicate_succ, Array.replicate_zero, List.push_toArray, List.append_toArray, List.nil_append, List.cons_append]
  repeat (first
    | (refine c_seq ?_)
    | (refine c_region ?_
       simp only [List.size_toArray, List.length_cons, List.length_nil, Nat.reduceAdd, Nat.zero_add, List.range, List.range.loop])
    | (refine o_nil ?_
       simp only [Thn, Inb, if_true, if_false, reduceIte, Nat.reduceEqDiff])
    | (refine c_skip ?_
       simp only [Thn, Inb, if_true, if_false, reduceIte, Nat.reduceEqDiff])
    | (refine c_cond true (by rfl) (fun _ => ?_) (fun e => by cases e))
    | (refine c_cond false (by rfl) (fun e => by cases e) (fun _ => ?_))
    | (refine c_block ?_)
    | (refine c_label ?_)
    | (refine o_cons (u_read (by omega) hact rfl (by rfl) fun w hF K' hK' => ?_)
       go_simp
       refine hK' _ ⟨?_, ?_⟩
       focus
         rw [listed_nil]
         · simp
         · (simp [go_sem]; done)
       clear hK' K' hF w
       try walk_nrm)
    | (refine o_cons (u_unwanted (by omega) rfl (by rfl) ?_)
       try walk_nrm))
  refine o_cons (u_new (by omega) hact rfl (by rfl) (.cells #[.int .i64 0] 32) (fun r => .pointer (some ⟨r, 0, none⟩)) (fun r => l.addc r #[.int .i64 0]) (fun w => ?_) (fun w => ?_) (new_cells hact _ _) fun r hr => ?_)
  · simp [go_sem]
  · simp [go_sem]
  have ht := ht r hr
  obtain ⟨l1, hl1⟩ : ∃ l1, l1 = l.addc r #[.int .i64 0] := ⟨_, rfl⟩
  have hbg : l1.res.tk (.begun p) = l.res.tk (.begun p) := by rw [hl1]; rfl
  rw [← hl1, ← hbg] at ht
  rw [← hl1]
  have hact1 : l1.md = .act := by rw [hl1]; exact hact
  have hpl1 : l1.pl p = some (ch, cap, so) := by rw [hl1]; exact hpl
  try walk_nrm
  repeat (first
    | (refine c_seq ?_)
    | (refine c_region ?_
       simp only [List.size_toArray, List.length_cons, List.length_nil, Nat.reduceAdd, Nat.zero_add, List.range, List.range.loop])
    | (refine o_nil ?_
       simp only [Thn, Inb, if_true, if_false, reduceIte, Nat.reduceEqDiff])
    | (refine c_skip ?_
       simp only [Thn, Inb, if_true, if_false, reduceIte, Nat.reduceEqDiff])
    | (refine c_cond true (by rfl) (fun _ => ?_) (fun e => by cases e))
    | (refine c_cond false (by rfl) (fun e => by cases e) (fun _ => ?_))
    | (refine c_block ?_)
    | (refine c_label ?_)
    | (refine o_cons (u_read (by omega) hact1 rfl (by rfl) fun w hF K' hK' => ?_)
       go_simp
       refine hK' _ ⟨?_, ?_⟩
       focus
         rw [listed_nil]
         · simp
         · (simp [go_sem]; done)
       clear hK' K' hF w
       try walk_nrm)
    | (refine o_cons (u_unwanted (by omega) rfl (by rfl) ?_)
       try walk_nrm))
  refine o_cons (u_defer (by omega) rfl (by rfl) rfl rfl ?_)
  try walk_nrm
  repeat (first
    | (refine c_seq ?_)
    | (refine c_region ?_
       simp only [List.size_toArray, List.length_cons, List.length_nil, Nat.reduceAdd, Nat.zero_add, List.range, List.range.loop])
    | (refine o_nil ?_
       simp only [Thn, Inb, if_true, if_false, reduceIte, Nat.reduceEqDiff])
    | (refine c_skip ?_
       simp only [Thn, Inb, if_true, if_false, reduceIte, Nat.reduceEqDiff])
    | (refine c_cond true (by rfl) (fun _ => ?_) (fun e => by cases e))
    | (refine c_cond false (by rfl) (fun e => by cases e) (fun _ => ?_))
    | (refine c_block ?_)
    | (refine c_label ?_)
    | (refine o_cons (u_read (by omega) hact1 rfl (by rfl) fun w hF K' hK' => ?_)
       go_simp
       refine hK' _ ⟨?_, ?_⟩
       focus
         rw [listed_nil]
         · simp
         · (simp [go_sem]; done)
       clear hK' K' hF w
       try walk_nrm)
    | (refine o_cons (u_unwanted (by omega) rfl (by rfl) ?_)
       try walk_nrm))
  refine o_cons (u_callx (n := n34) #[.pointer (some ⟨p, 3, none⟩), .int .i64 1] (by omega) rfl (by rfl) rfl (by walk_nrm) ?_)
  refine h34 E p 3 1 _ _ (quit_act hact1) ?_
  refine at_begun hact1 hpl1 fun v => ?_
  obtain ⟨l2, hl2⟩ : ∃ l2, l2 = l1.tok (.begun p) (l1.res.tk (.begun p) + 1) := ⟨_, rfl⟩
  rw [← hl2] at ht
  rw [← hl2]
  have hact2 : l2.md = .act := by rw [hl2]; exact hact1
  try walk_nrm
  repeat (first
    | (refine c_seq ?_)
    | (refine c_region ?_
       simp only [List.size_toArray, List.length_cons, List.length_nil, Nat.reduceAdd, Nat.zero_add, List.range, List.range.loop])
    | (refine o_nil ?_
       simp only [Thn, Inb, if_true, if_false, reduceIte, Nat.reduceEqDiff])
    | (refine c_skip ?_
       simp only [Thn, Inb, if_true, if_false, reduceIte, Nat.reduceEqDiff])
    | (refine c_cond true (by rfl) (fun _ => ?_) (fun e => by cases e))
    | (refine c_cond false (by rfl) (fun e => by cases e) (fun _ => ?_))
    | (refine c_block ?_)
    | (refine c_label ?_)
    | (refine o_cons (u_read (by omega) hact2 rfl (by rfl) fun w hF K' hK' => ?_)
       go_simp
       refine hK' _ ⟨?_, ?_⟩
       focus
         rw [listed_nil]
         · simp
         · (simp [go_sem]; done)
       clear hK' K' hF w
       try walk_nrm)
    | (refine o_cons (u_unwanted (by omega) rfl (by rfl) ?_)
       try walk_nrm))
  refine o_cons (u_callv (n := nt) (by omega) rfl (by rfl) rfl rfl ?_)
  simp only [List.map_toArray, List.map_nil, Array.append_empty]
  refine ht.mono fun v l' hp => ?_
  obtain ⟨hact', hown, x, rfl, hpost⟩ := hp
  try walk_nrm
  refine o_cons (u_store1 (.int .i64 x) (by omega) hact' rfl (by rfl) rfl (by rfl) rfl rfl rfl hown ?_)
  try walk_nrm
  obtain ⟨l3, hl3⟩ : ∃ l3, l3 = l'.setc ⟨r, 0, none⟩ (.int .i64 x) := ⟨_, rfl⟩
  rw [← hl3] at hpost
  rw [← hl3]
  have hact3 : l3.md = .act := by rw [hl3]; exact hact'
  repeat (first
    | (refine c_seq ?_)
    | (refine c_region ?_
       simp only [List.size_toArray, List.length_cons, List.length_nil, Nat.reduceAdd, Nat.zero_add, List.range, List.range.loop])
    | (refine o_nil ?_
       simp only [Thn, Inb, if_true, if_false, reduceIte, Nat.reduceEqDiff])
    | (refine c_skip ?_
       simp only [Thn, Inb, if_true, if_false, reduceIte, Nat.reduceEqDiff])
    | (refine c_cond true (by rfl) (fun _ => ?_) (fun e => by cases e))
    | (refine c_cond false (by rfl) (fun e => by cases e) (fun _ => ?_))
    | (refine c_block ?_)
    | (refine c_label ?_)
    | (refine o_cons (u_read (by omega) hact3 rfl (by rfl) fun w hF K' hK' => ?_)
       go_simp
       refine hK' _ ⟨?_, ?_⟩
       focus
         rw [listed_nil]
         · simp
         · (simp [go_sem]; done)
       clear hK' K' hF w
       try walk_nrm)
    | (refine o_cons (u_unwanted (by omega) rfl (by rfl) ?_)
       try walk_nrm))
  refine c_ret ?_
  refine ⟨.inr rfl, ⟨r, 0, none⟩, .int .i64 x, rfl, rfl, hact3, ?_, hpost⟩
  rw [hl3]
  simp [Lo.setc]

set_option maxHeartbeats 8000000 in
theorem run_nil (nt : Nat) : ∃ n, ∀ (E : En) (f : FuncId) (first capv : Array Value) (l : Lo) (Post : Value → Lo → Prop), l.md = .act →
    (∀ r, Fresh l r → E.N f (first ++ capv) nt (l.addc r #[.int .i64 0]) fun v l' => l'.md = .act ∧ l'.res.cells ⟨r, 0, none⟩ ≠ none ∧ ∃ x, v = .int .i64 x ∧ Post (.int .i64 x) (l'.setc ⟨r, 0, none⟩ (.int .i64 x))) →
    E.N 23 #[.pointer none, .func (.func f) first capv] n l Post := by
  refine ⟨_, fun E f first capv l Post hact ht => n_of_run (e := nt + 2) (L := 0) rfl ?_⟩
  have hq := quit_act hact
  simp only [act0, Try.ntmps23, List.size_toArray, List.length_cons, List.length_nil, Nat.reduceAdd, Nat.reduceSub, Array.replicate_succ, Array.replicate_zero, List.push_toArray, List.append_toArray, List.nil_append, List.cons_append]
  repeat (first
    | (refine c_seq ?_)
    | (refine c_region ?_
       simp only [List.size_toArray, List.length_cons, List.length_nil, Nat.reduceAdd, Nat.zero_add, List.range, List.range.loop])
    | (refine o_nil ?_
       simp only [Thn, Inb, if_true, if_false, reduceIte, Nat.reduceEqDiff])
    | (refine c_skip ?_
       simp only [Thn, Inb, if_true, if_false, reduceIte, Nat.reduceEqDiff])
    | (refine c_cond true (by rfl) (fun _ => ?_) (fun e => by cases e))
    | (refine c_cond false (by rfl) (fun e => by cases e) (fun _ => ?_))
    | (refine c_block ?_)
    | (refine c_label ?_)
    | (refine o_cons (u_read (by omega) hact rfl (by rfl) fun w hF K' hK' => ?_)
       go_simp
       refine hK' _ ⟨?_, ?_⟩
       focus
         rw [listed_nil]
         · simp
         · (simp [go_sem]; done)
       clear hK' K' hF w
       try walk_nrm)
    | (refine o_cons (u_unwanted (by omega) rfl (by rfl) ?_)
       try walk_nrm))
  refine o_cons (u_new (by omega) hact rfl (by rfl) (.cells #[.int .i64 0] 32) (fun r => .pointer (some ⟨r, 0, none⟩)) (fun r => l.addc r #[.int .i64 0]) (fun w => ?_) (fun w => ?_) (new_cells hact _ _) fun r hr => ?_)
  · simp [go_sem]
  · simp [go_sem]
  have ht := ht r hr
  obtain ⟨l1, hl1⟩ : ∃ l1, l1 = l.addc r #[.int .i64 0] := ⟨_, rfl⟩
  rw [← hl1] at ht
  rw [← hl1]
  have hact1 : l1.md = .act := by rw [hl1]; exact hact
  try walk_nrm
  repeat (first
    | (refine c_seq ?_)
    | (refine c_region ?_
       simp only [List.size_toArray, List.length_cons, List.length_nil, Nat.reduceAdd, Nat.zero_add, List.range, List.range.loop])
    | (refine o_nil ?_
       simp only [Thn, Inb, if_true, if_false, reduceIte, Nat.reduceEqDiff])
    | (refine c_skip ?_
       simp only [Thn, Inb, if_true, if_false, reduceIte, Nat.reduceEqDiff])
    | (refine c_cond true (by rfl) (fun _ => ?_) (fun e => by cases e))
    | (refine c_cond false (by rfl) (fun e => by cases e) (fun _ => ?_))
    | (refine c_block ?_)
    | (refine c_label ?_)
    | (refine o_cons (u_read (by omega) hact1 rfl (by rfl) fun w hF K' hK' => ?_)
       go_simp
       refine hK' _ ⟨?_, ?_⟩
       focus
         rw [listed_nil]
         · simp
         · (simp [go_sem]; done)
       clear hK' K' hF w
       try walk_nrm)
    | (refine o_cons (u_unwanted (by omega) rfl (by rfl) ?_)
       try walk_nrm))
  refine o_cons (u_defer (by omega) rfl (by rfl) rfl rfl ?_)
  try walk_nrm
  repeat (first
    | (refine c_seq ?_)
    | (refine c_region ?_
       simp only [List.size_toArray, List.length_cons, List.length_nil, Nat.reduceAdd, Nat.zero_add, List.range, List.range.loop])
    | (refine o_nil ?_
       simp only [Thn, Inb, if_true, if_false, reduceIte, Nat.reduceEqDiff])
    | (refine c_skip ?_
       simp only [Thn, Inb, if_true, if_false, reduceIte, Nat.reduceEqDiff])
    | (refine c_cond true (by rfl) (fun _ => ?_) (fun e => by cases e))
    | (refine c_cond false (by rfl) (fun e => by cases e) (fun _ => ?_))
    | (refine c_block ?_)
    | (refine c_label ?_)
    | (refine o_cons (u_read (by omega) hact1 rfl (by rfl) fun w hF K' hK' => ?_)
       go_simp
       refine hK' _ ⟨?_, ?_⟩
       focus
         rw [listed_nil]
         · simp
         · (simp [go_sem]; done)
       clear hK' K' hF w
       try walk_nrm)
    | (refine o_cons (u_unwanted (by omega) rfl (by rfl) ?_)
       try walk_nrm))
  refine o_cons (u_callv (n := nt) (by omega) rfl (by rfl) rfl rfl ?_)
  simp only [List.map_toArray, List.map_nil, Array.append_empty]
  refine ht.mono fun v l' hp => ?_
  obtain ⟨hact', hown, x, rfl, hpost⟩ := hp
  try walk_nrm
  refine o_cons (u_store1 (.int .i64 x) (by omega) hact' rfl (by rfl) rfl (by rfl) rfl rfl rfl hown ?_)
  try walk_nrm
  obtain ⟨l3, hl3⟩ : ∃ l3, l3 = l'.setc ⟨r, 0, none⟩ (.int .i64 x) := ⟨_, rfl⟩
  rw [← hl3] at hpost
  rw [← hl3]
  have hact3 : l3.md = .act := by rw [hl3]; exact hact'
  repeat (first
    | (refine c_seq ?_)
    | (refine c_region ?_
       simp only [List.size_toArray, List.length_cons, List.length_nil, Nat.reduceAdd, Nat.zero_add, List.range, List.range.loop])
    | (refine o_nil ?_
       simp only [Thn, Inb, if_true, if_false, reduceIte, Nat.reduceEqDiff])
    | (refine c_skip ?_
       simp only [Thn, Inb, if_true, if_false, reduceIte, Nat.reduceEqDiff])
    | (refine c_cond true (by rfl) (fun _ => ?_) (fun e => by cases e))
    | (refine c_cond false (by rfl) (fun e => by cases e) (fun _ => ?_))
    | (refine c_block ?_)
    | (refine c_label ?_)
    | (refine o_cons (u_read (by omega) hact3 rfl (by rfl) fun w hF K' hK' => ?_)
       go_simp
       refine hK' _ ⟨?_, ?_⟩
       focus
         rw [listed_nil]
         · simp
         · (simp [go_sem]; done)
       clear hK' K' hF w
       try walk_nrm)
    | (refine o_cons (u_unwanted (by omega) rfl (by rfl) ?_)
       try walk_nrm))
  refine c_ret ?_
  refine ⟨.inr rfl, ⟨r, 0, none⟩, .int .i64 x, rfl, rfl, hact3, ?_, hpost⟩
  rw [hl3]
  simp [Lo.setc]
end Go.Proofs.Ytofohjbcgchhoaa

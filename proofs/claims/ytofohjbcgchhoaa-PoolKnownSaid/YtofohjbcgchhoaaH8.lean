/-
  THE WALK: PoolKnown.
-/
import Derived.Test.YtofohjbcgchhoaaH4
import Derived.Test.YtofohjbcgchhoaaH7
namespace Go.Proofs.Ytofohjbcgchhoaa
open Go.Conc
open Go.RowKit
set_option maxRecDepth 100000
set_option linter.unusedSimpArgs false
set_option linter.unusedVariables false

def Fr4 (v18 : Value) (v19 : Value) (v20 : Value) (ds : List Deferred) (a : Act) : Prop := ∃ x0 x1 x2 x14 x15 x16 x17 x21 x22 x23 x24 x25 x26 x27 x28 x29 x30 : Value, a = ⟨#[x0, x1, x2, undef, undef, undef, undef, undef, undef, undef, undef, undef, undef, undef, x14, x15, x16, x17, v18, v19, v20, x21, x22, x23, x24, x25, x26, x27, x28, x29, x30, undef, undef, undef, undef, undef, undef, undef, undef, undef, undef, undef, undef, undef, undef, undef, undef, undef, undef, undef, undef, undef, undef, undef, undef, undef, undef, undef, undef, undef, undef, undef, undef, undef, undef, undef, undef, undef, undef, undef, undef, undef, undef, undef, undef, undef, undef, undef, undef, undef, undef, undef, undef, undef, undef, undef, undef, undef, undef, undef, undef, undef, undef, undef, undef, undef, undef, undef, undef, undef, undef, undef, undef, undef, undef, undef, undef, undef, undef, undef, undef, undef, undef, undef, undef, undef, undef, undef, undef, undef, undef, undef, undef, undef, undef, undef, undef, undef, undef, undef, undef, undef, undef, undef, undef, undef, undef, undef, undef, undef, undef, undef, undef, undef, undef, undef, undef, undef], ds⟩

def mu4 (a : Act) : Nat := match (a.tmps[20]? : Option Value) with | some (.int _ x) => 4 - x.toNat | _ => 0

set_option maxHeartbeats 16000000 in
theorem law4 : ∃ N, ∀ (E : En) (l : Lo), E.i = 0 → Calm l → E.B 4 #[] N l fun v l' => v = .bool true ∧ Calm l' := by
  obtain ⟨n6, h6⟩ := works6
  obtain ⟨n8, h8⟩ := newC
  obtain ⟨n8p, h8p⟩ := new8p
  obtain ⟨n17, h17⟩ := workers17
  obtain ⟨n16p, h16p⟩ := peak16p
  obtain ⟨n19, h19⟩ := together19
  obtain ⟨n19n, h19n⟩ := together_nil
  obtain ⟨n11n, h11n⟩ := do_none
  obtain ⟨n20, h20⟩ := answers20
  obtain ⟨nd1, hd1⟩ := do_ans 1
  obtain ⟨nd3, hd3⟩ := do_ans 3
  obtain ⟨ne1, he1⟩ := equal13 1
  obtain ⟨ne3, he3⟩ := equal13 3
  obtain ⟨n17n, h17n⟩ := workers_nil
  obtain ⟨n16n, h16n⟩ := peak_nil
  obtain ⟨n14n, h14n⟩ := alive_nil
  obtain ⟨n15n, h15n⟩ := begun_nil
  refine ⟨_, fun E l0 h0 hC0 => b_of (e := n6 + n8 + n8p + n17 + n16p + n19 + n19n + n11n + n20 + nd1 + nd3 + ne1 + ne3 + n17n + n16n + n14n + n15n + 2) (L := 6) Try.func4 (by rfl) rfl ?_⟩
  have hact0 := hC0.md
  simp only [act0, Try.ntmps4, List.size_toArray, List.length_cons, List.length_nil, Nat.reduceAdd, Nat.reduceSub, Array.replicate_succ, Array.replicate_zero, List.push_toArray, List.append_toArray, List.nil_append, List.cons_append]
  repeat (first
    | (refine c_seq ?_)
    | (refine c_region ?_
       simp only [List.size_toArray, List.length_cons, List.length_nil, Nat.reduceAdd, Nat.zero_add, List.range, List.range.loop])
    | (refine o_nil ?_
       simp only [Thn, Inb, if_true, if_false, reduceIte, Nat.reduceEqDiff])
    | (refine c_skip ?_
       simp only [Thn, Inb, if_true, if_false, reduceIte, Nat.reduceEqDiff])
    | (refine c_cond true (by rfl) (fun _ => ?_) (fun e => by cases e))
    | (refine c_cond false (by rfl) (fun e => by cases e) (fun _ => ?_))
    | (refine c_block ?_)
    | (refine c_label ?_
       simp only [Thn, Inb, if_true, if_false, reduceIte, Nat.reduceEqDiff])
    | (refine c_scope ?_)
    | (refine o_cons (u_read (by omega) hact0 rfl (by rfl) fun w hF K' hK' => ?_)
       go_simp
       refine hK' _ ⟨?_, ?_⟩
       focus
         rw [listed_nil]
         · simp
         · (simp [go_sem]; done)
       clear hK' K' hF w
       try walk_nrm)
    | (refine o_cons (u_unwanted (by omega) rfl (by rfl) ?_)
       try walk_nrm))
  refine o_cons (u_callx (n := n6) #[] (by omega) rfl (by rfl) rfl (by walk_nrm) ?_)
  refine h6 E l0 _ h0 hC0 fun ls1 hCs1 _ => ?_
  have hacts1 := hCs1.md
  try walk_nrm
  repeat (first
    | (refine c_seq ?_)
    | (refine c_region ?_
       simp only [List.size_toArray, List.length_cons, List.length_nil, Nat.reduceAdd, Nat.zero_add, List.range, List.range.loop])
    | (refine o_nil ?_
       simp only [Thn, Inb, if_true, if_false, reduceIte, Nat.reduceEqDiff])
    | (refine c_skip ?_
       simp only [Thn, Inb, if_true, if_false, reduceIte, Nat.reduceEqDiff])
    | (refine c_cond true (by rfl) (fun _ => ?_) (fun e => by cases e))
    | (refine c_cond false (by rfl) (fun e => by cases e) (fun _ => ?_))
    | (refine c_block ?_)
    | (refine c_label ?_
       simp only [Thn, Inb, if_true, if_false, reduceIte, Nat.reduceEqDiff])
    | (refine c_scope ?_)
    | (refine o_cons (u_read (by omega) hacts1 rfl (by rfl) fun w hF K' hK' => ?_)
       go_simp
       refine hK' _ ⟨?_, ?_⟩
       focus
         rw [listed_nil]
         · simp
         · (simp [go_sem]; done)
       clear hK' K' hF w
       try walk_nrm)
    | (refine o_cons (u_unwanted (by omega) rfl (by rfl) ?_)
       try walk_nrm))
  refine o_cons (u_new (by omega) hacts1 rfl (by rfl) (.cells #[.int .i64 1, .int .i64 1, .int .i64 2, .int .i64 3] 3) (fun r => .slice (some ⟨r, 0, none⟩) 4 4) (fun r => ls1.addc r #[.int .i64 1, .int .i64 1, .int .i64 2, .int .i64 3]) (fun w => by simp [go_sem]) (fun w => by simp [go_sem]) (new_cells hacts1 _ _) fun I hI => ?_)
  obtain ⟨ls2, hls2⟩ : ∃ ls2, ls2 = ls1.addc I #[.int .i64 1, .int .i64 1, .int .i64 2, .int .i64 3] := ⟨_, rfl⟩
  have gs2 : Grow ls1 ls2 := by rw [hls2]; exact (Grow.refl _).addc hI _
  have cI : ∀ i : Nat, i < 4 → ls2.res.cells ⟨I, i, none⟩ = some (.int .i64 (capOf i : Nat)) := fun i hi => by
    rw [hls2, addc_new]
    rcases (by omega : i = 0 ∨ i = 1 ∨ i = 2 ∨ i = 3) with rfl | rfl | rfl | rfl <;> rfl
  rw [← hls2]
  have hCs2 := hCs1.grow gs2
  have hacts2 := hCs2.md
  clear gs2 hls2 hI hacts1 hCs1
  try walk_nrm
  repeat (first
    | (refine c_seq ?_)
    | (refine c_region ?_
       simp only [List.size_toArray, List.length_cons, List.length_nil, Nat.reduceAdd, Nat.zero_add, List.range, List.range.loop])
    | (refine o_nil ?_
       simp only [Thn, Inb, if_true, if_false, reduceIte, Nat.reduceEqDiff])
    | (refine c_skip ?_
       simp only [Thn, Inb, if_true, if_false, reduceIte, Nat.reduceEqDiff])
    | (refine c_cond true (by rfl) (fun _ => ?_) (fun e => by cases e))
    | (refine c_cond false (by rfl) (fun e => by cases e) (fun _ => ?_))
    | (refine c_block ?_)
    | (refine c_label ?_
       simp only [Thn, Inb, if_true, if_false, reduceIte, Nat.reduceEqDiff])
    | (refine c_scope ?_)
    | (refine o_cons (u_read (by omega) hacts2 rfl (by rfl) fun w hF K' hK' => ?_)
       go_simp
       refine hK' _ ⟨?_, ?_⟩
       focus
         rw [listed_nil]
         · simp
         · (simp [go_sem]; done)
       clear hK' K' hF w
       try walk_nrm)
    | (refine o_cons (u_unwanted (by omega) rfl (by rfl) ?_)
       try walk_nrm))
  refine c_loop (fun a' l' => ∃ i, i ≤ 4 ∧ Calm l' ∧ (∀ i : Nat, i < 4 → l'.res.cells ⟨I, i, none⟩ = some (.int .i64 (capOf i : Nat))) ∧ Fr4 (.slice (some ⟨I, 0, none⟩) 4 4) (.int .i64 4) (.int .i64 (i : Nat)) [] a') (fun a' _ => mu4 a') ⟨0, by omega, hCs2, cI, ?_⟩ ?_ ?_
  focus
    exact ⟨_, _, _, _, _, _, _, _, _, _, _, _, _, _, _, _, _, rfl⟩
  focus
    show 4 - 0 ≤ _
    omega
  clear cI hacts2 hCs2
  intro a' l' hI
  obtain ⟨i, hin, hCl, cI, hfr⟩ := hI
  obtain ⟨x0, x1, x2, x14, x15, x16, x17, x21, x22, x23, x24, x25, x26, x27, x28, x29, x30, rfl⟩ := hfr
  rw [show mu4 _ = 4 - i from rfl]
  have hactl := hCl.md
  have hw2 : IntKind.i64.wrap ((i : Int) + 1) = (i : Int) + 1 := by rw [IntKind.wrap_i64]; omega
  by_cases hlt : i < 4
  · have hde : decide ((i : Int) < 4) = true := by simp; omega
    repeat (first
      | (refine c_seq ?_)
      | (refine c_region ?_
         simp only [List.size_toArray, List.length_cons, List.length_nil, Nat.reduceAdd, Nat.zero_add, List.range, List.range.loop])
      | (refine o_nil ?_
         simp only [Thn, Inb, if_true, if_false, reduceIte, Nat.reduceEqDiff])
      | (refine c_skip ?_
         simp only [Thn, Inb, if_true, if_false, reduceIte, Nat.reduceEqDiff])
      | (refine c_cond true (by rfl) (fun _ => ?_) (fun e => by cases e))
      | (refine c_cond false (by rfl) (fun e => by cases e) (fun _ => ?_))
      | (refine c_block ?_)
      | (refine c_label ?_
         simp only [Thn, Inb, if_true, if_false, reduceIte, Nat.reduceEqDiff])
      | (refine c_scope ?_)
      | (refine o_cons (u_read (by omega) hactl rfl (by rfl) fun w hF K' hK' => ?_)
         go_simp
         refine hK' _ ⟨?_, ?_⟩
         focus
           rw [listed_nil]
           · simp
           · (simp [go_sem]; done)
         clear hK' K' hF w
         try walk_nrm)
      | (refine o_cons (u_unwanted (by omega) rfl (by rfl) ?_)
         try walk_nrm))
    refine o_cons (u_index (A := ⟨I, 0, none⟩) (n := 4) (c := 4) (k := .i64) (m := i) (by omega) rfl (by rfl) rfl Try.underlying22 (by rfl) rfl rfl hlt ?_)
    try walk_nrm
    rw [Addr.add_lit, Nat.zero_add]
    refine o_cons (u_load (.int .i64 (capOf i : Nat)) (by omega) hactl rfl (by rfl) rfl Try.underlying3 rfl rfl (.inl (cI i hlt)) ?_)
    try walk_nrm
    repeat (first
      | (refine c_seq ?_)
      | (refine c_region ?_
         simp only [List.size_toArray, List.length_cons, List.length_nil, Nat.reduceAdd, Nat.zero_add, List.range, List.range.loop])
      | (refine o_nil ?_
         simp only [Thn, Inb, if_true, if_false, reduceIte, Nat.reduceEqDiff])
      | (refine c_skip ?_
         simp only [Thn, Inb, if_true, if_false, reduceIte, Nat.reduceEqDiff])
      | (refine c_cond true (by rfl) (fun _ => ?_) (fun e => by cases e))
      | (refine c_cond false (by rfl) (fun e => by cases e) (fun _ => ?_))
      | (refine c_block ?_)
      | (refine c_label ?_
         simp only [Thn, Inb, if_true, if_false, reduceIte, Nat.reduceEqDiff])
      | (refine c_scope ?_)
      | (refine o_cons (u_read (by omega) hactl rfl (by rfl) fun w hF K' hK' => ?_)
         go_simp
         refine hK' _ ⟨?_, ?_⟩
         focus
           rw [listed_nil]
           · simp
           · (simp [go_sem]; done)
         clear hK' K' hF w
         try walk_nrm)
      | (refine o_cons (u_unwanted (by omega) rfl (by rfl) ?_)
         try walk_nrm))
    refine o_cons (u_callx (n := n8) #[.int .i64 (i : Nat)] (by omega) rfl (by rfl) rfl (by walk_nrm) ?_)
    refine h8 E i false l' _ hCl fun chl pl lm hCm hLm hplm hrom => ?_
    have hactm := hCm.md
    have cIm : ∀ i : Nat, i < 4 → lm.res.cells ⟨I, i, none⟩ = some (.int .i64 (capOf i : Nat)) := fun i hi => by rw [hLm.cell _ (by rw [cI i hi]; simp), cI i hi]
    try walk_nrm
    repeat (first
      | (refine c_seq ?_)
      | (refine c_region ?_
         simp only [List.size_toArray, List.length_cons, List.length_nil, Nat.reduceAdd, Nat.zero_add, List.range, List.range.loop])
      | (refine o_nil ?_
         simp only [Thn, Inb, if_true, if_false, reduceIte, Nat.reduceEqDiff])
      | (refine c_skip ?_
         simp only [Thn, Inb, if_true, if_false, reduceIte, Nat.reduceEqDiff])
      | (refine c_cond true (by rfl) (fun _ => ?_) (fun e => by cases e))
      | (refine c_cond false (by rfl) (fun e => by cases e) (fun _ => ?_))
      | (refine c_block ?_)
      | (refine c_label ?_
         simp only [Thn, Inb, if_true, if_false, reduceIte, Nat.reduceEqDiff])
      | (refine c_scope ?_)
      | (refine o_cons (u_read (by omega) hactm rfl (by rfl) fun w hF K' hK' => ?_)
         go_simp
         refine hK' _ ⟨?_, ?_⟩
         focus
           rw [listed_nil]
           · simp
           · (simp [go_sem]; done)
         clear hK' K' hF w
         try walk_nrm)
      | (refine o_cons (u_unwanted (by omega) rfl (by rfl) ?_)
         try walk_nrm))
    refine o_cons (u_callx (n := n17) #[.pointer (some ⟨pl, 0, none⟩)] (by omega) rfl (by rfl) rfl (by walk_nrm) ?_)
    refine h17 E pl chl (capOf i) false lm _ hactm hplm hrom ?_
    try walk_nrm
    repeat (first
      | (refine c_seq ?_)
      | (refine c_region ?_
         simp only [List.size_toArray, List.length_cons, List.length_nil, Nat.reduceAdd, Nat.zero_add, List.range, List.range.loop])
      | (refine o_nil ?_
         simp only [Thn, Inb, if_true, if_false, reduceIte, Nat.reduceEqDiff])
      | (refine c_skip ?_
         simp only [Thn, Inb, if_true, if_false, reduceIte, Nat.reduceEqDiff])
      | (refine c_cond true (by rfl) (fun _ => ?_) (fun e => by cases e))
      | (refine c_cond false (by rfl) (fun e => by cases e) (fun _ => ?_))
      | (refine c_block ?_)
      | (refine c_label ?_
         simp only [Thn, Inb, if_true, if_false, reduceIte, Nat.reduceEqDiff])
      | (refine c_scope ?_)
      | (refine o_cons (u_read (by omega) hactm rfl (by rfl) fun w hF K' hK' => ?_)
         go_simp
         refine hK' _ ⟨?_, ?_⟩
         focus
           rw [listed_nil]
           · simp
           · (simp [go_sem]; done)
         clear hK' K' hF w
         try walk_nrm)
      | (refine o_cons (u_unwanted (by omega) rfl (by rfl) ?_)
         try walk_nrm))
    refine ⟨⟨i + 1, by omega, hCm, cIm, ?_⟩, ?_⟩
    · exact ⟨_, _, _, _, _, _, _, _, _, _, _, _, _, _, _, _, _, rfl⟩
    · show 4 - (i + 1) < 4 - i
      omega
  have hde : decide ((i : Int) < 4) = false := by simp; omega
  obtain rfl : i = 4 := by omega
  repeat (first
    | (refine c_seq ?_)
    | (refine c_region ?_
       simp only [List.size_toArray, List.length_cons, List.length_nil, Nat.reduceAdd, Nat.zero_add, List.range, List.range.loop])
    | (refine o_nil ?_
       simp only [Thn, Inb, if_true, if_false, reduceIte, Nat.reduceEqDiff])
    | (refine c_skip ?_
       simp only [Thn, Inb, if_true, if_false, reduceIte, Nat.reduceEqDiff])
    | (refine c_cond true (by rfl) (fun _ => ?_) (fun e => by cases e))
    | (refine c_cond false (by rfl) (fun e => by cases e) (fun _ => ?_))
    | (refine c_block ?_)
    | (refine c_label ?_
       simp only [Thn, Inb, if_true, if_false, reduceIte, Nat.reduceEqDiff])
    | (refine c_scope ?_)
    | (refine o_cons (u_read (by omega) hactl rfl (by rfl) fun w hF K' hK' => ?_)
       go_simp
       refine hK' _ ⟨?_, ?_⟩
       focus
         rw [listed_nil]
         · simp
         · (simp [go_sem]; done)
       clear hK' K' hF w
       try walk_nrm)
    | (refine o_cons (u_unwanted (by omega) rfl (by rfl) ?_)
       try walk_nrm))
  refine c_exit ?_
  simp only [Thn, Inb, if_true, reduceIte]
  clear cI hw2 hlt hde hin
  repeat (first
    | (refine c_seq ?_)
    | (refine c_region ?_
       simp only [List.size_toArray, List.length_cons, List.length_nil, Nat.reduceAdd, Nat.zero_add, List.range, List.range.loop])
    | (refine o_nil ?_
       simp only [Thn, Inb, if_true, if_false, reduceIte, Nat.reduceEqDiff])
    | (refine c_skip ?_
       simp only [Thn, Inb, if_true, if_false, reduceIte, Nat.reduceEqDiff])
    | (refine c_cond true (by rfl) (fun _ => ?_) (fun e => by cases e))
    | (refine c_cond false (by rfl) (fun e => by cases e) (fun _ => ?_))
    | (refine c_block ?_)
    | (refine c_label ?_
       simp only [Thn, Inb, if_true, if_false, reduceIte, Nat.reduceEqDiff])
    | (refine c_scope ?_)
    | (refine o_cons (u_read (by omega) hactl rfl (by rfl) fun w hF K' hK' => ?_)
       go_simp
       refine hK' _ ⟨?_, ?_⟩
       focus
         rw [listed_nil]
         · simp
         · (simp [go_sem]; done)
       clear hK' K' hF w
       try walk_nrm)
    | (refine o_cons (u_unwanted (by omega) rfl (by rfl) ?_)
       try walk_nrm))
  refine o_cons (u_callx (n := n8) #[.int .i64 (-5)] (by omega) rfl (by rfl) rfl (by walk_nrm) ?_)
  refine h8 E (-5) false l' _ hCl fun chs3 ps3 ls3 hCs3 _ hpls3 hros3 => ?_
  rw [show capOf (-5) = 1 from by decide] at hpls3
  have hacts3 := hCs3.md
  clear hactl hCl
  try walk_nrm
  repeat (first
    | (refine c_seq ?_)
    | (refine c_region ?_
       simp only [List.size_toArray, List.length_cons, List.length_nil, Nat.reduceAdd, Nat.zero_add, List.range, List.range.loop])
    | (refine o_nil ?_
       simp only [Thn, Inb, if_true, if_false, reduceIte, Nat.reduceEqDiff])
    | (refine c_skip ?_
       simp only [Thn, Inb, if_true, if_false, reduceIte, Nat.reduceEqDiff])
    | (refine c_cond true (by rfl) (fun _ => ?_) (fun e => by cases e))
    | (refine c_cond false (by rfl) (fun e => by cases e) (fun _ => ?_))
    | (refine c_block ?_)
    | (refine c_label ?_
       simp only [Thn, Inb, if_true, if_false, reduceIte, Nat.reduceEqDiff])
    | (refine c_scope ?_)
    | (refine o_cons (u_read (by omega) hacts3 rfl (by rfl) fun w hF K' hK' => ?_)
       go_simp
       refine hK' _ ⟨?_, ?_⟩
       focus
         rw [listed_nil]
         · simp
         · (simp [go_sem]; done)
       clear hK' K' hF w
       try walk_nrm)
    | (refine o_cons (u_unwanted (by omega) rfl (by rfl) ?_)
       try walk_nrm))
  refine o_cons (u_callx (n := n17) #[.pointer (some ⟨ps3, 0, none⟩)] (by omega) rfl (by rfl) rfl (by walk_nrm) ?_)
  refine h17 E ps3 chs3 1 false ls3 _ hacts3 hpls3 hros3 ?_
  try walk_nrm
  repeat (first
    | (refine c_seq ?_)
    | (refine c_region ?_
       simp only [List.size_toArray, List.length_cons, List.length_nil, Nat.reduceAdd, Nat.zero_add, List.range, List.range.loop])
    | (refine o_nil ?_
       simp only [Thn, Inb, if_true, if_false, reduceIte, Nat.reduceEqDiff])
    | (refine c_skip ?_
       simp only [Thn, Inb, if_true, if_false, reduceIte, Nat.reduceEqDiff])
    | (refine c_cond true (by rfl) (fun _ => ?_) (fun e => by cases e))
    | (refine c_cond false (by rfl) (fun e => by cases e) (fun _ => ?_))
    | (refine c_block ?_)
    | (refine c_label ?_
       simp only [Thn, Inb, if_true, if_false, reduceIte, Nat.reduceEqDiff])
    | (refine c_scope ?_)
    | (refine o_cons (u_read (by omega) hacts3 rfl (by rfl) fun w hF K' hK' => ?_)
       go_simp
       refine hK' _ ⟨?_, ?_⟩
       focus
         rw [listed_nil]
         · simp
         · (simp [go_sem]; done)
       clear hK' K' hF w
       try walk_nrm)
    | (refine o_cons (u_unwanted (by omega) rfl (by rfl) ?_)
       try walk_nrm))
  refine o_cons (u_callx (n := n8) #[.int .i64 (99)] (by omega) rfl (by rfl) rfl (by walk_nrm) ?_)
  refine h8 E (99) false ls3 _ hCs3 fun chs4 ps4 ls4 hCs4 _ hpls4 hros4 => ?_
  rw [show capOf (99) = 16 from by decide] at hpls4
  have hacts4 := hCs4.md
  clear hacts3 hCs3
  try walk_nrm
  repeat (first
    | (refine c_seq ?_)
    | (refine c_region ?_
       simp only [List.size_toArray, List.length_cons, List.length_nil, Nat.reduceAdd, Nat.zero_add, List.range, List.range.loop])
    | (refine o_nil ?_
       simp only [Thn, Inb, if_true, if_false, reduceIte, Nat.reduceEqDiff])
    | (refine c_skip ?_
       simp only [Thn, Inb, if_true, if_false, reduceIte, Nat.reduceEqDiff])
    | (refine c_cond true (by rfl) (fun _ => ?_) (fun e => by cases e))
    | (refine c_cond false (by rfl) (fun e => by cases e) (fun _ => ?_))
    | (refine c_block ?_)
    | (refine c_label ?_
       simp only [Thn, Inb, if_true, if_false, reduceIte, Nat.reduceEqDiff])
    | (refine c_scope ?_)
    | (refine o_cons (u_read (by omega) hacts4 rfl (by rfl) fun w hF K' hK' => ?_)
       go_simp
       refine hK' _ ⟨?_, ?_⟩
       focus
         rw [listed_nil]
         · simp
         · (simp [go_sem]; done)
       clear hK' K' hF w
       try walk_nrm)
    | (refine o_cons (u_unwanted (by omega) rfl (by rfl) ?_)
       try walk_nrm))
  refine o_cons (u_callx (n := n17) #[.pointer (some ⟨ps4, 0, none⟩)] (by omega) rfl (by rfl) rfl (by walk_nrm) ?_)
  refine h17 E ps4 chs4 16 false ls4 _ hacts4 hpls4 hros4 ?_
  try walk_nrm
  repeat (first
    | (refine c_seq ?_)
    | (refine c_region ?_
       simp only [List.size_toArray, List.length_cons, List.length_nil, Nat.reduceAdd, Nat.zero_add, List.range, List.range.loop])
    | (refine o_nil ?_
       simp only [Thn, Inb, if_true, if_false, reduceIte, Nat.reduceEqDiff])
    | (refine c_skip ?_
       simp only [Thn, Inb, if_true, if_false, reduceIte, Nat.reduceEqDiff])
    | (refine c_cond true (by rfl) (fun _ => ?_) (fun e => by cases e))
    | (refine c_cond false (by rfl) (fun e => by cases e) (fun _ => ?_))
    | (refine c_block ?_)
    | (refine c_label ?_
       simp only [Thn, Inb, if_true, if_false, reduceIte, Nat.reduceEqDiff])
    | (refine c_scope ?_)
    | (refine o_cons (u_read (by omega) hacts4 rfl (by rfl) fun w hF K' hK' => ?_)
       go_simp
       refine hK' _ ⟨?_, ?_⟩
       focus
         rw [listed_nil]
         · simp
         · (simp [go_sem]; done)
       clear hK' K' hF w
       try walk_nrm)
    | (refine o_cons (u_unwanted (by omega) rfl (by rfl) ?_)
       try walk_nrm))
  refine o_cons (u_callx (n := n8p) #[.int .i64 2] (by omega) rfl (by rfl) rfl (by walk_nrm) ?_)
  refine h8p E 2 ls4 _ hCs4 fun ps5 ls5 hCs5 _ hcps5 => ?_
  have hacts5 := hCs5.md
  clear hacts4 hCs4
  try walk_nrm
  repeat (first
    | (refine c_seq ?_)
    | (refine c_region ?_
       simp only [List.size_toArray, List.length_cons, List.length_nil, Nat.reduceAdd, Nat.zero_add, List.range, List.range.loop])
    | (refine o_nil ?_
       simp only [Thn, Inb, if_true, if_false, reduceIte, Nat.reduceEqDiff])
    | (refine c_skip ?_
       simp only [Thn, Inb, if_true, if_false, reduceIte, Nat.reduceEqDiff])
    | (refine c_cond true (by rfl) (fun _ => ?_) (fun e => by cases e))
    | (refine c_cond false (by rfl) (fun e => by cases e) (fun _ => ?_))
    | (refine c_block ?_)
    | (refine c_label ?_
       simp only [Thn, Inb, if_true, if_false, reduceIte, Nat.reduceEqDiff])
    | (refine c_scope ?_)
    | (refine o_cons (u_read (by omega) hacts5 rfl (by rfl) fun w hF K' hK' => ?_)
       go_simp
       refine hK' _ ⟨?_, ?_⟩
       focus
         rw [listed_nil]
         · simp
         · (simp [go_sem]; done)
       clear hK' K' hF w
       try walk_nrm)
    | (refine o_cons (u_unwanted (by omega) rfl (by rfl) ?_)
       try walk_nrm))
  refine o_cons (u_callx (n := n16p) #[.pointer (some ⟨ps5, 0, none⟩)] (by omega) rfl (by rfl) rfl (by walk_nrm) ?_)
  refine h16p E ps5 ls5 _ hacts5 hcps5 ?_
  try walk_nrm
  repeat (first
    | (refine c_seq ?_)
    | (refine c_region ?_
       simp only [List.size_toArray, List.length_cons, List.length_nil, Nat.reduceAdd, Nat.zero_add, List.range, List.range.loop])
    | (refine o_nil ?_
       simp only [Thn, Inb, if_true, if_false, reduceIte, Nat.reduceEqDiff])
    | (refine c_skip ?_
       simp only [Thn, Inb, if_true, if_false, reduceIte, Nat.reduceEqDiff])
    | (refine c_cond true (by rfl) (fun _ => ?_) (fun e => by cases e))
    | (refine c_cond false (by rfl) (fun e => by cases e) (fun _ => ?_))
    | (refine c_block ?_)
    | (refine c_label ?_
       simp only [Thn, Inb, if_true, if_false, reduceIte, Nat.reduceEqDiff])
    | (refine c_scope ?_)
    | (refine o_cons (u_read (by omega) hacts5 rfl (by rfl) fun w hF K' hK' => ?_)
       go_simp
       refine hK' _ ⟨?_, ?_⟩
       focus
         rw [listed_nil]
         · simp
         · (simp [go_sem]; done)
       clear hK' K' hF w
       try walk_nrm)
    | (refine o_cons (u_unwanted (by omega) rfl (by rfl) ?_)
       try walk_nrm))
  refine o_cons (u_callx (n := n8) #[.int .i64 (1)] (by omega) rfl (by rfl) rfl (by walk_nrm) ?_)
  refine h8 E (1) true ls5 _ hCs5 fun chs6 ps6 ls6 hCs6 _ hpls6 hros6 => ?_
  rw [show capOf (1) = 1 from by decide] at hpls6
  have hacts6 := hCs6.md
  clear hacts5 hCs5
  try walk_nrm
  repeat (first
    | (refine c_seq ?_)
    | (refine c_region ?_
       simp only [List.size_toArray, List.length_cons, List.length_nil, Nat.reduceAdd, Nat.zero_add, List.range, List.range.loop])
    | (refine o_nil ?_
       simp only [Thn, Inb, if_true, if_false, reduceIte, Nat.reduceEqDiff])
    | (refine c_skip ?_
       simp only [Thn, Inb, if_true, if_false, reduceIte, Nat.reduceEqDiff])
    | (refine c_cond true (by rfl) (fun _ => ?_) (fun e => by cases e))
    | (refine c_cond false (by rfl) (fun e => by cases e) (fun _ => ?_))
    | (refine c_block ?_)
    | (refine c_label ?_
       simp only [Thn, Inb, if_true, if_false, reduceIte, Nat.reduceEqDiff])
    | (refine c_scope ?_)
    | (refine o_cons (u_read (by omega) hacts6 rfl (by rfl) fun w hF K' hK' => ?_)
       go_simp
       refine hK' _ ⟨?_, ?_⟩
       focus
         rw [listed_nil]
         · simp
         · (simp [go_sem]; done)
       clear hK' K' hF w
       try walk_nrm)
    | (refine o_cons (u_unwanted (by omega) rfl (by rfl) ?_)
       try walk_nrm))
  refine o_cons (u_callx (n := n19) #[.pointer (some ⟨ps6, 0, none⟩), .int .i64 2] (by omega) rfl (by rfl) rfl (by walk_nrm) ?_)
  refine h19 E ls6 ps6 chs6 1 2 _ h0 hCs6 hpls6 hros6 (by omega) (by omega) (fun hno => by omega) (fun m hm1 hm2 hmm ls7 hCs7 _ _ _ _ => ?_)
  clear hm1 hm2 hmm
  have hacts7 := hCs7.md
  clear hacts6 hCs6 hpls6 hros6
  try walk_nrm
  repeat (first
    | (refine c_seq ?_)
    | (refine c_region ?_
       simp only [List.size_toArray, List.length_cons, List.length_nil, Nat.reduceAdd, Nat.zero_add, List.range, List.range.loop])
    | (refine o_nil ?_
       simp only [Thn, Inb, if_true, if_false, reduceIte, Nat.reduceEqDiff])
    | (refine c_skip ?_
       simp only [Thn, Inb, if_true, if_false, reduceIte, Nat.reduceEqDiff])
    | (refine c_cond true (by rfl) (fun _ => ?_) (fun e => by cases e))
    | (refine c_cond false (by rfl) (fun e => by cases e) (fun _ => ?_))
    | (refine c_block ?_)
    | (refine c_label ?_
       simp only [Thn, Inb, if_true, if_false, reduceIte, Nat.reduceEqDiff])
    | (refine c_scope ?_)
    | (refine o_cons (u_read (by omega) hacts7 rfl (by rfl) fun w hF K' hK' => ?_)
       go_simp
       refine hK' _ ⟨?_, ?_⟩
       focus
         rw [listed_nil]
         · simp
         · (simp [go_sem]; done)
       clear hK' K' hF w
       try walk_nrm)
    | (refine o_cons (u_unwanted (by omega) rfl (by rfl) ?_)
       try walk_nrm))
  refine o_cons (u_callx (n := n8) #[.int .i64 (1)] (by omega) rfl (by rfl) rfl (by walk_nrm) ?_)
  refine h8 E (1) true ls7 _ hCs7 fun chs8 ps8 ls8 hCs8 _ hpls8 hros8 => ?_
  rw [show capOf (1) = 1 from by decide] at hpls8
  have hacts8 := hCs8.md
  clear hacts7 hCs7
  try walk_nrm
  repeat (first
    | (refine c_seq ?_)
    | (refine c_region ?_
       simp only [List.size_toArray, List.length_cons, List.length_nil, Nat.reduceAdd, Nat.zero_add, List.range, List.range.loop])
    | (refine o_nil ?_
       simp only [Thn, Inb, if_true, if_false, reduceIte, Nat.reduceEqDiff])
    | (refine c_skip ?_
       simp only [Thn, Inb, if_true, if_false, reduceIte, Nat.reduceEqDiff])
    | (refine c_cond true (by rfl) (fun _ => ?_) (fun e => by cases e))
    | (refine c_cond false (by rfl) (fun e => by cases e) (fun _ => ?_))
    | (refine c_block ?_)
    | (refine c_label ?_
       simp only [Thn, Inb, if_true, if_false, reduceIte, Nat.reduceEqDiff])
    | (refine c_scope ?_)
    | (refine o_cons (u_read (by omega) hacts8 rfl (by rfl) fun w hF K' hK' => ?_)
       go_simp
       refine hK' _ ⟨?_, ?_⟩
       focus
         rw [listed_nil]
         · simp
         · (simp [go_sem]; done)
       clear hK' K' hF w
       try walk_nrm)
    | (refine o_cons (u_unwanted (by omega) rfl (by rfl) ?_)
       try walk_nrm))
  refine o_cons (u_callx (n := n19) #[.pointer (some ⟨ps8, 0, none⟩), .int .i64 3] (by omega) rfl (by rfl) rfl (by walk_nrm) ?_)
  refine h19 E ls8 ps8 chs8 1 3 _ h0 hCs8 hpls8 hros8 (by omega) (by omega) (fun _ ls9 hCs9 _ _ _ => ?_) (fun m hm1 hm2 hmm => by omega)
  have hacts9 := hCs9.md
  clear hacts8 hCs8 hpls8 hros8
  try walk_nrm
  repeat (first
    | (refine c_seq ?_)
    | (refine c_region ?_
       simp only [List.size_toArray, List.length_cons, List.length_nil, Nat.reduceAdd, Nat.zero_add, List.range, List.range.loop])
    | (refine o_nil ?_
       simp only [Thn, Inb, if_true, if_false, reduceIte, Nat.reduceEqDiff])
    | (refine c_skip ?_
       simp only [Thn, Inb, if_true, if_false, reduceIte, Nat.reduceEqDiff])
    | (refine c_cond true (by rfl) (fun _ => ?_) (fun e => by cases e))
    | (refine c_cond false (by rfl) (fun e => by cases e) (fun _ => ?_))
    | (refine c_block ?_)
    | (refine c_label ?_
       simp only [Thn, Inb, if_true, if_false, reduceIte, Nat.reduceEqDiff])
    | (refine c_scope ?_)
    | (refine o_cons (u_read (by omega) hacts9 rfl (by rfl) fun w hF K' hK' => ?_)
       go_simp
       refine hK' _ ⟨?_, ?_⟩
       focus
         rw [listed_nil]
         · simp
         · (simp [go_sem]; done)
       clear hK' K' hF w
       try walk_nrm)
    | (refine o_cons (u_unwanted (by omega) rfl (by rfl) ?_)
       try walk_nrm))
  refine o_cons (u_callx (n := n8) #[.int .i64 (4)] (by omega) rfl (by rfl) rfl (by walk_nrm) ?_)
  refine h8 E (4) true ls9 _ hCs9 fun chs10 ps10 ls10 hCs10 _ hpls10 hros10 => ?_
  rw [show capOf (4) = 4 from by decide] at hpls10
  have hacts10 := hCs10.md
  clear hacts9 hCs9
  try walk_nrm
  repeat (first
    | (refine c_seq ?_)
    | (refine c_region ?_
       simp only [List.size_toArray, List.length_cons, List.length_nil, Nat.reduceAdd, Nat.zero_add, List.range, List.range.loop])
    | (refine o_nil ?_
       simp only [Thn, Inb, if_true, if_false, reduceIte, Nat.reduceEqDiff])
    | (refine c_skip ?_
       simp only [Thn, Inb, if_true, if_false, reduceIte, Nat.reduceEqDiff])
    | (refine c_cond true (by rfl) (fun _ => ?_) (fun e => by cases e))
    | (refine c_cond false (by rfl) (fun e => by cases e) (fun _ => ?_))
    | (refine c_block ?_)
    | (refine c_label ?_
       simp only [Thn, Inb, if_true, if_false, reduceIte, Nat.reduceEqDiff])
    | (refine c_scope ?_)
    | (refine o_cons (u_read (by omega) hacts10 rfl (by rfl) fun w hF K' hK' => ?_)
       go_simp
       refine hK' _ ⟨?_, ?_⟩
       focus
         rw [listed_nil]
         · simp
         · (simp [go_sem]; done)
       clear hK' K' hF w
       try walk_nrm)
    | (refine o_cons (u_unwanted (by omega) rfl (by rfl) ?_)
       try walk_nrm))
  refine o_cons (u_callx (n := n19) #[.pointer (some ⟨ps10, 0, none⟩), .int .i64 5] (by omega) rfl (by rfl) rfl (by walk_nrm) ?_)
  refine h19 E ls10 ps10 chs10 4 5 _ h0 hCs10 hpls10 hros10 (by omega) (by omega) (fun hno => by omega) (fun m hm1 hm2 hmm ls11 hCs11 _ _ _ _ => ?_)
  clear hm1 hm2 hmm
  have hacts11 := hCs11.md
  clear hacts10 hCs10 hpls10 hros10
  try walk_nrm
  repeat (first
    | (refine c_seq ?_)
    | (refine c_region ?_
       simp only [List.size_toArray, List.length_cons, List.length_nil, Nat.reduceAdd, Nat.zero_add, List.range, List.range.loop])
    | (refine o_nil ?_
       simp only [Thn, Inb, if_true, if_false, reduceIte, Nat.reduceEqDiff])
    | (refine c_skip ?_
       simp only [Thn, Inb, if_true, if_false, reduceIte, Nat.reduceEqDiff])
    | (refine c_cond true (by rfl) (fun _ => ?_) (fun e => by cases e))
    | (refine c_cond false (by rfl) (fun e => by cases e) (fun _ => ?_))
    | (refine c_block ?_)
    | (refine c_label ?_
       simp only [Thn, Inb, if_true, if_false, reduceIte, Nat.reduceEqDiff])
    | (refine c_scope ?_)
    | (refine o_cons (u_read (by omega) hacts11 rfl (by rfl) fun w hF K' hK' => ?_)
       go_simp
       refine hK' _ ⟨?_, ?_⟩
       focus
         rw [listed_nil]
         · simp
         · (simp [go_sem]; done)
       clear hK' K' hF w
       try walk_nrm)
    | (refine o_cons (u_unwanted (by omega) rfl (by rfl) ?_)
       try walk_nrm))
  refine o_cons (u_callx (n := n8) #[.int .i64 (2)] (by omega) rfl (by rfl) rfl (by walk_nrm) ?_)
  refine h8 E (2) true ls11 _ hCs11 fun chs12 ps12 ls12 hCs12 _ hpls12 hros12 => ?_
  rw [show capOf (2) = 2 from by decide] at hpls12
  have hacts12 := hCs12.md
  clear hacts11 hCs11
  try walk_nrm
  repeat (first
    | (refine c_seq ?_)
    | (refine c_region ?_
       simp only [List.size_toArray, List.length_cons, List.length_nil, Nat.reduceAdd, Nat.zero_add, List.range, List.range.loop])
    | (refine o_nil ?_
       simp only [Thn, Inb, if_true, if_false, reduceIte, Nat.reduceEqDiff])
    | (refine c_skip ?_
       simp only [Thn, Inb, if_true, if_false, reduceIte, Nat.reduceEqDiff])
    | (refine c_cond true (by rfl) (fun _ => ?_) (fun e => by cases e))
    | (refine c_cond false (by rfl) (fun e => by cases e) (fun _ => ?_))
    | (refine c_block ?_)
    | (refine c_label ?_
       simp only [Thn, Inb, if_true, if_false, reduceIte, Nat.reduceEqDiff])
    | (refine c_scope ?_)
    | (refine o_cons (u_read (by omega) hacts12 rfl (by rfl) fun w hF K' hK' => ?_)
       go_simp
       refine hK' _ ⟨?_, ?_⟩
       focus
         rw [listed_nil]
         · simp
         · (simp [go_sem]; done)
       clear hK' K' hF w
       try walk_nrm)
    | (refine o_cons (u_unwanted (by omega) rfl (by rfl) ?_)
       try walk_nrm))
  refine o_cons (u_callx (n := n19) #[.pointer (some ⟨ps12, 0, none⟩), .int .i64 0] (by omega) rfl (by rfl) rfl (by walk_nrm) ?_)
  refine h19 E ls12 ps12 chs12 2 0 _ h0 hCs12 hpls12 hros12 (by omega) (by omega) (fun _ ls13 hCs13 _ _ _ => ?_) (fun m hm1 hm2 hmm => by omega)
  have hacts13 := hCs13.md
  clear hacts12 hCs12 hpls12 hros12
  try walk_nrm
  repeat (first
    | (refine c_seq ?_)
    | (refine c_region ?_
       simp only [List.size_toArray, List.length_cons, List.length_nil, Nat.reduceAdd, Nat.zero_add, List.range, List.range.loop])
    | (refine o_nil ?_
       simp only [Thn, Inb, if_true, if_false, reduceIte, Nat.reduceEqDiff])
    | (refine c_skip ?_
       simp only [Thn, Inb, if_true, if_false, reduceIte, Nat.reduceEqDiff])
    | (refine c_cond true (by rfl) (fun _ => ?_) (fun e => by cases e))
    | (refine c_cond false (by rfl) (fun e => by cases e) (fun _ => ?_))
    | (refine c_block ?_)
    | (refine c_label ?_
       simp only [Thn, Inb, if_true, if_false, reduceIte, Nat.reduceEqDiff])
    | (refine c_scope ?_)
    | (refine o_cons (u_read (by omega) hacts13 rfl (by rfl) fun w hF K' hK' => ?_)
       go_simp
       refine hK' _ ⟨?_, ?_⟩
       focus
         rw [listed_nil]
         · simp
         · (simp [go_sem]; done)
       clear hK' K' hF w
       try walk_nrm)
    | (refine o_cons (u_unwanted (by omega) rfl (by rfl) ?_)
       try walk_nrm))
  refine o_cons (u_callx (n := n19n) #[.pointer none, .int .i64 1] (by omega) rfl (by rfl) rfl (by walk_nrm) ?_)
  refine h19n E 1 ls13 _ hacts13 fun ls14 gs14 => ?_
  have hCs14 := hCs13.grow gs14
  have hacts14 := hCs14.md
  clear gs14 hCs13 hacts13
  try walk_nrm
  repeat (first
    | (refine c_seq ?_)
    | (refine c_region ?_
       simp only [List.size_toArray, List.length_cons, List.length_nil, Nat.reduceAdd, Nat.zero_add, List.range, List.range.loop])
    | (refine o_nil ?_
       simp only [Thn, Inb, if_true, if_false, reduceIte, Nat.reduceEqDiff])
    | (refine c_skip ?_
       simp only [Thn, Inb, if_true, if_false, reduceIte, Nat.reduceEqDiff])
    | (refine c_cond true (by rfl) (fun _ => ?_) (fun e => by cases e))
    | (refine c_cond false (by rfl) (fun e => by cases e) (fun _ => ?_))
    | (refine c_block ?_)
    | (refine c_label ?_
       simp only [Thn, Inb, if_true, if_false, reduceIte, Nat.reduceEqDiff])
    | (refine c_scope ?_)
    | (refine o_cons (u_read (by omega) hacts14 rfl (by rfl) fun w hF K' hK' => ?_)
       go_simp
       refine hK' _ ⟨?_, ?_⟩
       focus
         rw [listed_nil]
         · simp
         · (simp [go_sem]; done)
       clear hK' K' hF w
       try walk_nrm)
    | (refine o_cons (u_unwanted (by omega) rfl (by rfl) ?_)
       try walk_nrm))
  refine o_cons (u_callx (n := n8) #[.int .i64 (2)] (by omega) rfl (by rfl) rfl (by walk_nrm) ?_)
  refine h8 E (2) false ls14 _ hCs14 fun chs15 ps15 ls15 hCs15 _ hpls15 hros15 => ?_
  rw [show capOf (2) = 2 from by decide] at hpls15
  have hacts15 := hCs15.md
  clear hacts14 hCs14
  try walk_nrm
  repeat (first
    | (refine c_seq ?_)
    | (refine c_region ?_
       simp only [List.size_toArray, List.length_cons, List.length_nil, Nat.reduceAdd, Nat.zero_add, List.range, List.range.loop])
    | (refine o_nil ?_
       simp only [Thn, Inb, if_true, if_false, reduceIte, Nat.reduceEqDiff])
    | (refine c_skip ?_
       simp only [Thn, Inb, if_true, if_false, reduceIte, Nat.reduceEqDiff])
    | (refine c_cond true (by rfl) (fun _ => ?_) (fun e => by cases e))
    | (refine c_cond false (by rfl) (fun e => by cases e) (fun _ => ?_))
    | (refine c_block ?_)
    | (refine c_label ?_
       simp only [Thn, Inb, if_true, if_false, reduceIte, Nat.reduceEqDiff])
    | (refine c_scope ?_)
    | (refine o_cons (u_read (by omega) hacts15 rfl (by rfl) fun w hF K' hK' => ?_)
       go_simp
       refine hK' _ ⟨?_, ?_⟩
       focus
         rw [listed_nil]
         · simp
         · (simp [go_sem]; done)
       clear hK' K' hF w
       try walk_nrm)
    | (refine o_cons (u_unwanted (by omega) rfl (by rfl) ?_)
       try walk_nrm))
  refine o_cons (u_callx (n := n11n) #[.pointer (some ⟨ps15, 0, none⟩), .slice none 0 0] (by omega) rfl (by rfl) rfl (by walk_nrm) ?_)
  refine h11n E (some ⟨ps15, 0, none⟩) ls15 _ hacts15 fun ls16 gs16 => ?_
  have hCs16 := hCs15.grow gs16
  have hacts16 := hCs16.md
  clear gs16 hCs15 hacts15
  try walk_nrm
  refine o_cons (u_slicenil (by omega) rfl (by rfl) rfl rfl ?_)
  try walk_nrm
  repeat (first
    | (refine c_seq ?_)
    | (refine c_region ?_
       simp only [List.size_toArray, List.length_cons, List.length_nil, Nat.reduceAdd, Nat.zero_add, List.range, List.range.loop])
    | (refine o_nil ?_
       simp only [Thn, Inb, if_true, if_false, reduceIte, Nat.reduceEqDiff])
    | (refine c_skip ?_
       simp only [Thn, Inb, if_true, if_false, reduceIte, Nat.reduceEqDiff])
    | (refine c_cond true (by rfl) (fun _ => ?_) (fun e => by cases e))
    | (refine c_cond false (by rfl) (fun e => by cases e) (fun _ => ?_))
    | (refine c_block ?_)
    | (refine c_label ?_
       simp only [Thn, Inb, if_true, if_false, reduceIte, Nat.reduceEqDiff])
    | (refine c_scope ?_)
    | (refine o_cons (u_read (by omega) hacts16 rfl (by rfl) fun w hF K' hK' => ?_)
       go_simp
       refine hK' _ ⟨?_, ?_⟩
       focus
         rw [listed_nil]
         · simp
         · (simp [go_sem]; done)
       clear hK' K' hF w
       try walk_nrm)
    | (refine o_cons (u_unwanted (by omega) rfl (by rfl) ?_)
       try walk_nrm))
  refine o_cons (u_callx (n := n8) #[.int .i64 (2)] (by omega) rfl (by rfl) rfl (by walk_nrm) ?_)
  refine h8 E (2) false ls16 _ hCs16 fun chs17 ps17 ls17 hCs17 _ hpls17 hros17 => ?_
  rw [show capOf (2) = 2 from by decide] at hpls17
  have hacts17 := hCs17.md
  clear hacts16 hCs16
  try walk_nrm
  repeat (first
    | (refine c_seq ?_)
    | (refine c_region ?_
       simp only [List.size_toArray, List.length_cons, List.length_nil, Nat.reduceAdd, Nat.zero_add, List.range, List.range.loop])
    | (refine o_nil ?_
       simp only [Thn, Inb, if_true, if_false, reduceIte, Nat.reduceEqDiff])
    | (refine c_skip ?_
       simp only [Thn, Inb, if_true, if_false, reduceIte, Nat.reduceEqDiff])
    | (refine c_cond true (by rfl) (fun _ => ?_) (fun e => by cases e))
    | (refine c_cond false (by rfl) (fun e => by cases e) (fun _ => ?_))
    | (refine c_block ?_)
    | (refine c_label ?_
       simp only [Thn, Inb, if_true, if_false, reduceIte, Nat.reduceEqDiff])
    | (refine c_scope ?_)
    | (refine o_cons (u_read (by omega) hacts17 rfl (by rfl) fun w hF K' hK' => ?_)
       go_simp
       refine hK' _ ⟨?_, ?_⟩
       focus
         rw [listed_nil]
         · simp
         · (simp [go_sem]; done)
       clear hK' K' hF w
       try walk_nrm)
    | (refine o_cons (u_unwanted (by omega) rfl (by rfl) ?_)
       try walk_nrm))
  refine o_cons (u_new (by omega) hacts17 rfl (by rfl) (.cells #[.nilFunc] 34) (fun r => .slice (some ⟨r, 0, none⟩) 1 1) (fun r => ls17.addc r #[.nilFunc]) (fun w => by simp [go_sem]) (fun w => by simp [go_sem]) (new_cells hacts17 _ _) fun A hA => ?_)
  obtain ⟨ls18, hls18⟩ : ∃ ls18, ls18 = ls17.addc A #[.nilFunc] := ⟨_, rfl⟩
  have gs18 : Grow ls17 ls18 := by rw [hls18]; exact (Grow.refl _).addc hA _
  have cA : ∀ j : Nat, ls18.res.cells ⟨A, j, none⟩ = #[.nilFunc][j]? := fun j => by rw [hls18, addc_new]
  rw [← hls18]
  have hCs18 := hCs17.grow gs18
  have hacts18 := hCs18.md
  have hplA : ls18.pl ps17 = some (chs17, 2, false) := by rw [gs18.pl]; exact hpls17
  have hroA : ls18.ro ⟨ps17, 0, none⟩ (.chan (some chs17)) := gs18.ro _ _ hros17
  clear hls18 gs18 hA hacts17 hCs17 hpls17 hros17
  try walk_nrm
  repeat (first
    | (refine c_seq ?_)
    | (refine c_region ?_
       simp only [List.size_toArray, List.length_cons, List.length_nil, Nat.reduceAdd, Nat.zero_add, List.range, List.range.loop])
    | (refine o_nil ?_
       simp only [Thn, Inb, if_true, if_false, reduceIte, Nat.reduceEqDiff])
    | (refine c_skip ?_
       simp only [Thn, Inb, if_true, if_false, reduceIte, Nat.reduceEqDiff])
    | (refine c_cond true (by rfl) (fun _ => ?_) (fun e => by cases e))
    | (refine c_cond false (by rfl) (fun e => by cases e) (fun _ => ?_))
    | (refine c_block ?_)
    | (refine c_label ?_
       simp only [Thn, Inb, if_true, if_false, reduceIte, Nat.reduceEqDiff])
    | (refine c_scope ?_)
    | (refine o_cons (u_read (by omega) hacts18 rfl (by rfl) fun w hF K' hK' => ?_)
       go_simp
       refine hK' _ ⟨?_, ?_⟩
       focus
         rw [listed_nil]
         · simp
         · (simp [go_sem]; done)
       clear hK' K' hF w
       try walk_nrm)
    | (refine o_cons (u_unwanted (by omega) rfl (by rfl) ?_)
       try walk_nrm))
  refine o_cons (u_callx (n := nd1) #[.pointer (some ⟨ps17, 0, none⟩), .slice (some ⟨A, 0, none⟩) 1 1] (by omega) rfl (by rfl) rfl (by walk_nrm) ?_)
  refine (hd1 E ls18 A 1 (fun _ => none) (some (ps17, chs17, 2)) (by omega) (by omega) hCs18 (fun j hj => ?_) (fun j b x hj e => by cases e) (fun i j b x c y hi hj hne e e' => by cases e) (fun p' ch' cap' e => ?_)).mono fun v ls19 hp => ?_
  · rw [cA]
    obtain rfl : j = 0 := by omega
    rfl
  · cases e
    exact ⟨hplA, hroA, by omega⟩
  obtain ⟨O, rfl, hO, hCs19, hLs19, _, _⟩ := hp
  have hacts19 := hCs19.md
  have hO0 := hO 0 (by omega)
  clear hO cA hplA hroA hLs19 hacts18 hCs18
  try walk_nrm
  repeat (first
    | (refine c_seq ?_)
    | (refine c_region ?_
       simp only [List.size_toArray, List.length_cons, List.length_nil, Nat.reduceAdd, Nat.zero_add, List.range, List.range.loop])
    | (refine o_nil ?_
       simp only [Thn, Inb, if_true, if_false, reduceIte, Nat.reduceEqDiff])
    | (refine c_skip ?_
       simp only [Thn, Inb, if_true, if_false, reduceIte, Nat.reduceEqDiff])
    | (refine c_cond true (by rfl) (fun _ => ?_) (fun e => by cases e))
    | (refine c_cond false (by rfl) (fun e => by cases e) (fun _ => ?_))
    | (refine c_block ?_)
    | (refine c_label ?_
       simp only [Thn, Inb, if_true, if_false, reduceIte, Nat.reduceEqDiff])
    | (refine c_scope ?_)
    | (refine o_cons (u_read (by omega) hacts19 rfl (by rfl) fun w hF K' hK' => ?_)
       go_simp
       refine hK' _ ⟨?_, ?_⟩
       focus
         rw [listed_nil]
         · simp
         · (simp [go_sem]; done)
       clear hK' K' hF w
       try walk_nrm)
    | (refine o_cons (u_unwanted (by omega) rfl (by rfl) ?_)
       try walk_nrm))
  refine o_cons (u_new (by omega) hacts19 rfl (by rfl) (.cells #[.int .i64 1] 32) (fun r => .slice (some ⟨r, 0, none⟩) 1 1) (fun r => ls19.addc r #[.int .i64 1]) (fun w => by simp [go_sem]) (fun w => by simp [go_sem]) (new_cells hacts19 _ _) fun B hB => ?_)
  obtain ⟨ls20, hls20⟩ : ∃ ls20, ls20 = ls19.addc B #[.int .i64 1] := ⟨_, rfl⟩
  have gs20 : Grow ls19 ls20 := by rw [hls20]; exact (Grow.refl _).addc hB _
  have cB : ∀ j : Nat, ls20.res.cells ⟨B, j, none⟩ = #[.int .i64 1][j]? := fun j => by rw [hls20, addc_new]
  rw [← hls20]
  have hCs20 := hCs19.grow gs20
  have hacts20 := hCs20.md
  have hO1 : ls20.res.cells ⟨O, 0, none⟩ = some (.int .i64 1) := by rw [gs20.cell _ (by rw [hO0]; simp), hO0]; rfl
  clear hls20 gs20 hB hO0 hacts19 hCs19
  try walk_nrm
  repeat (first
    | (refine c_seq ?_)
    | (refine c_region ?_
       simp only [List.size_toArray, List.length_cons, List.length_nil, Nat.reduceAdd, Nat.zero_add, List.range, List.range.loop])
    | (refine o_nil ?_
       simp only [Thn, Inb, if_true, if_false, reduceIte, Nat.reduceEqDiff])
    | (refine c_skip ?_
       simp only [Thn, Inb, if_true, if_false, reduceIte, Nat.reduceEqDiff])
    | (refine c_cond true (by rfl) (fun _ => ?_) (fun e => by cases e))
    | (refine c_cond false (by rfl) (fun e => by cases e) (fun _ => ?_))
    | (refine c_block ?_)
    | (refine c_label ?_
       simp only [Thn, Inb, if_true, if_false, reduceIte, Nat.reduceEqDiff])
    | (refine c_scope ?_)
    | (refine o_cons (u_read (by omega) hacts20 rfl (by rfl) fun w hF K' hK' => ?_)
       go_simp
       refine hK' _ ⟨?_, ?_⟩
       focus
         rw [listed_nil]
         · simp
         · (simp [go_sem]; done)
       clear hK' K' hF w
       try walk_nrm)
    | (refine o_cons (u_unwanted (by omega) rfl (by rfl) ?_)
       try walk_nrm))
  refine o_cons (u_callx (n := ne1) #[.slice (some ⟨O, 0, none⟩) 1 1, .slice (some ⟨B, 0, none⟩) 1 1] (by omega) rfl (by rfl) rfl (by walk_nrm) ?_)
  refine he1 E ⟨O, 0, none⟩ ⟨B, 0, none⟩ 1 1 (fun _ => 1) ls20 _ (by omega) hacts20 (fun j hj => ?_) (fun j hj => ?_) ?_
  · obtain rfl : j = 0 := by omega
    exact hO1
  · obtain rfl : j = 0 := by omega
    exact cB 0
  clear hO1 cB
  try walk_nrm
  repeat (first
    | (refine c_seq ?_)
    | (refine c_region ?_
       simp only [List.size_toArray, List.length_cons, List.length_nil, Nat.reduceAdd, Nat.zero_add, List.range, List.range.loop])
    | (refine o_nil ?_
       simp only [Thn, Inb, if_true, if_false, reduceIte, Nat.reduceEqDiff])
    | (refine c_skip ?_
       simp only [Thn, Inb, if_true, if_false, reduceIte, Nat.reduceEqDiff])
    | (refine c_cond true (by rfl) (fun _ => ?_) (fun e => by cases e))
    | (refine c_cond false (by rfl) (fun e => by cases e) (fun _ => ?_))
    | (refine c_block ?_)
    | (refine c_label ?_
       simp only [Thn, Inb, if_true, if_false, reduceIte, Nat.reduceEqDiff])
    | (refine c_scope ?_)
    | (refine o_cons (u_read (by omega) hacts20 rfl (by rfl) fun w hF K' hK' => ?_)
       go_simp
       refine hK' _ ⟨?_, ?_⟩
       focus
         rw [listed_nil]
         · simp
         · (simp [go_sem]; done)
       clear hK' K' hF w
       try walk_nrm)
    | (refine o_cons (u_unwanted (by omega) rfl (by rfl) ?_)
       try walk_nrm))
  refine o_cons (u_callx (n := n20) #[.int .i64 3] (by omega) rfl (by rfl) rfl (by walk_nrm) ?_)
  refine h20 E 3 ls20 _ hacts20 fun b0 hb0 => ?_
  obtain ⟨ls21, hls21⟩ : ∃ ls21, ls21 = ls20.addc b0 #[.int .i64 3] := ⟨_, rfl⟩
  have gs21 : Grow ls20 ls21 := by rw [hls21]; exact (Grow.refl _).addc hb0 _
  have cb0 : ls21.res.cells ⟨b0, 0, none⟩ = some (.int .i64 3) := by rw [hls21, addc_new]; rfl
  rw [← hls21]
  have hCs21 := hCs20.grow gs21
  have hacts21 := hCs21.md
  clear hls21 gs21 hb0 hacts20 hCs20
  try walk_nrm
  repeat (first
    | (refine c_seq ?_)
    | (refine c_region ?_
       simp only [List.size_toArray, List.length_cons, List.length_nil, Nat.reduceAdd, Nat.zero_add, List.range, List.range.loop])
    | (refine o_nil ?_
       simp only [Thn, Inb, if_true, if_false, reduceIte, Nat.reduceEqDiff])
    | (refine c_skip ?_
       simp only [Thn, Inb, if_true, if_false, reduceIte, Nat.reduceEqDiff])
    | (refine c_cond true (by rfl) (fun _ => ?_) (fun e => by cases e))
    | (refine c_cond false (by rfl) (fun e => by cases e) (fun _ => ?_))
    | (refine c_block ?_)
    | (refine c_label ?_
       simp only [Thn, Inb, if_true, if_false, reduceIte, Nat.reduceEqDiff])
    | (refine c_scope ?_)
    | (refine o_cons (u_read (by omega) hacts21 rfl (by rfl) fun w hF K' hK' => ?_)
       go_simp
       refine hK' _ ⟨?_, ?_⟩
       focus
         rw [listed_nil]
         · simp
         · (simp [go_sem]; done)
       clear hK' K' hF w
       try walk_nrm)
    | (refine o_cons (u_unwanted (by omega) rfl (by rfl) ?_)
       try walk_nrm))
  refine o_cons (u_callx (n := n20) #[.int .i64 4] (by omega) rfl (by rfl) rfl (by walk_nrm) ?_)
  refine h20 E 4 ls21 _ hacts21 fun b2 hb2 => ?_
  have n02 : b0 ≠ b2 := fun e => by have := hb2.cell ⟨b0, 0, none⟩ e; rw [cb0] at this; cases this
  obtain ⟨ls22, hls22⟩ : ∃ ls22, ls22 = ls21.addc b2 #[.int .i64 4] := ⟨_, rfl⟩
  have gs22 : Grow ls21 ls22 := by rw [hls22]; exact (Grow.refl _).addc hb2 _
  have cb2 : ls22.res.cells ⟨b2, 0, none⟩ = some (.int .i64 4) := by rw [hls22, addc_new]; rfl
  have cb0' : ls22.res.cells ⟨b0, 0, none⟩ = some (.int .i64 3) := by rw [gs22.cell _ (by rw [cb0]; simp), cb0]
  rw [← hls22]
  have hCs22 := hCs21.grow gs22
  have hacts22 := hCs22.md
  clear hls22 gs22 hb2 hacts21 hCs21 cb0
  try walk_nrm
  repeat (first
    | (refine c_seq ?_)
    | (refine c_region ?_
       simp only [List.size_toArray, List.length_cons, List.length_nil, Nat.reduceAdd, Nat.zero_add, List.range, List.range.loop])
    | (refine o_nil ?_
       simp only [Thn, Inb, if_true, if_false, reduceIte, Nat.reduceEqDiff])
    | (refine c_skip ?_
       simp only [Thn, Inb, if_true, if_false, reduceIte, Nat.reduceEqDiff])
    | (refine c_cond true (by rfl) (fun _ => ?_) (fun e => by cases e))
    | (refine c_cond false (by rfl) (fun e => by cases e) (fun _ => ?_))
    | (refine c_block ?_)
    | (refine c_label ?_
       simp only [Thn, Inb, if_true, if_false, reduceIte, Nat.reduceEqDiff])
    | (refine c_scope ?_)
    | (refine o_cons (u_read (by omega) hacts22 rfl (by rfl) fun w hF K' hK' => ?_)
       go_simp
       refine hK' _ ⟨?_, ?_⟩
       focus
         rw [listed_nil]
         · simp
         · (simp [go_sem]; done)
       clear hK' K' hF w
       try walk_nrm)
    | (refine o_cons (u_unwanted (by omega) rfl (by rfl) ?_)
       try walk_nrm))
  refine o_cons (u_new (by omega) hacts22 rfl (by rfl) (.cells #[.func (.func 35) #[] #[.pointer (some ⟨b0, 0, none⟩)], .nilFunc, .func (.func 35) #[] #[.pointer (some ⟨b2, 0, none⟩)]] 34) (fun r => .slice (some ⟨r, 0, none⟩) 3 3) (fun r => ls22.addc r #[.func (.func 35) #[] #[.pointer (some ⟨b0, 0, none⟩)], .nilFunc, .func (.func 35) #[] #[.pointer (some ⟨b2, 0, none⟩)]]) (fun w => by simp [go_sem]) (fun w => by simp [go_sem]) (new_cells hacts22 _ _) fun A2 hA2 => ?_)
  obtain ⟨ls23, hls23⟩ : ∃ ls23, ls23 = ls22.addc A2 #[.func (.func 35) #[] #[.pointer (some ⟨b0, 0, none⟩)], .nilFunc, .func (.func 35) #[] #[.pointer (some ⟨b2, 0, none⟩)]] := ⟨_, rfl⟩
  have gs23 : Grow ls22 ls23 := by rw [hls23]; exact (Grow.refl _).addc hA2 _
  have cA2 : ∀ j : Nat, ls23.res.cells ⟨A2, j, none⟩ = #[.func (.func 35) #[] #[.pointer (some ⟨b0, 0, none⟩)], .nilFunc, .func (.func 35) #[] #[.pointer (some ⟨b2, 0, none⟩)]][j]? := fun j => by rw [hls23, addc_new]
  rw [← hls23]
  have hCs23 := hCs22.grow gs23
  have hacts23 := hCs23.md
  have nA0 : b0 ≠ A2 := fun e => by have := hA2.cell ⟨b0, 0, none⟩ e; rw [cb0'] at this; cases this
  have nA2 : b2 ≠ A2 := fun e => by have := hA2.cell ⟨b2, 0, none⟩ e; rw [cb2] at this; cases this
  have d0 : ls23.res.cells ⟨b0, 0, none⟩ = some (.int .i64 3) := by rw [gs23.cell _ (by rw [cb0']; simp), cb0']
  have d2 : ls23.res.cells ⟨b2, 0, none⟩ = some (.int .i64 4) := by rw [gs23.cell _ (by rw [cb2]; simp), cb2]
  clear hls23 gs23 hA2 hacts22 hCs22 cb0' cb2
  try walk_nrm
  repeat (first
    | (refine c_seq ?_)
    | (refine c_region ?_
       simp only [List.size_toArray, List.length_cons, List.length_nil, Nat.reduceAdd, Nat.zero_add, List.range, List.range.loop])
    | (refine o_nil ?_
       simp only [Thn, Inb, if_true, if_false, reduceIte, Nat.reduceEqDiff])
    | (refine c_skip ?_
       simp only [Thn, Inb, if_true, if_false, reduceIte, Nat.reduceEqDiff])
    | (refine c_cond true (by rfl) (fun _ => ?_) (fun e => by cases e))
    | (refine c_cond false (by rfl) (fun e => by cases e) (fun _ => ?_))
    | (refine c_block ?_)
    | (refine c_label ?_
       simp only [Thn, Inb, if_true, if_false, reduceIte, Nat.reduceEqDiff])
    | (refine c_scope ?_)
    | (refine o_cons (u_read (by omega) hacts23 rfl (by rfl) fun w hF K' hK' => ?_)
       go_simp
       refine hK' _ ⟨?_, ?_⟩
       focus
         rw [listed_nil]
         · simp
         · (simp [go_sem]; done)
       clear hK' K' hF w
       try walk_nrm)
    | (refine o_cons (u_unwanted (by omega) rfl (by rfl) ?_)
       try walk_nrm))
  obtain ⟨bs, hbs⟩ : ∃ bs : Nat → Option (Nat × Int), bs = fun j => if j = 0 then some (b0, 3) else if j = 1 then none else some (b2, 4) := ⟨_, rfl⟩
  have three : ∀ j, j < 3 → j = 0 ∨ j = 1 ∨ j = 2 := fun j hj => by omega
  refine o_cons (u_callx (n := nd3) #[.pointer none, .slice (some ⟨A2, 0, none⟩) 3 3] (by omega) rfl (by rfl) rfl (by walk_nrm) ?_)
  refine (hd3 E ls23 A2 3 bs none (by omega) (by omega) hCs23 (fun j hj => ?_) (fun j b x hj e => ?_) (fun i j b x c y hi hj hne e e' => ?_) (fun p' ch' cap' e => by cases e)).mono fun v ls24 hp => ?_
  · rw [cA2, hbs]
    rcases three j hj with rfl | rfl | rfl <;> rfl
  · rw [hbs] at e
    rcases three j hj with rfl | rfl | rfl <;> simp only [if_true, if_false, Nat.reduceEqDiff, reduceIte, Nat.one_ne_zero, Option.some.injEq, Prod.mk.injEq, reduceCtorEq] at e <;> obtain ⟨rfl, rfl⟩ := e
    · exact ⟨d0, nA0⟩
    · exact ⟨d2, nA2⟩
  · rw [hbs] at e e'
    rcases three i hi with rfl | rfl | rfl <;> rcases three j hj with rfl | rfl | rfl <;> simp only [if_true, if_false, Nat.reduceEqDiff, reduceIte, Nat.one_ne_zero, Option.some.injEq, Prod.mk.injEq, reduceCtorEq] at e e' <;> obtain ⟨rfl, rfl⟩ := e <;> obtain ⟨rfl, rfl⟩ := e'
    all_goals first | exact absurd rfl hne | exact n02 | exact n02.symm
  obtain ⟨O2, rfl, hO2, hCs24, hLs24, _, _⟩ := hp
  clear hLs24 hacts23 hCs23 d0 d2 nA0 nA2 n02 cA2
  have hacts24 := hCs24.md
  try walk_nrm
  repeat (first
    | (refine c_seq ?_)
    | (refine c_region ?_
       simp only [List.size_toArray, List.length_cons, List.length_nil, Nat.reduceAdd, Nat.zero_add, List.range, List.range.loop])
    | (refine o_nil ?_
       simp only [Thn, Inb, if_true, if_false, reduceIte, Nat.reduceEqDiff])
    | (refine c_skip ?_
       simp only [Thn, Inb, if_true, if_false, reduceIte, Nat.reduceEqDiff])
    | (refine c_cond true (by rfl) (fun _ => ?_) (fun e => by cases e))
    | (refine c_cond false (by rfl) (fun e => by cases e) (fun _ => ?_))
    | (refine c_block ?_)
    | (refine c_label ?_
       simp only [Thn, Inb, if_true, if_false, reduceIte, Nat.reduceEqDiff])
    | (refine c_scope ?_)
    | (refine o_cons (u_read (by omega) hacts24 rfl (by rfl) fun w hF K' hK' => ?_)
       go_simp
       refine hK' _ ⟨?_, ?_⟩
       focus
         rw [listed_nil]
         · simp
         · (simp [go_sem]; done)
       clear hK' K' hF w
       try walk_nrm)
    | (refine o_cons (u_unwanted (by omega) rfl (by rfl) ?_)
       try walk_nrm))
  refine o_cons (u_new (by omega) hacts24 rfl (by rfl) (.cells #[.int .i64 3, .int .i64 1, .int .i64 4] 32) (fun r => .slice (some ⟨r, 0, none⟩) 3 3) (fun r => ls24.addc r #[.int .i64 3, .int .i64 1, .int .i64 4]) (fun w => by simp [go_sem]) (fun w => by simp [go_sem]) (new_cells hacts24 _ _) fun B2 hB2 => ?_)
  obtain ⟨ls25, hls25⟩ : ∃ ls25, ls25 = ls24.addc B2 #[.int .i64 3, .int .i64 1, .int .i64 4] := ⟨_, rfl⟩
  have gs25 : Grow ls24 ls25 := by rw [hls25]; exact (Grow.refl _).addc hB2 _
  have cB2 : ∀ j : Nat, ls25.res.cells ⟨B2, j, none⟩ = #[.int .i64 3, .int .i64 1, .int .i64 4][j]? := fun j => by rw [hls25, addc_new]
  rw [← hls25]
  have hCs25 := hCs24.grow gs25
  have hacts25 := hCs25.md
  have hO3 : ∀ j, j < 3 → ls25.res.cells ⟨O2, j, none⟩ = some (.int .i64 (valOf (bs j))) := fun j hj => by rw [gs25.cell _ (by rw [hO2 j hj]; simp), hO2 j hj]
  clear hls25 gs25 hB2 hO2 hacts24 hCs24
  try walk_nrm
  repeat (first
    | (refine c_seq ?_)
    | (refine c_region ?_
       simp only [List.size_toArray, List.length_cons, List.length_nil, Nat.reduceAdd, Nat.zero_add, List.range, List.range.loop])
    | (refine o_nil ?_
       simp only [Thn, Inb, if_true, if_false, reduceIte, Nat.reduceEqDiff])
    | (refine c_skip ?_
       simp only [Thn, Inb, if_true, if_false, reduceIte, Nat.reduceEqDiff])
    | (refine c_cond true (by rfl) (fun _ => ?_) (fun e => by cases e))
    | (refine c_cond false (by rfl) (fun e => by cases e) (fun _ => ?_))
    | (refine c_block ?_)
    | (refine c_label ?_
       simp only [Thn, Inb, if_true, if_false, reduceIte, Nat.reduceEqDiff])
    | (refine c_scope ?_)
    | (refine o_cons (u_read (by omega) hacts25 rfl (by rfl) fun w hF K' hK' => ?_)
       go_simp
       refine hK' _ ⟨?_, ?_⟩
       focus
         rw [listed_nil]
         · simp
         · (simp [go_sem]; done)
       clear hK' K' hF w
       try walk_nrm)
    | (refine o_cons (u_unwanted (by omega) rfl (by rfl) ?_)
       try walk_nrm))
  refine o_cons (u_callx (n := ne3) #[.slice (some ⟨O2, 0, none⟩) 3 3, .slice (some ⟨B2, 0, none⟩) 3 3] (by omega) rfl (by rfl) rfl (by walk_nrm) ?_)
  refine he3 E ⟨O2, 0, none⟩ ⟨B2, 0, none⟩ 3 3 (fun j => valOf (bs j)) ls25 _ (by omega) hacts25 (fun j hj => ?_) (fun j hj => ?_) ?_
  · rw [Addr.add_lit, Nat.zero_add]; exact hO3 j hj
  · rw [Addr.add_lit, Nat.zero_add, cB2, hbs]
    rcases three j hj with rfl | rfl | rfl <;> rfl
  clear hO3 cB2 hbs three
  try walk_nrm
  repeat (first
    | (refine c_seq ?_)
    | (refine c_region ?_
       simp only [List.size_toArray, List.length_cons, List.length_nil, Nat.reduceAdd, Nat.zero_add, List.range, List.range.loop])
    | (refine o_nil ?_
       simp only [Thn, Inb, if_true, if_false, reduceIte, Nat.reduceEqDiff])
    | (refine c_skip ?_
       simp only [Thn, Inb, if_true, if_false, reduceIte, Nat.reduceEqDiff])
    | (refine c_cond true (by rfl) (fun _ => ?_) (fun e => by cases e))
    | (refine c_cond false (by rfl) (fun e => by cases e) (fun _ => ?_))
    | (refine c_block ?_)
    | (refine c_label ?_
       simp only [Thn, Inb, if_true, if_false, reduceIte, Nat.reduceEqDiff])
    | (refine c_scope ?_)
    | (refine o_cons (u_read (by omega) hacts25 rfl (by rfl) fun w hF K' hK' => ?_)
       go_simp
       refine hK' _ ⟨?_, ?_⟩
       focus
         rw [listed_nil]
         · simp
         · (simp [go_sem]; done)
       clear hK' K' hF w
       try walk_nrm)
    | (refine o_cons (u_unwanted (by omega) rfl (by rfl) ?_)
       try walk_nrm))
  refine o_cons (u_callx (n := n17n) #[.pointer none] (by omega) rfl (by rfl) rfl (by walk_nrm) ?_)
  refine h17n E ls25 _ hacts25 ?_
  try walk_nrm
  repeat (first
    | (refine c_seq ?_)
    | (refine c_region ?_
       simp only [List.size_toArray, List.length_cons, List.length_nil, Nat.reduceAdd, Nat.zero_add, List.range, List.range.loop])
    | (refine o_nil ?_
       simp only [Thn, Inb, if_true, if_false, reduceIte, Nat.reduceEqDiff])
    | (refine c_skip ?_
       simp only [Thn, Inb, if_true, if_false, reduceIte, Nat.reduceEqDiff])
    | (refine c_cond true (by rfl) (fun _ => ?_) (fun e => by cases e))
    | (refine c_cond false (by rfl) (fun e => by cases e) (fun _ => ?_))
    | (refine c_block ?_)
    | (refine c_label ?_
       simp only [Thn, Inb, if_true, if_false, reduceIte, Nat.reduceEqDiff])
    | (refine c_scope ?_)
    | (refine o_cons (u_read (by omega) hacts25 rfl (by rfl) fun w hF K' hK' => ?_)
       go_simp
       refine hK' _ ⟨?_, ?_⟩
       focus
         rw [listed_nil]
         · simp
         · (simp [go_sem]; done)
       clear hK' K' hF w
       try walk_nrm)
    | (refine o_cons (u_unwanted (by omega) rfl (by rfl) ?_)
       try walk_nrm))
  refine o_cons (u_callx (n := n16n) #[.pointer none] (by omega) rfl (by rfl) rfl (by walk_nrm) ?_)
  refine h16n E ls25 _ hacts25 ?_
  try walk_nrm
  repeat (first
    | (refine c_seq ?_)
    | (refine c_region ?_
       simp only [List.size_toArray, List.length_cons, List.length_nil, Nat.reduceAdd, Nat.zero_add, List.range, List.range.loop])
    | (refine o_nil ?_
       simp only [Thn, Inb, if_true, if_false, reduceIte, Nat.reduceEqDiff])
    | (refine c_skip ?_
       simp only [Thn, Inb, if_true, if_false, reduceIte, Nat.reduceEqDiff])
    | (refine c_cond true (by rfl) (fun _ => ?_) (fun e => by cases e))
    | (refine c_cond false (by rfl) (fun e => by cases e) (fun _ => ?_))
    | (refine c_block ?_)
    | (refine c_label ?_
       simp only [Thn, Inb, if_true, if_false, reduceIte, Nat.reduceEqDiff])
    | (refine c_scope ?_)
    | (refine o_cons (u_read (by omega) hacts25 rfl (by rfl) fun w hF K' hK' => ?_)
       go_simp
       refine hK' _ ⟨?_, ?_⟩
       focus
         rw [listed_nil]
         · simp
         · (simp [go_sem]; done)
       clear hK' K' hF w
       try walk_nrm)
    | (refine o_cons (u_unwanted (by omega) rfl (by rfl) ?_)
       try walk_nrm))
  refine o_cons (u_callx (n := n14n) #[.pointer none] (by omega) rfl (by rfl) rfl (by walk_nrm) ?_)
  refine h14n E ls25 _ hacts25 ?_
  try walk_nrm
  repeat (first
    | (refine c_seq ?_)
    | (refine c_region ?_
       simp only [List.size_toArray, List.length_cons, List.length_nil, Nat.reduceAdd, Nat.zero_add, List.range, List.range.loop])
    | (refine o_nil ?_
       simp only [Thn, Inb, if_true, if_false, reduceIte, Nat.reduceEqDiff])
    | (refine c_skip ?_
       simp only [Thn, Inb, if_true, if_false, reduceIte, Nat.reduceEqDiff])
    | (refine c_cond true (by rfl) (fun _ => ?_) (fun e => by cases e))
    | (refine c_cond false (by rfl) (fun e => by cases e) (fun _ => ?_))
    | (refine c_block ?_)
    | (refine c_label ?_
       simp only [Thn, Inb, if_true, if_false, reduceIte, Nat.reduceEqDiff])
    | (refine c_scope ?_)
    | (refine o_cons (u_read (by omega) hacts25 rfl (by rfl) fun w hF K' hK' => ?_)
       go_simp
       refine hK' _ ⟨?_, ?_⟩
       focus
         rw [listed_nil]
         · simp
         · (simp [go_sem]; done)
       clear hK' K' hF w
       try walk_nrm)
    | (refine o_cons (u_unwanted (by omega) rfl (by rfl) ?_)
       try walk_nrm))
  refine o_cons (u_callx (n := n15n) #[.pointer none] (by omega) rfl (by rfl) rfl (by walk_nrm) ?_)
  refine h15n E ls25 _ hacts25 ?_
  try walk_nrm
  repeat (first
    | (refine c_seq ?_)
    | (refine c_region ?_
       simp only [List.size_toArray, List.length_cons, List.length_nil, Nat.reduceAdd, Nat.zero_add, List.range, List.range.loop])
    | (refine o_nil ?_
       simp only [Thn, Inb, if_true, if_false, reduceIte, Nat.reduceEqDiff])
    | (refine c_skip ?_
       simp only [Thn, Inb, if_true, if_false, reduceIte, Nat.reduceEqDiff])
    | (refine c_cond true (by rfl) (fun _ => ?_) (fun e => by cases e))
    | (refine c_cond false (by rfl) (fun e => by cases e) (fun _ => ?_))
    | (refine c_block ?_)
    | (refine c_label ?_
       simp only [Thn, Inb, if_true, if_false, reduceIte, Nat.reduceEqDiff])
    | (refine c_scope ?_)
    | (refine o_cons (u_read (by omega) hacts25 rfl (by rfl) fun w hF K' hK' => ?_)
       go_simp
       refine hK' _ ⟨?_, ?_⟩
       focus
         rw [listed_nil]
         · simp
         · (simp [go_sem]; done)
       clear hK' K' hF w
       try walk_nrm)
    | (refine o_cons (u_unwanted (by omega) rfl (by rfl) ?_)
       try walk_nrm))
  refine o_cons (u_callx (n := n11n) #[.pointer none, .slice none 0 0] (by omega) rfl (by rfl) rfl (by walk_nrm) ?_)
  refine h11n E none ls25 _ hacts25 fun ls26 gs26 => ?_
  have hCs26 := hCs25.grow gs26
  have hacts26 := hCs26.md
  clear gs26 hCs25 hacts25
  try walk_nrm
  refine o_cons (u_slicenil (by omega) rfl (by rfl) rfl rfl ?_)
  try walk_nrm
  repeat (first
    | (refine c_seq ?_)
    | (refine c_region ?_
       simp only [List.size_toArray, List.length_cons, List.length_nil, Nat.reduceAdd, Nat.zero_add, List.range, List.range.loop])
    | (refine o_nil ?_
       simp only [Thn, Inb, if_true, if_false, reduceIte, Nat.reduceEqDiff])
    | (refine c_skip ?_
       simp only [Thn, Inb, if_true, if_false, reduceIte, Nat.reduceEqDiff])
    | (refine c_cond true (by rfl) (fun _ => ?_) (fun e => by cases e))
    | (refine c_cond false (by rfl) (fun e => by cases e) (fun _ => ?_))
    | (refine c_block ?_)
    | (refine c_label ?_
       simp only [Thn, Inb, if_true, if_false, reduceIte, Nat.reduceEqDiff])
    | (refine c_scope ?_)
    | (refine o_cons (u_read (by omega) hacts26 rfl (by rfl) fun w hF K' hK' => ?_)
       go_simp
       refine hK' _ ⟨?_, ?_⟩
       focus
         rw [listed_nil]
         · simp
         · (simp [go_sem]; done)
       clear hK' K' hF w
       try walk_nrm)
    | (refine o_cons (u_unwanted (by omega) rfl (by rfl) ?_)
       try walk_nrm))
  refine c_ret ?_
  refine ⟨rfl, _, resultsC_tmp (by rfl) _, ?_⟩
  exact ⟨rfl, hCs26⟩
end Go.Proofs.Ytofohjbcgchhoaa

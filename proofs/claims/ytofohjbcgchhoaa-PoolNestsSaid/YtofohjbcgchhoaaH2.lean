/-
  THE WALKS: slices.Equal; a task that answers a number; what 'run' makes of a task.
-/
import Derived.Test.YtofohjbcgchhoaaG6
import Derived.Test.YtofohjbcgchhoaaH1
namespace Go.Proofs.Ytofohjbcgchhoaa
open Go.Conc
open Go.RowKit
set_option maxRecDepth 100000
set_option linter.unusedSimpArgs false
set_option linter.unusedVariables false

def Fr13 (v0 : Value) (v1 : Value) (v12 : Value) (v13 : Value) (ds : List Deferred) (a : Act) : Prop := ∃ x2 x3 x4 x5 x6 x7 x8 x9 x10 x11 x14 x15 x16 x17 x18 x19 x20 x21 x22 x23 x24 x25 : Value, a = ⟨#[v0, v1, x2, x3, x4, x5, x6, x7, x8, x9, x10, x11, v12, v13, x14, x15, x16, x17, x18, x19, x20, x21, x22, x23, x24, x25], ds⟩
def Fr13b (v0 : Value) (v1 : Value) (v13 : Value) (v12 : Value) (y0 : Value) (y1 : Value) (y2 : Value) (y3 : Value) (y4 : Value) (y5 : Value) (y6 : Value) (y7 : Value) (y8 : Value) (ds : List Deferred) (a : Act) : Prop := ∃ x2 x3 x4 x6 x7 x8 x9 x10 x11 x14 x15 x25 : Value, a = ⟨#[v0, v1, x2, x3, x4, v13, x6, x7, x8, x9, x10, x11, v12, v13, x14, x15, y0, y1, y2, y3, y4, y5, y6, y7, y8, x25], ds⟩

def Inv13 (A B : Addr) (n cA cB i : Nat) (xs : Nat → Int) (S : Nat → Bool) (a : Act) : Prop :=
  ∃ y0 y1 y2 y3 y4 y5 y6 y7 y8 : Value, Fr13b (.slice (some A) n cA) (.slice (some B) n cB) (.int .i64 (i : Nat)) (.int .i64 (n : Nat)) y0 y1 y2 y3 y4 y5 y6 y7 y8 [] a ∧
    (S 0 = true → y0 = .slice (some A) n cA) ∧ (S 1 = true → y1 = .int .i64 (i : Nat)) ∧ (S 2 = true → y2 = .pointer (some (A.add i))) ∧ (S 3 = true → y3 = .int .i64 (xs i)) ∧
    (S 4 = true → y4 = .slice (some B) n cB) ∧ (S 5 = true → y5 = .int .i64 (i : Nat)) ∧ (S 6 = true → y6 = .pointer (some (B.add i))) ∧ (S 7 = true → y7 = .int .i64 (xs i)) ∧ (S 8 = true → y8 = .bool false)

def mu13 (n : Nat) (a : Act) : Nat := match (a.tmps[13]? : Option Value) with | some (.int _ x) => n - x.toNat | _ => 0

set_option maxHeartbeats 4000000 in
theorem equal13 (n : Nat) : ∃ N, ∀ (E : En) (A B : Addr) (cA cB : Nat) (xs : Nat → Int) (l : Lo) (Post : Value → Lo → Prop), n ≤ 1048576 → l.md = .act → (∀ j, j < n → l.res.cells (A.add j) = some (.int .i64 (xs j))) → (∀ j, j < n → l.res.cells (B.add j) = some (.int .i64 (xs j))) → Post (.bool true) l →
    E.N 13 #[.slice (some A) n cA, .slice (some B) n cB] N l Post := by
  refine ⟨_, fun E A B cA cB xs l Post hn hact hA hB h => n_of_b (b_of (e := 2) (L := n + 1) Try.func13 (by rfl) rfl ?_)⟩
  simp only [act0, Try.ntmps13, List.size_toArray, List.length_cons, List.length_nil, Nat.reduceAdd, Nat.reduceSub, Array.replicate_succ, Array.replicate_zero, List.push_toArray, List.append_toArray, List.nil_append, List.cons_append]
  repeat (first
    | (refine c_seq ?_)
    | (refine c_region ?_
       simp only [List.size_toArray, List.length_cons, List.length_nil, Nat.reduceAdd, Nat.zero_add, List.range, List.range.loop])
    | (refine o_nil ?_
       simp only [Thn, Inb, if_true, if_false, reduceIte, Nat.reduceEqDiff])
    | (refine c_skip ?_
       simp only [Thn, Inb, if_true, if_false, reduceIte, Nat.reduceEqDiff])
    | (refine c_cond true (by rfl) (fun _ => ?_) (fun e => by cases e))
    | (refine c_cond false (by rfl) (fun e => by cases e) (fun _ => ?_))
    | (refine c_block ?_)
    | (refine c_label ?_
       simp only [Thn, Inb, if_true, if_false, reduceIte, Nat.reduceEqDiff])
    | (refine c_scope ?_)
    | (refine o_cons (u_read (by omega) hact rfl (by rfl) fun w hF K' hK' => ?_)
       go_simp
       refine hK' _ ⟨?_, ?_⟩
       focus
         rw [listed_nil]
         · simp
         · (simp [go_sem]; done)
       clear hK' K' hF w
       try walk_nrm)
    | (refine o_cons (u_unwanted (by omega) rfl (by rfl) ?_)
       try walk_nrm))
  refine c_loop (fun a' l' => l' = l ∧ ∃ i, i ≤ n ∧ Fr13 (.slice (some A) n cA) (.slice (some B) n cB) (.int .i64 (n : Nat)) (.int .i64 (i : Nat)) [] a') (fun a' _ => mu13 n a') ⟨rfl, 0, Nat.zero_le _, ?_⟩ ?_ ?_
  focus
    exact ⟨_, _, _, _, _, _, _, _, _, _, _, _, _, _, _, _, _, _, _, _, _, _, rfl⟩
  focus
    show n - 0 ≤ _
    omega
  intro a' l' hI
  obtain ⟨rfl, i, hin, hfr⟩ := hI
  obtain ⟨x2, x3, x4, x5, x6, x7, x8, x9, x10, x11, x14, x15, x16, x17, x18, x19, x20, x21, x22, x23, x24, x25, rfl⟩ := hfr
  rw [show mu13 n _ = n - i from rfl]
  by_cases hlt : i < n
  · have hd : decide ((i : Int) < (n : Int)) = true := by simp; omega
    have hw1 : IntKind.i64.wrap ((i : Int) + 1) = (i : Int) + 1 := by rw [IntKind.wrap_i64]; omega
    repeat (first
      | (refine c_seq ?_)
      | (refine c_region ?_
         simp only [List.size_toArray, List.length_cons, List.length_nil, Nat.reduceAdd, Nat.zero_add, List.range, List.range.loop])
      | (refine o_nil ?_
         simp only [Thn, Inb, if_true, if_false, reduceIte, Nat.reduceEqDiff])
      | (refine c_skip ?_
         simp only [Thn, Inb, if_true, if_false, reduceIte, Nat.reduceEqDiff])
      | (refine c_cond true (by rfl) (fun _ => ?_) (fun e => by cases e))
      | (refine c_cond false (by rfl) (fun e => by cases e) (fun _ => ?_))
      | (refine c_block ?_)
      | (refine c_label ?_
         simp only [Thn, Inb, if_true, if_false, reduceIte, Nat.reduceEqDiff])
      | (refine c_scope ?_)
      | (refine o_cons (u_read (by omega) hact rfl (by rfl) fun w hF K' hK' => ?_)
         go_simp
         refine hK' _ ⟨?_, ?_⟩
         focus
           rw [listed_nil]
           · simp
           · (simp [go_sem]; done)
         clear hK' K' hF w
         try walk_nrm)
      | (refine o_cons (u_unwanted (by omega) rfl (by rfl) ?_)
         try walk_nrm))
    refine c_draw hact (fun S a lx => lx = l' ∧ Inv13 A B n cA cB i xs S a) (back_of (by rfl)) ⟨rfl, _, _, _, _, _, _, _, _, _, ⟨_, _, _, _, _, _, _, _, _, _, _, _, rfl⟩, by simp, by simp, by simp, by simp, by simp, by simp, by simp, by simp, by simp⟩ ?_ ?_
    · intro S a lx y o hI ho hSi hdep
      obtain ⟨rfl, y0, y1, y2, y3, y4, y5, y6, y7, y8, hfr, k0, k1, k2, k3, k4, k5, k6, k7, k8⟩ := hI
      obtain ⟨x2, x3, x4, x6, x7, x8, x9, x10, x11, x14, x15, x25, rfl⟩ := hfr
      rcases y with _ | _ | _ | _ | _ | _ | _ | _ | _ | y
      · -- 0
        simp only [List.getElem?_toArray, List.getElem?_cons_zero, List.getElem?_cons_succ, Option.some.injEq] at ho
        subst ho
        refine u_read (by omega) hact rfl (by rfl) fun w hF K' hK' => ?_
        go_simp
        refine hK' _ ⟨?_, ?_⟩
        focus
          rw [listed_nil]
          · simp
          · (simp [go_sem]; done)
        clear hK' K' hF w
        unfold Inv13
        refine ⟨(by first | rfl | trivial), _, _, _, _, _, _, _, _, _, ⟨_, _, _, _, _, _, _, _, _, _, _, _, rfl⟩, ?_, ?_, ?_, ?_, ?_, ?_, ?_, ?_, ?_⟩
        all_goals simp only [Nat.reduceEqDiff, reduceIte, if_true, if_false]
        all_goals first | exact fun _ => rfl | exact fun _ => trivial | exact k0 | exact k1 | exact k2 | exact k3 | exact k4 | exact k5 | exact k6 | exact k7 | exact k8
      · -- 1
        simp only [List.getElem?_toArray, List.getElem?_cons_zero, List.getElem?_cons_succ, Option.some.injEq] at ho
        subst ho
        refine u_read (by omega) hact rfl (by rfl) fun w hF K' hK' => ?_
        go_simp
        refine hK' _ ⟨?_, ?_⟩
        focus
          rw [listed_nil]
          · simp
          · (simp [go_sem]; done)
        clear hK' K' hF w
        unfold Inv13
        refine ⟨(by first | rfl | trivial), _, _, _, _, _, _, _, _, _, ⟨_, _, _, _, _, _, _, _, _, _, _, _, rfl⟩, ?_, ?_, ?_, ?_, ?_, ?_, ?_, ?_, ?_⟩
        all_goals simp only [Nat.reduceEqDiff, reduceIte, if_true, if_false]
        all_goals first | exact fun _ => rfl | exact fun _ => trivial | exact k0 | exact k1 | exact k2 | exact k3 | exact k4 | exact k5 | exact k6 | exact k7 | exact k8
      · -- 2
        simp only [List.getElem?_toArray, List.getElem?_cons_zero, List.getElem?_cons_succ, Option.some.injEq] at ho
        subst ho
        have s0 : S 0 = true := hdep ⟨0, .data⟩ (by simp) rfl
        obtain rfl := k0 s0
        have s1 : S 1 = true := hdep ⟨1, .data⟩ (by simp) rfl
        obtain rfl := k1 s1
        refine u_index (A := A) (n := n) (c := cA) (k := .i64) (m := i) (by omega) rfl (by rfl) rfl Try.underlying35 (by rfl) rfl rfl hlt ?_
        unfold Inv13
        refine ⟨(by first | rfl | trivial), _, _, _, _, _, _, _, _, _, ⟨_, _, _, _, _, _, _, _, _, _, _, _, rfl⟩, ?_, ?_, ?_, ?_, ?_, ?_, ?_, ?_, ?_⟩
        all_goals simp only [Nat.reduceEqDiff, reduceIte, if_true, if_false]
        all_goals first | exact fun _ => rfl | exact fun _ => trivial | exact k0 | exact k1 | exact k2 | exact k3 | exact k4 | exact k5 | exact k6 | exact k7 | exact k8
      · -- 3
        simp only [List.getElem?_toArray, List.getElem?_cons_zero, List.getElem?_cons_succ, Option.some.injEq] at ho
        subst ho
        have s2 : S 2 = true := hdep ⟨2, .data⟩ (by simp) rfl
        obtain rfl := k2 s2
        refine u_load (.int .i64 (xs i)) (by omega) hact rfl (by rfl) rfl Try.underlying32 rfl rfl (.inl (hA i hlt)) ?_
        unfold Inv13
        refine ⟨(by first | rfl | trivial), _, _, _, _, _, _, _, _, _, ⟨_, _, _, _, _, _, _, _, _, _, _, _, rfl⟩, ?_, ?_, ?_, ?_, ?_, ?_, ?_, ?_, ?_⟩
        all_goals simp only [Nat.reduceEqDiff, reduceIte, if_true, if_false]
        all_goals first | exact fun _ => rfl | exact fun _ => trivial | exact k0 | exact k1 | exact k2 | exact k3 | exact k4 | exact k5 | exact k6 | exact k7 | exact k8
      · -- 4
        simp only [List.getElem?_toArray, List.getElem?_cons_zero, List.getElem?_cons_succ, Option.some.injEq] at ho
        subst ho
        refine u_read (by omega) hact rfl (by rfl) fun w hF K' hK' => ?_
        go_simp
        refine hK' _ ⟨?_, ?_⟩
        focus
          rw [listed_nil]
          · simp
          · (simp [go_sem]; done)
        clear hK' K' hF w
        unfold Inv13
        refine ⟨(by first | rfl | trivial), _, _, _, _, _, _, _, _, _, ⟨_, _, _, _, _, _, _, _, _, _, _, _, rfl⟩, ?_, ?_, ?_, ?_, ?_, ?_, ?_, ?_, ?_⟩
        all_goals simp only [Nat.reduceEqDiff, reduceIte, if_true, if_false]
        all_goals first | exact fun _ => rfl | exact fun _ => trivial | exact k0 | exact k1 | exact k2 | exact k3 | exact k4 | exact k5 | exact k6 | exact k7 | exact k8
      · -- 5
        simp only [List.getElem?_toArray, List.getElem?_cons_zero, List.getElem?_cons_succ, Option.some.injEq] at ho
        subst ho
        refine u_read (by omega) hact rfl (by rfl) fun w hF K' hK' => ?_
        go_simp
        refine hK' _ ⟨?_, ?_⟩
        focus
          rw [listed_nil]
          · simp
          · (simp [go_sem]; done)
        clear hK' K' hF w
        unfold Inv13
        refine ⟨(by first | rfl | trivial), _, _, _, _, _, _, _, _, _, ⟨_, _, _, _, _, _, _, _, _, _, _, _, rfl⟩, ?_, ?_, ?_, ?_, ?_, ?_, ?_, ?_, ?_⟩
        all_goals simp only [Nat.reduceEqDiff, reduceIte, if_true, if_false]
        all_goals first | exact fun _ => rfl | exact fun _ => trivial | exact k0 | exact k1 | exact k2 | exact k3 | exact k4 | exact k5 | exact k6 | exact k7 | exact k8
      · -- 6
        simp only [List.getElem?_toArray, List.getElem?_cons_zero, List.getElem?_cons_succ, Option.some.injEq] at ho
        subst ho
        have s4 : S 4 = true := hdep ⟨4, .data⟩ (by simp) rfl
        obtain rfl := k4 s4
        have s5 : S 5 = true := hdep ⟨5, .data⟩ (by simp) rfl
        obtain rfl := k5 s5
        refine u_index (A := B) (n := n) (c := cB) (k := .i64) (m := i) (by omega) rfl (by rfl) rfl Try.underlying35 (by rfl) rfl rfl hlt ?_
        unfold Inv13
        refine ⟨(by first | rfl | trivial), _, _, _, _, _, _, _, _, _, ⟨_, _, _, _, _, _, _, _, _, _, _, _, rfl⟩, ?_, ?_, ?_, ?_, ?_, ?_, ?_, ?_, ?_⟩
        all_goals simp only [Nat.reduceEqDiff, reduceIte, if_true, if_false]
        all_goals first | exact fun _ => rfl | exact fun _ => trivial | exact k0 | exact k1 | exact k2 | exact k3 | exact k4 | exact k5 | exact k6 | exact k7 | exact k8
      · -- 7
        simp only [List.getElem?_toArray, List.getElem?_cons_zero, List.getElem?_cons_succ, Option.some.injEq] at ho
        subst ho
        have s6 : S 6 = true := hdep ⟨6, .data⟩ (by simp) rfl
        obtain rfl := k6 s6
        refine u_load (.int .i64 (xs i)) (by omega) hact rfl (by rfl) rfl Try.underlying32 rfl rfl (.inl (hB i hlt)) ?_
        unfold Inv13
        refine ⟨(by first | rfl | trivial), _, _, _, _, _, _, _, _, _, ⟨_, _, _, _, _, _, _, _, _, _, _, _, rfl⟩, ?_, ?_, ?_, ?_, ?_, ?_, ?_, ?_, ?_⟩
        all_goals simp only [Nat.reduceEqDiff, reduceIte, if_true, if_false]
        all_goals first | exact fun _ => rfl | exact fun _ => trivial | exact k0 | exact k1 | exact k2 | exact k3 | exact k4 | exact k5 | exact k6 | exact k7 | exact k8
      · -- 8
        simp only [List.getElem?_toArray, List.getElem?_cons_zero, List.getElem?_cons_succ, Option.some.injEq] at ho
        subst ho
        have s3 : S 3 = true := hdep ⟨3, .data⟩ (by simp) rfl
        obtain rfl := k3 s3
        have s7 : S 7 = true := hdep ⟨7, .data⟩ (by simp) rfl
        obtain rfl := k7 s7
        refine u_read (by omega) hact rfl (by rfl) fun w hF K' hK' => ?_
        go_simp
        refine hK' _ ⟨?_, ?_⟩
        focus
          rw [listed_nil]
          · simp
          · (simp [go_sem]; done)
        clear hK' K' hF w
        simp only [bne_self_eq_false]
        unfold Inv13
        refine ⟨(by first | rfl | trivial), _, _, _, _, _, _, _, _, _, ⟨_, _, _, _, _, _, _, _, _, _, _, _, rfl⟩, ?_, ?_, ?_, ?_, ?_, ?_, ?_, ?_, ?_⟩
        all_goals simp only [Nat.reduceEqDiff, reduceIte, if_true, if_false]
        all_goals first | exact fun _ => rfl | exact fun _ => trivial | exact k0 | exact k1 | exact k2 | exact k3 | exact k4 | exact k5 | exact k6 | exact k7 | exact k8
      · simp at ho
    · intro S a lx hI hall
      obtain ⟨rfl, y0, y1, y2, y3, y4, y5, y6, y7, y8, hfr, k0, k1, k2, k3, k4, k5, k6, k7, k8⟩ := hI
      obtain ⟨x2, x3, x4, x6, x7, x8, x9, x10, x11, x14, x15, x25, rfl⟩ := hfr
      obtain rfl := k8 (hall 8 (by decide))
      simp only [Thn]
      repeat (first
        | (refine c_seq ?_)
        | (refine c_region ?_
           simp only [List.size_toArray, List.length_cons, List.length_nil, Nat.reduceAdd, Nat.zero_add, List.range, List.range.loop])
        | (refine o_nil ?_
           simp only [Thn, Inb, if_true, if_false, reduceIte, Nat.reduceEqDiff])
        | (refine c_skip ?_
           simp only [Thn, Inb, if_true, if_false, reduceIte, Nat.reduceEqDiff])
        | (refine c_cond true (by rfl) (fun _ => ?_) (fun e => by cases e))
        | (refine c_cond false (by rfl) (fun e => by cases e) (fun _ => ?_))
        | (refine c_block ?_)
        | (refine c_label ?_
           simp only [Thn, Inb, if_true, if_false, reduceIte, Nat.reduceEqDiff])
        | (refine c_scope ?_)
        | (refine o_cons (u_read (by omega) hact rfl (by rfl) fun w hF K' hK' => ?_)
           go_simp
           refine hK' _ ⟨?_, ?_⟩
           focus
             rw [listed_nil]
             · simp
             · (simp [go_sem]; done)
           clear hK' K' hF w
           try walk_nrm)
        | (refine o_cons (u_unwanted (by omega) rfl (by rfl) ?_)
           try walk_nrm))
      refine ⟨⟨(by first | rfl | trivial), i + 1, by omega, ?_⟩, ?_⟩
      · exact ⟨_, _, _, _, _, _, _, _, _, _, _, _, _, _, _, _, _, _, _, _, _, _, rfl⟩
      · show n - (i + 1) < n - i
        omega
  · have hd : decide ((i : Int) < (n : Int)) = false := by simp; omega
    repeat (first
      | (refine c_seq ?_)
      | (refine c_region ?_
         simp only [List.size_toArray, List.length_cons, List.length_nil, Nat.reduceAdd, Nat.zero_add, List.range, List.range.loop])
      | (refine o_nil ?_
         simp only [Thn, Inb, if_true, if_false, reduceIte, Nat.reduceEqDiff])
      | (refine c_skip ?_
         simp only [Thn, Inb, if_true, if_false, reduceIte, Nat.reduceEqDiff])
      | (refine c_cond true (by rfl) (fun _ => ?_) (fun e => by cases e))
      | (refine c_cond false (by rfl) (fun e => by cases e) (fun _ => ?_))
      | (refine c_block ?_)
      | (refine c_label ?_
         simp only [Thn, Inb, if_true, if_false, reduceIte, Nat.reduceEqDiff])
      | (refine c_scope ?_)
      | (refine o_cons (u_read (by omega) hact rfl (by rfl) fun w hF K' hK' => ?_)
         go_simp
         refine hK' _ ⟨?_, ?_⟩
         focus
           rw [listed_nil]
           · simp
           · (simp [go_sem]; done)
         clear hK' K' hF w
         try walk_nrm)
      | (refine o_cons (u_unwanted (by omega) rfl (by rfl) ?_)
         try walk_nrm))
    refine c_exit ?_
    simp only [Thn, Inb, if_true, reduceIte]
    repeat (first
      | (refine c_seq ?_)
      | (refine c_region ?_
         simp only [List.size_toArray, List.length_cons, List.length_nil, Nat.reduceAdd, Nat.zero_add, List.range, List.range.loop])
      | (refine o_nil ?_
         simp only [Thn, Inb, if_true, if_false, reduceIte, Nat.reduceEqDiff])
      | (refine c_skip ?_
         simp only [Thn, Inb, if_true, if_false, reduceIte, Nat.reduceEqDiff])
      | (refine c_cond true (by rfl) (fun _ => ?_) (fun e => by cases e))
      | (refine c_cond false (by rfl) (fun e => by cases e) (fun _ => ?_))
      | (refine c_block ?_)
      | (refine c_label ?_
         simp only [Thn, Inb, if_true, if_false, reduceIte, Nat.reduceEqDiff])
      | (refine c_scope ?_)
      | (refine o_cons (u_read (by omega) hact rfl (by rfl) fun w hF K' hK' => ?_)
         go_simp
         refine hK' _ ⟨?_, ?_⟩
         focus
           rw [listed_nil]
           · simp
           · (simp [go_sem]; done)
         clear hK' K' hF w
         try walk_nrm)
      | (refine o_cons (u_unwanted (by omega) rfl (by rfl) ?_)
         try walk_nrm))
    refine c_ret ?_
    refine ⟨rfl, _, resultsC_tmp (by rfl) _, ?_⟩
    exact h

/-- What a task does, called by whoever it is. -/
def BodyOk (l0 : Lo) (nt : Nat) (gc : Option Nat) (f : FuncId) (args : Array Value) (foot : Addr → Prop) (T T' : Tk → Nat) (post : Int → (Addr → Option Value) → Prop) : Prop :=
  ∀ (E : En) (l : Lo), Ext l0 l → (∀ a, foot a → l.res.cells a = l0.res.cells a) → (∀ k, T k ≤ l.res.tk k) → (∀ c, l.res.tk (.tr c) = T (.tr c)) → (∀ c, gc = some c → l.res.tk (.tb c) = 0) →
    (∀ p, l.res.tk (.alive p) ≤ l.res.tk (.slot p)) → (∀ c, gc = some c ∨ l.cl c ∨ l.res.tk (.gm c) = 0) →
    E.N f args nt l fun v l' => ∃ x, v = .int .i64 x ∧ post x l'.res.cells ∧ Kept foot T T' l l' ∧ ∀ c, gc = some c → l'.cl c

def bg1 (p : Nat) (k : Tk) : Nat := if k = .begun p then 1 else 0

theorem runOk_pool (nt : Nat) : ∃ nr, ∀ (l0 : Lo) (p ch cap : Nat) (so : Bool) (gc : Option Nat) (f : FuncId) (first capv : Array Value) (foot : Addr → Prop) (T T' : Tk → Nat) (post : Int → (Addr → Option Value) → Prop), l0.pl p = some (ch, cap, so) → (∀ a, foot a → l0.res.cells a ≠ none) →
    (∀ x C C', (∀ a, foot a → C a = C' a) → post x C → post x C') → BodyOk l0 nt gc f (first ++ capv) foot T T' post → RunOk l0 (.pointer (some ⟨p, 0, none⟩)) nr gc ⟨.func (.func f) first capv, foot, T, fun k => T' k + bg1 p k, post⟩ := by
  obtain ⟨n, h⟩ := run_pool nt
  refine ⟨n, fun l0 p ch cap so gc f first capv foot T T' post hpl hown hloc hb E l e1 e2 e3 e4 e5 e6 e7 => ?_⟩
  refine h E p ch cap so f first capv l _ e1.md (by rw [e1.pl]; exact hpl) fun r hr => ?_
  have hfr : ∀ a, foot a → a.block ≠ r := fun a ha e => by
    have := e2 a ha
    rw [hr.cell a e] at this
    exact hown a ha this.symm
  obtain ⟨l1, hl1⟩ : ∃ l1, l1 = (l.addc r #[.int .i64 0]).tok (.begun p) (l.res.tk (.begun p) + 1) := ⟨_, rfl⟩
  rw [← hl1]
  have c1 : ∀ a, a.block ≠ r → l1.res.cells a = l.res.cells a := fun a ha => by rw [hl1]; exact addc_old ha
  have t1 : ∀ k, l1.res.tk k = l.res.tk k + bg1 p k := fun k => by
    rw [hl1]
    show (if k = .begun p then _ else l.res.tk k) = _
    unfold bg1
    split <;> simp_all
  have x1 : Ext l l1 := by rw [hl1]; exact ⟨e1.md, e1.df, fun _ _ x => x, rfl, rfl, fun _ => Nat.le_refl _, fun _ x => x⟩
  have hr1 : l1.res.cells ⟨r, 0, none⟩ = some (.int .i64 0) := by rw [hl1]; exact addc_new 0
  refine (hb E l1 (e1.trans x1) (fun a ha => by rw [c1 a (hfr a ha)]; exact e2 a ha) (fun k => by rw [t1]; exact Nat.le_trans (e3 k) (Nat.le_add_right _ _)) (fun c => by rw [t1]; exact e4 c) (fun c hc => by rw [t1]; exact e5 c hc) (fun q => by rw [t1, t1]; exact e6 q) (fun c => by rw [t1]; rcases e7 c with h | h | h <;> first | exact .inl h | exact .inr (.inl (x1.cl c h)) | exact .inr (.inr h))).mono fun v l2 hp => ?_
  obtain ⟨x, rfl, hp1, hk, hg⟩ := hp
  refine ⟨hk.ext.md, by rw [hk.cell _ (fun hf => hfr _ hf rfl) (by rw [hr1]; simp), hr1]; simp, x, rfl, x, rfl, ?_, ?_, hg⟩
  · refine hloc x _ _ (fun a ha => ?_) hp1
    show _ = (if a = _ then _ else _)
    rw [if_neg (show ¬ a = (⟨r, 0, none⟩ : Addr) from fun e => hfr a ha (by rw [e]))]
  · exact {
      ext := (x1.trans hk.ext).setc _ _
      cell := fun a h1 h2 => by
        have hne : a.block ≠ r := fun e => h2 (hr.cell a e)
        show (if a = _ then _ else _) = _
        rw [if_neg (show ¬ a = (⟨r, 0, none⟩ : Addr) from fun e => hne (by rw [e])), hk.cell a h1 (by rw [c1 a hne]; exact h2), c1 a hne]
      tk := fun k => by
        have h1 := hk.tk k
        have h2 := t1 k
        show l2.res.tk k + T k = l.res.tk k + (T' k + bg1 p k)
        omega
      wg := by show l2.wg = _; rw [hk.wg, hl1]; rfl
      wk := by show l2.wk = _; rw [hk.wk, hl1]; rfl
      ws := by show l2.ws = _; rw [hk.ws, hl1]; rfl
      gk := by show l2.gk = _; rw [hk.gk, hl1]; rfl
      ob := by show l2.ob = _; rw [hk.ob, hl1]; rfl
      sk := fun q hq => by show l2.sk q = _; rw [hk.sk q (by rw [x1.pl]; exact hq), hl1]; rfl }

theorem runOk_nil (nt : Nat) : ∃ nr, ∀ (l0 : Lo) (f : FuncId) (first capv : Array Value) (foot : Addr → Prop) (T T' : Tk → Nat) (post : Int → (Addr → Option Value) → Prop), (∀ a, foot a → l0.res.cells a ≠ none) →
    (∀ x C C', (∀ a, foot a → C a = C' a) → post x C → post x C') → BodyOk l0 nt none f (first ++ capv) foot T T' post → RunOk l0 (.pointer none) nr none ⟨.func (.func f) first capv, foot, T, T', post⟩ := by
  obtain ⟨n, h⟩ := run_nil nt
  refine ⟨n, fun l0 f first capv foot T T' post hown hloc hb E l e1 e2 e3 e4 e5 e6 e7 => ?_⟩
  refine h E f first capv l _ e1.md fun r hr => ?_
  have hfr : ∀ a, foot a → a.block ≠ r := fun a ha e => by
    have := e2 a ha
    rw [hr.cell a e] at this
    exact hown a ha this.symm
  obtain ⟨l1, hl1⟩ : ∃ l1, l1 = l.addc r #[.int .i64 0] := ⟨_, rfl⟩
  rw [← hl1]
  have c1 : ∀ a, a.block ≠ r → l1.res.cells a = l.res.cells a := fun a ha => by rw [hl1]; exact addc_old ha
  have t1 : ∀ k, l1.res.tk k = l.res.tk k := fun k => by rw [hl1]; rfl
  have x1 : Ext l l1 := by rw [hl1]; exact ⟨e1.md, e1.df, fun _ _ x => x, rfl, rfl, fun _ => Nat.le_refl _, fun _ x => x⟩
  have hr1 : l1.res.cells ⟨r, 0, none⟩ = some (.int .i64 0) := by rw [hl1]; exact addc_new 0
  refine (hb E l1 (e1.trans x1) (fun a ha => by rw [c1 a (hfr a ha)]; exact e2 a ha) (fun k => by rw [t1]; exact e3 k) (fun c => by rw [t1]; exact e4 c) (fun c hc => by cases hc) (fun q => by rw [t1, t1]; exact e6 q) (fun c => by rw [t1]; rcases e7 c with h | h | h <;> first | exact .inl h | exact .inr (.inl (x1.cl c h)) | exact .inr (.inr h))).mono fun v l2 hp => ?_
  obtain ⟨x, rfl, hp1, hk, hg⟩ := hp
  refine ⟨hk.ext.md, by rw [hk.cell _ (fun hf => hfr _ hf rfl) (by rw [hr1]; simp), hr1]; simp, x, rfl, x, rfl, ?_, ?_, hg⟩
  · refine hloc x _ _ (fun a ha => ?_) hp1
    show _ = (if a = _ then _ else _)
    rw [if_neg (show ¬ a = (⟨r, 0, none⟩ : Addr) from fun e => hfr a ha (by rw [e]))]
  · exact {
      ext := (x1.trans hk.ext).setc _ _
      cell := fun a h1 h2 => by
        have hne : a.block ≠ r := fun e => h2 (hr.cell a e)
        show (if a = _ then _ else _) = _
        rw [if_neg (show ¬ a = (⟨r, 0, none⟩ : Addr) from fun e => hne (by rw [e])), hk.cell a h1 (by rw [c1 a hne]; exact h2), c1 a hne]
      tk := fun k => by
        have h1 := hk.tk k
        have h2 := t1 k
        show l2.res.tk k + T k = l.res.tk k + T' k
        omega
      wg := by show l2.wg = _; rw [hk.wg, hl1]; rfl
      wk := by show l2.wk = _; rw [hk.wk, hl1]; rfl
      ws := by show l2.ws = _; rw [hk.ws, hl1]; rfl
      gk := by show l2.gk = _; rw [hk.gk, hl1]; rfl
      ob := by show l2.ob = _; rw [hk.ob, hl1]; rfl
      sk := fun q hq => by show l2.sk q = _; rw [hk.sk q (by rw [x1.pl]; exact hq), hl1]; rfl }

theorem answers20 : ∃ n, ∀ (E : En) (x : Int) (l : Lo) (Post : Value → Lo → Prop), l.md = .act → (∀ b, Fresh l b → Post (.func (.func 35) #[] #[.pointer (some ⟨b, 0, none⟩)]) (l.addc b #[.int .i64 x])) → E.N 20 #[.int .i64 x] n l Post := by
  refine ⟨_, fun E x l Post hact h => n_of_b (b_of (e := 2) (L := 0) Try.func20 (by rfl) rfl ?_)⟩
  simp only [act0, Try.ntmps20, List.size_toArray, List.length_cons, List.length_nil, Nat.reduceAdd, Nat.reduceSub, Array.replicate_succ, Array.replicate_zero, List.push_toArray, List.append_toArray, List.nil_append, List.cons_append]
  repeat (first
    | (refine c_seq ?_)
    | (refine c_region ?_
       simp only [List.size_toArray, List.length_cons, List.length_nil, Nat.reduceAdd, Nat.zero_add, List.range, List.range.loop])
    | (refine o_nil ?_
       simp only [Thn, Inb, if_true, if_false, reduceIte, Nat.reduceEqDiff])
    | (refine c_skip ?_
       simp only [Thn, Inb, if_true, if_false, reduceIte, Nat.reduceEqDiff])
    | (refine c_cond true (by rfl) (fun _ => ?_) (fun e => by cases e))
    | (refine c_cond false (by rfl) (fun e => by cases e) (fun _ => ?_))
    | (refine c_block ?_)
    | (refine c_label ?_
       simp only [Thn, Inb, if_true, if_false, reduceIte, Nat.reduceEqDiff])
    | (refine c_scope ?_)
    | (refine o_cons (u_read (by omega) hact rfl (by rfl) fun w hF K' hK' => ?_)
       go_simp
       refine hK' _ ⟨?_, ?_⟩
       focus
         rw [listed_nil]
         · simp
         · (simp [go_sem]; done)
       clear hK' K' hF w
       try walk_nrm)
    | (refine o_cons (u_unwanted (by omega) rfl (by rfl) ?_)
       try walk_nrm))
  refine o_cons (u_new (by omega) hact rfl (by rfl) (.cells #[.int .i64 x] 3) (fun r => .pointer (some ⟨r, 0, none⟩)) (fun r => l.addc r #[.int .i64 x]) (fun w => by simp [go_sem]) (fun w => by simp [go_sem]) (new_cells hact _ _) fun b hb => ?_)
  have h := h b hb
  obtain ⟨l1, hl1⟩ : ∃ l1, l1 = l.addc b #[.int .i64 x] := ⟨_, rfl⟩
  rw [← hl1] at h
  rw [← hl1]
  have hact1 : l1.md = .act := by rw [hl1]; exact hact
  try walk_nrm
  repeat (first
    | (refine c_seq ?_)
    | (refine c_region ?_
       simp only [List.size_toArray, List.length_cons, List.length_nil, Nat.reduceAdd, Nat.zero_add, List.range, List.range.loop])
    | (refine o_nil ?_
       simp only [Thn, Inb, if_true, if_false, reduceIte, Nat.reduceEqDiff])
    | (refine c_skip ?_
       simp only [Thn, Inb, if_true, if_false, reduceIte, Nat.reduceEqDiff])
    | (refine c_cond true (by rfl) (fun _ => ?_) (fun e => by cases e))
    | (refine c_cond false (by rfl) (fun e => by cases e) (fun _ => ?_))
    | (refine c_block ?_)
    | (refine c_label ?_
       simp only [Thn, Inb, if_true, if_false, reduceIte, Nat.reduceEqDiff])
    | (refine c_scope ?_)
    | (refine o_cons (u_read (by omega) hact1 rfl (by rfl) fun w hF K' hK' => ?_)
       go_simp
       refine hK' _ ⟨?_, ?_⟩
       focus
         rw [listed_nil]
         · simp
         · (simp [go_sem]; done)
       clear hK' K' hF w
       try walk_nrm)
    | (refine o_cons (u_unwanted (by omega) rfl (by rfl) ?_)
       try walk_nrm))
  refine c_ret ?_
  refine ⟨rfl, _, resultsC_tmp (by rfl) _, ?_⟩
  exact h

theorem ans35 : ∃ n, ∀ (E : En) (b : Nat) (x : Int) (l : Lo) (Post : Value → Lo → Prop), l.md = .act → l.res.cells ⟨b, 0, none⟩ = some (.int .i64 x) → Post (.int .i64 x) l → E.N 35 #[.pointer (some ⟨b, 0, none⟩)] n l Post := by
  refine ⟨_, fun E b x l Post hact hc h => n_of_b (b_of (e := 2) (L := 0) Try.func35 (by rfl) rfl ?_)⟩
  simp only [act0, Try.ntmps35, List.size_toArray, List.length_cons, List.length_nil, Nat.reduceAdd, Nat.reduceSub, Array.replicate_succ, Array.replicate_zero, List.push_toArray, List.append_toArray, List.nil_append, List.cons_append]
  repeat (first
    | (refine c_seq ?_)
    | (refine c_region ?_
       simp only [List.size_toArray, List.length_cons, List.length_nil, Nat.reduceAdd, Nat.zero_add, List.range, List.range.loop])
    | (refine o_nil ?_
       simp only [Thn, Inb, if_true, if_false, reduceIte, Nat.reduceEqDiff])
    | (refine c_skip ?_
       simp only [Thn, Inb, if_true, if_false, reduceIte, Nat.reduceEqDiff])
    | (refine c_cond true (by rfl) (fun _ => ?_) (fun e => by cases e))
    | (refine c_cond false (by rfl) (fun e => by cases e) (fun _ => ?_))
    | (refine c_block ?_)
    | (refine c_label ?_
       simp only [Thn, Inb, if_true, if_false, reduceIte, Nat.reduceEqDiff])
    | (refine c_scope ?_)
    | (refine o_cons (u_read (by omega) hact rfl (by rfl) fun w hF K' hK' => ?_)
       go_simp
       refine hK' _ ⟨?_, ?_⟩
       focus
         rw [listed_nil]
         · simp
         · (simp [go_sem]; done)
       clear hK' K' hF w
       try walk_nrm)
    | (refine o_cons (u_unwanted (by omega) rfl (by rfl) ?_)
       try walk_nrm))
  refine o_cons (u_load (.int .i64 x) (by omega) hact rfl (by rfl) rfl Try.underlying3 rfl rfl (.inl hc) ?_)
  try walk_nrm
  repeat (first
    | (refine c_seq ?_)
    | (refine c_region ?_
       simp only [List.size_toArray, List.length_cons, List.length_nil, Nat.reduceAdd, Nat.zero_add, List.range, List.range.loop])
    | (refine o_nil ?_
       simp only [Thn, Inb, if_true, if_false, reduceIte, Nat.reduceEqDiff])
    | (refine c_skip ?_
       simp only [Thn, Inb, if_true, if_false, reduceIte, Nat.reduceEqDiff])
    | (refine c_cond true (by rfl) (fun _ => ?_) (fun e => by cases e))
    | (refine c_cond false (by rfl) (fun e => by cases e) (fun _ => ?_))
    | (refine c_block ?_)
    | (refine c_label ?_
       simp only [Thn, Inb, if_true, if_false, reduceIte, Nat.reduceEqDiff])
    | (refine c_scope ?_)
    | (refine o_cons (u_read (by omega) hact rfl (by rfl) fun w hF K' hK' => ?_)
       go_simp
       refine hK' _ ⟨?_, ?_⟩
       focus
         rw [listed_nil]
         · simp
         · (simp [go_sem]; done)
       clear hK' K' hF w
       try walk_nrm)
    | (refine o_cons (u_unwanted (by omega) rfl (by rfl) ?_)
       try walk_nrm))
  refine c_ret ?_
  refine ⟨rfl, _, resultsC_tmp (by rfl) _, ?_⟩
  exact h

/-- A task that answers a number. -/
def ansTask (b : Nat) (x : Int) (pool : Option Nat) : Task :=
  ⟨.func (.func 35) #[] #[.pointer (some ⟨b, 0, none⟩)], fun a => a = ⟨b, 0, none⟩, fun _ => 0, fun k => 0 + (match pool with | some p => bg1 p k | none => 0), fun y C => y = x ∧ C ⟨b, 0, none⟩ = some (.int .i64 x)⟩
theorem ansOk (b : Nat) (x : Int) (pool : Option Nat) : (ansTask b x pool).Ok where
  loc y C C' h1 h2 := ⟨h2.1, by rw [← h1 _ rfl]; exact h2.2⟩
  own y C h a ha := by rw [show a = _ from ha, h.2]; simp
  slot p := ⟨rfl, by cases pool <;> simp [ansTask, bg1]⟩
  alive p := ⟨rfl, by cases pool <;> simp [ansTask, bg1]⟩
  gm c := ⟨rfl, by cases pool <;> simp [ansTask, bg1]⟩
  tr c := by cases pool <;> simp [ansTask, bg1]
theorem ans_body : ∃ nt, ∀ (l0 : Lo) (b : Nat) (x : Int), l0.res.cells ⟨b, 0, none⟩ = some (.int .i64 x) → BodyOk l0 nt none 35 (#[] ++ #[.pointer (some ⟨b, 0, none⟩)]) (fun a => a = ⟨b, 0, none⟩) (fun _ => 0) (fun _ => 0) (fun y C => y = x ∧ C ⟨b, 0, none⟩ = some (.int .i64 x)) := by
  obtain ⟨n, h⟩ := ans35
  refine ⟨n, fun l0 b x hc E l e1 e2 e3 e4 e5 e6 e7 => ?_⟩
  have hc' := (e2 _ rfl).trans hc
  exact h E b x l _ e1.md hc' ⟨x, rfl, ⟨rfl, hc'⟩, ⟨Ext.refl e1.md e1.df, fun _ _ _ => rfl, fun _ => rfl, rfl, rfl, rfl, rfl, rfl, fun _ _ => rfl⟩, fun c hc => by cases hc⟩
theorem ans_pool : ∃ nr, ∀ (l0 : Lo) (p ch cap : Nat) (so : Bool) (b : Nat) (x : Int), l0.pl p = some (ch, cap, so) → l0.res.cells ⟨b, 0, none⟩ = some (.int .i64 x) → RunOk l0 (.pointer (some ⟨p, 0, none⟩)) nr none (ansTask b x (some p)) := by
  obtain ⟨nt, hb⟩ := ans_body
  obtain ⟨nr, h⟩ := runOk_pool nt
  refine ⟨nr, fun l0 p ch cap so b x hpl hc => ?_⟩
  exact h l0 p ch cap so none 35 #[] #[.pointer (some ⟨b, 0, none⟩)] _ _ _ _ hpl (fun a ha => by rw [show a = _ from ha, hc]; simp) (ansOk b x (some p)).loc (hb l0 b x hc)
theorem ans_nil : ∃ nr, ∀ (l0 : Lo) (b : Nat) (x : Int), l0.res.cells ⟨b, 0, none⟩ = some (.int .i64 x) → RunOk l0 (.pointer none) nr none (ansTask b x none) := by
  obtain ⟨nt, hb⟩ := ans_body
  obtain ⟨nr, h⟩ := runOk_nil nt
  refine ⟨nr, fun l0 b x hc => ?_⟩
  exact h l0 35 #[] #[.pointer (some ⟨b, 0, none⟩)] _ _ _ _ (fun a ha => by rw [show a = _ from ha, hc]; simp) (ansOk b x none).loc (hb l0 b x hc)
end Go.Proofs.Ytofohjbcgchhoaa

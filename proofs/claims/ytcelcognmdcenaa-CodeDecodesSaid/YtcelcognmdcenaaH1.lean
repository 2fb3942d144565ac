/-
  WALKS: copies of slices, of programs.
-/
import Derived.Test.YtcelcognmdcenaaC2
import Derived.Lib.SliceRun
namespace Go.Proofs.Ytcelcognmdcenaa
open Go.RowKit

section
variable {P : Program} {w : World}
/-- Nothing is appended: the row is handed back. -/
theorem run_app_nil {base : Nat} {t ty e : TypeId} {i : TypeInfo} {size : Nat} (ht : P.underlying t = some (.slice e)) (hi : P.info? e = some i)
    {v : Value} {n : Nat} {xs : List Value} (hown : w.ownsRow base e size v n xs) (c : Nat) : (Builtin.append_ #[t, t] ty #[v, .slice none 0 c]).run P w = .ok v w := by
  obtain ⟨_, ⟨rfl, rfl⟩ | ⟨g, cap, cur, rfl, _, _, hnc, _⟩⟩ := hown <;>
    simp [Builtin.append_, run_underlying ht, sizeOf, typeInfo, Builtin.lenOf, Builtin.firstCells, storeCells, *]
/-- append of a whole row that is read, nil or not. -/
theorem wpList_appR {ops : Array Oper} {rest : List Oper} {o : Oper} {a : Act} {Q : Exit → Act → World → Prop} (hgd : o.guard = none) (s x : Operand) (t : TypeId)
    (ho : o.op = .call { callee := .builtin .append, args := #[s, x], argTypes := #[t, t] })
    (base : Nat) (e : TypeId) (i : TypeInfo) (z : Value) (size bytes : Nat) (ht : P.underlying t = some (.slice e)) (hi : P.info? e = some i) (hz : i.zero = some z)
    (hsize : i.size = size) (hby : i.bytes = bytes) (hzs : z.cells.size = size) (hpos : 0 < size)
    (v : Value) (n : Nat) (xs : List Value) (hs : a.eval s = v) (hown : w.ownsRow base e size v n xs)
    (A : Option Addr) (m c : Nat) (news : List Value) (hx : a.eval x = .slice A m c) (hsrc : Reads w size (.slice A m c) m news) (h1 : ∀ u ∈ news, u.oneCell' = true)
    (h63 : n + m ≤ maxLen) (hb : (n + m) * bytes ≤ 140737488355328) (hbase : base ≤ w.heap.size)
    (h : ∀ v' w', w'.ownsRow base e size v' (n + m) (xs ++ news) → w.grownBy w' v.ownBlock → (v'.ownBlock = v.ownBlock ∨ v'.ownBlock = some w.heap.size) → wpList P ops Q rest (a.put o.dst v') w') : wpList P ops Q (o :: rest) a w := by
  refine wpList_plain hgd fun K hK => ?_
  obtain ⟨hl, hmx, A', c', he, hA, hc⟩ := hsrc
  cases he
  cases A with
  | none =>
    obtain ⟨rfl, rfl⟩ := hA rfl
    have hn : news = [] := List.eq_nil_of_length_eq_zero (by omega)
    subst hn
    unfold Oper.wp execOp
    simp only [ho, resolve, invoke, builtin, Sem.run_bind, Sem.run_pure, Result.andThen_ok, List.map_toArray, List.map_cons, List.map_nil, hs, hx, run_app_nil (ty := o.type) ht hi hown 0]
    exact hK _ _ (h _ _ (by simpa using hown) (World.grownBy.refl w _) (.inl rfl))
  | some ad =>
    have hcell : ∀ j u, news[j]? = some u → w.cell? (ad.add j) = some u := by
      intro j u hu
      have hj := (List.getElem?_eq_some_iff.1 hu).1
      have hm : 0 < m := by
        rcases Nat.eq_zero_or_pos m with e | e
        · subst e; omega
        · exact e
      obtain ⟨b, o, had, _, hcc⟩ := hc hm
      cases had
      rw [Addr.add_lit]
      exact hcc j u hu
    obtain ⟨v', w', hrun, h2, h3, _, h5⟩ := run_append_own_at (P := P) w base t o.type e i z size bytes ht hi hz hsize hby hzs hpos v n xs hown ad m c news (by omega) hcell h1 h63 hb hbase
    unfold Oper.wp execOp
    simp only [ho, resolve, invoke, builtin, Sem.run_bind, Sem.run_pure, Result.andThen_ok, List.map_toArray, List.map_cons, List.map_nil, hs, hx, hrun]
    exact hK _ _ (h v' w' h2 h3 h5)
end

/-- What Clone answers. -/
def CloneOut (w : World) (e : TypeId) (size n : Nat) (xs : List Value) (f : Ending) (w' : World) : Prop :=
  ∃ v, f = .returned v ∧ w'.ownsRow w.heap.size e size v n xs ∧ Below w.heap.size w w'

set_option maxHeartbeats 400000 in
theorem clone16 (A : Option Addr) (n c : Nat) (l : List Nat) (w : World) (h : Reads w 1 (.slice A n c) n (vB l)) (hb : n ≤ 140737488351232) :
    Calls Try.prog 16 #[.slice A n c] w (CloneOut w 5 1 n (vB l)) := by
  obtain ⟨i0, hi, hz0, hz1, hz2⟩ := info_parts info5
  have he := fun wx => Lib.run_eql_slice_nil (P := Try.prog) wx 31 5 A n c 0 0 Try.underlying31
  cases A with
  | none =>
    obtain ⟨h1, h2, A', c', h3, h4, h5⟩ := h
    cases h3
    obtain ⟨rfl, rfl⟩ := h4 rfl
    have hx : vB l = [] := List.eq_nil_of_length_eq_zero (by omega)
    rw [hx]
    simp only [Option.isNone] at he
    clear h1 h2 h4 h5
    go_enter Try.func16, Try.ntmps16
    go_wp2
    go_ret
    exact ⟨_, rfl, World.ownsRow_nil _ _ _ _, Below.refl _ _⟩
  | some ad =>
    have hown := World.ownsRow_lit (base := w.heap.size) (e := 5) (size := 1) w #[] 0 (Nat.le_refl _) (Nat.zero_le _) rfl
    have HO := Lib.hid hown
    have HR := Lib.hid (h.alloc (.cells #[] 5))
    simp only [Option.isNone] at he
    clear h hown
    go_enter Try.func16, Try.ntmps16
    go_wp2_with (at_builtin; refine wpList_appR rfl (.tmp 5) (.tmp 6) 31 rfl w.heap.size 5 i0 (.int .u8 0) 1 1 Try.underlying31 hi hz0 hz1 hz2 rfl (by decide) _ 0 [] rfl HO.out (some ad) n c (vB l) rfl HR.out (vB_one _) (by unfold maxLen; omega) (by omega) (by simp) ?_)
    intro v1 w1 hown1 hg1 _
    have hb1 : Below w.heap.size w w1 := ((Below.refl _ _).alloc (Nat.le_refl _) _).grown hg1 (by simp) (fun b hb => by simp [Value.ownBlock] at hb; omega)
    have HO1 := Lib.hid hown1
    clear hown1 hg1
    go_wp2
    go_ret
    refine ⟨v1, rfl, ?_, hb1⟩
    have := HO1.out
    simpa using this

set_option maxHeartbeats 400000 in
theorem clone36 (A : Option Addr) (n c : Nat) (l : List (Int × Int)) (w : World) (h : Reads w 2 (.slice A n c) n (vP l)) (hb : n * 16 ≤ 140737488351232) :
    Calls Try.prog 36 #[.slice A n c] w (CloneOut w 48 2 n (vP l)) := by
  obtain ⟨i0, hi, hz0, hz1, hz2⟩ := info_parts info48
  have he := fun wx => Lib.run_eql_slice_nil (P := Try.prog) wx 22 48 A n c 0 0 Try.underlying22
  cases A with
  | none =>
    obtain ⟨h1, h2, A', c', h3, h4, h5⟩ := h
    cases h3
    obtain ⟨rfl, rfl⟩ := h4 rfl
    have hx : vP l = [] := List.eq_nil_of_length_eq_zero (by omega)
    rw [hx]
    simp only [Option.isNone] at he
    clear h1 h2 h4 h5
    go_enter Try.func36, Try.ntmps36
    go_wp2
    go_ret
    exact ⟨_, rfl, World.ownsRow_nil _ _ _ _, Below.refl _ _⟩
  | some ad =>
    have hown := World.ownsRow_lit (base := w.heap.size) (e := 48) (size := 2) w #[] 0 (Nat.le_refl _) (Nat.zero_le _) rfl
    have HO := Lib.hid hown
    have HR := Lib.hid (h.alloc (.cells #[] 48))
    simp only [Option.isNone] at he
    clear h hown
    go_enter Try.func36, Try.ntmps36
    go_wp2_with (at_builtin; refine wpList_appR rfl (.tmp 5) (.tmp 6) 22 rfl w.heap.size 48 i0 (.agg #[.int .i64 0, .int .i64 0]) 2 16 Try.underlying22 hi hz0 hz1 hz2 rfl (by decide) _ 0 [] rfl HO.out (some ad) n c (vP l) rfl HR.out (vP_one _) (by unfold maxLen; omega) (by omega) (by simp) ?_)
    intro v1 w1 hown1 hg1 _
    have hb1 : Below w.heap.size w w1 := ((Below.refl _ _).alloc (Nat.le_refl _) _).grown hg1 (by simp) (fun b hb => by simp [Value.ownBlock] at hb; omega)
    have HO1 := Lib.hid hown1
    clear hown1 hg1
    go_wp2
    go_ret
    refine ⟨v1, rfl, ?_, hb1⟩
    have := HO1.out
    simpa using this
theorem below_none {w w' : World} (h : w.grownBy w' none) : Below w.heap.size w w' := ⟨h.os, h.tape, h.output, h.size, fun k hk => h.block k hk (by simp)⟩
/-- What Copy answers. -/
def CopyOut (w : World) (p : Pr) (f : Ending) (w' : World) : Prop :=
  ∃ M : PrV, f = .returned (M.val p) ∧ PrOwn w.heap.size w' M p ∧ Below w.heap.size w w'

set_option maxHeartbeats 2000000 in
theorem copy37 (p : Pr) (L : PrV) (w : World) (hp : PrIn w L p) (hc : p.code.length * 40 ≤ 140737488351232) (ho : p.outs.length * 8 ≤ 140737488351232) : Calls Try.prog 37 #[L.val p] w (CopyOut w p) := by
  obtain ⟨i63, hi, hz0, hz1, hz2⟩ := info_parts info63
  obtain ⟨i3, hi3, hy0, hy1, hy2⟩ := info_parts info3
  obtain ⟨w1, hw1⟩ : ∃ w1, w1 = ((w.alloc (.cells #[.int .i64 p.ins, .int .i64 p.regs, .slice L.A p.code.length L.c, .slice L.B p.outs.length L.d] 26)).alloc (.cells #[.int .i64 0, .int .i64 0, .slice none 0 0, .slice none 0 0] 26)).alloc (.cells #[.int .i64 p.ins, .int .i64 p.regs, .slice none 0 0, .slice none 0 0] 26) := ⟨_, rfl⟩
  have HW := Lib.hid hw1
  have HB1 : Hid (Below w.heap.size w w1) := Lib.hid (by rw [hw1]; exact (((Below.refl _ _).alloc (Nat.le_refl _) _).alloc (by simp) _).alloc (by simp; omega) _)
  have HS1 : Hid (w1.heap.size = w.heap.size + 3) := Lib.hid (by rw [hw1]; simp)
  have HQ0 : Hid (w1.heap[w.heap.size]? = some (.cells #[.int .i64 p.ins, .int .i64 p.regs, .slice L.A p.code.length L.c, .slice L.B p.outs.length L.d] 26 (0, 0))) := Lib.hid (by rw [hw1, Below.heap_alloc _ _ _ (by simp; omega), Below.heap_alloc _ _ _ (by simp)]; exact heap_alloc_new w _)
  have HQ1 : Hid (w1.heap[w.heap.size + 1]? = some (.cells #[.int .i64 0, .int .i64 0, .slice none 0 0, .slice none 0 0] 26 (0, 0))) := Lib.hid (by rw [hw1, Below.heap_alloc _ _ _ (by simp)]; have := heap_alloc_new (w.alloc (.cells #[.int .i64 p.ins, .int .i64 p.regs, .slice L.A p.code.length L.c, .slice L.B p.outs.length L.d] 26)) (.cells #[.int .i64 0, .int .i64 0, .slice none 0 0, .slice none 0 0] 26); simpa using this)
  have HQ2 : Hid (w1.heap[w.heap.size + 1 + 1]? = some (.cells #[.int .i64 p.ins, .int .i64 p.regs, .slice none 0 0, .slice none 0 0] 26 (0, 0))) := Lib.hid (by rw [hw1]; have := heap_alloc_new ((w.alloc (.cells #[.int .i64 p.ins, .int .i64 p.regs, .slice L.A p.code.length L.c, .slice L.B p.outs.length L.d] 26)).alloc (.cells #[.int .i64 0, .int .i64 0, .slice none 0 0, .slice none 0 0] 26)) (.cells #[.int .i64 p.ins, .int .i64 p.regs, .slice none 0 0, .slice none 0 0] 26); simpa using this)
  have HP := Lib.hid hp
  have HPC : Hid (Reads w1 5 (.slice L.A p.code.length L.c) p.code.length (vC p.code)) := Lib.hid (hp.code.below HB1.out)
  have hcm : p.code.length ≤ maxLen := by unfold maxLen; omega
  have hom : p.outs.length ≤ maxLen := by unfold maxLen; omega
  rw [hw1] at HPC
  clear hw1 hp
  unfold PrV.val
  go_enter Try.func37, Try.ntmps37
  go_wp2_with (at_builtin; refine wpList_appR rfl (.tmp 10) (.tmp 12) 23 rfl w.heap.size 63 i63 (.agg #[.int .i64 0, .int .i64 0, .int .i64 0, .int .i64 0, .int .i64 0]) 5 40 Try.underlying23 hi hz0 hz1 hz2 rfl (by decide) (.slice none 0 0) 0 [] rfl (World.ownsRow_nil _ _ _ _) L.A p.code.length L.c (vC p.code) rfl HPC.out (vC_one _) (by omega) (by omega) (by simp; omega) ?_)
  intro v3 w3 ho3 hg3 _
  have HG3 : Hid (w1.grownBy w3 none) := Lib.hid (by rw [HW.out]; exact hg3)
  have HO3 : Hid (w3.ownsRow w.heap.size 63 5 v3 p.code.length (vC p.code)) := Lib.hid (by simpa using ho3)
  obtain ⟨A3, C3, hv3, _, _⟩ := own_slice HO3.out
  subst hv3
  have hs1 := HS1.out
  have hq0 := (HG3.out.block w.heap.size (by omega) (by simp)).trans HQ0.out
  have hq1 := (HG3.out.block (w.heap.size + 1) (by omega) (by simp)).trans HQ1.out
  have hq2 := (HG3.out.block (w.heap.size + 1 + 1) (by omega) (by simp)).trans HQ2.out
  have HR3 := Lib.hid ((HP.out.outs.below HB1.out).below (below_none HG3.out))
  have HR4 : Hid (Reads (w3.setCell ⟨w.heap.size + 1 + 1, 2, none⟩ (.slice A3 p.code.length C3)) 1 (.slice L.B p.outs.length L.d) p.outs.length (vI p.outs)) := Lib.hid (HR3.out.far fun b o hA hn => ⟨fun e => by
    obtain ⟨b', o', e1, e2, _⟩ := HP.out.outs.ints.2 hn
    have hA := (Value.slice.inj hA).1
    rw [e1] at hA
    cases hA
    omega, trivial⟩)
  have a0 := cell_of_row w3 w.heap.size 3 _ 26 (0, 0) hq0
  have b0 := cell_of_row w3 (w.heap.size + 1 + 1) 0 _ 26 (0, 0) hq2
  have b1 := cell_of_row w3 (w.heap.size + 1 + 1) 1 _ 26 (0, 0) hq2
  have b2 := cell_of_row w3 (w.heap.size + 1 + 1) 2 _ 26 (0, 0) hq2
  have b3 := cell_of_row w3 (w.heap.size + 1 + 1) 3 _ 26 (0, 0) hq2
  have f2 := frozen_of_row w3 (w.heap.size + 1 + 1) 2 _ 26 hq2
  have HH0 := Lib.hid hq0
  have HH1 := Lib.hid hq1
  have HH2 := Lib.hid hq2
  have HS3 := HG3.out.size
  clear hq0 hq1 hq2 ho3 hg3
  go_wp2_with (at_builtin; refine wpList_appR rfl (.tmp 16) (.tmp 18) 24 rfl w.heap.size 3 i3 (.int .i64 0) 1 8 Try.underlying24 hi3 hy0 hy1 hy2 rfl (by decide) (.slice none 0 0) 0 [] rfl (World.ownsRow_nil _ _ _ _) L.B p.outs.length L.d (vI p.outs) rfl HR4.out (vI_one _) (by omega) (by omega) (by simp [World.setCell]; omega) ?_)
  intro v5 w5 ho5 hg5 _
  have HO5 := Lib.hid ho5
  obtain ⟨A5, C5, hv5, _, _⟩ := own_slice HO5.out
  subst hv5
  have hb5 := below_none hg5
  have hw4 : (w3.setCell ⟨w.heap.size + 1 + 1, 2, none⟩ (.slice A3 p.code.length C3)).heap.size = w3.heap.size := by simp [World.setCell]
  rw [hw4] at hb5
  have hq2 : w5.heap[w.heap.size + 1 + 1]? = some (.cells #[.int .i64 p.ins, .int .i64 p.regs, .slice A3 p.code.length C3, .slice none 0 0] 26 (0, 0)) := (hb5.block _ (by omega)).trans (blk_set HH2.out 2 _)
  have hq1 : w5.heap[w.heap.size + 1]? = some (.cells #[.int .i64 0, .int .i64 0, .slice none 0 0, .slice none 0 0] 26 (0, 0)) := (hb5.block _ (by omega)).trans ((set_blk _ (by omega)).trans HH1.out)
  have HO3' : Hid (w5.ownsRow w.heap.size 63 5 (.slice A3 p.code.length C3) p.code.length (vC p.code)) := Lib.hid (own_congr HO3.out fun g hg => (hb5.block _ (own_lt HO3.out hg)).trans (set_blk _ (fun e => own_blk_ne HO3.out HH2.out (by decide) (e ▸ hg))))
  have HB5 : Hid (Below w.heap.size w w5) := Lib.hid ((HB1.out.trans ((below_none HG3.out).mono (by omega))).setCell (p := ⟨w.heap.size + 1 + 1, 2, none⟩) (by show w.heap.size ≤ w.heap.size + 1 + 1; omega) _ |>.trans (hb5.mono (by omega)))
  clear a0 b0 b1 b2 b3 f2 ho5 hg5 hb5 hw4
  have b0 := cell_of_row w5 (w.heap.size + 1 + 1) 0 _ 26 (0, 0) hq2
  have b1 := cell_of_row w5 (w.heap.size + 1 + 1) 1 _ 26 (0, 0) hq2
  have b2 := cell_of_row w5 (w.heap.size + 1 + 1) 2 _ 26 (0, 0) hq2
  have b3 := cell_of_row w5 (w.heap.size + 1 + 1) 3 _ 26 (0, 0) hq2
  have f3 := frozen_of_row w5 (w.heap.size + 1 + 1) 3 _ 26 hq2
  have z0 := cell_of_row w5 (w.heap.size + 1) 0 _ 26 (0, 0) hq1
  have z1 := cell_of_row w5 (w.heap.size + 1) 1 _ 26 (0, 0) hq1
  have z2 := cell_of_row w5 (w.heap.size + 1) 2 _ 26 (0, 0) hq1
  have z3 := cell_of_row w5 (w.heap.size + 1) 3 _ 26 (0, 0) hq1
  have g0 := frozen_of_row w5 (w.heap.size + 1) 0 _ 26 hq1
  have g1 := frozen_of_row w5 (w.heap.size + 1) 1 _ 26 hq1
  have g2 := frozen_of_row w5 (w.heap.size + 1) 2 _ 26 hq1
  have g3 := frozen_of_row w5 (w.heap.size + 1) 3 _ 26 hq1
  have K1 := Lib.hid hq1
  have K2 := Lib.hid hq2
  clear hq1 hq2
  go_wp2_with fail
  have hW : (w5.setCell ⟨w.heap.size + 1 + 1, 3, none⟩ (.slice A5 p.outs.length C5)).heap[w.heap.size + 1]? = some (.cells #[.int .i64 0, .int .i64 0, .slice none 0 0, .slice none 0 0] 26 (0, 0)) := (set_blk _ (by omega)).trans K1.out
  have hz := set4_blk (a0 := .int .i64 p.ins) (a1 := .int .i64 p.regs) (a2 := .slice A3 p.code.length C3) (a3 := .slice A5 p.outs.length C5) hW
  refine bodyPost_ret (v := .agg #[.int .i64 p.ins, .int .i64 p.regs, .slice A3 p.code.length C3, .slice A5 p.outs.length C5]) ?_ rfl ?_
  · have c0 := cell_of_row _ (w.heap.size + 1) 0 _ 26 (0, 0) hz
    have c1' := cell_of_row _ (w.heap.size + 1) 1 _ 26 (0, 0) hz
    have c2' := cell_of_row _ (w.heap.size + 1) 2 _ 26 (0, 0) hz
    have c3 := cell_of_row _ (w.heap.size + 1) 3 _ 26 (0, 0) hz
    simp at c0 c1' c2' c3
    simp [results, Try.results37, go_sem, c0, c1', c2', c3]
  · refine ⟨⟨A3, C3, A5, C5⟩, rfl, ⟨?_, ?_⟩, ?_⟩
    · exact own_congr HO3'.out fun g hg => (set4_far (fun e => own_blk_ne HO3'.out K1.out (by decide) (hg.trans (congrArg some e)))).trans (set_blk _ (fun e => own_blk_ne HO3'.out K2.out (by decide) (hg.trans (congrArg some e))))
    · exact own_congr HO5.out fun g hg => (set4_far (fun e => own_blk_ne HO5.out K1.out (by decide) (hg.trans (congrArg some e)))).trans (set_blk _ (fun e => own_blk_ne HO5.out K2.out (by decide) (hg.trans (congrArg some e))))
    · have e3 : w.heap.size ≤ w.heap.size + 1 + 1 := by omega
      have e1 : w.heap.size ≤ w.heap.size + 1 := by omega
      exact ((((HB5.out.setCell (p := ⟨w.heap.size + 1 + 1, 3, none⟩) e3 _).setCell (p := ⟨w.heap.size + 1, 0, none⟩) e1 _).setCell (p := ⟨w.heap.size + 1, 1, none⟩) e1 _).setCell (p := ⟨w.heap.size + 1, 2, none⟩) e1 _).setCell (p := ⟨w.heap.size + 1, 3, none⟩) e1 _
end Go.Proofs.Ytcelcognmdcenaa

/-
  WALKS: a number in two bytes; append of several bytes.
-/
import Derived.Test.YtcelcognmdcenaaC1
import Derived.Laws.BitsLemmas
namespace Go.Proofs.Ytcelcognmdcenaa
open Go.RowKit

section
variable {P : Program} {w : World}
/-- append of so many elements of one cell. -/
theorem wpList_appM {ops : Array Oper} {rest : List Oper} {o : Oper} {a : Act} {Q : Exit → Act → World → Prop} (hgd : o.guard = none) (s x : Operand) (t : TypeId)
    (ho : o.op = .call { callee := .builtin .append, args := #[s, x], argTypes := #[t, t] })
    (base : Nat) (e : TypeId) (i : TypeInfo) (z : Value) (bytes : Nat) (ht : P.underlying t = some (.slice e)) (hi : P.info? e = some i) (hz : i.zero = some z)
    (hsize : i.size = 1) (hby : i.bytes = bytes) (hzs : z.cells.size = 1) (hbs : bytes ≤ 64)
    (v : Value) (n : Nat) (xs : List Value) (hs : a.eval s = v) (hown : w.ownsRow base e 1 v n xs)
    (b m c : Nat) (news : List Value) (hx : a.eval x = .slice (some ⟨b, 0, none⟩) m c) (hl : news.length = m) (hc : ∀ j u, news[j]? = some u → w.cell? ⟨b, j, none⟩ = some u) (h1 : ∀ u ∈ news, u.oneCell' = true)
    (hn : n + m < 4294967296) (hbase : base ≤ w.heap.size)
    (h : ∀ v' w', w'.ownsRow base e 1 v' (n + m) (xs ++ news) → w.grownBy w' v.ownBlock → (v'.ownBlock = v.ownBlock ∨ v'.ownBlock = some w.heap.size) → wpList P ops Q rest (a.put o.dst v') w') : wpList P ops Q (o :: rest) a w := by
  have hb : (n + m) * bytes ≤ 140737488355328 := by
    have : (n + m) * bytes ≤ 4294967296 * 64 := Nat.mul_le_mul (by omega) hbs
    omega
  obtain ⟨v', w', hrun, h2, h3, _, h5⟩ := run_append_own_at (P := P) w base t o.type e i z 1 bytes ht hi hz hsize hby hzs (by decide) v n xs hown ⟨b, 0, none⟩ m c news (by omega) (fun j u hu => by rw [Addr.add_lit, Nat.zero_add]; exact hc j u hu) h1 (by unfold maxLen; omega) hb hbase
  refine wpList_plain hgd fun K hK => ?_
  unfold Oper.wp execOp
  simp only [ho, resolve, invoke, builtin, Sem.run_bind, Sem.run_pure, Result.andThen_ok, List.map_toArray, List.map_cons, List.map_nil, hs, hx, hrun]
  exact hK _ _ (h v' w' h2 h3 h5)
theorem step_appM {ops : Array Oper} {o : Oper} {a : Act} {K : Act → World → Prop} {Q : Exit → Act → World → Prop} {E : Prop} (hgd : o.guard = none) (s x : Operand) (t : TypeId)
    (ho : o.op = .call { callee := .builtin .append, args := #[s, x], argTypes := #[t, t] })
    (base : Nat) (e : TypeId) (i : TypeInfo) (z : Value) (bytes : Nat) (ht : P.underlying t = some (.slice e)) (hi : P.info? e = some i) (hz : i.zero = some z)
    (hsize : i.size = 1) (hby : i.bytes = bytes) (hzs : z.cells.size = 1) (hbs : bytes ≤ 64)
    (v : Value) (n : Nat) (xs : List Value) (hs : a.eval s = v) (hown : w.ownsRow base e 1 v n xs)
    (b m c : Nat) (news : List Value) (hx : a.eval x = .slice (some ⟨b, 0, none⟩) m c) (hl : news.length = m) (hc : ∀ j u, news[j]? = some u → w.cell? ⟨b, j, none⟩ = some u) (h1 : ∀ u ∈ news, u.oneCell' = true)
    (hn : n + m < 4294967296) (hbase : base ≤ w.heap.size)
    (h : ∀ v' w', w'.ownsRow base e 1 v' (n + m) (xs ++ news) → w.grownBy w' v.ownBlock → (v'.ownBlock = v.ownBlock ∨ v'.ownBlock = some w.heap.size) → K (a.put o.dst v') w') :
    if Region.wanted o (yielded ops a.tmps) = true then Oper.wp P o a w K Q else E := by
  have hw : Region.wanted o (yielded ops a.tmps) = true := by simp [Region.wanted, hgd]
  rw [if_pos hw]
  have hb : (n + m) * bytes ≤ 140737488355328 := by
    have : (n + m) * bytes ≤ 4294967296 * 64 := Nat.mul_le_mul (by omega) hbs
    omega
  obtain ⟨v', w', hrun, h2, h3, _, h5⟩ := run_append_own_at (P := P) w base t o.type e i z 1 bytes ht hi hz hsize hby hzs (by decide) v n xs hown ⟨b, 0, none⟩ m c news (by omega) (fun j u hu => by rw [Addr.add_lit, Nat.zero_add]; exact hc j u hu) h1 (by unfold maxLen; omega) hb hbase
  unfold Oper.wp execOp
  simp only [ho, resolve, invoke, builtin, Sem.run_bind, Sem.run_pure, Result.andThen_ok, List.map_toArray, List.map_cons, List.map_nil, hs, hx, hrun]
  exact h v' w' h2 h3 h5
end

theorem u8_by8 (n : Int) : IntKind.u8.wrap n = (by8 n : Nat) := by rw [IntKind.wrap_u8]; unfold by8; omega
theorem lit_cells (w : World) (l : List Value) (T : TypeId) : ∀ j u, l[j]? = some u → (w.alloc (.cells l.toArray T)).cell? ⟨w.heap.size, j, none⟩ = some u := by
  intro j u hu
  rw [cell_of_row _ w.heap.size j _ T (0, 0) (heap_alloc_new w _)]
  simpa using hu

set_option maxHeartbeats 1000000 in
theorem pair28 (v : Value) (m base : Nat) (l : List Nat) (n : Int) (w : World) (h : w.ownsRow base 5 1 v m (vB l)) (hb : base ≤ w.heap.size) (hm : m < 4294967000) :
    Calls Try.prog 28 #[v, .int .i64 n] w fun e w' => ∃ v', e = .returned v' ∧ w'.ownsRow base 5 1 v' (m + 2) (vB (l ++ by16 n)) ∧ Below base w w' := by
  obtain ⟨i5, hi, hz0, hz1, hz2⟩ := info_parts info5
  have e1 := u8_by8 (n / 256)
  have e2 := u8_by8 n
  obtain ⟨A, c, rfl, _, _⟩ := own_slice h
  have HO := Lib.hid h
  have hbase : ∀ g, (Value.slice A m c).ownBlock = some g → base ≤ g := fun g hg => (h.lt g hg).1
  have HBS := Lib.hid hbase
  clear h hbase
  go_enter Try.func28, Try.ntmps28
  go_wp2_with (at_builtin; refine wpList_appM rfl (.tmp 5) (.tmp 11) 31 rfl base 5 i5 (.int .u8 0) 1 Try.underlying31 hi hz0 hz1 hz2 rfl (by decide) (.slice A m c) m (vB l) rfl (HO.out.alloc _) w.heap.size 2 2 (vB (by16 n)) rfl rfl (lit_cells w (vB (by16 n)) 5) (vB_one _) (by omega) (by simp; omega) ?_)
  intro v' w1 ho1 hg1 _
  have HB1 : Hid (Below base w w1) := Lib.hid ((((Below.refl base w).alloc hb _).grown hg1 (by simp; omega) (fun g hg => HBS.out g hg)))
  have HO1 : Hid (w1.ownsRow base 5 1 v' (m + 2) (vB (l ++ by16 n))) := Lib.hid (by
    have : vB (l ++ by16 n) = vB l ++ vB (by16 n) := by simp [vB]
    rw [this]; exact ho1)
  obtain ⟨A1, c1, rfl, _, _⟩ := own_slice ho1
  clear ho1 hg1
  go_wp2_with fail
  go_ret
  exact ⟨_, rfl, HO1.out, HB1.out⟩

set_option maxHeartbeats 1000000 in
theorem two43 (n : Int) (w : World) (h0 : -65536 ≤ n) (h1 : n ≤ 65535) :
    Calls Try.prog 43 #[.int .i64 n] w fun e w' => ∃ v', e = .returned v' ∧ w'.ownsRow w.heap.size 5 1 v' 2 (vB (by16 n)) ∧ Below w.heap.size w w' := by
  have hv : vB (by16 n) = [.int .u8 (n % 65536 / 256), .int .u8 (n % 256)] := by
    show [Value.int .u8 ((by8 (n / 256) : Nat) : Int), .int .u8 ((by8 n : Nat) : Int)] = _
    rw [show ((by8 (n / 256) : Nat) : Int) = n % 65536 / 256 by unfold by8; omega, show ((by8 n : Nat) : Int) = n % 256 by unfold by8; omega]
  have HV := Lib.hid hv
  clear hv
  go_enter Try.func43, Try.ntmps43
  go_wp2_with fail
  go_ret
  refine ⟨_, rfl, ?_, below_a w _⟩
  rw [HV.out]
  exact World.ownsRow_lit (base := w.heap.size) (e := 5) (size := 1) w #[.int .u8 (n % 65536 / 256), .int .u8 (n % 256)] 2 (Nat.le_refl _) (by unfold maxLen; omega) rfl
end Go.Proofs.Ytcelcognmdcenaa

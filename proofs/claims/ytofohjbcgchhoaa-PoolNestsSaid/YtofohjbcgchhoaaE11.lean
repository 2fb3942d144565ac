/-
  THE WALK, on: loads, stores of one cell; an index.
-/
import Derived.Test.YtofohjbcgchhoaaEv
import Derived.ChangeKeysEq
namespace Go.Proofs.Ytofohjbcgchhoaa
open Go.Conc
open Go.RowKit
variable {E : En}

def flatD : TypeDesc → Bool
  | .struct _ | .array _ _ => false
  | _ => true

section
variable {P : Program} {w : World}
theorem load_flat {ty : TypeId} {d : TypeDesc} (hu : P.underlying ty = some d) (hd : flatD d = true) {ad : Addr} {v : Value} (hc : w.cell? ad = some v) :
    (loadVar ty ad).run P w = .ok v w ∧ (loadVar ty ad).events P w #[] = #[⟨.cell ad, false, false⟩] := by
  have hag : (isAgg ty).run P w = .ok false w := by
    unfold isAgg
    simp only [Sem.run_bind, run_underlying hu, Result.andThen]
    cases d <;> first | rfl | cases hd
  unfold loadVar
  refine ⟨?_, ?_⟩
  · simp [hag, hc, Result.andThen]
  · simp [hag, hc]
theorem store_flat {ty : TypeId} (hs : (P.info? ty).map (·.size) = some 1) {ad : Addr} {v u : Value} (hv : v.oneCell' = true) (hc : w.cell? ad = some u) (hf : w.frozen? ad = false) :
    (storeVar ty ad v).run P w = .ok () (w.setCell ad v) ∧ (storeVar ty ad v).events P w #[] = #[⟨.cell ad, true, false⟩] := by
  have hcells : v.cells = #[v] := by cases v <;> first | rfl | cases hv
  have hsz : (sizeOf ty).run P w = .ok 1 w := by
    obtain ⟨i, hi, hs⟩ := Option.map_eq_some_iff.1 hs
    unfold sizeOf
    simp [run_typeInfo w hi, Result.andThen, hs]
  have h0 : ad.add 0 = ad := by cases ad; simp [Addr.add]
  have he := events_store (P := P) (w := w) (es := #[]) ad v .plain hv
  unfold storeVar
  refine ⟨?_, ?_⟩
  · simp [hcells, hsz, Result.andThen, storeCells, run_store _ _ _ _ _ hv, hc, hf, h0]
  · simp [hcells, hsz, storeCells, he, hc, hf, h0]
end

section
variable {e : Nat} {fn : FuncId} {a : Act} {l : Lo} {K : Act → Lo → Prop} {ops : Array Oper} {j : Nat} {o : Oper}

/-- A load of one cell, its own or one that it may read. -/
theorem u_load {ty : TypeId} {d : TypeDesc} {x : Operand} {ad : Addr} (v : Value) (he : 1 ≤ e) (hact : l.md = .act) (ho : ops[j]? = some o) (hw : Region.wanted o (yielded ops a.tmps) = true) (hop : o.op = .load ty x) (hu : Try.prog.underlying ty = some d) (hd : flatD d = true)
    (hx : a.eval x = .pointer (some ad)) (hc : l.res.cells ad = some v ∨ l.ro ad v) (h : K (a.put o.dst v) l) : E.U e fn ops j K a l :=
  u_read he hact ho hw fun w hF K' hK' => by
    have hcell : w.cell? ad = some v := hc.elim (hF.cell ad v) (hF.ro ad v)
    obtain ⟨h1, h2⟩ := load_flat (P := Try.prog) (w := w) hu hd hcell
    have hr : (execOp a.eval o).run Try.prog w = .ok (.value v) w := by
      unfold execOp
      simp [hop, hx, Instr.loadAt, Instr.sureAddr, h1, Result.andThen]
    have hev : (execOp a.eval o).events Try.prog w #[] = #[⟨.cell ad, false, false⟩] := by
      unfold execOp
      simp [hop, hx, Instr.loadAt, Instr.sureAddr, h2]
    rw [hr]
    refine hK' _ ⟨fun ev hm => ?_, h⟩
    have := mem_listed hm
    rw [hev] at this
    simp only [List.mem_toArray, List.mem_cons, List.not_mem_nil, or_false] at this
    subst this
    exact ⟨ad, false, rfl, hc.elim (fun e => .inl (by rw [e]; simp)) fun e => .inr ⟨rfl, v, e⟩⟩

/-- A store into a cell of its own. -/
theorem u_store1 {ty : TypeId} {x y : Operand} {ad : Addr} (v : Value) (he : 1 ≤ e) (hact : l.md = .act) (ho : ops[j]? = some o) (hw : Region.wanted o (yielded ops a.tmps) = true) (hop : o.op = .store ty x y) (hs : (Try.prog.info? ty).map (·.size) = some 1)
    (hx : a.eval x = .pointer (some ad)) (hy : a.eval y = v) (hv : v.oneCell' = true) (hown : l.res.cells ad ≠ none) (h : K (a.put o.dst undef) (l.setc ad v)) : E.U e fn ops j K a l :=
  u_store he hact ho hw ad v hown fun w hF K' hK' => by
    obtain ⟨u, hu⟩ := Option.ne_none_iff_exists'.1 hown
    obtain ⟨h1, h2⟩ := store_flat (P := Try.prog) (w := w) hs hv (hF.cell ad u hu) (hF.froz ad u hu)
    have hr : (execOp a.eval o).run Try.prog w = .ok .skip (w.setCell ad v) := by
      unfold execOp
      simp [hop, hx, hy, Instr.storeAt, Instr.sureAddr, h1, Result.andThen]
    have hev : (execOp a.eval o).events Try.prog w #[] = #[⟨.cell ad, true, false⟩] := by
      unfold execOp
      simp [hop, hx, hy, Instr.storeAt, Instr.sureAddr, h2]
    rw [hr]
    refine hK' _ ⟨fun ev hm => ?_, h⟩
    have := mem_listed hm
    rw [hev] at this
    simp only [List.mem_toArray, List.mem_cons, List.not_mem_nil, or_false] at this
    subst this
    exact ⟨ad, true, rfl, .inl hown⟩

/-- A slice's element's address; elements of one cell. -/
theorem u_index {ty el : TypeId} {x y : Operand} {A : Addr} {n c : Nat} {k : IntKind} {m : Nat} (he : 1 ≤ e) (ho : ops[j]? = some o) (hw : Region.wanted o (yielded ops a.tmps) = true) (hop : o.op = .indexAddr ty x y) (hu : Try.prog.underlying ty = some (.slice el)) (hs : (Try.prog.info? el).map (·.size) = some 1)
    (hx : a.eval x = .slice (some A) n c) (hy : a.eval y = .int k (m : Nat)) (hm : m < n) (h : K (a.put o.dst (.pointer (some (A.add m)))) l) : E.U e fn ops j K a l := by
  have hsz : ∀ w, (sizeOf el).run Try.prog w = .ok 1 w := fun w => by
    obtain ⟨i, hi, hs⟩ := Option.map_eq_some_iff.1 hs
    unfold sizeOf
    simp [run_typeInfo w hi, Result.andThen, hs]
  refine u_pure he ho hw (.pointer (some (A.add m))) (fun w => ?_) (fun w => ?_) h
  · unfold execOp
    simp [hop, hx, hy, Instr.indexAt, asIntOf, run_underlying hu, Result.andThen, hsz, hm]
  · unfold execOp
    simp [hop, hx, hy, Instr.indexAt, asIntOf, run_underlying hu]
    omega
/-- A slot is asked for. -/
theorem u_slot {x y : Operand} {ty : TypeId} {z : Value} {p ch cap : Nat} {so : Bool} {v : Value} (he : 1 ≤ e) (hact : l.md = .act) (ho : ops[j]? = some o) (hw : Region.wanted o (yielded ops a.tmps) = true) (hop : o.op = .select #[{ chan := x, send := some y, elem := ty }] false) (hx : a.eval x = .chan (some ch)) (hy : a.eval y = v)
    (hz : ∀ w, (zeroValue ty).run Try.prog w = .ok z w) (hpl : l.pl p = some (ch, cap, so)) (hso : so = true → E.i = 0)
    (h1 : K (a.put o.dst (.tuple #[.int .i64 0, .bool false])) ((l.tok (.slot p) (l.res.tk (.slot p) + 1)).skd p (l.sk p + 1)))
    (h2 : (so = true → cap ≤ l.sk p) → (E.i = 0 → l.solo → cap ≤ l.res.tk (.slot p)) → K (a.put o.dst (.tuple #[.int .i64 (-1), .bool false])) l) : E.U e fn ops j K a l :=
  u_select he (quit_act hact) ho hw hop hx hy hz (at_select (K := fun v l' => K (a.put o.dst v) l') v hact hpl hso h1 h2)
/-- .. given back. -/
theorem u_give {x : Operand} {ty el : TypeId} {dir : ChanDir} {z : Value} {p ch cap m : Nat} {so : Bool} (he : 1 ≤ e) (hact : l.md = .act) (ho : ops[j]? = some o) (hw : Region.wanted o (yielded ops a.tmps) = true) (hop : o.op = .recv ty x false) (hx : a.eval x = .chan (some ch))
    (hu : Try.prog.underlying ty = some (.chan dir el)) (hz : ∀ w, (zeroValue el).run Try.prog w = .ok z w) (hpl : l.pl p = some (ch, cap, so)) (hm : l.res.tk (.slot p) = m + 1) (hal : l.res.tk (.alive p) ≤ m) (h : ∀ u, K (a.put o.dst u) (l.tok (.slot p) m)) : E.U e fn ops j K a l :=
  u_recv he (quit_act hact) ho hw hop hx (fun w => run_underlying hu w) hz (at_recv (KK := fun l' => ∀ u, K (a.put o.dst u) l') hact hpl hm hal h)
/-- It waits at a gate. -/
theorem u_pass {x : Operand} {ty el : TypeId} {dir : ChanDir} {z : Value} {c bg n p : Nat} (he : 1 ≤ e) (hact : l.md = .act) (ho : ops[j]? = some o) (hw : Region.wanted o (yielded ops a.tmps) = true) (hop : o.op = .recv ty x false) (hx : a.eval x = .chan (some c))
    (hu : Try.prog.underlying ty = some (.chan dir el)) (hz : ∀ w, (zeroValue el).run Try.prog w = .ok z w) (hgl : l.gl c = some (bg, n, p)) (htr : ∀ c, l.res.tk (.tr c) = 0) (h : K (a.put o.dst z) (l.cld c)) : E.U e fn ops j K a l :=
  u_gate he (quit_act hact) ho hw hop hx (fun w => run_underlying hu w) hz (at_gate (KK := fun l' => K (a.put o.dst z) l') hact hgl htr h)
/-- It opens the gate. -/
theorem u_shut {x : Operand} {ats : Array TypeId} {c bg n p : Nat} (he : 1 ≤ e) (hact : l.md = .act) (ho : ops[j]? = some o) (hw : Region.wanted o (yielded ops a.tmps) = true) (hop : o.op = .call { callee := .builtin .close, args := #[x], argTypes := ats }) (hx : a.eval x = .chan (some c))
    (hgl : l.gl c = some (bg, n, p)) (hal : l.al c) (htr : l.res.tk (.tr c) = 1) (h : K (a.put o.dst (.tuple #[])) ((l.tok (.tr c) 0).cld c)) : E.U e fn ops j K a l :=
  u_close he (quit_act hact) ho hw hop hx (at_close (KK := fun l' => K (a.put o.dst (.tuple #[])) l') hact hgl hal htr h)
/-- A go statement of a group's leader. -/
theorem u_fork {nc : Nat} {x : Operand} {ats : Array TypeId} {f : FuncId} {cap : Array Value} {u hi' k : Nat} {ws : List (Nat × (Res → Prop))} {Rc Rr : Res} (J : Res → Prop) (he : nc + 1 ≤ e) (hact : l.md = .act) (ho : ops[j]? = some o) (hw : Region.wanted o (yielded ops a.tmps) = true) (hop : o.op = .go { callee := .value x, args := #[], argTypes := ats }) (hx : a.eval x = .func (.func f) #[] cap)
    (hdf : l.df = 0) (hB : l.ws u = some ⟨ws, hi', 0⟩) (hwk : l.wk u = k + 1) (hP : Parts l Rc Rr) (hp : ∀ N, K (a.put o.dst undef) (l.parent N u k Rr J ws hi')) (hc : ∀ N, N ≠ 0 → ({ E with i := N } : En).W nc (l.child N u Rc J) (bornFr Try.prog.funcs.size [dcl f #[] cap]) []) : E.U e fn ops j K a l :=
  u_go he (quit_act hact) ho hw hop hx (at_fork (KK := fun lp => K (a.put o.dst undef) lp) (CC := fun N lc => ({ E with i := N } : En).W nc lc (bornFr Try.prog.funcs.size [dcl f #[] cap]) []) hdf hB hwk hP J hp hc)
end
end Go.Proofs.Ytofohjbcgchhoaa

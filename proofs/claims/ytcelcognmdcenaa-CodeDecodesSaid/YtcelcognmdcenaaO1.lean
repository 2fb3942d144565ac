/-
  MEMORY: a unit, a program, bytes that came in, opened: what they read as.
-/
import Derived.Test.YtcelcognmdcenaaMem
import Derived.Test.YtcelcognmdcenaaH2
import Derived.ChangeArms
import Derived.SizedLaws
import Derived.Deep.SlicePairs
import Derived.OpenShut
namespace Go.Proofs.Ytcelcognmdcenaa
open Go.ChangeShapes Go.WideShapes Go.RowKit

section
variable {H : Type} {enc : TypeId × Value → H} {w : World} {base : Nat} {sp : Nat → Bool} {held : Bool} {fuel : Nat}

theorem reads_of {α : Type} {f : α → List Value} {sz : Nat} (hf : ∀ x, (f x).length = sz) (hsz : 0 < sz) {a : Addr} {n c : Nat} (hn : n ≤ maxLen) (g : Nat → α)
    (h : ∀ i, i < n → ∀ j, j < sz → w.cell? (a.add (i * sz + j)) = (f (g i))[j]?) : Reads w sz (.slice (some a) n c) n (((List.range n).map g).flatMap f) := by
  have hlen : ∀ l : List α, (l.flatMap f).length = l.length * sz := by
    intro l
    induction l with
    | nil => simp
    | cons a l ih => rw [List.flatMap_cons, List.length_append, ih, hf, List.length_cons, Nat.succ_mul]; omega
  refine ⟨by rw [hlen]; simp, hn, some a, c, rfl, (fun e => by cases e), fun h0 => ?_⟩
  have hcell : ∀ k u, (((List.range n).map g).flatMap f)[k]? = some u → w.cell? (a.add k) = some u := by
    intro k u hu
    have hk : k < n * sz := by
      have := (List.getElem?_eq_some_iff.1 hu).1
      rw [hlen] at this
      simpa using this
    have hi : k / sz < n := Nat.div_lt_of_lt_mul (by rw [Nat.mul_comm]; exact hk)
    have hj : k % sz < sz := Nat.mod_lt _ hsz
    have e := flat_get hf ((List.range n).map g) (k / sz) (k % sz) (g (k / sz)) (by simp [hi]) hj
    have ek : k / sz * sz + k % sz = k := by rw [Nat.mul_comm]; exact Nat.div_add_mod k sz
    rw [ek] at e
    have h1 := h _ hi _ hj
    rw [ek] at h1
    rw [h1, ← e, hu]
  obtain ⟨b, o, spot⟩ := a
  have h00 : ∃ u, w.cell? ((⟨b, o, spot⟩ : Addr).add 0) = some u := by
    have := h 0 h0 0 hsz
    rw [Nat.zero_mul] at this
    have hl : 0 < (f (g 0)).length := by rw [hf]; exact hsz
    exact ⟨(f (g 0))[0], by rw [this]; simp [hl]⟩
  obtain ⟨u, hu⟩ := h00
  have hspot : spot = none := by simpa [Addr.add] using World.cell?_spot hu
  subst hspot
  rw [Addr.add_lit] at hu
  exact ⟨b, o, rfl, World.block_lt_of_cell? w _ hu, fun j u hu => by have := hcell j u hu; rwa [Addr.add_lit] at this⟩

/-- A struct of integers. -/
theorem open_int_struct {e : TypeId} {fs : Array Field} {cs : List Value} {x : DataW H × List MemPlace} (he : Try.prog.underlying e = some (.struct fs)) (hf : ∀ (i : Nat) (f : Field), fs[i]? = some f → f.type = 3 ∧ f.offset = i) (c3 : Try.prog.cellsOf 3 = 1)
    (h : DataW.trod enc Try.prog w base sp held fuel e cs = some x) : ∀ i, i < fs.size → i < cs.length → ∃ z, cs[i]? = some (.int .i64 z) := by
  intro i hi hc
  obtain ⟨xs, n, _, _, _, hxl, hx⟩ := DataW.trod_struct he h
  obtain ⟨h1, h2⟩ := hf i fs[i] (by simp [hi])
  have h3 := hx i fs[i] (by simp [hi])
  rw [h1, h2, c3] at h3
  have hi' : i < xs.length := by omega
  rw [List.getElem?_eq_getElem hi'] at h3
  obtain ⟨z, hz, _⟩ := DataW.trod_int Try.underlying3 h3
  refine ⟨z, ?_⟩
  have h4 := congrArg (fun l => l[0]?) hz
  simp only [List.getElem?_take, List.getElem?_drop, Nat.add_zero, List.getElem?_cons_zero] at h4
  simpa using h4

theorem cells3 : Try.prog.cellsOf 3 = 1 := by kernel_rfl
theorem cells5 : Try.prog.cellsOf 5 = 1 := by kernel_rfl
theorem cells48 : Try.prog.cellsOf 48 = 2 := by kernel_rfl
theorem cells63 : Try.prog.cellsOf 63 = 5 := by kernel_rfl
theorem cells22 : Try.prog.cellsOf 22 = 1 := by kernel_rfl
theorem cells23 : Try.prog.cellsOf 23 = 1 := by kernel_rfl
theorem cells24 : Try.prog.cellsOf 24 = 1 := by kernel_rfl
theorem cells26 : Try.prog.cellsOf 26 = 4 := by kernel_rfl
theorem cells28 : Try.prog.cellsOf 28 = 15 := by kernel_rfl
theorem bytes3 : Try.prog.bytesOf 3 = 8 := by kernel_rfl
theorem bytes5 : Try.prog.bytesOf 5 = 1 := by kernel_rfl
theorem bytes48 : Try.prog.bytesOf 48 = 16 := by kernel_rfl
theorem bytes63 : Try.prog.bytesOf 63 = 40 := by kernel_rfl
theorem reach_eq : reachBytes = 140737488351232 := by decide

/-- A slice whose elements read as values of some kind, each told by its cells. -/
theorem open_rows {α : Type} {t e : TypeId} {f : α → List Value} {sz : Nat} {cs : List Value} {x : DataW H × List MemPlace} (hf : ∀ y, (f y).length = sz) (hsz : 0 < sz) (ht : Try.prog.underlying t = some (.slice e)) (ce : Try.prog.cellsOf e = sz)
    (hone : ∀ n cs' y, cs'.length = sz → DataW.trod enc Try.prog w base sp held n e cs' = some y → ∃ v : α, cs' = f v)
    (h : DataW.trod enc Try.prog w base sp held fuel t cs = some x) (hz : ∀ k ∈ x.1.weights Try.prog t, k ≤ reachBytes) :
    ∃ (A : Option Addr) (c : Nat) (l : List α), cs = [.slice A l.length c] ∧ Reads w sz (.slice A l.length c) l.length (l.flatMap f) ∧ l.length ≤ c ∧ l.length * Try.prog.bytesOf e ≤ 140737488351232 := by
  rcases Deep.open_slice ht h with ⟨rfl, hx⟩ | ⟨a, len, cap, m, n, D, Pl, rfl, hb, hl, hm, hmm, rfl, hx⟩
  · exact ⟨none, 0, [], rfl, Reads.nil w sz, Nat.le_refl _, by simp⟩
  have hlm : len ≤ m := by rw [hmm]; split <;> omega
  have each : ∀ i, i < len → ∃ v : α, ∀ j, j < sz → w.cell? (a.add (i * sz + j)) = (f v)[j]? := by
    intro i hi
    obtain ⟨cs', h1, h2⟩ := hx i (by omega)
    rw [ce] at h1
    obtain ⟨_, hlen, hcell⟩ := World.cells?_some h1
    obtain ⟨v, rfl⟩ := hone _ _ _ hlen h2
    refine ⟨v, fun j hj => ?_⟩
    have := hcell j hj
    rwa [Deep.add_add] at this
  have hex : ∃ g : Nat → Option α, ∀ i, i < len → ∃ v, g i = some v ∧ ∀ j, j < sz → w.cell? (a.add (i * sz + j)) = (f v)[j]? := by
    refine ⟨fun i => if h : i < len then some (each i h).choose else none, fun i hi => ?_⟩
    exact ⟨(each i hi).choose, by simp only [dif_pos hi], (each i hi).choose_spec⟩
  obtain ⟨g, hg⟩ := hex
  by_cases h0 : len = 0
  · subst h0
    exact ⟨some a, cap, [], rfl, ⟨by simp, Nat.zero_le _, some a, cap, rfl, (fun e => by cases e), fun h => absurd h (by simp)⟩, Nat.zero_le _, by simp⟩
  obtain ⟨v0, _⟩ := hg 0 (by omega)
  have hl2 : ((List.range len).map fun i => (g i).getD v0).length = len := by simp
  have hr := reads_of (w := w) (a := a) (n := len) (c := cap) hf hsz (by omega) (fun i => (g i).getD v0) (fun i hi j hj => by
    obtain ⟨v, h1, h2⟩ := hg i hi
    rw [h2 j hj]
    simp only [h1, Option.getD_some])
  refine ⟨some a, cap, (List.range len).map fun i => (g i).getD v0, by rw [hl2], by rw [hl2]; exact hr, by rw [hl2]; exact hl, ?_⟩
  have hw := hz ((((List.range len).map D).length + ((List.range (m - len)).map fun j => D (len + j)).length) * Try.prog.bytesOf e) (by simp [DataW.weights, ht])
  simp only [List.length_map, List.length_range] at hw
  rw [reach_eq] at hw
  rw [hl2]
  refine Nat.le_trans (Nat.mul_le_mul_right _ ?_) hw
  omega

theorem flat_int (l : List Int) : l.flatMap (fun x => [Value.int .i64 x]) = vI l := by
  unfold vI; induction l with
  | nil => rfl
  | cons a l ih => rw [List.flatMap_cons, ih]; rfl
theorem open_ints24 {cs : List Value} {x : DataW H × List MemPlace} (h : DataW.trod enc Try.prog w base sp held fuel 24 cs = some x) (hz : ∀ k ∈ x.1.weights Try.prog 24, k ≤ reachBytes) :
    ∃ (A : Option Addr) (c : Nat) (l : List Int), cs = [.slice A l.length c] ∧ Reads w 1 (.slice A l.length c) l.length (vI l) ∧ l.length * 8 ≤ 140737488351232 := by
  obtain ⟨A, c, l, h1, h2, _, h3⟩ := open_rows (f := fun x : Int => [Value.int .i64 x]) (sz := 1) (fun _ => rfl) (by decide) Try.underlying24 cells3 (fun n cs' y _ h => by
    obtain ⟨z, hz, _⟩ := DataW.trod_int Try.underlying3 h
    exact ⟨z, hz⟩) h hz
  rw [flat_int] at h2
  rw [bytes3] at h3
  exact ⟨A, c, l, h1, h2, h3⟩
theorem open_pts22 {cs : List Value} {x : DataW H × List MemPlace} (h : DataW.trod enc Try.prog w base sp held fuel 22 cs = some x) (hz : ∀ k ∈ x.1.weights Try.prog 22, k ≤ reachBytes) :
    ∃ (A : Option Addr) (c : Nat) (l : List (Int × Int)), cs = [.slice A l.length c] ∧ Reads w 2 (.slice A l.length c) l.length (vP l) ∧ l.length * 16 ≤ 140737488351232 := by
  obtain ⟨A, c, l, h1, h2, _, h3⟩ := open_rows (f := cP) (sz := 2) (fun _ => rfl) (by decide) Try.underlying22 cells48 (fun n cs' y hl h => by
    have := open_int_struct Try.underlying48 (fun i f hf => by
      match i, hf with
      | 0, hf => cases hf; exact ⟨rfl, rfl⟩
      | 1, hf => cases hf; exact ⟨rfl, rfl⟩) cells3 h
    obtain ⟨a, ha⟩ := this 0 (by decide) (by omega)
    obtain ⟨b, hb⟩ := this 1 (by decide) (by omega)
    match cs', hl with
    | [v0, v1], _ =>
      simp at ha hb
      exact ⟨(a, b), by rw [ha, hb]; rfl⟩) h hz
  rw [bytes48] at h3
  exact ⟨A, c, l, h1, h2, h3⟩
theorem open_code23 {cs : List Value} {x : DataW H × List MemPlace} (h : DataW.trod enc Try.prog w base sp held fuel 23 cs = some x) (hz : ∀ k ∈ x.1.weights Try.prog 23, k ≤ reachBytes) :
    ∃ (A : Option Addr) (c : Nat) (l : List Ins), cs = [.slice A l.length c] ∧ Reads w 5 (.slice A l.length c) l.length (vC l) ∧ l.length * 40 ≤ 140737488351232 := by
  obtain ⟨A, c, l, h1, h2, _, h3⟩ := open_rows (f := cI) (sz := 5) (fun _ => rfl) (by decide) Try.underlying23 cells63 (fun n cs' y hl h => by
    have := open_int_struct Try.underlying63 (fun i f hf => by
      match i, hf with
      | 0, hf => cases hf; exact ⟨rfl, rfl⟩
      | 1, hf => cases hf; exact ⟨rfl, rfl⟩
      | 2, hf => cases hf; exact ⟨rfl, rfl⟩
      | 3, hf => cases hf; exact ⟨rfl, rfl⟩
      | 4, hf => cases hf; exact ⟨rfl, rfl⟩) cells3 h
    obtain ⟨a, ha⟩ := this 0 (by decide) (by omega)
    obtain ⟨b, hb⟩ := this 1 (by decide) (by omega)
    obtain ⟨c, hc⟩ := this 2 (by decide) (by omega)
    obtain ⟨d, hd⟩ := this 3 (by decide) (by omega)
    obtain ⟨e, he⟩ := this 4 (by decide) (by omega)
    match cs', hl with
    | [v0, v1, v2, v3, v4], _ =>
      simp at ha hb hc hd he
      exact ⟨⟨a, b, c, d, e⟩, by rw [ha, hb, hc, hd, he]; rfl⟩) h hz
  rw [bytes63] at h3
  exact ⟨A, c, l, h1, h2, h3⟩
theorem flat_byte (l : List {x : Nat // x < 256}) : l.flatMap (fun x : {x : Nat // x < 256} => [Value.int .u8 (x.1 : Nat)]) = vB (l.map (·.1)) := by
  induction l with
  | nil => rfl
  | cons a l ih => rw [List.flatMap_cons, ih]; rfl
/-- Bytes that came in. -/
theorem open_bytes31 {cs : List Value} {x : DataW H × List MemPlace} (h : DataW.trod enc Try.prog w base sp held fuel 31 cs = some x) (hz : ∀ k ∈ x.1.weights Try.prog 31, k ≤ reachBytes) :
    ∃ (A : Option Addr) (c : Nat) (l : List Nat), cs = [.slice A l.length c] ∧ Reads w 1 (.slice A l.length c) l.length (vB l) ∧ l.length ≤ c ∧ l.length ≤ 140737488351232 ∧ ∀ y ∈ l, y < 256 := by
  obtain ⟨A, c, l, h1, h2, hlc, h3⟩ := open_rows (f := fun x : {x : Nat // x < 256} => [Value.int .u8 (x.1 : Nat)]) (sz := 1) (fun _ => rfl) (by decide) Try.underlying31 cells5 (fun n cs' y _ h => by
    obtain ⟨z, hz, _, hw⟩ := DataW.trod_int Try.underlying5 h
    have hb := bounds_u8 hw
    exact ⟨⟨z.toNat, by omega⟩, by rw [hz, show ((z.toNat : Nat) : Int) = z by omega]⟩) h hz
  rw [bytes5] at h3
  refine ⟨A, c, l.map (·.1), by simpa using h1, ?_, by simpa using hlc, by simpa using h3, fun y hy => ?_⟩
  · rw [flat_byte] at h2
    simpa using h2
  · obtain ⟨z, _, rfl⟩ := List.mem_map.1 hy
    exact z.2
theorem open_prog26 {cs : List Value} {x : DataW H × List MemPlace} (h : DataW.trod enc Try.prog w base sp held fuel 26 cs = some x) (hz : ∀ k ∈ x.1.weights Try.prog 26, k ≤ reachBytes) :
    ∃ (L : PrV) (p : Pr), cs = L.cells p ∧ PrIn w L p ∧ p.code.length * 40 ≤ 140737488351232 ∧ p.outs.length * 8 ≤ 140737488351232 := by
  obtain ⟨xs, n, _, rfl, hl, hxl, hx⟩ := DataW.trod_struct Try.underlying26 h
  rw [cells26] at hl
  match xs, hxl, cs, hl with
  | [y0, y1, y2, y3], _, [v0, v1, v2, v3], _ =>
    have g0 := hx 0 _ rfl
    have g1 := hx 1 _ rfl
    have g2 := hx 2 _ rfl
    have g3 := hx 3 _ rfl
    simp [cells3, cells23, cells24] at g0 g1 g2 g3
    have hw : ∀ k, k ∈ y2.1.weights Try.prog 23 ∨ k ∈ y3.1.weights Try.prog 24 → k ≤ reachBytes := fun k hk => hz k (by
      simp only [DataW.weights, Try.underlying26, List.map_cons, List.map_nil, DataW.weightsEach, List.mem_append]
      rcases hk with hk | hk
      · exact .inr (.inr (.inl hk))
      · exact .inr (.inr (.inr (.inl hk))))
    obtain ⟨z0, e0, _⟩ := DataW.trod_int Try.underlying3 g0
    obtain ⟨z1, e1, _⟩ := DataW.trod_int Try.underlying3 g1
    obtain ⟨A, c, l, e2, r2, b2⟩ := open_code23 g2 (fun k hk => hw k (.inl hk))
    obtain ⟨B, d, o, e3, r3, b3⟩ := open_ints24 g3 (fun k hk => hw k (.inr hk))
    simp only [List.cons.injEq, and_true] at e0 e1 e2 e3
    subst e0 e1 e2 e3
    exact ⟨⟨A, c, B, d⟩, ⟨z0, z1, l, o⟩, rfl, ⟨r2, r3⟩, b2, b3⟩
/-- A unit that came in. -/
theorem open_unit28 {cs : List Value} {x : DataW H × List MemPlace} (h : DataW.trod enc Try.prog w base sp held fuel 28 cs = some x) (hz : ∀ k ∈ x.1.weights Try.prog 28, k ≤ reachBytes) :
    ∃ (L : UnV) (u : Un), cs = (L.cells u).toList ∧ UnIn w L u ∧ u.fits := by
  obtain ⟨xs, n, _, rfl, hl, hxl, hx⟩ := DataW.trod_struct Try.underlying28 h
  rw [cells28] at hl
  match xs, hxl, cs, hl with
  | [y0, y1, y2, y3, y4, y5], _, [v0, v1, v2, v3, v4, v5, v6, v7, v8, v9, v10, v11, v12, v13, v14], _ =>
    have g0 := hx 0 _ rfl
    have g1 := hx 1 _ rfl
    have g2 := hx 2 _ rfl
    have g3 := hx 3 _ rfl
    have g4 := hx 4 _ rfl
    have g5 := hx 5 _ rfl
    simp [cells3, cells22, cells26] at g0 g1 g2 g3 g4 g5
    have hw : ∀ k, k ∈ y2.1.weights Try.prog 22 ∨ k ∈ y3.1.weights Try.prog 26 ∨ k ∈ y4.1.weights Try.prog 26 ∨ k ∈ y5.1.weights Try.prog 26 → k ≤ reachBytes := fun k hk => hz k (by
      simp only [DataW.weights, Try.underlying28, List.map_cons, List.map_nil, DataW.weightsEach, List.mem_append]
      rcases hk with hk | hk | hk | hk
      · exact .inr (.inr (.inl hk))
      · exact .inr (.inr (.inr (.inl hk)))
      · exact .inr (.inr (.inr (.inr (.inl hk))))
      · exact .inr (.inr (.inr (.inr (.inr (.inl hk))))))
    obtain ⟨z0, e0, _⟩ := DataW.trod_int Try.underlying3 g0
    obtain ⟨z1, e1, _⟩ := DataW.trod_int Try.underlying3 g1
    obtain ⟨A, c, l, e2, r2, b2⟩ := open_pts22 g2 (fun k hk => hw k (.inl hk))
    obtain ⟨L3, p3, e3, r3, b3⟩ := open_prog26 g3 (fun k hk => hw k (.inr (.inl hk)))
    obtain ⟨L4, p4, e4, r4, b4⟩ := open_prog26 g4 (fun k hk => hw k (.inr (.inr (.inl hk))))
    obtain ⟨L5, p5, e5, r5, b5⟩ := open_prog26 g5 (fun k hk => hw k (.inr (.inr (.inr hk))))
    simp only [PrV.cells, List.cons.injEq, and_true] at e0 e1 e2 e3 e4 e5
    obtain ⟨rfl, rfl, rfl, rfl⟩ := e3
    obtain ⟨rfl, rfl, rfl, rfl⟩ := e4
    obtain ⟨rfl, rfl, rfl, rfl⟩ := e5
    subst e0 e1 e2
    exact ⟨⟨A, c, L3, L4, L5⟩, ⟨z0, z1, l, p3, p4, p5⟩, rfl, ⟨r2, r3, r4, r5⟩, b2, b3, b4, b5⟩
/-- As an argument. -/
theorem open_unit {v : Value} {d : DataW H} {p : List MemPlace} {r : Reach} (hval : Value.okWide Try.prog w r base 28 v) (h : DataW.Trod enc Try.prog w 0 sp held 28 v d p) (hz : ∀ k ∈ d.weights Try.prog 28, k ≤ reachBytes) :
    ∃ (L : UnV) (u : Un), v = L.val u ∧ UnIn w L u ∧ u.fits := by
  simp only [Value.okWide, Try.underlying28] at hval
  obtain ⟨cs, rfl, _, _⟩ := hval
  obtain ⟨fuel, hf⟩ := h
  obtain ⟨L, u, hcs, h1, h2⟩ := open_unit28 hf hz
  refine ⟨L, u, ?_, h1, h2⟩
  unfold UnV.val
  congr 1
  exact Array.toList_inj.1 hcs
theorem open_bytes {v : Value} {d : DataW H} {p : List MemPlace} {r : Reach} (hval : Value.okWide Try.prog w r base 31 v) (h : DataW.Trod enc Try.prog w 0 sp held 31 v d p) (hz : ∀ k ∈ d.weights Try.prog 31, k ≤ reachBytes) :
    ∃ (A : Option Addr) (c : Nat) (l : List Nat), v = .slice A l.length c ∧ Reads w 1 (.slice A l.length c) l.length (vB l) ∧ l.length ≤ c ∧ l.length ≤ 140737488351232 ∧ ∀ y ∈ l, y < 256 := by
  obtain ⟨a0, len0, cap0, rfl⟩ := okWide_slice Try.underlying31 hval
  obtain ⟨fuel, hf⟩ := h
  obtain ⟨A, c, l, hcs, h1⟩ := open_bytes31 hf hz
  simp [Value.cells] at hcs
  obtain ⟨rfl, rfl, rfl⟩ := hcs
  exact ⟨_, _, l, rfl, h1⟩
end
end Go.Proofs.Ytcelcognmdcenaa

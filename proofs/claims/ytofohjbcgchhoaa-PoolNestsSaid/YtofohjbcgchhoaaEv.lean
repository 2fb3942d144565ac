/-
  SMALL LAWS: what a comparison with nil reads: nothing.
-/
import Derived.Test.YtofohjbcgchhoaaE10
import Derived.WalkKit
namespace Go.Proofs.Ytofohjbcgchhoaa
open Go.Conc
open Go.RowKit

section
variable {P : Program} {w : World} {t : TypeId}
theorem events_equal_pointer_nil (p : Option Addr) (h : P.underlying t = some (.pointer (P.pointee t))) (es : Array Event) : (Op.equal t (.pointer p) (.pointer none)).events P w es = es := by
  have : ∀ d : Nat, (Op.equalIn (d + 1) t (.pointer p) (.pointer none)).events P w es = es := fun d => by
    cases p <;> simp [Op.equalIn, run_underlying h]
  exact this 9999
@[go_sem] theorem events_eql_pointer_nil (p : Option Addr) (h : P.underlying t = some (.pointer (P.pointee t))) : (binOp .eql t (.pointer p) (.pointer none)).events P w #[] = #[] := by
  simp only [binOp]
  simp [events_equal_pointer_nil p h]
@[go_sem] theorem events_neq_pointer_nil (p : Option Addr) (h : P.underlying t = some (.pointer (P.pointee t))) : (binOp .neq t (.pointer p) (.pointer none)).events P w #[] = #[] := by
  simp only [binOp]
  simp [events_equal_pointer_nil p h]
theorem equal_func {a : Array TypeId} {b : Array TypeId} {v : Bool} (h : P.underlying t = some (.func a b v)) (f : Fn) (x y : Array Value) (es : Array Event) :
    ((Op.equal t (.func f x y) .nilFunc).run P w = .ok false w ∧ (Op.equal t (.func f x y) .nilFunc).events P w es = es) ∧ ((Op.equal t .nilFunc .nilFunc).run P w = .ok true w ∧ (Op.equal t .nilFunc .nilFunc).events P w es = es) := by
  have : ∀ d : Nat, ((Op.equalIn (d + 1) t (.func f x y) .nilFunc).run P w = .ok false w ∧ (Op.equalIn (d + 1) t (.func f x y) .nilFunc).events P w es = es) ∧ ((Op.equalIn (d + 1) t .nilFunc .nilFunc).run P w = .ok true w ∧ (Op.equalIn (d + 1) t .nilFunc .nilFunc).events P w es = es) := fun d => by
    refine ⟨⟨?_, ?_⟩, ?_, ?_⟩ <;> simp [Op.equalIn, run_underlying h]
  exact this 9999
theorem eql_func {a : Array TypeId} {b : Array TypeId} {v : Bool} (h : P.underlying t = some (.func a b v)) (f : Fn) (x y : Array Value) :
    ((binOp .eql t (.func f x y) .nilFunc).run P w = .ok (.bool false) w ∧ (binOp .eql t (.func f x y) .nilFunc).events P w #[] = #[]) ∧ ((binOp .eql t .nilFunc .nilFunc).run P w = .ok (.bool true) w ∧ (binOp .eql t .nilFunc .nilFunc).events P w #[] = #[]) := by
  obtain ⟨⟨h1, h2⟩, h3, h4⟩ := equal_func (w := w) h f x y #[]
  simp only [binOp]
  refine ⟨⟨?_, ?_⟩, ?_, ?_⟩ <;> simp [h1, h2, h3, h4]
theorem neq_iface {ms : Array (String × TypeId)} (h : P.underlying t = some (.interface ms)) :
    (binOp .neq t .nilIface .nilIface).run P w = .ok (.bool false) w ∧ (binOp .neq t .nilIface .nilIface).events P w #[] = #[] := by
  have key : ∀ d : Nat, ((Op.equalIn (d + 1) t .nilIface .nilIface).run P w = .ok true w ∧ (Op.equalIn (d + 1) t .nilIface .nilIface).events P w #[] = #[]) := fun d => by
    refine ⟨?_, ?_⟩ <;> simp [Op.equalIn, run_underlying h]
  obtain ⟨h1, h2⟩ : (Op.equal t .nilIface .nilIface).run P w = .ok true w ∧ (Op.equal t .nilIface .nilIface).events P w #[] = #[] := key 9999
  simp only [binOp]
  refine ⟨?_, ?_⟩ <;> simp [h1, h2]
end
end Go.Proofs.Ytofohjbcgchhoaa

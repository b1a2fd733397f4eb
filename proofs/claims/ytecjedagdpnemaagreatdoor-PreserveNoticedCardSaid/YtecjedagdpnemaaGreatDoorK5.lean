/-
  The methods of strings.Builder as steps of plain states. No condition.
-/
import Derived.Test.YtecjedagdpnemaaGreatDoorK4
import Derived.Shelf.Strings.BuilderK

namespace Go.Nu
open Go Go.RowKit Go.Proofs Go.Shelf
structure AppTo (e : TypeId) (v v' : Value) (n n' : Nat) (xs' : List Value) (w w' : World) : Prop where
  os : w'.os = w.os
  tape : w'.tape = w.tape
  output : w'.output = w.output
  size : w.heap.size ≤ w'.heap.size
  block : ∀ k, k < w.heap.size → ¬ (slB v = some k ∧ slB v' = some k) → w'.heap[k]? = w.heap[k]?
  own : slB v' = slB v ∨ ∀ k, slB v' = some k → w.heap.size ≤ k
  same : n' = n → v' = v
  row : w'.ownsRowF 0 e 1 v' n' xs'
section
variable {P : Program} (w : World)
variable {w}
end
end Go.Nu


set_option linter.unusedVariables false
namespace Go.Nu
open Go Go.RowKit Go.Proofs Go.Shelf
variable {P : Program} {ρ : Ren}
structure CcTo (T : TypeId) (g : Nat) (sl : Value) (w w' : World) : Prop where
  os : w'.os = w.os
  tape : w'.tape = w.tape
  output : w'.output = w.output
  size : w'.heap.size = w.heap.size
  block : ∀ k, k ≠ g → w'.heap[k]? = w.heap[k]?
  cell : w'.heap[g]? = some (.cells #[.pointer (some ⟨g, 0, none⟩), sl] T (0, 0))
end Go.Nu


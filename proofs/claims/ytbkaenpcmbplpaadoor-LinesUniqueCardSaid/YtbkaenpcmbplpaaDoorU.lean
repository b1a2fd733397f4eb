/-
  Chapter 11: the reference reads a field's line. No condition.
-/
import Derived.Test.YtbkaenpcmbplpaaDoorT
namespace Go.Proofs.YtbkaenpcmbplpaaDoor
open Go Go.Nu

theorem drop_cons {s : List UInt8} {i : Nat} (h : i < s.length) : s.drop i = s.getD i 0 :: s.drop (i + 1) := drop_getD 0 h
end Go.Proofs.YtbkaenpcmbplpaaDoor

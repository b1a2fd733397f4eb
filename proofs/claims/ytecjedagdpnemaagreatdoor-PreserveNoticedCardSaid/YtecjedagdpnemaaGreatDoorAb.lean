/-
  Short names of operations, for the printed code. No condition.
-/
import Derived.Test.YtecjedagdpnemaaGreatDoorK1
namespace Go.Proofs.YtecjedagdpnemaaGreatDoor
open Go Go.Nu
abbrev Mt (i j : Nat) : PG := ⟨none, .mv (some i) (.t j)⟩
abbrev Ld (i j : Nat) : PG := ⟨none, .ld i none (.t j)⟩
abbrev Fa (i t f j : Nat) : PG := ⟨none, .fa i t f (.t j)⟩
abbrev Mi (i : Nat) (n : Int) : PG := ⟨none, .mv (some i) (.v (.int .i64 n))⟩
abbrev Lt (i t j : Nat) : PG := ⟨none, .ld i (some t) (.t j)⟩
abbrev Po (i j k : Nat) : PG := ⟨none, .pick i (.t j) (.v (.bool true)) (.t k)⟩
abbrev Pa (i j k : Nat) : PG := ⟨none, .pick i (.t j) (.t k) (.v (.bool false))⟩
abbrev Ca (i f j : Nat) : PG := ⟨none, .ca (some i) f [.t j]⟩
abbrev Cb (i f j k : Nat) : PG := ⟨none, .ca (some i) f [.t j, .t k]⟩
abbrev Ln (i t j : Nat) : PG := ⟨none, .ln i (some t) (.t j)⟩
abbrev Lm (i j : Nat) : PG := ⟨none, .ln i none (.t j)⟩
abbrev Ea (i t j k : Nat) : PG := ⟨none, .ea i t (.t j) (.t k)⟩
abbrev Mb (i : Nat) (b : Bool) : PG := ⟨none, .mv (some i) (.v (.bool b))⟩
abbrev Sr (t i j : Nat) : PG := ⟨none, .st (some t) (.t i) (.t j)⟩
abbrev Su (i j : Nat) : PG := ⟨none, .st none (.t i) (.t j)⟩
abbrev Un (i j : Nat) : PG := ⟨none, .un i .not (.t j)⟩
abbrev Ex (i n j : Nat) : PG := ⟨none, .ex i n (.t j)⟩
abbrev Ar (i : Nat) (o : BinOp) (j k : Nat) : PG := ⟨none, .ar i o (.t j) (.t k)⟩
abbrev Ai (i : Nat) (o : BinOp) (j : Nat) (n : Int) : PG := ⟨none, .ar i o (.t j) (.v (.int .i64 n))⟩
abbrev Bx (i t j : Nat) : PG := ⟨none, .bx i (some t) (.t j)⟩
abbrev Nl (i e : Nat) : PG := ⟨none, .nl i e⟩
abbrev Ap (i e j k : Nat) : PG := ⟨none, .ap i e (.t j) (.t k)⟩
abbrev Gd (g : Nat) (p : PG) : PG := ⟨some (g, false), p.po⟩
abbrev Ge (g : Nat) (p : PG) : PG := ⟨some (g, true), p.po⟩
abbrev zO : List V := [(.int .i64 0), (.int .i64 0), (.sl none 63 []), (.sl none 65 []), (.agg 24 [(.int .i64 0), (.int .i64 0), (.int .i64 0), (.int .i64 0)])]
end Go.Proofs.YtecjedagdpnemaaGreatDoor

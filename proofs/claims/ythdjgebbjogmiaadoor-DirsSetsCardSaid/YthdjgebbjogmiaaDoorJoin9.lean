/- code.Bytes32: the bytes of letters, or that there are none. Condition: at most 2^40 letters.
caps.split: a text at its colons. Condition: at most a million letters.
Plain facts on a text's parts: how long they are, which kind a word is. No program in sight. -/
import Derived.Test.YthdjgebbjogmiaaDoorJoin3
import Derived.BigQuiet
import Derived.Test.YthdjgebbjogmiaaDoorJoin5
set_option linter.unusedVariables false
set_option linter.unusedSimpArgs false
namespace Go.Proofs.YthdjgebbjogmiaaDoor
open Go Go.RowKit
set_option maxRecDepth 100000

theorem str_ne {a b : ByteArray} (h : ¬ a = b) : (a.toList == b.toList) = false := by
 rw [beq_eq_false_iff_ne, ByteArray.toList_eq, ByteArray.toList_eq]
 exact fun e => h (Go.WideShapes.bytes_inj e)
end Go.Proofs.YthdjgebbjogmiaaDoor

namespace Go.Proofs.YthdjgebbjogmiaaDoor
open Go Go.RowKit
set_option maxRecDepth 100000

/-- A row of strings of the call's own. -/
def strV (p : List Int) : Value := .string (strOfNums p)
def StrRow (w : World) (base : Nat) (v : Value) (ps : List (List Int)) : Prop := w.ownsRow base 9 1 v ps.length (ps.map strV)
theorem StrRow.nil_ (w : World) (base : Nat) : StrRow w base (.slice none 0 0) [] := World.ownsRow_nil _ _ _ _
theorem StrRow.keptB {w w' : World} {base : Nat} {v : Value} {ps : List (List Int)} (h : StrRow w base v ps) (hb : Below w.heap.size w w') : StrRow w' base v ps := own_keptB h hb
theorem StrRow.reads {w : World} {base : Nat} {v : Value} {ps : List (List Int)} (h : StrRow w base v ps) : Rd w w.heap.size 1 v ps.length (ps.map strV) := Rd.of_own h
end Go.Proofs.YthdjgebbjogmiaaDoor

namespace Go.Proofs.YthdjgebbjogmiaaDoor
open Go Go.RowKit
set_option maxRecDepth 100000

section
variable {s : List Int} {L : List (List Int)} (hL : splitF s = L)
include hL
end
end Go.Proofs.YthdjgebbjogmiaaDoor

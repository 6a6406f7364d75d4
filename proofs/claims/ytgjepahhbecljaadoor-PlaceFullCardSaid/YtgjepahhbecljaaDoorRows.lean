/-
  NARROWER THAN 'FOR EVERY INPUT', by the rows' own cells (each row's printed sentence says how): CapsPrints: laid · CapsUnlike: laid · CapsValids: laid · CapsParses: laid · CapsBack: laid · CapsMore: laid · CapsLess: laid · CapsDown: laid · CapsKeys: laid · PlaceOrders: laid · PlaceFull: laid.
  DERIVED. THE GIVEN ROWS OF THIS SEAT. 11 by the template 'for every input the law returns true; each argument reads behind the call as it read before'; 0 by the template 'total and deterministic' (their statements: YtgjepahhbecljaaDoorTotals.lean).
  GIVEN WITH THE SEED: the statements are not yours to turn. If you find one false, say at which input.
  Laid BY PROGRAM, IN A SANDBOX (cutbox-rows.mjs): the forced cells as the released guide's own fill.sh prints them over the translation 197fe52505bbe6ba… (all of the seat's roots in one cut). By AI agents, Wed Nov 11 2026. No macro, syntax, notation, axiom, sorry.
-/
import Derived.Test.YtgjepahhbecljaaDoorChecked
import GoSem.Claim
import GoSem.ClaimJoined
import GoSem.ClaimMapViews
import Derived.JoinedTies
import Derived.KernelRfl
namespace Go.Proofs.YtgjepahhbecljaaDoor
/- THE CELL 'sum', in the pinned program and in every row, IS THE sha256 OF THE DUMP (.gsa) THAT YtgjepahhbecljaaDoorProg.lean LOADS. Nothing in Lean hashes anything: it is a label: what it is worth is what the hold of that sum in a sandbox is worth. -/
noncomputable def Tryd.pinned : Pinned := { name := "ytgjepahhbecljaadoor", sum := "197fe52505bbe6ba5bbc4d74aa00877d3309cf0d0ecfe4391983cb8900253a7f", checked := Tryd.checked }
namespace Rows
def none {H : Type} : Left H := { results := [], args := [] }

/- WHAT THE LISTED PACKAGE-LEVEL VARIABLES READ AS WHEN THE CALL BEGINS. Each datum BY PROGRAM (the guide's laid-datum.mjs) off the statement by which the dump's own 'gosem.cut.vars' lays the variable. In a bare row this is a premise. The card (YtgjepahhbecljaaDoorCards.lean) ties it to the program's text. -/
def laid_math_bits_deBruijn32tab {H : Type} : DataW H := .agg [.lit (.int .u8 0), .lit (.int .u8 1), .lit (.int .u8 28), .lit (.int .u8 2), .lit (.int .u8 29), .lit (.int .u8 14), .lit (.int .u8 24), .lit (.int .u8 3), .lit (.int .u8 30), .lit (.int .u8 22), .lit (.int .u8 20), .lit (.int .u8 15), .lit (.int .u8 25), .lit (.int .u8 17), .lit (.int .u8 4), .lit (.int .u8 8), .lit (.int .u8 31), .lit (.int .u8 27), .lit (.int .u8 13), .lit (.int .u8 23), .lit (.int .u8 21), .lit (.int .u8 19), .lit (.int .u8 16), .lit (.int .u8 7), .lit (.int .u8 26), .lit (.int .u8 12), .lit (.int .u8 18), .lit (.int .u8 6), .lit (.int .u8 11), .lit (.int .u8 5), .lit (.int .u8 10), .lit (.int .u8 9)]
def laid_math_bits_deBruijn64tab {H : Type} : DataW H := .agg [.lit (.int .u8 0), .lit (.int .u8 1), .lit (.int .u8 56), .lit (.int .u8 2), .lit (.int .u8 57), .lit (.int .u8 49), .lit (.int .u8 28), .lit (.int .u8 3), .lit (.int .u8 61), .lit (.int .u8 58), .lit (.int .u8 42), .lit (.int .u8 50), .lit (.int .u8 38), .lit (.int .u8 29), .lit (.int .u8 17), .lit (.int .u8 4), .lit (.int .u8 62), .lit (.int .u8 47), .lit (.int .u8 59), .lit (.int .u8 36), .lit (.int .u8 45), .lit (.int .u8 43), .lit (.int .u8 51), .lit (.int .u8 22), .lit (.int .u8 53), .lit (.int .u8 39), .lit (.int .u8 33), .lit (.int .u8 30), .lit (.int .u8 24), .lit (.int .u8 18), .lit (.int .u8 12), .lit (.int .u8 5), .lit (.int .u8 63), .lit (.int .u8 55), .lit (.int .u8 48), .lit (.int .u8 27), .lit (.int .u8 60), .lit (.int .u8 41), .lit (.int .u8 37), .lit (.int .u8 16), .lit (.int .u8 46), .lit (.int .u8 35), .lit (.int .u8 44), .lit (.int .u8 21), .lit (.int .u8 52), .lit (.int .u8 32), .lit (.int .u8 23), .lit (.int .u8 11), .lit (.int .u8 54), .lit (.int .u8 26), .lit (.int .u8 40), .lit (.int .u8 15), .lit (.int .u8 34), .lit (.int .u8 20), .lit (.int .u8 31), .lit (.int .u8 10), .lit (.int .u8 25), .lit (.int .u8 14), .lit (.int .u8 19), .lit (.int .u8 9), .lit (.int .u8 13), .lit (.int .u8 8), .lit (.int .u8 7), .lit (.int .u8 6)]
def laid_internal_strconv_uint64pow10 {H : Type} : DataW H := .agg [.lit (.int .u64 1), .lit (.int .u64 10), .lit (.int .u64 100), .lit (.int .u64 1000), .lit (.int .u64 10000), .lit (.int .u64 100000), .lit (.int .u64 1000000), .lit (.int .u64 10000000), .lit (.int .u64 100000000), .lit (.int .u64 1000000000), .lit (.int .u64 10000000000), .lit (.int .u64 100000000000), .lit (.int .u64 1000000000000), .lit (.int .u64 10000000000000), .lit (.int .u64 100000000000000), .lit (.int .u64 1000000000000000), .lit (.int .u64 10000000000000000), .lit (.int .u64 100000000000000000), .lit (.int .u64 1000000000000000000), .lit (.int .u64 10000000000000000000)]

/-- 'aumbrylaw13.CapsPrints': WHATEVER THE INPUT: true; the input reads as it did. -/
def capsPrintsSpec : ChangeSpec := { name := "capsPrints", fn := fun _ => fun
  | [d1, d2] => { results := [.lit (.bool true)], args := [d1, d2] }
  | _ => none }
def capsPrintsRow : OpenClaim := { program := "ytgjepahhbecljaadoor", sum := "197fe52505bbe6ba5bbc4d74aa00877d3309cf0d0ecfe4391983cb8900253a7f", func := "aumbry/aumbrylaw13.CapsPrints", spec := "capsPrints", recurses := true, named := ["internal/strconv.uint64pow10", "math/bits.deBruijn32tab", "math/bits.deBruijn64tab"], apart := false, laid := [("math/bits.deBruijn32tab", laid_math_bits_deBruijn32tab), ("math/bits.deBruijn64tab", laid_math_bits_deBruijn64tab), ("internal/strconv.uint64pow10", laid_internal_strconv_uint64pow10)] }
def CapsPrintsSaid : Prop := capsPrintsRow.holds Tryd.pinned (OpenSpec.ofChange capsPrintsSpec)

/-- ITS FALSE NEIGHBOUR: 'it returns false'. Refute it at one input. -/
def capsPrintsWrong : ChangeSpec := { name := "capsPrints", fn := fun _ => fun
  | [d1, d2] => { results := [.lit (.bool false)], args := [d1, d2] }
  | _ => none }
def CapsPrintsWrongFalsely : Prop := capsPrintsRow.holds Tryd.pinned (OpenSpec.ofChange capsPrintsWrong)

/-- 'aumbrylaw13.CapsUnlike': WHATEVER THE INPUT: true; the input reads as it did. -/
def capsUnlikeSpec : ChangeSpec := { name := "capsUnlike", fn := fun _ => fun
  | [d1, d2, d3] => { results := [.lit (.bool true)], args := [d1, d2, d3] }
  | _ => none }
def capsUnlikeRow : OpenClaim := { program := "ytgjepahhbecljaadoor", sum := "197fe52505bbe6ba5bbc4d74aa00877d3309cf0d0ecfe4391983cb8900253a7f", func := "aumbry/aumbrylaw13.CapsUnlike", spec := "capsUnlike", named := ["internal/strconv.uint64pow10", "math/bits.deBruijn32tab", "math/bits.deBruijn64tab"], apart := false, laid := [("math/bits.deBruijn32tab", laid_math_bits_deBruijn32tab), ("math/bits.deBruijn64tab", laid_math_bits_deBruijn64tab), ("internal/strconv.uint64pow10", laid_internal_strconv_uint64pow10)] }
def CapsUnlikeSaid : Prop := capsUnlikeRow.holds Tryd.pinned (OpenSpec.ofChange capsUnlikeSpec)

/-- ITS FALSE NEIGHBOUR: 'it returns false'. Refute it at one input. -/
def capsUnlikeWrong : ChangeSpec := { name := "capsUnlike", fn := fun _ => fun
  | [d1, d2, d3] => { results := [.lit (.bool false)], args := [d1, d2, d3] }
  | _ => none }
def CapsUnlikeWrongFalsely : Prop := capsUnlikeRow.holds Tryd.pinned (OpenSpec.ofChange capsUnlikeWrong)

/-- 'aumbrylaw13.CapsValids': WHATEVER THE INPUT: true; the input reads as it did. -/
def capsValidsSpec : ChangeSpec := { name := "capsValids", fn := fun _ => fun
  | [d1, d2, d3] => { results := [.lit (.bool true)], args := [d1, d2, d3] }
  | _ => none }
def capsValidsRow : OpenClaim := { program := "ytgjepahhbecljaadoor", sum := "197fe52505bbe6ba5bbc4d74aa00877d3309cf0d0ecfe4391983cb8900253a7f", func := "aumbry/aumbrylaw13.CapsValids", spec := "capsValids", named := ["internal/strconv.uint64pow10", "math/bits.deBruijn32tab", "math/bits.deBruijn64tab"], apart := false, laid := [("math/bits.deBruijn32tab", laid_math_bits_deBruijn32tab), ("math/bits.deBruijn64tab", laid_math_bits_deBruijn64tab), ("internal/strconv.uint64pow10", laid_internal_strconv_uint64pow10)] }
def CapsValidsSaid : Prop := capsValidsRow.holds Tryd.pinned (OpenSpec.ofChange capsValidsSpec)

/-- ITS FALSE NEIGHBOUR: 'it returns false'. Refute it at one input. -/
def capsValidsWrong : ChangeSpec := { name := "capsValids", fn := fun _ => fun
  | [d1, d2, d3] => { results := [.lit (.bool false)], args := [d1, d2, d3] }
  | _ => none }
def CapsValidsWrongFalsely : Prop := capsValidsRow.holds Tryd.pinned (OpenSpec.ofChange capsValidsWrong)

/-- 'aumbrylaw13.CapsParses': WHATEVER THE INPUT: true; the input reads as it did. -/
def capsParsesSpec : ChangeSpec := { name := "capsParses", fn := fun _ => fun
  | [d] => { results := [.lit (.bool true)], args := [d] }
  | _ => none }
def capsParsesRow : OpenClaim := { program := "ytgjepahhbecljaadoor", sum := "197fe52505bbe6ba5bbc4d74aa00877d3309cf0d0ecfe4391983cb8900253a7f", func := "aumbry/aumbrylaw13.CapsParses", spec := "capsParses", recurses := true, named := ["internal/strconv.uint64pow10", "math/bits.deBruijn32tab", "math/bits.deBruijn64tab"], apart := false, laid := [("math/bits.deBruijn32tab", laid_math_bits_deBruijn32tab), ("math/bits.deBruijn64tab", laid_math_bits_deBruijn64tab), ("internal/strconv.uint64pow10", laid_internal_strconv_uint64pow10)] }
def CapsParsesSaid : Prop := capsParsesRow.holds Tryd.pinned (OpenSpec.ofChange capsParsesSpec)

/-- ITS FALSE NEIGHBOUR: 'it returns false'. Refute it at one input. -/
def capsParsesWrong : ChangeSpec := { name := "capsParses", fn := fun _ => fun
  | [d] => { results := [.lit (.bool false)], args := [d] }
  | _ => none }
def CapsParsesWrongFalsely : Prop := capsParsesRow.holds Tryd.pinned (OpenSpec.ofChange capsParsesWrong)

/-- 'aumbrylaw13.CapsBack': WHATEVER THE INPUT: true; the input reads as it did. -/
def capsBackSpec : ChangeSpec := { name := "capsBack", fn := fun _ => fun
  | [d1, d2, d3] => { results := [.lit (.bool true)], args := [d1, d2, d3] }
  | _ => none }
def capsBackRow : OpenClaim := { program := "ytgjepahhbecljaadoor", sum := "197fe52505bbe6ba5bbc4d74aa00877d3309cf0d0ecfe4391983cb8900253a7f", func := "aumbry/aumbrylaw13.CapsBack", spec := "capsBack", named := ["internal/strconv.uint64pow10", "math/bits.deBruijn32tab", "math/bits.deBruijn64tab"], apart := false, laid := [("math/bits.deBruijn32tab", laid_math_bits_deBruijn32tab), ("math/bits.deBruijn64tab", laid_math_bits_deBruijn64tab), ("internal/strconv.uint64pow10", laid_internal_strconv_uint64pow10)] }
def CapsBackSaid : Prop := capsBackRow.holds Tryd.pinned (OpenSpec.ofChange capsBackSpec)

/-- ITS FALSE NEIGHBOUR: 'it returns false'. Refute it at one input. -/
def capsBackWrong : ChangeSpec := { name := "capsBack", fn := fun _ => fun
  | [d1, d2, d3] => { results := [.lit (.bool false)], args := [d1, d2, d3] }
  | _ => none }
def CapsBackWrongFalsely : Prop := capsBackRow.holds Tryd.pinned (OpenSpec.ofChange capsBackWrong)

/-- 'aumbrylaw13.CapsMore': WHATEVER THE INPUT: true; the input reads as it did. -/
def capsMoreSpec : ChangeSpec := { name := "capsMore", fn := fun _ => fun
  | [d1, d2, d3, d4, d5, d6, d7] => { results := [.lit (.bool true)], args := [d1, d2, d3, d4, d5, d6, d7] }
  | _ => none }
def capsMoreRow : OpenClaim := { program := "ytgjepahhbecljaadoor", sum := "197fe52505bbe6ba5bbc4d74aa00877d3309cf0d0ecfe4391983cb8900253a7f", func := "aumbry/aumbrylaw13.CapsMore", spec := "capsMore", recurses := true, named := ["internal/strconv.uint64pow10", "math/bits.deBruijn32tab", "math/bits.deBruijn64tab"], apart := false, laid := [("math/bits.deBruijn32tab", laid_math_bits_deBruijn32tab), ("math/bits.deBruijn64tab", laid_math_bits_deBruijn64tab), ("internal/strconv.uint64pow10", laid_internal_strconv_uint64pow10)] }
def CapsMoreSaid : Prop := capsMoreRow.holds Tryd.pinned (OpenSpec.ofChange capsMoreSpec)

/-- ITS FALSE NEIGHBOUR: 'it returns false'. Refute it at one input. -/
def capsMoreWrong : ChangeSpec := { name := "capsMore", fn := fun _ => fun
  | [d1, d2, d3, d4, d5, d6, d7] => { results := [.lit (.bool false)], args := [d1, d2, d3, d4, d5, d6, d7] }
  | _ => none }
def CapsMoreWrongFalsely : Prop := capsMoreRow.holds Tryd.pinned (OpenSpec.ofChange capsMoreWrong)

/-- 'aumbrylaw13.CapsLess': WHATEVER THE INPUT: true; the input reads as it did. -/
def capsLessSpec : ChangeSpec := { name := "capsLess", fn := fun _ => fun
  | [d1, d2] => { results := [.lit (.bool true)], args := [d1, d2] }
  | _ => none }
def capsLessRow : OpenClaim := { program := "ytgjepahhbecljaadoor", sum := "197fe52505bbe6ba5bbc4d74aa00877d3309cf0d0ecfe4391983cb8900253a7f", func := "aumbry/aumbrylaw13.CapsLess", spec := "capsLess", recurses := true, named := ["internal/strconv.uint64pow10", "math/bits.deBruijn32tab", "math/bits.deBruijn64tab"], apart := false, laid := [("math/bits.deBruijn32tab", laid_math_bits_deBruijn32tab), ("math/bits.deBruijn64tab", laid_math_bits_deBruijn64tab), ("internal/strconv.uint64pow10", laid_internal_strconv_uint64pow10)] }
def CapsLessSaid : Prop := capsLessRow.holds Tryd.pinned (OpenSpec.ofChange capsLessSpec)

/-- ITS FALSE NEIGHBOUR: 'it returns false'. Refute it at one input. -/
def capsLessWrong : ChangeSpec := { name := "capsLess", fn := fun _ => fun
  | [d1, d2] => { results := [.lit (.bool false)], args := [d1, d2] }
  | _ => none }
def CapsLessWrongFalsely : Prop := capsLessRow.holds Tryd.pinned (OpenSpec.ofChange capsLessWrong)

/-- 'aumbrylaw13.CapsDown': WHATEVER THE INPUT: true; the input reads as it did. -/
def capsDownSpec : ChangeSpec := { name := "capsDown", fn := fun _ => fun
  | [d] => { results := [.lit (.bool true)], args := [d] }
  | _ => none }
def capsDownRow : OpenClaim := { program := "ytgjepahhbecljaadoor", sum := "197fe52505bbe6ba5bbc4d74aa00877d3309cf0d0ecfe4391983cb8900253a7f", func := "aumbry/aumbrylaw13.CapsDown", spec := "capsDown", named := ["internal/strconv.uint64pow10", "math/bits.deBruijn32tab", "math/bits.deBruijn64tab"], apart := false, laid := [("math/bits.deBruijn32tab", laid_math_bits_deBruijn32tab), ("math/bits.deBruijn64tab", laid_math_bits_deBruijn64tab), ("internal/strconv.uint64pow10", laid_internal_strconv_uint64pow10)] }
def CapsDownSaid : Prop := capsDownRow.holds Tryd.pinned (OpenSpec.ofChange capsDownSpec)

/-- ITS FALSE NEIGHBOUR: 'it returns false'. Refute it at one input. -/
def capsDownWrong : ChangeSpec := { name := "capsDown", fn := fun _ => fun
  | [d] => { results := [.lit (.bool false)], args := [d] }
  | _ => none }
def CapsDownWrongFalsely : Prop := capsDownRow.holds Tryd.pinned (OpenSpec.ofChange capsDownWrong)

/-- 'aumbrylaw13.CapsKeys': WHATEVER THE INPUT: true; the input reads as it did. -/
def capsKeysSpec : ChangeSpec := { name := "capsKeys", fn := fun _ => fun
  | [d1, d2, d3] => { results := [.lit (.bool true)], args := [d1, d2, d3] }
  | _ => none }
def capsKeysRow : OpenClaim := { program := "ytgjepahhbecljaadoor", sum := "197fe52505bbe6ba5bbc4d74aa00877d3309cf0d0ecfe4391983cb8900253a7f", func := "aumbry/aumbrylaw13.CapsKeys", spec := "capsKeys", named := ["internal/strconv.uint64pow10", "math/bits.deBruijn32tab", "math/bits.deBruijn64tab"], apart := false, laid := [("math/bits.deBruijn32tab", laid_math_bits_deBruijn32tab), ("math/bits.deBruijn64tab", laid_math_bits_deBruijn64tab), ("internal/strconv.uint64pow10", laid_internal_strconv_uint64pow10)] }
def CapsKeysSaid : Prop := capsKeysRow.holds Tryd.pinned (OpenSpec.ofChange capsKeysSpec)

/-- ITS FALSE NEIGHBOUR: 'it returns false'. Refute it at one input. -/
def capsKeysWrong : ChangeSpec := { name := "capsKeys", fn := fun _ => fun
  | [d1, d2, d3] => { results := [.lit (.bool false)], args := [d1, d2, d3] }
  | _ => none }
def CapsKeysWrongFalsely : Prop := capsKeysRow.holds Tryd.pinned (OpenSpec.ofChange capsKeysWrong)

/-- 'aumbrylaw19.PlaceOrders': WHATEVER THE INPUT: true; the input reads as it did. -/
def placeOrdersSpec : ChangeSpec := { name := "placeOrders", fn := fun _ => fun
  | [d1, d2] => { results := [.lit (.bool true)], args := [d1, d2] }
  | _ => none }
def placeOrdersRow : OpenClaim := { program := "ytgjepahhbecljaadoor", sum := "197fe52505bbe6ba5bbc4d74aa00877d3309cf0d0ecfe4391983cb8900253a7f", func := "aumbry/aumbrylaw19.PlaceOrders", spec := "placeOrders", unfollowed := true, recurses := true, named := ["internal/strconv.uint64pow10", "math/bits.deBruijn32tab", "math/bits.deBruijn64tab"], apart := false, laid := [("math/bits.deBruijn32tab", laid_math_bits_deBruijn32tab), ("math/bits.deBruijn64tab", laid_math_bits_deBruijn64tab), ("internal/strconv.uint64pow10", laid_internal_strconv_uint64pow10)] }
def PlaceOrdersSaid : Prop := placeOrdersRow.holds Tryd.pinned (OpenSpec.ofChange placeOrdersSpec)

/-- ITS FALSE NEIGHBOUR: 'it returns false'. Refute it at one input. -/
def placeOrdersWrong : ChangeSpec := { name := "placeOrders", fn := fun _ => fun
  | [d1, d2] => { results := [.lit (.bool false)], args := [d1, d2] }
  | _ => none }
def PlaceOrdersWrongFalsely : Prop := placeOrdersRow.holds Tryd.pinned (OpenSpec.ofChange placeOrdersWrong)

/-- 'aumbrylaw19.PlaceFull': WHATEVER THE INPUT: true; the input reads as it did. -/
def placeFullSpec : ChangeSpec := { name := "placeFull", fn := fun _ => fun
  | [d1, d2, d3] => { results := [.lit (.bool true)], args := [d1, d2, d3] }
  | _ => none }
def placeFullRow : OpenClaim := { program := "ytgjepahhbecljaadoor", sum := "197fe52505bbe6ba5bbc4d74aa00877d3309cf0d0ecfe4391983cb8900253a7f", func := "aumbry/aumbrylaw19.PlaceFull", spec := "placeFull", unfollowed := true, recurses := true, named := ["internal/strconv.uint64pow10", "math/bits.deBruijn32tab", "math/bits.deBruijn64tab"], apart := false, laid := [("math/bits.deBruijn32tab", laid_math_bits_deBruijn32tab), ("math/bits.deBruijn64tab", laid_math_bits_deBruijn64tab), ("internal/strconv.uint64pow10", laid_internal_strconv_uint64pow10)] }
def PlaceFullSaid : Prop := placeFullRow.holds Tryd.pinned (OpenSpec.ofChange placeFullSpec)

/-- ITS FALSE NEIGHBOUR: 'it returns false'. Refute it at one input. -/
def placeFullWrong : ChangeSpec := { name := "placeFull", fn := fun _ => fun
  | [d1, d2, d3] => { results := [.lit (.bool false)], args := [d1, d2, d3] }
  | _ => none }
def PlaceFullWrongFalsely : Prop := placeFullRow.holds Tryd.pinned (OpenSpec.ofChange placeFullWrong)

/- THE SECOND FORM. 'bulk': how many values and letters a reading holds, each counted each time it is reached (what is shared counts as often as it is met; a slice's spare places count too). A statement '..UptoSaid' is the law's where the arguments, and the package variables that the reading takes, are together of bulk at most 1048576: NARROWER than '..Said'. Prove '..Said' where nothing that the law and all that it calls make is longer than what came in: it says more and counts as full. Else prove '..UptoSaid'. A law counts once. -/
mutual
def uptoBulk {H : Type} : DataW H → Nat
  | .lit (.string bytes) => bytes.length + 1
  | .lit _ => 1
  | .nil => 1
  | .ptr d => uptoBulk d + 1
  | .slice elems spare => uptoBulkAll elems + uptoBulkAll spare + 1
  | .agg parts => uptoBulkAll parts + 1
  | .iface _ d => uptoBulk d + 1
  | .map entries => uptoBulkEntries entries + 1
  | .held _ => 1
def uptoBulkAll {H : Type} : List (DataW H) → Nat
  | [] => 0
  | d :: r => uptoBulk d + uptoBulkAll r
def uptoBulkEntries {H : Type} : List (Lit × DataW H) → Nat
  | [] => 0
  | x :: r => uptoBulkEntry x + uptoBulkEntries r
def uptoBulkEntry {H : Type} : Lit × DataW H → Nat
  | (.string bytes, d) => bytes.length + uptoBulk d + 1
  | (_, d) => uptoBulk d + 1
 end
def uptoSmall : (H : Type) → List (DataW H) → Bool := fun _ ds => decide (uptoBulkAll ds ≤ 1048576)
def OpenSpec.upto (s : _root_.Go.ChangeSpec) : _root_.Go.OpenSpec := { _root_.Go.OpenSpec.ofChange s with cond := some uptoSmall }

/-- 'aumbrylaw13.CapsPrints', WHERE WHAT IT READS IS OF BULK AT MOST 1048576: true; the input reads as it did. -/
def capsPrintsUptoRow : OpenClaim := { program := "ytgjepahhbecljaadoor", sum := "197fe52505bbe6ba5bbc4d74aa00877d3309cf0d0ecfe4391983cb8900253a7f", func := "aumbry/aumbrylaw13.CapsPrints", spec := "capsPrints", recurses := true, named := ["internal/strconv.uint64pow10", "math/bits.deBruijn32tab", "math/bits.deBruijn64tab"], apart := false, laid := [("math/bits.deBruijn32tab", laid_math_bits_deBruijn32tab), ("math/bits.deBruijn64tab", laid_math_bits_deBruijn64tab), ("internal/strconv.uint64pow10", laid_internal_strconv_uint64pow10)], narrowed := true }
def CapsPrintsUptoSaid : Prop := capsPrintsUptoRow.holds Tryd.pinned (OpenSpec.upto capsPrintsSpec)

/-- 'aumbrylaw13.CapsUnlike', WHERE WHAT IT READS IS OF BULK AT MOST 1048576: true; the input reads as it did. -/
def capsUnlikeUptoRow : OpenClaim := { program := "ytgjepahhbecljaadoor", sum := "197fe52505bbe6ba5bbc4d74aa00877d3309cf0d0ecfe4391983cb8900253a7f", func := "aumbry/aumbrylaw13.CapsUnlike", spec := "capsUnlike", named := ["internal/strconv.uint64pow10", "math/bits.deBruijn32tab", "math/bits.deBruijn64tab"], apart := false, laid := [("math/bits.deBruijn32tab", laid_math_bits_deBruijn32tab), ("math/bits.deBruijn64tab", laid_math_bits_deBruijn64tab), ("internal/strconv.uint64pow10", laid_internal_strconv_uint64pow10)], narrowed := true }
def CapsUnlikeUptoSaid : Prop := capsUnlikeUptoRow.holds Tryd.pinned (OpenSpec.upto capsUnlikeSpec)

/-- 'aumbrylaw13.CapsValids', WHERE WHAT IT READS IS OF BULK AT MOST 1048576: true; the input reads as it did. -/
def capsValidsUptoRow : OpenClaim := { program := "ytgjepahhbecljaadoor", sum := "197fe52505bbe6ba5bbc4d74aa00877d3309cf0d0ecfe4391983cb8900253a7f", func := "aumbry/aumbrylaw13.CapsValids", spec := "capsValids", named := ["internal/strconv.uint64pow10", "math/bits.deBruijn32tab", "math/bits.deBruijn64tab"], apart := false, laid := [("math/bits.deBruijn32tab", laid_math_bits_deBruijn32tab), ("math/bits.deBruijn64tab", laid_math_bits_deBruijn64tab), ("internal/strconv.uint64pow10", laid_internal_strconv_uint64pow10)], narrowed := true }
def CapsValidsUptoSaid : Prop := capsValidsUptoRow.holds Tryd.pinned (OpenSpec.upto capsValidsSpec)

/-- 'aumbrylaw13.CapsParses', WHERE WHAT IT READS IS OF BULK AT MOST 1048576: true; the input reads as it did. -/
def capsParsesUptoRow : OpenClaim := { program := "ytgjepahhbecljaadoor", sum := "197fe52505bbe6ba5bbc4d74aa00877d3309cf0d0ecfe4391983cb8900253a7f", func := "aumbry/aumbrylaw13.CapsParses", spec := "capsParses", recurses := true, named := ["internal/strconv.uint64pow10", "math/bits.deBruijn32tab", "math/bits.deBruijn64tab"], apart := false, laid := [("math/bits.deBruijn32tab", laid_math_bits_deBruijn32tab), ("math/bits.deBruijn64tab", laid_math_bits_deBruijn64tab), ("internal/strconv.uint64pow10", laid_internal_strconv_uint64pow10)], narrowed := true }
def CapsParsesUptoSaid : Prop := capsParsesUptoRow.holds Tryd.pinned (OpenSpec.upto capsParsesSpec)

/-- 'aumbrylaw13.CapsBack', WHERE WHAT IT READS IS OF BULK AT MOST 1048576: true; the input reads as it did. -/
def capsBackUptoRow : OpenClaim := { program := "ytgjepahhbecljaadoor", sum := "197fe52505bbe6ba5bbc4d74aa00877d3309cf0d0ecfe4391983cb8900253a7f", func := "aumbry/aumbrylaw13.CapsBack", spec := "capsBack", named := ["internal/strconv.uint64pow10", "math/bits.deBruijn32tab", "math/bits.deBruijn64tab"], apart := false, laid := [("math/bits.deBruijn32tab", laid_math_bits_deBruijn32tab), ("math/bits.deBruijn64tab", laid_math_bits_deBruijn64tab), ("internal/strconv.uint64pow10", laid_internal_strconv_uint64pow10)], narrowed := true }
def CapsBackUptoSaid : Prop := capsBackUptoRow.holds Tryd.pinned (OpenSpec.upto capsBackSpec)

/-- 'aumbrylaw13.CapsMore', WHERE WHAT IT READS IS OF BULK AT MOST 1048576: true; the input reads as it did. -/
def capsMoreUptoRow : OpenClaim := { program := "ytgjepahhbecljaadoor", sum := "197fe52505bbe6ba5bbc4d74aa00877d3309cf0d0ecfe4391983cb8900253a7f", func := "aumbry/aumbrylaw13.CapsMore", spec := "capsMore", recurses := true, named := ["internal/strconv.uint64pow10", "math/bits.deBruijn32tab", "math/bits.deBruijn64tab"], apart := false, laid := [("math/bits.deBruijn32tab", laid_math_bits_deBruijn32tab), ("math/bits.deBruijn64tab", laid_math_bits_deBruijn64tab), ("internal/strconv.uint64pow10", laid_internal_strconv_uint64pow10)], narrowed := true }
def CapsMoreUptoSaid : Prop := capsMoreUptoRow.holds Tryd.pinned (OpenSpec.upto capsMoreSpec)

/-- 'aumbrylaw13.CapsLess', WHERE WHAT IT READS IS OF BULK AT MOST 1048576: true; the input reads as it did. -/
def capsLessUptoRow : OpenClaim := { program := "ytgjepahhbecljaadoor", sum := "197fe52505bbe6ba5bbc4d74aa00877d3309cf0d0ecfe4391983cb8900253a7f", func := "aumbry/aumbrylaw13.CapsLess", spec := "capsLess", recurses := true, named := ["internal/strconv.uint64pow10", "math/bits.deBruijn32tab", "math/bits.deBruijn64tab"], apart := false, laid := [("math/bits.deBruijn32tab", laid_math_bits_deBruijn32tab), ("math/bits.deBruijn64tab", laid_math_bits_deBruijn64tab), ("internal/strconv.uint64pow10", laid_internal_strconv_uint64pow10)], narrowed := true }
def CapsLessUptoSaid : Prop := capsLessUptoRow.holds Tryd.pinned (OpenSpec.upto capsLessSpec)

/-- 'aumbrylaw13.CapsDown', WHERE WHAT IT READS IS OF BULK AT MOST 1048576: true; the input reads as it did. -/
def capsDownUptoRow : OpenClaim := { program := "ytgjepahhbecljaadoor", sum := "197fe52505bbe6ba5bbc4d74aa00877d3309cf0d0ecfe4391983cb8900253a7f", func := "aumbry/aumbrylaw13.CapsDown", spec := "capsDown", named := ["internal/strconv.uint64pow10", "math/bits.deBruijn32tab", "math/bits.deBruijn64tab"], apart := false, laid := [("math/bits.deBruijn32tab", laid_math_bits_deBruijn32tab), ("math/bits.deBruijn64tab", laid_math_bits_deBruijn64tab), ("internal/strconv.uint64pow10", laid_internal_strconv_uint64pow10)], narrowed := true }
def CapsDownUptoSaid : Prop := capsDownUptoRow.holds Tryd.pinned (OpenSpec.upto capsDownSpec)

/-- 'aumbrylaw13.CapsKeys', WHERE WHAT IT READS IS OF BULK AT MOST 1048576: true; the input reads as it did. -/
def capsKeysUptoRow : OpenClaim := { program := "ytgjepahhbecljaadoor", sum := "197fe52505bbe6ba5bbc4d74aa00877d3309cf0d0ecfe4391983cb8900253a7f", func := "aumbry/aumbrylaw13.CapsKeys", spec := "capsKeys", named := ["internal/strconv.uint64pow10", "math/bits.deBruijn32tab", "math/bits.deBruijn64tab"], apart := false, laid := [("math/bits.deBruijn32tab", laid_math_bits_deBruijn32tab), ("math/bits.deBruijn64tab", laid_math_bits_deBruijn64tab), ("internal/strconv.uint64pow10", laid_internal_strconv_uint64pow10)], narrowed := true }
def CapsKeysUptoSaid : Prop := capsKeysUptoRow.holds Tryd.pinned (OpenSpec.upto capsKeysSpec)

/-- 'aumbrylaw19.PlaceOrders', WHERE WHAT IT READS IS OF BULK AT MOST 1048576: true; the input reads as it did. -/
def placeOrdersUptoRow : OpenClaim := { program := "ytgjepahhbecljaadoor", sum := "197fe52505bbe6ba5bbc4d74aa00877d3309cf0d0ecfe4391983cb8900253a7f", func := "aumbry/aumbrylaw19.PlaceOrders", spec := "placeOrders", unfollowed := true, recurses := true, named := ["internal/strconv.uint64pow10", "math/bits.deBruijn32tab", "math/bits.deBruijn64tab"], apart := false, laid := [("math/bits.deBruijn32tab", laid_math_bits_deBruijn32tab), ("math/bits.deBruijn64tab", laid_math_bits_deBruijn64tab), ("internal/strconv.uint64pow10", laid_internal_strconv_uint64pow10)], narrowed := true }
def PlaceOrdersUptoSaid : Prop := placeOrdersUptoRow.holds Tryd.pinned (OpenSpec.upto placeOrdersSpec)

/-- 'aumbrylaw19.PlaceFull', WHERE WHAT IT READS IS OF BULK AT MOST 1048576: true; the input reads as it did. -/
def placeFullUptoRow : OpenClaim := { program := "ytgjepahhbecljaadoor", sum := "197fe52505bbe6ba5bbc4d74aa00877d3309cf0d0ecfe4391983cb8900253a7f", func := "aumbry/aumbrylaw19.PlaceFull", spec := "placeFull", unfollowed := true, recurses := true, named := ["internal/strconv.uint64pow10", "math/bits.deBruijn32tab", "math/bits.deBruijn64tab"], apart := false, laid := [("math/bits.deBruijn32tab", laid_math_bits_deBruijn32tab), ("math/bits.deBruijn64tab", laid_math_bits_deBruijn64tab), ("internal/strconv.uint64pow10", laid_internal_strconv_uint64pow10)], narrowed := true }
def PlaceFullUptoSaid : Prop := placeFullUptoRow.holds Tryd.pinned (OpenSpec.upto placeFullSpec)

end Rows
end Go.Proofs.YtgjepahhbecljaaDoor

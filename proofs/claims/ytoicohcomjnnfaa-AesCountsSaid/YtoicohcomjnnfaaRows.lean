/-
  No cell of these rows narrows 'for every input' (looked for: loops, veiled, ifaces, maps, wideKeys, modest, calm, conditions, laid).
  DERIVED. THE GIVEN ROWS OF THIS SEAT. 11 by the template 'for every input the law returns true; each argument reads behind the call as it read before'; 0 by the template 'total and deterministic' (their statements: YtoicohcomjnnfaaTotals.lean).
  GIVEN WITH THE SEED: the statements are not yours to turn. If you find one false, say at which input.
  Laid BY PROGRAM, IN A SANDBOX (cutbox-rows.mjs): the forced cells as the released guide's own fill.sh prints them over the translation 0f99775c44066b90… (all of the seat's roots in one cut). By AI agents, Wed Nov 11 2026. No macro, syntax, notation, axiom, sorry.
-/
import Derived.Test.YtoicohcomjnnfaaChecked
import GoSem.Claim
import GoSem.ClaimJoined
import GoSem.ClaimMapViews
import Derived.JoinedTies
import Derived.KernelRfl
namespace Go.Proofs.Ytoicohcomjnnfaa
/- THE CELL 'sum', in the pinned program and in every row, IS THE sha256 OF THE DUMP (.gsa) THAT YtoicohcomjnnfaaProg.lean LOADS. Nothing in Lean hashes anything: it is a label: what it is worth is what the hold of that sum in a sandbox is worth. -/
noncomputable def Try.pinned : Pinned := { name := "ytoicohcomjnnfaa", sum := "0f99775c44066b90aae16b7e3521bbfb4c740c6627feaec72f7dd38f2932f2cf", checked := Try.checked }
namespace Rows
def none {H : Type} : Left H := { results := [], args := [] }

/-- 'aumbrylaw19.PlaceLoses': WHATEVER THE INPUT: true; the input reads as it did. -/
def placeLosesSpec : ChangeSpec := { name := "placeLoses", fn := fun _ => fun
  | [d1, d2, d3] => { results := [.lit (.bool true)], args := [d1, d2, d3] }
  | _ => none }
def placeLosesRow : OpenClaim := { program := "ytoicohcomjnnfaa", sum := "0f99775c44066b90aae16b7e3521bbfb4c740c6627feaec72f7dd38f2932f2cf", func := "aumbry/aumbrylaw19.PlaceLoses", spec := "placeLoses", recurses := true, apart := false }
def PlaceLosesSaid : Prop := placeLosesRow.holds Try.pinned (OpenSpec.ofChange placeLosesSpec)

/-- ITS FALSE NEIGHBOUR: 'it returns false'. Refute it at one input. -/
def placeLosesWrong : ChangeSpec := { name := "placeLoses", fn := fun _ => fun
  | [d1, d2, d3] => { results := [.lit (.bool false)], args := [d1, d2, d3] }
  | _ => none }
def PlaceLosesWrongFalsely : Prop := placeLosesRow.holds Try.pinned (OpenSpec.ofChange placeLosesWrong)

/-- 'aumbrylaw19.PlaceAny': WHATEVER THE INPUT: true; the input reads as it did. -/
def placeAnySpec : ChangeSpec := { name := "placeAny", fn := fun _ => fun
  | [d1, d2, d3] => { results := [.lit (.bool true)], args := [d1, d2, d3] }
  | _ => none }
def placeAnyRow : OpenClaim := { program := "ytoicohcomjnnfaa", sum := "0f99775c44066b90aae16b7e3521bbfb4c740c6627feaec72f7dd38f2932f2cf", func := "aumbry/aumbrylaw19.PlaceAny", spec := "placeAny", recurses := true, apart := false }
def PlaceAnySaid : Prop := placeAnyRow.holds Try.pinned (OpenSpec.ofChange placeAnySpec)

/-- ITS FALSE NEIGHBOUR: 'it returns false'. Refute it at one input. -/
def placeAnyWrong : ChangeSpec := { name := "placeAny", fn := fun _ => fun
  | [d1, d2, d3] => { results := [.lit (.bool false)], args := [d1, d2, d3] }
  | _ => none }
def PlaceAnyWrongFalsely : Prop := placeAnyRow.holds Try.pinned (OpenSpec.ofChange placeAnyWrong)

/-- 'aumbrylaw19.PlaceTurned': WHATEVER THE INPUT: true; the input reads as it did. -/
def placeTurnedSpec : ChangeSpec := { name := "placeTurned", fn := fun _ => fun
  | [d1, d2] => { results := [.lit (.bool true)], args := [d1, d2] }
  | _ => none }
def placeTurnedRow : OpenClaim := { program := "ytoicohcomjnnfaa", sum := "0f99775c44066b90aae16b7e3521bbfb4c740c6627feaec72f7dd38f2932f2cf", func := "aumbry/aumbrylaw19.PlaceTurned", spec := "placeTurned", recurses := true, apart := false }
def PlaceTurnedSaid : Prop := placeTurnedRow.holds Try.pinned (OpenSpec.ofChange placeTurnedSpec)

/-- ITS FALSE NEIGHBOUR: 'it returns false'. Refute it at one input. -/
def placeTurnedWrong : ChangeSpec := { name := "placeTurned", fn := fun _ => fun
  | [d1, d2] => { results := [.lit (.bool false)], args := [d1, d2] }
  | _ => none }
def PlaceTurnedWrongFalsely : Prop := placeTurnedRow.holds Try.pinned (OpenSpec.ofChange placeTurnedWrong)

/-- 'aumbrylaw19.PlaceMatches': WHATEVER THE INPUT: true; the input reads as it did. -/
def placeMatchesSpec : ChangeSpec := { name := "placeMatches", fn := fun _ => fun
  | [d] => { results := [.lit (.bool true)], args := [d] }
  | _ => none }
def placeMatchesRow : OpenClaim := { program := "ytoicohcomjnnfaa", sum := "0f99775c44066b90aae16b7e3521bbfb4c740c6627feaec72f7dd38f2932f2cf", func := "aumbry/aumbrylaw19.PlaceMatches", spec := "placeMatches", recurses := true, apart := false }
def PlaceMatchesSaid : Prop := placeMatchesRow.holds Try.pinned (OpenSpec.ofChange placeMatchesSpec)

/-- ITS FALSE NEIGHBOUR: 'it returns false'. Refute it at one input. -/
def placeMatchesWrong : ChangeSpec := { name := "placeMatches", fn := fun _ => fun
  | [d] => { results := [.lit (.bool false)], args := [d] }
  | _ => none }
def PlaceMatchesWrongFalsely : Prop := placeMatchesRow.holds Try.pinned (OpenSpec.ofChange placeMatchesWrong)

/-- 'aumbrylaw19.PlacePairs': WHATEVER THE INPUT: true; the input reads as it did. -/
def placePairsSpec : ChangeSpec := { name := "placePairs", fn := fun _ => fun
  | [d1, d2] => { results := [.lit (.bool true)], args := [d1, d2] }
  | _ => none }
def placePairsRow : OpenClaim := { program := "ytoicohcomjnnfaa", sum := "0f99775c44066b90aae16b7e3521bbfb4c740c6627feaec72f7dd38f2932f2cf", func := "aumbry/aumbrylaw19.PlacePairs", spec := "placePairs", recurses := true, apart := false }
def PlacePairsSaid : Prop := placePairsRow.holds Try.pinned (OpenSpec.ofChange placePairsSpec)

/-- ITS FALSE NEIGHBOUR: 'it returns false'. Refute it at one input. -/
def placePairsWrong : ChangeSpec := { name := "placePairs", fn := fun _ => fun
  | [d1, d2] => { results := [.lit (.bool false)], args := [d1, d2] }
  | _ => none }
def PlacePairsWrongFalsely : Prop := placePairsRow.holds Try.pinned (OpenSpec.ofChange placePairsWrong)

/-- 'aumbrylaw03.AesBlocks': WHATEVER THE INPUT: true; the input reads as it did. -/
def aesBlocksSpec : ChangeSpec := { name := "aesBlocks", fn := fun _ => fun
  | [d1, d2] => { results := [.lit (.bool true)], args := [d1, d2] }
  | _ => none }
def aesBlocksRow : OpenClaim := { program := "ytoicohcomjnnfaa", sum := "0f99775c44066b90aae16b7e3521bbfb4c740c6627feaec72f7dd38f2932f2cf", func := "aumbry/aumbrylaw03.AesBlocks", spec := "aesBlocks", apart := false }
def AesBlocksSaid : Prop := aesBlocksRow.holds Try.pinned (OpenSpec.ofChange aesBlocksSpec)

/-- ITS FALSE NEIGHBOUR: 'it returns false'. Refute it at one input. -/
def aesBlocksWrong : ChangeSpec := { name := "aesBlocks", fn := fun _ => fun
  | [d1, d2] => { results := [.lit (.bool false)], args := [d1, d2] }
  | _ => none }
def AesBlocksWrongFalsely : Prop := aesBlocksRow.holds Try.pinned (OpenSpec.ofChange aesBlocksWrong)

/-- 'aumbrylaw03.AesUnlike': WHATEVER THE INPUT: true; the input reads as it did. -/
def aesUnlikeSpec : ChangeSpec := { name := "aesUnlike", fn := fun _ => fun
  | [d1, d2, d3] => { results := [.lit (.bool true)], args := [d1, d2, d3] }
  | _ => none }
def aesUnlikeRow : OpenClaim := { program := "ytoicohcomjnnfaa", sum := "0f99775c44066b90aae16b7e3521bbfb4c740c6627feaec72f7dd38f2932f2cf", func := "aumbry/aumbrylaw03.AesUnlike", spec := "aesUnlike", apart := false }
def AesUnlikeSaid : Prop := aesUnlikeRow.holds Try.pinned (OpenSpec.ofChange aesUnlikeSpec)

/-- ITS FALSE NEIGHBOUR: 'it returns false'. Refute it at one input. -/
def aesUnlikeWrong : ChangeSpec := { name := "aesUnlike", fn := fun _ => fun
  | [d1, d2, d3] => { results := [.lit (.bool false)], args := [d1, d2, d3] }
  | _ => none }
def AesUnlikeWrongFalsely : Prop := aesUnlikeRow.holds Try.pinned (OpenSpec.ofChange aesUnlikeWrong)

/-- 'aumbrylaw03.AesSums': WHATEVER THE INPUT: true; the input reads as it did. -/
def aesSumsSpec : ChangeSpec := { name := "aesSums", fn := fun _ => fun
  | [d1, d2, d3, d4] => { results := [.lit (.bool true)], args := [d1, d2, d3, d4] }
  | _ => none }
def aesSumsRow : OpenClaim := { program := "ytoicohcomjnnfaa", sum := "0f99775c44066b90aae16b7e3521bbfb4c740c6627feaec72f7dd38f2932f2cf", func := "aumbry/aumbrylaw03.AesSums", spec := "aesSums", apart := false }
def AesSumsSaid : Prop := aesSumsRow.holds Try.pinned (OpenSpec.ofChange aesSumsSpec)

/-- ITS FALSE NEIGHBOUR: 'it returns false'. Refute it at one input. -/
def aesSumsWrong : ChangeSpec := { name := "aesSums", fn := fun _ => fun
  | [d1, d2, d3, d4] => { results := [.lit (.bool false)], args := [d1, d2, d3, d4] }
  | _ => none }
def AesSumsWrongFalsely : Prop := aesSumsRow.holds Try.pinned (OpenSpec.ofChange aesSumsWrong)

/-- 'aumbrylaw03.AesStreams': WHATEVER THE INPUT: true; the input reads as it did. -/
def aesStreamsSpec : ChangeSpec := { name := "aesStreams", fn := fun _ => fun
  | [d1, d2, d3] => { results := [.lit (.bool true)], args := [d1, d2, d3] }
  | _ => none }
def aesStreamsRow : OpenClaim := { program := "ytoicohcomjnnfaa", sum := "0f99775c44066b90aae16b7e3521bbfb4c740c6627feaec72f7dd38f2932f2cf", func := "aumbry/aumbrylaw03.AesStreams", spec := "aesStreams", apart := false }
def AesStreamsSaid : Prop := aesStreamsRow.holds Try.pinned (OpenSpec.ofChange aesStreamsSpec)

/-- ITS FALSE NEIGHBOUR: 'it returns false'. Refute it at one input. -/
def aesStreamsWrong : ChangeSpec := { name := "aesStreams", fn := fun _ => fun
  | [d1, d2, d3] => { results := [.lit (.bool false)], args := [d1, d2, d3] }
  | _ => none }
def AesStreamsWrongFalsely : Prop := aesStreamsRow.holds Try.pinned (OpenSpec.ofChange aesStreamsWrong)

/-- 'aumbrylaw03.AesTwice': WHATEVER THE INPUT: true; the input reads as it did. -/
def aesTwiceSpec : ChangeSpec := { name := "aesTwice", fn := fun _ => fun
  | [d1, d2, d3, d4] => { results := [.lit (.bool true)], args := [d1, d2, d3, d4] }
  | _ => none }
def aesTwiceRow : OpenClaim := { program := "ytoicohcomjnnfaa", sum := "0f99775c44066b90aae16b7e3521bbfb4c740c6627feaec72f7dd38f2932f2cf", func := "aumbry/aumbrylaw03.AesTwice", spec := "aesTwice", apart := false }
def AesTwiceSaid : Prop := aesTwiceRow.holds Try.pinned (OpenSpec.ofChange aesTwiceSpec)

/-- ITS FALSE NEIGHBOUR: 'it returns false'. Refute it at one input. -/
def aesTwiceWrong : ChangeSpec := { name := "aesTwice", fn := fun _ => fun
  | [d1, d2, d3, d4] => { results := [.lit (.bool false)], args := [d1, d2, d3, d4] }
  | _ => none }
def AesTwiceWrongFalsely : Prop := aesTwiceRow.holds Try.pinned (OpenSpec.ofChange aesTwiceWrong)

/-- 'aumbrylaw03.AesCounts': WHATEVER THE INPUT: true; the input reads as it did. -/
def aesCountsSpec : ChangeSpec := { name := "aesCounts", fn := fun _ => fun
  | [d1, d2] => { results := [.lit (.bool true)], args := [d1, d2] }
  | _ => none }
def aesCountsRow : OpenClaim := { program := "ytoicohcomjnnfaa", sum := "0f99775c44066b90aae16b7e3521bbfb4c740c6627feaec72f7dd38f2932f2cf", func := "aumbry/aumbrylaw03.AesCounts", spec := "aesCounts", apart := false }
def AesCountsSaid : Prop := aesCountsRow.holds Try.pinned (OpenSpec.ofChange aesCountsSpec)

/-- ITS FALSE NEIGHBOUR: 'it returns false'. Refute it at one input. -/
def aesCountsWrong : ChangeSpec := { name := "aesCounts", fn := fun _ => fun
  | [d1, d2] => { results := [.lit (.bool false)], args := [d1, d2] }
  | _ => none }
def AesCountsWrongFalsely : Prop := aesCountsRow.holds Try.pinned (OpenSpec.ofChange aesCountsWrong)

/- THE SECOND FORM. 'bulk': how many values and letters a reading holds, each counted each time it is reached (what is shared counts as often as it is met; a slice's spare places count too). A statement '..UptoSaid' is the law's where the arguments, and the package variables that the reading takes, are together of bulk at most 1048576: NARROWER than '..Said'. Prove '..Said' where nothing that the law and all that it calls make is longer than what came in: it says more and counts as full. Else prove '..UptoSaid'. A law counts once. -/
mutual
def uptoBulk {H : Type} : DataW H → Nat
  | .lit (.string bytes) => bytes.length + 1
  | .lit _ => 1
  | .nil => 1
  | .ptr d => uptoBulk d + 1
  | .slice elems spare => uptoBulkAll elems + uptoBulkAll spare + 1
  | .agg parts => uptoBulkAll parts + 1
  | .iface _ d => uptoBulk d + 1
  | .map entries => uptoBulkEntries entries + 1
  | .held _ => 1
def uptoBulkAll {H : Type} : List (DataW H) → Nat
  | [] => 0
  | d :: r => uptoBulk d + uptoBulkAll r
def uptoBulkEntries {H : Type} : List (Lit × DataW H) → Nat
  | [] => 0
  | x :: r => uptoBulkEntry x + uptoBulkEntries r
def uptoBulkEntry {H : Type} : Lit × DataW H → Nat
  | (.string bytes, d) => bytes.length + uptoBulk d + 1
  | (_, d) => uptoBulk d + 1
 end
def uptoSmall : (H : Type) → List (DataW H) → Bool := fun _ ds => decide (uptoBulkAll ds ≤ 1048576)
def OpenSpec.upto (s : _root_.Go.ChangeSpec) : _root_.Go.OpenSpec := { _root_.Go.OpenSpec.ofChange s with cond := some uptoSmall }

/-- 'aumbrylaw19.PlaceLoses', WHERE WHAT IT READS IS OF BULK AT MOST 1048576: true; the input reads as it did. -/
def placeLosesUptoRow : OpenClaim := { program := "ytoicohcomjnnfaa", sum := "0f99775c44066b90aae16b7e3521bbfb4c740c6627feaec72f7dd38f2932f2cf", func := "aumbry/aumbrylaw19.PlaceLoses", spec := "placeLoses", recurses := true, apart := false, narrowed := true }
def PlaceLosesUptoSaid : Prop := placeLosesUptoRow.holds Try.pinned (OpenSpec.upto placeLosesSpec)

/-- 'aumbrylaw19.PlaceAny', WHERE WHAT IT READS IS OF BULK AT MOST 1048576: true; the input reads as it did. -/
def placeAnyUptoRow : OpenClaim := { program := "ytoicohcomjnnfaa", sum := "0f99775c44066b90aae16b7e3521bbfb4c740c6627feaec72f7dd38f2932f2cf", func := "aumbry/aumbrylaw19.PlaceAny", spec := "placeAny", recurses := true, apart := false, narrowed := true }
def PlaceAnyUptoSaid : Prop := placeAnyUptoRow.holds Try.pinned (OpenSpec.upto placeAnySpec)

/-- 'aumbrylaw19.PlaceTurned', WHERE WHAT IT READS IS OF BULK AT MOST 1048576: true; the input reads as it did. -/
def placeTurnedUptoRow : OpenClaim := { program := "ytoicohcomjnnfaa", sum := "0f99775c44066b90aae16b7e3521bbfb4c740c6627feaec72f7dd38f2932f2cf", func := "aumbry/aumbrylaw19.PlaceTurned", spec := "placeTurned", recurses := true, apart := false, narrowed := true }
def PlaceTurnedUptoSaid : Prop := placeTurnedUptoRow.holds Try.pinned (OpenSpec.upto placeTurnedSpec)

/-- 'aumbrylaw19.PlaceMatches', WHERE WHAT IT READS IS OF BULK AT MOST 1048576: true; the input reads as it did. -/
def placeMatchesUptoRow : OpenClaim := { program := "ytoicohcomjnnfaa", sum := "0f99775c44066b90aae16b7e3521bbfb4c740c6627feaec72f7dd38f2932f2cf", func := "aumbry/aumbrylaw19.PlaceMatches", spec := "placeMatches", recurses := true, apart := false, narrowed := true }
def PlaceMatchesUptoSaid : Prop := placeMatchesUptoRow.holds Try.pinned (OpenSpec.upto placeMatchesSpec)

/-- 'aumbrylaw19.PlacePairs', WHERE WHAT IT READS IS OF BULK AT MOST 1048576: true; the input reads as it did. -/
def placePairsUptoRow : OpenClaim := { program := "ytoicohcomjnnfaa", sum := "0f99775c44066b90aae16b7e3521bbfb4c740c6627feaec72f7dd38f2932f2cf", func := "aumbry/aumbrylaw19.PlacePairs", spec := "placePairs", recurses := true, apart := false, narrowed := true }
def PlacePairsUptoSaid : Prop := placePairsUptoRow.holds Try.pinned (OpenSpec.upto placePairsSpec)

/-- 'aumbrylaw03.AesBlocks', WHERE WHAT IT READS IS OF BULK AT MOST 1048576: true; the input reads as it did. -/
def aesBlocksUptoRow : OpenClaim := { program := "ytoicohcomjnnfaa", sum := "0f99775c44066b90aae16b7e3521bbfb4c740c6627feaec72f7dd38f2932f2cf", func := "aumbry/aumbrylaw03.AesBlocks", spec := "aesBlocks", apart := false, narrowed := true }
def AesBlocksUptoSaid : Prop := aesBlocksUptoRow.holds Try.pinned (OpenSpec.upto aesBlocksSpec)

/-- 'aumbrylaw03.AesUnlike', WHERE WHAT IT READS IS OF BULK AT MOST 1048576: true; the input reads as it did. -/
def aesUnlikeUptoRow : OpenClaim := { program := "ytoicohcomjnnfaa", sum := "0f99775c44066b90aae16b7e3521bbfb4c740c6627feaec72f7dd38f2932f2cf", func := "aumbry/aumbrylaw03.AesUnlike", spec := "aesUnlike", apart := false, narrowed := true }
def AesUnlikeUptoSaid : Prop := aesUnlikeUptoRow.holds Try.pinned (OpenSpec.upto aesUnlikeSpec)

/-- 'aumbrylaw03.AesSums', WHERE WHAT IT READS IS OF BULK AT MOST 1048576: true; the input reads as it did. -/
def aesSumsUptoRow : OpenClaim := { program := "ytoicohcomjnnfaa", sum := "0f99775c44066b90aae16b7e3521bbfb4c740c6627feaec72f7dd38f2932f2cf", func := "aumbry/aumbrylaw03.AesSums", spec := "aesSums", apart := false, narrowed := true }
def AesSumsUptoSaid : Prop := aesSumsUptoRow.holds Try.pinned (OpenSpec.upto aesSumsSpec)

/-- 'aumbrylaw03.AesStreams', WHERE WHAT IT READS IS OF BULK AT MOST 1048576: true; the input reads as it did. -/
def aesStreamsUptoRow : OpenClaim := { program := "ytoicohcomjnnfaa", sum := "0f99775c44066b90aae16b7e3521bbfb4c740c6627feaec72f7dd38f2932f2cf", func := "aumbry/aumbrylaw03.AesStreams", spec := "aesStreams", apart := false, narrowed := true }
def AesStreamsUptoSaid : Prop := aesStreamsUptoRow.holds Try.pinned (OpenSpec.upto aesStreamsSpec)

/-- 'aumbrylaw03.AesTwice', WHERE WHAT IT READS IS OF BULK AT MOST 1048576: true; the input reads as it did. -/
def aesTwiceUptoRow : OpenClaim := { program := "ytoicohcomjnnfaa", sum := "0f99775c44066b90aae16b7e3521bbfb4c740c6627feaec72f7dd38f2932f2cf", func := "aumbry/aumbrylaw03.AesTwice", spec := "aesTwice", apart := false, narrowed := true }
def AesTwiceUptoSaid : Prop := aesTwiceUptoRow.holds Try.pinned (OpenSpec.upto aesTwiceSpec)

/-- 'aumbrylaw03.AesCounts', WHERE WHAT IT READS IS OF BULK AT MOST 1048576: true; the input reads as it did. -/
def aesCountsUptoRow : OpenClaim := { program := "ytoicohcomjnnfaa", sum := "0f99775c44066b90aae16b7e3521bbfb4c740c6627feaec72f7dd38f2932f2cf", func := "aumbry/aumbrylaw03.AesCounts", spec := "aesCounts", apart := false, narrowed := true }
def AesCountsUptoSaid : Prop := aesCountsUptoRow.holds Try.pinned (OpenSpec.upto aesCountsSpec)

end Rows
end Go.Proofs.Ytoicohcomjnnfaa

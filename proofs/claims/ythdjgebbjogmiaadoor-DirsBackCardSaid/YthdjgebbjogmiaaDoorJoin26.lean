/- One entry in a block of its own, as a slice; capabilities without a literal. No condition.
What a store into an entry leaves of what is read. No condition. -/
import Derived.Test.YthdjgebbjogmiaaDoorJoin17
import Derived.Test.YthdjgebbjogmiaaDoorCap
import Derived.Test.YthdjgebbjogmiaaDoorJoin21
import Derived.Test.YthdjgebbjogmiaaDoorJoin18
set_option linter.unusedVariables false
set_option linter.unusedSimpArgs false
namespace Go.Proofs.YthdjgebbjogmiaaDoor
open Go Go.RowKit
set_option linter.unusedVariables false
set_option maxRecDepth 100000
end Go.Proofs.YthdjgebbjogmiaaDoor

namespace Go.Proofs.YthdjgebbjogmiaaDoor
open Go Go.RowKit
set_option linter.unusedVariables false
set_option maxRecDepth 100000
/-- Bytes among a block's cells are as they were. -/
def KeepB (cs cs' : List Value) : Prop := ∀ (j : Nat) (n : Int), cs[j]? = some (.int .u8 n) → cs'[j]? = some (.int .u8 n)
theorem KeepB.trans {a b c : List Value} (h : KeepB a b) (h' : KeepB b c) : KeepB a c := fun j n hj => h' j n (h j n hj)
theorem EntOk.named {w : World} {B : Nat} {e : EntD} {x y : Value} (h : EntOk w B e x y) {nm : List Int} (hn : Bytes nm) : EntOk w B { e with name := nm } x y := ⟨⟨hn, h.rWf, h.wWf⟩, h.r1, h.w1⟩
/-- An entry whose literals lie in blocks of bytes. -/
structure EntU (w : World) (e : EntD) (x y : Value) : Prop where
 wf : e.Wf
 r : LitB w 0 x e.read.lit
 w_ : LitB w 0 y e.write.lit
theorem EntU.ok {w : World} {e : EntD} {x y : Value} (h : EntU w e x y) : EntOk w w.heap.size e x y := ⟨h.wf, h.r.reads (Nat.zero_le _), h.w_.reads (Nat.zero_le _)⟩
theorem EntU.past {w w' : World} {e : EntD} {x y : Value} {g : Nat} {cs : List Value} (h : EntU w e x y) (hk : Blk w g 45 cs) (hg : w.grownBy w' (some g)) : EntU w' e x y :=
 ⟨h.wf, h.r.past hk (Nat.zero_le _) (by kernel_rfl) hg (Nat.zero_le _), h.w_.past hk (Nat.zero_le _) (by kernel_rfl) hg (Nat.zero_le _)⟩
end Go.Proofs.YthdjgebbjogmiaaDoor

/- Directories as bytes, as plain laws: what is packed is read as it was; what is read is what would be packed. No program in sight but for the words. -/
import Derived.Test.YthdjgebbjogmiaaDoorJoin13
import Derived.Test.YthdjgebbjogmiaaDoorJoin4
import Derived.Test.YthdjgebbjogmiaaDoorJoin14
import Derived.Test.YthdjgebbjogmiaaDoorJoin11
import Derived.Test.YthdjgebbjogmiaaDoorJoin16
set_option linter.unusedVariables false
set_option linter.unusedSimpArgs false
namespace Go.Proofs.YthdjgebbjogmiaaDoor
open Go Go.RowKit
set_option linter.unusedVariables false
theorem d_netsF_cons (x : List Int) (l : List (List Int)) : netsF (x :: l) = netF x ++ netsF l := by simp [netsF]
/-- A capability's text with the key of a name, to and fro. -/
def tChild : ByteArray := { data := #[99, 104, 105, 108, 100] }
def kidF (key nm b : List Int) : List Int := streamF boxTab (ExpandF (shortF (strB tChild) [key, nm])) 0 b
theorem kidF_len (key nm b : List Int) : (kidF key nm b).length = b.length := streamF_len _ _ _ _
theorem kidF_bytes (key nm : List Int) {b : List Int} (hb : Bytes b) : Bytes (kidF key nm b) := streamF_bytes tab_bytes.2 (ExpandF_len (shortF_len _ _) (shortF_bytes _ _)) (ExpandF_bytes (shortF_len _ _) (shortF_bytes _ _)) _ hb
/-- An entry's rows; its row; a directory's bytes. -/
def printB (c : CapD) : List Int := if c.Valid then printF c else []
def rowE (key : List Int) (e : EntD) : List (List Int) := [e.name, printB e.read, if e.has then kidF key e.name (printB e.write) else []]
def packF (key : List Int) (l : List EntD) : List Int := netsF (l.map fun e => netsF (rowE key e))
/-- How long the printed text of a capability is. -/
theorem d_printF_len {c : CapD} (hw : c.Wf) (hv : c.Valid) : 0 < (printF c).length ∧ (printF c).length ≤ 300 := by
 have hwl : (wordL c.kind.toNat).length ≤ 11 := by
  have h : c.kind.toNat < 10 := by unfold CapD.Valid at hv; omega
  have : ∀ k : Fin 10, (wordL k.val).length ≤ 11 := by decide
  exact this ⟨_, h⟩
 have h1 := b32F_len c.key
 have h2 := b32F_len c.fp
 have h3 := b32F_len c.lit
 have h4 := hw.keyL
 have h5 := hw.fpL
 unfold printF
 constructor
 · simp
 · by_cases k3 : c.kind = 3
   · rw [if_pos k3]
     have hl : c.lit.length ≤ 64 := by unfold CapD.Valid at hv; omega
     simp only [List.length_append, List.length_cons, List.length_nil]
     omega
   · rw [if_neg k3]
     by_cases k2 : c.kind ≤ 2
     · rw [if_pos k2]
       have hb : c.K.toNat < 10 ^ 4 ∧ c.N.toNat < 10 ^ 4 ∧ c.S.toNat < 10 ^ 4 := by unfold CapD.Valid at hv; omega
       have d1 := digB_short 3 _ hb.1
       have d2 := digB_short 3 _ hb.2.1
       have d3 := digB_short 3 _ hb.2.2
       simp only [List.length_append, List.length_cons, List.length_nil]
       omega
     · rw [if_neg k2]
       simp only [List.length_append, List.length_cons, List.length_nil]
       omega
theorem printB_len {c : CapD} (hw : c.Wf) : (printB c).length ≤ 300 := by
 unfold printB
 split
 · rename_i hv; exact (d_printF_len hw hv).2
 · simp
theorem printB_bytes (c : CapD) : Bytes (printB c) := by
 unfold printB
 split
 · rename_i hv; exact printF_bytes hv
 · exact fun x hx => by cases hx
theorem printS_eq (c : CapD) : printS c = strOfNums (printB c) := by
 unfold printS printB
 split <;> rfl
theorem digB_few (n : Nat) (h : n < 10000) : (digB n).length ≤ 4 := by have := digB_short 3 n h; omega
theorem netF_few {x : List Int} (h : x.length ≤ 9999) : (netF x).length ≤ x.length + 6 := by
 have := digB_few x.length (by omega)
 simp only [netF, List.length_append, List.length_singleton]
 omega
theorem rowE_len (key : List Int) {e : EntD} (hw : e.Wf) (hn : e.name.length ≤ 64) : (∀ x ∈ rowE key e, x.length ≤ 300) ∧ (netsF (rowE key e)).length ≤ 682 := by
 have h1 := printB_len hw.rWf
 have h2 := printB_len hw.wWf
 have h3 : (if e.has = true then kidF key e.name (printB e.write) else []).length ≤ 300 := by
  split
  · rw [kidF_len]; exact h2
  · simp
 refine ⟨fun x hx => ?_, ?_⟩
 · simp only [rowE, List.mem_cons, List.not_mem_nil, or_false] at hx
   rcases hx with rfl | rfl | rfl
   · omega
   · exact h1
   · exact h3
 · have g1 := netF_few (x := e.name) (by omega)
   have g2 := netF_few (x := printB e.read) (by omega)
   have g3 := netF_few (x := if e.has = true then kidF key e.name (printB e.write) else []) (by omega)
   show (netsF [e.name, printB e.read, _]).length ≤ _
   rw [d_netsF_cons, d_netsF_cons, d_netsF_cons]
   simp only [List.length_append]
   have : (netsF []).length = 0 := rfl
   omega
theorem packF_snoc (key : List Int) (l : List EntD) (e : EntD) : packF key (l ++ [e]) = packF key l ++ netF (netsF (rowE key e)) := by simp [packF, netsF]
theorem packF_cons (key : List Int) (e : EntD) (l : List EntD) : packF key (e :: l) = netF (netsF (rowE key e)) ++ packF key l := by simp [packF, netsF]
theorem packF_len (key : List Int) : ∀ (l : List EntD), (∀ e ∈ l, e.Wf ∧ e.name.length ≤ 64) → (packF key l).length ≤ 688 * l.length
 | [], _ => by simp [packF, netsF]
 | e :: l, h => by
  have h1 := packF_len key l (fun x hx => h x (List.mem_cons_of_mem _ hx))
  have h2 := rowE_len key (h e List.mem_cons_self).1 (h e List.mem_cons_self).2
  have h3 := netF_few (x := netsF (rowE key e)) (by omega)
  rw [packF_cons, List.length_append, List.length_cons]
  omega
end Go.Proofs.YthdjgebbjogmiaaDoor

/- The plain law of capabilities: which may be, their texts, the text's parts, and that a text is just one capability's. No program in sight. Condition: a key of 16 bytes, a print of 32. -/
import Derived.Test.YthdjgebbjogmiaaDoorJoin2
import Derived.Test.YthdjgebbjogmiaaDoorJoin5
set_option linter.unusedVariables false
set_option linter.unusedSimpArgs false
namespace Go.Proofs.YthdjgebbjogmiaaDoor
open Go Go.RowKit

/-- A capability as data. -/
structure CapD where
 kind : Int
 key : List Int
 fp : List Int
 K : Int
 N : Int
 S : Int
 lit : List Int

/-- What a capability's type says. -/
structure CapD.Wf (c : CapD) : Prop where
 keyL : c.key.length = 16
 keyB : Bytes c.key
 fpL : c.fp.length = 32
 fpB : Bytes c.fp
 litB : Bytes c.lit

abbrev zeros (n : Nat) : List Int := List.replicate n 0
def CapD.none_ : CapD := ⟨0, zeros 16, zeros 32, 0, 0, 0, []⟩
theorem zeros_bytes (n : Nat) : Bytes (zeros n) := fun x hx => by
 obtain rfl := List.eq_of_mem_replicate hx
 omega
theorem CapD.none_wf : CapD.none_.Wf := ⟨rfl, zeros_bytes 16, rfl, zeros_bytes 32, fun x hx => by cases hx⟩

/-- May there be such a one? -/
def CapD.Valid (c : CapD) : Prop :=
 ((c.kind = 1 ∨ c.kind = 2) ∧ 1 ≤ c.K ∧ c.K ≤ c.N ∧ c.N ≤ 16 ∧ 1 ≤ c.S ∧ c.S ≤ 1024 ∧ c.lit.length = 0) ∨
 (c.kind = 3 ∧ c.lit.length ≤ 64 ∧ c.key = zeros 16 ∧ c.fp = zeros 32 ∧ c.K = 0 ∧ c.N = 0 ∧ c.S = 0) ∨
 (4 ≤ c.kind ∧ c.kind ≤ 9 ∧ c.K = 0 ∧ c.N = 0 ∧ c.S = 0 ∧ c.lit.length = 0)
instance (c : CapD) : Decidable c.Valid := by unfold CapD.Valid; infer_instance

/-- The kinds' words. -/
def wordL : Nat → List Int
 | 1 => [102, 105, 108, 101]
 | 2 => [102, 105, 108, 101, 45, 118, 101, 114, 105, 102, 121]
 | 3 => [108, 105, 116]
 | 4 => [115, 108, 111, 116]
 | 5 => [115, 108, 111, 116, 45, 114, 101, 97, 100]
 | 6 => [115, 108, 111, 116, 45, 118, 101, 114, 105, 102, 121]
 | 7 => [100, 105, 114]
 | 8 => [100, 105, 114, 45, 114, 101, 97, 100]
 | 9 => [100, 105, 114, 45, 118, 101, 114, 105, 102, 121]
 | _ => []

/-- The text. -/
def printF (c : CapD) : List Int :=
 [97, 117, 58] ++ (wordL c.kind.toNat ++ (58 :: (if c.kind = 3 then b32F c.lit else
  b32F c.key ++ (58 :: (b32F c.fp ++ (if c.kind ≤ 2 then 58 :: (digB c.K.toNat ++ (58 :: (digB c.N.toNat ++ (58 :: digB c.S.toNat)))) else []))))))

/-- A text's parts between colons. -/
def splitF : List Int → List (List Int)
 | [] => [[]]
 | c :: cs => if c = 58 then [] :: splitF cs else match splitF cs with
  | [] => [[c]]
  | p :: ps => (c :: p) :: ps
theorem wordL_ok : ∀ k : Fin 10, ∀ x ∈ wordL k.val, x ≠ 58 ∧ 0 ≤ x ∧ x < 256 := by decide
theorem digB_short : ∀ (k n : Nat), n < 10 ^ (k + 1) → (digB n).length ≤ k + 1
 | 0, n, h => by rw [digB_one (by omega)]; simp
 | k + 1, n, h => by
  by_cases h2 : n < 10
  · rw [digB_one h2]; simp
  · rw [digB_more h2, List.length_append]
    have := digB_short k (n / 10) (by rw [Nat.pow_succ] at h; omega)
    simp
    omega

theorem printF_bytes {c : CapD} (hv : c.Valid) : Bytes (printF c) := by
 have hk : c.kind.toNat < 10 := by unfold CapD.Valid at hv; omega
 have hw : Bytes (wordL c.kind.toNat) := fun x hx => (wordL_ok ⟨_, hk⟩ x hx).2
 have cons : ∀ {xs : List Int}, Bytes xs → Bytes (58 :: xs) := fun {xs} h x hx => by
  rcases List.mem_cons.1 hx with rfl | hx
  · omega
  · exact h x hx
 have app : ∀ {xs ys : List Int}, Bytes xs → Bytes ys → Bytes (xs ++ ys) := fun {xs ys} h1 h2 x hx => (List.mem_append.1 hx).elim (h1 x) (h2 x)
 unfold printF
 refine app (by intro x hx; simp at hx; omega) (app hw (cons ?_))
 split
 · exact b32F_bytes _
 · refine app (b32F_bytes _) (cons (app (b32F_bytes _) ?_))
   split
   · exact cons (app (digB_bytes _) (cons (app (digB_bytes _) (cons (digB_bytes _)))))
   · intro x hx; cases hx

/-- The last look. -/
def pick (o : Option CapD) (s : List Int) : Option CapD := o.bind fun c => if c.Valid ∧ printF c = s then some c else none
end Go.Proofs.YthdjgebbjogmiaaDoor

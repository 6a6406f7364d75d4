/- The plain law of capabilities: which may be, their texts, the text's parts, and that a text is just one capability's. No program in sight. Condition: a key of 16 bytes, a print of 32. -/
import Derived.Test.YthdjgebbjogmiaaDoorJoin2
import Derived.Test.YthdjgebbjogmiaaDoorJoin5
set_option linter.unusedVariables false
set_option linter.unusedSimpArgs false
namespace Go.Proofs.YthdjgebbjogmiaaDoor
open Go Go.RowKit

/-- A capability as data. -/
structure CapD where
 kind : Int
 key : List Int
 fp : List Int
 K : Int
 N : Int
 S : Int
 lit : List Int

/-- What a capability's type says. -/
structure CapD.Wf (c : CapD) : Prop where
 keyL : c.key.length = 16
 keyB : Bytes c.key
 fpL : c.fp.length = 32
 fpB : Bytes c.fp
 litB : Bytes c.lit

abbrev zeros (n : Nat) : List Int := List.replicate n 0
def CapD.none_ : CapD := ⟨0, zeros 16, zeros 32, 0, 0, 0, []⟩
theorem zeros_bytes (n : Nat) : Bytes (zeros n) := fun x hx => by
 obtain rfl := List.eq_of_mem_replicate hx
 omega
theorem CapD.none_wf : CapD.none_.Wf := ⟨rfl, zeros_bytes 16, rfl, zeros_bytes 32, fun x hx => by cases hx⟩

/-- May there be such a one? -/
def CapD.Valid (c : CapD) : Prop :=
 ((c.kind = 1 ∨ c.kind = 2) ∧ 1 ≤ c.K ∧ c.K ≤ c.N ∧ c.N ≤ 16 ∧ 1 ≤ c.S ∧ c.S ≤ 1024 ∧ c.lit.length = 0) ∨
 (c.kind = 3 ∧ c.lit.length ≤ 64 ∧ c.key = zeros 16 ∧ c.fp = zeros 32 ∧ c.K = 0 ∧ c.N = 0 ∧ c.S = 0) ∨
 (4 ≤ c.kind ∧ c.kind ≤ 9 ∧ c.K = 0 ∧ c.N = 0 ∧ c.S = 0 ∧ c.lit.length = 0)
instance (c : CapD) : Decidable c.Valid := by unfold CapD.Valid; infer_instance

/-- The kinds' words. -/
def wordL : Nat → List Int
 | 1 => [102, 105, 108, 101]
 | 2 => [102, 105, 108, 101, 45, 118, 101, 114, 105, 102, 121]
 | 3 => [108, 105, 116]
 | 4 => [115, 108, 111, 116]
 | 5 => [115, 108, 111, 116, 45, 114, 101, 97, 100]
 | 6 => [115, 108, 111, 116, 45, 118, 101, 114, 105, 102, 121]
 | 7 => [100, 105, 114]
 | 8 => [100, 105, 114, 45, 114, 101, 97, 100]
 | 9 => [100, 105, 114, 45, 118, 101, 114, 105, 102, 121]
 | _ => []

/-- The text. -/
def printF (c : CapD) : List Int :=
 [97, 117, 58] ++ (wordL c.kind.toNat ++ (58 :: (if c.kind = 3 then b32F c.lit else
  b32F c.key ++ (58 :: (b32F c.fp ++ (if c.kind ≤ 2 then 58 :: (digB c.K.toNat ++ (58 :: (digB c.N.toNat ++ (58 :: digB c.S.toNat)))) else []))))))

/-- A text's parts between colons. -/
def splitF : List Int → List (List Int)
 | [] => [[]]
 | c :: cs => if c = 58 then [] :: splitF cs else match splitF cs with
  | [] => [[c]]
  | p :: ps => (c :: p) :: ps
theorem splitF_none {a : List Int} (h : ∀ x ∈ a, x ≠ 58) : splitF a = [a] := by
 induction a with
 | nil => rfl
 | cons c cs ih => rw [splitF, if_neg (h c (by simp)), ih (fun x hx => h x (by simp [hx]))]
theorem splitF_cons {a b : List Int} (h : ∀ x ∈ a, x ≠ 58) : splitF (a ++ 58 :: b) = a :: splitF b := by
 induction a with
 | nil => simp [splitF]
 | cons c cs ih =>
  rw [List.cons_append, splitF, if_neg (h c (by simp)), ih (fun x hx => h x (by simp [hx]))]

/-- Which kind has this word (0: none)? -/
def kindF (p : List Int) : Int :=
 if p = wordL 1 then 1 else if p = wordL 2 then 2 else if p = wordL 3 then 3 else if p = wordL 4 then 4 else if p = wordL 5 then 5 else if p = wordL 6 then 6 else if p = wordL 7 then 7 else if p = wordL 8 then 8 else if p = wordL 9 then 9 else 0

/-- Digits as a number. -/
def numD (n : Int) (s : List Int) : Int := s.foldl (fun n c => 10 * n + c - 48) n

theorem wordL_ok : ∀ k : Fin 10, ∀ x ∈ wordL k.val, x ≠ 58 ∧ 0 ≤ x ∧ x < 256 := by decide
theorem kindF_word : ∀ k : Fin 9, kindF (wordL (k.val + 1)) = ((k.val + 1 : Nat) : Int) := by decide
theorem ltr_colon {k : Nat} (h : k < 32) : ltr k ≠ 58 := by unfold ltr; split <;> omega
theorem b32F_colon (b : List Int) : ∀ x ∈ b32F b, x ≠ 58 := fun x hx => by
 unfold b32F at hx
 rw [b32_kv] at hx
 obtain ⟨k, hk, rfl⟩ := List.mem_map.1 hx
 exact ltr_colon (kv_lt _ _ _ _ hk)
theorem digB_digit : ∀ (n : Nat), ∀ x ∈ digB n, 48 ≤ x ∧ x < 58
 | n, x, hx => by
  by_cases h : n < 10
  · rw [digB_one h] at hx
    simp at hx
    omega
  · rw [digB_more h, List.mem_append] at hx
    rcases hx with hx | hx
    · exact digB_digit (n / 10) x hx
    · simp at hx
      omega
termination_by n => n
decreasing_by omega
theorem digB_colon (n : Nat) : ∀ x ∈ digB n, x ≠ 58 := fun x hx => by
 have := digB_digit n x hx
 omega
theorem numD_digB : ∀ (n : Nat), numD 0 (digB n) = (n : Int)
 | n => by
  by_cases h : n < 10
  · rw [digB_one h]
    simp [numD]
    omega
  · have ih := numD_digB (n / 10)
    rw [digB_more h, numD, List.foldl_append]
    unfold numD at ih
    rw [ih]
    simp
    omega
termination_by n => n
decreasing_by omega
theorem digB_short : ∀ (k n : Nat), n < 10 ^ (k + 1) → (digB n).length ≤ k + 1
 | 0, n, h => by rw [digB_one (by omega)]; simp
 | k + 1, n, h => by
  by_cases h2 : n < 10
  · rw [digB_one h2]; simp
  · rw [digB_more h2, List.length_append]
    have := digB_short k (n / 10) (by rw [Nat.pow_succ] at h; omega)
    simp
    omega

/-- A small number, as the program reads it. -/
def numP (s : List Int) : Int := numD 0 (s.take 5)
theorem numP_digB {n : Nat} (h : n ≤ 1024) : numP (digB n) = (n : Int) := by
 rw [numP, List.take_of_length_le (by have := digB_short 3 n (by omega); omega), numD_digB]
/-- What the program takes a text for, ahead of its last look. -/
def candP (s : List Int) : Option CapD :=
 let l := splitF s
 if l.length < 3 then none else
 (bytes32F (l.getD 2 [])).bind fun a =>
  if kindF (l.getD 1 []) = 3 then some ⟨3, zeros 16, zeros 32, 0, 0, 0, a⟩ else
  if l.length > 3 then
   (bytes32F (l.getD 3 [])).bind fun b => if a.length = 16 ∧ b.length = 32 then
    (if l.length = 7 then some ⟨kindF (l.getD 1 []), a, b, numP (l.getD 4 []), numP (l.getD 5 []), numP (l.getD 6 []), []⟩
     else some ⟨kindF (l.getD 1 []), a, b, 0, 0, 0, []⟩) else none
  else some ⟨kindF (l.getD 1 []), zeros 16, zeros 32, 0, 0, 0, []⟩
theorem split_print {c : CapD} (hv : c.Valid) : splitF (printF c) =
 if c.kind = 3 then [[97, 117], wordL c.kind.toNat, b32F c.lit] else
 if c.kind ≤ 2 then [[97, 117], wordL c.kind.toNat, b32F c.key, b32F c.fp, digB c.K.toNat, digB c.N.toNat, digB c.S.toNat] else
 [[97, 117], wordL c.kind.toNat, b32F c.key, b32F c.fp] := by
 have hk : c.kind.toNat < 10 := by unfold CapD.Valid at hv; omega
 have hw : ∀ x ∈ wordL c.kind.toNat, x ≠ 58 := fun x hx => (wordL_ok ⟨_, hk⟩ x hx).1
 have h0 : ∀ r : List Int, splitF ([97, 117, 58] ++ r) = [97, 117] :: splitF r := fun r => splitF_cons (a := [97, 117]) (b := r) (by simp)
 rw [printF, h0, splitF_cons hw]
 by_cases h3 : c.kind = 3
 · rw [if_pos h3, if_pos h3, splitF_none (b32F_colon _)]
 · rw [if_neg h3, if_neg h3, splitF_cons (b32F_colon _)]
   by_cases h2 : c.kind ≤ 2
   · rw [if_pos h2, if_pos h2, splitF_cons (b32F_colon _), splitF_cons (digB_colon _), splitF_cons (digB_colon _), splitF_none (digB_colon _)]
   · rw [if_neg h2, if_neg h2, List.append_nil, splitF_none (b32F_colon _)]

theorem kind_of {c : CapD} (hv : c.Valid) : kindF (wordL c.kind.toNat) = c.kind := by
 have hk : 1 ≤ c.kind ∧ c.kind ≤ 9 := by unfold CapD.Valid at hv; omega
 have := kindF_word ⟨c.kind.toNat - 1, by omega⟩
 simp only at this
 rw [Nat.sub_add_cancel (by omega)] at this
 rw [this]
 omega

theorem cand_print {c : CapD} (hw : c.Wf) (hv : c.Valid) : candP (printF c) = some c := by
 have hs := split_print hv
 have hk := kind_of hv
 obtain ⟨kind, key, fp, K, N, S, lit⟩ := c
 simp only at hs hk
 unfold candP
 by_cases h3 : kind = 3
 · rw [if_pos h3] at hs
   rw [hs]
   simp only [List.getD_cons_succ, List.getD_cons_zero, hk, bytes32_b32 lit hw.litB]
   rw [if_neg (by simp), Option.bind_some, if_pos h3]
   unfold CapD.Valid at hv
   simp only at hv
   rcases hv with hv | hv | hv
   · omega
   · obtain ⟨_, _, rfl, rfl, rfl, rfl, rfl⟩ := hv
     rw [h3]
   · omega
 · rw [if_neg h3] at hs
   have hl : lit = [] := by
    unfold CapD.Valid at hv
    simp only at hv
    rcases hv with hv | hv | hv
    · exact List.eq_nil_of_length_eq_zero hv.2.2.2.2.2.2
    · exact absurd hv.1 h3
    · exact List.eq_nil_of_length_eq_zero hv.2.2.2.2.2
   subst hl
   have hkl := hw.keyL
   have hfl := hw.fpL
   simp only at hkl hfl
   by_cases h2 : kind ≤ 2
   · rw [if_pos h2] at hs
     rw [hs]
     unfold CapD.Valid at hv
     simp only at hv
     simp only [List.getD_cons_succ, List.getD_cons_zero, hk, bytes32_b32 key hw.keyB, bytes32_b32 fp hw.fpB]
     rw [if_neg (by simp), Option.bind_some, if_neg h3, if_pos (by simp), Option.bind_some, if_pos ⟨hkl, hfl⟩, if_pos (by simp)]
     rw [numP_digB (by omega), numP_digB (by omega), numP_digB (by omega), Int.toNat_of_nonneg (by omega), Int.toNat_of_nonneg (by omega), Int.toNat_of_nonneg (by omega)]
   · rw [if_neg h2] at hs
     rw [hs]
     simp only [List.getD_cons_succ, List.getD_cons_zero, hk, bytes32_b32 key hw.keyB, bytes32_b32 fp hw.fpB]
     rw [if_neg (by simp), Option.bind_some, if_neg h3, if_pos (by simp), Option.bind_some, if_pos ⟨hkl, hfl⟩, if_neg (by simp)]
     unfold CapD.Valid at hv
     simp only at hv
     obtain ⟨rfl, rfl, rfl⟩ : K = 0 ∧ N = 0 ∧ S = 0 := by omega
     rfl
theorem printF_bytes {c : CapD} (hv : c.Valid) : Bytes (printF c) := by
 have hk : c.kind.toNat < 10 := by unfold CapD.Valid at hv; omega
 have hw : Bytes (wordL c.kind.toNat) := fun x hx => (wordL_ok ⟨_, hk⟩ x hx).2
 have cons : ∀ {xs : List Int}, Bytes xs → Bytes (58 :: xs) := fun {xs} h x hx => by
  rcases List.mem_cons.1 hx with rfl | hx
  · omega
  · exact h x hx
 have app : ∀ {xs ys : List Int}, Bytes xs → Bytes ys → Bytes (xs ++ ys) := fun {xs ys} h1 h2 x hx => (List.mem_append.1 hx).elim (h1 x) (h2 x)
 unfold printF
 refine app (by intro x hx; simp at hx; omega) (app hw (cons ?_))
 split
 · exact b32F_bytes _
 · refine app (b32F_bytes _) (cons (app (b32F_bytes _) ?_))
   split
   · exact cons (app (digB_bytes _) (cons (app (digB_bytes _) (cons (digB_bytes _)))))
   · intro x hx; cases hx

theorem by32_bytes : ∀ (ks : List Nat) (g m : Nat), Bytes (by32 g m ks)
 | [], g, m => fun x hx => by simp [by32] at hx
 | k :: ks, g, m => fun x hx => by
  rw [by32] at hx
  split at hx
  · rcases List.mem_cons.1 hx with rfl | hx
    · omega
    · exact by32_bytes ks _ _ x hx
  · exact by32_bytes ks _ _ x hx
theorem bytes32_bytes {s b : List Int} (h : bytes32F s = some b) : Bytes b := by
 unfold bytes32F at h
 obtain ⟨ks, _, h2⟩ := Option.bind_eq_some_iff.1 h
 split at h2
 · injection h2 with h2; rw [← h2]; exact by32_bytes ks 0 0
 · cases h2
theorem candP_wf {s : List Int} {c : CapD} (h : candP s = some c) : c.Wf := by
 have z16 := zeros_bytes 16
 have z32 := zeros_bytes 32
 have e0 : Bytes [] := fun x hx => by cases hx
 unfold candP at h
 simp only at h
 split at h
 · cases h
 · obtain ⟨a, ha, h⟩ := Option.bind_eq_some_iff.1 h
   have hab := bytes32_bytes ha
   split at h
   · cases h; exact ⟨rfl, z16, rfl, z32, hab⟩
   · split at h
     · obtain ⟨b, hb, h⟩ := Option.bind_eq_some_iff.1 h
       have hbb := bytes32_bytes hb
       split at h
       · next hl =>
         split at h
         · cases h; exact ⟨hl.1, hab, hl.2, hbb, e0⟩
         · cases h; exact ⟨hl.1, hab, hl.2, hbb, e0⟩
       · cases h
     · cases h; exact ⟨rfl, z16, rfl, z32, e0⟩

/-- The last look. -/
def pick (o : Option CapD) (s : List Int) : Option CapD := o.bind fun c => if c.Valid ∧ printF c = s then some c else none
/-- The capability of a text. -/
def parseF (s : List Int) : Option CapD := pick (candP s) s
theorem parse_iff (s : List Int) (c : CapD) : parseF s = some c ↔ c.Wf ∧ c.Valid ∧ printF c = s := by
 unfold parseF pick
 constructor
 · intro h
   obtain ⟨d, hd, h⟩ := Option.bind_eq_some_iff.1 h
   split at h
   · next hh => cases h; exact ⟨candP_wf hd, hh.1, hh.2⟩
   · cases h
 · rintro ⟨hw, hv, rfl⟩
   rw [cand_print hw hv, Option.bind_some, if_pos ⟨hv, rfl⟩]
end Go.Proofs.YthdjgebbjogmiaaDoor

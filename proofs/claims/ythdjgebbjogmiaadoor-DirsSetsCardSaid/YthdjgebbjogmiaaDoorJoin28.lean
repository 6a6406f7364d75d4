/- The hash of bytes, as a function of its own: words, rounds, blocks. No program in sight.
The hash of a text, as a function of its own: blocks, what is set behind the text, the words' bytes. No program in sight. -/
import Derived.Test.YthdjgebbjogmiaaDoorShaOps
import Derived.Test.YthdjgebbjogmiaaDoorJoin26
set_option linter.unusedVariables false
set_option linter.unusedSimpArgs false
namespace Go.Proofs.YthdjgebbjogmiaaDoor
open Go Go.RowKit
set_option maxRecDepth 100000

def z32 (n : Nat) : List Int := List.replicate n 0
/-- The i-th word of a block. -/
def wordN (b : List Int) (i : Nat) : Int :=
 or32 (or32 (or32 (IntKind.u32.wrap (IntKind.u32.wrap (b.getD (4 * i) 0) * 16777216)) (IntKind.u32.wrap (IntKind.u32.wrap (b.getD (4 * i + 1) 0) * 65536))) (IntKind.u32.wrap (IntKind.u32.wrap (b.getD (4 * i + 2) 0) * 256))) (IntKind.u32.wrap (b.getD (4 * i + 3) 0))
def sig0 (x : Int) : Int := xor32 (xor32 (rotF x 7) (rotF x 18)) (x / 8)
def sig1 (y : Int) : Int := xor32 (xor32 (rotF y 17) (rotF y 19)) (y / 1024)
def extN (ws : List Int) (i : Nat) : Int := add32 (add32 (add32 (ws.getD (i - 16) 0) (sig0 (ws.getD (i - 15) 0))) (ws.getD (i - 7) 0)) (sig1 (ws.getD (i - 2) 0))
/-- The first i words of a block's schedule. -/
def schedN (b : List Int) : Nat → List Int
 | 0 => z32 64
 | i + 1 => (schedN b i).set i (if i < 16 then wordN b i else extN (schedN b i) i)
theorem schedN_len (b : List Int) : ∀ i, (schedN b i).length = 64
 | 0 => by simp [schedN, z32]
 | i + 1 => by rw [schedN, List.length_set, schedN_len b i]
def eSig (e : Int) : Int := xor32 (xor32 (rotF e 6) (rotF e 11)) (rotF e 25)
def aSig (a : Int) : Int := xor32 (xor32 (rotF a 2) (rotF a 13)) (rotF a 22)
def chF (e f g : Int) : Int := xor32 (and32 e f) (and32 (not32 e) g)
def majF (a b c : Int) : Int := xor32 (xor32 (and32 a b) (and32 a c)) (and32 b c)
def tF (v : List Int) (k w : Int) : Int := add32 (add32 (add32 (add32 (v.getD 7 0) (eSig (v.getD 4 0))) (chF (v.getD 4 0) (v.getD 5 0) (v.getD 6 0))) k) w
def roundF (v : List Int) (k w : Int) : List Int :=
 [add32 (add32 (tF v k w) (aSig (v.getD 0 0))) (majF (v.getD 0 0) (v.getD 1 0) (v.getD 2 0)), v.getD 0 0, v.getD 1 0, v.getD 2 0, add32 (v.getD 3 0) (tF v k w), v.getD 4 0, v.getD 5 0, v.getD 6 0]
/-- The state behind i rounds. -/
def vN (h ks ws : List Int) : Nat → List Int
 | 0 => h
 | i + 1 => roundF (vN h ks ws i) (ks.getD i 0) (ws.getD i 0)
theorem vN_len (h ks ws : List Int) (hh : h.length = 8) : ∀ i, (vN h ks ws i).length = 8
 | 0 => hh
 | i + 1 => rfl
/-- The first i words added. -/
def hN (h v : List Int) : Nat → List Int
 | 0 => h
 | i + 1 => (hN h v i).set i (add32 ((hN h v i).getD i 0) (v.getD i 0))
theorem hN_len (h v : List Int) : ∀ i, (hN h v i).length = h.length
 | 0 => rfl
 | i + 1 => by rw [hN, List.length_set, hN_len h v i]
/-- A block mixed in. -/
def mixF (ks h b : List Int) : List Int := hN h (vN h ks (schedN b 64) 64) 8
theorem mixF_len (ks h b : List Int) (hh : h.length = 8) : (mixF ks h b).length = 8 := by rw [mixF, hN_len, hh]
end Go.Proofs.YthdjgebbjogmiaaDoor

namespace Go.Proofs.YthdjgebbjogmiaaDoor
open Go Go.RowKit
set_option maxRecDepth 100000

theorem getD_take_lt (b : List Int) {n j : Nat} (h : j < n) : (b.take n).getD j 0 = b.getD j 0 := by
 rw [List.getD_eq_getElem?_getD, List.getD_eq_getElem?_getD, List.getElem?_take, if_pos h]
theorem wordN_take (b : List Int) {i : Nat} (h : i < 16) : wordN (b.take 64) i = wordN b i := by
 unfold wordN
 rw [getD_take_lt b (by omega), getD_take_lt b (by omega), getD_take_lt b (by omega), getD_take_lt b (by omega)]
theorem schedN_take (b : List Int) : ∀ i, schedN (b.take 64) i = schedN b i
 | 0 => rfl
 | i + 1 => by
  rw [schedN, schedN, schedN_take b i]
  split
  · rw [wordN_take b (by omega)]
  · rfl
theorem mixF_take (ks h b : List Int) : mixF ks h (b.take 64) = mixF ks h b := by
 unfold mixF
 rw [schedN_take]
/-- The state behind i blocks. -/
def blocksN (ks h m : List Int) : Nat → List Int
 | 0 => h
 | i + 1 => mixF ks (blocksN ks h m i) (m.drop (64 * i))
theorem blocksN_len (ks h m : List Int) (hh : h.length = 8) : ∀ i, (blocksN ks h m i).length = 8
 | 0 => hh
 | i + 1 => mixF_len _ _ _ (blocksN_len ks h m hh i)
theorem blocksN_same (ks h m b : List Int) (k : Nat) (hm : m.take (64 * k) = b.take (64 * k)) : ∀ i, i ≤ k → blocksN ks h m i = blocksN ks h b i
 | 0, _ => rfl
 | i + 1, hi => by
  rw [blocksN, blocksN, blocksN_same ks h m b k hm i (by omega), ← mixF_take ks _ (m.drop (64 * i)), ← mixF_take ks _ (b.drop (64 * i))]
  have h1 : ∀ l : List Int, (l.drop (64 * i)).take 64 = ((l.take (64 * k)).drop (64 * i)).take 64 := by
   intro l
   rw [List.drop_take, List.take_take, Nat.min_eq_left (by omega)]
  rw [h1 m, h1 b, hm]
theorem blocksN_add (ks h m : List Int) (k : Nat) : ∀ i, blocksN ks h m (k + i) = blocksN ks (blocksN ks h m k) (m.drop (64 * k)) i
 | 0 => rfl
 | i + 1 => by
  rw [← Nat.add_assoc, blocksN, blocksN, blocksN_add ks h m k i, List.drop_drop]
  congr 2
  omega
/-- How many noughts lie between the text's end and its length. -/
def zc (n : Nat) : Nat := (119 - n % 64) % 64
theorem zc_ends (n : Nat) : (n + 1 + zc n) % 64 = 56 := by unfold zc; omega
theorem zc_before (n j : Nat) (h : j < zc n) : (n + 1 + j) % 64 ≠ 56 := by unfold zc at h; omega
theorem zc_lt (n : Nat) : zc n < 64 := by unfold zc; omega
theorem zc_mod (n : Nat) : zc (n % 64) = zc n := by unfold zc; omega
/-- What is set behind a text of n bytes. -/
def tailF (n : Nat) : List Int := 128 :: List.replicate (zc n) 0 ++ putF (IntKind.i64.wrap (8 * (n : Int))) 8
theorem tailF_len (n : Nat) : (tailF n).length = 9 + zc n := by
 unfold tailF putF
 rw [List.length_append, List.length_cons, List.length_replicate, putN_len]
 show zc n + 1 + 8 = _
 omega
theorem tailF_bytes (n : Nat) : Bytes (tailF n) := by
 unfold tailF
 refine Bytes.app (fun x hx => ?_) (putF_bytes _ _)
 rcases List.mem_cons.1 hx with rfl | hx
 · omega
 · exact bytes_rep _ x hx
def padF (b : List Int) : List Int := b ++ tailF b.length
theorem padF_len (b : List Int) : (padF b).length = 64 * ((b.length + 72) / 64) := by
 unfold padF
 rw [List.length_append, tailF_len]
 unfold zc
 omega
/-- The words' bytes. -/
def outF (h : List Int) : List Int := h.flatMap fun x => putF x 4
def shaW (ks h b : List Int) : List Int := blocksN ks h (padF b) ((b.length + 72) / 64)
/-- In two steps: the blocks of the text, then those of what is left and what is set behind it. -/
theorem shaW_steps (ks h b : List Int) : shaW ks h b = blocksN ks (blocksN ks h b (b.length / 64)) (b.drop (64 * (b.length / 64)) ++ tailF b.length) (((b.drop (64 * (b.length / 64))).length + 72) / 64) := by
 unfold shaW
 have hl : (b.drop (64 * (b.length / 64))).length = b.length % 64 := by rw [List.length_drop]; omega
 rw [hl, show (b.length + 72) / 64 = b.length / 64 + (b.length % 64 + 72) / 64 by omega, blocksN_add]
 have h1 : blocksN ks h (padF b) (b.length / 64) = blocksN ks h b (b.length / 64) :=
  blocksN_same ks h (padF b) b (b.length / 64) (by unfold padF; rw [List.take_append_of_le_length (by omega)]) _ (Nat.le_refl _)
 rw [h1]
 unfold padF
 rw [List.drop_append_of_le_length (by omega)]
theorem add32_nn (a b : Int) : 0 ≤ add32 a b ∧ add32 a b < 4294967296 := by
 have : add32 a b = (a + b) % 4294967296 := by
  unfold add32
  exact IntKind.wrap_u32 _
 omega
theorem add32_assoc (a b c : Int) : add32 (add32 a b) c = add32 a (add32 b c) := by
 have h : ∀ a b : Int, add32 a b = (a + b) % 4294967296 := by
  intro a b
  unfold add32
  exact IntKind.wrap_u32 _
 simp only [h]
 omega
theorem hN_words (h v : List Int) (hh : h.length = 8) : ∀ i, i ≤ 8 → ∀ j, j < i → 0 ≤ (hN h v i).getD j 0 ∧ (hN h v i).getD j 0 < 4294967296
 | 0, _, j, hj => absurd hj (by omega)
 | i + 1, hi, j, hj => by
  have hl : (hN h v i).length = 8 := (hN_len h v i).trans hh
  rw [hN]
  by_cases e : j = i
  · subst e
    rw [List.getD_eq_getElem?_getD, List.getElem?_set_self (by omega)]
    exact add32_nn _ _
  · rw [List.getD_eq_getElem?_getD, List.getElem?_set_ne (by omega), ← List.getD_eq_getElem?_getD]
    exact hN_words h v hh i (by omega) j (by omega)
theorem mixF_words (ks h b : List Int) (hh : h.length = 8) : ∀ x ∈ mixF ks h b, 0 ≤ x ∧ x < 4294967296 := by
 intro x hx
 obtain ⟨j, hj, rfl⟩ := List.getElem_of_mem hx
 have hl : (mixF ks h b).length = 8 := mixF_len _ _ _ hh
 have := hN_words h (vN h ks (schedN b 64) 64) hh 8 (by omega) j (by omega)
 have e : (mixF ks h b).getD j 0 = (mixF ks h b)[j] := by rw [List.getD_eq_getElem?_getD, List.getElem?_eq_getElem hj]; rfl
 rw [← e]
 exact this
theorem shaW_len (ks h b : List Int) (hh : h.length = 8) : (shaW ks h b).length = 8 := blocksN_len _ _ _ hh _
theorem putF_len4 (x : Int) : (putF x 4).length = 4 := by
 unfold putF
 rw [putN_len]
 decide
theorem outF_len (h : List Int) : (outF h).length = 4 * h.length := by
 induction h with
 | nil => rfl
 | cons x xs ih =>
  rw [outF, List.flatMap_cons, List.length_append, putF_len4, List.length_cons]
  rw [outF] at ih
  omega
theorem outF_bytes (h : List Int) : Bytes (outF h) := by
 intro x hx
 obtain ⟨y, _, hy⟩ := List.mem_flatMap.1 hx
 exact putF_bytes _ _ x hy
/-- The bytes of a word that is one. -/
theorem putF_word (x : Int) (h0 : 0 ≤ x) : putF x 4 = [x / 16777216 % 256, x / 65536 % 256, x / 256 % 256, x % 256] := by
 obtain ⟨n, rfl⟩ := Int.eq_ofNat_of_zero_le h0
 unfold putF
 have e : (max 0 (n : Int)).toNat = n := by omega
 have e4 : wid 4 = 4 := by decide
 rw [e, e4]
 unfold putN
 simp [List.range_succ]
end Go.Proofs.YthdjgebbjogmiaaDoor

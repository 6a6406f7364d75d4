/- Directories as plain laws: which entries may be, an entry more, one less, one found. No program in sight.
An entry that may be, in plain words. No program in sight.
aes.twice, aes.xor. No condition.
aes.box: the plain law of the table, and the rotations.
ref.twice, ref.boxes: the same doubling, and the table by powers and logarithms. -/
import Derived.Test.YthdjgebbjogmiaaDoorJoin1
import Derived.Test.YthdjgebbjogmiaaDoorJoin12
import Derived.Test.YthdjgebbjogmiaaDoorRows
import Derived.RegionTactic
import Derived.BigRegion
import Derived.BigQuiet
import Derived.Deep.QuietTactic
import Derived.Deep.LoopGhost
set_option linter.unusedVariables false
set_option linter.unusedSimpArgs false
namespace Go.Proofs.YthdjgebbjogmiaaDoor
open Go Go.RowKit
set_option maxRecDepth 100000
set_option linter.unusedVariables false
/-- May there be such an entry? -/
def oneB (e : EntD) : Bool := decide (1 ≤ e.name.length ∧ e.name.length ≤ 64) && (decide e.read.Valid && (!writeF e.read && (if e.has then (writeF e.write && sameF (roF e.write) e.read) else sameF e.write CapD.none_)))
/-- Does a name stand behind the one ahead? -/
def headG : Option (List Int) → List Int → Bool
 | none, _ => true
 | some p, n => ltL p n
def rightG : Option (List Int) → List EntD → Bool
 | _, [] => true
 | p, e :: l => oneB e && (headG p e.name && rightG (some e.name) l)
/-- May there be such a directory? -/
def rightB (l : List EntD) : Bool := rightG none l && decide (l.length ≤ 16)
def Rise (l : List EntD) : Prop := l.Pairwise fun a b => ltL a.name b.name = true
theorem rightG_iff : ∀ (l : List EntD) (p : Option (List Int)), rightG p l = true ↔ (∀ e ∈ l, oneB e = true) ∧ Rise l ∧ ∀ n, p = some n → ∀ e ∈ l, ltL n e.name = true
 | [], p => by simp [rightG, Rise]
 | e :: l, p => by
  rw [rightG]
  simp only [Bool.and_eq_true]
  rw [rightG_iff l (some e.name)]
  unfold Rise
  rw [List.pairwise_cons]
  constructor
  · rintro ⟨h1, h2, h3, h4, h5⟩
    refine ⟨fun x hx => ?_, ⟨fun x hx => h5 _ rfl x hx, h4⟩, fun n hn x hx => ?_⟩
    · rcases List.mem_cons.1 hx with rfl | hx
      · exact h1
      · exact h3 x hx
    · subst hn
      replace h2 : ltL n e.name = true := h2
      rcases List.mem_cons.1 hx with rfl | hx
      · exact h2
      · exact ltL_trans h2 (h5 _ rfl x hx)
  · rintro ⟨h1, ⟨h2, h3⟩, h4⟩
    refine ⟨h1 e List.mem_cons_self, ?_, fun x hx => h1 x (List.mem_cons_of_mem _ hx), h3, fun n hn x hx => by injection hn with hn; subst hn; exact h2 x hx⟩
    cases p with
    | none => rfl
    | some n => exact h4 n rfl e List.mem_cons_self
theorem rightB_iff (l : List EntD) : rightB l = true ↔ (∀ e ∈ l, oneB e = true) ∧ Rise l ∧ l.length ≤ 16 := by
 unfold rightB
 rw [Bool.and_eq_true, rightG_iff, decide_eq_true_eq]
 constructor
 · rintro ⟨⟨h1, h2, _⟩, h3⟩; exact ⟨h1, h2, h3⟩
 · rintro ⟨h1, h2, h3⟩; exact ⟨⟨h1, h2, fun n hn => by cases hn⟩, h3⟩
/-- With an entry: as the loops do it. -/
def insG (e : EntD) : Bool → List EntD → List EntD
 | put, [] => if put then [] else [e]
 | put, x :: l => (if !put && !(ltL x.name e.name) then [e] else []) ++ ((if x.name = e.name then [] else [x]) ++ insG e (put || !(ltL x.name e.name)) l)
theorem Rise.filter {l : List EntD} (h : Rise l) (p : EntD → Bool) : Rise (l.filter p) := List.Pairwise.filter p h
/-- Without a name. -/
def remL (l : List EntD) (n : List Int) : List EntD := l.filter fun x => decide (x.name ≠ n)
/-- The entry of a name. -/
def findL (l : List EntD) (n : List Int) : Option EntD := l.find? fun x => decide (x.name = n)
end Go.Proofs.YthdjgebbjogmiaaDoor

namespace Go.Proofs.YthdjgebbjogmiaaDoor
open Go Go.RowKit
set_option maxRecDepth 100000
theorem valid_of_write {c : CapD} (h : writeF c = true) : c.Valid := by
 unfold writeF at h
 rw [Bool.and_eq_true] at h
 exact of_decide_eq_true h.1
/-- An entry that may be, in plain words. -/
theorem oneB_iff (e : EntD) : oneB e = true ↔ (1 ≤ e.name.length ∧ e.name.length ≤ 64) ∧ e.read.Valid ∧ writeF e.read = false ∧ (e.has = true → writeF e.write = true ∧ roF e.write = e.read) ∧ (e.has = false → e.write = CapD.none_) := by
 unfold oneB
 rw [Bool.and_eq_true, Bool.and_eq_true, Bool.and_eq_true, decide_eq_true_eq, decide_eq_true_eq]
 cases e.has <;> simp [sameF_iff]
end Go.Proofs.YthdjgebbjogmiaaDoor

namespace Go.Proofs.YthdjgebbjogmiaaDoor
open Go Go.RowKit
set_option maxRecDepth 100000

def X8 (a b : Int) : Int := bits .xor .u8 a b
theorem x8_nat (a b : Nat) (ha : a < 256) (hb : b < 256) : X8 (a : Int) (b : Int) = ((a ^^^ b : Nat) : Int) := by
 have hx : a ^^^ b < 2 ^ 8 := Nat.xor_lt_two_pow (by omega) (by omega)
 have e : ∀ n : Nat, n < 256 → (BitVec.ofInt 8 (n : Int)).toNat = n := fun n hn => by
  rw [BitVec.ofInt_natCast, BitVec.toNat_ofNat]; exact Nat.mod_eq_of_lt (by omega)
 show IntKind.u8.wrap ((BitVec.ofInt 8 (a : Int) ^^^ BitVec.ofInt 8 (b : Int)).toNat : Int) = _
 rw [BitVec.toNat_xor, e a ha, e b hb, IntKind.wrap_u8]
 omega
theorem x8_byte {a b : Int} (ha : 0 ≤ a ∧ a < 256) (hb : 0 ≤ b ∧ b < 256) : 0 ≤ X8 a b ∧ X8 a b < 256 := by
 obtain ⟨a, rfl⟩ := Int.eq_ofNat_of_zero_le ha.1
 obtain ⟨b, rfl⟩ := Int.eq_ofNat_of_zero_le hb.1
 rw [x8_nat a b (by omega) (by omega)]
 have hx : a ^^^ b < 2 ^ 8 := Nat.xor_lt_two_pow (by omega) (by omega)
 omega

/-- Times x. -/
def tw (a : Int) : Int := if (bits .and .u8 a 128 != 0) = true then X8 (a * 2 % 256) 27 else a * 2 % 256
theorem tw_byte {a : Int} (ha : 0 ≤ a ∧ a < 256) : 0 ≤ tw a ∧ tw a < 256 := by
 unfold tw
 split
 · exact x8_byte (by omega) (by omega)
 · omega

set_option maxHeartbeats 400000 in
theorem twice_any (a : Int) (w : World) (h0 : 0 ≤ a) (h1 : a < 256) :
 Calls Tryd.prog 96 #[.int .u8 a] w fun e w' => e = .returned (.int .u8 (tw a)) ∧ w = w' := by
 have H := hide (show tw a = if (bits .and .u8 a 128 != 0) = true then X8 (a * 2 % 256) 27 else a * 2 % 256 from rfl)
 go_enter Tryd.func96, Tryd.ntmps96
 go_wp2
 · go_ret
   exact ⟨by rw [H.out, if_pos (by assumption)]; rfl, rfl⟩
 · go_ret
   have h : (bits .and .u8 a 128 != 0) = false := by assumption
   exact ⟨by rw [H.out, h]; rfl, rfl⟩

theorem ext_getD {xs ys : List Int} (hl : xs.length = ys.length) (h : ∀ j, j < xs.length → xs.getD j 0 = ys.getD j 0) : xs = ys :=
 List.ext_getElem hl fun j h1 h2 => by
  have := h j h1
  rwa [List.getD_eq_getElem?_getD, List.getD_eq_getElem?_getD, List.getElem?_eq_getElem h1, List.getElem?_eq_getElem h2] at this
theorem getD_set' (l : List Int) (i j : Nat) (a : Int) (h : i < l.length) : (l.set i a).getD j 0 = if i = j then a else l.getD j 0 := by
 rw [List.getD_eq_getElem?_getD, List.getElem?_set, List.getD_eq_getElem?_getD]
 split
 · rename_i e; subst e; simp [h]
 · rfl
theorem getD_el (l : List Int) (i : Nat) (h : i < l.length) : l.getD i 0 = l[i] := by
 rw [List.getD_eq_getElem?_getD, List.getElem?_eq_getElem h]; rfl

def xorF (a b : List Int) : List Int := List.zipWith X8 a b
theorem xorF_len (a b : List Int) (ha : a.length = 16) (hb : b.length = 16) : (xorF a b).length = 16 := by simp [xorF, ha, hb]
theorem xorF_get (a b : List Int) (j : Nat) (ha : j < a.length) (hb : j < b.length) : (xorF a b).getD j 0 = X8 (a.getD j 0) (b.getD j 0) := by
 rw [getD_el _ _ (by simp [xorF]; omega), getD_el _ _ ha, getD_el _ _ hb]
 simp [xorF]

set_option maxHeartbeats 1000000 in
theorem xor_any (a b : List Int) (w : World) (ha : a.length = 16) (hb : b.length = 16) (ba : Bytes a) (bb : Bytes b) :
 Calls Tryd.prog 98 #[.agg (u8s a).toArray, .agg (u8s b).toArray] w fun e w' => e = .returned (.agg (u8s (xorF a b)).toArray) ∧ Below w.heap.size w w' := by
 have HA := hide ha
 have HB := hide hb
 have BA := hide ba
 have BB := hide bb
 clear ha hb ba bb
 go_enter Tryd.func98, Tryd.ntmps98
 go_wp2_with fail
 go_loopw [5, 6] (fun _ i wr => ∃ (k : Nat) (xs : List Int), k ≤ 16 ∧ i = .int .i64 k ∧ xs.length = 16 ∧ (∀ j, j < 16 → xs.getD j 0 = if j < k then X8 (a.getD j 0) (b.getD j 0) else a.getD j 0) ∧
  Blk wr w.heap.size 22 (u8s xs) ∧ Blk wr (w.heap.size + 1) 22 (u8s b) ∧ Blk wr (w.heap.size + 1 + 1) 22 (u8s (List.replicate 16 0)) ∧ Below w.heap.size w wr) (fun _ i _ => 16 - (intOf i).toNat)
 case atStart =>
  have b1 := ((Blk.new w 22 (u8s a)).alloc (.cells (u8s b).toArray 22)).alloc (.cells (u8s (List.replicate 16 0)).toArray 22)
  have b2 := (Blk.new (w.alloc (.cells (u8s a).toArray 22)) 22 (u8s b)).alloc (.cells (u8s (List.replicate 16 0)).toArray 22)
  have b3 := Blk.new ((w.alloc (.cells (u8s a).toArray 22)).alloc (.cells (u8s b).toArray 22)) 22 (u8s (List.replicate 16 0))
  simp only [World.size_alloc] at b2 b3
  exact ⟨0, a, Nat.zero_le _, rfl, HA.out, fun j _ => by simp, b1, b2, b3, (((Below.refl w.heap.size w).alloc (Nat.le_refl _) _).alloc (by simp) _).alloc (by simp; omega) _⟩
 case round =>
  obtain ⟨k, xs, hk, rfl, hl, hx, b1, b2, b3, hbel⟩ := hrel
  have HL := hide hl
  have HX := hide hx
  have B1 := hide b1
  have B2 := hide b2
  have B3 := hide b3
  have HBel := hide hbel
  clear hl hx b1 b2 b3 hbel
  by_cases hkt : k < 16
  · have c1 := blk_u8 B1.out k (by rw [HL.out]; exact hkt)
    have c2 := blk_u8 B2.out k (by rw [HB.out]; exact hkt)
    have f1 := B1.out.frozen k
    have hk0 : (0 : Int) ≤ (k : Int) := by omega
    have hk1 : (k : Int) < 16 := by omega
    obtain ⟨x, HXk⟩ : ∃ x, Hid (xs[k]'(by rw [HL.out]; exact hkt) = x) := ⟨_, hide rfl⟩
    obtain ⟨y, HYk⟩ : ∃ y, Hid (b[k]'(by rw [HB.out]; exact hkt) = y) := ⟨_, hide rfl⟩
    rw [HXk.out] at c1
    rw [HYk.out] at c2
    go_wp2_with fail
    go_region
    all_goals
     go_wp2_with fail
     go_roundw
     case rel =>
      refine ⟨k + 1, xs.set k (X8 x y), by omega, by go_num, by simpa using HL.out, fun j hj => ?_, blk_set B1.out k _, (B2.out.far (p := ⟨w.heap.size, k, none⟩) (by simp) _), (B3.out.far (p := ⟨w.heap.size, k, none⟩) (by simp; omega) _), (HBel.out.setCell (by simp) _).drew⟩
      rw [getD_set' _ _ _ _ (by rw [HL.out]; exact hkt)]
      have hxj := HX.out j hj
      by_cases e : k = j
      · subst e
        rw [if_pos rfl, if_pos (by omega)]
        rw [if_neg (by omega), getD_el _ _ (by rw [HL.out]; exact hkt), HXk.out] at hxj
        rw [← hxj, getD_el b _ (by rw [HB.out]; exact hkt), HYk.out]
      · rw [if_neg e, hxj]
        by_cases h1 : j < k
        · rw [if_pos h1, if_pos (by omega)]
        · rw [if_neg h1, if_neg (by omega)]
     case measure => simp [intOf]; omega
  · have hx : xs = xorF a b := by
     refine ext_getD (by rw [HL.out, xorF_len a b HA.out HB.out]) fun j hj => ?_
     rw [HL.out] at hj
     rw [HX.out j hj, if_pos (by omega), xorF_get a b j (by rw [HA.out]; exact hj) (by rw [HB.out]; exact hj)]
    have HXX := hide hx
    have hi16 : (Tryd.prog.info? 22).map (·.size) = some (u8s xs).length := by rw [u8s_len, HL.out]; kernel_rfl
    have HI := hide hi16
    clear hx hi16
    go_wp2_with (first | (refine wpList_load_blk rfl 22 _ rfl _ rfl _ _ B1.out 16 5 rfl HI.out ?_) | (refine wpList_store_blk rfl 22 _ _ rfl _ 0 (u8s xs) rfl rfl _ _ B3.out (by rw [u8s_len, u8s_len, HL.out]; simp) HI.out (u8s_one _) ?_; intro w3 hB hg hs))
    have hB2 : Blk w3 (w.heap.size + 1 + 1) 22 (u8s xs) := by rw [lset_all _ _ (by rw [u8s_len, u8s_len, HL.out]; simp)] at hB; exact hB
    refine bodyPost_ret (v := .agg (u8s xs).toArray) (results_cell_row rfl _ _ (w.heap.size + 1 + 1) 22 _ (0, 0) _ rfl hB2 rfl rfl (by simpa using HI.out)) rfl ⟨by rw [HXX.out], HBel.out.grown hg HBel.out.size (by intro k hk; simp at hk; omega)⟩
end Go.Proofs.YthdjgebbjogmiaaDoor

namespace Go.Proofs.YthdjgebbjogmiaaDoor
open Go Go.RowKit
set_option maxRecDepth 100000

def rot1 (x : Int) : Int := bits .or .u8 (x * 2 % 256) (x / 128)
set_option maxHeartbeats 400000 in
theorem rot1_any (x : Int) (w : World) (h0 : 0 ≤ x) (h1 : x < 256) :
 Calls Tryd.prog 97 #[.int .u8 x, .int .i64 1] w fun e w' => e = .returned (.int .u8 (rot1 x)) ∧ w = w' := by
 have hk : bits BinOp.and IntKind.u64 1 7 = 1 := by decide
 go_enter Tryd.func97, Tryd.ntmps97
 go_wp2
 go_ret
 exact ⟨rfl, rfl⟩
def rot2 (x : Int) : Int := bits .or .u8 (x * 4 % 256) (x / 64)
set_option maxHeartbeats 400000 in
theorem rot2_any (x : Int) (w : World) (h0 : 0 ≤ x) (h1 : x < 256) :
 Calls Tryd.prog 97 #[.int .u8 x, .int .i64 2] w fun e w' => e = .returned (.int .u8 (rot2 x)) ∧ w = w' := by
 have hk : bits BinOp.and IntKind.u64 2 7 = 2 := by decide
 go_enter Tryd.func97, Tryd.ntmps97
 go_wp2
 go_ret
 exact ⟨rfl, rfl⟩
def rot3 (x : Int) : Int := bits .or .u8 (x * 8 % 256) (x / 32)
set_option maxHeartbeats 400000 in
theorem rot3_any (x : Int) (w : World) (h0 : 0 ≤ x) (h1 : x < 256) :
 Calls Tryd.prog 97 #[.int .u8 x, .int .i64 3] w fun e w' => e = .returned (.int .u8 (rot3 x)) ∧ w = w' := by
 have hk : bits BinOp.and IntKind.u64 3 7 = 3 := by decide
 go_enter Tryd.func97, Tryd.ntmps97
 go_wp2
 go_ret
 exact ⟨rfl, rfl⟩
def rot4 (x : Int) : Int := bits .or .u8 (x * 16 % 256) (x / 16)
set_option maxHeartbeats 400000 in
theorem rot4_any (x : Int) (w : World) (h0 : 0 ≤ x) (h1 : x < 256) :
 Calls Tryd.prog 97 #[.int .u8 x, .int .i64 4] w fun e w' => e = .returned (.int .u8 (rot4 x)) ∧ w = w' := by
 have hk : bits BinOp.and IntKind.u64 4 7 = 4 := by decide
 go_enter Tryd.func97, Tryd.ntmps97
 go_wp2
 go_ret
 exact ⟨rfl, rfl⟩

def boxP (p : Int) : Int := X8 p (tw p)
def boxQ1 (q : Int) : Int := X8 q (q * 2 % 256)
def boxQ2 (q : Int) : Int := X8 q (q * 4 % 256)
def boxQ3 (q : Int) : Int := X8 q (q * 16 % 256)
def boxQ4 (q : Int) : Int := if (bits .and .u8 q 128 != 0) = true then X8 q 9 else q
def boxQ (q : Int) : Int := boxQ4 (boxQ3 (boxQ2 (boxQ1 q)))
def boxX (q : Int) : Int := X8 (X8 (X8 (X8 (X8 q (rot1 q)) (rot2 q)) (rot3 q)) (rot4 q)) 99
def boxStep (s : Int × Int × List Int) : Int × Int × List Int :=
 let p := boxP s.1
 let q := boxQ s.2.1
 (p, q, s.2.2.set p.toNat (boxX q))
def boxS : Nat → Int × Int × List Int
 | 0 => (1, 1, List.replicate 256 0)
 | k + 1 => boxStep (boxS k)
theorem boxP_byte {p : Int} (h : 0 ≤ p ∧ p < 256) : 0 ≤ boxP p ∧ boxP p < 256 := x8_byte h (tw_byte h)
theorem boxQ4_byte {q : Int} (h : 0 ≤ q ∧ q < 256) : 0 ≤ boxQ4 q ∧ boxQ4 q < 256 := by
 unfold boxQ4; split
 · exact x8_byte h (by omega)
 · exact h
theorem boxQ_byte {q : Int} (h : 0 ≤ q ∧ q < 256) : 0 ≤ boxQ q ∧ boxQ q < 256 := by
 have h1 : 0 ≤ boxQ1 q ∧ boxQ1 q < 256 := x8_byte h (by omega)
 have h2 : 0 ≤ boxQ2 (boxQ1 q) ∧ boxQ2 (boxQ1 q) < 256 := x8_byte h1 (by omega)
 have h3 : 0 ≤ boxQ3 (boxQ2 (boxQ1 q)) ∧ boxQ3 (boxQ2 (boxQ1 q)) < 256 := x8_byte h2 (by omega)
 exact boxQ4_byte h3
theorem boxS_ok (k : Nat) : (0 ≤ (boxS k).1 ∧ (boxS k).1 < 256) ∧ (0 ≤ (boxS k).2.1 ∧ (boxS k).2.1 < 256) ∧ (boxS k).2.2.length = 256 := by
 induction k with
 | zero => exact ⟨by show (0:Int) ≤ 1 ∧ (1:Int) < 256; omega, by show (0:Int) ≤ 1 ∧ (1:Int) < 256; omega, by show (List.replicate 256 (0 : Int)).length = 256; rw [List.length_replicate]⟩
 | succ k ih => exact ⟨boxP_byte ih.1, boxQ_byte ih.2.1, by simpa [boxS, boxStep] using ih.2.2⟩
/-- From p on, n steps: not 1 till the last, then 1. -/
def boxEnds : Nat → Int → Bool
 | 0, p => p == 1
 | n + 1, p => p != 1 && boxEnds n (boxP p)
theorem box_ends : boxEnds 254 (boxP 1) = true := by decide +kernel
theorem boxEnds_at (n : Nat) : ∀ (p : Int) (k : Nat), boxEnds n p = true → k ≤ n → ((Nat.repeat boxP k p) == 1) = decide (k = n) := by
 induction n with
 | zero => intro p k h hk; obtain rfl : k = 0 := (by omega); show (p == 1) = decide (0 = 0); have h2 : (p == 1) = true := h; rw [h2]; rfl
 | succ n ih =>
  intro p k h hk
  simp only [boxEnds, Bool.and_eq_true] at h
  cases k with
  | zero =>
   have : (p == 1) = false := by simpa using h.1
   simp [Nat.repeat, this]
  | succ k =>
   have := ih (boxP p) k h.2 (by omega)
   have e : Nat.repeat boxP (k + 1) p = Nat.repeat boxP k (boxP p) := by
    clear this h ih
    induction k generalizing p with
    | zero => rfl
    | succ k ih => show boxP (Nat.repeat boxP (k + 1) p) = boxP (Nat.repeat boxP k (boxP p)); rw [ih p (by omega)]
   rw [e, this]
   simp
theorem boxS_fst (k : Nat) : (boxS k).1 = Nat.repeat boxP k 1 := by
 induction k with
 | zero => rfl
 | succ k ih => show boxP (boxS k).1 = boxP (Nat.repeat boxP k 1); rw [ih]
theorem box_last (k : Nat) (hk : k ≤ 254) : ((boxS (k + 1)).1 == 1) = decide (k = 254) := by
 have := boxEnds_at 254 (boxP 1) k box_ends hk
 rw [boxS_fst]
 have e : ∀ k p, Nat.repeat boxP (k + 1) p = Nat.repeat boxP k (boxP p) := by
  intro k
  induction k with
  | zero => intro p; rfl
  | succ k ih => intro p; show boxP (Nat.repeat boxP (k + 1) p) = boxP (Nat.repeat boxP k (boxP p)); rw [ih]
 rw [e, this]

def boxTab : List Int := (boxS 255).2.2.set 0 99
theorem boxTab_len : boxTab.length = 256 := by unfold boxTab; rw [List.length_set]; exact (boxS_ok 255).2.2

end Go.Proofs.YthdjgebbjogmiaaDoor

namespace Go.Proofs.YthdjgebbjogmiaaDoor
open Go Go.RowKit
set_option maxRecDepth 100000

def byteL (l : List Int) : Prop := l.length = 256 ∧ ∀ u ∈ l, 0 ≤ u ∧ u < 256
end Go.Proofs.YthdjgebbjogmiaaDoor

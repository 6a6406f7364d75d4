/- Base32 as a plain function: letters out of bytes, bytes out of letters, there and back.
code.Base32 of bytes: their letters. Condition: at most 2^40 bytes. -/
import Derived.Test.YtfinfkodjkfibaaDoorKeep
import Derived.Test.YtfinfkodjkfibaaDoorStr
namespace Go.Proofs.YtfinfkodjkfibaaDoor
open Go Go.RowKit

theorem bits_and_nat (a b : Nat) (ha : a < 4294967296) (hb : b < 4294967296) : bits .and .i64 (a : Int) (b : Int) = ((a &&& b : Nat) : Int) := by
  have hx : a &&& b ≤ a := Nat.and_le_left
  have e : ∀ n : Nat, n < 4294967296 → (BitVec.ofInt 64 (n : Int)).toNat = n := fun n hn => by
    rw [BitVec.ofInt_natCast, BitVec.toNat_ofNat]; exact Nat.mod_eq_of_lt (by omega)
  show IntKind.i64.wrap ((BitVec.ofInt 64 (a : Int) &&& BitVec.ofInt 64 (b : Int)).toNat : Int) = _
  rw [BitVec.toNat_and, e a ha, e b hb]
  exact IntWalk.i64_in _ (by omega)
theorem bits_or_nat (a b : Nat) (ha : a < 4294967296) (hb : b < 4294967296) : bits .or .i64 (a : Int) (b : Int) = ((a ||| b : Nat) : Int) := by
  have hx : a ||| b < 2 ^ 32 := Nat.or_lt_two_pow (by omega) (by omega)
  have e : ∀ n : Nat, n < 4294967296 → (BitVec.ofInt 64 (n : Int)).toNat = n := fun n hn => by
    rw [BitVec.ofInt_natCast, BitVec.toNat_ofNat]; exact Nat.mod_eq_of_lt (by omega)
  show IntKind.i64.wrap ((BitVec.ofInt 64 (a : Int) ||| BitVec.ofInt 64 (b : Int)).toNat : Int) = _
  rw [BitVec.toNat_or, e a ha, e b hb]
  exact IntWalk.i64_in _ (by omega)
theorem and_low (a k : Nat) (ha : a < 4294967296) (hk : k < 32) : bits .and .i64 (a : Int) ((2 ^ k - 1 : Nat) : Int) = ((a % 2 ^ k : Nat) : Int) := by
  have h2 : 2 ^ k ≤ 2 ^ 31 := Nat.pow_le_pow_right (by decide) (by omega)
  rw [bits_and_nat a _ ha (by omega), Nat.and_two_pow_sub_one_eq_mod]
theorem or_low (a c k : Nat) (ha : a * 2 ^ k < 4294967296) (hc : c < 2 ^ k) (hk : k < 32) : bits .or .i64 ((a * 2 ^ k : Nat) : Int) (c : Int) = ((a * 2 ^ k + c : Nat) : Int) := by
  have h2 : 2 ^ k ≤ 2 ^ 31 := Nat.pow_le_pow_right (by decide) (by omega)
  rw [bits_or_nat _ _ ha (by omega), Nat.mul_comm, ← Nat.two_pow_add_eq_or_of_lt hc]

/-- The letter of five binary digits. -/
def ltr (k : Nat) : Int := if k < 26 then ((97 + k : Nat) : Int) else ((24 + k : Nat) : Int)
theorem ltr_byte {k : Nat} (h : k < 32) : 0 ≤ ltr k ∧ ltr k < 256 := by unfold ltr; split <;> omega
theorem ltr_inj {j k : Nat} (hj : j < 32) (hk : k < 32) (h : ltr j = ltr k) : j = k := by
  unfold ltr at h
  split at h <;> split at h <;> omega

/-- The letters that come out of H, N binary digits of which are held. -/
def em : Nat → Nat → Nat → List Int
  | 0, _, _ => []
  | f + 1, H, N => if 5 ≤ N then ltr (H / 2 ^ (N - 5) % 32) :: em f H (N - 5) else []
/-- Letters of bytes, h being held, n binary digits of it. -/
def b32 : Nat → Nat → List Int → List Int
  | h, n, [] => if 0 < n then [ltr (h * 2 ^ (5 - n) % 32)] else []
  | h, n, c :: cs => em 2 (h * 256 + c.toNat) (n + 8) ++ b32 ((h * 256 + c.toNat) % 2 ^ ((n + 8) % 5)) ((n + 8) % 5) cs
/-- Bytes of letters' values. -/
def by32 : Nat → Nat → List Nat → List Int
  | _, _, [] => []
  | g, m, k :: ks => if 8 ≤ m + 5 then (((g * 32 + k) / 2 ^ (m - 3) % 256 : Nat) : Int) :: by32 ((g * 32 + k) % 2 ^ (m - 3)) (m - 3) ks else by32 (g * 32 + k) (m + 5) ks
/-- The values of letters, or that one is none. -/
def valOf (c : Int) : Option Nat := if 97 ≤ c ∧ c < 123 then some (c.toNat - 97) else if 50 ≤ c ∧ c < 56 then some (c.toNat - 24) else none
def vals : List Int → Option (List Nat)
  | [] => some []
  | c :: cs => (valOf c).bind fun k => (vals cs).map (k :: ·)
theorem valOf_ltr {k : Nat} (h : k < 32) : valOf (ltr k) = some k := by
  unfold ltr valOf
  by_cases h1 : k < 26
  · rw [if_pos h1, if_pos (by omega)]; congr 1; omega
  · rw [if_neg h1, if_neg (by omega), if_pos (by omega)]; congr 1; omega
theorem valOf_some {c : Int} {k : Nat} (h : valOf c = some k) : k < 32 ∧ ltr k = c := by
  unfold valOf at h
  split at h
  · cases h; unfold ltr; rw [if_pos (by omega)]; omega
  · split at h
    · cases h; unfold ltr; rw [if_neg (by omega)]; omega
    · cases h

def b32F (b : List Int) : List Int := b32 0 0 b
/-- Letters' bytes: only where they are just what these bytes' letters are. -/
def bytes32F (s : List Int) : Option (List Int) := (vals s).bind fun ks => if b32F (by32 0 0 ks) = s then some (by32 0 0 ks) else none

theorem em_two (H N : Nat) : em 2 H N = if 5 ≤ N then (if 10 ≤ N then [ltr (H / 2 ^ (N - 5) % 32), ltr (H / 2 ^ (N - 10) % 32)] else [ltr (H / 2 ^ (N - 5) % 32)]) else [] := by
  by_cases h : 5 ≤ N
  · rw [em, if_pos h, if_pos h, em]
    by_cases h2 : 10 ≤ N
    · rw [if_pos (by omega), if_pos h2, em, show N - 5 - 5 = N - 10 by omega]
    · rw [if_neg (by omega), if_neg h2]
  · rw [em, if_neg h, if_neg h]
theorem b32_len : ∀ (cs : List Int) (h n : Nat), n < 5 → (b32 h n cs).length = (8 * cs.length + n + 4) / 5
  | [], h, n, hn => by
    unfold b32
    split <;> simp <;> omega
  | c :: cs, h, n, hn => by
    unfold b32
    rw [List.length_append, b32_len cs _ _ (Nat.mod_lt _ (by omega)), em_two, if_pos (by omega), List.length_cons]
    split <;> simp <;> omega
theorem b32F_len (b : List Int) : (b32F b).length = (8 * b.length + 4) / 5 := by rw [b32F, b32_len b 0 0 (by omega)]
theorem b32_bytes : ∀ (cs : List Int) (h n : Nat), Bytes (b32 h n cs)
  | [], h, n => by
    unfold b32
    split
    · intro x hx; simp at hx; subst hx; exact ltr_byte (Nat.mod_lt _ (by omega))
    · intro x hx; cases hx
  | c :: cs, h, n => by
    unfold b32
    intro x hx
    rcases List.mem_append.1 hx with hx | hx
    · rw [em_two] at hx
      split at hx
      · split at hx
        · simp at hx; rcases hx with rfl | rfl <;> exact ltr_byte (Nat.mod_lt _ (by omega))
        · simp at hx; subst hx; exact ltr_byte (Nat.mod_lt _ (by omega))
      · cases hx
    · exact b32_bytes cs _ _ x hx
theorem b32F_bytes (b : List Int) : Bytes (b32F b) := b32_bytes b 0 0

/-- The values of the letters of bytes. -/
def kv : Nat → Nat → List Int → List Nat
  | h, n, [] => if 0 < n then [h * 2 ^ (5 - n) % 32] else []
  | h, n, c :: cs => (if 10 ≤ n + 8 then [(h * 256 + c.toNat) / 2 ^ (n + 3) % 32, (h * 256 + c.toNat) / 2 ^ (n - 2) % 32] else [(h * 256 + c.toNat) / 2 ^ (n + 3) % 32]) ++ kv ((h * 256 + c.toNat) % 2 ^ ((n + 8) % 5)) ((n + 8) % 5) cs
theorem vals_ltr : ∀ ks : List Nat, (∀ k ∈ ks, k < 32) → vals (ks.map ltr) = some ks
  | [], _ => rfl
  | k :: ks, h => by
    rw [List.map_cons, vals, valOf_ltr (h k (List.mem_cons_self ..)), Option.bind_some, vals_ltr ks fun j hj => h j (List.mem_cons_of_mem _ hj)]
    rfl
theorem kv_lt : ∀ (cs : List Int) (h n : Nat), ∀ k ∈ kv h n cs, k < 32
  | [], h, n => by
    unfold kv
    split
    · intro k hk; simp at hk; subst hk; exact Nat.mod_lt _ (by omega)
    · intro k hk; cases hk
  | c :: cs, h, n => by
    unfold kv
    intro k hk
    rcases List.mem_append.1 hk with hk | hk
    · split at hk
      · simp at hk; rcases hk with rfl | rfl <;> exact Nat.mod_lt _ (by omega)
      · simp at hk; subst hk; exact Nat.mod_lt _ (by omega)
    · exact kv_lt cs _ _ k hk
theorem b32_kv : ∀ (cs : List Int) (h n : Nat), b32 h n cs = (kv h n cs).map ltr
  | [], h, n => by
    unfold b32 kv
    split <;> rfl
  | c :: cs, h, n => by
    unfold b32 kv
    rw [List.map_append, ← b32_kv cs, em_two, if_pos (by omega)]
    congr 1
    split <;> simp [show n + 8 - 5 = n + 3 by omega, show n + 8 - 10 = n - 2 by omega]

theorem back32 : ∀ (cs : List Int) (hb : Bytes cs) (c n : Nat), c < 256 → n < 5 → by32 (if n = 0 then 0 else c / 2 ^ n) (if n = 0 then 0 else 8 - n) (kv (if n = 0 then 0 else c % 2 ^ n) n cs) = if n = 0 then cs else (c : Int) :: cs
  | [], hb, c, n, hc, hn => by
    rcases show n = 0 ∨ n = 1 ∨ n = 2 ∨ n = 3 ∨ n = 4 by omega with rfl | rfl | rfl | rfl | rfl <;> simp [kv, by32] <;> omega
  | d :: cs, hb, c, n, hc, hn => by
    obtain ⟨hd0, hd1⟩ := hb d (List.mem_cons_self ..)
    have ih := back32 cs (fun x hx => hb x (List.mem_cons_of_mem _ hx)) d.toNat ((n + 8) % 5) (by omega) (Nat.mod_lt _ (by omega))
    have ed : ((d.toNat : Nat) : Int) = d := by omega
    rw [ed] at ih
    generalize d.toNat = e at ih ed
    subst ed
    rcases show n = 0 ∨ n = 1 ∨ n = 2 ∨ n = 3 ∨ n = 4 by omega with rfl | rfl | rfl | rfl | rfl
    all_goals simp [kv, by32] at ih ⊢
    · rw [show e / 8 % 32 = e / 8 by omega]; exact ih
    · refine ⟨by omega, ?_⟩
      rw [show (c / 2 * 32 + (c % 2 * 256 + e) / 16 % 32) % 16 = e / 16 by omega, show (c % 2 * 256 + e) % 16 = e % 16 by omega]; exact ih
    · refine ⟨by omega, by omega, ?_⟩
      rw [Nat.mod_one, Nat.mod_one]; exact ih
    · refine ⟨by omega, ?_⟩
      rw [show (c / 8 * 32 + (c % 8 * 256 + e) / 64 % 32) % 4 * 32 + (c % 8 * 256 + e) / 2 % 32 = e / 2 by omega, show (c % 8 * 256 + e) % 2 = e % 2 by omega]; exact ih
    · refine ⟨by omega, ?_⟩
      rw [show (c / 16 * 32 + (c % 16 * 256 + e) / 128 % 32) % 2 * 32 + (c % 16 * 256 + e) / 4 % 32 = e / 4 by omega, show (c % 16 * 256 + e) % 4 = e % 4 by omega]; exact ih

/-- There and back. -/
theorem bytes32_b32 (b : List Int) (hb : Bytes b) : bytes32F (b32F b) = some b := by
  have e : b32F b = (kv 0 0 b).map ltr := b32_kv b 0 0
  have h : by32 0 0 (kv 0 0 b) = b := by
    have := back32 b hb 0 0 (by omega) (by omega)
    simpa using this
  rw [bytes32F, e, vals_ltr _ (kv_lt b 0 0), Option.bind_some, h, if_pos e]
theorem bytes32_some {s b : List Int} (h : bytes32F s = some b) : b32F b = s := by
  unfold bytes32F at h
  obtain ⟨ks, _, h2⟩ := Option.bind_eq_some_iff.1 h
  by_cases e : b32F (by32 0 0 ks) = s
  · rw [if_pos e] at h2; injection h2 with h2; rw [← h2]; exact e
  · rw [if_neg e] at h2; cases h2
theorem b32F_inj {a b : List Int} (ha : Bytes a) (hb : Bytes b) (h : b32F a = b32F b) : a = b := by
  have h1 := bytes32_b32 a ha
  rw [h, bytes32_b32 b hb] at h1
  injection h1 with h1
  exact h1.symm
end Go.Proofs.YtfinfkodjkfibaaDoor

namespace Go.Proofs.YtfinfkodjkfibaaDoor
open Go Go.RowKit

def lettersS : ByteArray := { data := #[97, 98, 99, 100, 101, 102, 103, 104, 105, 106, 107, 108, 109, 110, 111, 112, 113, 114, 115, 116, 117, 118, 119, 120, 121, 122, 50, 51, 52, 53, 54, 55] }
theorem letters_at : ∀ k : Fin 32, (lettersS[k.val]'(by have : lettersS.size = 32 := rfl; omega)).toNat = ltr k.val := by decide
theorem run_letter (w : World) (k : Nat) (h : k < 32) : (Instr.index 9 (.string lettersS) (.int .i64 (k : Int))).run Tryd.prog w = .ok (.int .u8 (ltr k)) w := by
  have hs : lettersS.size = 32 := rfl
  rw [run_index_string w 9 lettersS .i64 (k : Int) Tryd.underlying9, dif_pos ⟨by omega, by rw [hs]; omega⟩]
  have := letters_at ⟨k, h⟩
  simp only [Int.toNat_natCast]
  rw [this]
/-- A letter by its number. -/
theorem wpList_letter {ops : Array Oper} {rest : List Oper} {o : Oper} {a : Act} {w : World} {Q : Exit → Act → World → Prop} (hgd : o.guard = none) (x : Operand) (ho : o.op = .index 9 (.const (.string lettersS)) x) (z : Int) (hx : a.eval x = .int .i64 z) (k : Nat) (hz : z = (k : Int)) (hk : k < 32)
    (h : wpList Tryd.prog ops Q rest (a.put o.dst (.int .u8 (ltr k))) w) : wpList Tryd.prog ops Q (o :: rest) a w :=
  wpList_plain hgd fun _ hK => by
    subst hz
    have hr := run_letter w k hk
    unfold Oper.wp execOp
    have he : a.eval (.const (.string lettersS)) = .string lettersS := rfl
    simp only [ho, hx, he, Sem.run_bind, hr, Result.andThen_ok, Sem.run_pure]
    exact hK _ _ h
/-- A literal of one byte. -/
theorem wpList_lit1 {ops : Array Oper} {rest : List Oper} {o : Oper} {a : Act} {w : World} {Q : Exit → Act → World → Prop} (hgd : o.guard = none) (x : Operand) (ho : o.op = .buildSlice 26 1 #[(0, x)]) (z : Int) (hx : a.eval x = .int .u8 z)
    (h : ∀ g w', Blk w' g 5 (u8s [z]) → w.heap.size ≤ g → Below w.heap.size w w' → wpList Tryd.prog ops Q rest (a.put o.dst (.slice (some ⟨g, 0, none⟩) 1 1)) w') : wpList Tryd.prog ops Q (o :: rest) a w := by
  obtain ⟨i, zz, ht, hi, hz, hsize, hby, hzs, _, _⟩ := el_u8
  have hz0 := u8_zero hi hz
  subst hz0
  refine wpList_buildSlice hgd 26 5 1 _ ho #[.int .u8 z] i (.int .u8 0) ht hi hz (by rw [hsize]; omega) (by rw [hsize]; omega) ?_ (h _ _ (Blk.new w 5 (u8s [z])) (Nat.le_refl _) ((Below.refl _ _).alloc (Nat.le_refl _) _))
  have e : (#[(0, x)].map fun (p : Nat × Operand) => (p.1, a.eval p.2)).toList = ([Value.int IntKind.u8 z].zipIdx 0).map fun x => (x.2, x.1) := by simp [hx]
  rw [e, hsize]
  exact Great.fill_flat _ _ (fun v hv => by simp at hv; subst hv; rfl) (by simp)

theorem wpList_lit1v {ops : Array Oper} {rest : List Oper} {o : Oper} {a : Act} {w : World} {Q : Exit → Act → World → Prop} (hgd : o.guard = none) (x : Operand) (ho : o.op = .buildSlice 26 1 #[(0, x)]) (z : Int) (hx : a.eval x = .int .u8 z) (z' : Int) (hz : z = z')
    (h : ∀ g w', Blk w' g 5 (u8s [z']) → w.heap.size ≤ g → Below w.heap.size w w' → wpList Tryd.prog ops Q rest (a.put o.dst (.slice (some ⟨g, 0, none⟩) 1 1)) w') : wpList Tryd.prog ops Q (o :: rest) a w :=
  wpList_lit1 hgd x ho z hx (by rw [hz]; exact h)
theorem Bytes.at_ {xs : List Int} (h : Bytes xs) (i : Nat) : 0 ≤ xs.getD i 0 ∧ xs.getD i 0 < 256 := by
  rcases Nat.lt_or_ge i xs.length with hi | hi
  · rw [getD_el' _ _ hi]; exact h.get i hi
  · rw [List.getD_eq_getElem?_getD, List.getElem?_eq_none hi]; simp
theorem em2_step (H N : Nat) (h1 : 5 ≤ N) (h2 : N ≤ 12) : em 2 H N = ltr (H / 2 ^ (N - 5) % 32) :: em 2 H (N - 5) := by
  rw [em_two, if_pos h1, em_two]
  by_cases h : 10 ≤ N
  · rw [if_pos h, if_pos (by omega), if_neg (by omega), show N - 5 - 5 = N - 10 by omega]
  · rw [if_neg h, if_neg (by omega)]
theorem em2_end (H N : Nat) (h : N < 5) : em 2 H N = [] := by rw [em_two, if_neg (by omega)]

theorem letter_and (H k : Nat) (hH : H < 4096) {z : Int} (hz : z = bits .and .i64 ((H / 2 ^ k : Nat) : Int) 31) : z = ((H / 2 ^ k % 32 : Nat) : Int) := by
  have h : H / 2 ^ k ≤ H := Nat.div_le_self _ _
  have := and_low (H / 2 ^ k) 5 (by omega) (by omega)
  rw [hz]
  simpa using this
end Go.Proofs.YtfinfkodjkfibaaDoor

/- Requests and replies as bytes, as plain laws: what is written is read as it was; what is read is what would be written. No program in sight but for the words.
Requests and replies, as plain laws: the program's way of reading and the document's accept just what is written of what may be. No program in sight but for the words.
Requests, as plain laws: the program's way of reading and the document's accept just what is written of what may be. No program in sight but for the words.
Requests and replies, as plain laws: unlike ones have unlike bytes; cut anywhere, or longer, they are none. No program in sight but for the words. -/
import Derived.Test.YtfinfkodjkfibaaDoorNetAll
import Derived.Test.YtfinfkodjkfibaaDoorPutBoth
import Derived.Test.YtfinfkodjkfibaaDoorGet
namespace Go.Proofs.YtfinfkodjkfibaaDoor.Msg
open Go Go.RowKit
set_option linter.unusedVariables false

theorem putN_snoc (N W : Nat) : putN N (W + 1) = putN (N / 256) W ++ [((N % 256 : Nat) : Int)] := by
  unfold putN
  rw [List.range_succ, List.map_append]
  congr 1
  · refine List.map_congr_left fun j hj => ?_
    have hj := List.mem_range.1 hj
    rw [show W + 1 - 1 - j = (W - 1 - j) + 1 by omega, Nat.pow_succ, Nat.mul_comm, Nat.div_div_eq_div_mul]
  · simp
theorem put_get : ∀ (W : Nat) (xs : List Int), xs.length = W → Bytes xs → putN (getN xs) W = xs
  | 0, xs, h, _ => by
    obtain rfl := List.eq_nil_of_length_eq_zero h
    rfl
  | W + 1, xs, h, hb => by
    have e : xs = xs.take W ++ [xs.getD W 0] := by
      have := List.take_succ_eq_append_getElem (l := xs) (i := W) (by omega)
      rw [← getD_el' xs W (by omega)] at this
      rw [← this, List.take_of_length_le (by omega)]
    have hx : 0 ≤ xs.getD W 0 ∧ xs.getD W 0 < 256 := by rw [getD_el' xs W (by omega)]; exact hb _ (List.getElem_mem _)
    have hg : getN xs = 256 * getN (xs.take W) + (xs.getD W 0).toNat := by
      conv => lhs; rw [e]
      rw [getN_snoc]
    rw [putN_snoc, hg, show (256 * getN (xs.take W) + (xs.getD W 0).toNat) / 256 = getN (xs.take W) by omega, show (256 * getN (xs.take W) + (xs.getD W 0).toNat) % 256 = (xs.getD W 0).toNat by omega]
    rw [put_get W (xs.take W) (by rw [List.length_take]; omega) (fun x hx => hb x (List.mem_of_mem_take hx))]
    conv => rhs; rw [e]
    congr 2
    omega
theorem getN_bound (xs : List Int) (hb : Bytes xs) : getN xs < 256 ^ xs.length := by
  have := getN_lt xs hb xs.length (Nat.le_refl _)
  rwa [List.take_length] at this
/-- A number as W bytes, where it fits. -/
theorem put_nat (N W : Nat) (hW : W ≤ 8) : putF (N : Int) (W : Int) = putN N W := by
  unfold putF wid
  congr 1 <;> omega
theorem get_put (N W : Nat) (h : N < 256 ^ W) : getN (putN N W) = N := by
  have hb := putN_bytes N W
  have hl := putN_len N W
  have h1 := put_get W (putN N W) hl hb
  have h2 : ∀ W N, getN (putN N W) = N % 256 ^ W := fun W => by
    induction W with
    | zero => intro N; simp [putN, getN, Nat.mod_one]
    | succ W ih =>
      intro N
      rw [putN_snoc, getN_snoc, ih, Nat.pow_succ, Nat.mul_comm (256 ^ W) 256, Nat.mod_mul]
      omega
  rw [h2, Nat.mod_eq_of_lt h]

/-- All rows. -/
def rowsN : Nat → List Int → Option (List (List Int))
  | _, [] => some []
  | 0, _ :: _ => none
  | n + 1, c :: cs => (takeF (c :: cs)).bind fun p => (rowsN n p.2).map (p.1 :: ·)
def rowsF (b : List Int) : Option (List (List Int)) := rowsN b.length b
theorem netsF_cons (x : List Int) (l : List (List Int)) : netsF (x :: l) = netF x ++ netsF l := by simp [netsF]
theorem netsF_app (l m : List (List Int)) : netsF (l ++ m) = netsF l ++ netsF m := by simp [netsF]
theorem rowsN_sound : ∀ (n : Nat) (b : List Int) (l : List (List Int)), rowsN n b = some l → b = netsF l ∧ ∀ x ∈ l, x.length ≤ 16384
  | n, [], l, h => by
    cases n <;> (injection h with h; subst h; exact ⟨rfl, fun x hx => by cases hx⟩)
  | 0, c :: cs, l, h => by cases h
  | n + 1, c :: cs, l, h => by
    rw [rowsN] at h
    rcases ht : takeF (c :: cs) with _ | ⟨x, r⟩
    · rw [ht] at h; cases h
    rw [ht] at h
    simp only [Option.bind_some] at h
    rcases hr : rowsN n r with _ | l'
    · rw [hr] at h; cases h
    rw [hr] at h
    injection h with h
    subst h
    obtain ⟨e1, e2⟩ := take_sound _ _ _ ht
    obtain ⟨i1, i2⟩ := rowsN_sound n r l' hr
    refine ⟨by rw [netsF_cons, e1, ← i1], fun y hy => ?_⟩
    rcases List.mem_cons.1 hy with rfl | hy
    · exact e2
    · exact i2 y hy
theorem rowsN_nets : ∀ (l : List (List Int)) (n : Nat), (∀ x ∈ l, x.length ≤ 16384) → (netsF l).length ≤ n → rowsN n (netsF l) = some l
  | [], n, _, _ => by cases n <;> rfl
  | x :: l, n, h, hn => by
    have hp := netF_pos x
    rw [netsF_cons, List.length_append] at hn
    obtain ⟨n, rfl⟩ : ∃ k, n = k + 1 := ⟨n - 1, by omega⟩
    have ht := take_net x (netsF l) (h x List.mem_cons_self)
    have ih := rowsN_nets l n (fun y hy => h y (List.mem_cons_of_mem _ hy)) (by omega)
    rw [netsF_cons]
    rcases hb : netF x ++ netsF l with _ | ⟨c, cs⟩
    · rw [List.append_eq_nil_iff] at hb; rw [hb.1] at hp; simp at hp
    · rw [rowsN, ← hb, ht]
      simp only [Option.bind_some, ih, Option.map_some]
theorem rows_iff (b : List Int) (l : List (List Int)) : rowsF b = some l ↔ b = netsF l ∧ ∀ x ∈ l, x.length ≤ 16384 :=
  ⟨rowsN_sound _ b l, fun ⟨h1, h2⟩ => by unfold rowsF; rw [h1]; exact rowsN_nets l _ h2 (Nat.le_refl _)⟩

/-- A share on a server. -/
abbrev Blb := Int × List Int
def blobR (x : Blb) : List (List Int) := [putF x.1 1, x.2]
def blobRows (l : List Blb) : List (List Int) := putF (l.length : Int) 1 :: l.flatMap blobR
/-- Blobs that may be read. -/
def RightB (l : List Blb) : Prop := l.length ≤ 32 ∧ ∀ x ∈ l, (0 ≤ x.1 ∧ x.1 < 16) ∧ Bytes x.2 ∧ x.2.length ≤ 16384

/-- A reader: what is left, and whether there was a row that is none. -/
structure St where
  b : List Int
  bad : Bool
def rowP (n : Int) (s : St) : List Int × St :=
  match takeF s.b with
  | none => (List.replicate (max 0 n).toNat 0, ⟨s.b, true⟩)
  | some (x, r) => if 0 ≤ n ∧ (x.length : Int) ≠ n then (List.replicate (max 0 n).toNat 0, ⟨s.b, true⟩) else (x, ⟨r, s.bad⟩)
def numP (w : Nat) (s : St) : Int × St := ((getN (rowP w s).1 : Int), (rowP w s).2)
def countP' (s : St) : Int × St := if 32 < (numP 1 s).1 then (0, ⟨(numP 1 s).2.b, true⟩) else numP 1 s
def shareP (s : St) : Int × St := ((numP 1 s).1, ⟨(numP 1 s).2.b, (numP 1 s).2.bad || decide (16 ≤ (numP 1 s).1)⟩)
def blobP (s : St) : Blb × St := (((shareP s).1, (rowP (-1) (shareP s).2).1), (rowP (-1) (shareP s).2).2)
def blobsN : Nat → St → List Blb × St
  | 0, s => ([], s)
  | n + 1, s => ((blobP s).1 :: (blobsN n (blobP s).2).1, (blobsN n (blobP s).2).2)
def blobsP (s : St) : List Blb × St := blobsN (countP' s).1.toNat (countP' s).2

/-- What is read well: it stood there. -/
def Well (s s' : St) (rows : List (List Int)) : Prop := s.bad = false ∧ s.b = netsF rows ++ s'.b ∧ Bytes s'.b
theorem Well.app {s s' s'' : St} {l m : List (List Int)} (h : Well s s' l) (h' : Well s' s'' m) : Well s s'' (l ++ m) := ⟨h.1, by rw [h.2.1, h'.2.1, netsF_app, List.append_assoc], h'.2.2⟩
theorem row_well {n : Int} {s : St} (hb : Bytes s.b) (h : (rowP n s).2.bad = false) : Well s (rowP n s).2 [(rowP n s).1] ∧ (0 ≤ n → ((rowP n s).1.length : Int) = n) ∧ Bytes (rowP n s).1 ∧ (rowP n s).1.length ≤ 16384 := by
  unfold rowP at h ⊢
  rcases ht : takeF s.b with _ | ⟨x, r⟩
  · rw [ht] at h; cases h
  rw [ht] at h
  simp only at h ⊢
  by_cases hc : 0 ≤ n ∧ (x.length : Int) ≠ n
  · rw [if_pos hc] at h; cases h
  rw [if_neg hc] at h ⊢
  obtain ⟨e1, e2⟩ := take_sound _ _ _ ht
  have hbx : Bytes (netF x ++ r) := by rw [← e1]; exact hb
  have hx : Bytes x := fun y hy => hbx y (by rw [netF]; simp [hy])
  exact ⟨⟨h, by simp [netsF, e1], fun y hy => hbx y (List.mem_append_right _ hy)⟩, fun h0 => by show (x.length : Int) = n; omega, hx, e2⟩
theorem num_well {w : Nat} (hw : w ≤ 7) {s : St} (hb : Bytes s.b) (h : (numP w s).2.bad = false) : Well s (numP w s).2 [putF (numP w s).1 (w : Int)] ∧ 0 ≤ (numP w s).1 ∧ (numP w s).1 < ((256 ^ w : Nat) : Int) := by
  obtain ⟨h1, h2, h3, _⟩ := row_well (n := (w : Int)) hb h
  have hl : (rowP (w : Int) s).1.length = w := by have := h2 (by omega); omega
  have e : putF (numP w s).1 (w : Int) = (rowP (w : Int) s).1 := by
    show putF ((getN (rowP (w : Int) s).1 : Nat) : Int) (w : Int) = _
    rw [put_nat _ _ (by omega), put_get w _ hl h3]
  have hlt := getN_bound _ h3
  rw [hl] at hlt
  exact ⟨by rw [e]; exact h1, Int.natCast_nonneg _, Int.ofNat_lt.2 hlt⟩
theorem count_well {s : St} (hb : Bytes s.b) (h : (countP' s).2.bad = false) : Well s (countP' s).2 [putF (countP' s).1 1] ∧ 0 ≤ (countP' s).1 ∧ (countP' s).1 ≤ 32 := by
  unfold countP' at h ⊢
  by_cases hc : 32 < (numP 1 s).1
  · rw [if_pos hc] at h; cases h
  rw [if_neg hc] at h ⊢
  obtain ⟨h1, h2, _⟩ := num_well (w := 1) (by omega) hb h
  exact ⟨h1, h2, by omega⟩
theorem share_well {s : St} (hb : Bytes s.b) (h : (shareP s).2.bad = false) : Well s (shareP s).2 [putF (shareP s).1 1] ∧ 0 ≤ (shareP s).1 ∧ (shareP s).1 < 16 := by
  have h' : ((numP 1 s).2.bad || decide (16 ≤ (numP 1 s).1)) = false := h
  rw [Bool.or_eq_false_iff] at h'
  obtain ⟨h1, h2, _⟩ := num_well (w := 1) (by omega) hb h'.1
  exact ⟨⟨h1.1, h1.2.1, h1.2.2⟩, h2, by have := of_decide_eq_false h'.2; show (numP 1 s).1 < 16; omega⟩
theorem rowP_bad {n : Int} {s : St} (h : s.bad = true) : (rowP n s).2.bad = true := by
  unfold rowP
  rcases takeF s.b with _ | ⟨x, r⟩
  · rfl
  · simp only
    split
    · rfl
    · exact h
theorem blob_well {s : St} (hb : Bytes s.b) (h : (blobP s).2.bad = false) : Well s (blobP s).2 (blobR (blobP s).1) ∧ (0 ≤ (blobP s).1.1 ∧ (blobP s).1.1 < 16) ∧ Bytes (blobP s).1.2 ∧ (blobP s).1.2.length ≤ 16384 := by
  have hs : (shareP s).2.bad = false := by
    rcases hh : (shareP s).2.bad with _ | _
    · rfl
    · exact absurd (rowP_bad (n := -1) hh) (by rw [show (rowP (-1) (shareP s).2).2.bad = false from h]; decide)
  obtain ⟨h1, h2, h3⟩ := share_well hb hs
  obtain ⟨g1, _, g3, g4⟩ := row_well (n := -1) h1.2.2 h
  exact ⟨h1.app g1, ⟨h2, h3⟩, g3, g4⟩
theorem blobP_bad {s : St} (h : s.bad = true) : (blobP s).2.bad = true := by
  have h1 : (numP 1 s).2.bad = true := rowP_bad h
  have h2 : (shareP s).2.bad = true := by show ((numP 1 s).2.bad || _) = true; rw [h1]; rfl
  exact rowP_bad h2
theorem blobsN_bad : ∀ (n : Nat) {s : St}, s.bad = true → (blobsN n s).2.bad = true
  | 0, _, h => h
  | n + 1, _, h => blobsN_bad n (blobP_bad h)
theorem blobsN_well : ∀ (n : Nat) {s : St}, Bytes s.b → (blobsN n s).2.bad = false → s.bad = false → Well s (blobsN n s).2 ((blobsN n s).1.flatMap blobR) ∧ (blobsN n s).1.length = n ∧ ∀ x ∈ (blobsN n s).1, (0 ≤ x.1 ∧ x.1 < 16) ∧ Bytes x.2 ∧ x.2.length ≤ 16384
  | 0, s, hb, h, hs => ⟨⟨hs, by simp [blobsN, netsF], hb⟩, rfl, fun x hx => by cases hx⟩
  | n + 1, s, hb, h, hs => by
    have hp : (blobP s).2.bad = false := by
      rcases hh : (blobP s).2.bad with _ | _
      · rfl
      · exact absurd (blobsN_bad n hh) (by rw [show (blobsN n (blobP s).2).2.bad = false from h]; decide)
    obtain ⟨h1, h2, h3, h4⟩ := blob_well hb hp
    obtain ⟨g1, g2, g3⟩ := blobsN_well n h1.2.2 h hp
    refine ⟨?_, by simp [blobsN, g2], fun x hx => ?_⟩
    · have := h1.app g1
      simpa [blobsN] using this
    · rcases List.mem_cons.1 (show x ∈ (blobP s).1 :: (blobsN n (blobP s).2).1 from hx) with rfl | hx
      · exact ⟨h2, h3, h4⟩
      · exact g3 x hx
theorem countP_bad {s : St} (h : s.bad = true) : (countP' s).2.bad = true := by
  unfold countP'
  split
  · rfl
  · exact rowP_bad h
theorem blobs_well {s : St} (hb : Bytes s.b) (h : (blobsP s).2.bad = false) : Well s (blobsP s).2 (blobRows (blobsP s).1) ∧ RightB (blobsP s).1 := by
  have hc : (countP' s).2.bad = false := by
    rcases hh : (countP' s).2.bad with _ | _
    · rfl
    · exact absurd (blobsN_bad _ hh) (by rw [show (blobsN (countP' s).1.toNat (countP' s).2).2.bad = false from h]; decide)
  obtain ⟨h1, h2, h3⟩ := count_well hb hc
  obtain ⟨g1, g2, g3⟩ := blobsN_well _ h1.2.2 h hc
  have e : (((blobsP s).1.length : Nat) : Int) = (countP' s).1 := by
    show (((blobsN (countP' s).1.toNat (countP' s).2).1.length : Nat) : Int) = _
    rw [g2]; omega
  refine ⟨?_, ⟨by omega, g3⟩⟩
  unfold blobRows
  rw [e]
  exact h1.app g1

/-- What stands there is read. -/
theorem row_net {n : Int} {x r : List Int} {bad : Bool} (hl : x.length ≤ 16384) (hn : 0 ≤ n → (x.length : Int) = n) : rowP n ⟨netF x ++ r, bad⟩ = (x, ⟨r, bad⟩) := by
  unfold rowP
  rw [take_net x r hl]
  simp only
  rw [if_neg (fun h => h.2 (hn h.1))]
theorem num_net {N w : Nat} (hw : w ≤ 7) (hN : N < 256 ^ w) {r : List Int} {bad : Bool} : numP w ⟨netF (putF (N : Int) (w : Int)) ++ r, bad⟩ = ((N : Int), ⟨r, bad⟩) := by
  unfold numP
  rw [row_net (by rw [put_nat _ _ (by omega), putN_len]; omega) (fun _ => by rw [put_nat _ _ (by omega), putN_len])]
  rw [put_nat _ _ (by omega), get_put _ _ hN]
theorem count_net {N : Nat} (hN : N ≤ 32) {r : List Int} {bad : Bool} : countP' ⟨netF (putF (N : Int) 1) ++ r, bad⟩ = ((N : Int), ⟨r, bad⟩) := by
  unfold countP'
  have h := num_net (N := N) (w := 1) (by omega) (by omega) (r := r) (bad := bad)
  rw [show ((1 : Nat) : Int) = 1 from rfl] at h
  rw [h]
  rw [if_neg (by show ¬ (32 : Int) < (N : Int); omega)]
theorem share_net {n : Int} (h0 : 0 ≤ n) (h1 : n < 16) {r : List Int} {bad : Bool} : shareP ⟨netF (putF n 1) ++ r, bad⟩ = (n, ⟨r, bad⟩) := by
  obtain ⟨N, rfl⟩ := Int.eq_ofNat_of_zero_le h0
  unfold shareP
  have h := num_net (N := N) (w := 1) (by omega) (by omega) (r := r) (bad := bad)
  rw [show ((1 : Nat) : Int) = 1 from rfl] at h
  rw [h]
  simp only
  rw [decide_eq_false (by omega), Bool.or_false]
theorem blobsN_net : ∀ (l : List Blb), (∀ x ∈ l, (0 ≤ x.1 ∧ x.1 < 16) ∧ Bytes x.2 ∧ x.2.length ≤ 16384) → ∀ {r : List Int} {bad : Bool}, blobsN l.length ⟨netsF (l.flatMap blobR) ++ r, bad⟩ = (l, ⟨r, bad⟩)
  | [], _, r, bad => by simp [blobsN, netsF]
  | x :: l, h, r, bad => by
    have hx := h x List.mem_cons_self
    have ih := blobsN_net l (fun y hy => h y (List.mem_cons_of_mem _ hy)) (r := r) (bad := bad)
    have e : netsF ((x :: l).flatMap blobR) ++ r = netF (putF x.1 1) ++ (netF x.2 ++ (netsF (l.flatMap blobR) ++ r)) := by simp [blobR, netsF, List.append_assoc]
    have hb : blobP ⟨netsF ((x :: l).flatMap blobR) ++ r, bad⟩ = (x, ⟨netsF (l.flatMap blobR) ++ r, bad⟩) := by
      unfold blobP
      rw [e, share_net hx.1.1 hx.1.2]
      simp only
      rw [row_net hx.2.2 (fun h => by omega)]
    rw [List.length_cons, blobsN, hb]
    simp only [ih]
theorem blobs_net {l : List Blb} (h : RightB l) {r : List Int} {bad : Bool} : blobsP ⟨netsF (blobRows l) ++ r, bad⟩ = (l, ⟨r, bad⟩) := by
  unfold blobsP blobRows
  rw [netsF_cons, List.append_assoc, count_net h.1]
  simp only [Int.toNat_natCast]
  exact blobsN_net l h.2
end Go.Proofs.YtfinfkodjkfibaaDoor.Msg

namespace Go.Proofs.YtfinfkodjkfibaaDoor.Msg
open Go Go.RowKit
set_option linter.unusedVariables false

theorem put_one {n : Int} (h0 : 0 ≤ n) (h1 : n < 256) : putF n 1 = [n] := by
  obtain ⟨N, rfl⟩ := Int.eq_ofNat_of_zero_le h0
  have := put_nat N 1 (by omega)
  rw [show ((1 : Nat) : Int) = 1 from rfl] at this
  rw [this]
  unfold putN
  rw [List.range_one]
  simp
  omega
theorem one_put {x : List Int} (hl : x.length = 1) (hb : Bytes x) : putF (x.getD 0 0) 1 = x ∧ 0 ≤ x.getD 0 0 ∧ x.getD 0 0 < 256 := by
  match x, hl with
  | [a], _ =>
    have := hb a List.mem_cons_self
    exact ⟨put_one this.1 this.2, this⟩

/-- A reply. -/
def sayRows (e : Int) (l : List Blb) : List (List Int) := putF e 1 :: blobRows l
def sayF (e : Int) (l : List Blb) : Option (List Int) := if 32 < l.length ∨ (e ≠ 0 ∧ 0 < l.length) then none else if 16384 < (netsF (sayRows e l)).length then none else some (netsF (sayRows e l))
def RightS (e : Int) (l : List Blb) : Prop := (0 ≤ e ∧ e ≤ 17) ∧ RightB l ∧ (e ≠ 0 → l = [])
theorem sayF_some {e : Int} {l : List Blb} {b : List Int} (h : sayF e l = some b) : b = netsF (sayRows e l) ∧ b.length ≤ 16384 ∧ l.length ≤ 32 ∧ (e ≠ 0 → l = []) := by
  unfold sayF at h
  by_cases h1 : 32 < l.length ∨ (e ≠ 0 ∧ 0 < l.length)
  · rw [if_pos h1] at h; cases h
  rw [if_neg h1] at h
  by_cases h2 : 16384 < (netsF (sayRows e l)).length
  · rw [if_pos h2] at h; cases h
  rw [if_neg h2] at h
  injection h with h
  refine ⟨h.symm, by rw [← h]; omega, by omega, fun he => ?_⟩
  rcases l with _ | ⟨x, l⟩
  · rfl
  · exact absurd (Or.inr ⟨he, by simp⟩) h1
/-- The program's way. -/
def saidP (b : List Int) : Option (Int × List Blb) :=
  if (blobsP (numP 1 ⟨b, false⟩).2).2.bad = true ∨ 17 < (numP 1 ⟨b, false⟩).1 then none
  else if sayF (numP 1 ⟨b, false⟩).1 (blobsP (numP 1 ⟨b, false⟩).2).1 = some b then some ((numP 1 ⟨b, false⟩).1, (blobsP (numP 1 ⟨b, false⟩).2).1) else none
theorem numP_bad {w : Nat} {s : St} (h : s.bad = true) : (numP w s).2.bad = true := rowP_bad h
theorem blobsP_bad {s : St} (h : s.bad = true) : (blobsP s).2.bad = true := blobsN_bad _ (countP_bad h)
theorem good {b : Bool} (h : ¬ b = true) : b = false := by simpa using h
theorem saidP_iff {b : List Int} (hb : Bytes b) (e : Int) (l : List Blb) : saidP b = some (e, l) ↔ RightS e l ∧ sayF e l = some b := by
  constructor
  · intro h
    unfold saidP at h
    by_cases h1 : (blobsP (numP 1 ⟨b, false⟩).2).2.bad = true ∨ 17 < (numP 1 ⟨b, false⟩).1
    · rw [if_pos h1] at h; cases h
    rw [if_neg h1] at h
    by_cases h2 : sayF (numP 1 ⟨b, false⟩).1 (blobsP (numP 1 ⟨b, false⟩).2).1 = some b
    · rw [if_pos h2] at h
      injection h with h
      injection h with ha hc
      have g1 : (blobsP (numP 1 ⟨b, false⟩).2).2.bad = false := good fun h => h1 (.inl h)
      have g2 : (numP 1 ⟨b, false⟩).2.bad = false := good fun h => by rw [blobsP_bad h] at g1; cases g1
      obtain ⟨k1, k2, _⟩ := num_well (w := 1) (by omega) (s := ⟨b, false⟩) hb g2
      obtain ⟨_, k4⟩ := blobs_well k1.2.2 g1
      rw [ha] at h2 k2
      rw [hc] at h2 k4
      rw [ha] at h1
      exact ⟨⟨⟨k2, by omega⟩, k4, (sayF_some h2).2.2.2⟩, h2⟩
    · rw [if_neg h2] at h; cases h
  · rintro ⟨⟨⟨h0, h17⟩, hB, _⟩, hs⟩
    obtain ⟨e1, _⟩ := sayF_some hs
    have en : numP 1 ⟨b, false⟩ = (e, ⟨netsF (blobRows l), false⟩) := by
      obtain ⟨N, rfl⟩ := Int.eq_ofNat_of_zero_le h0
      have := num_net (N := N) (w := 1) (by omega) (by omega) (r := netsF (blobRows l)) (bad := false)
      rw [e1, sayRows, netsF_cons]
      exact this
    have eb : blobsP ⟨netsF (blobRows l), false⟩ = (l, ⟨[], false⟩) := by
      have := blobs_net hB (r := []) (bad := false)
      rwa [List.append_nil] at this
    unfold saidP
    rw [en]
    simp only [eb]
    rw [if_neg (by simp; omega), if_pos hs]
/-- The document's way. -/
def pairsB : List (List Int) → Option (List Blb)
  | [] => some []
  | [_] => none
  | n :: d :: rest => if n.length = 1 ∧ n.getD 0 0 < 16 then (pairsB rest).map ((n.getD 0 0, d) :: ·) else none
def takeB : List (List Int) → Option (List Blb)
  | [] => none
  | c :: rest => if c.length = 1 ∧ c.getD 0 0 ≤ 32 ∧ (rest.length : Int) = 2 * c.getD 0 0 then pairsB rest else none
theorem pairsB_iff : ∀ (rows : List (List Int)) (l : List Blb), (∀ x ∈ rows, Bytes x ∧ x.length ≤ 16384) → (pairsB rows = some l ↔ rows = l.flatMap blobR ∧ ∀ x ∈ l, (0 ≤ x.1 ∧ x.1 < 16) ∧ Bytes x.2 ∧ x.2.length ≤ 16384)
  | [], l, h => by
    constructor
    · intro e; injection e with e; subst e; exact ⟨rfl, fun x hx => by cases hx⟩
    · rintro ⟨e, _⟩
      rcases l with _ | ⟨x, l⟩
      · rfl
      · simp [blobR] at e
  | [a], l, h => by
    constructor
    · intro e; cases e
    · rintro ⟨e, _⟩
      rcases l with _ | ⟨x, l⟩
      · cases e
      · simp [blobR] at e
  | n :: d :: rest, l, h => by
    have ih := pairsB_iff rest
    have hn := h n (by simp)
    have hd := h d (by simp)
    have hr : ∀ x ∈ rest, Bytes x ∧ x.length ≤ 16384 := fun x hx => h x (by simp [hx])
    rw [pairsB]
    constructor
    · intro e
      by_cases hc : n.length = 1 ∧ n.getD 0 0 < 16
      · rw [if_pos hc] at e
        rcases hp : pairsB rest with _ | l'
        · rw [hp] at e; cases e
        rw [hp] at e
        injection e with e
        subst e
        obtain ⟨i1, i2⟩ := (ih l' hr).1 hp
        obtain ⟨o1, o2, _⟩ := one_put hc.1 hn.1
        refine ⟨by simp only [List.flatMap_cons, blobR, o1, ← i1]; rfl, fun x hx => ?_⟩
        rcases List.mem_cons.1 hx with rfl | hx
        · exact ⟨⟨o2, hc.2⟩, hd⟩
        · exact i2 x hx
      · rw [if_neg hc] at e; cases e
    · rintro ⟨e, hl⟩
      rcases l with _ | ⟨x, l⟩
      · cases e
      · have e' : n :: d :: rest = putF x.1 1 :: x.2 :: l.flatMap blobR := by rw [e]; simp [blobR]
        injection e' with e1 e'
        injection e' with e2 e3
        have hx := hl x List.mem_cons_self
        rw [put_one hx.1.1 (by omega)] at e1
        subst e1 e2
        rw [if_pos ⟨rfl, hx.1.2⟩, (ih l hr).2 ⟨e3, fun y hy => hl y (List.mem_cons_of_mem _ hy)⟩]
        rfl
theorem blobR_len (l : List Blb) : (l.flatMap blobR).length = 2 * l.length := by
  induction l with
  | nil => rfl
  | cons x l ih => rw [List.flatMap_cons, List.length_append, ih, List.length_cons]; simp [blobR]; omega
theorem takeB_iff (rows : List (List Int)) (l : List Blb) (h : ∀ x ∈ rows, Bytes x ∧ x.length ≤ 16384) : takeB rows = some l ↔ rows = blobRows l ∧ RightB l := by
  rcases rows with _ | ⟨c, rest⟩
  · constructor
    · intro e; cases e
    · rintro ⟨e, _⟩; cases e
  have hc := h c List.mem_cons_self
  have hr : ∀ x ∈ rest, Bytes x ∧ x.length ≤ 16384 := fun x hx => h x (List.mem_cons_of_mem _ hx)
  rw [takeB]
  constructor
  · intro e
    by_cases h1 : c.length = 1 ∧ c.getD 0 0 ≤ 32 ∧ (rest.length : Int) = 2 * c.getD 0 0
    · rw [if_pos h1] at e
      obtain ⟨i1, i2⟩ := (pairsB_iff rest l hr).1 e
      obtain ⟨o1, o2, o3⟩ := one_put h1.1 hc.1
      have hl : (l.length : Int) = c.getD 0 0 := by have := h1.2.2; rw [i1, blobR_len] at this; omega
      exact ⟨by unfold blobRows; rw [hl, o1, ← i1], by omega, i2⟩
    · rw [if_neg h1] at e; cases e
  · rintro ⟨e, hl, hx⟩
    unfold blobRows at e
    injection e with e1 e2
    rw [put_one (by omega) (by omega)] at e1
    subst e1
    rw [if_pos ⟨rfl, by simp; omega, by rw [e2, blobR_len]; simp⟩]
    exact (pairsB_iff rest l hr).2 ⟨e2, hx⟩
def saidR (b : List Int) : Option (Int × List Blb) :=
  match rowsF b with
  | none => none
  | some l =>
    if b.length ≤ 16384 ∧ 2 ≤ l.length ∧ (l.getD 0 []).length = 1 ∧ (l.getD 0 []).getD 0 0 ≤ 17 then
      match takeB (l.drop 1) with
      | none => none
      | some bl => if (l.getD 0 []).getD 0 0 ≠ 0 ∧ bl ≠ [] then none else some ((l.getD 0 []).getD 0 0, bl)
    else none
theorem rows_bytes {l : List (List Int)} (hb : Bytes (netsF l)) : ∀ x ∈ l, Bytes x := fun x hx y hy => hb y (by
  unfold netsF
  rw [List.mem_flatten]
  exact ⟨netF x, List.mem_map_of_mem hx, by rw [netF]; simp [hy]⟩)
theorem blobRows_len (l : List Blb) (h : RightB l) : ∀ x ∈ blobRows l, x.length ≤ 16384 := fun x hx => by
  unfold blobRows at hx
  rcases List.mem_cons.1 hx with rfl | hx
  · rw [put_one (by omega) (by have := h.1; omega)]; simp
  · obtain ⟨y, hy, hx⟩ := List.mem_flatMap.1 hx
    have hy' := h.2 y hy
    unfold blobR at hx
    simp only [List.mem_cons, List.not_mem_nil, or_false] at hx
    rcases hx with rfl | rfl
    · rw [put_one hy'.1.1 (by omega)]; simp
    · exact hy'.2.2
theorem saidR_iff {b : List Int} (hb : Bytes b) (e : Int) (l : List Blb) : saidR b = some (e, l) ↔ RightS e l ∧ sayF e l = some b := by
  constructor
  · intro h
    unfold saidR at h
    rcases hr : rowsF b with _ | rows
    · rw [hr] at h; cases h
    rw [hr] at h
    simp only at h
    obtain ⟨e1, e2⟩ := (rows_iff b rows).1 hr
    have hby := rows_bytes (by rw [← e1]; exact hb)
    by_cases h1 : b.length ≤ 16384 ∧ 2 ≤ rows.length ∧ (rows.getD 0 []).length = 1 ∧ (rows.getD 0 []).getD 0 0 ≤ 17
    · rw [if_pos h1] at h
      rcases rows with _ | ⟨c, rest⟩
      · exact absurd h1.2.1 (by simp)
      simp only [List.drop_succ_cons, List.drop_zero, List.getD_cons_zero] at h h1
      rcases ht : takeB rest with _ | bl
      · rw [ht] at h; cases h
      rw [ht] at h
      simp only at h
      by_cases h2 : c.getD 0 0 ≠ 0 ∧ bl ≠ []
      · rw [if_pos h2] at h; cases h
      rw [if_neg h2] at h
      injection h with h
      injection h with ha hc
      subst hc
      obtain ⟨i1, i2⟩ := (takeB_iff rest bl (fun x hx => ⟨hby x (List.mem_cons_of_mem _ hx), e2 x (List.mem_cons_of_mem _ hx)⟩)).1 ht
      obtain ⟨o1, o2, _⟩ := one_put h1.2.2.1 (hby c List.mem_cons_self)
      rw [ha] at o1 o2 h2
      have h17 : e ≤ 17 := by rw [← ha]; exact h1.2.2.2
      have hel : e ≠ 0 → bl = [] := fun he => Classical.byContradiction fun hn => h2 ⟨he, hn⟩
      refine ⟨⟨⟨o2, h17⟩, i2, hel⟩, ?_⟩
      unfold sayF sayRows
      rw [if_neg (by
        rintro (hg | ⟨hg, hg'⟩)
        · have := i2.1; omega
        · rw [hel hg] at hg'; simp at hg')]
      rw [o1, ← i1, ← e1, if_neg (by omega)]
    · rw [if_neg h1] at h; cases h
  · rintro ⟨⟨⟨h0, h17⟩, hB, hel⟩, hs⟩
    obtain ⟨e1, e2, _⟩ := sayF_some hs
    have hr : rowsF b = some (sayRows e l) := (rows_iff _ _).2 ⟨e1, fun x hx => by
      rcases List.mem_cons.1 hx with rfl | hx
      · rw [put_one h0 (by omega)]; simp
      · exact blobRows_len l hB x hx⟩
    have hby := rows_bytes (by rw [← e1]; exact hb)
    have ht : takeB (blobRows l) = some l := (takeB_iff _ l (fun x hx => ⟨hby x (List.mem_cons_of_mem _ hx), blobRows_len l hB x hx⟩)).2 ⟨rfl, hB⟩
    unfold saidR
    rw [hr]
    simp only [sayRows, List.drop_succ_cons, List.drop_zero, List.getD_cons_zero, put_one h0 (show e < 256 by omega)]
    rw [if_pos ⟨e2, by simp [blobRows], rfl, h17⟩, ht]
    simp only
    rw [if_neg (fun h => h.2 (hel h.1))]
/-- The two ways are one. -/
theorem said_same {b : List Int} (hb : Bytes b) : saidP b = saidR b := by
  rcases h : saidR b with _ | ⟨e, l⟩
  · rcases h2 : saidP b with _ | ⟨e, l⟩
    · rfl
    · rw [(saidR_iff hb e l).2 ((saidP_iff hb e l).1 h2)] at h; cases h
  · exact (saidP_iff hb e l).2 ((saidR_iff hb e l).1 h)
end Go.Proofs.YtfinfkodjkfibaaDoor.Msg

namespace Go.Proofs.YtfinfkodjkfibaaDoor.Msg
open Go Go.RowKit
set_option linter.unusedVariables false

structure Tst where
  num : Int
  absent : Bool
  want : List Int
structure Req where
  kind : Int
  index : List Int
  secret : List Int
  ends : Int
  enable : List Int
  tests : List Tst
  blobs : List Blb
def z32 : List Int := List.replicate 32 0
def bitL (a : Bool) : List Int := [if a then 1 else 0]
def testR (t : Tst) : List (List Int) := [putF t.num 1, bitL t.absent, t.want]
def askRows (r : Req) : List (List Int) := putF r.kind 1 :: r.index :: r.secret :: putF r.ends 4 :: r.enable :: putF (r.tests.length : Int) 1 :: (r.tests.flatMap testR ++ blobRows r.blobs)
def askF (r : Req) : Option (List Int) := if 32 < r.tests.length ∨ 32 < r.blobs.length then none else if 16384 < (netsF (askRows r)).length then none else some (netsF (askRows r))
def RightT (t : Tst) : Prop := (0 ≤ t.num ∧ t.num < 16) ∧ t.want.length = 32 ∧ Bytes t.want ∧ (t.absent = true → t.want = z32)
structure RightR (r : Req) : Prop where
  kind : 1 ≤ r.kind ∧ r.kind ≤ 6
  ends : 0 ≤ r.ends ∧ r.ends ≤ 1048576
  index : r.index.length = 16 ∧ Bytes r.index
  secret : r.secret.length = 16 ∧ Bytes r.secret
  enable : r.enable.length = 16 ∧ Bytes r.enable
  tests : r.tests.length ≤ 32 ∧ ∀ t ∈ r.tests, RightT t
  blobs : RightB r.blobs
theorem askF_some {r : Req} {b : List Int} (h : askF r = some b) : b = netsF (askRows r) ∧ b.length ≤ 16384 ∧ r.tests.length ≤ 32 ∧ r.blobs.length ≤ 32 := by
  unfold askF at h
  by_cases h1 : 32 < r.tests.length ∨ 32 < r.blobs.length
  · rw [if_pos h1] at h; cases h
  rw [if_neg h1] at h
  by_cases h2 : 16384 < (netsF (askRows r)).length
  · rw [if_pos h2] at h; cases h
  rw [if_neg h2] at h
  injection h with h
  exact ⟨h.symm, by rw [← h]; omega, by omega, by omega⟩
/-- The program's way. -/
def testBad (s : St) : Bool := (rowP 32 (numP 1 (shareP s).2).2).2.bad || (((numP 1 (shareP s).2).1 == 1) && decide ((rowP 32 (numP 1 (shareP s).2).2).1 ≠ z32))
def testP (s : St) : Tst × St := (⟨(shareP s).1, (numP 1 (shareP s).2).1 == 1, (rowP 32 (numP 1 (shareP s).2).2).1⟩, ⟨(rowP 32 (numP 1 (shareP s).2).2).2.b, testBad s⟩)
def testsN : Nat → St → List Tst × St
  | 0, s => ([], s)
  | n + 1, s => ((testP s).1 :: (testsN n (testP s).2).1, (testsN n (testP s).2).2)
structure Asked where
  k : Int × St
  i : List Int × St
  s : List Int × St
  e : Int × St
  en : List Int × St
  t : List Tst × St
  bl : List Blb × St
def rK (b : List Int) : Int × St := numP 1 ⟨b, false⟩
def rI (b : List Int) : List Int × St := rowP 16 (rK b).2
def rS (b : List Int) : List Int × St := rowP 16 (rI b).2
def rE (b : List Int) : Int × St := numP 4 (rS b).2
def rN (b : List Int) : List Int × St := rowP 16 (rE b).2
def rC (b : List Int) : Int × St := countP' (rN b).2
def rT (b : List Int) : List Tst × St := testsN (rC b).1.toNat (rC b).2
def rB (b : List Int) : List Blb × St := blobsP (rT b).2
def readP (b : List Int) : Asked := ⟨rK b, rI b, rS b, rE b, rN b, rT b, rB b⟩
def Asked.req (a : Asked) : Req := ⟨a.k.1, a.i.1, a.s.1, a.e.1, a.en.1, a.t.1, a.bl.1⟩
def askedP (b : List Int) : Option Req :=
  if (readP b).bl.2.bad = true ∨ (readP b).k.1 < 1 ∨ 6 < (readP b).k.1 ∨ 1048576 < (readP b).e.1 then none
  else if askF (readP b).req = some b then some (readP b).req else none
theorem shareP_bad {s : St} (h : s.bad = true) : (shareP s).2.bad = true := by
  have h1 : (numP 1 s).2.bad = true := rowP_bad h
  show ((numP 1 s).2.bad || _) = true
  rw [h1]; rfl
theorem testP_bad {s : St} (h : s.bad = true) : (testP s).2.bad = true := by
  have h2 : (rowP 32 (numP 1 (shareP s).2).2).2.bad = true := rowP_bad (rowP_bad (shareP_bad h))
  show testBad s = true
  unfold testBad
  rw [h2]; rfl
theorem testsN_bad : ∀ (n : Nat) {s : St}, s.bad = true → (testsN n s).2.bad = true
  | 0, _, h => h
  | n + 1, _, h => testsN_bad n (testP_bad h)
theorem test_well {s : St} (hb : Bytes s.b) (h : (testP s).2.bad = false) : RightT (testP s).1 ∧ Bytes (testP s).2.b := by
  have h' : testBad s = false := h
  unfold testBad at h'
  rw [Bool.or_eq_false_iff] at h'
  obtain ⟨h3, h4⟩ := h'
  have h2 : (numP 1 (shareP s).2).2.bad = false := good fun hh => by rw [rowP_bad hh] at h3; cases h3
  have h1 : (shareP s).2.bad = false := good fun hh => by rw [numP_bad hh] at h2; cases h2
  obtain ⟨a1, a2, a3⟩ := share_well hb h1
  obtain ⟨b1, _, _⟩ := num_well (w := 1) (by omega) a1.2.2 h2
  obtain ⟨c1, c2, c3, _⟩ := row_well (n := 32) b1.2.2 h3
  refine ⟨⟨⟨a2, a3⟩, by have := c2 (by omega); show (rowP 32 (numP 1 (shareP s).2).2).1.length = 32; omega, c3, fun ha => ?_⟩, c1.2.2⟩
  have ha' : ((numP 1 (shareP s).2).1 == 1) = true := ha
  rw [ha', Bool.true_and] at h4
  exact Classical.byContradiction fun hn => of_decide_eq_false h4 hn
theorem tests_well : ∀ (n : Nat) {s : St}, Bytes s.b → (testsN n s).2.bad = false → (∀ t ∈ (testsN n s).1, RightT t) ∧ Bytes (testsN n s).2.b ∧ (testsN n s).1.length = n
  | 0, s, hb, _ => ⟨fun t ht => (by cases ht), hb, rfl⟩
  | n + 1, s, hb, h => by
    have h1 : (testP s).2.bad = false := good fun hh => by
      have := testsN_bad n hh
      rw [show (testsN n (testP s).2).2.bad = false from h] at this
      cases this
    obtain ⟨a1, a2⟩ := test_well hb h1
    obtain ⟨i1, i2, i3⟩ := tests_well n a2 h
    refine ⟨fun t ht => ?_, i2, by show (_ :: (testsN n (testP s).2).1).length = _; rw [List.length_cons, i3]⟩
    rcases List.mem_cons.1 (show t ∈ (testP s).1 :: (testsN n (testP s).2).1 from ht) with rfl | ht
    · exact a1
    · exact i1 t ht
theorem test_net {t : Tst} (h : RightT t) {r : List Int} {bad : Bool} : testP ⟨netsF (testR t) ++ r, bad⟩ = (t, ⟨r, bad⟩) := by
  have e : netsF (testR t) ++ r = netF (putF t.num 1) ++ (netF (bitL t.absent) ++ (netF t.want ++ r)) := by simp [testR, netsF]
  have hbit : netF (bitL t.absent) = netF (putF (((if t.absent then 1 else 0 : Nat) : Int)) 1) := by
    congr 1
    cases t.absent <;> (unfold bitL; rw [put_one (by simp) (by simp)]; rfl)
  have hsh := share_net h.1.1 h.1.2 (r := netF (bitL t.absent) ++ (netF t.want ++ r)) (bad := bad)
  have hnu : numP 1 ⟨netF (bitL t.absent) ++ (netF t.want ++ r), bad⟩ = (((if t.absent then 1 else 0 : Nat) : Int), ⟨netF t.want ++ r, bad⟩) := by
    rw [hbit]
    exact num_net (N := if t.absent then 1 else 0) (w := 1) (by omega) (by split <;> omega)
  have hro := row_net (n := 32) (x := t.want) (r := r) (bad := bad) (by rw [h.2.1]; omega) (fun _ => by rw [h.2.1]; rfl)
  obtain ⟨num, absent, want⟩ := t
  unfold testP testBad
  rw [e, hsh]
  simp only [hnu, hro]
  cases absent
  · simp
  · have hw : want = z32 := h.2.2.2 rfl
    simp [hw]
theorem tests_net : ∀ (l : List Tst), (∀ t ∈ l, RightT t) → ∀ {r : List Int} {bad : Bool}, testsN l.length ⟨netsF (l.flatMap testR) ++ r, bad⟩ = (l, ⟨r, bad⟩)
  | [], _, r, bad => by simp [testsN, netsF]
  | t :: l, h, r, bad => by
    have ih := tests_net l (fun y hy => h y (List.mem_cons_of_mem _ hy)) (r := r) (bad := bad)
    have ht := test_net (h t List.mem_cons_self) (r := netsF (l.flatMap testR) ++ r) (bad := bad)
    rw [List.length_cons, testsN, List.flatMap_cons, netsF_app, List.append_assoc, ht]
    simp only [ih]
theorem askedP_iff {b : List Int} (hb : Bytes b) (q : Req) : askedP b = some q ↔ RightR q ∧ askF q = some b := by
  constructor
  · intro h
    unfold askedP at h
    by_cases h1 : (readP b).bl.2.bad = true ∨ (readP b).k.1 < 1 ∨ 6 < (readP b).k.1 ∨ 1048576 < (readP b).e.1
    · rw [if_pos h1] at h; cases h
    rw [if_neg h1] at h
    by_cases h2 : askF (readP b).req = some b
    · rw [if_pos h2] at h
      injection h with h
      subst h
      have g8 : (readP b).bl.2.bad = false := good fun h => h1 (.inl h)
      have hk : ¬ (readP b).k.1 < 1 := fun h => h1 (.inr (.inl h))
      have hk6 : ¬ 6 < (readP b).k.1 := fun h => h1 (.inr (.inr (.inl h)))
      have he : ¬ 1048576 < (readP b).e.1 := fun h => h1 (.inr (.inr (.inr h)))
      have rk : rK b = numP 1 ⟨b, false⟩ := by rw [rK]
      have ri : rI b = rowP 16 (rK b).2 := by rw [rI]
      have rs : rS b = rowP 16 (rI b).2 := by rw [rS]
      have re : rE b = numP 4 (rS b).2 := by rw [rE]
      have rn : rN b = rowP 16 (rE b).2 := by rw [rN]
      have rt : rT b = testsN (countP' (rN b).2).1.toNat (countP' (rN b).2).2 := by rw [rT, rC]
      have rb : rB b = blobsP (rT b).2 := by rw [rB]
      have hreq : (readP b).req = ⟨(rK b).1, (rI b).1, (rS b).1, (rE b).1, (rN b).1, (rT b).1, (rB b).1⟩ := by rw [Asked.req, readP]
      rw [hreq] at h2 ⊢
      clear hreq
      simp only [readP] at g8 hk hk6 he
      clear h1
      generalize rK b = k at *
      generalize rI b = i at *
      generalize rS b = s at *
      generalize rE b = e at *
      generalize rN b = en at *
      generalize rT b = ts at *
      generalize rB b = bl at *
      have g7 : (blobsP ts.2).2.bad = false := by rw [← rb]; exact g8
      have g6 : ts.2.bad = false := good fun h => by rw [blobsP_bad h] at g7; cases g7
      have g5 : (countP' en.2).2.bad = false := good fun h => by
        have : ts.2.bad = true := by rw [rt]; exact testsN_bad _ h
        rw [this] at g6; cases g6
      have g4 : en.2.bad = false := good fun h => by rw [countP_bad h] at g5; cases g5
      have g3 : e.2.bad = false := good fun h => by rw [rn, rowP_bad h] at g4; cases g4
      have g2 : s.2.bad = false := good fun h => by rw [re, numP_bad h] at g3; cases g3
      have g1 : i.2.bad = false := good fun h => by rw [rs, rowP_bad h] at g2; cases g2
      have g0 : k.2.bad = false := good fun h => by rw [ri, rowP_bad h] at g1; cases g1
      obtain ⟨a1, a2, _⟩ := num_well (w := 1) (by omega) (s := ⟨b, false⟩) hb (by rw [← rk]; exact g0)
      rw [← rk] at a1 a2
      obtain ⟨b1, b2, b3, _⟩ := row_well (n := 16) (s := k.2) a1.2.2 (by rw [← ri]; exact g1)
      rw [← ri] at b1 b2 b3
      obtain ⟨c1, c2, c3, _⟩ := row_well (n := 16) (s := i.2) b1.2.2 (by rw [← rs]; exact g2)
      rw [← rs] at c1 c2 c3
      obtain ⟨d1, d2, d3⟩ := num_well (w := 4) (by omega) (s := s.2) c1.2.2 (by rw [← re]; exact g3)
      rw [← re] at d1 d2
      obtain ⟨e1, e2, e3, _⟩ := row_well (n := 16) (s := e.2) d1.2.2 (by rw [← rn]; exact g4)
      rw [← rn] at e1 e2 e3
      obtain ⟨f1, f2, f3⟩ := count_well (s := en.2) e1.2.2 g5
      obtain ⟨t1, t2, t3⟩ := tests_well (countP' en.2).1.toNat (s := (countP' en.2).2) f1.2.2 (by rw [← rt]; exact g6)
      rw [← rt] at t1 t2 t3
      obtain ⟨u1, u2⟩ := blobs_well (s := ts.2) t2 g7
      rw [← rb] at u2
      exact ⟨⟨⟨by show 1 ≤ k.1; omega, by show k.1 ≤ 6; omega⟩, ⟨d2, by show e.1 ≤ 1048576; omega⟩, ⟨by have := b2 (by omega); show i.1.length = 16; omega, b3⟩, ⟨by have := c2 (by omega); show s.1.length = 16; omega, c3⟩, ⟨by have := e2 (by omega); show en.1.length = 16; omega, e3⟩, ⟨by show ts.1.length ≤ 32; omega, t1⟩, u2⟩, h2⟩
    · rw [if_neg h2] at h; cases h
  · rintro ⟨R, hs⟩
    obtain ⟨e1, _⟩ := askF_some hs
    have hread : readP b = ⟨(q.kind, ⟨netsF ((askRows q).drop 1), false⟩), (q.index, ⟨netsF ((askRows q).drop 2), false⟩), (q.secret, ⟨netsF ((askRows q).drop 3), false⟩), (q.ends, ⟨netsF ((askRows q).drop 4), false⟩), (q.enable, ⟨netsF ((askRows q).drop 5), false⟩), (q.tests, ⟨netsF (blobRows q.blobs), false⟩), (q.blobs, ⟨[], false⟩)⟩ := by
      obtain ⟨K, hK⟩ := Int.eq_ofNat_of_zero_le (show 0 ≤ q.kind by have := R.kind; omega)
      obtain ⟨E, hE⟩ := Int.eq_ofNat_of_zero_le R.ends.1
      have x1 := num_net (N := K) (w := 1) (by omega) (by have := R.kind; omega) (r := netsF ((askRows q).drop 1)) (bad := false)
      rw [← hK] at x1
      have x2 := row_net (n := 16) (x := q.index) (r := netsF ((askRows q).drop 2)) (bad := false) (by rw [R.index.1]; omega) (fun _ => by rw [R.index.1]; rfl)
      have x3 := row_net (n := 16) (x := q.secret) (r := netsF ((askRows q).drop 3)) (bad := false) (by rw [R.secret.1]; omega) (fun _ => by rw [R.secret.1]; rfl)
      have x4 := num_net (N := E) (w := 4) (by omega) (by have := R.ends; omega) (r := netsF ((askRows q).drop 4)) (bad := false)
      rw [← hE] at x4
      have x5 := row_net (n := 16) (x := q.enable) (r := netsF ((askRows q).drop 5)) (bad := false) (by rw [R.enable.1]; omega) (fun _ => by rw [R.enable.1]; rfl)
      have x6 := count_net (N := q.tests.length) R.tests.1 (r := netsF ((askRows q).drop 6)) (bad := false)
      have x7 := tests_net q.tests R.tests.2 (r := netsF (blobRows q.blobs)) (bad := false)
      have x8 := blobs_net R.blobs (r := []) (bad := false)
      rw [List.append_nil] at x8
      have z0 : netsF ((askRows q).drop 0) = netF (putF q.kind 1) ++ netsF ((askRows q).drop 1) := by rw [show (askRows q).drop 0 = (putF q.kind 1) :: (askRows q).drop 1 from rfl, netsF_cons]
      have z1 : netsF ((askRows q).drop 1) = netF (q.index) ++ netsF ((askRows q).drop 2) := by rw [show (askRows q).drop 1 = (q.index) :: (askRows q).drop 2 from rfl, netsF_cons]
      have z2 : netsF ((askRows q).drop 2) = netF (q.secret) ++ netsF ((askRows q).drop 3) := by rw [show (askRows q).drop 2 = (q.secret) :: (askRows q).drop 3 from rfl, netsF_cons]
      have z3 : netsF ((askRows q).drop 3) = netF (putF q.ends 4) ++ netsF ((askRows q).drop 4) := by rw [show (askRows q).drop 3 = (putF q.ends 4) :: (askRows q).drop 4 from rfl, netsF_cons]
      have z4 : netsF ((askRows q).drop 4) = netF (q.enable) ++ netsF ((askRows q).drop 5) := by rw [show (askRows q).drop 4 = (q.enable) :: (askRows q).drop 5 from rfl, netsF_cons]
      have z5 : netsF ((askRows q).drop 5) = netF (putF (q.tests.length : Int) 1) ++ netsF ((askRows q).drop 6) := by rw [show (askRows q).drop 5 = (putF (q.tests.length : Int) 1) :: (askRows q).drop 6 from rfl, netsF_cons]
      have y0 : numP 1 ⟨b, false⟩ = (q.kind, ⟨netsF ((askRows q).drop 1), false⟩) := by rw [e1, show netsF (askRows q) = netsF ((askRows q).drop 0) from rfl, z0]; exact x1
      have y1 : rowP 16 ⟨netsF ((askRows q).drop 1), false⟩ = (q.index, ⟨netsF ((askRows q).drop 2), false⟩) := by rw [z1]; exact x2
      have y2 : rowP 16 ⟨netsF ((askRows q).drop 2), false⟩ = (q.secret, ⟨netsF ((askRows q).drop 3), false⟩) := by rw [z2]; exact x3
      have y3 : numP 4 ⟨netsF ((askRows q).drop 3), false⟩ = (q.ends, ⟨netsF ((askRows q).drop 4), false⟩) := by rw [z3]; exact x4
      have y4 : rowP 16 ⟨netsF ((askRows q).drop 4), false⟩ = (q.enable, ⟨netsF ((askRows q).drop 5), false⟩) := by rw [z4]; exact x5
      have y5 : countP' ⟨netsF ((askRows q).drop 5), false⟩ = ((q.tests.length : Int), ⟨netsF ((askRows q).drop 6), false⟩) := by rw [z5]; exact x6
      have y6 : testsN q.tests.length ⟨netsF ((askRows q).drop 6), false⟩ = (q.tests, ⟨netsF (blobRows q.blobs), false⟩) := by
        have : (askRows q).drop 6 = q.tests.flatMap testR ++ blobRows q.blobs := rfl
        rw [this, netsF_app]
        exact x7
      have k0 : rK b = (q.kind, ⟨netsF ((askRows q).drop 1), false⟩) := by rw [rK]; exact y0
      have k1 : rI b = (q.index, ⟨netsF ((askRows q).drop 2), false⟩) := by rw [rI, k0]; exact y1
      have k2 : rS b = (q.secret, ⟨netsF ((askRows q).drop 3), false⟩) := by rw [rS, k1]; exact y2
      have k3 : rE b = (q.ends, ⟨netsF ((askRows q).drop 4), false⟩) := by rw [rE, k2]; exact y3
      have k4 : rN b = (q.enable, ⟨netsF ((askRows q).drop 5), false⟩) := by rw [rN, k3]; exact y4
      have k5 : rC b = ((q.tests.length : Int), ⟨netsF ((askRows q).drop 6), false⟩) := by rw [rC, k4]; exact y5
      have k6 : rT b = (q.tests, ⟨netsF (blobRows q.blobs), false⟩) := by rw [rT, k5]; simp only [Int.toNat_natCast]; exact y6
      have k7 : rB b = (q.blobs, ⟨[], false⟩) := by rw [rB, k6]; exact x8
      rw [readP, k0, k1, k2, k3, k4, k6, k7]
    unfold askedP
    rw [hread]
    rw [if_neg (by
      rintro (h | h | h | h)
      · cases h
      · exact absurd h (by show ¬ q.kind < 1; have := R.kind; omega)
      · exact absurd h (by show ¬ 6 < q.kind; have := R.kind; omega)
      · exact absurd h (by show ¬ 1048576 < q.ends; have := R.ends; omega))]
    exact if_pos hs
/-- The document's way. -/
def testsB : Nat → List (List Int) → Option (List Tst × List (List Int))
  | 0, l => some ([], l)
  | n + 1, a :: x :: w :: l =>
    if a.length = 1 ∧ a.getD 0 0 < 16 ∧ x.length = 1 ∧ x.getD 0 0 ≤ 1 ∧ w.length = 32 ∧ (x.getD 0 0 = 1 → w = z32) then
      (testsB n l).map fun p => (⟨a.getD 0 0, x.getD 0 0 == 1, w⟩ :: p.1, p.2)
    else none
  | _ + 1, _ => none
theorem testsB_iff : ∀ (n : Nat) (rows : List (List Int)) (l : List Tst) (rest : List (List Int)), (∀ x ∈ rows, Bytes x ∧ x.length ≤ 16384) → (testsB n rows = some (l, rest) ↔ rows = l.flatMap testR ++ rest ∧ l.length = n ∧ ∀ t ∈ l, RightT t)
  | 0, rows, l, rest, h => by
    rw [testsB]
    constructor
    · intro e; injection e with e; injection e with e1 e2; subst e1 e2; exact ⟨rfl, rfl, fun t ht => by cases ht⟩
    · rintro ⟨e, hl, _⟩
      obtain rfl := List.eq_nil_of_length_eq_zero hl
      rw [e]; rfl
  | n + 1, [], l, rest, h => by
    constructor
    · intro e; cases e
    · rintro ⟨e, hl, _⟩
      rcases l with _ | ⟨t, l⟩
      · cases hl
      · simp [testR] at e
  | n + 1, [a], l, rest, h => by
    constructor
    · intro e; cases e
    · rintro ⟨e, hl, _⟩
      rcases l with _ | ⟨t, l⟩
      · cases hl
      · simp [testR] at e
  | n + 1, [a, x], l, rest, h => by
    constructor
    · intro e; cases e
    · rintro ⟨e, hl, _⟩
      rcases l with _ | ⟨t, l⟩
      · cases hl
      · simp [testR] at e
  | n + 1, a :: x :: w :: rows, l, rest, h => by
    have ih := testsB_iff n rows
    have ha := h a (by simp)
    have hx := h x (by simp)
    have hw := h w (by simp)
    have hr : ∀ y ∈ rows, Bytes y ∧ y.length ≤ 16384 := fun y hy => h y (by simp [hy])
    rw [testsB]
    constructor
    · intro e
      by_cases hc : a.length = 1 ∧ a.getD 0 0 < 16 ∧ x.length = 1 ∧ x.getD 0 0 ≤ 1 ∧ w.length = 32 ∧ (x.getD 0 0 = 1 → w = z32)
      · rw [if_pos hc] at e
        rcases hp : testsB n rows with _ | ⟨l', r'⟩
        · rw [hp] at e; cases e
        rw [hp] at e
        injection e with e
        injection e with e1 e2
        subst e1 e2
        obtain ⟨i1, i2, i3⟩ := (ih l' r' hr).1 hp
        obtain ⟨c1, c2, c3, c4, c5, c6⟩ := hc
        obtain ⟨o1, o2, _⟩ := one_put c1 ha.1
        obtain ⟨p1, p2, _⟩ := one_put c3 hx.1
        have hbit : bitL (x.getD 0 0 == 1) = x := by
          rw [← p1, put_one p2 (by omega)]
          unfold bitL
          by_cases h1 : x.getD 0 0 = 1
          · rw [h1]; rfl
          · have h0 : x.getD 0 0 = 0 := by omega
            rw [h0]; rfl
        refine ⟨?_, by simp [i2], fun t ht => ?_⟩
        · rw [List.flatMap_cons]
          show a :: x :: w :: rows = putF (a.getD 0 0) 1 :: bitL (x.getD 0 0 == 1) :: w :: (l'.flatMap testR ++ r')
          rw [o1, hbit, ← i1]
        · rcases List.mem_cons.1 ht with rfl | ht
          · exact ⟨⟨o2, c2⟩, c5, hw.1, fun hh => c6 (by simpa using hh)⟩
          · exact i3 t ht
      · rw [if_neg hc] at e; cases e
    · rintro ⟨e, hl, hT⟩
      rcases l with _ | ⟨t, l⟩
      · cases hl
      · have e' : a :: x :: w :: rows = putF t.num 1 :: bitL t.absent :: t.want :: (l.flatMap testR ++ rest) := by rw [e]; simp [testR]
        injection e' with e1 e'
        injection e' with e2 e'
        injection e' with e3 e4
        have ht := hT t List.mem_cons_self
        rw [put_one ht.1.1 (by have := ht.1.2; omega)] at e1
        subst e1 e2 e3
        have hi := (ih l rest hr).2 ⟨e4, by simpa using hl, fun y hy => hT y (List.mem_cons_of_mem _ hy)⟩
        obtain ⟨num, absent, want⟩ := t
        cases absent
        · have b0 : (bitL false).getD 0 0 = 0 := rfl
          rw [if_pos ⟨rfl, ht.1.2, rfl, by rw [b0]; decide, ht.2.1, fun hh => by rw [b0] at hh; exact absurd hh (by decide)⟩, hi]
          rfl
        · have b1 : (bitL true).getD 0 0 = 1 := rfl
          rw [if_pos ⟨rfl, ht.1.2, rfl, by rw [b1]; decide, ht.2.1, fun _ => ht.2.2.2 rfl⟩, hi]
          rfl
def askedR (b : List Int) : Option Req :=
  match rowsF b with
  | some (k :: i :: s :: e :: en :: c :: rest) =>
    if b.length ≤ 16384 ∧ k.length = 1 ∧ i.length = 16 ∧ s.length = 16 ∧ e.length = 4 ∧ en.length = 16 ∧ c.length = 1 ∧ 1 ≤ k.getD 0 0 ∧ k.getD 0 0 ≤ 6 ∧ getN e ≤ 1048576 ∧ c.getD 0 0 ≤ 32 then
      match testsB (c.getD 0 0).toNat rest with
      | some (ts, rest') => (takeB rest').map fun bl => ⟨k.getD 0 0, i, s, (getN e : Int), en, ts, bl⟩
      | none => none
    else none
  | _ => none
theorem askRows_len (q : Req) (R : RightR q) : ∀ x ∈ askRows q, x.length ≤ 16384 := fun x hx => by
  unfold askRows at hx
  simp only [List.mem_cons, List.mem_append, List.mem_flatMap] at hx
  have p1 : (putF q.kind 1).length ≤ 16384 := by rw [put_one (by have := R.kind; omega) (by have := R.kind; omega)]; simp
  have p4 : (putF q.ends 4).length ≤ 16384 := by
    have h : (putF q.ends 4).length = wid 4 := putN_len _ _
    have := wid_le 4
    omega
  have pc : (putF (q.tests.length : Int) 1).length ≤ 16384 := by rw [put_one (by omega) (by have := R.tests.1; omega)]; simp
  rcases hx with rfl | rfl | rfl | rfl | rfl | rfl | ⟨t, ht, hx⟩ | hx
  · exact p1
  · rw [R.index.1]; omega
  · rw [R.secret.1]; omega
  · exact p4
  · rw [R.enable.1]; omega
  · exact pc
  · have hT := R.tests.2 t ht
    unfold testR at hx
    simp only [List.mem_cons, List.not_mem_nil, or_false] at hx
    rcases hx with rfl | rfl | rfl
    · rw [put_one hT.1.1 (by have := hT.1.2; omega)]; simp
    · simp [bitL]
    · rw [hT.2.1]; omega
  · exact blobRows_len q.blobs R.blobs x hx
theorem askedR_iff {b : List Int} (hb : Bytes b) (q : Req) : askedR b = some q ↔ RightR q ∧ askF q = some b := by
  constructor
  · intro h
    unfold askedR at h
    rcases hr : rowsF b with _ | rows
    · rw [hr] at h; cases h
    rw [hr] at h
    obtain ⟨e1, e2⟩ := (rows_iff b rows).1 hr
    have hby := rows_bytes (by rw [← e1]; exact hb)
    match rows, h, e1, e2, hby with
    | k :: i :: s :: e :: en :: c :: rest, h, e1, e2, hby =>
      simp only at h
      by_cases h1 : b.length ≤ 16384 ∧ k.length = 1 ∧ i.length = 16 ∧ s.length = 16 ∧ e.length = 4 ∧ en.length = 16 ∧ c.length = 1 ∧ 1 ≤ k.getD 0 0 ∧ k.getD 0 0 ≤ 6 ∧ getN e ≤ 1048576 ∧ c.getD 0 0 ≤ 32
      · rw [if_pos h1] at h
        obtain ⟨l0, l1, l2, l3, l4, l5, l6, m1, m2, m3, m4⟩ := h1
        rcases ht : testsB (c.getD 0 0).toNat rest with _ | ⟨ts, rest'⟩
        · rw [ht] at h; cases h
        rw [ht] at h
        simp only at h
        rcases hB : takeB rest' with _ | bl
        · rw [hB] at h; cases h
        rw [hB] at h
        injection h with h
        subst h
        have hrest : ∀ x ∈ rest, Bytes x ∧ x.length ≤ 16384 := fun x hx => ⟨hby x (by simp [hx]), e2 x (by simp [hx])⟩
        obtain ⟨t1, t2, t3⟩ := (testsB_iff _ rest ts rest' hrest).1 ht
        obtain ⟨u1, u2⟩ := (takeB_iff rest' bl (fun x hx => hrest x (by rw [t1]; exact List.mem_append_right _ hx))).1 hB
        obtain ⟨o1, o2, _⟩ := one_put l1 (hby k (by simp))
        obtain ⟨p1, p2, _⟩ := one_put l6 (hby c (by simp))
        have hE : putF ((getN e : Nat) : Int) 4 = e := by
          have := put_nat (getN e) 4 (by omega)
          rw [show ((4 : Nat) : Int) = 4 from rfl] at this
          rw [this, put_get 4 e l4 (hby e (by simp))]
        have hC : ((ts.length : Nat) : Int) = c.getD 0 0 := by rw [t2]; omega
        have hq : b = netsF (askRows ⟨k.getD 0 0, i, s, (getN e : Int), en, ts, bl⟩) := by
          unfold askRows
          simp only [o1, hE, hC, p1, ← u1, ← t1]
          exact e1
        refine ⟨⟨⟨m1, m2⟩, ⟨Int.natCast_nonneg _, by show ((getN e : Nat) : Int) ≤ 1048576; omega⟩, ⟨l2, hby i (by simp)⟩, ⟨l3, hby s (by simp)⟩, ⟨l5, hby en (by simp)⟩, ⟨by show ts.length ≤ 32; omega, t3⟩, u2⟩, ?_⟩
        unfold askF
        rw [if_neg (by
          rintro (h | h)
          · exact absurd h (by show ¬ 32 < ts.length; omega)
          · exact absurd h (by show ¬ 32 < bl.length; have := u2.1; omega)), ← hq, if_neg (by omega)]
      · rw [if_neg h1] at h; cases h
  · rintro ⟨R, hs⟩
    obtain ⟨e1, e2, _⟩ := askF_some hs
    have hr : rowsF b = some (askRows q) := (rows_iff _ _).2 ⟨e1, askRows_len q R⟩
    have hby := rows_bytes (by rw [← e1]; exact hb)
    have hk : putF q.kind 1 = [q.kind] := put_one (by have := R.kind; omega) (by have := R.kind; omega)
    have hc : putF (q.tests.length : Int) 1 = [(q.tests.length : Int)] := put_one (by omega) (by have := R.tests.1; omega)
    obtain ⟨E, hE⟩ := Int.eq_ofNat_of_zero_le R.ends.1
    have hEb : E < 256 ^ 4 := by have := R.ends; omega
    have he : putF q.ends 4 = putN E 4 := by rw [hE]; exact put_nat E 4 (by omega)
    have hin : ∀ x ∈ q.tests.flatMap testR ++ blobRows q.blobs, x ∈ askRows q := fun x hx => List.mem_cons_of_mem _ (List.mem_cons_of_mem _ (List.mem_cons_of_mem _ (List.mem_cons_of_mem _ (List.mem_cons_of_mem _ (List.mem_cons_of_mem _ hx)))))
    have hmem : ∀ x ∈ q.tests.flatMap testR ++ blobRows q.blobs, Bytes x ∧ x.length ≤ 16384 := fun x hx => ⟨hby x (hin x hx), askRows_len q R x (hin x hx)⟩
    have ht : testsB q.tests.length (q.tests.flatMap testR ++ blobRows q.blobs) = some (q.tests, blobRows q.blobs) := (testsB_iff _ _ _ _ hmem).2 ⟨rfl, rfl, R.tests.2⟩
    have hB : takeB (blobRows q.blobs) = some q.blobs := (takeB_iff _ _ (fun x hx => hmem x (List.mem_append_right _ hx))).2 ⟨rfl, R.blobs⟩
    unfold askedR
    rw [hr]
    unfold askRows
    simp only [hk, hc, he, List.getD_cons_zero, List.length_singleton, Int.toNat_natCast, get_put E 4 hEb, putN_len]
    rw [if_pos ⟨e2, trivial, R.index.1, R.secret.1, trivial, R.enable.1, trivial, R.kind.1, R.kind.2, by have := R.ends; omega, by have := R.tests.1; omega⟩, ht]
    simp only [hB, Option.map_some]
    congr 1
    rw [← hE]
theorem asked_same {b : List Int} (hb : Bytes b) : askedP b = askedR b := by
  rcases h : askedR b with _ | q
  · rcases h2 : askedP b with _ | q
    · rfl
    · rw [(askedR_iff hb q).2 ((askedP_iff hb q).1 h2)] at h; cases h
  · exact (askedP_iff hb q).2 ((askedR_iff hb q).1 h)
end Go.Proofs.YtfinfkodjkfibaaDoor.Msg

namespace Go.Proofs.YtfinfkodjkfibaaDoor.Msg
open Go Go.RowKit
set_option linter.unusedVariables false
theorem read_net (q : Req) (R : RightR q) (r : List Int) : readP (netsF (askRows q) ++ r) = ⟨(q.kind, ⟨netsF ((askRows q).drop 1) ++ r, false⟩), (q.index, ⟨netsF ((askRows q).drop 2) ++ r, false⟩), (q.secret, ⟨netsF ((askRows q).drop 3) ++ r, false⟩), (q.ends, ⟨netsF ((askRows q).drop 4) ++ r, false⟩), (q.enable, ⟨netsF ((askRows q).drop 5) ++ r, false⟩), (q.tests, ⟨netsF (blobRows q.blobs) ++ r, false⟩), (q.blobs, ⟨r, false⟩)⟩ := by
  obtain ⟨K, hK⟩ := Int.eq_ofNat_of_zero_le (show 0 ≤ q.kind by have := R.kind; omega)
  obtain ⟨E, hE⟩ := Int.eq_ofNat_of_zero_le R.ends.1
  have x1 := num_net (N := K) (w := 1) (by omega) (by have := R.kind; omega) (r := netsF ((askRows q).drop 1) ++ r) (bad := false)
  rw [← hK] at x1
  have x2 := row_net (n := 16) (x := q.index) (r := netsF ((askRows q).drop 2) ++ r) (bad := false) (by rw [R.index.1]; omega) (fun _ => by rw [R.index.1]; rfl)
  have x3 := row_net (n := 16) (x := q.secret) (r := netsF ((askRows q).drop 3) ++ r) (bad := false) (by rw [R.secret.1]; omega) (fun _ => by rw [R.secret.1]; rfl)
  have x4 := num_net (N := E) (w := 4) (by omega) (by have := R.ends; omega) (r := netsF ((askRows q).drop 4) ++ r) (bad := false)
  rw [← hE] at x4
  have x5 := row_net (n := 16) (x := q.enable) (r := netsF ((askRows q).drop 5) ++ r) (bad := false) (by rw [R.enable.1]; omega) (fun _ => by rw [R.enable.1]; rfl)
  have x6 := count_net (N := q.tests.length) R.tests.1 (r := netsF ((askRows q).drop 6) ++ r) (bad := false)
  have x7 := tests_net q.tests R.tests.2 (r := netsF (blobRows q.blobs) ++ r) (bad := false)
  have x8 := blobs_net R.blobs (r := r) (bad := false)
  have z0 : netsF ((askRows q).drop 0) = netF (putF q.kind 1) ++ netsF ((askRows q).drop 1) := by rw [show (askRows q).drop 0 = (putF q.kind 1) :: (askRows q).drop 1 from rfl, netsF_cons]
  have z1 : netsF ((askRows q).drop 1) = netF (q.index) ++ netsF ((askRows q).drop 2) := by rw [show (askRows q).drop 1 = (q.index) :: (askRows q).drop 2 from rfl, netsF_cons]
  have z2 : netsF ((askRows q).drop 2) = netF (q.secret) ++ netsF ((askRows q).drop 3) := by rw [show (askRows q).drop 2 = (q.secret) :: (askRows q).drop 3 from rfl, netsF_cons]
  have z3 : netsF ((askRows q).drop 3) = netF (putF q.ends 4) ++ netsF ((askRows q).drop 4) := by rw [show (askRows q).drop 3 = (putF q.ends 4) :: (askRows q).drop 4 from rfl, netsF_cons]
  have z4 : netsF ((askRows q).drop 4) = netF (q.enable) ++ netsF ((askRows q).drop 5) := by rw [show (askRows q).drop 4 = (q.enable) :: (askRows q).drop 5 from rfl, netsF_cons]
  have z5 : netsF ((askRows q).drop 5) = netF (putF (q.tests.length : Int) 1) ++ netsF ((askRows q).drop 6) := by rw [show (askRows q).drop 5 = (putF (q.tests.length : Int) 1) :: (askRows q).drop 6 from rfl, netsF_cons]
  have y0 : numP 1 ⟨netsF (askRows q) ++ r, false⟩ = (q.kind, ⟨netsF ((askRows q).drop 1) ++ r, false⟩) := by rw [show netsF (askRows q) = netsF ((askRows q).drop 0) from rfl, z0, List.append_assoc]; exact x1
  have y1 : rowP 16 ⟨netsF ((askRows q).drop 1) ++ r, false⟩ = (q.index, ⟨netsF ((askRows q).drop 2) ++ r, false⟩) := by rw [z1, List.append_assoc]; exact x2
  have y2 : rowP 16 ⟨netsF ((askRows q).drop 2) ++ r, false⟩ = (q.secret, ⟨netsF ((askRows q).drop 3) ++ r, false⟩) := by rw [z2, List.append_assoc]; exact x3
  have y3 : numP 4 ⟨netsF ((askRows q).drop 3) ++ r, false⟩ = (q.ends, ⟨netsF ((askRows q).drop 4) ++ r, false⟩) := by rw [z3, List.append_assoc]; exact x4
  have y4 : rowP 16 ⟨netsF ((askRows q).drop 4) ++ r, false⟩ = (q.enable, ⟨netsF ((askRows q).drop 5) ++ r, false⟩) := by rw [z4, List.append_assoc]; exact x5
  have y5 : countP' ⟨netsF ((askRows q).drop 5) ++ r, false⟩ = ((q.tests.length : Int), ⟨netsF ((askRows q).drop 6) ++ r, false⟩) := by rw [z5, List.append_assoc]; exact x6
  have y6 : testsN q.tests.length ⟨netsF ((askRows q).drop 6) ++ r, false⟩ = (q.tests, ⟨netsF (blobRows q.blobs) ++ r, false⟩) := by
    have : (askRows q).drop 6 = q.tests.flatMap testR ++ blobRows q.blobs := rfl
    rw [this, netsF_app, List.append_assoc]
    exact x7
  have k0 : rK (netsF (askRows q) ++ r) = (q.kind, ⟨netsF ((askRows q).drop 1) ++ r, false⟩) := by rw [rK]; exact y0
  have k1 : rI (netsF (askRows q) ++ r) = (q.index, ⟨netsF ((askRows q).drop 2) ++ r, false⟩) := by rw [rI, k0]; exact y1
  have k2 : rS (netsF (askRows q) ++ r) = (q.secret, ⟨netsF ((askRows q).drop 3) ++ r, false⟩) := by rw [rS, k1]; exact y2
  have k3 : rE (netsF (askRows q) ++ r) = (q.ends, ⟨netsF ((askRows q).drop 4) ++ r, false⟩) := by rw [rE, k2]; exact y3
  have k4 : rN (netsF (askRows q) ++ r) = (q.enable, ⟨netsF ((askRows q).drop 5) ++ r, false⟩) := by rw [rN, k3]; exact y4
  have k5 : rC (netsF (askRows q) ++ r) = ((q.tests.length : Int), ⟨netsF ((askRows q).drop 6) ++ r, false⟩) := by rw [rC, k4]; exact y5
  have k6 : rT (netsF (askRows q) ++ r) = (q.tests, ⟨netsF (blobRows q.blobs) ++ r, false⟩) := by rw [rT, k5]; simp only [Int.toNat_natCast]; exact y6
  have k7 : rB (netsF (askRows q) ++ r) = (q.blobs, ⟨r, false⟩) := by rw [rB, k6]; exact x8
  rw [readP, k0, k1, k2, k3, k4, k6, k7]
theorem ask_prefix {a q : Req} (Ra : RightR a) (Rq : RightR q) {r : List Int} (h : netsF (askRows a) = netsF (askRows q) ++ r) : a = q ∧ r = [] := by
  have h1 := read_net a Ra []
  have h2 := read_net q Rq r
  rw [List.append_nil, h, h2] at h1
  have e1 := congrArg Asked.req h1
  have e2 := congrArg (fun x : Asked => x.bl.2.b) h1
  exact ⟨e1.symm, e2⟩
theorem ask_inj {a q : Req} (Ra : RightR a) (Rq : RightR q) {b : List Int} (h : askF a = some b) (h' : askF q = some b) : a = q :=
  (ask_prefix Ra Rq (r := []) (by rw [List.append_nil, ← (askF_some h).1, ← (askF_some h').1])).1
theorem asked_cut {a : Req} (Ra : RightR a) {b : List Int} (h : askF a = some b) (hb : Bytes b) {k : Nat} (hk : k < b.length) : askedP (b.take k) = none := by
  rcases hq : askedP (b.take k) with _ | q
  · rfl
  obtain ⟨Rq, hs⟩ := (askedP_iff (fun x hx => hb x (List.mem_of_mem_take hx)) q).1 hq
  have e1 := (askF_some h).1
  have e2 := (askF_some hs).1
  have := (ask_prefix Ra Rq (r := b.drop k) (by rw [← e1, ← e2, List.take_append_drop])).2
  have hl := congrArg List.length this
  rw [List.length_drop] at hl
  simp at hl
  omega
theorem asked_more {a : Req} (Ra : RightR a) {b : List Int} (h : askF a = some b) {r : List Int} (hb : Bytes (b ++ r)) (hr : r ≠ []) : askedP (b ++ r) = none := by
  rcases hq : askedP (b ++ r) with _ | q
  · rfl
  obtain ⟨Rq, hs⟩ := (askedP_iff hb q).1 hq
  have e1 := (askF_some h).1
  have e2 := (askF_some hs).1
  exact absurd (ask_prefix Rq Ra (r := r) (by rw [← e2, ← e1])).2 hr
/-- Replies. -/
theorem say_prefix {e e' : Int} {l l' : List Blb} (h : RightS e l) (h' : RightS e' l') {r : List Int} (hx : netsF (sayRows e l) = netsF (sayRows e' l') ++ r) : (e = e' ∧ l = l') ∧ r = [] := by
  have key : ∀ (e : Int) (l : List Blb) (r : List Int), RightS e l → numP 1 ⟨netsF (sayRows e l) ++ r, false⟩ = (e, ⟨netsF (blobRows l) ++ r, false⟩) ∧ blobsP ⟨netsF (blobRows l) ++ r, false⟩ = (l, ⟨r, false⟩) := fun e l r R => by
    obtain ⟨N, rfl⟩ := Int.eq_ofNat_of_zero_le R.1.1
    refine ⟨?_, blobs_net R.2.1⟩
    rw [sayRows, netsF_cons, List.append_assoc]
    exact num_net (N := N) (w := 1) (by omega) (by have := R.1.2; omega)
  obtain ⟨k1, k2⟩ := key e l [] h
  obtain ⟨m1, m2⟩ := key e' l' r h'
  rw [List.append_nil, hx, m1] at k1
  injection k1 with k1 k3
  rw [← k3, m2] at k2
  injection k2 with k2 k4
  injection k4 with k4
  exact ⟨⟨k1.symm, k2.symm⟩, k4⟩
end Go.Proofs.YtfinfkodjkfibaaDoor.Msg

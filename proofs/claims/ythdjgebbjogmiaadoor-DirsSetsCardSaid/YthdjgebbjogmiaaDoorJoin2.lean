/- The statements' helps at bytes: Cut, Copy, Same. Condition: a copy stays below 2^47 bytes.
Base32 as a plain function: letters out of bytes, bytes out of letters, there and back.
Rows of bytes of the call's own, the spare cells bytes too; append onto them; conversions from and to strings. No condition. -/
import Derived.Test.YthdjgebbjogmiaaDoorJoin1
import Derived.BigQuiet
import Derived.Deep.QuietTactic
import Derived.RegionTactic
import Derived.ArgAppend
import Derived.Lib.ConvBytes
import Derived.Laws.BytesArg
import Derived.Great.BuildSlice
set_option linter.unusedVariables false
set_option linter.unusedSimpArgs false
namespace Go.Proofs.YthdjgebbjogmiaaDoor
open Go Go.RowKit
set_option maxRecDepth 100000

theorem Bs.take {w : World} {B : Nat} {A : Option Addr} {l c : Nat} {xs : List Int} (h : Bs w B (.slice A l c) xs) (n : Nat) (hn : n ≤ xs.length) : Bs w B (.slice A n c) (xs.take n) := by
 obtain ⟨A', c', hv, h1, h2, h4, h3⟩ := h
 injection hv with e1 e2 e3
 subst e1 e2 e3
 have hl : (xs.take n).length = n := by rw [List.length_take]; omega
 refine ⟨A, c, by rw [hl], by omega, h2, by simp [u8s], fun hp => ?_⟩
 obtain ⟨b, o, rfl, hb, hc⟩ := h3 (by omega)
 refine ⟨b, o, rfl, hb, fun j u hu => hc j u ?_⟩
 unfold u8s at hu ⊢
 rw [List.getElem?_map, List.getElem?_take] at hu
 rw [List.getElem?_map]
 split at hu
 · exact hu
 · simp at hu
theorem Bs.drop {w : World} {B b o c : Nat} {xs : List Int} (h : Bs w B (.slice (some ⟨b, o, none⟩) xs.length c) xs) (n : Nat) (hn : n ≤ xs.length) : Bs w B (.slice (some ⟨b, o + n, none⟩) (xs.length - n) (c - n)) (xs.drop n) := by
 obtain ⟨A', c', hv, h1, h2, h4, h3⟩ := h
 injection hv with e1 e2 e3
 subst e1 e3
 have hl : (xs.drop n).length = xs.length - n := by rw [List.length_drop]
 refine ⟨_, c - n, by rw [hl], by omega, by omega, by simp [u8s], fun hp => ⟨b, o + n, rfl, ?_, fun j u hu => ?_⟩⟩
 · obtain ⟨b', o', he, hb, _⟩ := h3 (by omega)
   injection he with he; injection he with he1 he2; omega
 · obtain ⟨b', o', he, hb, hc⟩ := h3 (by omega)
   injection he with he; injection he with he1 he2
   subst he1 he2
   have := hc (n + j) u (by unfold u8s at hu ⊢; rw [List.getElem?_map, List.getElem?_drop] at hu; rw [List.getElem?_map]; exact hu)
   rw [Nat.add_assoc]; exact this

theorem getD_el' (l : List Int) (i : Nat) (h : i < l.length) : l.getD i 0 = l[i] := by
 rw [List.getD_eq_getElem?_getD, List.getElem?_eq_getElem h]; rfl

theorem Bs.sliced {w : World} {B : Nat} {A : Option Addr} {l c : Nat} {xs : List Int} (h : Bs w B (.slice A l c) xs) (lo hi : Nat) (h1 : lo ≤ hi) (h2 : hi ≤ xs.length) : Bs w B (sliced A lo hi c 1) ((xs.drop lo).take (hi - lo)) := by
 obtain ⟨A', c', hv, e1, e2, e4, e3⟩ := h
 injection hv with g1 g2 g3
 subst g1 g2 g3
 have hl : ((xs.drop lo).take (hi - lo)).length = hi - lo := by rw [List.length_take, List.length_drop]; omega
 refine ⟨if c = lo then A else A.map (·.add (lo * 1)), c - lo, by rw [hl]; rfl, by omega, by omega, by simp [u8s], fun hp => ?_⟩
 rw [hl] at hp
 obtain ⟨b, o, rfl, hb, hc⟩ := e3 (by omega)
 refine ⟨b, o + lo, ?_, hb, fun j u hu => ?_⟩
 · rw [if_neg (by omega)]
   simp only [Option.map_some, Nat.mul_one]
   congr 1
   unfold Addr.add; split
   · rename_i h; subst h; rfl
   · rfl
 · have := hc (lo + j) u (by
    unfold u8s at hu ⊢
    rw [List.getElem?_map, List.getElem?_take] at hu
    rw [List.getElem?_map]
    split at hu
    · rw [List.getElem?_drop] at hu; exact hu
    · simp at hu)
   rw [Nat.add_assoc]; exact this

def GivesB (Q : Value → World → Prop) (e : Ending) (w' : World) : Prop := ∃ v', e = .returned v' ∧ Q v' w'

set_option maxHeartbeats 400000 in
theorem cut_bytes (v : Value) (xs : List Int) (n : Int) (w : World) (B : Nat) (h : Bs w B v xs) (h0 : 0 ≤ n) (hn : n ≤ 1000000) :
 Calls Tryd.prog 9 #[v, .int .i64 n] w (GivesB fun v' w' => Bs w B v' (xs.take n.toNat) ∧ w = w') := by
 obtain ⟨n, rfl⟩ := Int.eq_ofNat_of_zero_le h0
 rw [Int.toNat_natCast]
 obtain ⟨A, c, rfl, h1, h2, h3⟩ := h.open_
 unfold maxLen at h2
 have H := hide h
 clear h3 h
 go_enter Tryd.func9, Tryd.ntmps9
 go_wp2
 · go_ret
   exact ⟨_, rfl, H.out.take n (by omega), rfl⟩
 · go_ret
   refine ⟨_, rfl, ?_, rfl⟩
   rw [List.take_of_length_le (by omega)]
   exact H.out

theorem u8s_app (xs ys : List Int) : u8s xs ++ u8s ys = u8s (xs ++ ys) := by simp [u8s]

set_option maxHeartbeats 400000 in
theorem copy_bytes (v : Value) (xs : List Int) (w : World) (B : Nat) (h : Bs w B v xs) (hb : xs.length ≤ 140737488355328) :
 Calls Tryd.prog 58 #[v] w (GivesB fun v' w' => Own8 w' w.heap.size v' xs ∧ Below w.heap.size w w') := by
 go_enter Tryd.func58, Tryd.ntmps58
 go_wp2_with (at_builtin; refine wpList_append_rd _ rfl _ _ _ rfl w.heap.size _ _ _ el_u8 _ _ _ rfl (World.ownsRow_nil _ _ _ _) B _ _ _ rfl h (u8s_one _) ?_ ?_ ?_)
 · omega
 · exact Nat.le_refl _
 · intro v' w' hown hg _
   have HO := hide (show Own8 w' w.heap.size v' xs by simpa [Own8] using hown)
   have HB := hide ((Below.refl w.heap.size w).grown hg (Nat.le_refl _) (by simp [Value.ownBlock]))
   clear hown hg
   go_wp2
   go_ret
   exact ⟨v', rfl, HO.out, HB.out⟩

set_option maxHeartbeats 1000000 in
theorem same_bytes (va vb : Value) (ps qs : List Int) (w : World) (B : Nat) (ha : Bs w B va ps) (hb : Bs w B vb qs) (hB : B ≤ w.heap.size) :
 Calls Tryd.prog 16 #[va, vb] w fun e w' => e = .returned (.bool (decide (ps = qs))) ∧ Below w.heap.size w w' := by
 obtain ⟨RES, HRES⟩ : ∃ r, Hid (decide (ps = qs) = r) := ⟨_, hide rfl⟩
 rw [HRES.out]
 obtain ⟨A, c, rfl, h1, h2, h3⟩ := ha.open_
 obtain ⟨A', c', rfl, h1', h2', h3'⟩ := hb.open_
 unfold maxLen at h2 h2'
 have H3 := hide h3
 have H3' := hide h3'
 clear h3 h3' ha hb
 by_cases hl : ps.length = qs.length
 · have hl' : ((ps.length : Int) != (qs.length : Int)) = false := by simp [hl]
   have HL := hide hl
   have hle : ps.length ≤ qs.length := by omega
   have hge : qs.length ≤ ps.length := by omega
   clear hl
   go_enter Tryd.func16, Tryd.ntmps16
   go_wp2_with fail
   go_loopw [5] (fun i wr => ∃ k : Nat, k ≤ ps.length ∧ i = .int .i64 k ∧ ps.take k = qs.take k ∧ Below w.heap.size w wr) (fun i _ => ps.length - (intOf i).toNat)
   case atStart => exact ⟨0, Nat.zero_le _, rfl, rfl, Below.refl _ _⟩
   case round =>
    obtain ⟨k, hk, rfl, heq, hbel⟩ := hrel
    have HE := hide heq
    have HB := hide hbel
    clear heq hbel
    by_cases hkt : k < ps.length
    · have hkt' : k < qs.length := by omega
      obtain ⟨b, o, rfl, hb, hc⟩ := H3.out (by omega)
      obtain ⟨b', o', rfl, hb', hc'⟩ := H3'.out (by omega)
      obtain ⟨x, HX⟩ : ∃ x, Hid (ps.getD k 0 = x) := ⟨_, hide rfl⟩
      obtain ⟨y, HY⟩ : ∃ x, Hid (qs.getD k 0 = x) := ⟨_, hide rfl⟩
      have hc1 := (HB.out.cell (p := ⟨b, o + k, none⟩) (by simp; omega)).trans (hc k x hkt HX.out)
      have hc3 := (HB.out.cell (p := ⟨b', o' + k, none⟩) (by simp; omega)).trans (hc' k y hkt' HY.out)
      clear hc hc'
      have k0 : (0 : Int) ≤ (k : Int) := by omega
      have k1 : (k : Int) < (ps.length : Int) := by omega
      have k2 : (k : Int) < (qs.length : Int) := by omega
      by_cases hpq : x = y
      · subst hpq
        have hbx : (x != x) = false := by simp
        have HPQ := hide (show ps[k] = qs[k] by rw [← getD_el' _ _ hkt, ← getD_el' _ _ hkt', HX.out, HY.out])
        go_wp2_with fail
        go_quiet (fail)
        go_wp2_with fail
        go_roundw
        case rel => exact ⟨k + 1, by omega, by go_num, by rw [List.take_succ_eq_append_getElem hkt, List.take_succ_eq_append_getElem hkt', HE.out, HPQ.out], Go.below_drewN HB.out _⟩
        case measure => simp [intOf]; omega
      · have hbx : (x != y) = true := by simpa using hpq
        have HR := hide (show RES = false by
         rw [← HRES.out, decide_eq_false_iff_not]
         rintro rfl
         exact hpq (HX.out.symm.trans HY.out))
        clear hpq
        go_wp2_with fail
        go_quiet (fail)
        go_wp2_with fail
        go_ret
        exact ⟨by rw [HR.out]; rfl, Go.below_drewN HB.out _⟩
    · have HR := hide (show RES = true by
       rw [← HRES.out, decide_eq_true_iff]
       have := HE.out
       rwa [List.take_of_length_le (by omega), List.take_of_length_le (by omega)] at this)
      go_wp2_with fail
      go_ret
      exact ⟨by rw [HR.out]; rfl, HB.out⟩
 · have hl' : ((ps.length : Int) != (qs.length : Int)) = true := by simp; omega
   have HR := hide (show RES = false by rw [← HRES.out, decide_eq_false_iff_not]; exact fun e => hl (by rw [e]))
   clear hl
   go_enter Tryd.func16, Tryd.ntmps16
   go_wp2_with fail
   go_ret
   exact ⟨by rw [HR.out]; rfl, Below.refl _ _⟩
end Go.Proofs.YthdjgebbjogmiaaDoor

namespace Go.Proofs.YthdjgebbjogmiaaDoor
open Go Go.RowKit
set_option maxRecDepth 100000

theorem bits_and_nat (a b : Nat) (ha : a < 4294967296) (hb : b < 4294967296) : bits .and .i64 (a : Int) (b : Int) = ((a &&& b : Nat) : Int) := by
 have hx : a &&& b ≤ a := Nat.and_le_left
 have e : ∀ n : Nat, n < 4294967296 → (BitVec.ofInt 64 (n : Int)).toNat = n := fun n hn => by
  rw [BitVec.ofInt_natCast, BitVec.toNat_ofNat]; exact Nat.mod_eq_of_lt (by omega)
 show IntKind.i64.wrap ((BitVec.ofInt 64 (a : Int) &&& BitVec.ofInt 64 (b : Int)).toNat : Int) = _
 rw [BitVec.toNat_and, e a ha, e b hb]
 exact IntWalk.i64_in _ (by omega)
theorem bits_or_nat (a b : Nat) (ha : a < 4294967296) (hb : b < 4294967296) : bits .or .i64 (a : Int) (b : Int) = ((a ||| b : Nat) : Int) := by
 have hx : a ||| b < 2 ^ 32 := Nat.or_lt_two_pow (by omega) (by omega)
 have e : ∀ n : Nat, n < 4294967296 → (BitVec.ofInt 64 (n : Int)).toNat = n := fun n hn => by
  rw [BitVec.ofInt_natCast, BitVec.toNat_ofNat]; exact Nat.mod_eq_of_lt (by omega)
 show IntKind.i64.wrap ((BitVec.ofInt 64 (a : Int) ||| BitVec.ofInt 64 (b : Int)).toNat : Int) = _
 rw [BitVec.toNat_or, e a ha, e b hb]
 exact IntWalk.i64_in _ (by omega)
theorem and_low (a k : Nat) (ha : a < 4294967296) (hk : k < 32) : bits .and .i64 (a : Int) ((2 ^ k - 1 : Nat) : Int) = ((a % 2 ^ k : Nat) : Int) := by
 have h2 : 2 ^ k ≤ 2 ^ 31 := Nat.pow_le_pow_right (by decide) (by omega)
 rw [bits_and_nat a _ ha (by omega), Nat.and_two_pow_sub_one_eq_mod]
theorem or_low (a c k : Nat) (ha : a * 2 ^ k < 4294967296) (hc : c < 2 ^ k) (hk : k < 32) : bits .or .i64 ((a * 2 ^ k : Nat) : Int) (c : Int) = ((a * 2 ^ k + c : Nat) : Int) := by
 have h2 : 2 ^ k ≤ 2 ^ 31 := Nat.pow_le_pow_right (by decide) (by omega)
 rw [bits_or_nat _ _ ha (by omega), Nat.mul_comm, ← Nat.two_pow_add_eq_or_of_lt hc]

/-- The letter of five binary digits. -/
def ltr (k : Nat) : Int := if k < 26 then ((97 + k : Nat) : Int) else ((24 + k : Nat) : Int)
theorem ltr_byte {k : Nat} (h : k < 32) : 0 ≤ ltr k ∧ ltr k < 256 := by unfold ltr; split <;> omega
/-- The letters that come out of H, N binary digits of which are held. -/
def em : Nat → Nat → Nat → List Int
 | 0, _, _ => []
 | f + 1, H, N => if 5 ≤ N then ltr (H / 2 ^ (N - 5) % 32) :: em f H (N - 5) else []
/-- Letters of bytes, h being held, n binary digits of it. -/
def b32 : Nat → Nat → List Int → List Int
 | h, n, [] => if 0 < n then [ltr (h * 2 ^ (5 - n) % 32)] else []
 | h, n, c :: cs => em 2 (h * 256 + c.toNat) (n + 8) ++ b32 ((h * 256 + c.toNat) % 2 ^ ((n + 8) % 5)) ((n + 8) % 5) cs
def b32F (b : List Int) : List Int := b32 0 0 b
theorem em_two (H N : Nat) : em 2 H N = if 5 ≤ N then (if 10 ≤ N then [ltr (H / 2 ^ (N - 5) % 32), ltr (H / 2 ^ (N - 10) % 32)] else [ltr (H / 2 ^ (N - 5) % 32)]) else [] := by
 by_cases h : 5 ≤ N
 · rw [em, if_pos h, if_pos h, em]
   by_cases h2 : 10 ≤ N
   · rw [if_pos (by omega), if_pos h2, em, show N - 5 - 5 = N - 10 by omega]
   · rw [if_neg (by omega), if_neg h2]
 · rw [em, if_neg h, if_neg h]
theorem b32_len : ∀ (cs : List Int) (h n : Nat), n < 5 → (b32 h n cs).length = (8 * cs.length + n + 4) / 5
 | [], h, n, hn => by
  unfold b32
  split <;> simp <;> omega
 | c :: cs, h, n, hn => by
  unfold b32
  rw [List.length_append, b32_len cs _ _ (Nat.mod_lt _ (by omega)), em_two, if_pos (by omega), List.length_cons]
  split <;> simp <;> omega
theorem b32F_len (b : List Int) : (b32F b).length = (8 * b.length + 4) / 5 := by rw [b32F, b32_len b 0 0 (by omega)]
theorem b32_bytes : ∀ (cs : List Int) (h n : Nat), Bytes (b32 h n cs)
 | [], h, n => by
  unfold b32
  split
  · intro x hx; simp at hx; subst hx; exact ltr_byte (Nat.mod_lt _ (by omega))
  · intro x hx; cases hx
 | c :: cs, h, n => by
  unfold b32
  intro x hx
  rcases List.mem_append.1 hx with hx | hx
  · rw [em_two] at hx
    split at hx
    · split at hx
      · simp at hx; rcases hx with rfl | rfl <;> exact ltr_byte (Nat.mod_lt _ (by omega))
      · simp at hx; subst hx; exact ltr_byte (Nat.mod_lt _ (by omega))
    · cases hx
  · exact b32_bytes cs _ _ x hx
theorem b32F_bytes (b : List Int) : Bytes (b32F b) := b32_bytes b 0 0

end Go.Proofs.YthdjgebbjogmiaaDoor

namespace Go.Proofs.YthdjgebbjogmiaaDoor
open Go Go.RowKit
set_option maxRecDepth 100000

/-- Block g is just the cells cs; f is its frozen range. -/
def BlkF (w : World) (g : Nat) (t : TypeId) (cs : List Value) (f : Nat × Nat) : Prop := w.heap[g]? = some (.cells cs.toArray t f)
section
variable {w w' : World} {g : Nat} {t : TypeId} {cs : List Value} {f : Nat × Nat}
theorem BlkF.lt (h : BlkF w g t cs f) : g < w.heap.size := by
 rcases Nat.lt_or_ge g w.heap.size with hlt | hge
 · exact hlt
 · unfold BlkF at h; rw [Array.getElem?_eq_none hge] at h; cases h
theorem BlkF.cell (h : BlkF w g t cs f) (i : Nat) : w.cell? ⟨g, i, none⟩ = cs[i]? := by
 unfold BlkF at h
 simp [World.cell?, h]
theorem BlkF.frozen (h : BlkF w g t cs f) (i : Nat) (hi : f.2 = 0 ∨ i < f.1) : w.frozen? ⟨g, i, none⟩ = false := by
 unfold BlkF at h
 obtain ⟨a, b⟩ := f
 simp [World.frozen?, h] at hi ⊢
 omega
theorem BlkF.set_ (h : BlkF w g t cs f) (i : Nat) (u : Value) : BlkF (w.setCell ⟨g, i, none⟩ u) g t (cs.set i u) f := by
 unfold BlkF at h ⊢
 simp [World.setCell, Array.getElem?_modify, h]
theorem BlkF.below {B : Nat} (h : BlkF w g t cs f) (hb : Below B w w') (hg : g < B) : BlkF w' g t cs f := (hb.block g hg).trans h
theorem BlkF.grown {row : Option Nat} (h : BlkF w g t cs f) (hb : w.grownBy w' row) (hg : some g ≠ row) : BlkF w' g t cs f := (hb.block g h.lt hg).trans h
theorem BlkF.setCells {g : Nat} {t : TypeId} {f : Nat × Nat} (vs : List Value) : ∀ {w : World} {cs : List Value} (o : Nat), BlkF w g t cs f → BlkF (w.setCells g o vs) g t (lset cs o vs) f := by
 induction vs with
 | nil => intro w cs o h; exact h
 | cons v r ih => intro w cs o h; exact ih (o + 1) (h.set_ o v)
end

/-- A row of bytes of the call's own: what is behind its length are bytes too. -/
def RowB (w : World) (base : Nat) (v : Value) (xs : List Int) : Prop :=
 (v = .slice none 0 0 ∧ xs = []) ∨ ∃ (g cap : Nat) (cur : List Int) (f : Nat × Nat), v = .slice (some ⟨g, 0, none⟩) xs.length cap ∧ base ≤ g ∧ BlkF w g 5 (u8s cur) f ∧ (f.2 = 0 ∨ cap ≤ f.1) ∧
  xs.length ≤ cap ∧ cap ≤ maxLen ∧ cur.length = cap ∧ Bytes cur ∧ cur.take xs.length = xs
section
variable {w w' : World} {base B B' : Nat} {v : Value} {xs : List Int}
theorem RowB.nil_ (w : World) (base : Nat) : RowB w base (.slice none 0 0) [] := .inl ⟨rfl, rfl⟩
theorem RowB.bytes (h : RowB w base v xs) : Bytes xs := by
 rcases h with ⟨_, rfl⟩ | ⟨g, cap, cur, f, _, _, _, _, _, _, _, hb, ht⟩
 · intro x hx; cases hx
 · intro x hx; rw [← ht] at hx; exact hb x (List.mem_of_mem_take hx)
theorem RowB.reads (h : RowB w base v xs) : Bs w w.heap.size v xs := by
 rcases h with ⟨rfl, rfl⟩ | ⟨g, cap, cur, f, rfl, _, hB, _, hl, hc, hcl, _, ht⟩
 · exact Bs.nil_ _ _
 · refine ⟨_, cap, rfl, hl, hc, by rw [u8s_len]; omega, fun _ => ⟨g, 0, rfl, hB.lt, fun j u hu => ?_⟩⟩
   rw [Nat.zero_add, hB.cell]
   have hj : j < xs.length := by
    have := (List.getElem?_eq_some_iff.1 hu).1
    rwa [u8s_len] at this
   rw [← hu, ← ht]
   unfold u8s
   rw [List.getElem?_map, List.getElem?_map, List.getElem?_take_of_lt hj]
theorem RowB.keptB (h : RowB w base v xs) (hb : Below w.heap.size w w') : RowB w' base v xs := by
 rcases h with ⟨rfl, rfl⟩ | ⟨g, cap, cur, f, rfl, h1, hB, h2⟩
 · exact RowB.nil_ _ _
 · exact .inr ⟨g, cap, cur, f, rfl, h1, hB.below hb hB.lt, h2⟩
theorem RowB.kept {row : Option Nat} (h : RowB w base v xs) (hg : w.grownBy w' row) (hne : v.ownBlock = none ∨ v.ownBlock ≠ row) : RowB w' base v xs := by
 rcases h with ⟨rfl, rfl⟩ | ⟨g, cap, cur, f, rfl, h1, hB, h2⟩
 · exact RowB.nil_ _ _
 · exact .inr ⟨g, cap, cur, f, rfl, h1, hB.grown hg (by rcases hne with h | h; cases h; exact h), h2⟩
theorem RowB.more (h : RowB w base v xs) (hb : B ≤ base) : RowB w B v xs := by
 rcases h with h | ⟨g, cap, cur, f, h0, h1, h2⟩
 · exact .inl h
 · exact .inr ⟨g, cap, cur, f, h0, by omega, h2⟩
theorem RowB.base_ (h : RowB w base v xs) : ∀ k, v.ownBlock = some k → base ≤ k ∧ k < w.heap.size := by
 rcases h with ⟨rfl, rfl⟩ | ⟨g, cap, cur, f, rfl, h1, hB, h2⟩
 · intro k hk; cases hk
 · intro k hk; cases hk; exact ⟨h1, hB.lt⟩
theorem RowB.shape (h : RowB w base v xs) : ∃ A c, v = .slice A xs.length c := by
 rcases h with ⟨rfl, rfl⟩ | ⟨g, cap, cur, f, rfl, _⟩
 · exact ⟨none, 0, rfl⟩
 · exact ⟨_, _, rfl⟩
theorem RowB.of_blk {g : Nat} (h : Blk w g 5 (u8s xs)) (hb : base ≤ g) (hx : Bytes xs) (hm : xs.length ≤ maxLen) : RowB w base (.slice (some ⟨g, 0, none⟩) xs.length xs.length) xs :=
 .inr ⟨g, xs.length, xs, (0, 0), rfl, hb, h, .inl rfl, Nat.le_refl _, hm, rfl, hx, List.take_of_length_le (Nat.le_refl _)⟩
end

theorem zero_cells (n : Nat) : Builtin.zeroCells (Value.int .u8 0).cells n = (u8s (List.replicate n 0)).toArray := by
 apply Array.ext
 · simp [Builtin.zeroCells, u8s, Value.cells]
 · intro i h1 h2
   simp [Builtin.zeroCells, u8s, Value.cells, Nat.mod_one]
theorem bytes_rep (n : Nat) : Bytes (List.replicate n 0) := fun x hx => by have := (List.mem_replicate.1 hx).2; subst this; omega
theorem Bytes.app {xs ys : List Int} (hx : Bytes xs) (hy : Bytes ys) : Bytes (xs ++ ys) := fun x h => by
 rcases List.mem_append.1 h with h | h
 · exact hx x h
 · exact hy x h

theorem u8_zero {i : TypeInfo} {z : Value} (hi : Tryd.prog.info? 5 = some i) (hz : i.zero = some z) : z = .int .u8 0 := by
 have : (Tryd.prog.info? 5).map (·.zero) = some (some (.int .u8 0)) := by kernel_rfl
 rw [hi] at this
 simp [hz] at this
 exact this

set_option maxRecDepth 100000 in
/-- 'append(s, x...)': s is a row of bytes of the call's own (or nil), x reads as bytes. -/
theorem run_append_B (w : World) (base : Nat) (ty : TypeId) (v : Value) (xs : List Int) (hown : RowB w base v xs) (B : Nat) (vx : Value) (ys : List Int) (hr : Bs w B vx ys) (hy : Bytes ys)
 (hbytes : xs.length + ys.length ≤ 140737488355328) (hbase : base ≤ w.heap.size) :
 ∃ v' w', (Builtin.append_ #[26, 26] ty #[v, vx]).run Tryd.prog w = .ok v' w' ∧ RowB w' base v' (xs ++ ys) ∧ w.grownBy w' v.ownBlock ∧ (v'.ownBlock = v.ownBlock ∨ v'.ownBlock = some w.heap.size) := by
 obtain ⟨i, z, ht, hi, hz, hsize, hby, hzs, _, _⟩ := el_u8
 have hz0 := u8_zero hi hz
 subst hz0
 have hxb := hown.bytes
 obtain ⟨A, c, rfl, hnc, hcm, hl, hc⟩ := hr
 have fresh : ∀ (old : Nat), old < xs.length + ys.length → ∀ row : Option Nat,
  RowB (w.drew.alloc (.cells ((u8s xs).toArray ++ (u8s ys).toArray ++ Builtin.zeroCells (Value.int .u8 0).cells (grownCap w (xs.length + ys.length) old 5 - (xs.length + ys.length))) 5)) base
   (.slice (some ⟨w.heap.size, 0, none⟩) (xs.length + ys.length) (grownCap w (xs.length + ys.length) old 5)) (xs ++ ys) ∧
  w.grownBy (w.drew.alloc (.cells ((u8s xs).toArray ++ (u8s ys).toArray ++ Builtin.zeroCells (Value.int .u8 0).cells (grownCap w (xs.length + ys.length) old 5 - (xs.length + ys.length))) 5)) row := by
  intro old ho row
  have hge := grownCap_ge w (xs.length + ys.length) old 5
  have hcm : grownCap w (xs.length + ys.length) old 5 ≤ maxLen := grownCap_le_maxLen w _ old _ (by unfold maxLen; omega)
  refine ⟨.inr ⟨w.heap.size, _, xs ++ ys ++ List.replicate (grownCap w (xs.length + ys.length) old 5 - (xs.length + ys.length)) 0, (0, 0), by rw [List.length_append], hbase, ?_, .inl rfl, by rw [List.length_append]; exact hge, hcm, ?_, (hxb.app hy).app (bytes_rep _), ?_⟩, ⟨rfl, rfl, rfl, by simp, fun k hk _ => heap_alloc_old w.drew _ hk⟩⟩
  · have e := heap_alloc_new w.drew (.cells ((u8s xs).toArray ++ (u8s ys).toArray ++ Builtin.zeroCells (Value.int .u8 0).cells (grownCap w (xs.length + ys.length) old 5 - (xs.length + ys.length))) 5)
    rw [zero_cells, List.append_toArray, List.append_toArray, u8s_app, u8s_app] at e ⊢
    exact e
  · rw [List.length_append, List.length_append, List.length_replicate]; omega
  · exact List.take_left' rfl
 have hcells : ∀ ad : Addr, A = some ad → ∀ j u, (u8s ys)[j]? = some u → w.cell? (ad.add j) = some u := by
  rintro ad rfl j u hu
  rcases Nat.eq_zero_or_pos ys.length with h0 | h0
  · have hn : ys = [] := List.eq_nil_of_length_eq_zero h0
    subst hn
    simp [u8s] at hu
  · obtain ⟨b, o, h, _, hc'⟩ := hc h0
    injection h with h
    subst h
    rw [Addr.add_lit]
    exact hc' j u hu
 have hnil : A = none → ys = [] := by
  rintro rfl
  rcases Nat.eq_zero_or_pos ys.length with h0 | h0
  · exact List.eq_nil_of_length_eq_zero h0
  · obtain ⟨b, o, h, _⟩ := hc h0
    cases h
 rcases hown with ⟨rfl, rfl⟩ | ⟨g, cap, cur, f, rfl, hbg, hB, hf, hnc', hcm', hcl, hcb, htake⟩
 · by_cases hm : ys.length = 0
   · have hn : ys = [] := List.eq_nil_of_length_eq_zero hm
     subst hn
     refine ⟨.slice none 0 0, w, ?_, RowB.nil_ _ _, World.grownBy.refl _ _, .inl rfl⟩
     rcases A with _ | ad
     · simp [Builtin.append_, run_underlying ht, sizeOf, typeInfo, hi, Builtin.lenOf, Builtin.firstCells, loadCells, loadCellsFrom]
     · simp [Builtin.append_, run_underlying ht, sizeOf, typeInfo, hi, Builtin.lenOf, Builtin.firstCells, loadCells, loadCellsFrom]
   · rcases A with _ | ad
     · exact absurd (by rw [hnil rfl]; rfl) hm
     · have hr := run_append_nil (P := Tryd.prog) w 26 ty 5 i (.int .u8 0) ht hi hz ad ys.length c (u8s ys) (by rw [u8s_len, hsize]; omega) (hcells ad rfl) (by omega) (by simp at hbytes; omega) (by simp at hbytes; rw [hby]; omega)
       have hg := fresh 0 (by omega) (Value.ownBlock (.slice none 0 0))
       simp only [List.length_nil, Nat.zero_add, List.nil_append, u8s, List.map_nil, Array.empty_append] at hg ⊢
       exact ⟨_, _, hr, hg.1, hg.2, .inr rfl⟩
 · have hlt := hB.lt
   by_cases hroom : xs.length + ys.length ≤ cap
   · rcases A with _ | ad
     · have hn := hnil rfl
       subst hn
       refine ⟨_, w, ?_, by rw [List.append_nil]; exact .inr ⟨g, cap, cur, f, rfl, hbg, hB, hf, hnc', hcm', hcl, hcb, htake⟩, World.grownBy.refl _ _, .inl rfl⟩
       have hroom' : xs.length ≤ cap := by simpa using hroom
       simp only [List.length_nil]
       simp [Builtin.append_, run_underlying ht, sizeOf, typeInfo, hi, Builtin.lenOf, Builtin.firstCells, hroom', storeCells]
     · have hr := run_append_room_cells (P := Tryd.prog) w 26 ty 5 i ht hi g 0 xs.length cap ad ys.length c (u8s ys) (by rw [u8s_len, hsize]; omega) (hcells ad rfl) (u8s_one _) hroom
        (fun j hj => by
         rw [u8s_len] at hj
         rw [hsize, hB.cell, List.getElem?_eq_getElem (by rw [u8s_len]; omega)]; rfl)
        (fun j hj => by
         rw [u8s_len] at hj
         exact hB.frozen _ (by rw [hsize]; rcases hf with h | h; exact .inl h; exact .inr (by omega)))
       rw [hsize, Nat.mul_one, Nat.zero_add] at hr
       have hB' := BlkF.setCells (u8s ys) xs.length hB
       refine ⟨_, _, hr, .inr ⟨g, cap, xs ++ ys ++ cur.drop (xs.length + ys.length), f, by rw [List.length_append], hbg, ?_, hf, by rw [List.length_append]; exact hroom, hcm', ?_, (hxb.app hy).app (fun x hx => hcb x (List.mem_of_mem_drop hx)), List.take_left' rfl⟩, (grown_setCells (u8s ys) w xs.length).1, .inl rfl⟩
       · have e : lset (u8s cur) xs.length (u8s ys) = u8s (xs ++ ys ++ cur.drop (xs.length + ys.length)) := by
          refine List.ext_getElem? fun j => ?_
          rw [lset_get _ _ _ _ (by rw [u8s_len, u8s_len]; omega)]
          unfold u8s
          by_cases hj : xs.length ≤ j ∧ j < xs.length + (List.map (Value.int IntKind.u8) ys).length
          · rw [if_pos hj]
            simp at hj
            rw [List.getElem?_map, List.getElem?_map, List.getElem?_append_left (by simp; omega), List.getElem?_append_right (by omega)]
          · rw [if_neg hj]
            simp at hj
            rw [List.getElem?_map, List.getElem?_map]
            by_cases h2 : j < xs.length
            · rw [List.getElem?_append_left (by simp; omega), List.getElem?_append_left h2]
              conv => rhs; rw [← htake]
              rw [List.getElem?_take_of_lt h2]
            · rw [List.getElem?_append_right (by simp; omega), List.getElem?_drop]
              congr 2
              simp; omega
         rw [← e]; exact hB'
       · rw [List.length_append, List.length_append, List.length_drop]; omega
   · rcases A with _ | ad
     · have hn := hnil rfl
       subst hn
       simp at hroom
       omega
     · have holds : ∀ j u, (u8s xs)[j]? = some u → w.cell? ((⟨g, 0, none⟩ : Addr).add j) = some u := fun j u hu => by
        rw [Addr.add_lit, Nat.zero_add, hB.cell]
        have hj : j < xs.length := by
         have := (List.getElem?_eq_some_iff.1 hu).1
         rwa [u8s_len] at this
        rw [← hu]
        conv => rhs; rw [← htake]
        unfold u8s
        rw [List.getElem?_map, List.getElem?_map, List.getElem?_take_of_lt hj]
       have hr := run_append_grow (P := Tryd.prog) w 26 ty 5 i (.int .u8 0) ht hi hz ⟨g, 0, none⟩ xs.length cap (u8s xs) (by rw [u8s_len, hsize]; omega) holds ad ys.length c (u8s ys) (by rw [u8s_len, hsize]; omega) (hcells ad rfl) (by omega) (by omega) (growslice_fits (by omega) (by rw [hby]; omega))
       have hg := fresh cap (by omega) (Value.ownBlock (.slice (some ⟨g, 0, none⟩) xs.length cap))
       exact ⟨_, _, hr, hg.1, hg.2, .inr rfl⟩
end Go.Proofs.YthdjgebbjogmiaaDoor

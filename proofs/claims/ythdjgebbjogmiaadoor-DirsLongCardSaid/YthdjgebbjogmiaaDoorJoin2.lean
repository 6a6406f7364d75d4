/- The statements' helps at bytes: Cut, Copy, Same. Condition: a copy stays below 2^47 bytes.
Base32 as a plain function: letters out of bytes, bytes out of letters, there and back. -/
import Derived.Test.YthdjgebbjogmiaaDoorJoin1
import Derived.BigQuiet
import Derived.Deep.QuietTactic
import Derived.RegionTactic
namespace Go.Proofs.YthdjgebbjogmiaaDoor
open Go Go.RowKit
set_option maxRecDepth 100000

theorem Bs.take {w : World} {B : Nat} {A : Option Addr} {l c : Nat} {xs : List Int} (h : Bs w B (.slice A l c) xs) (n : Nat) (hn : n ≤ xs.length) : Bs w B (.slice A n c) (xs.take n) := by
 obtain ⟨A', c', hv, h1, h2, h4, h3⟩ := h
 injection hv with e1 e2 e3
 subst e1 e2 e3
 have hl : (xs.take n).length = n := by rw [List.length_take]; omega
 refine ⟨A, c, by rw [hl], by omega, h2, by simp [u8s], fun hp => ?_⟩
 obtain ⟨b, o, rfl, hb, hc⟩ := h3 (by omega)
 refine ⟨b, o, rfl, hb, fun j u hu => hc j u ?_⟩
 unfold u8s at hu ⊢
 rw [List.getElem?_map, List.getElem?_take] at hu
 rw [List.getElem?_map]
 split at hu
 · exact hu
 · simp at hu
theorem Bs.drop {w : World} {B b o c : Nat} {xs : List Int} (h : Bs w B (.slice (some ⟨b, o, none⟩) xs.length c) xs) (n : Nat) (hn : n ≤ xs.length) : Bs w B (.slice (some ⟨b, o + n, none⟩) (xs.length - n) (c - n)) (xs.drop n) := by
 obtain ⟨A', c', hv, h1, h2, h4, h3⟩ := h
 injection hv with e1 e2 e3
 subst e1 e3
 have hl : (xs.drop n).length = xs.length - n := by rw [List.length_drop]
 refine ⟨_, c - n, by rw [hl], by omega, by omega, by simp [u8s], fun hp => ⟨b, o + n, rfl, ?_, fun j u hu => ?_⟩⟩
 · obtain ⟨b', o', he, hb, _⟩ := h3 (by omega)
   injection he with he; injection he with he1 he2; omega
 · obtain ⟨b', o', he, hb, hc⟩ := h3 (by omega)
   injection he with he; injection he with he1 he2
   subst he1 he2
   have := hc (n + j) u (by unfold u8s at hu ⊢; rw [List.getElem?_map, List.getElem?_drop] at hu; rw [List.getElem?_map]; exact hu)
   rw [Nat.add_assoc]; exact this

theorem getD_el' (l : List Int) (i : Nat) (h : i < l.length) : l.getD i 0 = l[i] := by
 rw [List.getD_eq_getElem?_getD, List.getElem?_eq_getElem h]; rfl

theorem Bs.sliced {w : World} {B : Nat} {A : Option Addr} {l c : Nat} {xs : List Int} (h : Bs w B (.slice A l c) xs) (lo hi : Nat) (h1 : lo ≤ hi) (h2 : hi ≤ xs.length) : Bs w B (sliced A lo hi c 1) ((xs.drop lo).take (hi - lo)) := by
 obtain ⟨A', c', hv, e1, e2, e4, e3⟩ := h
 injection hv with g1 g2 g3
 subst g1 g2 g3
 have hl : ((xs.drop lo).take (hi - lo)).length = hi - lo := by rw [List.length_take, List.length_drop]; omega
 refine ⟨if c = lo then A else A.map (·.add (lo * 1)), c - lo, by rw [hl]; rfl, by omega, by omega, by simp [u8s], fun hp => ?_⟩
 rw [hl] at hp
 obtain ⟨b, o, rfl, hb, hc⟩ := e3 (by omega)
 refine ⟨b, o + lo, ?_, hb, fun j u hu => ?_⟩
 · rw [if_neg (by omega)]
   simp only [Option.map_some, Nat.mul_one]
   congr 1
   unfold Addr.add; split
   · rename_i h; subst h; rfl
   · rfl
 · have := hc (lo + j) u (by
    unfold u8s at hu ⊢
    rw [List.getElem?_map, List.getElem?_take] at hu
    rw [List.getElem?_map]
    split at hu
    · rw [List.getElem?_drop] at hu; exact hu
    · simp at hu)
   rw [Nat.add_assoc]; exact this

theorem wp_append_rdD {P : Program} (w : World) {o : Oper} {a : Act} {K : Act → World → Prop} {Q : Exit → Act → World → Prop} (d : Nat) (hd : o.dst = some d) (s x : Operand) (t : TypeId)
 (ho : o.op = .call { callee := .builtin .append, args := #[s, x], argTypes := #[t, t] })
 (base : Nat) (e : TypeId) (size bytes : Nat) (hE : ElemOf P t e size bytes)
 (v : Value) (n : Nat) (xs : List Value) (hs : a.eval s = v) (hown : w.ownsRow base e size v n xs)
 (B : Nat) (vx : Value) (m : Nat) (news : List Value) (hx : a.eval x = vx) (hr : Rd w B size vx m news) (h1 : ∀ u ∈ news, u.oneCell' = true)
 (hbytes : (n + m) * bytes ≤ 140737488355328) (hbase : base ≤ w.heap.size)
 (h : ∀ v' w', w'.ownsRow base e size v' (n + m) (xs ++ news) → w.grownBy w' v.ownBlock → (v'.ownBlock = v.ownBlock ∨ v'.ownBlock = some w.heap.size) → K (a.put (some d) v') w') : o.wp P a w K Q :=
 wp_append_rd w s x t ho base e size bytes hE v n xs hs hown B vx m news hx hr h1 hbytes hbase fun v' w' a1 a2 a3 => by rw [hd]; exact h v' w' a1 a2 a3

def GivesB (Q : Value → World → Prop) (e : Ending) (w' : World) : Prop := ∃ v', e = .returned v' ∧ Q v' w'

set_option maxHeartbeats 400000 in
theorem cut_bytes (v : Value) (xs : List Int) (n : Int) (w : World) (B : Nat) (h : Bs w B v xs) (h0 : 0 ≤ n) (hn : n ≤ 1000000) :
 Calls Tryd.prog 9 #[v, .int .i64 n] w (GivesB fun v' w' => Bs w B v' (xs.take n.toNat) ∧ w = w') := by
 obtain ⟨n, rfl⟩ := Int.eq_ofNat_of_zero_le h0
 rw [Int.toNat_natCast]
 obtain ⟨A, c, rfl, h1, h2, h3⟩ := h.open_
 unfold maxLen at h2
 have H := hide h
 clear h3 h
 go_enter Tryd.func9, Tryd.ntmps9
 go_wp2
 · go_ret
   exact ⟨_, rfl, H.out.take n (by omega), rfl⟩
 · go_ret
   refine ⟨_, rfl, ?_, rfl⟩
   rw [List.take_of_length_le (by omega)]
   exact H.out

theorem u8s_app (xs ys : List Int) : u8s xs ++ u8s ys = u8s (xs ++ ys) := by simp [u8s]

set_option maxHeartbeats 400000 in
theorem copy_bytes (v : Value) (xs : List Int) (w : World) (B : Nat) (h : Bs w B v xs) (hb : xs.length ≤ 140737488355328) :
 Calls Tryd.prog 58 #[v] w (GivesB fun v' w' => Own8 w' w.heap.size v' xs ∧ Below w.heap.size w w') := by
 go_enter Tryd.func58, Tryd.ntmps58
 go_wp2_with (at_builtin; refine wpList_append_rd _ rfl _ _ _ rfl w.heap.size _ _ _ el_u8 _ _ _ rfl (World.ownsRow_nil _ _ _ _) B _ _ _ rfl h (u8s_one _) ?_ ?_ ?_)
 · omega
 · exact Nat.le_refl _
 · intro v' w' hown hg _
   have HO := hide (show Own8 w' w.heap.size v' xs by simpa [Own8] using hown)
   have HB := hide ((Below.refl w.heap.size w).grown hg (Nat.le_refl _) (by simp [Value.ownBlock]))
   clear hown hg
   go_wp2
   go_ret
   exact ⟨v', rfl, HO.out, HB.out⟩

set_option maxHeartbeats 1000000 in
theorem same_bytes (va vb : Value) (ps qs : List Int) (w : World) (B : Nat) (ha : Bs w B va ps) (hb : Bs w B vb qs) (hB : B ≤ w.heap.size) :
 Calls Tryd.prog 16 #[va, vb] w fun e w' => e = .returned (.bool (decide (ps = qs))) ∧ Below w.heap.size w w' := by
 obtain ⟨RES, HRES⟩ : ∃ r, Hid (decide (ps = qs) = r) := ⟨_, hide rfl⟩
 rw [HRES.out]
 obtain ⟨A, c, rfl, h1, h2, h3⟩ := ha.open_
 obtain ⟨A', c', rfl, h1', h2', h3'⟩ := hb.open_
 unfold maxLen at h2 h2'
 have H3 := hide h3
 have H3' := hide h3'
 clear h3 h3' ha hb
 by_cases hl : ps.length = qs.length
 · have hl' : ((ps.length : Int) != (qs.length : Int)) = false := by simp [hl]
   have HL := hide hl
   have hle : ps.length ≤ qs.length := by omega
   have hge : qs.length ≤ ps.length := by omega
   clear hl
   go_enter Tryd.func16, Tryd.ntmps16
   go_wp2_with fail
   go_loopw [5] (fun i wr => ∃ k : Nat, k ≤ ps.length ∧ i = .int .i64 k ∧ ps.take k = qs.take k ∧ Below w.heap.size w wr) (fun i _ => ps.length - (intOf i).toNat)
   case atStart => exact ⟨0, Nat.zero_le _, rfl, rfl, Below.refl _ _⟩
   case round =>
    obtain ⟨k, hk, rfl, heq, hbel⟩ := hrel
    have HE := hide heq
    have HB := hide hbel
    clear heq hbel
    by_cases hkt : k < ps.length
    · have hkt' : k < qs.length := by omega
      obtain ⟨b, o, rfl, hb, hc⟩ := H3.out (by omega)
      obtain ⟨b', o', rfl, hb', hc'⟩ := H3'.out (by omega)
      obtain ⟨x, HX⟩ : ∃ x, Hid (ps.getD k 0 = x) := ⟨_, hide rfl⟩
      obtain ⟨y, HY⟩ : ∃ x, Hid (qs.getD k 0 = x) := ⟨_, hide rfl⟩
      have hc1 := (HB.out.cell (p := ⟨b, o + k, none⟩) (by simp; omega)).trans (hc k x hkt HX.out)
      have hc3 := (HB.out.cell (p := ⟨b', o' + k, none⟩) (by simp; omega)).trans (hc' k y hkt' HY.out)
      clear hc hc'
      have k0 : (0 : Int) ≤ (k : Int) := by omega
      have k1 : (k : Int) < (ps.length : Int) := by omega
      have k2 : (k : Int) < (qs.length : Int) := by omega
      by_cases hpq : x = y
      · subst hpq
        have hbx : (x != x) = false := by simp
        have HPQ := hide (show ps[k] = qs[k] by rw [← getD_el' _ _ hkt, ← getD_el' _ _ hkt', HX.out, HY.out])
        go_wp2_with fail
        go_quiet (fail)
        go_wp2_with fail
        go_roundw
        case rel => exact ⟨k + 1, by omega, by go_num, by rw [List.take_succ_eq_append_getElem hkt, List.take_succ_eq_append_getElem hkt', HE.out, HPQ.out], Go.below_drewN HB.out _⟩
        case measure => simp [intOf]; omega
      · have hbx : (x != y) = true := by simpa using hpq
        have HR := hide (show RES = false by
         rw [← HRES.out, decide_eq_false_iff_not]
         rintro rfl
         exact hpq (HX.out.symm.trans HY.out))
        clear hpq
        go_wp2_with fail
        go_quiet (fail)
        go_wp2_with fail
        go_ret
        exact ⟨by rw [HR.out]; rfl, Go.below_drewN HB.out _⟩
    · have HR := hide (show RES = true by
       rw [← HRES.out, decide_eq_true_iff]
       have := HE.out
       rwa [List.take_of_length_le (by omega), List.take_of_length_le (by omega)] at this)
      go_wp2_with fail
      go_ret
      exact ⟨by rw [HR.out]; rfl, HB.out⟩
 · have hl' : ((ps.length : Int) != (qs.length : Int)) = true := by simp; omega
   have HR := hide (show RES = false by rw [← HRES.out, decide_eq_false_iff_not]; exact fun e => hl (by rw [e]))
   clear hl
   go_enter Tryd.func16, Tryd.ntmps16
   go_wp2_with fail
   go_ret
   exact ⟨by rw [HR.out]; rfl, Below.refl _ _⟩
end Go.Proofs.YthdjgebbjogmiaaDoor

namespace Go.Proofs.YthdjgebbjogmiaaDoor
open Go Go.RowKit
set_option maxRecDepth 100000

theorem bits_and_nat (a b : Nat) (ha : a < 4294967296) (hb : b < 4294967296) : bits .and .i64 (a : Int) (b : Int) = ((a &&& b : Nat) : Int) := by
 have hx : a &&& b ≤ a := Nat.and_le_left
 have e : ∀ n : Nat, n < 4294967296 → (BitVec.ofInt 64 (n : Int)).toNat = n := fun n hn => by
  rw [BitVec.ofInt_natCast, BitVec.toNat_ofNat]; exact Nat.mod_eq_of_lt (by omega)
 show IntKind.i64.wrap ((BitVec.ofInt 64 (a : Int) &&& BitVec.ofInt 64 (b : Int)).toNat : Int) = _
 rw [BitVec.toNat_and, e a ha, e b hb]
 exact IntWalk.i64_in _ (by omega)
theorem bits_or_nat (a b : Nat) (ha : a < 4294967296) (hb : b < 4294967296) : bits .or .i64 (a : Int) (b : Int) = ((a ||| b : Nat) : Int) := by
 have hx : a ||| b < 2 ^ 32 := Nat.or_lt_two_pow (by omega) (by omega)
 have e : ∀ n : Nat, n < 4294967296 → (BitVec.ofInt 64 (n : Int)).toNat = n := fun n hn => by
  rw [BitVec.ofInt_natCast, BitVec.toNat_ofNat]; exact Nat.mod_eq_of_lt (by omega)
 show IntKind.i64.wrap ((BitVec.ofInt 64 (a : Int) ||| BitVec.ofInt 64 (b : Int)).toNat : Int) = _
 rw [BitVec.toNat_or, e a ha, e b hb]
 exact IntWalk.i64_in _ (by omega)
theorem and_low (a k : Nat) (ha : a < 4294967296) (hk : k < 32) : bits .and .i64 (a : Int) ((2 ^ k - 1 : Nat) : Int) = ((a % 2 ^ k : Nat) : Int) := by
 have h2 : 2 ^ k ≤ 2 ^ 31 := Nat.pow_le_pow_right (by decide) (by omega)
 rw [bits_and_nat a _ ha (by omega), Nat.and_two_pow_sub_one_eq_mod]
theorem or_low (a c k : Nat) (ha : a * 2 ^ k < 4294967296) (hc : c < 2 ^ k) (hk : k < 32) : bits .or .i64 ((a * 2 ^ k : Nat) : Int) (c : Int) = ((a * 2 ^ k + c : Nat) : Int) := by
 have h2 : 2 ^ k ≤ 2 ^ 31 := Nat.pow_le_pow_right (by decide) (by omega)
 rw [bits_or_nat _ _ ha (by omega), Nat.mul_comm, ← Nat.two_pow_add_eq_or_of_lt hc]

/-- The letter of five binary digits. -/
def ltr (k : Nat) : Int := if k < 26 then ((97 + k : Nat) : Int) else ((24 + k : Nat) : Int)
theorem ltr_byte {k : Nat} (h : k < 32) : 0 ≤ ltr k ∧ ltr k < 256 := by unfold ltr; split <;> omega
theorem ltr_inj {j k : Nat} (hj : j < 32) (hk : k < 32) (h : ltr j = ltr k) : j = k := by
 unfold ltr at h
 split at h <;> split at h <;> omega

/-- The letters that come out of H, N binary digits of which are held. -/
def em : Nat → Nat → Nat → List Int
 | 0, _, _ => []
 | f + 1, H, N => if 5 ≤ N then ltr (H / 2 ^ (N - 5) % 32) :: em f H (N - 5) else []
/-- Letters of bytes, h being held, n binary digits of it. -/
def b32 : Nat → Nat → List Int → List Int
 | h, n, [] => if 0 < n then [ltr (h * 2 ^ (5 - n) % 32)] else []
 | h, n, c :: cs => em 2 (h * 256 + c.toNat) (n + 8) ++ b32 ((h * 256 + c.toNat) % 2 ^ ((n + 8) % 5)) ((n + 8) % 5) cs
/-- Bytes of letters' values. -/
def by32 : Nat → Nat → List Nat → List Int
 | _, _, [] => []
 | g, m, k :: ks => if 8 ≤ m + 5 then (((g * 32 + k) / 2 ^ (m - 3) % 256 : Nat) : Int) :: by32 ((g * 32 + k) % 2 ^ (m - 3)) (m - 3) ks else by32 (g * 32 + k) (m + 5) ks
/-- The values of letters, or that one is none. -/
def valOf (c : Int) : Option Nat := if 97 ≤ c ∧ c < 123 then some (c.toNat - 97) else if 50 ≤ c ∧ c < 56 then some (c.toNat - 24) else none
def vals : List Int → Option (List Nat)
 | [] => some []
 | c :: cs => (valOf c).bind fun k => (vals cs).map (k :: ·)
theorem valOf_ltr {k : Nat} (h : k < 32) : valOf (ltr k) = some k := by
 unfold ltr valOf
 by_cases h1 : k < 26
 · rw [if_pos h1, if_pos (by omega)]; congr 1; omega
 · rw [if_neg h1, if_neg (by omega), if_pos (by omega)]; congr 1; omega
theorem valOf_some {c : Int} {k : Nat} (h : valOf c = some k) : k < 32 ∧ ltr k = c := by
 unfold valOf at h
 split at h
 · cases h; unfold ltr; rw [if_pos (by omega)]; omega
 · split at h
   · cases h; unfold ltr; rw [if_neg (by omega)]; omega
   · cases h

def b32F (b : List Int) : List Int := b32 0 0 b
/-- Letters' bytes: only where they are just what these bytes' letters are. -/
def bytes32F (s : List Int) : Option (List Int) := (vals s).bind fun ks => if b32F (by32 0 0 ks) = s then some (by32 0 0 ks) else none

theorem em_two (H N : Nat) : em 2 H N = if 5 ≤ N then (if 10 ≤ N then [ltr (H / 2 ^ (N - 5) % 32), ltr (H / 2 ^ (N - 10) % 32)] else [ltr (H / 2 ^ (N - 5) % 32)]) else [] := by
 by_cases h : 5 ≤ N
 · rw [em, if_pos h, if_pos h, em]
   by_cases h2 : 10 ≤ N
   · rw [if_pos (by omega), if_pos h2, em, show N - 5 - 5 = N - 10 by omega]
   · rw [if_neg (by omega), if_neg h2]
 · rw [em, if_neg h, if_neg h]
theorem b32_len : ∀ (cs : List Int) (h n : Nat), n < 5 → (b32 h n cs).length = (8 * cs.length + n + 4) / 5
 | [], h, n, hn => by
  unfold b32
  split <;> simp <;> omega
 | c :: cs, h, n, hn => by
  unfold b32
  rw [List.length_append, b32_len cs _ _ (Nat.mod_lt _ (by omega)), em_two, if_pos (by omega), List.length_cons]
  split <;> simp <;> omega
theorem b32F_len (b : List Int) : (b32F b).length = (8 * b.length + 4) / 5 := by rw [b32F, b32_len b 0 0 (by omega)]
theorem b32_bytes : ∀ (cs : List Int) (h n : Nat), Bytes (b32 h n cs)
 | [], h, n => by
  unfold b32
  split
  · intro x hx; simp at hx; subst hx; exact ltr_byte (Nat.mod_lt _ (by omega))
  · intro x hx; cases hx
 | c :: cs, h, n => by
  unfold b32
  intro x hx
  rcases List.mem_append.1 hx with hx | hx
  · rw [em_two] at hx
    split at hx
    · split at hx
      · simp at hx; rcases hx with rfl | rfl <;> exact ltr_byte (Nat.mod_lt _ (by omega))
      · simp at hx; subst hx; exact ltr_byte (Nat.mod_lt _ (by omega))
    · cases hx
  · exact b32_bytes cs _ _ x hx
theorem b32F_bytes (b : List Int) : Bytes (b32F b) := b32_bytes b 0 0

/-- The values of the letters of bytes. -/
def kv : Nat → Nat → List Int → List Nat
 | h, n, [] => if 0 < n then [h * 2 ^ (5 - n) % 32] else []
 | h, n, c :: cs => (if 10 ≤ n + 8 then [(h * 256 + c.toNat) / 2 ^ (n + 3) % 32, (h * 256 + c.toNat) / 2 ^ (n - 2) % 32] else [(h * 256 + c.toNat) / 2 ^ (n + 3) % 32]) ++ kv ((h * 256 + c.toNat) % 2 ^ ((n + 8) % 5)) ((n + 8) % 5) cs
theorem vals_ltr : ∀ ks : List Nat, (∀ k ∈ ks, k < 32) → vals (ks.map ltr) = some ks
 | [], _ => rfl
 | k :: ks, h => by
  rw [List.map_cons, vals, valOf_ltr (h k (List.mem_cons_self ..)), Option.bind_some, vals_ltr ks fun j hj => h j (List.mem_cons_of_mem _ hj)]
  rfl
theorem kv_lt : ∀ (cs : List Int) (h n : Nat), ∀ k ∈ kv h n cs, k < 32
 | [], h, n => by
  unfold kv
  split
  · intro k hk; simp at hk; subst hk; exact Nat.mod_lt _ (by omega)
  · intro k hk; cases hk
 | c :: cs, h, n => by
  unfold kv
  intro k hk
  rcases List.mem_append.1 hk with hk | hk
  · split at hk
    · simp at hk; rcases hk with rfl | rfl <;> exact Nat.mod_lt _ (by omega)
    · simp at hk; subst hk; exact Nat.mod_lt _ (by omega)
  · exact kv_lt cs _ _ k hk
theorem b32_kv : ∀ (cs : List Int) (h n : Nat), b32 h n cs = (kv h n cs).map ltr
 | [], h, n => by
  unfold b32 kv
  split <;> rfl
 | c :: cs, h, n => by
  unfold b32 kv
  rw [List.map_append, ← b32_kv cs, em_two, if_pos (by omega)]
  congr 1
  split <;> simp [show n + 8 - 5 = n + 3 by omega, show n + 8 - 10 = n - 2 by omega]

theorem back32 : ∀ (cs : List Int) (hb : Bytes cs) (c n : Nat), c < 256 → n < 5 → by32 (if n = 0 then 0 else c / 2 ^ n) (if n = 0 then 0 else 8 - n) (kv (if n = 0 then 0 else c % 2 ^ n) n cs) = if n = 0 then cs else (c : Int) :: cs
 | [], hb, c, n, hc, hn => by
  rcases show n = 0 ∨ n = 1 ∨ n = 2 ∨ n = 3 ∨ n = 4 by omega with rfl | rfl | rfl | rfl | rfl <;> simp [kv, by32] <;> omega
 | d :: cs, hb, c, n, hc, hn => by
  obtain ⟨hd0, hd1⟩ := hb d (List.mem_cons_self ..)
  have ih := back32 cs (fun x hx => hb x (List.mem_cons_of_mem _ hx)) d.toNat ((n + 8) % 5) (by omega) (Nat.mod_lt _ (by omega))
  have ed : ((d.toNat : Nat) : Int) = d := by omega
  rw [ed] at ih
  generalize d.toNat = e at ih ed
  subst ed
  rcases show n = 0 ∨ n = 1 ∨ n = 2 ∨ n = 3 ∨ n = 4 by omega with rfl | rfl | rfl | rfl | rfl
  all_goals simp [kv, by32] at ih ⊢
  · rw [show e / 8 % 32 = e / 8 by omega]; exact ih
  · refine ⟨by omega, ?_⟩
    rw [show (c / 2 * 32 + (c % 2 * 256 + e) / 16 % 32) % 16 = e / 16 by omega, show (c % 2 * 256 + e) % 16 = e % 16 by omega]; exact ih
  · refine ⟨by omega, by omega, ?_⟩
    rw [Nat.mod_one, Nat.mod_one]; exact ih
  · refine ⟨by omega, ?_⟩
    rw [show (c / 8 * 32 + (c % 8 * 256 + e) / 64 % 32) % 4 * 32 + (c % 8 * 256 + e) / 2 % 32 = e / 2 by omega, show (c % 8 * 256 + e) % 2 = e % 2 by omega]; exact ih
  · refine ⟨by omega, ?_⟩
    rw [show (c / 16 * 32 + (c % 16 * 256 + e) / 128 % 32) % 2 * 32 + (c % 16 * 256 + e) / 4 % 32 = e / 4 by omega, show (c % 16 * 256 + e) % 4 = e % 4 by omega]; exact ih

/-- There and back. -/
theorem bytes32_b32 (b : List Int) (hb : Bytes b) : bytes32F (b32F b) = some b := by
 have e : b32F b = (kv 0 0 b).map ltr := b32_kv b 0 0
 have h : by32 0 0 (kv 0 0 b) = b := by
  have := back32 b hb 0 0 (by omega) (by omega)
  simpa using this
 rw [bytes32F, e, vals_ltr _ (kv_lt b 0 0), Option.bind_some, h, if_pos e]
theorem bytes32_some {s b : List Int} (h : bytes32F s = some b) : b32F b = s := by
 unfold bytes32F at h
 obtain ⟨ks, _, h2⟩ := Option.bind_eq_some_iff.1 h
 by_cases e : b32F (by32 0 0 ks) = s
 · rw [if_pos e] at h2; injection h2 with h2; rw [← h2]; exact e
 · rw [if_neg e] at h2; cases h2
theorem b32F_inj {a b : List Int} (ha : Bytes a) (hb : Bytes b) (h : b32F a = b32F b) : a = b := by
 have h1 := bytes32_b32 a ha
 rw [h, bytes32_b32 b hb] at h1
 injection h1 with h1
 exact h1.symm
end Go.Proofs.YthdjgebbjogmiaaDoor

/- The keys of the rounds: the plain law.
A block's rounds: the plain law.
The stream: the plain law.
The stream: twice is itself, in pieces it is the whole.
aes.block, walked. -/
import Derived.Test.YthdjgebbjogmiaaDoorJoin13
import Derived.Test.YthdjgebbjogmiaaDoorAesCols
import Derived.Test.YthdjgebbjogmiaaDoorJoin1
import Derived.LoopIn
import Derived.Deep.RegionHeld3
import Derived.Deep.DeepCutAuto
set_option linter.unusedVariables false
set_option linter.unusedSimpArgs false
namespace Go.Proofs.YthdjgebbjogmiaaDoor
open Go Go.RowKit
set_option maxRecDepth 100000

def colF (T P : List Int) (rc : Int) : List Int :=
 [X8 (T.getD (P.getD 13 0).toNat 0) rc, T.getD (P.getD 14 0).toNat 0, T.getD (P.getD 15 0).toNat 0, T.getD (P.getD 12 0).toNat 0]
/-- i cells of row r, laid into ks. -/
def keyI (P c : List Int) (r : Nat) (ks : List Int) : Nat → List Int
 | 0 => ks
 | i + 1 => (keyI P c r ks i).set (r * 16 + i) (X8 (P.getD i 0) (if i < 4 then c.getD i 0 else (keyI P c r ks i).getD (r * 16 + i - 4) 0))
def rowAt (ks : List Int) (r : Nat) : List Int := (ks.drop (r * 16)).take 16
def keyR (T : List Int) (ks0 : List Int) : Nat → Int × List Int
 | 0 => (1, ks0)
 | r + 1 => (tw (keyR T ks0 r).1, keyI (rowAt (keyR T ks0 r).2 r) (colF T (rowAt (keyR T ks0 r).2 r) (keyR T ks0 r).1) (r + 1) (keyR T ks0 r).2 16)
def keyZ (key : List Int) : List Int := key ++ List.replicate 160 0
def aesKeyF (T key : List Int) : List Int := (keyR T (keyZ key) 10).2

theorem keyI_len (P c : List Int) (r : Nat) (ks : List Int) (i : Nat) : (keyI P c r ks i).length = ks.length := by
 induction i with
 | zero => rfl
 | succ i ih => show ((keyI P c r ks i).set _ _).length = _; rw [List.length_set, ih]
theorem colF_bytes {T P : List Int} {rc : Int} (hT : Bytes T) (h : 0 ≤ rc ∧ rc < 256) : Bytes (colF T P rc) := by
 intro x hx
 simp only [colF, List.mem_cons, List.not_mem_nil, or_false] at hx
 rcases hx with rfl | rfl | rfl | rfl
 · exact x8_byte (hT.getD _) h
 · exact hT.getD _
 · exact hT.getD _
 · exact hT.getD _
theorem keyI_bytes {P c : List Int} (r : Nat) {ks : List Int} (hP : Bytes P) (hc : Bytes c) (hk : Bytes ks) (i : Nat) : Bytes (keyI P c r ks i) := by
 induction i with
 | zero => exact hk
 | succ i ih =>
  have hv : 0 ≤ X8 (P.getD i 0) (if i < 4 then c.getD i 0 else (keyI P c r ks i).getD (r * 16 + i - 4) 0) ∧ X8 (P.getD i 0) (if i < 4 then c.getD i 0 else (keyI P c r ks i).getD (r * 16 + i - 4) 0) < 256 := by
   refine x8_byte (hP.getD _) ?_
   split
   · exact hc.getD _
   · exact ih.getD _
  exact ih.set_ _ hv.1 hv.2
theorem rowAt_bytes {ks : List Int} (h : Bytes ks) (r : Nat) : Bytes (rowAt ks r) := fun x hx => h x (List.mem_of_mem_drop (List.mem_of_mem_take hx))
theorem rowAt_len {ks : List Int} (h : ks.length = 176) (r : Nat) (hr : r < 11) : (rowAt ks r).length = 16 := by
 rw [rowAt, List.length_take, List.length_drop, h]; omega
theorem keyR_ok {T ks0 : List Int} (hT : Bytes T) (h0 : ks0.length = 176) (hb : Bytes ks0) (r : Nat) :
 (0 ≤ (keyR T ks0 r).1 ∧ (keyR T ks0 r).1 < 256) ∧ (keyR T ks0 r).2.length = 176 ∧ Bytes (keyR T ks0 r).2 := by
 induction r with
 | zero => exact ⟨by show (0:Int) ≤ 1 ∧ (1:Int) < 256; omega, h0, hb⟩
 | succ r ih =>
  exact ⟨tw_byte ih.1, by show (keyI _ _ _ _ _).length = _; rw [keyI_len]; exact ih.2.1, keyI_bytes _ (rowAt_bytes ih.2.2 _) (colF_bytes hT ih.1) ih.2.2 _⟩
theorem keyZ_len {key : List Int} (h : key.length = 16) : (keyZ key).length = 176 := by rw [keyZ, List.length_append, h, List.length_replicate]
theorem keyZ_bytes {key : List Int} (h : Bytes key) : Bytes (keyZ key) := fun x hx => by
 rcases List.mem_append.1 hx with h1 | h1
 · exact h x h1
 · have := (List.mem_replicate.1 h1).2; subst this; omega
theorem aesKeyF_len {T key : List Int} (hT : Bytes T) (h : key.length = 16) (hb : Bytes key) : (aesKeyF T key).length = 176 := (keyR_ok hT (keyZ_len h) (keyZ_bytes hb) 10).2.1
theorem aesKeyF_bytes {T key : List Int} (hT : Bytes T) (h : key.length = 16) (hb : Bytes key) : Bytes (aesKeyF T key) := (keyR_ok hT (keyZ_len h) (keyZ_bytes hb) 10).2.2
/-- A key laid over zeros. -/
theorem keyZ_lset {key : List Int} (h : key.length = 16) : lset (u8s (List.replicate 176 0)) 0 (u8s key) = u8s (keyZ key) := by
 refine List.ext_getElem? fun j => ?_
 rw [lset_get _ _ _ _ (by rw [u8s_len, u8s_len, h, List.length_replicate]; omega), u8s_len, h]
 unfold keyZ u8s
 by_cases hj : j < 16
 · rw [if_pos ⟨by omega, by omega⟩, List.getElem?_map, List.getElem?_map, List.getElem?_append_left (by omega)]; rfl
 · rw [if_neg (by omega), List.getElem?_map, List.getElem?_map, List.getElem?_append_right (by omega), h, List.getElem?_replicate, List.getElem?_replicate]
   by_cases h2 : j < 176
   · rw [if_pos h2, if_pos (by omega)]
   · rw [if_neg h2, if_neg (by omega)]
/-- The row's cells in the block. -/
theorem row_range {w : World} {g : Nat} {t : TypeId} {ks : List Int} (h : Blk w g t (u8s ks)) (r : Nat) : w.rangeAt g (r * 16) (u8s (rowAt ks r)) :=
 blk_range h _ _ fun j u hu => by
  unfold u8s rowAt at hu
  rw [List.getElem?_map, List.getElem?_take] at hu
  unfold u8s
  split at hu
  · rw [List.getElem?_drop] at hu; rw [List.getElem?_map]; exact hu
  · simp at hu
theorem aesKeyF_at (T key : List Int) : aesKeyF T key = (keyR T (keyZ key) 10).2 := rfl
end Go.Proofs.YthdjgebbjogmiaaDoor

namespace Go.Proofs.YthdjgebbjogmiaaDoor
open Go Go.RowKit
set_option maxRecDepth 100000

def subAt (T a : List Int) (j : Nat) : Int := T.getD (a.getD ((j + 4 * (j % 4)) % 16) 0).toNat 0
def subF (T a : List Int) : List Int := (List.range 16).map (subAt T a)
def midF (T a : List Int) (r : Nat) : List Int := if r < 10 then columnsF (subF T a) else subF T a
def blockR (T ks inp : List Int) : Nat → List Int
 | 0 => xorF inp (rowAt ks 0)
 | r + 1 => xorF (midF T (blockR T ks inp r) (r + 1)) (rowAt ks (r + 1))
def blockF (T ks inp : List Int) : List Int := blockR T ks inp 10

theorem subF_len (T a : List Int) : (subF T a).length = 16 := by simp [subF]
theorem subF_get (T a : List Int) (j : Nat) (hj : j < 16) : (subF T a).getD j 0 = subAt T a j := by
 rw [getD_el _ _ (by rw [subF_len]; exact hj)]
 simp [subF]
theorem subF_bytes {T : List Int} (h : Bytes T) (a : List Int) : Bytes (subF T a) := fun x hx => by
 obtain ⟨j, _, rfl⟩ := List.mem_map.1 hx
 exact h.getD _
theorem xorF_bytes {a b : List Int} (ha : a.length = 16) (hb : b.length = 16) (h : Bytes a) (h' : Bytes b) : Bytes (xorF a b) := fun x hx => by
 obtain ⟨j, hj, rfl⟩ := List.getElem_of_mem hx
 rw [xorF_len a b ha hb] at hj
 rw [← getD_el _ _ (by rw [xorF_len a b ha hb]; exact hj), xorF_get a b j (by omega) (by omega)]
 exact x8_byte (h.getD _) (h'.getD _)
theorem midF_len (T a : List Int) (r : Nat) : (midF T a r).length = 16 := by
 unfold midF; split
 · exact columnsF_len _
 · exact subF_len _ _
theorem midF_bytes {T : List Int} (h : Bytes T) (a : List Int) (r : Nat) : Bytes (midF T a r) := by
 unfold midF; split
 · exact columnsF_bytes (subF_bytes h a)
 · exact subF_bytes h a
theorem blockR_ok {T ks inp : List Int} (hT : Bytes T) (hk : ks.length = 176) (bk : Bytes ks) (hi : inp.length = 16) (bi : Bytes inp) (r : Nat) (hr : r ≤ 10) :
 (blockR T ks inp r).length = 16 ∧ Bytes (blockR T ks inp r) := by
 induction r with
 | zero => exact ⟨xorF_len _ _ hi (rowAt_len hk 0 (by omega)), xorF_bytes hi (rowAt_len hk 0 (by omega)) bi (rowAt_bytes bk 0)⟩
 | succ r ih => exact ⟨xorF_len _ _ (midF_len _ _ _) (rowAt_len hk (r + 1) (by omega)), xorF_bytes (midF_len _ _ _) (rowAt_len hk (r + 1) (by omega)) (midF_bytes hT _ _) (rowAt_bytes bk (r + 1))⟩
theorem blockF_len {T ks inp : List Int} (hT : Bytes T) (hk : ks.length = 176) (bk : Bytes ks) (hi : inp.length = 16) (bi : Bytes inp) : (blockF T ks inp).length = 16 := (blockR_ok hT hk bk hi bi 10 (by omega)).1
theorem blockF_bytes {T ks inp : List Int} (hT : Bytes T) (hk : ks.length = 176) (bk : Bytes ks) (hi : inp.length = 16) (bi : Bytes inp) : Bytes (blockF T ks inp) := (blockR_ok hT hk bk hi bi 10 (by omega)).2
end Go.Proofs.YthdjgebbjogmiaaDoor

namespace Go.Proofs.YthdjgebbjogmiaaDoor
open Go Go.RowKit
set_option maxRecDepth 100000

/-- Place j of the counter's block. -/
def ctrAt (n j : Nat) : Int := ((n / 256 ^ (15 - j) % 256 : Nat) : Int)
def ctr (n : Nat) : List Int := (List.range 16).map (ctrAt n)
theorem ctr_len (n : Nat) : (ctr n).length = 16 := by simp [ctr]
theorem ctr_get (n j : Nat) (hj : j < 16) : (ctr n).getD j 0 = ctrAt n j := by
 rw [getD_el _ _ (by rw [ctr_len]; exact hj)]
 simp [ctr]
theorem ctrAt_byte (n j : Nat) : 0 ≤ ctrAt n j ∧ ctrAt n j < 256 := by
 unfold ctrAt
 have := Nat.mod_lt (n / 256 ^ (15 - j)) (show 0 < 256 by omega)
 omega
theorem ctr_bytes (n : Nat) : Bytes (ctr n) := fun x hx => by
 obtain ⟨j, _, rfl⟩ := List.mem_map.1 hx
 exact ctrAt_byte n j
/-- Where streams begin. -/
def atF (at_ : Int) : Nat := (max 0 (min at_ 1073741824)).toNat
theorem atF_le (a : Int) : atF a ≤ 1073741824 := by unfold atF; omega
/-- The stream's byte at place p. -/
def keyAt (T ks : List Int) (p : Nat) : Int := (blockF T ks (ctr (p / 16))).getD (p % 16) 0
def streamAt (T ks : List Int) (a : Nat) (b : List Int) (i : Nat) : Int := X8 (b.getD i 0) (keyAt T ks (a + i))
def streamF (T ks : List Int) (a : Nat) (b : List Int) : List Int := (List.range b.length).map (streamAt T ks a b)
theorem streamF_len (T ks : List Int) (a : Nat) (b : List Int) : (streamF T ks a b).length = b.length := by simp [streamF]
theorem streamF_get (T ks : List Int) (a : Nat) (b : List Int) (i : Nat) (hi : i < b.length) : (streamF T ks a b).getD i 0 = streamAt T ks a b i := by
 rw [getD_el _ _ (by rw [streamF_len]; exact hi)]
 simp [streamF]
theorem keyAt_byte {T ks : List Int} (hT : Bytes T) (hk : ks.length = 176) (bk : Bytes ks) (p : Nat) : 0 ≤ keyAt T ks p ∧ keyAt T ks p < 256 := (blockF_bytes hT hk bk (ctr_len _) (ctr_bytes _)).getD _
theorem streamF_bytes {T ks : List Int} (hT : Bytes T) (hk : ks.length = 176) (bk : Bytes ks) (a : Nat) {b : List Int} (hb : Bytes b) : Bytes (streamF T ks a b) := fun x hx => by
 obtain ⟨j, _, rfl⟩ := List.mem_map.1 hx
 exact x8_byte (hb.getD _) (keyAt_byte hT hk bk _)
end Go.Proofs.YthdjgebbjogmiaaDoor

namespace Go.Proofs.YthdjgebbjogmiaaDoor
open Go Go.RowKit
set_option maxRecDepth 100000

end Go.Proofs.YthdjgebbjogmiaaDoor

namespace Go.Proofs.YthdjgebbjogmiaaDoor
open Go Go.RowKit
set_option maxRecDepth 100000

set_option maxRecDepth 100000 in
set_option maxHeartbeats 4000000 in
theorem block_any (T ks inp : List Int) (kb tb : Nat) (w : World) (hT : byteL T) (hk : ks.length = 176) (bk : Bytes ks) (hi : inp.length = 16) (bi : Bytes inp)
 (hkb : Blk w kb 90 (u8s ks)) (htb : Blk w tb 88 (u8s T)) (hkl : kb < w.heap.size) (htl : tb < w.heap.size) :
 Calls Tryd.prog 91 #[.pointer (some ⟨kb, 0, none⟩), .pointer (some ⟨tb, 0, none⟩), .agg (u8s inp).toArray] w fun e w' => e = .returned (.agg (u8s (blockF T ks inp)).toArray) ∧ Below w.heap.size w w' := by
 have HT := hide hT
 have HK := hide hk
 have HBK := hide bk
 have HL := hide hi
 have HBI := hide bi
 have HKB := hide hkb
 have HTB := hide htb
 have HI16 := hide (show (Tryd.prog.info? 22).map (·.size) = some (u8s inp).length by rw [u8s_len, hi]; exact size16)
 clear hT hk bk hi bi hkb htb
 obtain ⟨RES, HRES⟩ : ∃ x, Hid (blockF T ks inp = x) := ⟨_, hide rfl⟩
 rw [HRES.out]
 go_enter Tryd.func91, Tryd.ntmps91
 go_upto_region 1 with fail
 go_cut [7] (fun s7 wx => ∃ g : Nat, s7 = .pointer (some ⟨g, 0, none⟩) ∧ w.heap.size + 2 ≤ g ∧ Blk wx g 22 (u8s (xorF inp (rowAt ks 0))) ∧ Blk wx (w.heap.size + 1) 22 (u8s (List.replicate 16 0)) ∧ Below w.heap.size w wx)
 case first =>
  obtain ⟨wb, HW⟩ : ∃ wb, Hid ((w.alloc (.cells (u8s inp).toArray 22)).alloc (.cells (u8s (List.replicate 16 0)).toArray 22) = wb) := ⟨_, hide rfl⟩
  have B1 : Blk wb w.heap.size 22 (u8s inp) := by rw [← HW.out]; exact (Blk.new w 22 (u8s inp)).alloc _
  have B2 : Blk wb (w.heap.size + 1) 22 (u8s (List.replicate 16 0)) := by
   rw [← HW.out]; have := Blk.new (w.alloc (.cells (u8s inp).toArray 22)) 22 (u8s (List.replicate 16 0)); simpa using this
  have HB : Below w.heap.size w wb := by rw [← HW.out]; exact ((Below.refl w.heap.size w).alloc (Nat.le_refl _) _).alloc (by simp) _
  have hsz : w.heap.size + 2 ≤ wb.heap.size := by rw [← HW.out]; simp
  have K1 := HKB.out.below HB hkl
  show (Code.region _ _ _).wp _ _ _ ((w.alloc (.cells (u8s inp).toArray 22)).alloc (.cells (u8s (List.replicate 16 0)).toArray 22))
  rw [HW.out]
  refine wp_region_held_drew (S := fun w' => Below wb.heap.size wb w') (by kernel_rfl) (Below.refl _ _).drew (fun hHeld => ?_)
  refine wpAnyH_take (i := 0) (v := .agg (u8s inp).toArray) rfl (by kernel_rfl) (by kernel_rfl) (by kernel_rfl) (fun _ _ _ h => h) (yieldsIf_load_mid (by rfl) 22 _ rfl w.heap.size 0 rfl (u8s inp) _ (fun w' hS => blk_range (B1.below hS (by omega)) 0 _ (fun j u h => by simpa using h)) rfl rfl HI16.out) hHeld ?_
  refine wpAnyH_take (i := 1) (v := .pointer (some ⟨kb, 0, none⟩)) rfl (by kernel_rfl) (by kernel_rfl) (by kernel_rfl) (fun _ _ _ h => h) (Or.inl ⟨by rfl, fun w' hS => by go_simp⟩) hHeld ?_
  refine wpAnyH_take (i := 2) (v := .pointer (some ⟨kb, 0, none⟩)) rfl (by kernel_rfl) (by kernel_rfl) (by kernel_rfl) (fun _ _ _ h => h) (Or.inl ⟨by rfl, fun w' hS => by go_simp⟩) hHeld ?_
  refine wpAnyH_take (i := 3) (v := .pointer (some ⟨kb, 0, none⟩)) rfl (by kernel_rfl) (by kernel_rfl) (by kernel_rfl) (fun _ _ _ h => h) (Or.inl ⟨by rfl, fun w' hS => by go_simp⟩) hHeld ?_
  have HL0 := hide (rowAt_len HK.out 0 (by omega))
  have HB0 := hide (rowAt_bytes HBK.out 0)
  have HI0 := hide (show (Tryd.prog.info? 22).map (·.size) = some (u8s (rowAt ks 0)).length by rw [u8s_len, HL0.out]; exact size16)
  refine wpAnyH_take (i := 4) (v := .agg (u8s (rowAt ks 0)).toArray) rfl (by kernel_rfl) (by kernel_rfl) (by kernel_rfl) (fun _ _ _ h => h) (yieldsIf_load_mid (by rfl) 22 _ rfl kb 0 rfl (u8s (rowAt ks 0)) _ (fun w' hS => by have := row_range (K1.below hS (by omega)) 0; simpa using this) rfl rfl HI0.out) hHeld ?_
  refine wpAnyH_ready (rs := [5, 6]) (by kernel_rfl) (by simp) (AllReadyH.cons rfl (fun K hK => ?call1) (AllReadyH.cons rfl (fun K hK => ?alloc1) AllReadyH.nil))
  case call1 =>
   rw [if_pos (by rfl)]
   go_simp
   refine (xor_any inp (rowAt ks 0) _ HL.out HL0.out HBI.out HB0.out).mono ?_
   rintro e w1 ⟨rfl, hb1⟩
   refine hK.out _ _ (hHeld.trans (hb1.mono hHeld.size)) (fun hHeld => ?_)
   have hge : wb.heap.size ≤ w1.heap.size := hHeld.size
   clear hK K
   try simp only [Act.put, s1_, s2_, s3_]
   refine wpAnyH_ready (rs := [6]) (by kernel_rfl) (by simp) (AllReadyH.cons rfl (fun K hK => ?_) AllReadyH.nil)
   rw [if_pos (by rfl)]
   refine wp_alloc_blkD 22 7 rfl rfl _ zero16 ?_
   intro w2 b2 hb2 hs2
   refine hK.out _ _ (hHeld.trans (hb2.mono hHeld.size)) (fun hHeld => ?_)
   clear hK K
   try simp only [Act.put, s1_, s2_, s3_]
   refine wpAnyH_ready (rs := [7]) (by kernel_rfl) (by simp) (AllReadyH.cons rfl (fun K hK => ?_) AllReadyH.nil)
   rw [if_pos (by rfl)]
   refine wp_store_blkD 22 _ _ rfl rfl _ 0 (u8s (xorF inp (rowAt ks 0))) rfl rfl _ _ b2 (by rw [u8s_len, u8s_len, xorF_len _ _ HL.out HL0.out]; simp) (by rw [u8s_len, xorF_len _ _ HL.out HL0.out]; exact size16) (u8s_one _) ?_
   intro w3 b3 hg3 hs3
   rw [lset_all _ _ (by rw [u8s_len, u8s_len, xorF_len _ _ HL.out HL0.out]; simp)] at b3
   have hbf : Below wb.heap.size wb w3 := hHeld.grown hg3 hHeld.size (by intro k hk; simp at hk; omega)
   refine hK.out _ _ hbf (fun hHeld => ?_)
   clear hK K
   try simp only [Act.put, s1_, s2_, s3_]
   refine wpAnyH_done (by kernel_rfl) ?_ _
   go_wp2_with fail
   go_meet
   exact ⟨_, rfl, by omega, b3, B2.below hbf (by omega), HB.trans (hbf.mono (by omega))⟩
  case alloc1 =>
   rw [if_pos (by rfl)]
   refine wp_alloc_blkD 22 7 rfl rfl _ zero16 ?_
   intro w2 b2 hb2 hs2
   have hge := hHeld.size
   refine hK.out _ _ (hHeld.trans (hb2.mono hHeld.size)) (fun hHeld => ?_)
   clear hK K
   try simp only [Act.put, s1_, s2_, s3_]
   refine wpAnyH_ready (rs := [5]) (by kernel_rfl) (by simp) (AllReadyH.cons rfl (fun K hK => ?_) AllReadyH.nil)
   rw [if_pos (by rfl)]
   go_simp
   refine (xor_any inp (rowAt ks 0) _ HL.out HL0.out HBI.out HB0.out).mono ?_
   rintro e w1 ⟨rfl, hb1⟩
   go_simp
   have b2' : Blk w1 wb.heap.size 22 (u8s (List.replicate 16 0)) := b2.below hb1 b2.lt
   refine hK.out _ _ (hHeld.trans (hb1.mono hHeld.size)) (fun hHeld => ?_)
   clear hK K
   try simp only [Act.put, s1_, s2_, s3_]
   refine wpAnyH_ready (rs := [7]) (by kernel_rfl) (by simp) (AllReadyH.cons rfl (fun K hK => ?_) AllReadyH.nil)
   rw [if_pos (by rfl)]
   refine wp_store_blkD 22 _ _ rfl rfl _ 0 (u8s (xorF inp (rowAt ks 0))) rfl rfl _ _ b2' (by rw [u8s_len, u8s_len, xorF_len _ _ HL.out HL0.out]; simp) (by rw [u8s_len, xorF_len _ _ HL.out HL0.out]; exact size16) (u8s_one _) ?_
   intro w3 b3 hg3 hs3
   rw [lset_all _ _ (by rw [u8s_len, u8s_len, xorF_len _ _ HL.out HL0.out]; simp)] at b3
   have hbf : Below wb.heap.size wb w3 := hHeld.grown hg3 hHeld.size (by intro k hk; simp at hk; omega)
   refine hK.out _ _ hbf (fun hHeld => ?_)
   clear hK K
   try simp only [Act.put, s1_, s2_, s3_]
   refine wpAnyH_done (by kernel_rfl) ?_ _
   go_wp2_with fail
   go_meet
   exact ⟨_, rfl, by omega, b3, B2.below hbf (by omega), HB.trans (hbf.mono (by omega))⟩
 case rest =>
  obtain ⟨g, rfl, hg, bg, bo, hbel⟩ := hcut
  have HG := hide hg
  have BG := hide bg
  have BO := hide bo
  have HBW := hide hbel
  clear hg bg bo hbel HI16
  go_wp2_with fail
  go_loopw [8] (fun vr wr => ∃ r : Nat, r ≤ 10 ∧ vr = .int .i64 ((r + 1 : Nat) : Int) ∧ Blk wr g 22 (u8s (blockR T ks inp r)) ∧ Blk wr (w.heap.size + 1) 22 (u8s (List.replicate 16 0)) ∧ Below w.heap.size w wr) (fun vr _ => (11 - intOf vr).toNat)
  case atStart => exact ⟨0, by omega, rfl, BG.out, BO.out, HBW.out⟩
  case round =>
   clear BG BO HBW
   obtain ⟨wo, rfl⟩ : ∃ wo : World, wo = wr := ⟨_, rfl⟩
   obtain ⟨r, hr, rfl, bg, bo, hbel⟩ := hrel
   obtain ⟨al, ab⟩ := blockR_ok HT.out.2 HK.out HBK.out HL.out HBI.out r hr
   have HN := hide (show blockR T ks inp (r + 1) = xorF (midF T (blockR T ks inp r) (r + 1)) (rowAt ks (r + 1)) from rfl)
   obtain ⟨A, HA⟩ : ∃ x, Hid (blockR T ks inp r = x) := ⟨_, hide rfl⟩
   rw [HA.out] at bg al ab HN
   have BG := hide bg
   have BO := hide bo
   have HBW := hide hbel
   have HAL := hide al
   have HAB := hide ab
   have KB := hide (HKB.out.below hbel hkl)
   have TB := hide (HTB.out.below hbel htl)
   have hglt := bg.lt
   have hwlt := bo.lt
   have hkl2 := KB.out.lt
   have htl2 := TB.out.lt
   clear bg bo hbel al ab
   by_cases hrt : r < 10
   · go_wp2_with (refine wpList_alloc_blk rfl 22 rfl _ zero16 ?_; intro wa ba hba hsa; have BA := hide ba; have HBA := hide hba; have HSA := hide hsa; clear ba hba hsa)
     clear HA
     have hba := BA.out.lt
     have BG1 := hide (BG.out.below HBA.out hglt)
     have TB1 := hide (TB.out.below HBA.out htl2)
     have hs1 : wo.heap.size < wa.heap.size := by rw [HSA.out]; omega
     have HBwa := hide (HBW.out.trans (HBA.out.mono HBW.out.size))
     go_loopw [10, 21] (fun _ vi wq => ∃ (i : Nat) (xs : List Int), i ≤ 16 ∧ vi = .int .i64 i ∧ xs.length = 16 ∧ (∀ j, j < 16 → xs.getD j 0 = if j < i then subAt T A j else 0) ∧
      Blk wq wo.heap.size 22 (u8s xs) ∧ Below wo.heap.size wo wq) (fun _ vi _ => (16 - intOf vi).toNat)
     case atStart => exact ⟨0, List.replicate 16 0, by omega, rfl, by simp, fun j hj => by rw [getD_el _ _ (by simpa using hj), List.getElem_replicate]; simp, BA.out, HBA.out⟩
     case round =>
      obtain ⟨i, xs, hi, rfl, hl, hx, bq, hbq⟩ := hrel
      have HXL := hide hl
      have HX := hide hx
      have BQ := hide bq
      have HBQ := hide hbq
      have BGq := hide (BG.out.below hbq hglt)
      have TBq := hide (TB.out.below hbq htl2)
      have hqlt := bq.lt
      clear hl hx bq hbq
      by_cases hit : i < 16
      · obtain ⟨m, hm⟩ : ∃ m, i % 4 = m := ⟨_, rfl⟩
        obtain ⟨j, hj⟩ : ∃ j, (i + 4 * m) % 16 = j := ⟨_, rfl⟩
        have t1 : (i : Int).tmod 4 = (m : Int) := by rw [Int.tmod_eq_emod_of_nonneg (by omega)]; omega
        have w1 : IntKind.i64.wrap (4 * (m : Int)) = 4 * (m : Int) := IntWalk.i64_in _ (by omega)
        have w2 : IntKind.i64.wrap ((i : Int) + 4 * (m : Int)) = (i : Int) + 4 * (m : Int) := IntWalk.i64_in _ (by omega)
        have t2 : ((i : Int) + 4 * (m : Int)).tmod 16 = (j : Int) := by rw [Int.tmod_eq_emod_of_nonneg (by omega)]; omega
        have HJ := hide (show (i + 4 * (i % 4)) % 16 = j by rw [hm]; exact hj)
        have i0 : (0 : Int) ≤ (i : Int) := by omega
        have i1 : (i : Int) < 16 := by omega
        have j0 : (0 : Int) ≤ (j : Int) := by omega
        have j1 : (j : Int) < 16 := by omega
        have j2 : j < 16 := by omega
        obtain ⟨x, HXj⟩ : ∃ x, Hid (A.getD j 0 = x) := ⟨_, hide rfl⟩
        have x0 := HAB.out.getD j
        rw [HXj.out] at x0
        obtain ⟨x0, x1⟩ := x0
        obtain ⟨y, HYx⟩ : ∃ y, Hid (T.getD x.toNat 0 = y) := ⟨_, hide rfl⟩
        have c1 := blk_get BGq.out j x (by rw [HAL.out]; exact j2) HXj.out
        have c2 := blk_get TBq.out x.toNat y (by rw [HT.out.1]; omega) HYx.out
        obtain ⟨old, HOLD⟩ : ∃ x, Hid (xs.getD i 0 = x) := ⟨_, hide rfl⟩
        have c3 := blk_get BQ.out i old (by rw [HXL.out]; omega) HOLD.out
        have f3 := BQ.out.frozen i
        have hxs := hide (show x.toNat < 256 by omega)
        clear hm hj
        go_wp2_with fail
        go_region
        all_goals
         go_wp2_with fail
         go_roundw
         case measure => simp [intOf]; omega
         case rel =>
          have e1 : (i : Int) + 1 = ((i + 1 : Nat) : Int) := by omega
          refine ⟨i + 1, xs.set i y, by omega, by rw [e1], by simpa using HXL.out, fun k hk => ?_, (blk_set BQ.out i _).drew, (HBQ.out.setCell (p := ⟨wo.heap.size, i, none⟩) (Nat.le_refl _) _).drew⟩
          rw [getD_set' _ _ _ _ (by rw [HXL.out]; exact hit)]
          have hxk := HX.out k hk
          by_cases e : i = k
          · subst e
            rw [if_pos rfl, if_pos (by omega), subAt, HJ.out, HXj.out, HYx.out]
          · rw [if_neg e, hxk]
            by_cases h1 : k < i
            · rw [if_pos h1, if_pos (by omega)]
            · rw [if_neg h1, if_neg (by omega)]
      · have HXS := hide (show xs = subF T A from ext_getD (by rw [HXL.out, subF_len]) fun k hk => by rw [HXL.out] at hk; rw [HX.out k hk, if_pos (by omega), subF_get T A k hk])
        go_upto_if 40 with fail
        have TSB := subF_bytes HT.out.2 A
        go_cut [] (fun wx => Blk wx wo.heap.size 22 (u8s (midF T A (r + 1))) ∧ Below wo.heap.size wo wx)
        case first =>
         by_cases h9 : r + 1 < 10
         · have h9' : ((r + 1 : Nat) : Int) < 10 := by omega
           have HIX := hide (show (Tryd.prog.info? 22).map (·.size) = some (u8s xs).length by rw [u8s_len, HXL.out]; exact size16)
           have HXB := hide (show Bytes xs by rw [HXS.out]; exact TSB)
           go_wp2_with (first | (refine wpList_load_blk rfl 22 _ rfl _ rfl _ _ BQ.out 16 5 rfl HIX.out ?_) | (go_at_call 99; refine (columns_any xs _ HXL.out HXB.out).mono ?_; rintro e w5 ⟨rfl, hb5⟩; have BQ5 := hide (BQ.out.below hb5 hqlt); have HB5 := hide hb5; clear hb5) | (refine wpList_store_blk rfl 22 _ _ rfl _ 0 (u8s (columnsF xs)) rfl rfl _ _ BQ5.out (by rw [u8s_len, u8s_len, columnsF_len, HXL.out]; simp) (by rw [u8s_len, columnsF_len]; exact size16) (u8s_one _) ?_; intro w6 b6 hg6 hs6))
           rw [lset_all _ _ (by rw [u8s_len, u8s_len, columnsF_len, HXL.out])] at b6
           go_meet
           refine ⟨by rw [midF, if_pos h9, ← HXS.out]; exact b6, (HBQ.out.trans (HB5.out.mono (by omega))).grown hg6 (HBQ.out.trans (HB5.out.mono (by omega))).size (by intro k hk; simp at hk; omega)⟩
         · have h9' : ¬ ((r + 1 : Nat) : Int) < 10 := by omega
           go_wp2_with fail
           go_meet
           exact ⟨by rw [midF, if_neg h9, ← HXS.out]; exact BQ.out, HBQ.out⟩
        case rest =>
         obtain ⟨bm, hbm⟩ := hcut
         have HML := hide (midF_len T A (r + 1))
         have HMB := hide (midF_bytes HT.out.2 A (r + 1))
         obtain ⟨M, HM⟩ : ∃ x, Hid (midF T A (r + 1) = x) := ⟨_, hide rfl⟩
         rw [HM.out] at bm HML HMB HN
         have KBc := hide ((HKB.out.below HBW.out hkl).below hbm hkl2)
         have BGc := hide (BG.out.below hbm hglt)
         have HRL := hide (rowAt_len HK.out (r + 1) (by omega))
         have HRB := hide (rowAt_bytes HBK.out (r + 1))
         have HIM := hide (show (Tryd.prog.info? 22).map (·.size) = some (u8s M).length by rw [u8s_len, HML.out]; exact size16)
         have HIR := hide (show (Tryd.prog.info? 22).map (·.size) = some (u8s (rowAt ks (r + 1))).length by rw [u8s_len, HRL.out]; exact size16)
         have hkc := KBc.out.lt
         have hmc := bm.lt
         have hgc := BGc.out.lt
         have hwoc := hbm.size
         have hg2 := HG.out
         have BM := hide bm
         have r0 : (0 : Int) ≤ (r : Int) + 1 := by omega
         have r1 : (r : Int) + 1 < 11 := by omega
         clear bm
         go_wp2_with fail
         refine wp_region_held_drew (S := fun w' => wc.grownBy w' (some g)) (by kernel_rfl) (grown_drew (World.grownBy.refl _ _)) (fun hHeld => ?_)
         refine wpAnyH_take (i := 0) (v := .agg (u8s M).toArray) rfl (by kernel_rfl) (by kernel_rfl) (by kernel_rfl) (fun _ _ _ h => h) (yieldsIf_load_mid (by rfl) 22 _ rfl wo.heap.size 0 rfl (u8s M) _ (fun w' hS => blk_range (BM.out.grown hS (by simp <;> omega)) 0 _ (fun j u h => by simpa using h)) rfl rfl HIM.out) hHeld ?_
         refine wpAnyH_take (i := 1) (v := .pointer (some ⟨kb, 0, none⟩)) rfl (by kernel_rfl) (by kernel_rfl) (by kernel_rfl) (fun _ _ _ h => h) (Or.inl ⟨by rfl, fun w' hS => by go_simp⟩) hHeld ?_
         refine wpAnyH_take (i := 2) (v := .int .i64 ((r : Int) + 1)) rfl (by kernel_rfl) (by kernel_rfl) (by kernel_rfl) (fun _ _ _ h => h) (Or.inl ⟨by rfl, fun w' hS => by go_simp⟩) hHeld ?_
         refine wpAnyH_take (i := 3) (v := .pointer (some ⟨kb, 0, none⟩)) rfl (by kernel_rfl) (by kernel_rfl) (by kernel_rfl) (fun _ _ _ h => h) (Or.inl ⟨by rfl, fun w' hS => by go_simp⟩) hHeld ?_
         refine wpAnyH_take (i := 4) (v := .pointer (some ⟨kb, (r + 1) * 16, none⟩)) rfl (by kernel_rfl) (by kernel_rfl) (by kernel_rfl) (fun _ _ _ h => h) (Or.inl ⟨by rfl, fun w' hS => by go_simp⟩) hHeld ?_
         refine wpAnyH_take (i := 5) (v := .agg (u8s (rowAt ks (r + 1))).toArray) rfl (by kernel_rfl) (by kernel_rfl) (by kernel_rfl) (fun _ _ _ h => h) (yieldsIf_load_mid (by rfl) 22 _ rfl kb ((r + 1) * 16) rfl (u8s (rowAt ks (r + 1))) _ (fun w' hS => row_range (KBc.out.grown hS (by simp <;> omega)) (r + 1)) rfl rfl HIR.out) hHeld ?_
         refine wpAnyH_ready (rs := [6]) (by kernel_rfl) (by simp) (AllReadyH.cons rfl (fun K hK => ?_) AllReadyH.nil)
         rw [if_pos (by rfl)]
         go_simp
         refine (xor_any M (rowAt ks (r + 1)) _ HML.out HRL.out HMB.out HRB.out).mono ?_
         rintro e w1 ⟨rfl, hb1⟩
         go_simp
         have BG1 := (BGc.out.drew).below hb1 hgc
         refine hK.out _ _ (hHeld.trans (grown_of_below hb1 (Nat.le_refl _) _)) (fun hHeld => ?_)
         clear hK K
         try simp only [Act.put, s1_, s2_, s3_]
         refine wpAnyH_ready (rs := [7]) (by kernel_rfl) (by simp) (AllReadyH.cons rfl (fun K hK => ?_) AllReadyH.nil)
         rw [if_pos (by rfl)]
         refine wp_store_blkD 22 _ _ rfl rfl _ 0 (u8s (xorF M (rowAt ks (r + 1)))) rfl rfl _ _ BG1 (by rw [u8s_len, u8s_len, xorF_len _ _ HML.out HRL.out, HAL.out]; simp) (by rw [u8s_len, xorF_len _ _ HML.out HRL.out]; exact size16) (u8s_one _) ?_
         intro w3 b3 hg3 hs3
         rw [lset_all _ _ (by rw [u8s_len, u8s_len, xorF_len _ _ HML.out HRL.out, HAL.out])] at b3
         refine hK.out _ _ (hHeld.trans hg3) (fun hHeld => ?_)
         clear hK K
         try simp only [Act.put, s1_, s2_, s3_]
         refine wpAnyH_done (by kernel_rfl) ?_ _
         have e1 : (r : Int) + 1 + 1 = ((r + 1 + 1 : Nat) : Int) := by omega
         have HBf := hide ((HBW.out.trans (hbm.mono HBW.out.size)).grown hHeld (HBW.out.trans (hbm.mono HBW.out.size)).size (by intro k hk; simp at hk; omega))
         have BOf := hide ((BO.out.below hbm hwlt).grown hHeld (by simp <;> omega))
         have B3 := hide b3
         have HE1 := hide e1
         clear hb1 hHeld hg3 hs3 BG1 b3 e1 hbm
         go_wp2_with fail
         go_roundw
         case measure => simp [intOf]; omega
         case rel => exact ⟨r + 1, by omega, by rw [HE1.out], by rw [HN.out]; exact B3.out, BOf.out, HBf.out⟩
   · have hg2 := HG.out
     have HR := hide (show r = 10 by omega)
     have HIA := hide (show (Tryd.prog.info? 22).map (·.size) = some (u8s A).length by rw [u8s_len, HAL.out]; exact size16)
     have HF := hide (show RES = A by rw [← HRES.out, blockF, ← HA.out, HR.out])
     clear HR HA
     go_wp2_with (first | (refine wpList_load_blk rfl 22 _ rfl _ rfl _ _ BG.out 16 5 rfl HIA.out ?_) | (refine wpList_store_blk rfl 22 _ _ rfl _ 0 (u8s A) rfl rfl _ _ BO.out (by rw [u8s_len, u8s_len, HAL.out]; simp) HIA.out (u8s_one _) ?_; intro w3 hB hg3 hs3; rw [lset_all _ _ (by rw [u8s_len, u8s_len, HAL.out]; simp)] at hB) | (exact bodyPost_ret (v := .agg (u8s A).toArray) (results_cell_row rfl _ _ (w.heap.size + 1) 22 _ (0, 0) _ rfl hB rfl rfl (by simpa using HIA.out)) rfl ⟨by rw [HF.out], HBW.out.grown hg3 HBW.out.size (by intro k hk; simp at hk; omega)⟩))
end Go.Proofs.YthdjgebbjogmiaaDoor

/- Strings and rows of bytes: '[]byte(s)', 'string(b)', append inside a walk; the library's table of powers of ten; strconv.Itoa. Condition: the table is laid.
code.Base32 of bytes: their letters. Condition: at most 2^40 bytes. -/
import Derived.Test.YthdjgebbjogmiaaDoorJoin2
import Derived.Test.YthdjgebbjogmiaaDoorShelf
import Derived.Lib.AppendIntMem
set_option linter.unusedVariables false
set_option linter.unusedSimpArgs false
namespace Go.Proofs.YthdjgebbjogmiaaDoor
open Go Go.RowKit
set_option maxRecDepth 100000

/-- A string's bytes as numbers. -/
def strB (s : ByteArray) : List Int := s.data.toList.map fun b => (b.toNat : Int)
theorem strB_len (s : ByteArray) : (strB s).length = s.size := by rw [strB, List.length_map, Array.length_toList]; rfl
theorem strB_bytes (s : ByteArray) : Bytes (strB s) := fun x hx => by
 obtain ⟨b, _, rfl⟩ := List.mem_map.1 hx
 have := b.toNat_lt
 omega
theorem strB_of {xs : List Int} (h : Bytes xs) : strB (strOfNums xs) = xs := by
 rw [strB, strOfNums_data, List.map_map]
 conv => rhs; rw [← List.map_id xs]
 refine List.map_congr_left fun x hx => ?_
 obtain ⟨h0, h1⟩ := h x hx
 simp [UInt8.toNat_ofNat']
 omega
theorem strOf_strB (s : ByteArray) : strOfNums (strB s) = s := by
 obtain ⟨d⟩ := s
 unfold strOfNums strB
 congr 1
 apply Array.ext'
 rw [List.map_map]
 simp [Function.comp_def]
theorem strOf_inj {xs ys : List Int} (hx : Bytes xs) (hy : Bytes ys) : strOfNums xs = strOfNums ys ↔ xs = ys :=
 ⟨fun h => by rw [← strB_of hx, h, strB_of hy], fun h => by rw [h]⟩

/-- '[]byte(s)'. -/
theorem run_to_bytes (w : World) (s : ByteArray) (hs : s.size ≤ maxLen) :
 ∃ v' w', (convert 9 26 (.string s)).run Tryd.prog w = .ok v' w' ∧ RowB w' w.heap.size v' (strB s) ∧ Below w.heap.size w w' := by
 refine ⟨_, _, Lib.run_convert_string_bytes w 9 26 5 s Tryd.underlying9 Tryd.underlying26 Tryd.underlying5, .inr ⟨w.heap.size, grownCap w s.size 0 5, strB s ++ List.replicate (grownCap w s.size 0 5 - s.size) 0, (grownCap w s.size 0 5, grownCap w s.size 0 5 + 1), by rw [strB_len], Nat.le_refl _, ?_, .inr (Nat.le_refl _), ?_, grownCap_le_maxLen w _ _ _ hs, ?_, (strB_bytes s).app (bytes_rep _), List.take_left' rfl⟩, ⟨rfl, rfl, rfl, by rw [Lib.bytesWorld_size]; omega, fun j hj => Lib.bytesWorld_at_old w _ s j hj⟩⟩
 · have h := Lib.bytesWorld_at_new w 5 s
   have e : Lib.bytesCells w 5 s = (u8s (strB s ++ List.replicate (grownCap w s.size 0 5 - s.size) 0)).toArray := by
    unfold Lib.bytesCells u8s strB
    apply Array.ext'
    simp
   have e2 : (u8s (strB s ++ List.replicate (grownCap w s.size 0 5 - s.size) 0)).toArray.size = grownCap w s.size 0 5 := by
    have := grownCap_ge w s.size 0 5
    simp [u8s, strB_len]; omega
   rw [e, e2] at h
   exact h
 · rw [strB_len]; exact grownCap_ge w s.size 0 5
 · have := grownCap_ge w s.size 0 5
   rw [List.length_append, strB_len, List.length_replicate]; omega

/-- 'string(b)'. -/
theorem run_to_string (w : World) (B : Nat) (v : Value) (xs : List Int) (h : Bs w B v xs) : (convert 26 9 v).run Tryd.prog w = .ok (.string (strOfNums xs)) w := by
 obtain ⟨A, c, rfl, h1, h2, h3⟩ := h.open_
 by_cases hp : 0 < xs.length
 · obtain ⟨b, o, rfl, hb, hc⟩ := h3 hp
   exact run_convert_bytes_arg w 26 5 Tryd.underlying26 Tryd.underlying5 b o xs.length c xs rfl (fun i hi => hc i _ hi rfl) 9 Tryd.underlying9
 · obtain rfl : xs = [] := List.eq_nil_of_length_eq_zero (by omega)
   rcases A with _ | ⟨b, o, f⟩
   · exact run_convert_bytes_nil w 26 5 Tryd.underlying26 Tryd.underlying5 _ c 9 Tryd.underlying9
   · rw [run_convert_bytes_string w 26 9 5 _ _ c Tryd.underlying26 Tryd.underlying5 Tryd.underlying9]
     exact run_bytesToString w _ 0 c [] (by have := run_loadCells_list (P := Tryd.prog) w ⟨b, o, f⟩ [] (fun j v hj => by simp at hj); simpa using this)

section
variable {P : Program}
theorem wp_convert {o : Oper} {a : Act} {w w' : World} {K : Act → World → Prop} {Q : Exit → Act → World → Prop} (src dst : TypeId) (x : Operand) (v u : Value) (ho : o.op = .convert src dst x) (hx : a.eval x = v)
 (hrun : (convert src dst v).run P w = .ok u w') (h : K (a.put o.dst u) w') : o.wp P a w K Q := by
 unfold Oper.wp execOp
 simp only [ho, hx, Sem.run_bind, hrun, Result.andThen_ok, Sem.run_pure]
 exact h
theorem wpList_convert {ops : Array Oper} {rest : List Oper} {o : Oper} {a : Act} {w w' : World} {Q : Exit → Act → World → Prop} (hgd : o.guard = none) (src dst : TypeId) (x : Operand) (v u : Value) (ho : o.op = .convert src dst x) (hx : a.eval x = v)
 (hrun : (convert src dst v).run P w = .ok u w') (h : wpList P ops Q rest (a.put o.dst u) w') : wpList P ops Q (o :: rest) a w :=
 wpList_plain hgd fun _ hK => wp_convert src dst x v u ho hx hrun (hK _ _ h)
end

theorem wpList_to_bytes {ops : Array Oper} {rest : List Oper} {o : Oper} {a : Act} {w : World} {Q : Exit → Act → World → Prop} (hgd : o.guard = none) (x : Operand) (ho : o.op = .convert 9 26 x) (s : ByteArray) (hx : a.eval x = .string s) (hs : s.size ≤ maxLen)
 (h : ∀ v' w', RowB w' w.heap.size v' (strB s) → Below w.heap.size w w' → wpList Tryd.prog ops Q rest (a.put o.dst v') w') : wpList Tryd.prog ops Q (o :: rest) a w := by
 obtain ⟨v', w', hrun, h1, h2⟩ := run_to_bytes w s hs
 exact wpList_convert hgd _ _ x _ v' ho hx hrun (h v' w' h1 h2)
theorem wpList_to_string {ops : Array Oper} {rest : List Oper} {o : Oper} {a : Act} {w : World} {Q : Exit → Act → World → Prop} (hgd : o.guard = none) (x : Operand) (ho : o.op = .convert 26 9 x) (B : Nat) (v : Value) (xs : List Int) (hx : a.eval x = v) (hv : Bs w B v xs)
 (h : wpList Tryd.prog ops Q rest (a.put o.dst (.string (strOfNums xs))) w) : wpList Tryd.prog ops Q (o :: rest) a w :=
 wpList_convert hgd _ _ x _ _ ho hx (run_to_string w B v xs hv) h
/-- A literal of bytes. -/
theorem wpList_lit {ops : Array Oper} {rest : List Oper} {o : Oper} {a : Act} {w : World} {Q : Exit → Act → World → Prop} (hgd : o.guard = none) (len : Nat) (parts : Array (Nat × Operand)) (ho : o.op = .buildSlice 26 len parts) (zs : List Int)
 (hlen : len = zs.length) (hpos : 0 < len) (hsmall : len ≤ 2 ^ 24) (hparts : parts.toList = (zs.zipIdx 0).map fun x => (x.2, Operand.const (Value.int .u8 x.1)))
 (h : ∀ g w', Blk w' g 5 (u8s zs) → w.heap.size ≤ g → Below w.heap.size w w' → wpList Tryd.prog ops Q rest (a.put o.dst (.slice (some ⟨g, 0, none⟩) len len)) w') : wpList Tryd.prog ops Q (o :: rest) a w :=
 wpList_buildFlat hgd 26 5 len parts ho .u8 zs Tryd.underlying26 (by kernel_rfl) (by kernel_rfl) hlen hpos hsmall hparts (h _ _ (Blk.new w 5 (u8s zs)) (Nat.le_refl _) ((Below.refl _ _).alloc (Nat.le_refl _) _))

/-- 's = append(s, x...)', s a row of bytes of the call's own. -/
theorem wp_append_B {o : Oper} {a : Act} {w : World} {K : Act → World → Prop} {Q : Exit → Act → World → Prop} (s x : Operand) (ho : o.op = .call { callee := .builtin .append, args := #[s, x], argTypes := #[26, 26] })
 (base : Nat) (v : Value) (xs : List Int) (hs : a.eval s = v) (hown : RowB w base v xs) (B : Nat) (vx : Value) (ys : List Int) (hx : a.eval x = vx) (hr : Bs w B vx ys) (hy : Bytes ys)
 (hbytes : xs.length + ys.length ≤ 140737488355328) (hbase : base ≤ w.heap.size)
 (h : ∀ v' w', RowB w' base v' (xs ++ ys) → w.grownBy w' v.ownBlock → K (a.put o.dst v') w') : o.wp Tryd.prog a w K Q := by
 obtain ⟨v', w', hrun, h2, h3, h4⟩ := run_append_B w base o.type v xs hown B vx ys hr hy hbytes hbase
 unfold Oper.wp execOp
 simp only [ho, resolve, invoke, builtin, Sem.run_bind, Sem.run_pure, Result.andThen_ok, List.map_toArray, List.map_cons, List.map_nil, hs, hx, hrun]
 exact h v' w' h2 h3
theorem wpList_append_B {ops : Array Oper} {rest : List Oper} {o : Oper} {a : Act} {w : World} {Q : Exit → Act → World → Prop} (hgd : o.guard = none) (s x : Operand) (ho : o.op = .call { callee := .builtin .append, args := #[s, x], argTypes := #[26, 26] })
 (base : Nat) (v : Value) (xs : List Int) (hs : a.eval s = v) (hown : RowB w base v xs) (B : Nat) (vx : Value) (ys : List Int) (hx : a.eval x = vx) (hr : Bs w B vx ys) (hy : Bytes ys)
 (hbytes : xs.length + ys.length ≤ 140737488355328) (hbase : base ≤ w.heap.size)
 (h : ∀ v' w', RowB w' base v' (xs ++ ys) → w.grownBy w' v.ownBlock → wpList Tryd.prog ops Q rest (a.put o.dst v') w') : wpList Tryd.prog ops Q (o :: rest) a w :=
 wpList_plain hgd fun _ hK => wp_append_B s x ho base v xs hs hown B vx ys hx hr hy hbytes hbase fun v' w' h2 h3 => hK _ _ (h v' w' h2 h3)

/-- The library's table of powers of ten lies in its variable, below block B. -/
def Tab (w : World) (B : Nat) : Prop := 0 < B ∧ Lib.TabIs Tryd.prog w "internal/strconv.uint64pow10" .u64 Lib.pow10Tab
theorem gPow : Tryd.prog.globalNamed "internal/strconv.uint64pow10" = some 0 := by kernel_rfl
theorem tab_heap {w w' : World} (h : w'.heap[(0 : Nat)]? = w.heap[(0 : Nat)]?) (ht : Lib.TabIs Tryd.prog w "internal/strconv.uint64pow10" .u64 Lib.pow10Tab) :
 Lib.TabIs Tryd.prog w' "internal/strconv.uint64pow10" .u64 Lib.pow10Tab := by
 unfold Lib.TabIs World.var? at ht ⊢
 rw [gPow] at ht ⊢
 simp only [Option.bind_some] at ht ⊢
 rw [h]
 exact ht
theorem Tab.below {w w' : World} {B B' : Nat} (h : Tab w B) (hb : Below B' w w') (hB : B ≤ B') : Tab w' B := ⟨h.1, tab_heap (hb.block _ (Nat.lt_of_lt_of_le h.1 hB)) h.2⟩
theorem Tab.more {w : World} {B B' : Nat} (h : Tab w B) (hB : B ≤ B') : Tab w B' := ⟨Nat.lt_of_lt_of_le h.1 hB, h.2⟩

/-- A number's decimal digits as bytes. -/
def digB (n : Nat) : List Int := (Lib.decDigits n).map fun b => (b.toNat : Int)
theorem itoa_any (n : Nat) (w : World) (B : Nat) (ht : Tab w B) (hn : n ≤ 9223372036854775807) :
 Calls Tryd.prog 76 #[.int .i64 (n : Int)] w fun e w' => ∃ s, e = .returned (.string s) ∧ strB s = digB n ∧ Below w.heap.size w w' :=
 (Tryd.strconv_Itoa (n : Int) (by omega) (by omega) w ht.2).mono fun e w' ⟨he, k, os, hw⟩ => ⟨_, he, by
  unfold strB digB Lib.itoa
  rw [if_neg (by omega), Int.toNat_natCast], by rw [hw]; exact Lib.below_grow _ w (Nat.le_refl _) k os⟩
theorem digB_bytes (n : Nat) : Bytes (digB n) := fun x hx => by
 obtain ⟨b, _, rfl⟩ := List.mem_map.1 hx
 have := b.toNat_lt
 omega
end Go.Proofs.YthdjgebbjogmiaaDoor

namespace Go.Proofs.YthdjgebbjogmiaaDoor
open Go Go.RowKit
set_option maxRecDepth 100000

def lettersS : ByteArray := { data := #[97, 98, 99, 100, 101, 102, 103, 104, 105, 106, 107, 108, 109, 110, 111, 112, 113, 114, 115, 116, 117, 118, 119, 120, 121, 122, 50, 51, 52, 53, 54, 55] }
theorem letters_at : ∀ k : Fin 32, (lettersS[k.val]'(by have : lettersS.size = 32 := rfl; omega)).toNat = ltr k.val := by decide
theorem run_letter (w : World) (k : Nat) (h : k < 32) : (Instr.index 9 (.string lettersS) (.int .i64 (k : Int))).run Tryd.prog w = .ok (.int .u8 (ltr k)) w := by
 have hs : lettersS.size = 32 := rfl
 rw [run_index_string w 9 lettersS .i64 (k : Int) Tryd.underlying9, dif_pos ⟨by omega, by rw [hs]; omega⟩]
 have := letters_at ⟨k, h⟩
 simp only [Int.toNat_natCast]
 rw [this]
/-- A letter by its number. -/
theorem wpList_letter {ops : Array Oper} {rest : List Oper} {o : Oper} {a : Act} {w : World} {Q : Exit → Act → World → Prop} (hgd : o.guard = none) (x : Operand) (ho : o.op = .index 9 (.const (.string lettersS)) x) (z : Int) (hx : a.eval x = .int .i64 z) (k : Nat) (hz : z = (k : Int)) (hk : k < 32)
 (h : wpList Tryd.prog ops Q rest (a.put o.dst (.int .u8 (ltr k))) w) : wpList Tryd.prog ops Q (o :: rest) a w :=
 wpList_plain hgd fun _ hK => by
  subst hz
  have hr := run_letter w k hk
  unfold Oper.wp execOp
  have he : a.eval (.const (.string lettersS)) = .string lettersS := rfl
  simp only [ho, hx, he, Sem.run_bind, hr, Result.andThen_ok, Sem.run_pure]
  exact hK _ _ h
/-- A literal of one byte. -/
theorem wpList_lit1 {ops : Array Oper} {rest : List Oper} {o : Oper} {a : Act} {w : World} {Q : Exit → Act → World → Prop} (hgd : o.guard = none) (x : Operand) (ho : o.op = .buildSlice 26 1 #[(0, x)]) (z : Int) (hx : a.eval x = .int .u8 z)
 (h : ∀ g w', Blk w' g 5 (u8s [z]) → w.heap.size ≤ g → Below w.heap.size w w' → wpList Tryd.prog ops Q rest (a.put o.dst (.slice (some ⟨g, 0, none⟩) 1 1)) w') : wpList Tryd.prog ops Q (o :: rest) a w := by
 obtain ⟨i, zz, ht, hi, hz, hsize, hby, hzs, _, _⟩ := el_u8
 have hz0 := u8_zero hi hz
 subst hz0
 refine wpList_buildSlice hgd 26 5 1 _ ho #[.int .u8 z] i (.int .u8 0) ht hi hz (by rw [hsize]; omega) (by rw [hsize]; omega) ?_ (h _ _ (Blk.new w 5 (u8s [z])) (Nat.le_refl _) ((Below.refl _ _).alloc (Nat.le_refl _) _))
 have e : (#[(0, x)].map fun (p : Nat × Operand) => (p.1, a.eval p.2)).toList = ([Value.int IntKind.u8 z].zipIdx 0).map fun x => (x.2, x.1) := by simp [hx]
 rw [e, hsize]
 exact Great.fill_flat _ _ (fun v hv => by simp at hv; subst hv; rfl) (by simp)

theorem wpList_lit1v {ops : Array Oper} {rest : List Oper} {o : Oper} {a : Act} {w : World} {Q : Exit → Act → World → Prop} (hgd : o.guard = none) (x : Operand) (ho : o.op = .buildSlice 26 1 #[(0, x)]) (z : Int) (hx : a.eval x = .int .u8 z) (z' : Int) (hz : z = z')
 (h : ∀ g w', Blk w' g 5 (u8s [z']) → w.heap.size ≤ g → Below w.heap.size w w' → wpList Tryd.prog ops Q rest (a.put o.dst (.slice (some ⟨g, 0, none⟩) 1 1)) w') : wpList Tryd.prog ops Q (o :: rest) a w :=
 wpList_lit1 hgd x ho z hx (by rw [hz]; exact h)
theorem Bytes.at_ {xs : List Int} (h : Bytes xs) (i : Nat) : 0 ≤ xs.getD i 0 ∧ xs.getD i 0 < 256 := by
 rcases Nat.lt_or_ge i xs.length with hi | hi
 · rw [getD_el' _ _ hi]; exact h.get i hi
 · rw [List.getD_eq_getElem?_getD, List.getElem?_eq_none hi]; simp
theorem em2_step (H N : Nat) (h1 : 5 ≤ N) (h2 : N ≤ 12) : em 2 H N = ltr (H / 2 ^ (N - 5) % 32) :: em 2 H (N - 5) := by
 rw [em_two, if_pos h1, em_two]
 by_cases h : 10 ≤ N
 · rw [if_pos h, if_pos (by omega), if_neg (by omega), show N - 5 - 5 = N - 10 by omega]
 · rw [if_neg h, if_neg (by omega)]
theorem em2_end (H N : Nat) (h : N < 5) : em 2 H N = [] := by rw [em_two, if_neg (by omega)]

theorem letter_and (H k : Nat) (hH : H < 4096) {z : Int} (hz : z = bits .and .i64 ((H / 2 ^ k : Nat) : Int) 31) : z = ((H / 2 ^ k % 32 : Nat) : Int) := by
 have h : H / 2 ^ k ≤ H := Nat.div_le_self _ _
 have := and_low (H / 2 ^ k) 5 (by omega) (by omega)
 rw [hz]
 simpa using this
set_option maxHeartbeats 4000000 in
theorem Base32_any (v : Value) (xs : List Int) (w : World) (hv : Bs w w.heap.size v xs) (hb : Bytes xs) (hn : xs.length ≤ 1099511627776) :
 Calls Tryd.prog 75 #[v] w fun e w' => e = .returned (.string (strOfNums (b32F xs))) ∧ Below w.heap.size w w' := by
 have HBX := hide hb
 have HRL := hide (b32F_len xs)
 obtain ⟨R, HR⟩ : ∃ r, Hid (b32F xs = r) := ⟨_, hide rfl⟩
 have HR0 := hide (show b32 0 0 xs = R from HR.out)
 have HRB := hide (show Bytes R by rw [← HR.out]; exact b32F_bytes xs)
 rw [HR.out] at HRL
 rw [HR.out]
 obtain ⟨A, c, rfl, h1, h2, h3⟩ := hv.open_
 unfold maxLen at h2
 have H3 := hide h3
 obtain ⟨n, HN⟩ : ∃ n, Hid (xs.length = n) := ⟨_, hide rfl⟩
 rw [HN.out] at h1 hn HRL H3
 rw [HN.out]
 clear hv hb h3 HR
 go_enter Tryd.func75, Tryd.ntmps75
 go_wp2_with fail
 go_loopw [3, 4, 5, 10] (fun v3 v4 v5 v10 wr => ∃ (i h m : Nat) (out : List Int), i ≤ n ∧ v10 = .int .i64 i ∧ v4 = .int .i64 h ∧ v5 = .int .i64 m ∧ m < 5 ∧ h < 2 ^ m ∧ RowB wr w.heap.size v3 out ∧ out ++ b32 h m (xs.drop i) = R ∧ Below w.heap.size w wr) (fun _ _ _ v10 _ => n - (intOf v10).toNat)
 case atStart => exact ⟨0, 0, 0, [], by omega, rfl, rfl, rfl, by omega, by decide, RowB.nil_ _ _, HR0.out, Below.refl _ _⟩
 case round =>
  obtain ⟨i, h, m, out, hi, rfl, rfl, rfl, hm, hh, ho, hR, hbel⟩ := hrel
  have HO := hide ho
  have HRR := hide hR
  have HB := hide hbel
  have h16 : h < 16 := Nat.lt_of_lt_of_le hh (Nat.pow_le_pow_right (by decide) (show m ≤ 4 by omega))
  clear ho hR hbel
  by_cases hit : i < n
  · obtain ⟨b, o, rfl, hbb, hc⟩ := H3.out (by omega)
    obtain ⟨x, HX⟩ : ∃ x, Hid (xs.getD i 0 = x) := ⟨_, hide rfl⟩
    have c1 := (HB.out.cell (p := ⟨b, o + i, none⟩) hbb).trans (hc i x hit HX.out)
    have hx := HBX.out.at_ i
    rw [HX.out] at hx
    obtain ⟨hx0, hx1⟩ := hx
    have i0 : (0 : Int) ≤ (i : Int) := by omega
    have i1 : (i : Int) < (n : Int) := by omega
    obtain ⟨y, rfl⟩ := Int.eq_ofNat_of_zero_le hx0
    have w1 : IntKind.i64.wrap ((h : Int) * 256) = (h : Int) * 256 := IntWalk.i64_in _ (by omega)
    have w2 : bits .or .i64 ((h : Int) * 256) (y : Int) = ((h * 256 + y : Nat) : Int) := by have := or_low h y 8 (by omega) (by omega) (by omega); simpa using this
    clear hc
    go_wp2_with fail
    have e4 : ((h : Int) * 256 + (y : Int)) = ((h * 256 + y : Nat) : Int) := by omega
    have e5 : ((m : Int) + 8) = ((m + 8 : Nat) : Int) := by omega
    rw [e4, e5]
    clear e4 e5 w2 w1
    have HTL := hide (show out ++ (em 2 (h * 256 + y) (m + 8) ++ b32 ((h * 256 + y) % 2 ^ ((m + 8) % 5)) ((m + 8) % 5) (xs.drop (i + 1))) = R by
     rw [← HRR.out]
     have hil : i < xs.length := by rw [HN.out]; exact hit
     rw [List.drop_eq_getElem_cons hil]
     have ey : (xs[i]'hil).toNat = y := by rw [← getD_el' xs i hil, HX.out]; exact Int.toNat_natCast y
     rw [b32, ey])
    have hH : h * 256 + y < 4096 := by omega
    generalize h * 256 + y = H at HTL hH
    obtain ⟨M, HM⟩ : ∃ M, Hid (m + 8 = M) := ⟨_, hide rfl⟩
    rw [HM.out] at HTL
    rw [HM.out]
    have hM12 : M ≤ 12 := by rw [← HM.out]; omega
    obtain ⟨tl, HT⟩ : ∃ t, Hid (b32 (H % 2 ^ (M % 5)) (M % 5) (xs.drop (i + 1)) = t) := ⟨_, hide rfl⟩
    rw [HT.out] at HTL
    clear HRR hh
    go_loopw [3, 5] (fun v3 v5 wq => ∃ (N : Nat) (out' : List Int), v5 = .int .i64 N ∧ N ≤ 12 ∧ N % 5 = M % 5 ∧ RowB wq w.heap.size v3 out' ∧ out' ++ (em 2 H N ++ tl) = R ∧ Below w.heap.size w wq) (fun _ v5 _ => (intOf v5).toNat)
    case atStart => exact ⟨M, out, rfl, hM12, rfl, HO.out, HTL.out, HB.out⟩
    case round =>
     clear HO HTL HB
     obtain ⟨N, out', rfl, hN12, hNM, ho', hR', hbel'⟩ := hrel
     have HO' := hide ho'
     have HR' := hide hR'
     have HB' := hide hbel'
     have hwz := hbel'.size
     clear ho' hR' hbel'
     by_cases hN5 : 5 ≤ N
     · have hst := em2_step H N hN5 hN12
       have hol : out'.length ≤ R.length := by rw [← HR'.out, List.length_append]; omega
       have holl : out'.length ≤ 2199023255552 := by have := HRL.out; omega
       rw [hst] at HR'
       clear hst
       have HLET := hide (fun (z : Int) hz => letter_and H (N - 5) hH (z := z) hz)
       obtain ⟨q, eq⟩ : ∃ q, H / 2 ^ (N - 5) % 32 = q := ⟨_, rfl⟩
       have hq : q < 32 := by rw [← eq]; exact Nat.mod_lt _ (by omega)
       rw [eq] at HR' HLET
       clear eq
       obtain ⟨E2, eE⟩ : ∃ E, em 2 H (N - 5) = E := ⟨_, rfl⟩
       rw [eE] at HR'
       have HE2 := hide (show ∀ j, j = N - 5 → em 2 H j = E2 from fun j hj => by rw [hj, eE])
       clear eE
       have HQB := hide (show Bytes [ltr q] from fun x hx => by simp at hx; subst hx; exact ltr_byte hq)
       obtain ⟨lq, eL⟩ : ∃ l, ltr q = l := ⟨_, rfl⟩
       have HLT := hide (show ∀ (ops : Array Oper) (rest : List Oper) (o : Oper) (a : Act) (w : World) (Q : Exit → Act → World → Prop) (x : Operand) (z : Int), o.guard = none → o.op = .index 9 (.const (.string lettersS)) x → a.eval x = .int .i64 z → z = bits .and .i64 ((H / 2 ^ (N - 5) : Nat) : Int) 31 →
        wpList Tryd.prog ops Q rest (a.put o.dst (.int .u8 lq)) w → wpList Tryd.prog ops Q (o :: rest) a w from fun ops rest o a w Q x z hg ho hx hz h => wpList_letter hg x ho z hx q (HLET.out z hz) hq (by rw [eL]; exact h))
       rw [eL] at HR' HQB
       clear eL HLET
       have HL3 := hide ((RowB.of_blk (base := 0) (Blk.new wr 5 (u8s [lq])) (by omega) HQB.out (by unfold maxLen; simp)).reads)
       have hba := (Below.refl wr.heap.size wr).alloc (Nat.le_refl _) (.cells (u8s [lq]).toArray 5)
       have HO3 := hide (HO'.out.keptB hba)
       have HB3 := hide (HB'.out.trans (hba.mono hwz))
       have hz3 := hba.size
       clear hba
       rcases show N = 5 ∨ N = 6 ∨ N = 7 ∨ N = 8 ∨ N = 9 ∨ N = 10 ∨ N = 11 ∨ N = 12 by omega with rfl | rfl | rfl | rfl | rfl | rfl | rfl | rfl
       all_goals
        clear hN5 hN12
        go_wp2_with (first
         | (refine HLT.out _ _ _ _ _ _ _ _ rfl rfl rfl (by simp) ?_)
         | (at_builtin; go_must (refine wpList_append_B rfl _ _ rfl w.heap.size _ _ rfl HO3.out _ _ [lq] rfl HL3.out HQB.out (by simp; omega) (Nat.le_trans hwz hz3) ?_); intro v9 w4 ho9 hg4; have HB4 := hide (HB3.out.grown hg4 (Nat.le_trans hwz hz3) (fun k hk => (HO3.out.base_ k hk).1)); have HO9 := hide ho9; clear ho9 hg4 HB3 HO3 HL3))
        go_roundw
        case measure => simp [intOf]
        case rel => first
         | exact ⟨0, out' ++ [lq], rfl, by omega, by omega, HO9.out, by rw [HE2.out 0 (by omega), ← HR'.out, List.append_assoc]; rfl, HB4.out⟩
         | exact ⟨1, out' ++ [lq], rfl, by omega, by omega, HO9.out, by rw [HE2.out 1 (by omega), ← HR'.out, List.append_assoc]; rfl, HB4.out⟩
         | exact ⟨2, out' ++ [lq], rfl, by omega, by omega, HO9.out, by rw [HE2.out 2 (by omega), ← HR'.out, List.append_assoc]; rfl, HB4.out⟩
         | exact ⟨3, out' ++ [lq], rfl, by omega, by omega, HO9.out, by rw [HE2.out 3 (by omega), ← HR'.out, List.append_assoc]; rfl, HB4.out⟩
         | exact ⟨4, out' ++ [lq], rfl, by omega, by omega, HO9.out, by rw [HE2.out 4 (by omega), ← HR'.out, List.append_assoc]; rfl, HB4.out⟩
         | exact ⟨5, out' ++ [lq], rfl, by omega, by omega, HO9.out, by rw [HE2.out 5 (by omega), ← HR'.out, List.append_assoc]; rfl, HB4.out⟩
         | exact ⟨6, out' ++ [lq], rfl, by omega, by omega, HO9.out, by rw [HE2.out 6 (by omega), ← HR'.out, List.append_assoc]; rfl, HB4.out⟩
         | exact ⟨7, out' ++ [lq], rfl, by omega, by omega, HO9.out, by rw [HE2.out 7 (by omega), ← HR'.out, List.append_assoc]; rfl, HB4.out⟩
     · have hNM' : M % 5 = N := by omega
       rw [em2_end H N (by omega), List.nil_append, ← HT.out, hNM'] at HR'
       have hlt : H % 2 ^ N < 2 ^ N := Nat.mod_lt _ (Nat.pow_pos (by decide))
       have HAND := hide (and_low H N (by omega) (by omega))
       clear HT HM hNM hM12 hNM'
       obtain ⟨h', eh⟩ : ∃ h', H % 2 ^ N = h' := ⟨_, rfl⟩
       rw [eh] at HR' hlt HAND
       clear eh
       obtain ⟨q2, eq2⟩ : ∃ q2 : Int, ((2 ^ N - 1 : Nat) : Int) = q2 := ⟨_, rfl⟩
       rw [eq2] at HAND
       rcases show N = 0 ∨ N = 1 ∨ N = 2 ∨ N = 3 ∨ N = 4 by omega with rfl | rfl | rfl | rfl | rfl
       all_goals
        clear hN5 hN12
        simp at eq2
        subst eq2
        go_wp2_with fail
        go_roundw
        case measure => simp [intOf]; omega
        case rel => exact ⟨i + 1, h', _, out', by omega, by go_num, congrArg _ HAND.out, rfl, by omega, hlt, HO'.out, HR'.out, HB'.out⟩
  · have e : i = n := by omega
    subst e
    have hwz := HB.out.size
    have HR' := hide (show out ++ b32 h m [] = R by rw [← HRR.out, List.drop_of_length_le (by rw [HN.out]; exact Nat.le_refl _)])
    have hol : out.length ≤ R.length := by rw [← HR'.out, List.length_append]; omega
    have holl : out.length ≤ 2199023255552 := by have := HRL.out; omega
    have i1 : ¬ (i : Int) < (i : Int) := by omega
    clear HRR hit hi
    by_cases hm0 : m = 0
    · subst hm0
      have HRO := hide (show out = R by have := HR'.out; rw [b32, if_neg (by omega), List.append_nil] at this; exact this)
      rw [HRO.out] at HO
      clear HR' hh HRO
      go_wp2_with (refine wpList_to_string rfl _ rfl _ _ R rfl HO.out.reads ?_)
      go_ret
      exact ⟨rfl, HB.out⟩
    · have hlq : h * 2 ^ (5 - m) < 32 := by
       rcases show m = 1 ∨ m = 2 ∨ m = 3 ∨ m = 4 by omega with rfl | rfl | rfl | rfl <;> simp at hh ⊢ <;> omega
      have HRO := hide (show out ++ [ltr (h * 2 ^ (5 - m) % 32)] = R by have := HR'.out; rw [b32, if_pos (by omega)] at this; exact this)
      have HLET := hide (fun (z : Int) (hz : z = bits .and .i64 ((h * 2 ^ (5 - m) : Nat) : Int) 31) => (by rw [hz]; have := and_low (h * 2 ^ (5 - m)) 5 (by omega) (by omega); simpa using this : z = ((h * 2 ^ (5 - m) % 32 : Nat) : Int)))
      obtain ⟨q, eq⟩ : ∃ q, h * 2 ^ (5 - m) % 32 = q := ⟨_, rfl⟩
      have hq : q < 32 := by rw [← eq]; exact Nat.mod_lt _ (by omega)
      rw [eq] at HRO HLET
      clear eq HR'
      have HQB := hide (show Bytes [ltr q] from fun x hx => by simp at hx; subst hx; exact ltr_byte hq)
      obtain ⟨lq, eL⟩ : ∃ l, ltr q = l := ⟨_, rfl⟩
      have HLT := hide (show ∀ (ops : Array Oper) (rest : List Oper) (o : Oper) (a : Act) (w : World) (Q : Exit → Act → World → Prop) (x : Operand) (z : Int), o.guard = none → o.op = .index 9 (.const (.string lettersS)) x → a.eval x = .int .i64 z → z = bits .and .i64 ((h * 2 ^ (5 - m) : Nat) : Int) 31 →
       wpList Tryd.prog ops Q rest (a.put o.dst (.int .u8 lq)) w → wpList Tryd.prog ops Q (o :: rest) a w from fun ops rest o a w Q x z hg ho hx hz h => wpList_letter hg x ho z hx q (HLET.out z hz) hq (by rw [eL]; exact h))
      rw [eL] at HRO HQB
      clear eL HLET
      have HL3 := hide ((RowB.of_blk (base := 0) (Blk.new wr 5 (u8s [lq])) (by omega) HQB.out (by unfold maxLen; simp)).reads)
      have hba := (Below.refl wr.heap.size wr).alloc (Nat.le_refl _) (.cells (u8s [lq]).toArray 5)
      have HO3 := hide (HO.out.keptB hba)
      have HB3 := hide (HB.out.trans (hba.mono hwz))
      have hz3 := hba.size
      clear hba
      rcases show m = 1 ∨ m = 2 ∨ m = 3 ∨ m = 4 by omega with rfl | rfl | rfl | rfl
      all_goals
       clear hm0 hm hh
       go_wp2_with (first
        | (refine HLT.out _ _ _ _ _ _ _ _ rfl rfl rfl (by simp) ?_)
        | (at_builtin; go_must (refine wpList_append_B rfl _ _ rfl w.heap.size _ _ rfl HO3.out _ _ [lq] rfl HL3.out HQB.out (by simp; omega) (Nat.le_trans hwz hz3) ?_); intro v9 w4 ho9 hg4; have HB4 := hide (HB3.out.grown hg4 (Nat.le_trans hwz hz3) (fun k hk => (HO3.out.base_ k hk).1)); rw [HRO.out] at ho9; have HO9 := hide ho9; clear ho9 hg4 HB3 HO3 HL3)
        | (refine wpList_to_string rfl _ rfl _ _ R rfl HO9.out.reads ?_))
       go_ret
       exact ⟨rfl, HB4.out⟩
end Go.Proofs.YthdjgebbjogmiaaDoor

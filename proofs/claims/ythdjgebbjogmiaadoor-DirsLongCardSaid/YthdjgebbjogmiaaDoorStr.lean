/- Strings and rows of bytes: '[]byte(s)', 'string(b)', append inside a walk; the library's table of powers of ten; strconv.Itoa. Condition: the table is laid. -/
import Derived.Test.YthdjgebbjogmiaaDoorRowB
import Derived.Test.YthdjgebbjogmiaaDoorShelf
import Derived.Lib.AppendIntMem
namespace Go.Proofs.YthdjgebbjogmiaaDoor
open Go Go.RowKit

/-- A string's bytes as numbers. -/
def strB (s : ByteArray) : List Int := s.data.toList.map fun b => (b.toNat : Int)
theorem strB_len (s : ByteArray) : (strB s).length = s.size := by rw [strB, List.length_map, Array.length_toList]; rfl
theorem strB_bytes (s : ByteArray) : Bytes (strB s) := fun x hx => by
 obtain ⟨b, _, rfl⟩ := List.mem_map.1 hx
 have := b.toNat_lt
 omega
theorem strB_of {xs : List Int} (h : Bytes xs) : strB (strOfNums xs) = xs := by
 rw [strB, strOfNums_data, List.map_map]
 conv => rhs; rw [← List.map_id xs]
 refine List.map_congr_left fun x hx => ?_
 obtain ⟨h0, h1⟩ := h x hx
 simp [UInt8.toNat_ofNat']
 omega
theorem strOf_strB (s : ByteArray) : strOfNums (strB s) = s := by
 obtain ⟨d⟩ := s
 unfold strOfNums strB
 congr 1
 apply Array.ext'
 rw [List.map_map]
 simp [Function.comp_def]
theorem strOf_inj {xs ys : List Int} (hx : Bytes xs) (hy : Bytes ys) : strOfNums xs = strOfNums ys ↔ xs = ys :=
 ⟨fun h => by rw [← strB_of hx, h, strB_of hy], fun h => by rw [h]⟩

/-- '[]byte(s)'. -/
theorem run_to_bytes (w : World) (s : ByteArray) (hs : s.size ≤ maxLen) :
 ∃ v' w', (convert 9 26 (.string s)).run Tryd.prog w = .ok v' w' ∧ RowB w' w.heap.size v' (strB s) ∧ Below w.heap.size w w' := by
 refine ⟨_, _, Lib.run_convert_string_bytes w 9 26 5 s Tryd.underlying9 Tryd.underlying26 Tryd.underlying5, .inr ⟨w.heap.size, grownCap w s.size 0 5, strB s ++ List.replicate (grownCap w s.size 0 5 - s.size) 0, (grownCap w s.size 0 5, grownCap w s.size 0 5 + 1), by rw [strB_len], Nat.le_refl _, ?_, .inr (Nat.le_refl _), ?_, grownCap_le_maxLen w _ _ _ hs, ?_, (strB_bytes s).app (bytes_rep _), List.take_left' rfl⟩, ⟨rfl, rfl, rfl, by rw [Lib.bytesWorld_size]; omega, fun j hj => Lib.bytesWorld_at_old w _ s j hj⟩⟩
 · have h := Lib.bytesWorld_at_new w 5 s
   have e : Lib.bytesCells w 5 s = (u8s (strB s ++ List.replicate (grownCap w s.size 0 5 - s.size) 0)).toArray := by
    unfold Lib.bytesCells u8s strB
    apply Array.ext'
    simp
   have e2 : (u8s (strB s ++ List.replicate (grownCap w s.size 0 5 - s.size) 0)).toArray.size = grownCap w s.size 0 5 := by
    have := grownCap_ge w s.size 0 5
    simp [u8s, strB_len]; omega
   rw [e, e2] at h
   exact h
 · rw [strB_len]; exact grownCap_ge w s.size 0 5
 · have := grownCap_ge w s.size 0 5
   rw [List.length_append, strB_len, List.length_replicate]; omega

/-- 'string(b)'. -/
theorem run_to_string (w : World) (B : Nat) (v : Value) (xs : List Int) (h : Bs w B v xs) : (convert 26 9 v).run Tryd.prog w = .ok (.string (strOfNums xs)) w := by
 obtain ⟨A, c, rfl, h1, h2, h3⟩ := h.open_
 by_cases hp : 0 < xs.length
 · obtain ⟨b, o, rfl, hb, hc⟩ := h3 hp
   exact run_convert_bytes_arg w 26 5 Tryd.underlying26 Tryd.underlying5 b o xs.length c xs rfl (fun i hi => hc i _ hi rfl) 9 Tryd.underlying9
 · obtain rfl : xs = [] := List.eq_nil_of_length_eq_zero (by omega)
   rcases A with _ | ⟨b, o, f⟩
   · exact run_convert_bytes_nil w 26 5 Tryd.underlying26 Tryd.underlying5 _ c 9 Tryd.underlying9
   · rw [run_convert_bytes_string w 26 9 5 _ _ c Tryd.underlying26 Tryd.underlying5 Tryd.underlying9]
     exact run_bytesToString w _ 0 c [] (by have := run_loadCells_list (P := Tryd.prog) w ⟨b, o, f⟩ [] (fun j v hj => by simp at hj); simpa using this)

section
variable {P : Program}
theorem wp_convert {o : Oper} {a : Act} {w w' : World} {K : Act → World → Prop} {Q : Exit → Act → World → Prop} (src dst : TypeId) (x : Operand) (v u : Value) (ho : o.op = .convert src dst x) (hx : a.eval x = v)
 (hrun : (convert src dst v).run P w = .ok u w') (h : K (a.put o.dst u) w') : o.wp P a w K Q := by
 unfold Oper.wp execOp
 simp only [ho, hx, Sem.run_bind, hrun, Result.andThen_ok, Sem.run_pure]
 exact h
theorem wpList_convert {ops : Array Oper} {rest : List Oper} {o : Oper} {a : Act} {w w' : World} {Q : Exit → Act → World → Prop} (hgd : o.guard = none) (src dst : TypeId) (x : Operand) (v u : Value) (ho : o.op = .convert src dst x) (hx : a.eval x = v)
 (hrun : (convert src dst v).run P w = .ok u w') (h : wpList P ops Q rest (a.put o.dst u) w') : wpList P ops Q (o :: rest) a w :=
 wpList_plain hgd fun _ hK => wp_convert src dst x v u ho hx hrun (hK _ _ h)
end

theorem wpList_to_bytes {ops : Array Oper} {rest : List Oper} {o : Oper} {a : Act} {w : World} {Q : Exit → Act → World → Prop} (hgd : o.guard = none) (x : Operand) (ho : o.op = .convert 9 26 x) (s : ByteArray) (hx : a.eval x = .string s) (hs : s.size ≤ maxLen)
 (h : ∀ v' w', RowB w' w.heap.size v' (strB s) → Below w.heap.size w w' → wpList Tryd.prog ops Q rest (a.put o.dst v') w') : wpList Tryd.prog ops Q (o :: rest) a w := by
 obtain ⟨v', w', hrun, h1, h2⟩ := run_to_bytes w s hs
 exact wpList_convert hgd _ _ x _ v' ho hx hrun (h v' w' h1 h2)
theorem wpList_to_string {ops : Array Oper} {rest : List Oper} {o : Oper} {a : Act} {w : World} {Q : Exit → Act → World → Prop} (hgd : o.guard = none) (x : Operand) (ho : o.op = .convert 26 9 x) (B : Nat) (v : Value) (xs : List Int) (hx : a.eval x = v) (hv : Bs w B v xs)
 (h : wpList Tryd.prog ops Q rest (a.put o.dst (.string (strOfNums xs))) w) : wpList Tryd.prog ops Q (o :: rest) a w :=
 wpList_convert hgd _ _ x _ _ ho hx (run_to_string w B v xs hv) h
/-- A literal of bytes. -/
theorem wpList_lit {ops : Array Oper} {rest : List Oper} {o : Oper} {a : Act} {w : World} {Q : Exit → Act → World → Prop} (hgd : o.guard = none) (len : Nat) (parts : Array (Nat × Operand)) (ho : o.op = .buildSlice 26 len parts) (zs : List Int)
 (hlen : len = zs.length) (hpos : 0 < len) (hsmall : len ≤ 2 ^ 24) (hparts : parts.toList = (zs.zipIdx 0).map fun x => (x.2, Operand.const (Value.int .u8 x.1)))
 (h : ∀ g w', Blk w' g 5 (u8s zs) → w.heap.size ≤ g → Below w.heap.size w w' → wpList Tryd.prog ops Q rest (a.put o.dst (.slice (some ⟨g, 0, none⟩) len len)) w') : wpList Tryd.prog ops Q (o :: rest) a w :=
 wpList_buildFlat hgd 26 5 len parts ho .u8 zs Tryd.underlying26 (by kernel_rfl) (by kernel_rfl) hlen hpos hsmall hparts (h _ _ (Blk.new w 5 (u8s zs)) (Nat.le_refl _) ((Below.refl _ _).alloc (Nat.le_refl _) _))

/-- '[]byte("..")' of a constant: the literal's row gets its mark. -/
theorem run_convert_self (w : World) (g n c : Nat) (cs : List Value) (h : Blk w g 5 cs) :
 ∃ w', (convert 26 26 (.slice (some ⟨g, 0, none⟩) n c)).run Tryd.prog w = .ok (.slice (some ⟨g, 0, none⟩) n c) w' ∧ BlkF w' g 5 cs (cs.length, cs.length + 1) ∧ w.grownBy w' (some g) ∧ w'.heap.size = w.heap.size := by
 have hlt := h.lt
 have hsh : w.shape? g = some (5, cs.length) := by
  unfold Blk at h
  unfold World.shape?
  rw [h]
  simp
 refine ⟨w.freeze ⟨g, cs.length, none⟩ 1, ?_, ?_, ⟨?_, ?_, ?_, ?_, fun k hk hne => ?_⟩, ?_⟩
 · simp [convert, run_underlying Tryd.underlying26, run_underlying Tryd.underlying5, markStringish, hsh]
 · unfold Blk at h
   unfold BlkF World.freeze
   simp [Array.getElem?_modify, h]
 · simp [World.freeze]
 · simp [World.freeze]
 · simp [World.freeze]
 · simp [World.freeze]
 · have hne' : g ≠ k := fun e => hne (by rw [e])
   simp [World.freeze, Array.getElem?_modify, hne']
 · simp [World.freeze]
theorem wpList_bytes_const {ops : Array Oper} {rest : List Oper} {o : Oper} {a : Act} {w : World} {Q : Exit → Act → World → Prop} (hgd : o.guard = none) (x : Operand) (ho : o.op = .convert 26 26 x) (g : Nat) (xs : List Int) (hx : a.eval x = .slice (some ⟨g, 0, none⟩) xs.length xs.length)
 (hb : Blk w g 5 (u8s xs)) (hxs : Bytes xs) (base : Nat) (hbase : base ≤ g) (hm : xs.length ≤ maxLen)
 (h : ∀ w', RowB w' base (.slice (some ⟨g, 0, none⟩) xs.length xs.length) xs → w.grownBy w' (some g) → wpList Tryd.prog ops Q rest (a.put o.dst (.slice (some ⟨g, 0, none⟩) xs.length xs.length)) w') : wpList Tryd.prog ops Q (o :: rest) a w := by
 obtain ⟨w', hrun, h1, h2, h3⟩ := run_convert_self w g xs.length xs.length (u8s xs) hb
 rw [u8s_len] at h1
 exact wpList_convert hgd _ _ x _ _ ho hx hrun (h w' (.inr ⟨g, xs.length, xs, _, rfl, hbase, h1, .inr (Nat.le_refl _), Nat.le_refl _, hm, rfl, hxs, List.take_of_length_le (Nat.le_refl _)⟩) h2)

/-- 's = append(s, x...)', s a row of bytes of the call's own. -/
theorem wp_append_B {o : Oper} {a : Act} {w : World} {K : Act → World → Prop} {Q : Exit → Act → World → Prop} (s x : Operand) (ho : o.op = .call { callee := .builtin .append, args := #[s, x], argTypes := #[26, 26] })
 (base : Nat) (v : Value) (xs : List Int) (hs : a.eval s = v) (hown : RowB w base v xs) (B : Nat) (vx : Value) (ys : List Int) (hx : a.eval x = vx) (hr : Bs w B vx ys) (hy : Bytes ys)
 (hbytes : xs.length + ys.length ≤ 140737488355328) (hbase : base ≤ w.heap.size)
 (h : ∀ v' w', RowB w' base v' (xs ++ ys) → w.grownBy w' v.ownBlock → K (a.put o.dst v') w') : o.wp Tryd.prog a w K Q := by
 obtain ⟨v', w', hrun, h2, h3, h4⟩ := run_append_B w base o.type v xs hown B vx ys hr hy hbytes hbase
 unfold Oper.wp execOp
 simp only [ho, resolve, invoke, builtin, Sem.run_bind, Sem.run_pure, Result.andThen_ok, List.map_toArray, List.map_cons, List.map_nil, hs, hx, hrun]
 exact h v' w' h2 h3
theorem wpList_append_B {ops : Array Oper} {rest : List Oper} {o : Oper} {a : Act} {w : World} {Q : Exit → Act → World → Prop} (hgd : o.guard = none) (s x : Operand) (ho : o.op = .call { callee := .builtin .append, args := #[s, x], argTypes := #[26, 26] })
 (base : Nat) (v : Value) (xs : List Int) (hs : a.eval s = v) (hown : RowB w base v xs) (B : Nat) (vx : Value) (ys : List Int) (hx : a.eval x = vx) (hr : Bs w B vx ys) (hy : Bytes ys)
 (hbytes : xs.length + ys.length ≤ 140737488355328) (hbase : base ≤ w.heap.size)
 (h : ∀ v' w', RowB w' base v' (xs ++ ys) → w.grownBy w' v.ownBlock → wpList Tryd.prog ops Q rest (a.put o.dst v') w') : wpList Tryd.prog ops Q (o :: rest) a w :=
 wpList_plain hgd fun _ hK => wp_append_B s x ho base v xs hs hown B vx ys hx hr hy hbytes hbase fun v' w' h2 h3 => hK _ _ (h v' w' h2 h3)

/-- The library's table of powers of ten lies in its variable, below block B. -/
def Tab (w : World) (B : Nat) : Prop := 0 < B ∧ Lib.TabIs Tryd.prog w "internal/strconv.uint64pow10" .u64 Lib.pow10Tab
theorem gPow : Tryd.prog.globalNamed "internal/strconv.uint64pow10" = some 0 := by kernel_rfl
theorem tab_heap {w w' : World} (h : w'.heap[(0 : Nat)]? = w.heap[(0 : Nat)]?) (ht : Lib.TabIs Tryd.prog w "internal/strconv.uint64pow10" .u64 Lib.pow10Tab) :
 Lib.TabIs Tryd.prog w' "internal/strconv.uint64pow10" .u64 Lib.pow10Tab := by
 unfold Lib.TabIs World.var? at ht ⊢
 rw [gPow] at ht ⊢
 simp only [Option.bind_some] at ht ⊢
 rw [h]
 exact ht
theorem Tab.below {w w' : World} {B B' : Nat} (h : Tab w B) (hb : Below B' w w') (hB : B ≤ B') : Tab w' B := ⟨h.1, tab_heap (hb.block _ (Nat.lt_of_lt_of_le h.1 hB)) h.2⟩
theorem Tab.more {w : World} {B B' : Nat} (h : Tab w B) (hB : B ≤ B') : Tab w B' := ⟨Nat.lt_of_lt_of_le h.1 hB, h.2⟩

/-- A number's decimal digits as bytes. -/
def digB (n : Nat) : List Int := (Lib.decDigits n).map fun b => (b.toNat : Int)
theorem itoa_any (n : Nat) (w : World) (B : Nat) (ht : Tab w B) (hn : n ≤ 9223372036854775807) :
 Calls Tryd.prog 76 #[.int .i64 (n : Int)] w fun e w' => ∃ s, e = .returned (.string s) ∧ strB s = digB n ∧ Below w.heap.size w w' :=
 (Tryd.strconv_Itoa (n : Int) (by omega) (by omega) w ht.2).mono fun e w' ⟨he, k, os, hw⟩ => ⟨_, he, by
  unfold strB digB Lib.itoa
  rw [if_neg (by omega), Int.toNat_natCast], by rw [hw]; exact Lib.below_grow _ w (Nat.le_refl _) k os⟩
theorem digB_bytes (n : Nat) : Bytes (digB n) := fun x hx => by
 obtain ⟨b, _, rfl⟩ := List.mem_map.1 hx
 have := b.toNat_lt
 omega
end Go.Proofs.YthdjgebbjogmiaaDoor

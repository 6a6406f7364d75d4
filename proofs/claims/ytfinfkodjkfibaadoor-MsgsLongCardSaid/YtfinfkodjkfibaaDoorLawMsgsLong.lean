/-
MsgsLong holds: as many bytes as may be, and one more: the program answers as the document, and reads its reply again. Conditions: none but the row's own.
-/
import Derived.Test.YtfinfkodjkfibaaDoorMsgAskR
import Derived.Test.YtfinfkodjkfibaaDoorMsgU
import Derived.Test.YtfinfkodjkfibaaDoorKeepBlobs
import Derived.Test.YtfinfkodjkfibaaDoorWakes17
import Derived.Test.YtfinfkodjkfibaaDoorWithin
import Derived.Test.YtfinfkodjkfibaaDoorBlobLit
import Derived.Test.YtfinfkodjkfibaaDoorTied
namespace Go.Proofs.YtfinfkodjkfibaaDoor.LawMsgsLong
open Go Go.RowKit Go.ChangeShapes Go.WideShapes Go.ChangeAt
set_option linter.unusedVariables false
set_option linter.unusedSimpArgs false
set_option maxRecDepth 100000
theorem wpList_blob1 {ops : Array Oper} {rest : List Oper} {o : Oper} {a : Act} {w : World} {Q : Exit → Act → World → Prop} (d : Nat) (hd : o.dst = some d) (hgd : o.guard = none) (x : Operand) (ho : o.op = .buildSlice 23 1 #[(0, x)]) (X : Int) (u : Value) (hx : a.eval x = .agg [Value.int .i64 X, u].toArray)
    (h : ∀ (g : Nat) (w' : World), w.heap.size ≤ g → Blk w' g 44 [.int .i64 X, u] → Below w.heap.size w w' → wpList Tryd.prog ops Q rest (a.put (some d) (.slice (some ⟨g, 0, none⟩) 1 1)) w') : wpList Tryd.prog ops Q (o :: rest) a w :=
  wpList_plain hgd fun _ hK => wp_blob1D d hd x ho X u hx fun g w' h1 h2 h3 => hK _ _ (h g w' h1 h2 h3)
theorem blbs_one {w : World} {g : Nat} {X : Int} {u : Value} {x : List Int} (h : Blk w g 44 [.int .i64 X, u]) (hx : Bs w w.heap.size u x) : BlbsB w w.heap.size (.slice (some ⟨g, 0, none⟩) 1 1) [(X, x)] :=
  ⟨[u], rfl, Rd.of_blk h h.lt 2 1 1 rfl (Nat.le_refl _) (by decide), fun i hi => by
    obtain rfl : i = 0 := by simpa using hi
    exact ⟨u, rfl, hx⟩⟩
theorem built_reply2 (A : Option Addr) (n c : Nat) : Tryd.prog.built 25 [(1, .slice A n c)] = some [Value.int .i64 0, .slice A n c].toArray := by kernel_rfl
theorem mod16 {x : Int} (h0 : 0 ≤ x) (h1 : x < 256) : 0 ≤ x % 16 ∧ x % 16 < 16 := by omega
theorem zero_bytes (n : Nat) : Bytes (List.replicate n 0) := bytes_rep n

set_option maxHeartbeats 16000000 in
theorem walk (w : World) (ht : Tab w w.heap.size) (n : Int) (hin : In64 n) (num : Int) (hnum : 0 ≤ num ∧ num < 256) :
    Calls Tryd.prog 4 #[.int .i64 n, .int .u8 num] w fun e w' => e = .returned (.bool true) ∧ Below w.heap.size w w' := by
  have HT := hide ht
  obtain ⟨ha1, ha2⟩ := hin
  obtain ⟨hn0, hn1⟩ := hnum
  have HB := hide (Below.refl w.heap.size w)
  clear ht
  go_enter Tryd.func4, Tryd.ntmps4
  go_wp2_with fail
  refine (within_any n 200 w ha1 ha2 (by omega)).mono ?_
  rintro e w' ⟨rfl, rfl⟩
  obtain ⟨k, ek, hk⟩ : ∃ a : Nat, within n 200 = (a : Int) ∧ a < 200 := by
    unfold within; rw [if_neg (by omega)]
    exact ⟨(n % 200).toNat, by omega, by omega⟩
  rw [ek]
  clear ek
  obtain ⟨X, HX⟩ : ∃ x, Hid (num % 16 = x) := ⟨_, hide rfl⟩
  have hX : 0 ≤ X ∧ X < 16 := by have := mod16 hn0 hn1; rw [HX.out] at this; exact this
  go_upto_region 3 with (first
    | (refine wpList_make_bytes rfl _ _ rfl .i64 .i64 (16184 + k) (16184 + k) rfl rfl (Nat.le_refl _) (by omega) ?_; intro w2 hb2 hw2 hz2; have HZ := hide hb2; replace HB := hide (HB.out.trans (hw2.mono (by omega))); clear hb2 hw2 hz2))
  rw [HX.out]
  have hb3 := Blk.new w2 44 [Value.int .i64 X, .slice (some ⟨w.heap.size, 0, none⟩) (16184 + k) (16184 + k)]
  have hw3 := (Below.refl w2.heap.size w2).alloc (Nat.le_refl _) (.cells [Value.int .i64 X, .slice (some ⟨w.heap.size, 0, none⟩) (16184 + k) (16184 + k)].toArray 44)
  have HZ2 := hide (HZ.out.below hw3 HZ.out.lt)
  replace HB := hide (HB.out.trans (hw3.mono HB.out.size))
  generalize hW : w2.alloc (.cells [Value.int .i64 X, .slice (some ⟨w.heap.size, 0, none⟩) (16184 + k) (16184 + k)].toArray 44) = w3 at hb3 hw3 HZ2 HB ⊢
  generalize hgl : w2.heap.size = gl at hb3 ⊢
  have HL := hide hb3
  clear hb3 hw3 hW
  have hw2 : w.heap.size + 1 ≤ w3.heap.size := by have := HZ2.out.lt; omega
  obtain ⟨NN, HNN⟩ : ∃ x, Hid (16184 + k = x) := ⟨_, hide rfl⟩
  have hNN : 16184 ≤ NN ∧ NN ≤ 16383 := by have := HNN.out; omega
  rw [HNN.out] at HZ2 HL
  obtain ⟨zs, HZS⟩ : ∃ x, Hid (List.replicate NN (0 : Int) = x) := ⟨_, hide rfl⟩
  have HZB := hide (show Bytes zs from by rw [← HZS.out]; exact zero_bytes NN)
  have HZL := hide (show zs.length = NN from by rw [← HZS.out, List.length_replicate])
  have HZR := hide (show Bs w3 w3.heap.size (.slice (some ⟨w.heap.size, 0, none⟩) NN NN) zs from by
    unfold Bs
    rw [HZL.out, ← HZS.out]
    exact Rd.of_blk HZ2.out HZ2.out.lt 1 NN NN (by rw [u8s_len, List.length_replicate]; omega) (Nat.le_refl _) (by unfold maxLen; omega))
  have HLs := hide (blbs_one HL.out HZR.out)
  obtain ⟨l, HLL⟩ : ∃ x, Hid ([(X, zs)] = x) := ⟨_, hide rfl⟩
  have HRI := hide (show Msg.RightB l from by
    rw [← HLL.out]
    refine ⟨by simp, fun x hx => ?_⟩
    obtain rfl := List.mem_singleton.1 hx
    exact ⟨hX, HZB.out, by rw [HZL.out]; omega⟩)
  rw [HLL.out] at HLs
  replace HT := hide ((HT.out.below HB.out (Nat.le_refl _)).more HB.out.size)
  obtain ⟨ra, HRA⟩ : ∃ x, Hid (Msg.askF { req0 with kind := 1, blobs := l } = x) := ⟨_, hide rfl⟩
  obtain ⟨sr, HSR⟩ : ∃ x, Hid (Msg.sayF 0 l = x) := ⟨_, hide rfl⟩
  have HBI := hide (fun (x : Msg.Blb) (hx : x ∈ l) => show (Bytes x.2 ∧ x.2.length ≤ 1000000) ∧ In64 x.1 from by
    have := HRI.out.2 x hx
    exact ⟨⟨this.2.1, by omega⟩, ⟨by omega, by omega⟩⟩)
  have HAI := hide (show AskIn { req0 with kind := 1, blobs := l } from ⟨⟨rfl, rfl, rfl⟩, zero_bytes 16, zero_bytes 16, zero_bytes 16, ⟨by show (-9223372036854775808 : Int) ≤ 1; omega, by show (1 : Int) ≤ 9223372036854775807; omega⟩, ⟨by show (-9223372036854775808 : Int) ≤ 0; omega, by show (0 : Int) ≤ 9223372036854775807; omega⟩, (fun t ht => by cases ht), HBI.out⟩)
  obtain ⟨VQ, HVQ⟩ : ∃ v, Hid (reqCells { req0 with kind := 1 } (.slice none 0 0) (.slice (some ⟨gl, 0, none⟩) 1 1) = v) := ⟨_, hide rfl⟩
  have HBQ := hide (built_req06 1 (some ⟨gl, 0, none⟩) 1 1)
  rw [HVQ.out] at HBQ
  have C1 := hide (fun (w' : World) (hl : BlbsB w' w'.heap.size (.slice (some ⟨gl, 0, none⟩) 1 1) l) (ht : Tab w' w'.heap.size) => show Calls Tryd.prog 18 #[.agg VQ.toArray] w' (fun e w'' => SayU w' w'' e ra) from by
    rw [← HVQ.out, ← HRA.out]
    exact (Ask_any { req0 with kind := 1, blobs := l } (.slice none 0 0) _ w' HAI.out (TstsB.nil_ _ _) hl ht).mono (fun e w'' h => SayRes.u h))
  have C2 := hide (fun (w' : World) (hl : BlbsB w' w'.heap.size (.slice (some ⟨gl, 0, none⟩) 1 1) l) => show Calls Tryd.prog 19 #[.agg VQ.toArray] w' (fun e w'' => SayU w' w'' e ra) from by
    rw [← HVQ.out, ← HRA.out]
    exact (Ask_ref { req0 with kind := 1, blobs := l } (.slice none 0 0) _ w' HAI.out (TstsB.nil_ _ _) hl).mono (fun e w'' h => SayRes.u h))
  have C3 := hide (fun (w' : World) (hl : BlbsB w' w'.heap.size (.slice (some ⟨gl, 0, none⟩) 1 1) l) (ht : Tab w' w'.heap.size) => (Say_any 0 (.slice (some ⟨gl, 0, none⟩) 1 1) l w' hl (fun x hx => (HBI.out x hx).1) (fun x hx => (HBI.out x hx).2) (by omega) ht).mono (fun e w'' h => SayRes.u h))
  have C4 := hide (fun (w' : World) (hl : BlbsB w' w'.heap.size (.slice (some ⟨gl, 0, none⟩) 1 1) l) => (Say_ref 0 (.slice (some ⟨gl, 0, none⟩) 1 1) l w' hl (fun x hx => (HBI.out x hx).1) (fun x hx => (HBI.out x hx).2) (by omega)).mono (fun e w'' h => SayRes.u h))
  rw [HSR.out] at C3 C4
  obtain ⟨q1, HQ1⟩ : ∃ x, Hid (ra.isSome = x) := ⟨_, hide rfl⟩
  obtain ⟨y1, HY1⟩ : ∃ x, Hid (ra.getD [] = x) := ⟨_, hide rfl⟩
  obtain ⟨q2, HQ2⟩ : ∃ x, Hid (sr.isSome = x) := ⟨_, hide rfl⟩
  obtain ⟨y2, HY2⟩ : ∃ x, Hid (sr.getD [] = x) := ⟨_, hide rfl⟩
  have f1 : (q1 != q1) = false := by cases q1 <;> rfl
  have f2 : (q2 != q2) = false := by cases q2 <;> rfl
  have HSRN := hide (fun (_ : Nat) => HSR.out)
  clear HZ HZ2 HL HZR HZB HX HRA HSR HVQ HZS HLL HAI HBI
  go_wp2_with (refine wpList_st_build2 31 0 6 _ _ rfl rfl (.int .i64 1) (.slice (some ⟨gl, 0, none⟩) 1 1) rfl rfl VQ HBQ.out ?_)
  refine (C1.out w3 HLs.out HT.out).mono ?_
  rintro e w5 ⟨x5, rfl, hx5, hy5, hb5⟩
  rw [HQ1.out]
  rw [HY1.out] at hx5 hy5
  have HX1 := hide hx5
  have HX1Y := hide hy5
  replace HLs := hide ((HLs.out.below hb5 (Nat.le_refl _)).more hb5.size)
  replace HT := hide ((HT.out.below hb5 (Nat.le_refl _)).more hb5.size)
  replace HB := hide (HB.out.trans (hb5.mono HB.out.size))
  clear hx5 hy5 hb5
  go_wp2_with (refine wpList_st_build2 31 0 6 _ _ rfl rfl (.int .i64 1) (.slice (some ⟨gl, 0, none⟩) 1 1) rfl rfl VQ HBQ.out ?_)
  refine (C2.out w5 HLs.out).mono ?_
  rintro e w6 ⟨x6, rfl, hx6, hy6, hb6⟩
  rw [HQ1.out]
  rw [HY1.out] at hx6 hy6
  have HX2 := hide hx6
  have HX2Y := hide hy6
  replace HLs := hide ((HLs.out.below hb6 (Nat.le_refl _)).more hb6.size)
  replace HT := hide ((HT.out.below hb6 (Nat.le_refl _)).more hb6.size)
  replace HX1 := hide ((HX1.out.below hb6 (Nat.le_refl _)).more hb6.size)
  replace HB := hide (HB.out.trans (hb6.mono HB.out.size))
  clear hx6 hy6 hb6
  go_wp2_with (refine wpList_st_build1 25 1 _ rfl rfl (.slice (some ⟨gl, 0, none⟩) 1 1) rfl [Value.int .i64 0, (.slice (some ⟨gl, 0, none⟩) 1 1)] (built_reply2 (some ⟨gl, 0, none⟩) 1 1) ?_)
  refine (C3.out w6 HLs.out HT.out).mono ?_
  rintro e w7 ⟨x7, rfl, hx7, hy7, hb7⟩
  rw [HQ2.out]
  rw [HY2.out] at hx7 hy7
  have HX3 := hide hx7
  have HX3Y := hide hy7
  replace HLs := hide ((HLs.out.below hb7 (Nat.le_refl _)).more hb7.size)
  replace HT := hide ((HT.out.below hb7 (Nat.le_refl _)).more hb7.size)
  replace HX1 := hide ((HX1.out.below hb7 (Nat.le_refl _)).more hb7.size)
  replace HX2 := hide ((HX2.out.below hb7 (Nat.le_refl _)).more hb7.size)
  replace HB := hide (HB.out.trans (hb7.mono HB.out.size))
  clear hx7 hy7 hb7
  go_wp2_with (refine wpList_st_build1 25 1 _ rfl rfl (.slice (some ⟨gl, 0, none⟩) 1 1) rfl [Value.int .i64 0, (.slice (some ⟨gl, 0, none⟩) 1 1)] (built_reply2 (some ⟨gl, 0, none⟩) 1 1) ?_)
  refine (C4.out w7 HLs.out).mono ?_
  rintro e w8 ⟨x8, rfl, hx8, hy8, hb8⟩
  rw [HQ2.out]
  rw [HY2.out] at hx8 hy8
  have HX4 := hide hx8
  have HX4Y := hide hy8
  replace HLs := hide ((HLs.out.below hb8 (Nat.le_refl _)).more hb8.size)
  replace HT := hide ((HT.out.below hb8 (Nat.le_refl _)).more hb8.size)
  replace HX1 := hide ((HX1.out.below hb8 (Nat.le_refl _)).more hb8.size)
  replace HX2 := hide ((HX2.out.below hb8 (Nat.le_refl _)).more hb8.size)
  replace HX3 := hide ((HX3.out.below hb8 (Nat.le_refl _)).more hb8.size)
  replace HB := hide (HB.out.trans (hb8.mono HB.out.size))
  clear hx8 hy8 hb8
  clear C1 C2 C3 C4 HBQ
  go_wp2_with go_skip
  refine (same_bytes x5 x6 y1 y1 w8 w8.heap.size HX1.out HX2.out (Nat.le_refl _)).mono ?_
  rintro e w9 ⟨rfl, hb9⟩
  rw [decide_eq_true rfl]
  replace HLs := hide ((HLs.out.below hb9 (Nat.le_refl _)).more hb9.size)
  replace HT := hide ((HT.out.below hb9 (Nat.le_refl _)).more hb9.size)
  replace HX3 := hide ((HX3.out.below hb9 (Nat.le_refl _)).more hb9.size)
  replace HX4 := hide ((HX4.out.below hb9 (Nat.le_refl _)).more hb9.size)
  replace HB := hide (HB.out.trans (hb9.mono HB.out.size))
  clear hb9 HX1 HX2
  go_wp2_with go_skip
  refine (same_bytes x7 x8 y2 y2 w9 w9.heap.size HX3.out HX4.out (Nat.le_refl _)).mono ?_
  rintro e w10 ⟨rfl, hb10⟩
  rw [decide_eq_true rfl]
  replace HLs := hide ((HLs.out.below hb10 (Nat.le_refl _)).more hb10.size)
  replace HT := hide ((HT.out.below hb10 (Nat.le_refl _)).more hb10.size)
  replace HX3 := hide ((HX3.out.below hb10 (Nat.le_refl _)).more hb10.size)
  replace HB := hide (HB.out.trans (hb10.mono HB.out.size))
  clear hb10 HX4
  have HSL := hide (say_get_len (HSRN.out 0))
  rw [HY2.out] at HSL
  have D3 := hide (fun (w' : World) (hl : Bs w' w'.heap.size x7 y2) (ht : Tab w' w'.heap.size) => (Said_any x7 y2 w' hl HX3Y.out (by have := HSL.out; omega) ht).mono (fun e w'' h => SaidRes.u h))
  obtain ⟨s3, HS3⟩ : ∃ x, Hid (Msg.saidP y2 = x) := ⟨_, hide rfl⟩
  have HSS := hide (show s3.isSome = q2 ∧ (q2 = true → s3.getD (0, []) = (0, l)) from by
    rw [← HS3.out, ← HQ2.out]
    have hy := HY2.out
    rcases hs : sr with _ | b
    · rw [hs] at hy
      have : y2 = [] := hy.symm
      rw [this, Msg.saidP_nil]
      exact ⟨rfl, fun h => by cases h⟩
    · rw [hs] at hy
      have hyb : y2 = b := hy.symm
      have hsf := HSRN.out 0
      rw [hs, ← hyb] at hsf
      rw [(Msg.saidP_iff HX3Y.out 0 l).2 ⟨⟨⟨by omega, by omega⟩, HRI.out, fun h => absurd rfl h⟩, hsf⟩]
      exact ⟨rfl, fun _ => rfl⟩)
  rw [HS3.out] at D3
  obtain ⟨⟨E3, l3⟩, HP3⟩ : ∃ x, Hid (s3.getD (0, []) = x) := ⟨_, hide rfl⟩
  have HLE := hide (show q2 = true → l3 = l from fun h => by have := HSS.out.2 h; rw [HP3.out] at this; injection this)
  have f3 : (q2 == q2) = true := by cases q2 <;> rfl
  go_wp2_with fail
  refine (D3.out w10 HX3.out HT.out).mono ?_
  rintro e w11a ⟨u24, rfl, hx24, hb24⟩
  rw [HP3.out] at hx24 ⊢
  rw [HSS.out.1]
  obtain ⟨A24, c24, rfl, _, _, _⟩ := hx24.open_
  obtain ⟨n24, HN24⟩ : ∃ x, Hid (l3.length = x) := ⟨_, hide rfl⟩
  simp only [HN24.out] at hx24 ⊢
  have HU := hide hx24
  replace HLs := hide ((HLs.out.below hb24 (Nat.le_refl _)).more hb24.size)
  replace HT := hide ((HT.out.below hb24 (Nat.le_refl _)).more hb24.size)
  replace HB := hide (HB.out.trans (hb24.mono HB.out.size))
  clear hx24 hb24 D3
  obtain ⟨g24, HG24⟩ : ∃ x, Hid (w11a.heap.size = x) := ⟨_, hide rfl⟩
  go_upto_region 10 with (first
    | (refine wpList_alloc_blk rfl 25 rfl _ zero_reply ?_; intro w11b hbk24 hw24 hs24; rw [HG24.out] at hbk24; try rw [HG24.out]; have H14 := hide hbk24; have HBa := hide hw24; clear hbk24 hw24)
    | (refine wpList_st_putAll _ _ _ rfl rfl rfl H14.out [Value.int .i64 E3, .slice A24 n24 c24] rfl rfl size_reply (reply_one E3 A24 n24 c24) ?_; intro w11 hbk24 hg24 ht24; replace H14 := hide hbk24; have HBb := hide (HBa.out.grown hg24 (by have := HBa.out.size; omega) (by intro k hk; injection hk; have := HG24.out; omega)); clear hbk24 hg24))
  have hbb24 := HBb.out
  replace HLs := hide ((HLs.out.below hbb24 (Nat.le_refl _)).more hbb24.size)
  replace HT := hide ((HT.out.below hbb24 (Nat.le_refl _)).more hbb24.size)
  replace HU := hide ((HU.out.below hbb24 (Nat.le_refl _)).more hbb24.size)
  replace HB := hide (HB.out.trans (hbb24.mono HB.out.size))
  clear hbb24 HBa HBb hs24 ht24
  rcases q2 with _ | _
  case false =>
    go_wp2_with go_skip
    refine (wakes17 _ HT.out).mono ?_
    rintro e w14 ⟨rfl, hb14⟩
    replace HB := hide (HB.out.trans (hb14.mono HB.out.size))
    clear hb14
    go_wp2_with go_skip
    go_ret
    exact ⟨rfl, HB.out⟩
  case true =>
    have HL3 := hide (HLE.out rfl)
    rw [HL3.out] at HU
    go_wp2_with (first
      | go_skip
      | (refine wpList_st_get 23 _ rfl 1 rfl rfl H14.out _ Tryd.underlying23 rfl _ rfl ?_))
    refine (keep_blobs _ _ l l w11 w11.heap.size (Nat.le_refl _) HU.out HLs.out).mono ?_
    rintro e w12 ⟨rfl, hb12⟩
    rw [decide_eq_true rfl]
    replace HT := hide ((HT.out.below hb12 (Nat.le_refl _)).more hb12.size)
    replace HB := hide (HB.out.trans (hb12.mono HB.out.size))
    clear hb12 HU HLs
    go_wp2_with go_skip
    refine (wakes17 _ HT.out).mono ?_
    rintro e w14 ⟨rfl, hb14⟩
    replace HB := hide (HB.out.trans (hb14.mono HB.out.size))
    clear hb14
    go_wp2_with go_skip
    go_ret
    exact ⟨rfl, HB.out⟩

set_option maxRecDepth 100000 in
theorem lifted (os : Os) (started : os.Started) (H : Type) (enc : TypeId × Value → H) :
    ReturnsInHanded {} Tryd.checked os 4 .any (fun w args => (Rows.msgsLongSpec.pre enc Tryd.prog Tryd.f4 [] false w args ∧ laidMetH Tryd.prog laidD w) ∧ sizedMet enc Tryd.prog Tryd.f4 (OpenSpec.ofChange Rows.msgsLongSpec) false w args)
      (Rows.msgsLongSpec.post enc Tryd.prog Tryd.f4 false true false false) := by
  refine returnsInHanded_of_change_and (C := Tryd.checked) (X := fun w _ => laidMetH Tryd.prog laidD w) (fun _ _ _ hh h => h.of_heap hh) own started (by kernel_rfl) Tryd.func4
    (ChangeSpec.witness_shaped (enc := enc) (C := Tryd.checked) (os := os) (X := fun w _ => laidMetH Tryd.prog laidD w) false (World.doorLaid Tryd.prog doorSteps os) #[.int .i64 0, .int .u8 0] 8 rfl (World.shaped_of_RefB (by kernel_rfl) (by kernel_rfl)) (by kernel_rfl) (by kernel_rfl) (by kernel_rfl) (door_met os _)) ?_
  intro W base args ds gs before hval0 hW _ _ hL _
  have hT := tab_of hL
  have hval : ∀ (j : Nat) t v, Tryd.f4.params[j]? = some t → args[j]? = some v → Value.okWide Tryd.prog W .any base t v := hval0
  have hW' := hW
  obtain ⟨p, q, hA0, hV, rfl, hfz, hnd⟩ := hW
  have hA : DataW.TrodAll enc Tryd.prog W 0 (fun _ => true) true Tryd.f4.params.toList args.toList ds p := hA0
  rw [Tryd.params4] at hA hval
  obtain ⟨v0, vs0, d0, ds0, p0, q0, hargs, rfl, rfl, h0, r0⟩ := trodAll_cons hA
  obtain ⟨v1, vs1, d1, ds1, p1, q1, rfl, rfl, rfl, h1, r1⟩ := trodAll_cons r0
  obtain ⟨rfl, rfl, rfl⟩ := trodAll_nil r1
  obtain rfl : args = #[v0, v1] := by cases args; simp_all
  obtain ⟨rfl, rfl⟩ := trodVars_none hV
  obtain ⟨a0, rfl, rfl, rfl, wf0⟩ := open_int Tryd.underlying3 (hval 0 3 v0 rfl rfl) h0
  obtain ⟨a1, rfl, rfl, rfl, wf1⟩ := open_int Tryd.underlying5 (hval 1 5 v1 rfl rfl) h1
  clear hA0 hval0
  refine (walk W hT a0 (in64_wf wf0) a1 (u8_wf wf1)).mono fun e W' ⟨he, bel⟩ => ?_
  subst he
  exact ⟨_, rfl, _, _, _, [], _, [], hW', trodAll_mk1 (shut_bool Tryd.underlying4 _), (trodAll_cons_mk (shut_int Tryd.underlying3 wf0) (trodAll_cons_mk (shut_int Tryd.underlying5 wf1) trodAll_mk0)), rfl, bel.frame _, fun h => by cases h⟩

theorem over : Rows.msgsLongRow.holds Tryd.pinned (OpenSpec.ofChange Rows.msgsLongSpec) :=
  OpenClaim.holds_of_wide 4 Tryd.f4 rfl rfl rfl rfl rfl rfl rfl ⟨rfl, rfl, rfl, rfl, rfl⟩ rfl rfl rfl rfl rfl (by kernel_rfl) Tryd.func4 (by kernel_rfl)
    (of_decide_eq_true (by kernel_rfl)) (by unfold Func.isWrapper; rw [if_neg (of_decide_eq_false (by kernel_rfl))]; exact ⟨rfl, rfl⟩)
    (fun os started H enc _ => lifted os started H enc)

theorem proved : Rows.MsgsLongCardSaid :=
  Claim7.holds_tied_plain_at .later [] Rows.msgsLongCard.laidKinds true Rows.msgsLongCard.stood.harness Rows.msgsLongCard.stood.looks
    over (fun _ h => by cases h) (by kernel_rfl) (fun _ h => by cases h) msgsLong_row_tie rfl ⟨rfl, rfl⟩ (by kernel_rfl) rfl
    (fun f fn hf hfn => by
      obtain rfl : f = 4 := Option.some.inj ((show Tryd.prog.funcNamed "aumbry/aumbrylaw17.MsgsLong" = some 4 by kernel_rfl).symm.trans hf) |>.symm
      obtain rfl : fn = Tryd.f4 := (Option.some.inj (Tryd.func4.symm.trans hfn)).symm
      exact ⟨by kernel_rfl, fun j t ht => by
        have ht' : Tryd.f4.params[j]? = some t := ht
        rw [Tryd.params4] at ht'
        have hm : t ∈ [3, 5] := by simpa using Array.mem_of_getElem? ht'
        have hall : ([3, 5].all fun u => !Tryd.prog.wantsStandIn u) = true := by kernel_rfl
        exact (show Tryd.prog.wantsStandIn t = false by simpa using List.all_eq_true.1 hall t hm)⟩)
    (by kernel_rfl)
end Go.Proofs.YtfinfkodjkfibaaDoor.LawMsgsLong

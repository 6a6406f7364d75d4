/- dirs.Unpack: the directory of bytes. Condition: the table of powers of ten stands; at most sixteen thousand bytes.
Laws behind DirsTurned and DirsBack: the capability of a directory, what it packs and unpacks, a byte turned. -/
import Derived.Test.YthdjgebbjogmiaaDoorEntry
import Derived.Test.YthdjgebbjogmiaaDoorPack
import Derived.Test.YthdjgebbjogmiaaDoorJoin21
import Derived.Test.YthdjgebbjogmiaaDoorJoin25
import Derived.Test.YthdjgebbjogmiaaDoorJoin26
import Derived.Test.YthdjgebbjogmiaaDoorJoin13
import Derived.Test.YthdjgebbjogmiaaDoorJoin10
import Derived.Test.YthdjgebbjogmiaaDoorJoin2
set_option linter.unusedVariables false
set_option linter.unusedSimpArgs false
namespace Go.Proofs.YthdjgebbjogmiaaDoor
open Go Go.RowKit
set_option linter.unusedVariables false
set_option linter.unusedSimpArgs false
set_option maxRecDepth 100000
/-- What Unpack answers. -/
def dirRead (c : CapD) : Bool := decide c.Valid && ((c.kind == 7) || (c.kind == 8))
def unpR (c : CapD) (b : List Int) : Option (List EntD) := if dirRead c then unpackF (c.kind == 7) c.key b else none
def codeU : Option (List EntD) → Int
 | some _ => 0
 | none => 2
def unpE (c : CapD) (b : List Int) : Int := if dirRead c then codeU (unpackF (c.kind == 7) c.key b) else 11
theorem parse_lit {s : List Int} {c : CapD} (h : parseF s = some c) : c.lit.length ≤ 64 := valid_litL ((parse_iff _ _).1 h).2.1
theorem entOf_lit {wr : Bool} {key row : List Int} {e : EntD} (h : entOf wr key row = some e) : e.read.lit.length ≤ 64 ∧ e.write.lit.length ≤ 64 := by
 unfold entOf at h
 obtain ⟨l, hl, h⟩ := Option.bind_eq_some_iff.1 h
 obtain ⟨r, hr, h⟩ := Option.bind_eq_some_iff.1 h
 split at h
 · obtain ⟨x, hx, rfl⟩ := Option.map_eq_some_iff.1 h
   exact ⟨parse_lit hr, parse_lit hx⟩
 · injection h with h
   subst h
   exact ⟨parse_lit hr, by show ([] : List Int).length ≤ 64; simp⟩
theorem unp_length {wr : Bool} {key b : List Int} {out tot : List EntD} (h : (unpF wr key b).map (out ++ ·) = some tot) : out.length ≤ tot.length := by
 obtain ⟨m, _, rfl⟩ := Option.map_eq_some_iff.1 h
 simp
def lenD : Value → Nat
 | .slice _ n _ => n
 | _ => 0
theorem LitB.shape {w : World} {B : Nat} {v : Value} {xs : List Int} (h : LitB w B v xs) : ∃ A c, v = .slice A xs.length c := by
 rcases h with h | ⟨h, _⟩
 · obtain ⟨A, c, e, _⟩ := h.open_; exact ⟨A, c, e⟩
 · obtain ⟨A, c, e, _⟩ := h.open_; exact ⟨A, c, e⟩
theorem d_take_lt {b x r : List Int} (h : takeF b = some (x, r)) : r.length < b.length := by
 have h1 := (take_sound b x r h).1
 have h2 := d_netF_pos x
 rw [h1, List.length_append]
 omega
theorem wpList_append_entX {ops : Array Oper} {rest : List Oper} {o : Oper} {a : Act} {w : World} {Q : Exit → Act → World → Prop} (hgd : o.guard = none) (s x : Operand) (ho : o.op = .call { callee := .builtin .append, args := #[s, x], argTypes := #[29, 29] })
 (base B : Nat) (v : Value) (l : List EntD) (hs : a.eval s = v) (hown : OwnEnts w base B v l) (hB : base ≤ w.heap.size) (hn : l.length ≤ 1000000) (y : EntL) (hy : y.Ok w B)
 (hx : a.eval x = .slice (some ⟨w.heap.size, 0, none⟩) 1 1)
 (h : ∀ v' w', OwnEnts w' base B v' (l ++ [y.e]) → Below base w w' → (∀ k, k < w.heap.size → v.ownBlock ≠ some k → w'.heap[k]? = w.heap[k]?) → (∀ (B' : Nat) (u : Value) (xs : List Int), B' ≤ base → LitB w B' u xs → LitB w' B' u xs) → wpList Tryd.prog ops Q rest (a.put o.dst v') w') : wpList Tryd.prog ops Q (o :: rest) a (w.alloc (.cells y.cells.toArray 45)) := by
 have hba := (Below.refl w.heap.size w).alloc (Nat.le_refl _) (.cells y.cells.toArray 45)
 obtain ⟨h0, ls, rfl, h1, h2⟩ := hown
 have h1' := own_keptB h1 hba
 have hz := hba.size
 have hyl := EntL.len hy.wf
 have hrd := Rd.of_blk (B := w.heap.size + 1) (Blk.new w 45 y.cells) (by omega) 108 1 1 (by rw [hyl]) (Nat.le_refl _) (by decide)
 refine wpList_append_rd _ hgd s x _ ho base _ 108 232 el_ents v (ls.map EntL.e).length _ hs h1' (w.heap.size + 1) _ 1 y.cells hx hrd (ent_oneL hy.r.one hy.w_.one) (by omega) (by omega) ?_
 intro v' w' ho' hg _
 have h1B := own_more h1' h0
 have hgk : ∀ x : EntL, x.Ok w B → x.Ok w' B := fun x hx => by
  have hx' := hx.keptB hba (Nat.le_trans h0 hB)
  have hB' := Nat.le_trans h0 (Nat.le_trans hB hz)
  exact ⟨hx.wf, hx'.r.pastOwn h1B (by kernel_rfl) hg hB', hx'.w_.pastOwn h1B (by kernel_rfl) hg hB'⟩
 refine h v' w' ⟨h0, ls ++ [y], by simp, ?_, fun x hx => ?_⟩ ?_ (fun k hk hne => (hg.block k (Nat.lt_of_lt_of_le hk hz) (Ne.symm hne)).trans (hba.block k hk)) (fun B' u xs hB' hl => (hl.keptB hba (Nat.le_trans hB' hB)).pastOwn (own_more h1' hB') (by kernel_rfl) hg (Nat.le_trans hB' (Nat.le_trans hB hz)))
 · rw [List.flatMap_append, List.length_append, List.flatMap_singleton]
   exact ho'
 · rcases List.mem_append.1 hx with hx | hx
   · exact hgk x (h2 x hx)
   · obtain rfl := List.mem_singleton.1 hx; exact hgk x hy
 · exact (hba.mono hB).grown hg (Nat.le_trans hB hz) (fun k hk => own_base h1 k hk)
theorem take_bytes {b x r : List Int} (hb : Bytes b) (h : takeF b = some (x, r)) : Bytes x ∧ Bytes r := by
 have h1 := (take_sound b x r h).1
 rw [h1] at hb
 exact ⟨fun c hc => hb c (List.mem_append_left _ (netF_mem hc)), fun c hc => hb c (List.mem_append_right _ hc)⟩
set_option maxHeartbeats 16000000
theorem Unpack_any (c : CapD) (lit v : Value) (b : List Int) (w : World) (hc : c.Wf) (hlt : Bs w w.heap.size lit c.lit) (hv : Bs w w.heap.size v b) (hb : Bytes b) (hn : b.length ≤ 16000) (ht : Tab w w.heap.size) :
 Calls Tryd.prog 30 #[capV c lit, v] w fun r w' => ∃ v', r = .returned (.tuple #[v', .int .i64 (unpE c b)]) ∧ OwnEnts w' w.heap.size 0 v' ((unpR c b).getD []) ∧ Below w.heap.size w w' := by
 have HT := hide ht
 have HC := hide hc
 have HV := hide hv
 have HBY := hide hb
 have hl1 := bs_one_ hlt
 have HVA := hide (fun (w' : World) => Valid_any c lit w' (capV_of hc.keyL hc.fpL hlt))
 obtain ⟨kd, HKD⟩ : ∃ k, Hid (c.kind = k) := ⟨_, hide rfl⟩
 have HX0 := hide (show capInt c 0 = some kd by rw [← HKD.out]; rfl)
 obtain ⟨key, HKEY⟩ : ∃ k, Hid (c.key = k) := ⟨_, hide rfl⟩
 obtain ⟨q7, HQ7⟩ : ∃ q, Hid ((kd == 7) = q) := ⟨_, hide rfl⟩
 obtain ⟨q8, HQ8⟩ : ∃ q, Hid ((kd == 8) = q) := ⟨_, hide rfl⟩
 obtain ⟨va, HVAL⟩ : ∃ q, Hid (decide c.Valid = q) := ⟨_, hide rfl⟩
 obtain ⟨UF, HUF⟩ : ∃ x, Hid (unpackF q7 key b = x) := ⟨_, hide rfl⟩
 obtain ⟨UE, HUE⟩ : ∃ x, Hid (unpE c b = x) := ⟨_, hide rfl⟩
 obtain ⟨UR, HUR⟩ : ∃ x, Hid ((unpR c b).getD [] = x) := ⟨_, hide rfl⟩
 obtain ⟨good, HGOOD⟩ : ∃ q, Hid ((va && (q7 || q8)) = q) := ⟨_, hide rfl⟩
 have HRES := hide (show UE = (if good then codeU UF else 11) ∧ UR = (if good then UF else none).getD [] by
  rw [← HUE.out, ← HUR.out]
  unfold unpE unpR dirRead
  rw [HVAL.out, HKD.out, HKEY.out, HQ7.out, HQ8.out, HUF.out, HGOOD.out]
  exact ⟨rfl, rfl⟩)
 rw [HUE.out, HUR.out]
 rw [HVAL.out] at HVA
 have HN7 := hide (show (kd != 7) = !q7 by rw [← HQ7.out]; rfl)
 have HN8 := hide (show (kd != 8) = !q8 by rw [← HQ8.out]; rfl)
 have HENT := hide (fun (W : World) (u : Value) (row : List Int) (hu : Bs W W.heap.size u row) (hb : Bytes row) (hn : row.length ≤ 16000) (hT : Tab W W.heap.size) => entry_any c lit u row W HC.out hl1 hu hb hn hT)
 rw [HKD.out, HKEY.out, HQ7.out] at HENT
 have HPK := hide (fun (W : World) (u : Value) (l : List EntD) (hu : EntsB W W.heap.size u l) (hr : ∀ e ∈ l, oneB e = true) (hl : l.length ≤ 16) (hT : Tab W W.heap.size) => pack_any c lit u l W HC.out hl1 hu hr hl hT)
 rw [HKEY.out] at HPK
 obtain ⟨TOT, HTOT⟩ : ∃ x, Hid (unpF q7 key b = x) := ⟨_, hide rfl⟩
 have HUT := hide (show UF = TOT.bind fun l => if rightB l then some l else none by rw [← HUF.out]; unfold unpackF; rw [HTOT.out])
 have HSND := hide (fun (l : List EntD) (h : TOT = some l) => unp_sound HBY.out (HTOT.out.trans h))
 obtain ⟨A1, c1, hve, _, _, _⟩ := hv.open_
 obtain ⟨g2, HG2⟩ : ∃ k, Hid (w.heap.size = k) := ⟨_, hide rfl⟩
 have hg2 : g2 ≤ w.heap.size ∧ w.heap.size ≤ g2 := by have := HG2.out; omega
 clear hc hlt hv hb ht HVAL HUE HUR hve
 go_enter Tryd.func30, Tryd.ntmps30
 go_upto_region 1 with (first
  | (refine wpList_cap_new (c := c) (lit := lit) _ rfl rfl rfl HC.out.keyL HC.out.fpL hl1 ?_; intro w0 hb0 hw0 hs0; rw [HG2.out] at hb0; try rw [HG2.out]; have H2 := hide hb0; have HW0 := hide hw0; clear hb0 hw0 hs0))
 try simp only [Act.put, s1_, s2_, s3_]
 go_cut [25] from 13 to 25 (fun v25 wx => v25 = .bool (!good) ∧ CapB wx g2 c lit ∧ Below w.heap.size w wx)
 case first =>
  go_wp2_with (first
   | go_skip
   | (refine wpList_cap_all _ rfl rfl rfl H2.out ?_))
  refine (HVA.out _).mono ?_
  rintro _ w1 ⟨rfl, hb1⟩
  replace H2 := hide (H2.out.below hb1 H2.out.lt)
  replace HW0 := hide (HW0.out.trans (hb1.mono HW0.out.size))
  clear hb1 HVA
  rcases va with _ | _
  case false =>
   have HGG := hide (show good = false by rw [← HGOOD.out]; rfl)
   go_wp2_with (first
    | go_skip
    | (refine wpList_cap_int _ rfl 0 rfl rfl H2.out kd HX0.out ?_)
    | (refine wpList_val_ rfl (exec_neq_i64 _ _ _ _ rfl kd 7 rfl rfl _ HN7.out) ?_)
    | (refine wpList_val_ rfl (exec_neq_i64 _ _ _ _ rfl kd 8 rfl rfl _ HN8.out) ?_))
   go_meet
   exact ⟨by rw [HGG.out]; rfl, H2.out, HW0.out⟩
  rcases q7 with _ | _
  case false =>
   rcases q8 with _ | _
   case false =>
    have HGG := hide (show good = false by rw [← HGOOD.out]; rfl)
    go_wp2_with (first
     | go_skip
     | (refine wpList_cap_int _ rfl 0 rfl rfl H2.out kd HX0.out ?_)
     | (refine wpList_val_ rfl (exec_neq_i64 _ _ _ _ rfl kd 7 rfl rfl _ HN7.out) ?_)
     | (refine wpList_val_ rfl (exec_neq_i64 _ _ _ _ rfl kd 8 rfl rfl _ HN8.out) ?_))
    go_meet
    exact ⟨by rw [HGG.out]; rfl, H2.out, HW0.out⟩
   have HGG := hide (show good = true by rw [← HGOOD.out]; rfl)
   go_wp2_with (first
    | go_skip
    | (refine wpList_cap_int _ rfl 0 rfl rfl H2.out kd HX0.out ?_)
    | (refine wpList_val_ rfl (exec_neq_i64 _ _ _ _ rfl kd 7 rfl rfl _ HN7.out) ?_)
    | (refine wpList_val_ rfl (exec_neq_i64 _ _ _ _ rfl kd 8 rfl rfl _ HN8.out) ?_))
   go_meet
   exact ⟨by rw [HGG.out]; rfl, H2.out, HW0.out⟩
  have HGG := hide (show good = true by rw [← HGOOD.out]; simp)
  go_wp2_with (first
   | go_skip
   | (refine wpList_cap_int _ rfl 0 rfl rfl H2.out kd HX0.out ?_)
   | (refine wpList_val_ rfl (exec_neq_i64 _ _ _ _ rfl kd 7 rfl rfl _ HN7.out) ?_)
   | (refine wpList_val_ rfl (exec_neq_i64 _ _ _ _ rfl kd 8 rfl rfl _ HN8.out) ?_))
  go_meet
  exact ⟨by rw [HGG.out]; rfl, H2.out, HW0.out⟩
 obtain ⟨rfl, h2c, hw1⟩ := hcut
 have H2 := hide h2c
 have HW1 := hide hw1
 have hz1 := hw1.size
 clear h2c hw1
 obtain ⟨base, HBASE⟩ : ∃ k, Hid (wc.heap.size = k) := ⟨_, hide rfl⟩
 have hbw : wc.heap.size ≤ base ∧ base ≤ wc.heap.size := by have := HBASE.out; omega
 have hbase : w.heap.size ≤ base := by omega
 have hg2b : g2 < base := by have := H2.out.lt; omega
 rcases good with _ | _
 case false =>
  go_wp2_with go_skip
  go_ret2
  exact ⟨.slice none 0 0, by rw [HRES.out.1]; rfl, by rw [HRES.out.2]; exact OwnEnts.nil_ _ (Nat.zero_le _), HW1.out⟩
 have HRS := hide (show UE = codeU UF ∧ UR = UF.getD [] from ⟨HRES.out.1, HRES.out.2⟩)
 have HNONE := hide (fun (h : UF = none) => show UE = 2 ∧ UR = [] by rw [HRS.out.1, HRS.out.2, h]; exact ⟨rfl, rfl⟩)
 have HSOME := hide (fun (l : List EntD) (h : UF = some l) => show UE = 0 ∧ UR = l by rw [HRS.out.1, HRS.out.2, h]; exact ⟨rfl, rfl⟩)
 have HTN := hide (fun (h : TOT = none) => show UF = none by rw [HUT.out, h]; rfl)
 have HTL := hide (fun (l : List EntD) (h : TOT = some l) (hl : 16 < l.length) => show UF = none by
  rw [HUT.out, h]
  show (if rightB l = true then some l else none) = none
  rw [if_neg (fun hr => by have := ((rightB_iff l).1 hr).2.2; omega)])
 have HBe := hide (Below.refl base wc)
 have HLV := hide (show LitB wc w.heap.size v b from .inl (HV.out.below HW1.out (Nat.le_refl _)))
 clear HRES HRS HGOOD
 go_wp2_with go_skip
 go_loopw [6, 7] (fun v6 v7 wr => ∃ (left : List Int) (out : List EntD), LitB wr w.heap.size v7 left ∧ Bytes left ∧ left.length ≤ 16000 ∧ OwnEnts wr base 0 v6 out ∧ (unpF q7 key left).map (out ++ ·) = TOT ∧ out.length ≤ 16 ∧ (∀ e ∈ out, e.read.lit.length ≤ 1000000 ∧ e.write.lit.length ≤ 1000000) ∧ Below base wc wr) (fun _ v7 _ => lenD v7)
 case atStart => exact ⟨b, [], HLV.out, HBY.out, hn, OwnEnts.nil_ _ (Nat.zero_le _), by rw [HTOT.out]; cases TOT <;> rfl, by simp, (fun e he => by cases he), HBe.out⟩
 case round =>
  obtain ⟨left, out, hll, hlb, hln, how, heq, hol, hoi, hb⟩ := hrel
  have HLL := hide hll
  have HLB := hide hlb
  have HOWN := hide how
  have HEQ := hide heq
  have HOI := hide hoi
  have HB := hide hb
  have hzr : base ≤ wr.heap.size := Nat.le_trans hbw.2 hb.size
  replace H2 := hide (H2.out.below hb hg2b)
  obtain ⟨A7, c7, e7⟩ := hll.shape
  obtain ⟨nl, HNL⟩ : ∃ k, Hid (left.length = k) := ⟨_, hide rfl⟩
  rw [HNL.out] at e7
  subst e7
  clear hll hlb how heq hoi hb HBe
  by_cases hlt : 0 < nl
  · have hlt' : (0 : Int) < (nl : Int) := by omega
    go_wp2_with go_skip
    refine (TakeNet_any (.slice A7 nl c7) left wr (HLL.out.reads (by omega)) HLB.out (by omega)).mono ?_
    rintro e w2 (⟨v1, v2, x, r, htk, rfl, hr1, hr2, hb2⟩ | ⟨htk, rfl, rfl⟩)
    case inr =>
     have HUN := hide (HNONE.out (HTN.out (by rw [← HEQ.out, unp_none q7 key htk (by rw [HNL.out]; exact hlt)]; rfl)))
     clear htk
     go_wp2_with (first
      | go_skip
      | (refine wpList_cap_all _ rfl rfl rfl H2.out ?_))
     refine (HENT.out wr (.slice none 0 0) [] (Bs.nil_ _ _) (fun x hx => by cases hx) (by simp) ((HT.out.below (HW1.out.trans (HB.out.mono hbase)) (Nat.le_refl _)).more (by omega))).mono ?_
     rintro e w3 (⟨x, _, _, hx, _⟩ | ⟨hx, rfl, hb3⟩)
     case inl => rw [show entOf q7 key [] = none by cases q7 <;> rfl] at hx; cases hx
     clear hx
     replace H2 := hide (H2.out.below hb3 H2.out.lt)
     replace HOWN := hide (HOWN.out.keptB hb3 (by omega))
     replace HB := hide (HB.out.trans (hb3.mono (by omega)))
     have hz_hb3 := hb3.size
     clear hb3
     obtain ⟨g11, HG11⟩ : ∃ k, Hid (w3.heap.size = k) := ⟨_, hide rfl⟩
     have hg11 : g11 ≤ w3.heap.size ∧ w3.heap.size ≤ g11 := by have := HG11.out; omega
     have HOLT := hide (fun (k : Nat) (hk : u6.ownBlock = some k) => show k < g11 by have := HOWN.out.lt k hk; omega)
     go_wp2_with (first
      | go_skip
      | (refine wpList_alloc_blk rfl 45 rfl _ zero_ent ?_; intro wa hba hwa hsa; rw [HG11.out] at hba; try rw [HG11.out]; have H11 := hide hba; replace H2 := hide (H2.out.below hwa H2.out.lt); replace HOWN := hide (HOWN.out.keptB hwa (by omega)); replace HB := hide (HB.out.trans (hwa.mono (by omega))); have hza := hwa.size; clear hba hwa hsa)
      | (refine wpList_st_putAll _ _ _ rfl rfl rfl H11.out (entC EntD.none_ (.slice none 0 0) (.slice none 0 0)) rfl rfl (size_entL none_LE.1 none_LE.2) (ent_oneL rfl rfl) ?_; intro wb hbs hgs hss; replace H2 := hide (H2.out.grown hgs (by intro e; injection e; omega)); replace HOWN := hide (HOWN.out.past H11.out (Nat.zero_le _) (by kernel_rfl) (fun e => Nat.lt_irrefl _ (HOLT.out _ e)) hgs (by omega)); replace HB := hide (HB.out.grown hgs (by omega) (by intro k hk; injection hk; omega)); replace H11 := hide hbs; have hzb := hss; clear hbs hgs hss))
     go_ret2
     exact ⟨.slice none 0 0, by rw [HUN.out.1]; rfl, by rw [HUN.out.2]; exact OwnEnts.nil_ _ (Nat.zero_le _), HW1.out.trans (HB.out.mono hbase)⟩
    have HTK := hide htk
    have HXB := hide (take_bytes HLB.out htk)
    have hxl := take_len htk
    have hrl := d_take_lt htk
    have HX1 := hide hr1.reads
    have HLR := hide (show LitB w2 w.heap.size v2 r from hr2.litB)
    replace H2 := hide (H2.out.below hb2 H2.out.lt)
    replace HOWN := hide (HOWN.out.keptB hb2 (by omega))
    replace HB := hide (HB.out.trans (hb2.mono (by omega)))
    have hz_hb2 := hb2.size
    clear hb2 hr1 hr2 htk HLL
    go_wp2_with (first
     | go_skip
     | (refine wpList_cap_all _ rfl rfl rfl H2.out ?_))
    refine (HENT.out w2 v1 x HX1.out HXB.out.1 (by omega) ((HT.out.below (HW1.out.trans (HB.out.mono hbase)) (Nat.le_refl _)).more (by omega))).mono ?_
    rintro e w3 (⟨y, ly, lz, hy, rfl, hry, hrz, hyw, hb3⟩ | ⟨hy, rfl, hb3⟩)
    case inr =>
     have HUN := hide (HNONE.out (HTN.out (by rw [← HEQ.out, unp_take q7 key HTK.out, hy]; rfl)))
     clear hy
     replace H2 := hide (H2.out.below hb3 H2.out.lt)
     replace HOWN := hide (HOWN.out.keptB hb3 (by omega))
     replace HB := hide (HB.out.trans (hb3.mono (by omega)))
     have hz_hb3 := hb3.size
     clear hb3
     obtain ⟨g11, HG11⟩ : ∃ k, Hid (w3.heap.size = k) := ⟨_, hide rfl⟩
     have hg11 : g11 ≤ w3.heap.size ∧ w3.heap.size ≤ g11 := by have := HG11.out; omega
     have HOLT := hide (fun (k : Nat) (hk : u6.ownBlock = some k) => show k < g11 by have := HOWN.out.lt k hk; omega)
     go_wp2_with (first
      | go_skip
      | (refine wpList_alloc_blk rfl 45 rfl _ zero_ent ?_; intro wa hba hwa hsa; rw [HG11.out] at hba; try rw [HG11.out]; have H11 := hide hba; replace H2 := hide (H2.out.below hwa H2.out.lt); replace HOWN := hide (HOWN.out.keptB hwa (by omega)); replace HB := hide (HB.out.trans (hwa.mono (by omega))); have hza := hwa.size; clear hba hwa hsa)
      | (refine wpList_st_putAll _ _ _ rfl rfl rfl H11.out (entC EntD.none_ (.slice none 0 0) (.slice none 0 0)) rfl rfl (size_entL none_LE.1 none_LE.2) (ent_oneL rfl rfl) ?_; intro wb hbs hgs hss; replace H2 := hide (H2.out.grown hgs (by intro e; injection e; omega)); replace HOWN := hide (HOWN.out.past H11.out (Nat.zero_le _) (by kernel_rfl) (fun e => Nat.lt_irrefl _ (HOLT.out _ e)) hgs (by omega)); replace HB := hide (HB.out.grown hgs (by omega) (by intro k hk; injection hk; omega)); replace H11 := hide hbs; have hzb := hss; clear hbs hgs hss))
     go_ret2
     exact ⟨.slice none 0 0, by rw [HUN.out.1]; rfl, by rw [HUN.out.2]; exact OwnEnts.nil_ _ (Nat.zero_le _), HW1.out.trans (HB.out.mono hbase)⟩
    have HYE := hide hy
    have HYW := hide hyw
    have HYL := hide (entOf_lit hy)
    have HXR := hide hry
    have HXW := hide hrz
    have HY1 := hide (And.intro (bs_one_ hry.reads) (bs_one_ hrz.reads))
    replace HLR := hide (HLR.out.keptB hb3 (by omega))
    replace H2 := hide (H2.out.below hb3 H2.out.lt)
    replace HOWN := hide (HOWN.out.keptB hb3 (by omega))
    replace HB := hide (HB.out.trans (hb3.mono (by omega)))
    have hz_hb3 := hb3.size
    clear hb3 hy hry hrz hyw HX1
    have HNXT := hide (show (unpF q7 key r).map ((out ++ [y]) ++ ·) = TOT by
     rw [← HEQ.out, unp_take q7 key HTK.out, HYE.out]
     cases unpF q7 key r <;> simp)
    obtain ⟨A6, c6, e6⟩ := HOWN.out.shape
    obtain ⟨no, HNO⟩ : ∃ k, Hid (out.length = k) := ⟨_, hide rfl⟩
    have hno : no ≤ 16 := by have := HNO.out; omega
    obtain ⟨g11, HG11⟩ : ∃ k, Hid (w3.heap.size = k) := ⟨_, hide rfl⟩
    have hg11 : g11 ≤ w3.heap.size ∧ w3.heap.size ≤ g11 := by have := HG11.out; omega
    have HOLT := hide (fun (k : Nat) (hk : u6.ownBlock = some k) => show k < g11 by have := HOWN.out.lt k hk; omega)
    rw [HNO.out] at e6
    subst e6
    by_cases h16 : 16 ≤ no
    case pos =>
     have i16 : decide ((16 : Int) ≤ (no : Int)) = true := decide_eq_true (by omega)
     have HUN := hide (HNONE.out (by
      cases hT : TOT with
      | none => exact HTN.out hT
      | some t =>
       refine HTL.out t hT ?_
       rw [hT] at HNXT
       have h1 := unp_length HNXT.out
       rw [List.length_append, List.length_singleton] at h1
       have := HNO.out
       omega))
     go_wp2_with (first
      | go_skip
      | (refine wpList_alloc_blk rfl 45 rfl _ zero_ent ?_; intro wa hba hwa hsa; rw [HG11.out] at hba; try rw [HG11.out]; have H11 := hide hba; replace H2 := hide (H2.out.below hwa H2.out.lt); replace HOWN := hide (HOWN.out.keptB hwa (by omega)); replace HLR := hide (HLR.out.keptB hwa (by omega)); replace HXR := hide (HXR.out.keptB hwa); replace HXW := hide (HXW.out.keptB hwa); replace HB := hide (HB.out.trans (hwa.mono (by omega))); have hza := hwa.size; clear hba hwa hsa)
      | (refine wpList_st_putAll _ _ _ rfl rfl rfl H11.out (entC y ly lz) rfl (by rw [ent_lenL none_LE.1 none_LE.2, ent_lenL HYW.out.lens.1 HYW.out.lens.2]) (size_entL HYW.out.lens.1 HYW.out.lens.2) (ent_oneL HY1.out.1 HY1.out.2) ?_; intro wb hbs hgs hss; replace H2 := hide (H2.out.grown hgs (by intro e; injection e; omega)); replace HOWN := hide (HOWN.out.past H11.out (Nat.zero_le _) (by kernel_rfl) (fun e => Nat.lt_irrefl _ (HOLT.out _ e)) hgs (by omega)); replace HLR := hide (HLR.out.past H11.out (by omega) (by kernel_rfl) hgs (by omega)); replace HXR := hide (HXR.out.pastE H11.out (by kernel_rfl) hgs); replace HXW := hide (HXW.out.pastE H11.out (by kernel_rfl) hgs); replace HB := hide (HB.out.grown hgs (by omega) (by intro k hk; injection hk; omega)); replace H11 := hide hbs; have hzb := hss; clear hbs hgs hss))
     go_ret2
     exact ⟨.slice none 0 0, by rw [HUN.out.1]; rfl, by rw [HUN.out.2]; exact OwnEnts.nil_ _ (Nat.zero_le _), HW1.out.trans (HB.out.mono hbase)⟩
    have i16 : decide ((16 : Int) ≤ (no : Int)) = false := decide_eq_false (by omega)
    have HSZE := hide (show (Tryd.prog.info? 45).map (·.size) = some (entC y ly lz).length from size_entL HYW.out.lens.1 HYW.out.lens.2)
    go_wp2_with (first
     | go_skip
     | (refine wpList_alloc_blk rfl 45 rfl _ zero_ent ?_; intro wa hba hwa hsa; rw [HG11.out] at hba; try rw [HG11.out]; have H11 := hide hba; replace H2 := hide (H2.out.below hwa H2.out.lt); replace HOWN := hide (HOWN.out.keptB hwa (by omega)); replace HLR := hide (HLR.out.keptB hwa (by omega)); replace HXR := hide (HXR.out.keptB hwa); replace HXW := hide (HXW.out.keptB hwa); replace HB := hide (HB.out.trans (hwa.mono (by omega))); have hza := hwa.size; clear hba hwa hsa)
     | (refine wpList_st_putAll _ _ _ rfl rfl rfl H11.out (entC y ly lz) rfl (by rw [ent_lenL none_LE.1 none_LE.2, ent_lenL HYW.out.lens.1 HYW.out.lens.2]) (size_entL HYW.out.lens.1 HYW.out.lens.2) (ent_oneL HY1.out.1 HY1.out.2) ?_; intro wb hbs hgs hss; replace H2 := hide (H2.out.grown hgs (by intro e; injection e; omega)); replace HOWN := hide (HOWN.out.past H11.out (Nat.zero_le _) (by kernel_rfl) (fun e => Nat.lt_irrefl _ (HOLT.out _ e)) hgs (by omega)); replace HLR := hide (HLR.out.past H11.out (by omega) (by kernel_rfl) hgs (by omega)); replace HXR := hide (HXR.out.pastE H11.out (by kernel_rfl) hgs); replace HXW := hide (HXW.out.pastE H11.out (by kernel_rfl) hgs); replace HB := hide (HB.out.grown hgs (by omega) (by intro k hk; injection hk; omega)); replace H11 := hide hbs; have hzb := hss; clear hbs hgs hss)
     | (refine wpList_st_all 45 _ rfl rfl rfl H11.out _ Tryd.underlying45 rfl HSZE.out ?_)
     | (refine wpList_lit_ent rfl _ rfl (EntL.mk y ly lz) HYW.out rfl ?_)
     | (at_builtin; refine wpList_append_entX rfl _ _ rfl base 0 (.slice A6 no c6) out rfl HOWN.out (by omega) (by omega) (EntL.mk y ly lz) ⟨HYW.out, HXR.out.litB, HXW.out.litB⟩ rfl ?_; intro v9 w9 ho9 hp9 hk9 hl9; have HOWN9 := hide ho9; have HLR9 := hide (hl9 w.heap.size v2 r hbase HLR.out); replace HB := hide (HB.out.trans hp9); clear ho9 hp9 hk9 hl9))
    obtain ⟨A2, c2, e2⟩ := HLR9.out.shape
    have HMEA := hide (show lenD v2 < nl by rw [e2]; show r.length < nl; have := HNL.out; omega)
    clear e2
    go_roundw
    case measure => exact HMEA.out
    case rel => exact ⟨u4, u5, v9, v2, ⟨r, HLR9.out, HXB.out.2, by have := HNL.out; omega, out ++ [y], HOWN9.out, HNXT.out, by have := HNO.out; rw [List.length_append, List.length_singleton]; omega, (fun e he => by
     rcases List.mem_append.1 he with he | he
     · exact HOI.out e he
     · rw [List.mem_singleton.1 he]; have := HYL.out; omega), HB.out⟩, rfl, rfl, rfl, rfl⟩
  · have hnl : nl = 0 := by omega
    have hlt' : ¬ (0 : Int) < (nl : Int) := by omega
    have HTS := hide (show TOT = some out by
     rw [← HEQ.out, List.eq_nil_of_length_eq_zero (HNL.out.trans hnl), unp_nil]
     simp)
    obtain ⟨s1, s2, s3⟩ := HSND.out out HTS.out
    have HPB := hide s2
    clear s1 s2 s3 hnl
    go_wp2_with go_skip
    refine (dright_any u6 out wr (HOWN.out.reads (by omega)) HOI.out (by omega) ((HT.out.below (HW1.out.trans (HB.out.mono hbase)) (Nat.le_refl _)).more (by omega))).mono ?_
    rintro e w4 ⟨rfl, hb4⟩
    replace H2 := hide (H2.out.below hb4 H2.out.lt)
    replace HOWN := hide (HOWN.out.keptB hb4 (by omega))
    replace HB := hide (HB.out.trans (hb4.mono (by omega)))
    have hz_hb4 := hb4.size
    clear hb4
    obtain ⟨rl, HRL⟩ : ∃ q, Hid (rightB out = q) := ⟨_, hide rfl⟩
    rw [HRL.out]
    rcases rl with _ | _
    case false =>
     have HUN := hide (HNONE.out (by rw [HUT.out, HTS.out]; show (if rightB out = true then some out else none) = none; rw [HRL.out]; rfl))
     go_wp2_with go_skip
     go_ret2
     exact ⟨.slice none 0 0, by rw [HUN.out.1]; rfl, by rw [HUN.out.2]; exact OwnEnts.nil_ _ (Nat.zero_le _), HW1.out.trans (HB.out.mono hbase)⟩
    have HUN := hide (HSOME.out out (by rw [HUT.out, HTS.out]; show (if rightB out = true then some out else none) = some out; rw [HRL.out]; rfl))
    have HEQ7 := hide (show (kd == 7) = q7 from HQ7.out)
    have hr := (rightB_iff out).1 HRL.out
    have HRO := hide hr.1
    have hr16 := hr.2.2
    clear hr
    rcases q7 with _ | _
    case false =>
     go_wp2_with (first
      | go_skip
      | (refine wpList_cap_int _ rfl 0 rfl rfl H2.out kd HX0.out ?_)
      | (refine wpList_val_ rfl (exec_eql_i64 _ _ _ _ rfl kd 7 rfl rfl _ HEQ7.out) ?_))
     go_ret2
     exact ⟨u6, by rw [HUN.out.1]; rfl, by rw [HUN.out.2]; exact HOWN.out.lower hbase (Nat.le_refl _) (Nat.zero_le _), HW1.out.trans (HB.out.mono hbase)⟩
    go_wp2_with (first
     | go_skip
     | (refine wpList_cap_int _ rfl 0 rfl rfl H2.out kd HX0.out ?_)
     | (refine wpList_val_ rfl (exec_eql_i64 _ _ _ _ rfl kd 7 rfl rfl _ HEQ7.out) ?_)
     | (refine wpList_cap_all _ rfl rfl rfl H2.out ?_))
    refine (HPK.out w4 u6 out (HOWN.out.reads (by omega)) HRO.out hr16 ((HT.out.below (HW1.out.trans (HB.out.mono hbase)) (Nat.le_refl _)).more (by omega))).mono ?_
    rintro e w5 ⟨v5, rfl, ho5, hb5⟩
    rw [HPB.out (by trivial)] at ho5
    have HV5 := hide ho5.reads
    replace H2 := hide (H2.out.below hb5 H2.out.lt)
    replace HOWN := hide (HOWN.out.keptB hb5 (by omega))
    replace HB := hide (HB.out.trans (hb5.mono (by omega)))
    have hz_hb5 := hb5.size
    clear hb5 ho5
    have HVb := hide ((HV.out.below (HW1.out.trans (HB.out.mono hbase)) (Nat.le_refl _)).more (show w.heap.size ≤ w5.heap.size by omega))
    go_wp2_with go_skip
    refine (equal_bytes v5 v b b w5 w5.heap.size HV5.out HVb.out HBY.out HBY.out).mono ?_
    rintro e w6 ⟨rfl, hb6⟩
    rw [decide_eq_true rfl]
    replace H2 := hide (H2.out.below hb6 H2.out.lt)
    replace HOWN := hide (HOWN.out.keptB hb6 (by omega))
    replace HB := hide (HB.out.trans (hb6.mono (by omega)))
    have hz_hb6 := hb6.size
    clear hb6
    go_wp2_with go_skip
    go_ret2
    exact ⟨u6, by rw [HUN.out.1]; rfl, by rw [HUN.out.2]; exact HOWN.out.lower hbase (Nat.le_refl _) (Nat.zero_le _), HW1.out.trans (HB.out.mono hbase)⟩
end Go.Proofs.YthdjgebbjogmiaaDoor

namespace Go.Proofs.YthdjgebbjogmiaaDoor
open Go Go.RowKit
set_option linter.unusedVariables false
set_option linter.unusedSimpArgs false
set_option maxRecDepth 100000
theorem dirSlot (k f : List Int) : dirF (slotF k f) = { slotF k f with kind := 7 } ∧ dirE (slotF k f) = 0 := by
 have h : dirOk (slotF k f) = true := by
  unfold dirOk
  rw [decide_eq_true (slotF_valid k f)]
  rfl
 unfold dirF dirE
 rw [if_pos h, if_pos h]
 exact ⟨rfl, rfl⟩
theorem dirSlot_all (k f : List Int) (hf : f.length = 32) (hb : Bytes f) : (dirF (slotF k f)).Wf ∧ dirE (slotF k f) = 0 ∧ (dirF (slotF k f)).lit = [] ∧ (dirF (slotF k f)).Valid ∧ (dirF (slotF k f)).kind = 7 := by
 have h := slotF_wf (k := k) hf hb
 refine ⟨?_, (dirSlot k f).2, ?_, ?_, ?_⟩ <;> rw [(dirSlot k f).1]
 · exact ⟨h.keyL, h.keyB, h.fpL, h.fpB, h.litB⟩
 · rfl
 · exact .inr (.inr ⟨by show (4 : Int) ≤ 7; omega, by show (7 : Int) ≤ 9; omega, rfl, rfl, rfl, rfl⟩)
theorem pack_ok {c : CapD} (hv : c.Valid) (hk : c.kind = 7) {l : List EntD} (hr : rightB l = true) : packE c l = 0 ∧ packR c l = packF c.key l := by
 have h : (decide c.Valid && (c.kind == 7)) = true := by rw [decide_eq_true hv, hk]; rfl
 unfold packR packE packOk
 simp only [h, hr, if_true, Bool.and_true, and_self]
theorem unp_ok {c : CapD} (hv : c.Valid) (hk : c.kind = 7) (b : List Int) : unpE c b = codeU (unpackF true c.key b) ∧ unpR c b = unpackF true c.key b := by
 have h : dirRead c = true := by unfold dirRead; rw [decide_eq_true hv, hk]; rfl
 unfold unpE unpR
 rw [if_pos h, if_pos h, hk]
 exact ⟨rfl, rfl⟩
theorem dir7_valid (k f : List Int) : ({ slotF k f with kind := 7 } : CapD).Valid := .inr (.inr ⟨by show (4 : Int) ≤ 7; omega, by show (7 : Int) ≤ 9; omega, rfl, rfl, rfl, rfl⟩)
theorem roDir (k f : List Int) : roF (dirF (slotF k f)) = { slotF k f with kind := 8, key := keyF tRead (keyF tWrite k) } ∧ roE (dirF (slotF k f)) = 0 := by
 have hr : readF { slotF k f with kind := 7 } = true := by unfold readF; rw [decide_eq_true (dir7_valid k f)]; rfl
 have hw : writeF { slotF k f with kind := 7 } = true := by unfold writeF; rw [decide_eq_true (dir7_valid k f)]; rfl
 rw [(dirSlot k f).1]
 unfold roF roE
 rw [if_pos hr, if_pos hw, if_pos hr]
 exact ⟨rfl, rfl⟩
theorem roDir_all (k f : List Int) (hf : f.length = 32) (hb : Bytes f) : (roF (dirF (slotF k f))).Wf ∧ roE (dirF (slotF k f)) = 0 ∧ (roF (dirF (slotF k f))).lit = [] ∧ (roF (dirF (slotF k f))).Valid ∧ (roF (dirF (slotF k f))).kind = 8 := by
 refine ⟨?_, (roDir k f).2, ?_, ?_, ?_⟩ <;> rw [(roDir k f).1]
 · exact ⟨keyF_len _ _, keyF_bytes _ _, hf, hb, fun x hx => by cases hx⟩
 · rfl
 · exact .inr (.inr ⟨by show (4 : Int) ≤ 8; omega, by show (8 : Int) ≤ 9; omega, rfl, rfl, rfl, rfl⟩)
theorem voDir_all (k f : List Int) (hf : f.length = 32) (hb : Bytes f) : (voF (dirF (slotF k f))).Wf ∧ (voF (dirF (slotF k f))).lit = [] ∧ (voF (dirF (slotF k f))).kind = 9 := by
 have hr : readF { slotF k f with kind := 7 } = true := by unfold readF; rw [decide_eq_true (dir7_valid k f)]; rfl
 have hv : (decide ({ slotF k f with kind := 7 } : CapD).Valid && (({ slotF k f with kind := 7 } : CapD).kind != 3)) = true := by rw [decide_eq_true (dir7_valid k f)]; rfl
 have h8 := (roDir k f).1
 rw [(dirSlot k f).1] at h8 ⊢
 unfold voF
 rw [if_pos hv, if_pos hr, h8]
 exact ⟨⟨keyF_len _ _, keyF_bytes _ _, hf, hb, fun x hx => by cases hx⟩, rfl, rfl⟩
theorem unp_ok8 {c : CapD} (hv : c.Valid) (hk : c.kind = 8) (b : List Int) : unpE c b = codeU (unpackF false c.key b) ∧ unpR c b = unpackF false c.key b := by
 have h : dirRead c = true := by unfold dirRead; rw [decide_eq_true hv, hk]; rfl
 unfold unpE unpR
 rw [if_pos h, if_pos h, hk]
 exact ⟨rfl, rfl⟩
theorem unp_no {c : CapD} (hk : c.kind = 9) (b : List Int) : unpE c b = 11 ∧ unpR c b = none := by
 have h : ¬ dirRead c = true := by unfold dirRead; rw [hk]; simp
 unfold unpE unpR
 rw [if_neg h, if_neg h]
 exact ⟨rfl, rfl⟩
theorem pack_no {c : CapD} (hk : c.kind = 8) (l : List EntD) : packE c l = 10 := by
 unfold packE
 rw [hk, show ((8 : Int) == 7) = false from rfl, Bool.and_false]
 rfl
theorem none_write : writeF CapD.none_ = false := by
 unfold writeF
 rw [Bool.and_eq_false_iff]
 exact .inr rfl
end Go.Proofs.YthdjgebbjogmiaaDoor

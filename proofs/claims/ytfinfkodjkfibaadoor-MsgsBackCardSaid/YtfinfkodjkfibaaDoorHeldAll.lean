/- Regions that draw their order: what is held behind each operation may be turned into more; keys read from rows that a call made. No condition.
A reader under stores into requests. No condition.
The reader's blobs, each row of the call's own. No condition. -/
import Derived.Test.YtfinfkodjkfibaaDoorSym
import Derived.Test.YtfinfkodjkfibaaDoorRowsLit
import Derived.Test.YtfinfkodjkfibaaDoorCells
import Derived.Test.YtfinfkodjkfibaaDoorReqAll
import Derived.Test.YtfinfkodjkfibaaDoorReaders
namespace Go.Proofs.YtfinfkodjkfibaaDoor
open Go Go.RowKit
set_option maxRecDepth 100000
theorem wpAnyH_more {P : Program} {ops : Array Oper} {Q : Exit → Act → World → Prop} {md : Region.Mode} {S S' : World → Prop} (hi : ∀ w, S' w → S w) : ∀ {fuel : Nat} {listed : Array Bool} {a : Act} {w : World}, wpAnyH P md ops Q S' fuel listed a w → wpAnyH P md ops Q S fuel listed a w
  | 0, _, _, _, h => h
  | fuel + 1, _, _, _, h => ⟨h.1, fun i hj => wpOp_mono (fun _ w' h' => ⟨hi w' h'.1, wpAnyH_more hi h'.2⟩) (h.2 i hj)⟩
/-- Block g is no request. -/
def NotReq (w : World) (g : Nat) : Prop := ∀ cs f, w.heap[g]? ≠ some (.cells cs 31 f)
/-- All blocks of w stand in w' but for the reader's and requests. -/
structure Gr (g4 : Nat) (w w' : World) : Prop where
  size : w.heap.size ≤ w'.heap.size
  block : ∀ k, k < w.heap.size → k ≠ g4 → NotReq w k → w'.heap[k]? = w.heap[k]?
theorem Gr.refl (g4 : Nat) (w : World) : Gr g4 w w := ⟨Nat.le_refl _, fun _ _ _ _ => rfl⟩
theorem Gr.trans {g4 : Nat} {a b c : World} (h : Gr g4 a b) (h' : Gr g4 b c) : Gr g4 a c :=
  ⟨Nat.le_trans h.size h'.size, fun k hk hn hr => (h'.block k (Nat.lt_of_lt_of_le hk h.size) hn (fun cs f e => hr cs f (by rw [← h.block k hk hn hr]; exact e))).trans (h.block k hk hn hr)⟩
theorem Gr.of {g4 : Nat} {w w' : World} (h : w.grownBy w' (some g4)) : Gr g4 w w' := ⟨h.size, fun k hk hn _ => h.block k hk (by intro e; injection e with e; exact hn e)⟩
theorem Gr.below {g4 : Nat} {w w' : World} (h : Below w.heap.size w w') : Gr g4 w w' := ⟨h.size, fun k hk _ _ => h.block k hk⟩
theorem Gr.req {g4 g5 : Nat} {cs : List Value} {w w' : World} (h : w.grownBy w' (some g5)) (hk : Blk w g5 31 cs) : Gr g4 w w' :=
  ⟨h.size, fun k hk' hn hr => h.block k hk' (by intro e; injection e with e; subst e; exact hr _ _ hk)⟩
theorem RowB.blockOf {w : World} {base : Nat} {v : Value} {xs : List Int} (h : RowB w base v xs) (h0 : 0 < xs.length) : ∃ g c, v = .slice (some ⟨g, 0, none⟩) xs.length c ∧ (base ≤ g ∧ g < w.heap.size) ∧ w.rangeAt g 0 (u8s xs) ∧ NotReq w g := by
  have hr := h.reads
  rcases h with ⟨rfl, rfl⟩ | ⟨g, cap, cur, f, rfl, hb, hB, _⟩
  · simp at h0
  · obtain ⟨A', c', he, _, _, _, h4⟩ := hr
    injection he with e1 e2 e3
    subst e1
    obtain ⟨b', o', hh, _, hc⟩ := h4 h0
    injection hh with hh
    injection hh with e4 e5 e6
    subst e4 e5
    exact ⟨g, cap, rfl, ⟨hb, hB.lt⟩, hc, fun cs f' e => by unfold BlkF at hB; rw [hB] at e; injection e with e; injection e with _ e _; exact absurd e (by decide)⟩
section
variable {P : Program} {o : Oper} {a : Act} {w : World} {K : Act → World → Prop} {Q : Exit → Act → World → Prop}
theorem run_arrayAtG (w : World) (arr e : TypeId) (n : Nat) (ad : Option Addr) (l c : Nat) (ht : P.underlying arr = some (.array n e)) (hn : n ≤ l) : (Instr.arrayAt arr (.slice ad l c)).run P w = .ok (.pointer ad) w := by
  unfold Instr.arrayAt
  rw [Sem.run_bind, run_underlying ht, Result.andThen_ok]
  simp [Nat.not_lt.2 hn]
theorem exec_arrayAtG (arr : TypeId) (x : Operand) (ho : o.op = .sliceToArrayPointer arr x) (e : TypeId) (n : Nat) (ad : Option Addr) (l c : Nat) (hx : a.eval x = .slice ad l c) (ht : P.underlying arr = some (.array n e)) (hn : n ≤ l) :
    (execOp a.eval o).run P w = .ok (.value (.pointer ad)) w := by
  unfold execOp
  simp only [ho, hx, Sem.run_bind, run_arrayAtG w arr e n ad l c ht hn, Result.andThen_ok, Sem.run_pure]
theorem wp_alloc_blkG (t d : Nat) (ho : o.op = .alloc t) (hd : o.dst = some d) (cs : List Value)
    (hz : (P.info? t).map (·.zero) = some (some (.agg cs.toArray)))
    (h : ∀ (g : Nat) (w' : World), w.heap.size ≤ g → Blk w' g t cs → Below w.heap.size w w' → K (a.put (some d) (.pointer (some ⟨g, 0, none⟩))) w') : o.wp P a w K Q :=
  wp_alloc_blkD t d ho hd cs hz fun w' h1 h2 _ => h _ w' (Nat.le_refl _) h1 h2
end
theorem grown_below {w w' : World} {row : Option Nat} (hb : Below w.heap.size w w') : w.grownBy w' row := ⟨hb.os, hb.tape, hb.output, hb.size, fun k hk _ => hb.block k hk⟩
end Go.Proofs.YtfinfkodjkfibaaDoor

namespace Go.Proofs.YtfinfkodjkfibaaDoor
open Go Go.RowKit
set_option maxRecDepth 100000
theorem RowB.pastT {w w' : World} {base g : Nat} {t : TypeId} {cs xs} {v : Value} (h : RowB w base v xs) (hk : Blk w g t cs) (ht : t ≠ 5) (hg : w.grownBy w' (some g)) : RowB w' base v xs := by
  have hne : v.ownBlock = none ∨ v.ownBlock ≠ some g := by
    have h' := h
    rcases h' with ⟨h1, h2⟩ | ⟨g', cap, cur, f, h1, _, hb, _⟩
    · rw [h1]; exact .inl rfl
    · refine .inr fun e => ?_
      rw [h1] at e
      simp [Value.ownBlock] at e
      subst e
      unfold BlkF at hb
      unfold Blk at hk
      rw [hk] at hb
      injection hb with hb
      injection hb with _ hb _
      exact ht hb
  exact h.kept hg hne
theorem RdrAt.pastT {w w' : World} {g g5 B0 : Nat} {s : Msg.St} {t : TypeId} {cs : List Value} (h : RdrAt w g B0 s) (hk : Blk w g5 t cs) (ht : t ≠ 5) (hg : w.grownBy w' (some g5)) (hgg : g < g5) : RdrAt w' g B0 s := by
  obtain ⟨v, hB, ⟨hv, hB0⟩, hby, hl⟩ := h
  have hgl := hB.lt
  refine ⟨v, hB.grown hg (by intro e; injection e; omega), ⟨?_, hB0⟩, hby, hl⟩
  rcases hv with hv | hv
  · exact .inl (hv.below ((Below.refl B0 w).grown hg (by omega) (by intro k hk; injection hk; omega)) (Nat.le_refl _))
  · exact .inr (hv.pastT hk ht hg)
theorem RdrAt.pastW {w w' : World} {g B0 base size n : Nat} {s : Msg.St} {v : Value} {vs : List Value} {t : TypeId} (h : RdrAt w g B0 s) (ho : w.ownsRow base t size v n vs) (ht : t ≠ 5) (ht' : t ≠ 69) (hb : B0 ≤ base) (hg : w.grownBy w' v.ownBlock) : RdrAt w' g B0 s := by
  obtain ⟨rv, hB, ⟨hv, hB0⟩, hby, hl⟩ := h
  have hgl := hB.lt
  exact ⟨rv, hB.grown hg (own_ne_blk ho hB ht'), ⟨elB_grownT hv (own_more ho hb) ht hg (by omega), hB0⟩, hby, hl⟩
theorem Blk.same {w : World} {g : Nat} {t t' : TypeId} {cs cs' : List Value} (h : Blk w g t cs) (h' : Blk w g t' cs') : cs = cs' := by
  unfold Blk at h h'
  rw [h] at h'
  injection h' with h'
  injection h' with h1 _ _
  exact congrArg Array.toList h1
/-- The reader's mark is written. -/
theorem RdrAt.turn {w w' : World} {g B0 : Nat} {s : Msg.St} {v b0 : Value} {b : Bool} (h : RdrAt w g B0 s) (hk : Blk w g 69 [v, b0]) (hk' : Blk w' g 69 [v, .bool b]) (hg : w.grownBy w' (some g)) : RdrAt w' g B0 ⟨s.b, b⟩ := by
  obtain ⟨v2, hB, ⟨hv, hB0⟩, hby, hl⟩ := h
  have e := Blk.same hB hk
  injection e with e1 _
  subst e1
  exact ⟨v2, hk', ⟨hv.pastG hB (by decide) hB0 hg, hB0⟩, hby, hl⟩
end Go.Proofs.YtfinfkodjkfibaaDoor

namespace Go.Proofs.YtfinfkodjkfibaaDoor
open Go Go.RowKit
set_option linter.unusedVariables false
set_option linter.unusedSimpArgs false
set_option maxRecDepth 100000
/-- A list of blobs of the call's own, each row of its own too. -/
def OwnBlbsR (w : World) (base : Nat) (v : Value) (l : List Msg.Blb) : Prop :=
  ∃ us : List Value, us.length = l.length ∧ w.ownsRow base 44 2 v l.length (cellsB (l.map Prod.fst) us) ∧ ∀ i (hi : i < l.length), ∃ u, us[i]? = some u ∧ RowB w base u l[i].2
section
variable {w w' : World} {base : Nat} {v v' : Value} {l : List Msg.Blb}
theorem OwnBlbsR.nil_ (w : World) (base : Nat) : OwnBlbsR w base (.slice none 0 0) [] := ⟨[], rfl, World.ownsRow_nil _ _ _ _, fun i hi => absurd hi (by simp)⟩
theorem OwnBlbsR.toB (h : OwnBlbsR w base v l) : OwnBlbs w base v l := by
  obtain ⟨us, hl, h1, h2⟩ := h
  exact ⟨us, hl, h1, fun i hi => by obtain ⟨u, hu, hx⟩ := h2 i hi; exact ⟨u, hu, .inr hx⟩⟩
theorem OwnBlbsR.keptB (h : OwnBlbsR w base v l) (hb : Below w.heap.size w w') : OwnBlbsR w' base v l := by
  obtain ⟨us, hl, h1, h2⟩ := h
  exact ⟨us, hl, own_keptB h1 hb, fun i hi => by obtain ⟨u, hu, hx⟩ := h2 i hi; exact ⟨u, hu, hx.keptB hb⟩⟩
theorem OwnBlbsR.past {g : Nat} {t : TypeId} {cs : List Value} (h : OwnBlbsR w base v l) (hk : Blk w g t cs) (ht : t ≠ 44) (ht' : t ≠ 5) (hg : w.grownBy w' (some g)) : OwnBlbsR w' base v l := by
  obtain ⟨us, hl, h1, h2⟩ := h
  refine ⟨us, hl, h1.kept hg (by
    have := own_ne_blk h1 hk (Ne.symm ht)
    cases ho : v.ownBlock with
    | none => exact .inl rfl
    | some k => exact .inr (by rw [ho] at this; exact fun e => this e.symm)), fun i hi => ?_⟩
  obtain ⟨u, hu, hx⟩ := h2 i hi
  exact ⟨u, hu, hx.pastT hk ht' hg⟩
theorem OwnBlbsR.pastR {g B0 : Nat} {s : Msg.St} (h : OwnBlbsR w base v l) (hR : RdrAt w g B0 s) (hg : w.grownBy w' (some g)) : OwnBlbsR w' base v l := by
  obtain ⟨rv, hk, _⟩ := hR
  exact h.past hk (by decide) (by decide) hg
theorem OwnBlbsR.shape (h : OwnBlbsR w base v l) : ∃ A c, v = .slice A l.length c := h.toB.shape
theorem OwnBlbsR.one (h : OwnBlbsR w base v l) : v.oneCell' = true := h.toB.one
theorem OwnBlbsR.push {us : List Value} (hl : us.length = l.length) (h : w.ownsRow base 44 2 v l.length (cellsB (l.map Prod.fst) us)) (h2 : ∀ i (hi : i < l.length), ∃ u, us[i]? = some u ∧ RowB w base u l[i].2) (hB : base ≤ w.heap.size) {u : Value} {n : Int} {r : List Int} (hu : RowB w base u r)
    (h' : w'.ownsRow base 44 2 v' (l.length + 1) (cellsB (l.map Prod.fst) us ++ [.int .i64 n, u])) (hg : w.grownBy w' v.ownBlock) : OwnBlbsR w' base v' (l ++ [(n, r)]) := by
  refine ⟨us ++ [u], by simp [hl], ?_, fun i hi => ?_⟩
  · rw [List.map_append, List.length_append]
    show w'.ownsRow base _ 2 v' (l.length + 1) (cellsB (l.map Prod.fst ++ [n]) (us ++ [u]))
    rw [cellsB_snoc _ _ _ _ (by simp [hl])]
    exact h'
  · rcases Nat.lt_or_ge i l.length with h3 | h3
    · obtain ⟨u', hu', hx⟩ := h2 i h3
      refine ⟨u', by rw [List.getElem?_append_left (by omega)]; exact hu', ?_⟩
      rw [List.getElem_append_left h3]
      exact rowB_grownT hx h (by decide) hg
    · have : i = l.length := by simp at hi; omega
      subst this
      refine ⟨u, by rw [← hl]; simp, ?_⟩
      simpa using rowB_grownT hu h (by decide) hg
end
set_option maxHeartbeats 4000000
theorem rblobs_anyR (s : Msg.St) (w : World) (g B0 : Nat) (hR : RdrAt w g B0 s) :
    Calls Tryd.prog 35 #[.pointer (some ⟨g, 0, none⟩)] w fun e w' => ∃ v, e = .returned v ∧ OwnBlbsR w' w.heap.size v (Msg.blobsP s).1 ∧ RdrAt w' g B0 (Msg.blobsP s).2 ∧ w.grownBy w' (some g) := by
  have hgl := hR.lt
  have hgB : B0 ≤ g := by obtain ⟨_, _, ⟨_, h⟩, _⟩ := hR; exact h
  have HC := hide (count_any s w g B0 hR)
  have HRG := hide (countP_range s)
  have HBP := hide (show Msg.blobsP s = Msg.blobsN (Msg.countP' s).1.toNat (Msg.countP' s).2 from rfl)
  rw [HBP.out]
  clear HBP
  generalize Msg.countP' s = P at *
  obtain ⟨n0, s0⟩ := P
  simp only at HC HRG ⊢
  obtain ⟨n, rfl⟩ := Int.eq_ofNat_of_zero_le HRG.out.1
  have hn32 : n ≤ 32 := by have := HRG.out.2; omega
  rw [Int.toNat_natCast]
  obtain ⟨RES, HRES⟩ : ∃ r, Hid (Msg.blobsN n s0 = r) := ⟨_, hide rfl⟩
  rw [HRES.out]
  obtain ⟨base, HBS⟩ : ∃ b, Hid (w.heap.size = b) := ⟨_, hide rfl⟩
  have hgl' : g < base := by rw [← HBS.out]; exact hgl
  rw [HBS.out]
  clear hR HRG hgl
  go_enter Tryd.func35, Tryd.ntmps35
  go_wp2_with fail
  refine HC.out.mono ?_
  rintro e w1 ⟨rfl, hr, hg⟩
  have HR := hide hr
  have HG := hide hg
  clear hr hg HC
  go_wp2_with fail
  go_loopw [3, 6] (fun v3 v6 wr => ∃ (i : Nat) (l : List Msg.Blb) (s' : Msg.St), v6 = .int .i64 i ∧ i ≤ n ∧ l.length = i ∧ OwnBlbsR wr base v3 l ∧ RdrAt wr g B0 s' ∧ w.grownBy wr (some g) ∧ RES = (l ++ (Msg.blobsN (n - i) s').1, (Msg.blobsN (n - i) s').2)) (fun _ v6 _ => n - (intOf v6).toNat)
  case atStart => exact ⟨0, [], s0, by go_num, by omega, rfl, OwnBlbsR.nil_ _ _, HR.out, HG.out, by rw [Nat.sub_zero, ← HRES.out]; rfl⟩
  case round =>
    obtain ⟨i, l, s', rfl, hin, hl, ho, hr, hg, hres⟩ := hrel
    clear HR HG
    have HO := hide ho
    have HR := hide hr
    have HG := hide hg
    have HE := hide hres
    have HL := hide hl
    clear ho hr hg hres hl
    have hz0 : base ≤ wr.heap.size := by rw [← HBS.out]; exact HG.out.size
    by_cases hlt : i < n
    · have hlt' : (i : Int) < (n : Int) := by omega
      have HSH := hide (share_any s' wr g B0 HR.out)
      have HSP := hide (show Msg.blobP s' = (((Msg.shareP s').1, (Msg.rowP (-1) (Msg.shareP s').2).1), (Msg.rowP (-1) (Msg.shareP s').2).2) from rfl)
      have HRW := hide (fun w' h => row_any (-1) (Msg.shareP s').2 w' g B0 h (by omega))
      have HSN := hide (show Msg.blobsN (n - i) s' = ((Msg.blobP s').1 :: (Msg.blobsN (n - (i + 1)) (Msg.blobP s').2).1, (Msg.blobsN (n - (i + 1)) (Msg.blobP s').2).2) by
        rw [show n - i = (n - (i + 1)) + 1 by omega]; rfl)
      rw [HSN.out, HSP.out] at HE
      clear HSN HSP
      generalize Msg.shareP s' = P2 at *
      obtain ⟨num, s2⟩ := P2
      simp only at HSH HRW HE
      generalize Msg.rowP (-1) s2 = P3 at *
      obtain ⟨x, s3⟩ := P3
      simp only at HRW HE
      go_wp2_with fail
      refine HSH.out.mono ?_
      rintro e w2 ⟨rfl, hr2, hg2⟩
      have HR2 := hide hr2
      have HO2 := hide (HO.out.pastR HR.out hg2)
      have HG2 := hide (HG.out.trans hg2)
      have hz2 := hg2.size
      clear hr2 hg2 HSH HO HR HG
      go_wp2_with fail
      refine (HRW.out w2 HR2.out).mono ?_
      rintro e w3 ⟨v1, rfl, ho1, hr3, hg3⟩
      have HR3 := hide hr3
      have HO3 := hide (HO2.out.pastR HR2.out hg3)
      have HG3 := hide (HG2.out.trans hg3)
      have HX := hide (ho1.more (show base ≤ w2.heap.size by omega))
      have hz3 := hg3.size
      obtain ⟨A1, c1, rfl⟩ := ho1.shape
      clear hr3 hg3 ho1 HRW HO2 HR2 HG2
      have hA := (Below.refl w3.heap.size w3).alloc (Nat.le_refl _) (.cells #[.int .i64 num, .slice A1 x.length c1] 44)
      have HA := hide hA
      have HO4 := hide (HO3.out.keptB hA)
      have HX4 := hide (HX.out.keptB hA)
      have HRL := hide (Rd.of_blk (B := w3.heap.size + 1) (Blk.new w3 44 [.int .i64 num, .slice A1 x.length c1]) (by omega) 2 1 1 rfl (Nat.le_refl _) (by decide))
      have hzA := hA.size
      clear hA
      obtain ⟨us, hul, hrow, hel⟩ := HO4.out
      have HEL := hide hel
      have HUL := hide hul
      rw [HL.out] at hrow
      clear hel hul
      go_wp2_with (at_builtin; go_must (refine wpList_append_rd _ rfl _ _ _ rfl base _ 2 32 el_blobs _ i _ rfl hrow (w3.heap.size + 1) _ 1 _ rfl HRL.out (by intro u hu; simp only [List.mem_cons, List.not_mem_nil, or_false] at hu; rcases hu with rfl | rfl <;> rfl) (by omega) (by omega) ?_))
      intro v4 w4 ho4 hg4 _
      have HO5 := hide (OwnBlbsR.push HUL.out (by rw [HL.out]; exact hrow) HEL.out (by omega) HX4.out (by rw [HL.out]; exact ho4) hg4)
      have HR5 := hide ((HR3.out.far HA.out).pastO hrow (by omega) hg4)
      have HG5 := hide (show w.grownBy w4 (some g) from ⟨hg4.os.trans (HA.out.os.trans HG3.out.os), hg4.tape.trans (HA.out.tape.trans HG3.out.tape), hg4.output.trans (HA.out.output.trans HG3.out.output), Nat.le_trans HG3.out.size (Nat.le_trans HA.out.size hg4.size), fun k hk hne => by
        have h1 := HG3.out.block k hk hne
        have hk3 : k < w3.heap.size := Nat.lt_of_lt_of_le hk HG3.out.size
        have h2 := HA.out.block k hk3
        have h3 := hg4.block k (Nat.lt_of_lt_of_le hk3 HA.out.size) (by
          intro e
          have := own_base hrow k e.symm
          have := HBS.out
          omega)
        rw [h3, h2, h1]⟩)
      clear ho4 hg4 hrow HO3 HO4 HR3 HG3 HX HX4 HRL HA HEL HUL
      go_wp2_with fail
      go_roundw
      case measure => simp [intOf]; omega
      case rel => exact ⟨i + 1, l ++ [(num, x)], s3, by go_num, by omega, by rw [List.length_append, HL.out]; rfl, HO5.out, HR5.out, HG5.out, by rw [List.append_assoc]; exact HE.out⟩
    · obtain rfl : i = n := by omega
      have hlt' : ¬ (i : Int) < (i : Int) := by omega
      obtain ⟨A3, c3, rfl⟩ := HO.out.shape
      have HEE := hide (show RES = (l, s') by have := HE.out; rw [Nat.sub_self] at this; simpa [Msg.blobsN] using this)
      go_wp2_with fail
      go_ret
      refine ⟨_, rfl, ?_⟩
      rw [HEE.out]
      exact ⟨HO.out, HR.out, HG.out⟩
end Go.Proofs.YtfinfkodjkfibaaDoor

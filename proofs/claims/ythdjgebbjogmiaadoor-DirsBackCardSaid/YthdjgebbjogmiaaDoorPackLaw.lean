/- Directories as bytes, as plain laws: what is packed is read as it was; what is read is what would be packed. No program in sight but for the words. -/
import Derived.Test.YthdjgebbjogmiaaDoorJoin13
import Derived.Test.YthdjgebbjogmiaaDoorJoin4
import Derived.Test.YthdjgebbjogmiaaDoorJoin14
import Derived.Test.YthdjgebbjogmiaaDoorJoin11
import Derived.Test.YthdjgebbjogmiaaDoorJoin16
set_option linter.unusedVariables false
set_option linter.unusedSimpArgs false
namespace Go.Proofs.YthdjgebbjogmiaaDoor
open Go Go.RowKit
set_option linter.unusedVariables false
/-- All rows. -/
def dRowsN : Nat → List Int → Option (List (List Int))
 | _, [] => some []
 | 0, _ :: _ => none
 | n + 1, c :: cs => (takeF (c :: cs)).bind fun p => (dRowsN n p.2).map (p.1 :: ·)
def dRows (b : List Int) : Option (List (List Int)) := dRowsN b.length b
theorem d_netsF_cons (x : List Int) (l : List (List Int)) : netsF (x :: l) = netF x ++ netsF l := by simp [netsF]
theorem d_netF_pos (x : List Int) : 0 < (netF x).length := netF_pos x
theorem dRowsN_sound : ∀ (n : Nat) (b : List Int) (l : List (List Int)), dRowsN n b = some l → b = netsF l ∧ ∀ x ∈ l, x.length ≤ 16384
 | n, [], l, h => by
  cases n <;> (injection h with h; subst h; exact ⟨rfl, fun x hx => by cases hx⟩)
 | 0, c :: cs, l, h => by cases h
 | n + 1, c :: cs, l, h => by
  rw [dRowsN] at h
  rcases ht : takeF (c :: cs) with _ | ⟨x, r⟩
  · rw [ht] at h; cases h
  rw [ht] at h
  simp only [Option.bind_some] at h
  rcases hr : dRowsN n r with _ | l'
  · rw [hr] at h; cases h
  rw [hr] at h
  injection h with h
  subst h
  obtain ⟨e1, e2⟩ := take_sound _ _ _ ht
  obtain ⟨i1, i2⟩ := dRowsN_sound n r l' hr
  refine ⟨by rw [d_netsF_cons, e1, ← i1], fun y hy => ?_⟩
  rcases List.mem_cons.1 hy with rfl | hy
  · exact e2
  · exact i2 y hy
theorem dRowsN_nets : ∀ (l : List (List Int)) (n : Nat), (∀ x ∈ l, x.length ≤ 16384) → (netsF l).length ≤ n → dRowsN n (netsF l) = some l
 | [], n, _, _ => by cases n <;> rfl
 | x :: l, n, h, hn => by
  have hp := d_netF_pos x
  rw [d_netsF_cons, List.length_append] at hn
  obtain ⟨n, rfl⟩ : ∃ k, n = k + 1 := ⟨n - 1, by omega⟩
  have ht := take_net x (netsF l) (h x List.mem_cons_self)
  have ih := dRowsN_nets l n (fun y hy => h y (List.mem_cons_of_mem _ hy)) (by omega)
  rw [d_netsF_cons]
  rcases hb : netF x ++ netsF l with _ | ⟨c, cs⟩
  · rw [List.append_eq_nil_iff] at hb; rw [hb.1] at hp; simp at hp
  · rw [dRowsN, ← hb, ht]
    simp only [Option.bind_some, ih, Option.map_some]
theorem dRows_iff (b : List Int) (l : List (List Int)) : dRows b = some l ↔ b = netsF l ∧ ∀ x ∈ l, x.length ≤ 16384 :=
 ⟨dRowsN_sound _ b l, fun ⟨h1, h2⟩ => by unfold dRows; rw [h1]; exact dRowsN_nets l _ h2 (Nat.le_refl _)⟩
theorem dRows_take {b x r : List Int} (h : takeF b = some (x, r)) : dRows b = (dRows r).map (x :: ·) := by
 obtain ⟨e1, e2⟩ := take_sound _ _ _ h
 rcases hr : dRows r with _ | l
 · rcases hb : dRows b with _ | m
   · rfl
   · obtain ⟨g1, g2⟩ := (dRows_iff b m).1 hb
     cases m with
     | nil =>
      rw [e1] at g1
      have := congrArg List.length g1
      have hp := d_netF_pos x
      have h0 : (netsF []).length = 0 := rfl
      rw [List.length_append, h0] at this
      omega
     | cons y m =>
      have ht := take_net y (netsF m) (g2 y List.mem_cons_self)
      rw [d_netsF_cons] at g1
      rw [← g1, h] at ht
      injection ht with ht
      injection ht with ht1 ht2
      have := (dRows_iff r m).2 ⟨ht2, fun z hz => g2 z (List.mem_cons_of_mem _ hz)⟩
      rw [hr] at this
      cases this
 · obtain ⟨g1, g2⟩ := (dRows_iff r l).1 hr
   refine (dRows_iff b (x :: l)).2 ⟨by rw [d_netsF_cons, e1, g1], fun y hy => ?_⟩
   rcases List.mem_cons.1 hy with rfl | hy
   · exact e2
   · exact g2 y hy
theorem dRows_none {b : List Int} (h : takeF b = none) (h0 : 0 < b.length) : dRows b = none := by
 rcases hb : dRows b with _ | m
 · rfl
 · obtain ⟨g1, g2⟩ := (dRows_iff b m).1 hb
   cases m with
   | nil => rw [g1] at h0; simp [netsF] at h0
   | cons y m =>
    have ht := take_net y (netsF m) (g2 y List.mem_cons_self)
    rw [d_netsF_cons] at g1
    rw [← g1, h] at ht
    cases ht
/-- A capability's text with the key of a name, to and fro. -/
def tChild : ByteArray := { data := #[99, 104, 105, 108, 100] }
def kidF (key nm b : List Int) : List Int := streamF boxTab (ExpandF (shortF (strB tChild) [key, nm])) 0 b
theorem kidF_len (key nm b : List Int) : (kidF key nm b).length = b.length := streamF_len _ _ _ _
theorem kidF_bytes (key nm : List Int) {b : List Int} (hb : Bytes b) : Bytes (kidF key nm b) := streamF_bytes tab_bytes.2 (ExpandF_len (shortF_len _ _) (shortF_bytes _ _)) (ExpandF_bytes (shortF_len _ _) (shortF_bytes _ _)) _ hb
theorem kidF_twice (key nm : List Int) {b : List Int} (hb : Bytes b) : kidF key nm (kidF key nm b) = b := stream_twice tab_bytes.2 (ExpandF_len (shortF_len _ _) (shortF_bytes _ _)) (ExpandF_bytes (shortF_len _ _) (shortF_bytes _ _)) _ hb
/-- An entry's rows; its row; a directory's bytes. -/
def printB (c : CapD) : List Int := if c.Valid then printF c else []
def rowE (key : List Int) (e : EntD) : List (List Int) := [e.name, printB e.read, if e.has then kidF key e.name (printB e.write) else []]
def packF (key : List Int) (l : List EntD) : List Int := netsF (l.map fun e => netsF (rowE key e))
/-- The entry of a row. -/
def entOf (wr : Bool) (key row : List Int) : Option EntD := (takesF 3 row).bind fun l =>
 (parseF (l.getD 1 [])).bind fun r =>
  if wr && decide (0 < (l.getD 2 []).length) then (parseF (kidF key (l.getD 0 []) (l.getD 2 []))).map fun x => ⟨l.getD 0 [], r, x, true⟩ else some ⟨l.getD 0 [], r, CapD.none_, false⟩
def allE (wr : Bool) (key : List Int) : List (List Int) → Option (List EntD)
 | [] => some []
 | x :: l => (entOf wr key x).bind fun e => (allE wr key l).map (e :: ·)
def unpF (wr : Bool) (key b : List Int) : Option (List EntD) := (dRows b).bind (allE wr key)
def unpackF (wr : Bool) (key b : List Int) : Option (List EntD) := (unpF wr key b).bind fun l => if rightB l then some l else none
theorem unp_nil (wr : Bool) (key : List Int) : unpF wr key [] = some [] := rfl
theorem unp_take (wr : Bool) (key : List Int) {b x r : List Int} (h : takeF b = some (x, r)) : unpF wr key b = (entOf wr key x).bind fun e => (unpF wr key r).map (e :: ·) := by
 unfold unpF
 rw [dRows_take h]
 cases dRows r with
 | none => cases entOf wr key x <;> rfl
 | some l => rfl
theorem unp_none (wr : Bool) (key : List Int) {b : List Int} (h : takeF b = none) (h0 : 0 < b.length) : unpF wr key b = none := by
 unfold unpF
 rw [dRows_none h h0]
 rfl
theorem netF_mem {x : List Int} {c : Int} (h : c ∈ x) : c ∈ netF x := by unfold netF; simp [h]
theorem netsF_parts : ∀ (l : List (List Int)), Bytes (netsF l) → ∀ x ∈ l, Bytes x
 | [], _, x, hx => by cases hx
 | y :: l, h, x, hx => by
  rw [d_netsF_cons] at h
  rcases List.mem_cons.1 hx with rfl | hx
  · exact fun c hc => h c (List.mem_append_left _ (netF_mem hc))
  · exact netsF_parts l (fun c hc => h c (List.mem_append_right _ hc)) x hx
theorem three_ {l : List (List Int)} (h : l.length = 3) : ∃ a b c, l = [a, b, c] := by
 match l, h with
 | [a, b, c], _ => exact ⟨a, b, c, rfl⟩
/-- What is read of a row is what would be written; names are bytes, capabilities right. -/
theorem ent_sound {wr : Bool} {key row : List Int} {e : EntD} (hb : Bytes row) (h : entOf wr key row = some e) : e.Wf ∧ (wr = true → row = netsF (rowE key e)) ∧ (wr = false → e.has = false) := by
 unfold entOf at h
 obtain ⟨l, hl, h⟩ := Option.bind_eq_some_iff.1 h
 obtain ⟨e1, e2⟩ := takes_sound _ _ _ hl
 obtain ⟨a, b, d, rfl⟩ := three_ e2
 rw [e1] at hb
 have hbs := netsF_parts _ hb
 have hba := hbs a (by simp)
 have hbd := hbs d (by simp)
 obtain ⟨r, hr, h⟩ := Option.bind_eq_some_iff.1 h
 have hr' : parseF b = some r := hr
 obtain ⟨r1, r2, r3⟩ := (parse_iff _ _).1 hr'
 have hp : printB r = b := by unfold printB; rw [if_pos r2]; exact r3
 replace h : (if (wr && decide (0 < d.length)) = true then (parseF (kidF key a d)).map (fun x => (⟨a, r, x, true⟩ : EntD)) else some ⟨a, r, CapD.none_, false⟩) = some e := h
 by_cases hw : (wr && decide (0 < d.length)) = true
 · rw [if_pos hw] at h
   obtain ⟨x, hx, h⟩ := Option.map_eq_some_iff.1 h
   subst h
   obtain ⟨x1, x2, x3⟩ := (parse_iff _ _).1 hx
   have hpx : printB x = kidF key a d := by unfold printB; rw [if_pos x2]; exact x3
   have hwr : wr = true := by cases wr <;> simp_all
   refine ⟨⟨hba, r1, x1⟩, fun _ => ?_, fun h => ?_⟩
   · rw [e1]
     show netsF [a, b, d] = netsF [a, printB r, kidF key a (printB x)]
     rw [hp, hpx, kidF_twice key a hbd]
   · rw [hwr] at h; cases h
 · rw [if_neg hw] at h
   injection h with h
   subst h
   refine ⟨⟨hba, r1, CapD.none_wf⟩, fun hwr => ?_, fun _ => rfl⟩
   have hd : d = [] := by
    subst hwr
    cases d with
    | nil => rfl
    | cons c cs => exact absurd rfl hw
   rw [e1, hd]
   show netsF [a, b, []] = netsF [a, printB r, []]
   rw [hp]
theorem all_sound {wr : Bool} {key : List Int} : ∀ (rows : List (List Int)) (l : List EntD), (∀ x ∈ rows, Bytes x) → allE wr key rows = some l → (∀ e ∈ l, e.Wf) ∧ (wr = true → rows = l.map fun e => netsF (rowE key e)) ∧ (wr = false → ∀ e ∈ l, e.has = false)
 | [], l, _, h => by
  injection h with h
  subst h
  exact ⟨(fun e he => by cases he), (fun _ => rfl), (fun _ e he => by cases he)⟩
 | x :: rows, l, hb, h => by
  unfold allE at h
  obtain ⟨e, he, h⟩ := Option.bind_eq_some_iff.1 h
  obtain ⟨m, hm, rfl⟩ := Option.map_eq_some_iff.1 h
  obtain ⟨g1, g2, g3⟩ := ent_sound (hb x List.mem_cons_self) he
  obtain ⟨i1, i2, i3⟩ := all_sound rows m (fun y hy => hb y (List.mem_cons_of_mem _ hy)) hm
  refine ⟨fun y hy => ?_, fun hw => by rw [List.map_cons, ← g2 hw, ← i2 hw], fun hw y hy => ?_⟩
  · rcases List.mem_cons.1 hy with rfl | hy
    · exact g1
    · exact i1 y hy
  · rcases List.mem_cons.1 hy with rfl | hy
    · exact g3 hw
    · exact i3 hw y hy
/-- What is read of bytes would be written so. -/
theorem unp_sound {wr : Bool} {key b : List Int} {l : List EntD} (hb : Bytes b) (h : unpF wr key b = some l) : (∀ e ∈ l, e.Wf) ∧ (wr = true → packF key l = b) ∧ (wr = false → ∀ e ∈ l, e.has = false) := by
 unfold unpF at h
 obtain ⟨rows, hr, h⟩ := Option.bind_eq_some_iff.1 h
 obtain ⟨e1, e2⟩ := (dRows_iff _ _).1 hr
 rw [e1] at hb
 obtain ⟨g1, g2, g3⟩ := all_sound rows l (netsF_parts _ hb) h
 exact ⟨g1, fun hw => by unfold packF; rw [← g2 hw, e1], g3⟩
/-- How long the printed text of a capability is. -/
theorem d_printF_len {c : CapD} (hw : c.Wf) (hv : c.Valid) : 0 < (printF c).length ∧ (printF c).length ≤ 300 := by
 have hwl : (wordL c.kind.toNat).length ≤ 11 := by
  have h : c.kind.toNat < 10 := by unfold CapD.Valid at hv; omega
  have : ∀ k : Fin 10, (wordL k.val).length ≤ 11 := by decide
  exact this ⟨_, h⟩
 have h1 := b32F_len c.key
 have h2 := b32F_len c.fp
 have h3 := b32F_len c.lit
 have h4 := hw.keyL
 have h5 := hw.fpL
 unfold printF
 constructor
 · simp
 · by_cases k3 : c.kind = 3
   · rw [if_pos k3]
     have hl : c.lit.length ≤ 64 := by unfold CapD.Valid at hv; omega
     simp only [List.length_append, List.length_cons, List.length_nil]
     omega
   · rw [if_neg k3]
     by_cases k2 : c.kind ≤ 2
     · rw [if_pos k2]
       have hb : c.K.toNat < 10 ^ 4 ∧ c.N.toNat < 10 ^ 4 ∧ c.S.toNat < 10 ^ 4 := by unfold CapD.Valid at hv; omega
       have d1 := digB_short 3 _ hb.1
       have d2 := digB_short 3 _ hb.2.1
       have d3 := digB_short 3 _ hb.2.2
       simp only [List.length_append, List.length_cons, List.length_nil]
       omega
     · rw [if_neg k2]
       simp only [List.length_append, List.length_cons, List.length_nil]
       omega
theorem printB_len {c : CapD} (hw : c.Wf) : (printB c).length ≤ 300 := by
 unfold printB
 split
 · rename_i hv; exact (d_printF_len hw hv).2
 · simp
theorem printB_bytes (c : CapD) : Bytes (printB c) := by
 unfold printB
 split
 · rename_i hv; exact printF_bytes hv
 · exact fun x hx => by cases hx
theorem printS_eq (c : CapD) : printS c = strOfNums (printB c) := by
 unfold printS printB
 split <;> rfl
theorem digB_few (n : Nat) (h : n < 10000) : (digB n).length ≤ 4 := by have := digB_short 3 n h; omega
theorem netF_few {x : List Int} (h : x.length ≤ 9999) : (netF x).length ≤ x.length + 6 := by
 have := digB_few x.length (by omega)
 simp only [netF, List.length_append, List.length_singleton]
 omega
theorem rowE_len (key : List Int) {e : EntD} (hw : e.Wf) (hn : e.name.length ≤ 64) : (∀ x ∈ rowE key e, x.length ≤ 300) ∧ (netsF (rowE key e)).length ≤ 682 := by
 have h1 := printB_len hw.rWf
 have h2 := printB_len hw.wWf
 have h3 : (if e.has = true then kidF key e.name (printB e.write) else []).length ≤ 300 := by
  split
  · rw [kidF_len]; exact h2
  · simp
 refine ⟨fun x hx => ?_, ?_⟩
 · simp only [rowE, List.mem_cons, List.not_mem_nil, or_false] at hx
   rcases hx with rfl | rfl | rfl
   · omega
   · exact h1
   · exact h3
 · have g1 := netF_few (x := e.name) (by omega)
   have g2 := netF_few (x := printB e.read) (by omega)
   have g3 := netF_few (x := if e.has = true then kidF key e.name (printB e.write) else []) (by omega)
   show (netsF [e.name, printB e.read, _]).length ≤ _
   rw [d_netsF_cons, d_netsF_cons, d_netsF_cons]
   simp only [List.length_append]
   have : (netsF []).length = 0 := rfl
   omega
theorem packF_snoc (key : List Int) (l : List EntD) (e : EntD) : packF key (l ++ [e]) = packF key l ++ netF (netsF (rowE key e)) := by simp [packF, netsF]
theorem packF_cons (key : List Int) (e : EntD) (l : List EntD) : packF key (e :: l) = netF (netsF (rowE key e)) ++ packF key l := by simp [packF, netsF]
theorem packF_len (key : List Int) : ∀ (l : List EntD), (∀ e ∈ l, e.Wf ∧ e.name.length ≤ 64) → (packF key l).length ≤ 688 * l.length
 | [], _ => by simp [packF, netsF]
 | e :: l, h => by
  have h1 := packF_len key l (fun x hx => h x (List.mem_cons_of_mem _ hx))
  have h2 := rowE_len key (h e List.mem_cons_self).1 (h e List.mem_cons_self).2
  have h3 := netF_few (x := netsF (rowE key e)) (by omega)
  rw [packF_cons, List.length_append, List.length_cons]
  omega
/-- What is written of an entry that may be is read as it was. -/
theorem ent_back (key : List Int) {e : EntD} (hw : e.Wf) (h1 : oneB e = true) : entOf true key (netsF (rowE key e)) = some e := by
 obtain ⟨hn, hv, hwr, hh, hno⟩ := (oneB_iff e).1 h1
 have hl := rowE_len key hw hn.2
 have ht := takes_nets (rowE key e) (fun x hx => by have := hl.1 x hx; omega)
 unfold entOf
 have e3 : (rowE key e).length = 3 := rfl
 rw [e3] at ht
 rw [ht, Option.bind_some]
 have hr : parseF ((rowE key e).getD 1 []) = some e.read := (parse_iff _ _).2 ⟨hw.rWf, hv, by show printF e.read = printB e.read; unfold printB; rw [if_pos hv]⟩
 rw [hr, Option.bind_some]
 show (if (true && decide (0 < (if e.has = true then kidF key e.name (printB e.write) else []).length)) = true then (parseF (kidF key e.name (if e.has = true then kidF key e.name (printB e.write) else []))).map (fun x => (⟨e.name, e.read, x, true⟩ : EntD)) else some ⟨e.name, e.read, CapD.none_, false⟩) = some e
 obtain ⟨nm, rd, wt, has⟩ := e
 cases has
 · simp only [Bool.false_eq_true, if_false]
   have : wt = CapD.none_ := hno rfl
   subst this
   rfl
 · have hvw := valid_of_write (hh rfl).1
   have hp := d_printF_len hw.wWf hvw
   simp only [if_true]
   have hpb : printB wt = printF wt := by unfold printB; rw [if_pos hvw]
   rw [if_pos (by rw [kidF_len, hpb]; simpa using hp.1), hpb, kidF_twice key nm (printF_bytes hvw)]
   rw [(parse_iff (printF wt) wt).2 ⟨hw.wWf, hvw, rfl⟩]
   rfl
/-- By who may only read: without the capability that may write. -/
def maskE (e : EntD) : EntD := ⟨e.name, e.read, CapD.none_, false⟩
theorem ent_mask (key key' : List Int) {e : EntD} (hw : e.Wf) (h1 : oneB e = true) : entOf false key' (netsF (rowE key e)) = some (maskE e) := by
 obtain ⟨hn, hv, hwr, hh, hno⟩ := (oneB_iff e).1 h1
 have hl := rowE_len key hw hn.2
 have ht := takes_nets (rowE key e) (fun x hx => by have := hl.1 x hx; omega)
 unfold entOf
 have e3 : (rowE key e).length = 3 := rfl
 rw [e3] at ht
 rw [ht, Option.bind_some]
 have hr : parseF ((rowE key e).getD 1 []) = some e.read := (parse_iff _ _).2 ⟨hw.rWf, hv, by show printF e.read = printB e.read; unfold printB; rw [if_pos hv]⟩
 rw [hr, Option.bind_some]
 rfl
theorem all_back (key : List Int) : ∀ (l : List EntD), (∀ e ∈ l, e.Wf ∧ oneB e = true) → allE true key (l.map fun e => netsF (rowE key e)) = some l
 | [], _ => rfl
 | e :: l, h => by
  have := h e List.mem_cons_self
  rw [List.map_cons, allE, ent_back key this.1 this.2, all_back key l (fun x hx => h x (List.mem_cons_of_mem _ hx))]
  rfl
theorem all_mask (key key' : List Int) : ∀ (l : List EntD), (∀ e ∈ l, e.Wf ∧ oneB e = true) → allE false key' (l.map fun e => netsF (rowE key e)) = some (l.map maskE)
 | [], _ => rfl
 | e :: l, h => by
  have := h e List.mem_cons_self
  rw [List.map_cons, allE, ent_mask key key' this.1 this.2, all_mask key key' l (fun x hx => h x (List.mem_cons_of_mem _ hx))]
  rfl
theorem pack_rows (key : List Int) {l : List EntD} (h : ∀ e ∈ l, e.Wf ∧ oneB e = true) : dRows (packF key l) = some (l.map fun e => netsF (rowE key e)) :=
 (dRows_iff _ _).2 ⟨rfl, fun x hx => by
  obtain ⟨e, he, rfl⟩ := List.mem_map.1 hx
  have := rowE_len key (h e he).1 ((oneB_iff e).1 (h e he).2).1.2
  omega⟩
/-- What is packed is read as it was. -/
theorem unpack_pack (key : List Int) {l : List EntD} (hw : ∀ e ∈ l, e.Wf) (hr : rightB l = true) : unpackF true key (packF key l) = some l := by
 have h : ∀ e ∈ l, e.Wf ∧ oneB e = true := fun e he => ⟨hw e he, ((rightB_iff l).1 hr).1 e he⟩
 unfold unpackF unpF
 rw [pack_rows key h, Option.bind_some, all_back key l h, Option.bind_some, if_pos hr]
theorem right_mask {l : List EntD} (hr : rightB l = true) : rightB (l.map maskE) = true := by
 obtain ⟨h1, h2, h3⟩ := (rightB_iff l).1 hr
 refine (rightB_iff _).2 ⟨fun x hx => ?_, ?_, by rw [List.length_map]; exact h3⟩
 · obtain ⟨e, he, rfl⟩ := List.mem_map.1 hx
   obtain ⟨hn, hv, hwr, _, _⟩ := (oneB_iff e).1 (h1 e he)
   exact (oneB_iff _).2 ⟨hn, hv, hwr, (fun h => by cases h), (fun _ => rfl)⟩
 · unfold Rise at h2 ⊢
   rw [List.pairwise_map]
   exact h2
theorem unpack_mask (key key' : List Int) {l : List EntD} (hw : ∀ e ∈ l, e.Wf) (hr : rightB l = true) : unpackF false key' (packF key l) = some (l.map maskE) := by
 have h : ∀ e ∈ l, e.Wf ∧ oneB e = true := fun e he => ⟨hw e he, ((rightB_iff l).1 hr).1 e he⟩
 unfold unpackF unpF
 rw [pack_rows key h, Option.bind_some, all_mask key key' l h, Option.bind_some, if_pos (right_mask hr)]
end Go.Proofs.YthdjgebbjogmiaaDoor

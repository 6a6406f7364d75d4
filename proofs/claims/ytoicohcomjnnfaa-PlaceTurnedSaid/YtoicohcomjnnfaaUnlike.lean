/- The reference's unlike and Loses: what each computes. No condition. -/
import Derived.Test.YtoicohcomjnnfaaSmall
namespace Go.Proofs.Ytoicohcomjnnfaa
open Go Go.RowKit

/-- How many unlike shares there are, but on some servers: as the reference counts. -/
def unSome (gone : List Int) (s : Int) (p : List Int × Nat) : Bool := !decide ((p.2 : Int) ∈ gone) && decide (s ∈ p.1)
def unAny (gone : List Int) (l : List (List Int × Nat)) (s : Int) : Bool := l.foldl (fun b p => b || unSome gone s p) false
def unCount (gone : List Int) (l : List (List Int)) (n : Nat) : Nat := (List.range n).foldl (fun (c : Nat) (s : Nat) => if unAny gone l.zipIdx (s : Int) then c + 1 else c) 0
theorem unCount_succ (gone : List Int) (l : List (List Int)) (n : Nat) : unCount gone l (n + 1) = if unAny gone l.zipIdx (n : Int) then unCount gone l n + 1 else unCount gone l n := by
  unfold unCount
  rw [List.range_succ, List.foldl_append]
  rfl
theorem unCount_le (gone : List Int) (l : List (List Int)) (n : Nat) : unCount gone l n ≤ n := by
  induction n with
  | zero => exact Nat.le_refl _
  | succ n ih => rw [unCount_succ]; split <;> omega

set_option maxHeartbeats 2000000 in
theorem unlike_any (v vg : Value) (l : List (List Int)) (gone : List Int) (w : World) (B : Nat) (h : Rows2 w B v l) (hg : Ints w B vg gone) :
    Calls Try.prog 41 #[v, vg] w (fun e w' => e = .returned (.int .i64 (unCount gone l 16)) ∧ w = w') := by
  obtain ⟨A, c, rfl, h1, h2, h3⟩ := h.open_
  unfold maxLen at h2
  have HG := hide hg
  have H3 := hide h3
  clear h h3 hg
  go_enter Try.func41, Try.ntmps41
  go_wp2_with fail
  go_loop [5, 6, 7, 8] (fun vn vs _ _ => ∃ s : Nat, s ≤ 16 ∧ vs = .int .i64 s ∧ vn = .int .i64 (unCount gone l s)) (fun _ vs _ _ => 16 - (intOf vs).toNat)
  case atStart => exact ⟨0, Nat.zero_le _, rfl, rfl⟩
  case round =>
    obtain ⟨s, hs, rfl, rfl⟩ := hrel
    have hcl := unCount_le gone l s
    by_cases hlt : s < 16
    · go_wp2_with fail
      go_loop [7, 8, 15] (fun vb _ vi => ∃ k : Nat, k ≤ l.length ∧ vi = .int .i64 k ∧ vb = .bool (unAny gone (l.zipIdx.take k) s)) (fun _ _ vi => l.length - (intOf vi).toNat)
      case atStart => exact ⟨0, Nat.zero_le _, rfl, rfl⟩
      case round =>
        obtain ⟨k, hk, rfl, rfl⟩ := hrel
        by_cases hkt : k < l.length
        · obtain ⟨b, o, rfl, hbB, hcs⟩ := H3.out (by omega)
          obtain ⟨u, hc, hi0⟩ := hcs k hkt
          have HI := hide hi0
          have hst := hide (foldl_take_succ (fun b p => b || unSome gone s p) false l.zipIdx k (by simpa using hkt))
          clear hcs hi0
          rcases hb0 : unAny gone (l.zipIdx.take k) s with _ | _
          · have HB0 := hide hb0
            clear hb0
            go_wp2_with fail
            refine (in_any vg gone (k : Int) w B HG.out).mono ?_
            rintro e w' ⟨rfl, rfl⟩
            by_cases hin : (k : Int) ∈ gone
            · have hfin := hide (show unSome gone s (l.zipIdx[k]'(by simpa using hkt)) = false by simp [unSome, hin])
              have hb : decide ((k : Int) ∈ gone) = true := by simpa using hin
              rw [hb]
              clear hb hin
              go_wp2_with fail
              go_round
              case rel => exact ⟨k + 1, by omega, by go_num, by unfold unAny; rw [hst.out, hfin.out]; unfold unAny at HB0; rw [HB0.out]; rfl⟩
              case measure => simp [intOf]; omega
            · have hb : decide ((k : Int) ∈ gone) = false := by simpa using hin
              rw [hb]
              have hfin := hide (show unSome gone s (l.zipIdx[k]'(by simpa using hkt)) = decide ((s : Int) ∈ l[k]) by simp [unSome, hin])
              clear hb hin
              go_wp2_with fail
              refine (in_any u l[k] (s : Int) w B HI.out).mono ?_
              rintro e w' ⟨rfl, rfl⟩
              go_wp2_with fail
              go_round
              case rel => exact ⟨k + 1, by omega, by go_num, by unfold unAny; rw [hst.out, hfin.out]; unfold unAny at HB0; rw [HB0.out]; rfl⟩
              case measure => simp [intOf]; omega
          · have HB0 := hide hb0
            clear hb0
            go_wp2_with fail
            go_round
            case rel => exact ⟨k + 1, by omega, by go_num, by unfold unAny; rw [hst.out]; unfold unAny at HB0; rw [HB0.out]; rfl⟩
            case measure => simp [intOf]; omega
        · have e : l.zipIdx.take k = l.zipIdx := List.take_of_length_le (by simp; omega)
          rw [e]
          have hs' := hide (unCount_succ gone l s)
          rcases hb0 : unAny gone l.zipIdx s with _ | _
          all_goals
            have HB0 := hide hb0
            clear hb0 e
            go_wp2_with fail
            go_round
            case rel => exact ⟨s + 1, by omega, by go_num, by rw [hs'.out, HB0.out]; simp⟩
            case measure => simp [intOf]; omega
    · go_wp2_with fail
      go_ret
      have : s = 16 := by omega
      subst this
      exact ⟨rfl, rfl⟩

def ulB (gone : List Int) (l : List (List Int)) (k : Int) : Bool := decide ((unCount gone l 16 : Int) < k)

set_option maxHeartbeats 400000 in
theorem refLoses_any (v vg : Value) (l : List (List Int)) (gone : List Int) (kk : Int) (w : World) (B : Nat) (h : Rows2 w B v l) (hg : Ints w B vg gone) :
    Calls Try.prog 17 #[v, .int .i64 kk, vg] w (fun e w' => e = .returned (.bool (ulB gone l kk)) ∧ w = w') := by
  have h' := hide (unlike_any v vg l gone w B h hg)
  clear h hg
  go_enter Try.func17, Try.ntmps17
  go_wp2_with fail
  refine h'.out.mono ?_
  rintro e w' ⟨rfl, rfl⟩
  go_wp2_with fail
  go_ret
  exact ⟨rfl, rfl⟩
end Go.Proofs.Ytoicohcomjnnfaa

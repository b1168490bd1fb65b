/- The limits of a term: limitedTerm of the program, l26Made of the reference. -/
import Derived.Test.YthofkdpmgjkgkaaGreatTmIs2
namespace Go.Proofs.YthofkdpmgjkgkaaGreat
open Go.RowKit

def bigT (_k n : Int) (_s : ByteArray) : Bool := decide (99 < n)
/-- A term that has not too many nodes and no great number. -/
noncomputable def limT (xs : List Tn) : List Tn × Int := if decide (60 < xs.length) || anyT bigT xs then ([], 3) else (xs, 0)
theorem limT_len {xs : List Tn} : (limT xs).1.length ≤ 60 := by
  unfold limT
  split
  · simp
  · rename_i h
    simp only [Bool.or_eq_true, decide_eq_true_eq, not_or] at h
    simp; omega
theorem limitedTerm1_ok : PredT 94 bigT := by
  intro a b s w hs
  unfold bigT
  go_enter Tryz.func94, Tryz.ntmps94
  go_wp2_with fail
  go_ret
  exact ⟨rfl, (Grew.refl w).alloc _⟩
/-- The call gives the term, or nothing and a code. -/
def LimG (w : World) (B : Nat) (xs : List Tn) (e : Ending) (w' : World) : Prop := ∃ u, e = .returned (.tuple #[u, .int .i64 (limT xs).2]) ∧ OwnT w' B u (limT xs).1 ∧ Grew w w'
theorem limitedTerm_c (v : Value) (xs : List Tn) (w : World) (B : Nat) (h : OwnT w B v xs) (hfit : FitsT xs) (hn : xs.length ≤ 1048576) :
    Calls Tryz.prog 54 #[v] w (LimG w B xs) := by
  unfold LimG limT
  have HC := fun w h => containsFuncT_c v xs _ _ w h hfit limitedTerm1_ok (enters_of Tryz.func94 (by kernel_rfl) rfl)
  obtain ⟨A, c, rfl⟩ := tms_slice h.tms
  have HO := Lib.hid h
  have HN := Lib.hid h.tms
  clear h hfit
  by_cases hl : 60 < xs.length
  · rw [decide_eq_true hl, Bool.true_or, if_pos rfl]
    clear HC HO HN
    generalize xs.length = n at *
    go_enter Tryz.func54, Tryz.ntmps54
    go_wp2_with fail
    go_ret2
    exact ⟨.slice none 0 0, rfl, OwnT.nil_ _ _, Grew.refl _⟩
  · rw [decide_eq_false hl, Bool.false_or]
    cases hq : anyT bigT xs with
    | true =>
      rw [if_pos rfl]
      rw [hq] at HC
      replace HC := Lib.hid HC
      clear HO hq
      generalize xs.length = n at *
      go_enter Tryz.func54, Tryz.ntmps54
      go_wp2_with fail
      refine (HC.out _ HN.out).mono ?_
      rintro e w1 ⟨rfl, hg1⟩
      go_wp2_with fail
      go_ret2
      exact ⟨.slice none 0 0, rfl, OwnT.nil_ _ _, hg1⟩
    | false =>
      rw [if_neg (by simp)]
      rw [hq] at HC
      replace HC := Lib.hid HC
      clear hq
      generalize xs.length = n at *
      go_enter Tryz.func54, Tryz.ntmps54
      go_wp2_with fail
      refine (HC.out _ HN.out).mono ?_
      rintro e w1 ⟨rfl, hg1⟩
      go_wp2_with fail
      go_ret2
      exact ⟨_, rfl, HO.out.grew hg1, hg1⟩
theorem l26Made_c (v : Value) (xs : List Tn) (w : World) (B : Nat) (h : OwnT w B v xs) (hn : xs.length ≤ 1048576) :
    Calls Tryz.prog 48 #[v] w (LimG w B xs) := by
  unfold LimG limT
  rcases h.tms.open_ with ⟨rfl, rfl⟩ | ⟨b, o, c, rfl, hc, hm, hb, hcell⟩
  · have hq : anyT bigT [] = false := anyT_no (NoneT.zero _ _)
    rw [hq, if_neg (by simp)]
    clear h hq
    go_enter Tryz.func48, Tryz.ntmps48
    go_wp2_with fail
    refine wp_loop_rounds 1 ?_; rw [rounds_succ]
    go_wp2_with fail
    go_ret2
    exact ⟨_, rfl, OwnT.nil_ _ _, Grew.refl _⟩
  have HO := Lib.hid h
  by_cases hl : 60 < xs.length
  · rw [decide_eq_true hl, Bool.true_or, if_pos rfl]
    clear h hcell HO
    generalize xs.length = n at *
    go_enter Tryz.func48, Tryz.ntmps48
    go_wp2_with fail
    go_ret2
    exact ⟨.slice none 0 0, rfl, OwnT.nil_ _ _, Grew.refl _⟩
  · rw [decide_eq_false hl, Bool.false_or]
    obtain ⟨R, hR⟩ : ∃ R, R = anyT bigT xs := ⟨_, rfl⟩
    rw [← hR]
    have HA := Lib.hid (fun k hk h => hR.trans (@anyT_at bigT xs k hk h))
    have HZ := Lib.hid (fun h => hR.trans (@anyT_no bigT xs h))
    have HC := Lib.hid hcell
    clear hcell h hR
    obtain ⟨RR, hRR⟩ : ∃ RR, RR = (if R = true then (([] : List Tn), (3 : Int)) else (xs, 0)) := ⟨_, rfl⟩
    rw [← hRR]
    have HRR := Lib.hid hRR
    clear hRR
    generalize hN : xs.length = n at *
    go_enter Tryz.func48, Tryz.ntmps48
    go_wp2_with fail
    go_loopw [4] (fun i wr => ∃ j : Nat, j ≤ n ∧ i = .int .i64 j ∧ Grew w wr ∧ Hid (NoneT bigT xs j)) (fun i _ => n - (intOf i).toNat)
    case atStart => exact ⟨0, Nat.zero_le _, rfl, Grew.refl _, NoneT.zero _ _⟩
    case round =>
      obtain ⟨j, hj, rfl, hB, HJ⟩ := hrel
      by_cases hlt : j < n
      · have k2 := (HC.out j hlt _ hB).2.1
        have hA := Lib.hid (HA.out j hlt)
        have hS := Lib.hid (fun h => HJ.out.succ (k := j) h)
        unfold bigT at hA hS
        generalize tn xs j = y at *
        by_cases hbig : 99 < y
        · have hv : Hid (RR = ([], 3)) := Lib.hid (by rw [HRR.out, hA.out (by simpa using hbig)]; rfl)
          go_wp2_with fail
          go_ret2
          rw [hv.out]
          exact ⟨.slice none 0 0, rfl, OwnT.nil_ _ _, hB⟩
        · have hs := Lib.hid (hS.out (by simpa using hbig))
          go_wp2_with fail
          go_roundw
          case rel => exact ⟨j + 1, by omega, by go_num, hB, hs⟩
          case measure => simp [intOf]; omega
      · obtain rfl : j = n := by omega
        have hv : Hid (RR = (xs, 0)) := Lib.hid (by rw [HRR.out, HZ.out HJ.out]; rfl)
        go_wp2_with fail
        go_ret2
        rw [hv.out]
        exact ⟨_, rfl, HO.out.grew hB, hB⟩
end Go.Proofs.YthofkdpmgjkgkaaGreat

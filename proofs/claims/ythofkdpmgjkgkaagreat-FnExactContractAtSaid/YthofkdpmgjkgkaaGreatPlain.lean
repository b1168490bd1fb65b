/- isPlain of the program, l02Plain of the reference. -/
import Derived.Test.YthofkdpmgjkgkaaGreatCont
namespace Go.Proofs.YthofkdpmgjkgkaaGreat
open Go.RowKit
open Fm (Nd)

def isBD (a _b : Int) : Bool := a == 5 || a == 6
theorem isModal_c (a : Int) (w : World) : Calls Tryz.prog 160 #[.int .i64 a] w fun e w' => e = .returned (.bool (a == 5 || a == 6)) ∧ Grew w w' := by
  cases h : (a == 5) with
  | true =>
    go_enter Tryz.func160, Tryz.ntmps160
    go_wp2_with fail
    go_ret
    exact ⟨rfl, Grew.refl _⟩
  | false =>
    go_enter Tryz.func160, Tryz.ntmps160
    go_wp2_with fail
    go_ret
    exact ⟨by simp, Grew.refl _⟩
theorem isPlain1_ok : PredOk 159 isBD := by
  intro a b w
  go_enter Tryz.func159, Tryz.ntmps159
  go_wp2_with fail
  refine (isModal_c _ _).mono ?_
  rintro e w1 ⟨rfl, hg1⟩
  go_wp2_with fail
  go_ret
  exact ⟨rfl, Grew.of_alloc hg1⟩
theorem isPlain_c (v : Value) (xs : List Nd) (w : World) (h : Nodes w v xs) (hn : xs.length ≤ 1099511627776) :
    Calls Tryz.prog 132 #[v] w fun e w' => e = .returned (.bool (!anyP isBD xs)) ∧ Grew w w' := by
  have HI := Lib.hid (containsFunc_c v xs _ _ w h hn isPlain1_ok (enters_of Tryz.func159 (by kernel_rfl) rfl))
  clear h
  generalize anyP isBD xs = R at *
  go_enter Tryz.func132, Tryz.ntmps132
  go_wp2_with fail
  refine HI.out.mono ?_
  rintro e w1 ⟨rfl, hg1⟩
  go_wp2_with fail
  go_ret
  exact ⟨rfl, hg1⟩

theorem l02Plain_c (v : Value) (xs : List Nd) (w : World) (h : Nodes w v xs) (hn : xs.length ≤ 1099511627776) :
    Calls Tryz.prog 124 #[v] w fun e w' => e = .returned (.bool (!anyP isBD xs)) ∧ Grew w w' := by
  rcases h.open_ with ⟨rfl, rfl⟩ | ⟨b, o, c, rfl, hc, hm, hb, hcell⟩
  · rw [anyP_no (NoneP.zero _ _)]
    clear h
    go_enter Tryz.func124, Tryz.ntmps124
    go_wp2_with fail
    refine wp_loop_rounds 1 ?_; rw [rounds_succ]
    go_wp2_with fail
    go_ret
    exact ⟨rfl, Grew.refl _⟩
  obtain ⟨R, hR⟩ : ∃ R, R = anyP isBD xs := ⟨_, rfl⟩
  rw [← hR]
  have HA := Lib.hid (fun k hk h => hR.trans (@anyP_at isBD xs k hk h))
  have HZ := Lib.hid (fun h => hR.trans (@anyP_no isBD xs h))
  have HC := Lib.hid hcell
  clear hcell h hR
  generalize hN : xs.length = n at *
  clear hN
  go_enter Tryz.func124, Tryz.ntmps124
  go_wp2_with fail
  go_loopw [3] (fun i wr => ∃ j : Nat, j ≤ n ∧ i = .int .i64 j ∧ Grew w wr ∧ Hid (NoneP isBD xs j)) (fun i _ => n - (intOf i).toNat)
  case atStart => exact ⟨0, Nat.zero_le _, rfl, Grew.refl _, NoneP.zero _ _⟩
  case round =>
    obtain ⟨j, hj, rfl, hB, HJ⟩ := hrel
    by_cases hlt : j < n
    · have k1 := (HC.out j hlt _ hB).1
      have hA := Lib.hid (HA.out j hlt)
      have hS := Lib.hid (fun h => HJ.out.succ (k := j) h)
      generalize kd xs j = x at *
      generalize sy xs j = y at *
      cases h5 : (x == 5) with
      | true =>
        have hv := Lib.hid (hA.out (by simp [isBD, h5]))
        go_wp2_with fail
        go_ret
        rw [hv.out]
        exact ⟨rfl, hB⟩
      | false =>
        cases h6 : (x == 6) with
        | true =>
          have hv := Lib.hid (hA.out (by simp [isBD, h6]))
          go_wp2_with fail
          go_ret
          rw [hv.out]
          exact ⟨rfl, hB⟩
        | false =>
          have hs := Lib.hid (hS.out (by simp [isBD, h5, h6]))
          go_wp2_with fail
          go_roundw
          case rel => exact ⟨j + 1, by omega, by go_num, hB, hs⟩
          case measure => simp [intOf]; omega
    · obtain rfl : j = n := by omega
      have hv := Lib.hid (HZ.out HJ.out)
      go_wp2_with fail
      go_ret
      rw [hv.out]
      exact ⟨rfl, hB⟩
end Go.Proofs.YthofkdpmgjkgkaaGreat

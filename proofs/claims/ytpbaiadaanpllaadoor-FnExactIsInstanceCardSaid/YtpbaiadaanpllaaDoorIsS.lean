/- l02Is of the reference, at any list. -/
import Derived.Test.YtpbaiadaanpllaaDoorIsF
namespace Go.Proofs.YtpbaiadaanpllaaDoor
open Go.RowKit
open Fm (Nd Tree)

theorem nodeB_bad1 {a b : Int} (h : decide (0 ≤ a ∧ a ≤ 6) = false) : nodeB a b = false := by
  unfold nodeB
  have h' := of_decide_eq_false h
  rw [if_neg (by simp; omega), decide_eq_false (by omega)]
  rfl
theorem nodeB_bad2 {a b : Int} (h : decide (0 ≤ b ∧ b ≤ 5) = false) : nodeB a b = false := by
  unfold nodeB
  have h' := of_decide_eq_false h
  split
  · exact h
  · have : (b == 0) = false := by simp; omega
    rw [this, Bool.and_false]
theorem nodeB_bad3 {a b : Int} (h0 : (a != 0) = true) (h1 : (b != 0) = true) : nodeB a b = false := by
  unfold nodeB
  simp at h0 h1
  rw [if_neg (by simpa using h0)]
  simp [h1]
theorem nodeB_ok {a b : Int} (h1 : decide (0 ≤ a ∧ a ≤ 6) = true) (h2 : decide (0 ≤ b ∧ b ≤ 5) = true) (h : (a != 0) = false ∨ (b != 0) = false) : nodeB a b = true := by
  unfold nodeB
  have h1' := of_decide_eq_true h1
  split
  · exact h2
  · rename_i hne
    rcases h with h | h
    · simp at h; simp [h] at hne
    · simp at h
      subst h
      have : a ≠ 0 := by simpa using hne
      simp; omega

theorem l02Tree_c (v : Value) (xs : List Nd) (w : World) (h : Nodes w v xs) (hn : xs.length ≤ 1099511627776) :
    Calls Tryd.prog 37 #[v] w fun e w' => e = .returned (.bool (decide (1 ≤ xs.length) && !anyP noNode xs && (pend xs 0 == (xs.length : Int)))) ∧ Grew w w' := by
  rcases h.open_ with ⟨rfl, rfl⟩ | ⟨b, o, c, rfl, hc, hm, hb, hcell⟩
  · clear h
    go_enter Tryd.func37, Tryd.ntmps37
    go_wp2_with fail
    refine wp_loop_rounds 1 ?_; rw [rounds_succ]
    go_wp2_with fail
    go_ret
    exact ⟨rfl, Grew.refl _⟩
  obtain ⟨R, hR⟩ : ∃ R, R = anyP noNode xs := ⟨_, rfl⟩
  rw [← hR]
  have HA := Lib.hid (fun k hk h => hR.trans (@anyP_at noNode xs k hk h))
  have HZ := Lib.hid (fun h => hR.trans (@anyP_no noNode xs h))
  have HP := Lib.hid (fun W (hW : Grew w W) => l02Part_c _ xs 0 W (h.grew hW) hn (by omega))
  have HC := Lib.hid hcell
  clear hcell h hR
  generalize pend xs 0 = p at *
  generalize hN : xs.length = n at *
  clear hN
  go_enter Tryd.func37, Tryd.ntmps37
  go_wp2_with fail
  go_loopw [3] (fun i wr => ∃ j : Nat, j ≤ n ∧ i = .int .i64 j ∧ Grew w wr ∧ Hid (NoneP noNode xs j)) (fun i _ => n - (intOf i).toNat)
  case atStart => exact ⟨0, Nat.zero_le _, rfl, Grew.refl _, NoneP.zero _ _⟩
  case round =>
    obtain ⟨j, hj, rfl, hB, HJ⟩ := hrel
    by_cases hlt : j < n
    · have k1 : ∀ W, Grew w W → W.cell? ⟨b, o + j * 2, none⟩ = some (.int .i64 (kd xs j)) := fun W hW => (HC.out j hlt W hW).1
      have k2 : ∀ W, Grew w W → W.cell? ⟨b, o + j * 2 + 1, none⟩ = some (.int .i64 (sy xs j)) := fun W hW => (HC.out j hlt W hW).2
      have hA : Hid (nodeB (kd xs j) (sy xs j) = false → R = true) := Lib.hid (fun h => HA.out j hlt (by rw [noNode, h]; rfl))
      have hS : Hid (nodeB (kd xs j) (sy xs j) = true → NoneP noNode xs (j + 1)) := Lib.hid (fun h => HJ.out.succ (k := j) (by rw [noNode, h]; rfl))
      generalize kd xs j = x at *
      generalize sy xs j = y at *
      have I1 := fun w => l01In_c x 0 6 w
      have I2 := fun w => l01In_c y 0 5 w
      have hd : ∀ W, Grew w W → Grew w W.drew := fun W h => h.drew
      cases d1 : decide (0 ≤ x ∧ x ≤ 6) with
      | false =>
        have hv := Lib.hid (hA.out (nodeB_bad1 d1))
        rw [d1] at I1
        replace I1 := Lib.hid I1
        replace I2 := Lib.hid I2
        clear d1
        go_wp2_with fail
        refine (I1.out _).mono ?_
        rintro e w1 ⟨rfl, hg1⟩
        have hB1 := hB.trans hg1
        go_wp2_with fail
        go_ret
        rw [hv.out]
        exact ⟨by simp, hB1⟩
      | true =>
        rw [d1] at I1
        replace I1 := Lib.hid I1
        cases d2 : decide (0 ≤ y ∧ y ≤ 5) with
        | false =>
          have hv := Lib.hid (hA.out (nodeB_bad2 d2))
          rw [d2] at I2
          replace I2 := Lib.hid I2
          clear d1 d2
          go_wp2_with fail
          refine (I1.out _).mono ?_
          rintro e w1 ⟨rfl, hg1⟩
          have hB1 := hB.trans hg1
          go_wp2_with fail
          refine (I2.out _).mono ?_
          rintro e w2 ⟨rfl, hg2⟩
          have hB2 := hB1.trans hg2
          go_wp2_with fail
          go_ret
          rw [hv.out]
          exact ⟨by simp, hB2⟩
        | true =>
          rw [d2] at I2
          replace I2 := Lib.hid I2
          cases d3 : (x != 0) with
          | false =>
            have hs := Lib.hid (hS.out (nodeB_ok d1 d2 (.inl d3)))
            clear d1 d2
            go_wp2_with fail
            refine (I1.out _).mono ?_
            rintro e w1 ⟨rfl, hg1⟩
            have hB1 := hB.trans hg1
            go_wp2_with fail
            refine (I2.out _).mono ?_
            rintro e w2 ⟨rfl, hg2⟩
            have hB2 := hB1.trans hg2
            go_wp2_with fail
            go_roundw
            case rel => exact ⟨j + 1, by omega, by go_num, hB2, hs⟩
            case measure => simp [intOf]; omega
          | true =>
            cases d4 : (y != 0) with
            | true =>
              have hv := Lib.hid (hA.out (nodeB_bad3 d3 d4))
              clear d1 d2
              go_wp2_with fail
              refine (I1.out _).mono ?_
              rintro e w1 ⟨rfl, hg1⟩
              have hB1 := hB.trans hg1
              go_wp2_with fail
              refine (I2.out _).mono ?_
              rintro e w2 ⟨rfl, hg2⟩
              have hB2 := hB1.trans hg2
              go_wp2_with fail
              go_ret
              rw [hv.out]
              exact ⟨by simp, hB2⟩
            | false =>
              have hs := Lib.hid (hS.out (nodeB_ok d1 d2 (.inr d4)))
              clear d1 d2
              go_wp2_with fail
              refine (I1.out _).mono ?_
              rintro e w1 ⟨rfl, hg1⟩
              have hB1 := hB.trans hg1
              go_wp2_with fail
              refine (I2.out _).mono ?_
              rintro e w2 ⟨rfl, hg2⟩
              have hB2 := hB1.trans hg2
              go_wp2_with fail
              go_roundw
              case rel => exact ⟨j + 1, by omega, by go_num, hB2, hs⟩
              case measure => simp [intOf]; omega
    · obtain rfl : j = n := by omega
      have hv := Lib.hid (HZ.out HJ.out)
      by_cases hz : 0 < j
      · have hz1 : decide (1 ≤ j) = true := by simp; omega
        go_wp2_with fail
        refine (HP.out _ hB).mono ?_
        rintro e w1 ⟨rfl, hg1⟩
        go_wp2_with fail
        go_ret
        rw [hv.out]
        exact ⟨by rw [hz1]; simp, hB.trans hg1⟩
      · have hz1 : decide (1 ≤ j) = false := by simp; omega
        go_wp2_with fail
        go_ret
        rw [hv.out, hz1]
        exact ⟨by simp, hB⟩

theorem l02Is_c (v : Value) (xs : List Nd) (w : World) (h : Nodes w v xs) (hn : xs.length ≤ 1099511627776) :
    Calls Tryd.prog 27 #[v] w fun e w' => e = .returned (.bool (fmB xs)) ∧ Grew w w' := by
  have HT := fun W (hW : Grew w W) => l02Tree_c v xs W (h.grew hW) hn
  obtain ⟨A, c, rfl⟩ := nodes_slice h
  clear h
  unfold fmB
  generalize pend xs 0 = p at *
  generalize anyP noNode xs = q at *
  generalize hL : xs.length = n at *
  clear hL
  by_cases h2 : n ≤ 40
  · rw [show decide (1 ≤ n ∧ n ≤ 40) = decide (1 ≤ n) from by simp [h2]]
    generalize (decide (1 ≤ n) && !q && (p == (n : Int))) = r at *
    replace HT := Lib.hid HT
    go_enter Tryd.func27, Tryd.ntmps27
    go_wp2_with fail
    refine (HT.out _ (Grew.refl _)).mono ?_
    rintro e w1 ⟨rfl, hg1⟩
    go_wp2_with fail
    go_ret
    exact ⟨rfl, hg1⟩
  · rw [show decide (1 ≤ n ∧ n ≤ 40) = false from by simp [h2], Bool.false_and, Bool.false_and]
    replace HT := Lib.hid HT
    go_enter Tryd.func27, Tryd.ntmps27
    go_wp2_with fail
    go_ret
    exact ⟨rfl, Grew.refl _⟩
end Go.Proofs.YtpbaiadaanpllaaDoor

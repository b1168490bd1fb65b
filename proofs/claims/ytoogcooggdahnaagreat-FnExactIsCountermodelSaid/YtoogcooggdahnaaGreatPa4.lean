/- Texts in one file: MbZ MbU Km IntArg IntLaw IntEq PoL LawKm Args0 Args ArgsI. -/
import Derived.Deep.Strs
import Derived.Lib.SmallJoins
import Derived.Carry
import Derived.ProofKit
import Derived.Deep.SlicePairs
import Derived.Test.YtoogcooggdahnaaGreatPa1
import Derived.Test.YtoogcooggdahnaaGreatPa2
import Derived.Test.YtoogcooggdahnaaGreatPa3
set_option linter.all false

/- l05Flag of the reference: reflexive, transitive, antisymmetric. -/
namespace Go.Proofs.YtoogcooggdahnaaGreat
open Go.RowKit
set_option maxHeartbeats 4000000 in
set_option maxRecDepth 100000 in
theorem l05Flag0_c (v : Value) (A : List Nat) (w : World) (h : Ints w v (zs A)) (hA : Rl A) :
    Calls Tryz.prog 44 #[.agg #[.int .i64 (A.length : Int), v], .int .i64 0] w fun e w' => e = .returned (.bool (reflB A)) ∧ Grew w w' := by
  obtain ⟨R, hR⟩ : ∃ R, R = reflB A := ⟨_, rfl⟩
  rw [← hR]
  unfold reflB at hR
  have HA := Lib.hid (fun k hk h => hR.trans (@allB_no A.length (fun x => (nt A x).testBit x) k hk h))
  have HZ := Lib.hid (fun h => hR.trans (@allB_of A.length (fun x => (nt A x).testBit x) h))
  have hn30 := hA.1
  have HB := Lib.hid (fun i (hi : i < A.length) k (hk : k < 64) => l01Bit_q (nt A i) k (by have := hA.sm.at_ hi; omega) hk)
  have hal := (Grew.refl w).alloc (.cells #[.int .i64 (A.length : Int), v] 63)
  have y0 : ∀ W, Grew (w.alloc (.cells #[.int .i64 (A.length : Int), v] 63)) W → W.cell? ⟨w.heap.size, 0, none⟩ = some (.int .i64 (A.length : Int)) := fun W hW => (hW.cell (p := ⟨w.heap.size, 0, none⟩) (by simp)).trans (by simp)
  have y1 : ∀ W, Grew (w.alloc (.cells #[.int .i64 (A.length : Int), v] 63)) W → W.cell? ⟨w.heap.size, 1, none⟩ = some v := fun W hW => (hW.cell (p := ⟨w.heap.size, 1, none⟩) (by simp)).trans (by simp)
  obtain ⟨w1, hw1⟩ : ∃ w1, w1 = w.alloc (.cells #[.int .i64 (A.length : Int), v] 63) := ⟨_, rfl⟩
  rw [← hw1] at y0 y1 hal
  have HG := Lib.hid hal
  have r1 := Grew.refl w1
  have r1d := r1.drew
  obtain ⟨A', c, rfl⟩ := ints_sliceN h
  have HC := Lib.hid (fun h0 => cellsN h h0)
  clear h hA hR hal
  generalize hN : A.length = n at *
  clear hN
  go_enter Tryz.func44, Tryz.ntmps44
  go_wp2_with fail
  simp only [← hw1]
  clear hw1
  go_quiet (fail)
  go_wp2_with fail
  go_loopw [7] (fun i wr => ∃ j : Nat, j ≤ n ∧ i = .int .i64 j ∧ Grew w1 wr ∧ Hid (AllK (fun x => (nt A x).testBit x) j)) (fun i _ => n - (intOf i).toNat)
  case atStart => exact ⟨0, Nat.zero_le _, rfl, (Grew.refl _).drewN _, AllK.zero _⟩
  case round =>
    obtain ⟨j, hj, rfl, hB, HJ⟩ := hrel
    by_cases hlt : j < n
    · obtain ⟨b, o, rfl, hcell⟩ := HC.out (by omega)
      have hgw := HG.out
      have HX := Lib.hid (fun i hi W (hW : Grew w1 W) => hcell i hi W (hgw.trans hW))
      have hcx := fun W (hW : Grew wr W) => HX.out j hlt W (hB.trans hW)
      have rx := Grew.refl wr
      have hA := Lib.hid (HA.out j hlt)
      have hS := Lib.hid (fun h => HJ.out.succ (k := j) h)
      have hBx := Lib.hid (HB.out j hlt)
      clear hcell
      have hbr := Lib.hid (hBx.out j (by omega))
      cases ht : (nt A j).testBit j with
      | false =>
        have hv := Lib.hid (hA.out ht)
        rw [ht] at hbr
        generalize nt A j = m at *
        go_wp2_with fail
        refine (hbr.out _).mono ?_
        rintro e w2 ⟨rfl, rfl⟩
        go_wp2_with fail
        go_ret
        exact ⟨by rw [hv.out]; rfl, HG.out.trans hB⟩
      | true =>
      have hs := Lib.hid (hS.out ht)
      rw [ht] at hbr
      clear ht hA hS
      go_wp2_with fail
      refine (hbr.out _).mono ?_
      rintro e w2 ⟨rfl, rfl⟩
      go_wp2_with fail
      go_loopw [8] (fun i wy => ∃ k : Nat, k ≤ n ∧ i = .int .i64 k ∧ Grew w1 wy) (fun i _ => n - (intOf i).toNat)
      case atStart => exact ⟨0, Nat.zero_le _, rfl, hB⟩
      case round =>
        obtain ⟨k, hk, rfl, hY⟩ := hrel
        by_cases hlk : k < n
        · have hcy := fun W (hW : Grew wr W) => HX.out j hlt W (hY.trans hW)
          have ry := Grew.refl wr
          have hb2 := Lib.hid (hBx.out k (by omega))
          cases ht : (nt A j).testBit k with
          | false =>
            rw [ht] at hb2
            generalize nt A j = m at *
            clear hcx
            go_wp2_with fail
            refine (hb2.out _).mono ?_
            rintro e w3 ⟨rfl, rfl⟩
            go_wp2_with fail
            go_roundw
            case rel => exact ⟨k + 1, by omega, by go_num, hY⟩
            case measure => simp [intOf]; omega
          | true =>
            rw [ht] at hb2
            clear ht
            go_wp2_with fail
            refine (hb2.out _).mono ?_
            rintro e w3 ⟨rfl, rfl⟩
            go_wp2_with fail
            go_loopw [9] (fun i wz => ∃ q : Nat, q ≤ n ∧ i = .int .i64 q ∧ Grew w1 wz) (fun i _ => n - (intOf i).toNat)
            case atStart => exact ⟨0, Nat.zero_le _, rfl, hY⟩
            case round =>
              obtain ⟨q, hq, rfl, hZ⟩ := hrel
              by_cases hlq : q < n
              · have hcw := fun W (hW : Grew wr W) => HX.out j hlt W (hZ.trans hW)
                have rz := Grew.refl wr
                have hZd := hZ.drew
                have hb3 := Lib.hid (hBx.out q (by omega))
                cases ht3 : (nt A j).testBit q with
                | false =>
                  rw [ht3] at hb3
                  clear ht3
                  generalize nt A j = m at *
                  clear hcx hcy
                  go_wp2_with fail
                  refine (hb3.out _).mono ?_
                  rintro e w4 ⟨rfl, rfl⟩
                  go_wp2_with fail
                  go_roundw
                  case rel => exact ⟨q + 1, by omega, by go_num, hZ⟩
                  case measure => simp [intOf]; omega
                | true =>
                  rw [ht3] at hb3
                  clear ht3
                  generalize nt A j = m at *
                  clear hcx hcy
                  go_wp2_with fail
                  refine (hb3.out _).mono ?_
                  rintro e w4 ⟨rfl, rfl⟩
                  go_wp2_with fail
                  refine wp_region_held_drew (S := fun w' => Grew w1 w') (by kernel_rfl) hZd (fun hHeld => ?_)
                  refine wpAnyH_take (i := 0) (oi := ?on1) (v := ?vn1) ?hin1 ?an1 ?bn1 ?cn1 ?qn1 (Or.inl ⟨?dn1, ?hyn1⟩) hHeld ?restn1
                  case hin1 => (simp only [List.getElem?_toArray, List.getElem?_cons_zero]; exact rfl)
                  case an1 => kernel_rfl
                  case bn1 => kernel_rfl
                  case cn1 => kernel_rfl
                  case qn1 => exact fun _ _ _ h => h
                  case dn1 => rfl
                  case hyn1 => (intro z hSw; (try dsimp only at hSw); go_simp; (try with_reducible rfl))
                  try simp only [Act.put, List.setIfInBounds_toArray, List.set_cons_zero, List.set_cons_succ]
                  refine wpAnyH_take (i := 1) (oi := ?on2) (v := ?vn2) ?hin2 ?an2 ?bn2 ?cn2 ?qn2 (Or.inl ⟨?dn2, ?hyn2⟩) hHeld ?restn2
                  case hin2 => (simp only [List.getElem?_toArray, List.getElem?_cons_succ, List.getElem?_cons_zero]; exact rfl)
                  case an2 => kernel_rfl
                  case bn2 => kernel_rfl
                  case cn2 => kernel_rfl
                  case qn2 => exact fun _ _ _ h => h
                  case dn2 => rfl
                  case hyn2 => (intro z hSw; (try dsimp only at hSw); go_simp; (try with_reducible rfl))
                  try simp only [Act.put, List.setIfInBounds_toArray, List.set_cons_zero, List.set_cons_succ]
                  refine wpAnyH_take (i := 2) (oi := ?on3) (v := ?vn3) ?hin3 ?an3 ?bn3 ?cn3 ?qn3 (Or.inl ⟨?dn3, ?hyn3⟩) hHeld ?restn3
                  case hin3 => (simp only [List.getElem?_toArray, List.getElem?_cons_succ, List.getElem?_cons_zero]; exact rfl)
                  case an3 => kernel_rfl
                  case bn3 => kernel_rfl
                  case cn3 => kernel_rfl
                  case qn3 => exact fun _ _ _ h => h
                  case dn3 => rfl
                  case hyn3 => (intro z hSw; (try dsimp only at hSw); go_simp; (try with_reducible rfl))
                  try simp only [Act.put, List.setIfInBounds_toArray, List.set_cons_zero, List.set_cons_succ]
                  refine wpAnyH_take (i := 3) (oi := ?on4) ?hin4 ?an4 ?bn4 ?cn4 ?qn4 (Or.inr ⟨?dn4, rfl⟩) hHeld ?restn4
                  case hin4 => (simp only [List.getElem?_toArray, List.getElem?_cons_succ, List.getElem?_cons_zero]; exact rfl)
                  case an4 => kernel_rfl
                  case bn4 => kernel_rfl
                  case cn4 => kernel_rfl
                  case qn4 => exact fun _ _ _ h => h
                  case dn4 => rfl
                  try simp only [Act.put, List.setIfInBounds_toArray, List.set_cons_zero, List.set_cons_succ]
                  refine wpAnyH_take (i := 4) (oi := ?on5) ?hin5 ?an5 ?bn5 ?cn5 ?qn5 (Or.inr ⟨?dn5, rfl⟩) hHeld ?restn5
                  case hin5 => (simp only [List.getElem?_toArray, List.getElem?_cons_succ, List.getElem?_cons_zero]; exact rfl)
                  case an5 => kernel_rfl
                  case bn5 => kernel_rfl
                  case cn5 => kernel_rfl
                  case qn5 => exact fun _ _ _ h => h
                  case dn5 => rfl
                  try simp only [Act.put, List.setIfInBounds_toArray, List.set_cons_zero, List.set_cons_succ]
                  refine wpAnyH_take (i := 5) (oi := ?on6) ?hin6 ?an6 ?bn6 ?cn6 ?qn6 (Or.inr ⟨?dn6, rfl⟩) hHeld ?restn6
                  case hin6 => (simp only [List.getElem?_toArray, List.getElem?_cons_succ, List.getElem?_cons_zero]; exact rfl)
                  case an6 => kernel_rfl
                  case bn6 => kernel_rfl
                  case cn6 => kernel_rfl
                  case qn6 => exact fun _ _ _ h => h
                  case dn6 => rfl
                  try simp only [Act.put, List.setIfInBounds_toArray, List.set_cons_zero, List.set_cons_succ]
                  refine wpAnyH_take (i := 6) (oi := ?on7) ?hin7 ?an7 ?bn7 ?cn7 ?qn7 (Or.inr ⟨?dn7, rfl⟩) hHeld ?restn7
                  case hin7 => (simp only [List.getElem?_toArray, List.getElem?_cons_succ, List.getElem?_cons_zero]; exact rfl)
                  case an7 => kernel_rfl
                  case bn7 => kernel_rfl
                  case cn7 => kernel_rfl
                  case qn7 => exact fun _ _ _ h => h
                  case dn7 => rfl
                  try simp only [Act.put, List.setIfInBounds_toArray, List.set_cons_zero, List.set_cons_succ]
                  refine wpAnyH_take (i := 7) (oi := ?on8) ?hin8 ?an8 ?bn8 ?cn8 ?qn8 (Or.inr ⟨?dn8, rfl⟩) hHeld ?restn8
                  case hin8 => (simp only [List.getElem?_toArray, List.getElem?_cons_succ, List.getElem?_cons_zero]; exact rfl)
                  case an8 => kernel_rfl
                  case bn8 => kernel_rfl
                  case cn8 => kernel_rfl
                  case qn8 => exact fun _ _ _ h => h
                  case dn8 => rfl
                  try simp only [Act.put, List.setIfInBounds_toArray, List.set_cons_zero, List.set_cons_succ]
                  refine wpAnyH_take (i := 8) (oi := ?on9) ?hin9 ?an9 ?bn9 ?cn9 ?qn9 (Or.inr ⟨?dn9, rfl⟩) hHeld ?restn9
                  case hin9 => (simp only [List.getElem?_toArray, List.getElem?_cons_succ, List.getElem?_cons_zero]; exact rfl)
                  case an9 => kernel_rfl
                  case bn9 => kernel_rfl
                  case cn9 => kernel_rfl
                  case qn9 => exact fun _ _ _ h => h
                  case dn9 => rfl
                  try simp only [Act.put, List.setIfInBounds_toArray, List.set_cons_zero, List.set_cons_succ]
                  refine wpAnyH_take (i := 9) (oi := ?on10) ?hin10 ?an10 ?bn10 ?cn10 ?qn10 (Or.inr ⟨?dn10, rfl⟩) hHeld ?restn10
                  case hin10 => (simp only [List.getElem?_toArray, List.getElem?_cons_succ, List.getElem?_cons_zero]; exact rfl)
                  case an10 => kernel_rfl
                  case bn10 => kernel_rfl
                  case cn10 => kernel_rfl
                  case qn10 => exact fun _ _ _ h => h
                  case dn10 => rfl
                  try simp only [Act.put, List.setIfInBounds_toArray, List.set_cons_zero, List.set_cons_succ]
                  refine wpAnyH_take (i := 10) (oi := ?on11) ?hin11 ?an11 ?bn11 ?cn11 ?qn11 (Or.inr ⟨?dn11, rfl⟩) hHeld ?restn11
                  case hin11 => (simp only [List.getElem?_toArray, List.getElem?_cons_succ, List.getElem?_cons_zero]; exact rfl)
                  case an11 => kernel_rfl
                  case bn11 => kernel_rfl
                  case cn11 => kernel_rfl
                  case qn11 => exact fun _ _ _ h => h
                  case dn11 => rfl
                  try simp only [Act.put, List.setIfInBounds_toArray, List.set_cons_zero, List.set_cons_succ]
                  refine wpAnyH_take (i := 11) (oi := ?on12) ?hin12 ?an12 ?bn12 ?cn12 ?qn12 (Or.inr ⟨?dn12, rfl⟩) hHeld ?restn12
                  case hin12 => (simp only [List.getElem?_toArray, List.getElem?_cons_succ, List.getElem?_cons_zero]; exact rfl)
                  case an12 => kernel_rfl
                  case bn12 => kernel_rfl
                  case cn12 => kernel_rfl
                  case qn12 => exact fun _ _ _ h => h
                  case dn12 => rfl
                  try simp only [Act.put, List.setIfInBounds_toArray, List.set_cons_zero, List.set_cons_succ]
                  refine wpAnyH_take (i := 12) (oi := ?on13) ?hin13 ?an13 ?bn13 ?cn13 ?qn13 (Or.inr ⟨?dn13, rfl⟩) hHeld ?restn13
                  case hin13 => (simp only [List.getElem?_toArray, List.getElem?_cons_succ, List.getElem?_cons_zero]; exact rfl)
                  case an13 => kernel_rfl
                  case bn13 => kernel_rfl
                  case cn13 => kernel_rfl
                  case qn13 => exact fun _ _ _ h => h
                  case dn13 => rfl
                  try simp only [Act.put, List.setIfInBounds_toArray, List.set_cons_zero, List.set_cons_succ]
                  refine wpAnyH_take (i := 13) (oi := ?on14) (v := ?vn14) ?hin14 ?an14 ?bn14 ?cn14 ?qn14 (Or.inl ⟨?dn14, ?hyn14⟩) hHeld ?restn14
                  case hin14 => (simp only [List.getElem?_toArray, List.getElem?_cons_succ, List.getElem?_cons_zero]; exact rfl)
                  case an14 => kernel_rfl
                  case bn14 => kernel_rfl
                  case cn14 => kernel_rfl
                  case qn14 => exact fun _ _ _ h => h
                  case dn14 => rfl
                  case hyn14 => (intro z hSw; (try dsimp only at hSw); go_simp; (try with_reducible rfl))
                  try simp only [Act.put, List.setIfInBounds_toArray, List.set_cons_zero, List.set_cons_succ]
                  refine wpAnyH_take (i := 14) (oi := ?on15) (v := ?vn15) ?hin15 ?an15 ?bn15 ?cn15 ?qn15 (Or.inl ⟨?dn15, ?hyn15⟩) hHeld ?restn15
                  case hin15 => (simp only [List.getElem?_toArray, List.getElem?_cons_succ, List.getElem?_cons_zero]; exact rfl)
                  case an15 => kernel_rfl
                  case bn15 => kernel_rfl
                  case cn15 => kernel_rfl
                  case qn15 => exact fun _ _ _ h => h
                  case dn15 => rfl
                  case hyn15 => (intro z hSw; (try dsimp only at hSw); go_simp; (try with_reducible rfl))
                  try simp only [Act.put, List.setIfInBounds_toArray, List.set_cons_zero, List.set_cons_succ]
                  refine wpAnyH_take (i := 15) (oi := ?on16) (v := ?vn16) ?hin16 ?an16 ?bn16 ?cn16 ?qn16 (Or.inl ⟨?dn16, ?hyn16⟩) hHeld ?restn16
                  case hin16 => (simp only [List.getElem?_toArray, List.getElem?_cons_succ, List.getElem?_cons_zero]; exact rfl)
                  case an16 => kernel_rfl
                  case bn16 => kernel_rfl
                  case cn16 => kernel_rfl
                  case qn16 => exact fun _ _ _ h => h
                  case dn16 => rfl
                  case hyn16 => (intro z hSw; (try dsimp only at hSw); go_simp; (try with_reducible rfl))
                  try simp only [Act.put, List.setIfInBounds_toArray, List.set_cons_zero, List.set_cons_succ]
                  refine wpAnyH_take (i := 16) (oi := ?on17) (v := ?vn17) ?hin17 ?an17 ?bn17 ?cn17 ?qn17 (Or.inl ⟨?dn17, ?hyn17⟩) hHeld ?restn17
                  case hin17 => (simp only [List.getElem?_toArray, List.getElem?_cons_succ, List.getElem?_cons_zero]; exact rfl)
                  case an17 => kernel_rfl
                  case bn17 => kernel_rfl
                  case cn17 => kernel_rfl
                  case qn17 => exact fun _ _ _ h => h
                  case dn17 => rfl
                  case hyn17 => (intro z hSw; (try dsimp only at hSw); go_simp; (try with_reducible rfl))
                  try simp only [Act.put, List.setIfInBounds_toArray, List.set_cons_zero, List.set_cons_succ]
                  refine wpAnyH_take (i := 17) (oi := ?on18) (v := ?vn18) ?hin18 ?an18 ?bn18 ?cn18 ?qn18 (Or.inl ⟨?dn18, ?hyn18⟩) hHeld ?restn18
                  case hin18 => (simp only [List.getElem?_toArray, List.getElem?_cons_succ, List.getElem?_cons_zero]; exact rfl)
                  case an18 => kernel_rfl
                  case bn18 => kernel_rfl
                  case cn18 => kernel_rfl
                  case qn18 => exact fun _ _ _ h => h
                  case dn18 => rfl
                  case hyn18 => (intro z hSw; (try dsimp only at hSw); go_simp; (try with_reducible rfl))
                  try simp only [Act.put, List.setIfInBounds_toArray, List.set_cons_zero, List.set_cons_succ]
                  refine wpAnyH_take (i := 18) (oi := ?on19) ?hin19 ?an19 ?bn19 ?cn19 ?qn19 (Or.inr ⟨?dn19, rfl⟩) hHeld ?restn19
                  case hin19 => (simp only [List.getElem?_toArray, List.getElem?_cons_succ, List.getElem?_cons_zero]; exact rfl)
                  case an19 => kernel_rfl
                  case bn19 => kernel_rfl
                  case cn19 => kernel_rfl
                  case qn19 => exact fun _ _ _ h => h
                  case dn19 => rfl
                  try simp only [Act.put, List.setIfInBounds_toArray, List.set_cons_zero, List.set_cons_succ]
                  refine wpAnyH_take (i := 19) (oi := ?on20) ?hin20 ?an20 ?bn20 ?cn20 ?qn20 (Or.inr ⟨?dn20, rfl⟩) hHeld ?restn20
                  case hin20 => (simp only [List.getElem?_toArray, List.getElem?_cons_succ, List.getElem?_cons_zero]; exact rfl)
                  case an20 => kernel_rfl
                  case bn20 => kernel_rfl
                  case cn20 => kernel_rfl
                  case qn20 => exact fun _ _ _ h => h
                  case dn20 => rfl
                  try simp only [Act.put, List.setIfInBounds_toArray, List.set_cons_zero, List.set_cons_succ]
                  refine wpAnyH_take (i := 20) (oi := ?on21) ?hin21 ?an21 ?bn21 ?cn21 ?qn21 (Or.inr ⟨?dn21, rfl⟩) hHeld ?restn21
                  case hin21 => (simp only [List.getElem?_toArray, List.getElem?_cons_succ, List.getElem?_cons_zero]; exact rfl)
                  case an21 => kernel_rfl
                  case bn21 => kernel_rfl
                  case cn21 => kernel_rfl
                  case qn21 => exact fun _ _ _ h => h
                  case dn21 => rfl
                  try simp only [Act.put, List.setIfInBounds_toArray, List.set_cons_zero, List.set_cons_succ]
                  refine wpAnyH_take (i := 21) (oi := ?on22) ?hin22 ?an22 ?bn22 ?cn22 ?qn22 (Or.inr ⟨?dn22, rfl⟩) hHeld ?restn22
                  case hin22 => (simp only [List.getElem?_toArray, List.getElem?_cons_succ, List.getElem?_cons_zero]; exact rfl)
                  case an22 => kernel_rfl
                  case bn22 => kernel_rfl
                  case cn22 => kernel_rfl
                  case qn22 => exact fun _ _ _ h => h
                  case dn22 => rfl
                  try simp only [Act.put, List.setIfInBounds_toArray, List.set_cons_zero, List.set_cons_succ]
                  refine wpAnyH_take (i := 22) (oi := ?on23) ?hin23 ?an23 ?bn23 ?cn23 ?qn23 (Or.inr ⟨?dn23, rfl⟩) hHeld ?restn23
                  case hin23 => (simp only [List.getElem?_toArray, List.getElem?_cons_succ, List.getElem?_cons_zero]; exact rfl)
                  case an23 => kernel_rfl
                  case bn23 => kernel_rfl
                  case cn23 => kernel_rfl
                  case qn23 => exact fun _ _ _ h => h
                  case dn23 => rfl
                  try simp only [Act.put, List.setIfInBounds_toArray, List.set_cons_zero, List.set_cons_succ]
                  refine wpAnyH_take (i := 23) (oi := ?on24) ?hin24 ?an24 ?bn24 ?cn24 ?qn24 (Or.inr ⟨?dn24, rfl⟩) hHeld ?restn24
                  case hin24 => (simp only [List.getElem?_toArray, List.getElem?_cons_succ, List.getElem?_cons_zero]; exact rfl)
                  case an24 => kernel_rfl
                  case bn24 => kernel_rfl
                  case cn24 => kernel_rfl
                  case qn24 => exact fun _ _ _ h => h
                  case dn24 => rfl
                  try simp only [Act.put, List.setIfInBounds_toArray, List.set_cons_zero, List.set_cons_succ]
                  refine wpAnyH_take (i := 24) (oi := ?on25) ?hin25 ?an25 ?bn25 ?cn25 ?qn25 (Or.inr ⟨?dn25, rfl⟩) hHeld ?restn25
                  case hin25 => (simp only [List.getElem?_toArray, List.getElem?_cons_succ, List.getElem?_cons_zero]; exact rfl)
                  case an25 => kernel_rfl
                  case bn25 => kernel_rfl
                  case cn25 => kernel_rfl
                  case qn25 => exact fun _ _ _ h => h
                  case dn25 => rfl
                  try simp only [Act.put, List.setIfInBounds_toArray, List.set_cons_zero, List.set_cons_succ]
                  refine wpAnyH_take (i := 25) (oi := ?on26) (v := ?vn26) ?hin26 ?an26 ?bn26 ?cn26 ?qn26 (Or.inl ⟨?dn26, ?hyn26⟩) hHeld ?restn26
                  case hin26 => (simp only [List.getElem?_toArray, List.getElem?_cons_succ, List.getElem?_cons_zero]; exact rfl)
                  case an26 => kernel_rfl
                  case bn26 => kernel_rfl
                  case cn26 => kernel_rfl
                  case qn26 => exact fun _ _ _ h => h
                  case dn26 => rfl
                  case hyn26 => (intro z hSw; (try dsimp only at hSw); go_simp; (try with_reducible rfl))
                  try simp only [Act.put, List.setIfInBounds_toArray, List.set_cons_zero, List.set_cons_succ]
                  refine wpAnyH_take (i := 26) (oi := ?on27) (v := ?vn27) ?hin27 ?an27 ?bn27 ?cn27 ?qn27 (Or.inl ⟨?dn27, ?hyn27⟩) hHeld ?restn27
                  case hin27 => (simp only [List.getElem?_toArray, List.getElem?_cons_succ, List.getElem?_cons_zero]; exact rfl)
                  case an27 => kernel_rfl
                  case bn27 => kernel_rfl
                  case cn27 => kernel_rfl
                  case qn27 => exact fun _ _ _ h => h
                  case dn27 => rfl
                  case hyn27 => (intro z hSw; (try dsimp only at hSw); go_simp; (try with_reducible rfl))
                  try simp only [Act.put, List.setIfInBounds_toArray, List.set_cons_zero, List.set_cons_succ]
                  refine wpAnyH_take (i := 27) (oi := ?on28) ?hin28 ?an28 ?bn28 ?cn28 ?qn28 (Or.inr ⟨?dn28, rfl⟩) hHeld ?restn28
                  case hin28 => (simp only [List.getElem?_toArray, List.getElem?_cons_succ, List.getElem?_cons_zero]; exact rfl)
                  case an28 => kernel_rfl
                  case bn28 => kernel_rfl
                  case cn28 => kernel_rfl
                  case qn28 => exact fun _ _ _ h => h
                  case dn28 => rfl
                  try simp only [Act.put, List.setIfInBounds_toArray, List.set_cons_zero, List.set_cons_succ]
                  refine wpAnyH_take (i := 28) (oi := ?on29) ?hin29 ?an29 ?bn29 ?cn29 ?qn29 (Or.inr ⟨?dn29, rfl⟩) hHeld ?restn29
                  case hin29 => (simp only [List.getElem?_toArray, List.getElem?_cons_succ, List.getElem?_cons_zero]; exact rfl)
                  case an29 => kernel_rfl
                  case bn29 => kernel_rfl
                  case cn29 => kernel_rfl
                  case qn29 => exact fun _ _ _ h => h
                  case dn29 => rfl
                  try simp only [Act.put, List.setIfInBounds_toArray, List.set_cons_zero, List.set_cons_succ]
                  refine wpAnyH_take (i := 29) (oi := ?on30) ?hin30 ?an30 ?bn30 ?cn30 ?qn30 (Or.inr ⟨?dn30, rfl⟩) hHeld ?restn30
                  case hin30 => (simp only [List.getElem?_toArray, List.getElem?_cons_succ, List.getElem?_cons_zero]; exact rfl)
                  case an30 => kernel_rfl
                  case bn30 => kernel_rfl
                  case cn30 => kernel_rfl
                  case qn30 => exact fun _ _ _ h => h
                  case dn30 => rfl
                  try simp only [Act.put, List.setIfInBounds_toArray, List.set_cons_zero, List.set_cons_succ]
                  refine wpAnyH_take (i := 30) (oi := ?on31) ?hin31 ?an31 ?bn31 ?cn31 ?qn31 (Or.inr ⟨?dn31, rfl⟩) hHeld ?restn31
                  case hin31 => (simp only [List.getElem?_toArray, List.getElem?_cons_succ, List.getElem?_cons_zero]; exact rfl)
                  case an31 => kernel_rfl
                  case bn31 => kernel_rfl
                  case cn31 => kernel_rfl
                  case qn31 => exact fun _ _ _ h => h
                  case dn31 => rfl
                  try simp only [Act.put, List.setIfInBounds_toArray, List.set_cons_zero, List.set_cons_succ]
                  refine wpAnyH_take (i := 31) (oi := ?on32) ?hin32 ?an32 ?bn32 ?cn32 ?qn32 (Or.inr ⟨?dn32, rfl⟩) hHeld ?restn32
                  case hin32 => (simp only [List.getElem?_toArray, List.getElem?_cons_succ, List.getElem?_cons_zero]; exact rfl)
                  case an32 => kernel_rfl
                  case bn32 => kernel_rfl
                  case cn32 => kernel_rfl
                  case qn32 => exact fun _ _ _ h => h
                  case dn32 => rfl
                  try simp only [Act.put, List.setIfInBounds_toArray, List.set_cons_zero, List.set_cons_succ]
                  refine wpAnyH_take (i := 32) (oi := ?on33) ?hin33 ?an33 ?bn33 ?cn33 ?qn33 (Or.inr ⟨?dn33, rfl⟩) hHeld ?restn33
                  case hin33 => (simp only [List.getElem?_toArray, List.getElem?_cons_succ, List.getElem?_cons_zero]; exact rfl)
                  case an33 => kernel_rfl
                  case bn33 => kernel_rfl
                  case cn33 => kernel_rfl
                  case qn33 => exact fun _ _ _ h => h
                  case dn33 => rfl
                  try simp only [Act.put, List.setIfInBounds_toArray, List.set_cons_zero, List.set_cons_succ]
                  refine wpAnyH_take (i := 33) (oi := ?on34) ?hin34 ?an34 ?bn34 ?cn34 ?qn34 (Or.inr ⟨?dn34, rfl⟩) hHeld ?restn34
                  case hin34 => (simp only [List.getElem?_toArray, List.getElem?_cons_succ, List.getElem?_cons_zero]; exact rfl)
                  case an34 => kernel_rfl
                  case bn34 => kernel_rfl
                  case cn34 => kernel_rfl
                  case qn34 => exact fun _ _ _ h => h
                  case dn34 => rfl
                  try simp only [Act.put, List.setIfInBounds_toArray, List.set_cons_zero, List.set_cons_succ]
                  refine wpAnyH_take (i := 34) (oi := ?on35) (v := ?vn35) ?hin35 ?an35 ?bn35 ?cn35 ?qn35 (Or.inl ⟨?dn35, ?hyn35⟩) hHeld ?restn35
                  case hin35 => (simp only [List.getElem?_toArray, List.getElem?_cons_succ, List.getElem?_cons_zero]; exact rfl)
                  case an35 => kernel_rfl
                  case bn35 => kernel_rfl
                  case cn35 => kernel_rfl
                  case qn35 => exact fun _ _ _ h => h
                  case dn35 => rfl
                  case hyn35 => (intro z hSw; (try dsimp only at hSw); go_simp; (try with_reducible rfl))
                  try simp only [Act.put, List.setIfInBounds_toArray, List.set_cons_zero, List.set_cons_succ]
                  refine wpAnyH_take (i := 35) (oi := ?on36) (v := ?vn36) ?hin36 ?an36 ?bn36 ?cn36 ?qn36 (Or.inl ⟨?dn36, ?hyn36⟩) hHeld ?restn36
                  case hin36 => (simp only [List.getElem?_toArray, List.getElem?_cons_succ, List.getElem?_cons_zero]; exact rfl)
                  case an36 => kernel_rfl
                  case bn36 => kernel_rfl
                  case cn36 => kernel_rfl
                  case qn36 => exact fun _ _ _ h => h
                  case dn36 => rfl
                  case hyn36 => (intro z hSw; (try dsimp only at hSw); go_simp; (try with_reducible rfl))
                  try simp only [Act.put, List.setIfInBounds_toArray, List.set_cons_zero, List.set_cons_succ]
                  refine wpAnyH_done (by kernel_rfl) ?_ _
                  go_wp2_with fail
                  go_roundw
                  case rel => exact ⟨q + 1, by omega, by go_num, hZd⟩
                  case measure => simp [intOf]; omega
              · obtain rfl : q = n := by omega
                go_wp2_with fail
                go_roundw
                case rel => exact ⟨k + 1, by omega, by go_num, hZ⟩
                case measure => simp [intOf]; omega
        · obtain rfl : k = n := by omega
          go_wp2_with fail
          go_roundw
          case rel => exact ⟨j + 1, by omega, by go_num, hY, hs⟩
          case measure => simp [intOf]; omega
    · obtain rfl : j = n := by omega
      have hv := Lib.hid (HZ.out HJ.out)
      go_wp2_with fail
      go_ret
      exact ⟨by rw [hv.out]; rfl, HG.out.trans hB⟩
set_option maxHeartbeats 4000000 in
set_option maxRecDepth 100000 in
theorem l05Flag2_c (v : Value) (A : List Nat) (w : World) (h : Ints w v (zs A)) (hA : Rl A) :
    Calls Tryz.prog 44 #[.agg #[.int .i64 (A.length : Int), v], .int .i64 2] w fun e w' => e = .returned (.bool (transB A)) ∧ Grew w w' := by
  obtain ⟨R, hR⟩ : ∃ R, R = transB A := ⟨_, rfl⟩
  rw [← hR]
  unfold transB at hR
  have HA := Lib.hid (fun k hk h => hR.trans (@allB_no A.length (fun x => decide (dif (img A (nt A x)) (nt A x) = 0)) k hk h))
  have HZ := Lib.hid (fun h => hR.trans (@allB_of A.length (fun x => decide (dif (img A (nt A x)) (nt A x) = 0)) h))
  have hn30 := hA.1
  have HB := Lib.hid (fun i (hi : i < A.length) k (hk : k < 64) => l01Bit_q (nt A i) k (by have := hA.sm.at_ hi; omega) hk)
  have HI := Lib.hid (fun i (hi : i < A.length) W (hW : Grew w W) => l01Image_q v A (nt A i) W (h.grew hW) hA.sm hA.1 (hA.lt hi))
  have HN := Lib.hid (fun i (hi : i < A.length) => andNot_i64 (img A (nt A i)) (nt A i) (by have := orK_sm (is := mbs (nt A i)) hA.sm (mbs (nt A i)).length; unfold img; omega) (by have := hA.sm.at_ hi; omega))
  have hal := (Grew.refl w).alloc (.cells #[.int .i64 (A.length : Int), v] 63)
  have y0 : ∀ W, Grew (w.alloc (.cells #[.int .i64 (A.length : Int), v] 63)) W → W.cell? ⟨w.heap.size, 0, none⟩ = some (.int .i64 (A.length : Int)) := fun W hW => (hW.cell (p := ⟨w.heap.size, 0, none⟩) (by simp)).trans (by simp)
  have y1 : ∀ W, Grew (w.alloc (.cells #[.int .i64 (A.length : Int), v] 63)) W → W.cell? ⟨w.heap.size, 1, none⟩ = some v := fun W hW => (hW.cell (p := ⟨w.heap.size, 1, none⟩) (by simp)).trans (by simp)
  obtain ⟨w1, hw1⟩ : ∃ w1, w1 = w.alloc (.cells #[.int .i64 (A.length : Int), v] 63) := ⟨_, rfl⟩
  rw [← hw1] at y0 y1 hal
  have HG := Lib.hid hal
  have r1 := Grew.refl w1
  have r1d := r1.drew
  obtain ⟨A', c, rfl⟩ := ints_sliceN h
  have HC := Lib.hid (fun h0 => cellsN h h0)
  clear h hA hR hal
  generalize hN : A.length = n at *
  clear hN
  go_enter Tryz.func44, Tryz.ntmps44
  go_wp2_with fail
  simp only [← hw1]
  clear hw1
  go_quiet (fail)
  go_wp2_with fail
  go_loopw [7] (fun i wr => ∃ j : Nat, j ≤ n ∧ i = .int .i64 j ∧ Grew w1 wr ∧ Hid (AllK (fun x => decide (dif (img A (nt A x)) (nt A x) = 0)) j)) (fun i _ => n - (intOf i).toNat)
  case atStart => exact ⟨0, Nat.zero_le _, rfl, (Grew.refl _).drewN _, AllK.zero _⟩
  case round =>
    obtain ⟨j, hj, rfl, hB, HJ⟩ := hrel
    by_cases hlt : j < n
    · obtain ⟨b, o, rfl, hcell⟩ := HC.out (by omega)
      have hgw := HG.out
      have HX := Lib.hid (fun i hi W (hW : Grew w1 W) => hcell i hi W (hgw.trans hW))
      have hcx := fun W (hW : Grew wr W) => HX.out j hlt W (hB.trans hW)
      have rx := Grew.refl wr
      have hA := Lib.hid (HA.out j hlt)
      have hS := Lib.hid (fun h => HJ.out.succ (k := j) h)
      have hBx := Lib.hid (HB.out j hlt)
      clear hcell
      have hi := Lib.hid (fun W hW => HI.out j hlt W hW)
      have hnn := HN.out j hlt
      have hrr := Grew.refl wr
      have hrd := hrr.drew
      have hgwr := Lib.hid (HG.out.trans hB)
      by_cases hd : dif (img A (nt A j)) (nt A j) = 0
      · have hs := Lib.hid (hS.out (decide_eq_true hd))
        rw [hd] at hnn
        clear hA hS hd
        generalize hmg : img A (nt A j) = mg at *
        clear hmg
        go_wp2_with fail
        go_quiet (first | (go_at_call 45; exact Calls.quiet_of_same (hi.out _ (by first | exact hgwr.out | exact hgwr.out.drew | exact hgwr.out.drewN _))))
        go_wp2_with fail
        have hBd := hB.drewN nq
        go_loopw [8] (fun i wy => ∃ k : Nat, k ≤ n ∧ i = .int .i64 k ∧ Grew w1 wy) (fun i _ => n - (intOf i).toNat)
        case atStart => exact ⟨0, Nat.zero_le _, rfl, hBd⟩
        case round =>
          obtain ⟨k, hk, rfl, hY⟩ := hrel
          by_cases hlk : k < n
          · have hcy := fun W (hW : Grew wr W) => HX.out j hlt W (hY.trans hW)
            have ry := Grew.refl wr
            have hb2 := Lib.hid (hBx.out k (by omega))
            cases ht : (nt A j).testBit k with
            | false =>
              rw [ht] at hb2
              generalize nt A j = m at *
              clear hcx
              go_wp2_with fail
              refine (hb2.out _).mono ?_
              rintro e w3 ⟨rfl, rfl⟩
              go_wp2_with fail
              go_roundw
              case rel => exact ⟨k + 1, by omega, by go_num, hY⟩
              case measure => simp [intOf]; omega
            | true =>
              rw [ht] at hb2
              clear ht
              go_wp2_with fail
              refine (hb2.out _).mono ?_
              rintro e w3 ⟨rfl, rfl⟩
              go_wp2_with fail
              go_loopw [9] (fun i wz => ∃ q : Nat, q ≤ n ∧ i = .int .i64 q ∧ Grew w1 wz) (fun i _ => n - (intOf i).toNat)
              case atStart => exact ⟨0, Nat.zero_le _, rfl, hY⟩
              case round =>
                obtain ⟨q, hq, rfl, hZ⟩ := hrel
                by_cases hlq : q < n
                · have hcw := fun W (hW : Grew wr W) => HX.out j hlt W (hZ.trans hW)
                  have rz := Grew.refl wr
                  have hZd := hZ.drew
                  have hb3 := Lib.hid (hBx.out q (by omega))
                  cases ht3 : (nt A j).testBit q with
                  | false =>
                    rw [ht3] at hb3
                    clear ht3
                    generalize nt A j = m at *
                    clear hcx hcy
                    go_wp2_with fail
                    refine (hb3.out _).mono ?_
                    rintro e w4 ⟨rfl, rfl⟩
                    go_wp2_with fail
                    go_roundw
                    case rel => exact ⟨q + 1, by omega, by go_num, hZ⟩
                    case measure => simp [intOf]; omega
                  | true =>
                    rw [ht3] at hb3
                    clear ht3
                    generalize nt A j = m at *
                    clear hcx hcy
                    go_wp2_with fail
                    refine (hb3.out _).mono ?_
                    rintro e w4 ⟨rfl, rfl⟩
                    go_wp2_with fail
                    refine wp_region_held_drew (S := fun w' => Grew w1 w') (by kernel_rfl) hZd (fun hHeld => ?_)
                    refine wpAnyH_take (i := 0) (oi := ?on37) (v := ?vn37) ?hin37 ?an37 ?bn37 ?cn37 ?qn37 (Or.inl ⟨?dn37, ?hyn37⟩) hHeld ?restn37
                    case hin37 => (simp only [List.getElem?_toArray, List.getElem?_cons_zero]; exact rfl)
                    case an37 => kernel_rfl
                    case bn37 => kernel_rfl
                    case cn37 => kernel_rfl
                    case qn37 => exact fun _ _ _ h => h
                    case dn37 => rfl
                    case hyn37 => (intro z hSw; (try dsimp only at hSw); go_simp; (try with_reducible rfl))
                    try simp only [Act.put, List.setIfInBounds_toArray, List.set_cons_zero, List.set_cons_succ]
                    refine wpAnyH_take (i := 1) (oi := ?on38) (v := ?vn38) ?hin38 ?an38 ?bn38 ?cn38 ?qn38 (Or.inl ⟨?dn38, ?hyn38⟩) hHeld ?restn38
                    case hin38 => (simp only [List.getElem?_toArray, List.getElem?_cons_succ, List.getElem?_cons_zero]; exact rfl)
                    case an38 => kernel_rfl
                    case bn38 => kernel_rfl
                    case cn38 => kernel_rfl
                    case qn38 => exact fun _ _ _ h => h
                    case dn38 => rfl
                    case hyn38 => (intro z hSw; (try dsimp only at hSw); go_simp; (try with_reducible rfl))
                    try simp only [Act.put, List.setIfInBounds_toArray, List.set_cons_zero, List.set_cons_succ]
                    refine wpAnyH_take (i := 2) (oi := ?on39) (v := ?vn39) ?hin39 ?an39 ?bn39 ?cn39 ?qn39 (Or.inl ⟨?dn39, ?hyn39⟩) hHeld ?restn39
                    case hin39 => (simp only [List.getElem?_toArray, List.getElem?_cons_succ, List.getElem?_cons_zero]; exact rfl)
                    case an39 => kernel_rfl
                    case bn39 => kernel_rfl
                    case cn39 => kernel_rfl
                    case qn39 => exact fun _ _ _ h => h
                    case dn39 => rfl
                    case hyn39 => (intro z hSw; (try dsimp only at hSw); go_simp; (try with_reducible rfl))
                    try simp only [Act.put, List.setIfInBounds_toArray, List.set_cons_zero, List.set_cons_succ]
                    refine wpAnyH_take (i := 3) (oi := ?on40) ?hin40 ?an40 ?bn40 ?cn40 ?qn40 (Or.inr ⟨?dn40, rfl⟩) hHeld ?restn40
                    case hin40 => (simp only [List.getElem?_toArray, List.getElem?_cons_succ, List.getElem?_cons_zero]; exact rfl)
                    case an40 => kernel_rfl
                    case bn40 => kernel_rfl
                    case cn40 => kernel_rfl
                    case qn40 => exact fun _ _ _ h => h
                    case dn40 => rfl
                    try simp only [Act.put, List.setIfInBounds_toArray, List.set_cons_zero, List.set_cons_succ]
                    refine wpAnyH_take (i := 4) (oi := ?on41) ?hin41 ?an41 ?bn41 ?cn41 ?qn41 (Or.inr ⟨?dn41, rfl⟩) hHeld ?restn41
                    case hin41 => (simp only [List.getElem?_toArray, List.getElem?_cons_succ, List.getElem?_cons_zero]; exact rfl)
                    case an41 => kernel_rfl
                    case bn41 => kernel_rfl
                    case cn41 => kernel_rfl
                    case qn41 => exact fun _ _ _ h => h
                    case dn41 => rfl
                    try simp only [Act.put, List.setIfInBounds_toArray, List.set_cons_zero, List.set_cons_succ]
                    refine wpAnyH_take (i := 5) (oi := ?on42) ?hin42 ?an42 ?bn42 ?cn42 ?qn42 (Or.inr ⟨?dn42, rfl⟩) hHeld ?restn42
                    case hin42 => (simp only [List.getElem?_toArray, List.getElem?_cons_succ, List.getElem?_cons_zero]; exact rfl)
                    case an42 => kernel_rfl
                    case bn42 => kernel_rfl
                    case cn42 => kernel_rfl
                    case qn42 => exact fun _ _ _ h => h
                    case dn42 => rfl
                    try simp only [Act.put, List.setIfInBounds_toArray, List.set_cons_zero, List.set_cons_succ]
                    refine wpAnyH_take (i := 6) (oi := ?on43) ?hin43 ?an43 ?bn43 ?cn43 ?qn43 (Or.inr ⟨?dn43, rfl⟩) hHeld ?restn43
                    case hin43 => (simp only [List.getElem?_toArray, List.getElem?_cons_succ, List.getElem?_cons_zero]; exact rfl)
                    case an43 => kernel_rfl
                    case bn43 => kernel_rfl
                    case cn43 => kernel_rfl
                    case qn43 => exact fun _ _ _ h => h
                    case dn43 => rfl
                    try simp only [Act.put, List.setIfInBounds_toArray, List.set_cons_zero, List.set_cons_succ]
                    refine wpAnyH_take (i := 7) (oi := ?on44) ?hin44 ?an44 ?bn44 ?cn44 ?qn44 (Or.inr ⟨?dn44, rfl⟩) hHeld ?restn44
                    case hin44 => (simp only [List.getElem?_toArray, List.getElem?_cons_succ, List.getElem?_cons_zero]; exact rfl)
                    case an44 => kernel_rfl
                    case bn44 => kernel_rfl
                    case cn44 => kernel_rfl
                    case qn44 => exact fun _ _ _ h => h
                    case dn44 => rfl
                    try simp only [Act.put, List.setIfInBounds_toArray, List.set_cons_zero, List.set_cons_succ]
                    refine wpAnyH_take (i := 8) (oi := ?on45) ?hin45 ?an45 ?bn45 ?cn45 ?qn45 (Or.inr ⟨?dn45, rfl⟩) hHeld ?restn45
                    case hin45 => (simp only [List.getElem?_toArray, List.getElem?_cons_succ, List.getElem?_cons_zero]; exact rfl)
                    case an45 => kernel_rfl
                    case bn45 => kernel_rfl
                    case cn45 => kernel_rfl
                    case qn45 => exact fun _ _ _ h => h
                    case dn45 => rfl
                    try simp only [Act.put, List.setIfInBounds_toArray, List.set_cons_zero, List.set_cons_succ]
                    refine wpAnyH_take (i := 9) (oi := ?on46) ?hin46 ?an46 ?bn46 ?cn46 ?qn46 (Or.inr ⟨?dn46, rfl⟩) hHeld ?restn46
                    case hin46 => (simp only [List.getElem?_toArray, List.getElem?_cons_succ, List.getElem?_cons_zero]; exact rfl)
                    case an46 => kernel_rfl
                    case bn46 => kernel_rfl
                    case cn46 => kernel_rfl
                    case qn46 => exact fun _ _ _ h => h
                    case dn46 => rfl
                    try simp only [Act.put, List.setIfInBounds_toArray, List.set_cons_zero, List.set_cons_succ]
                    refine wpAnyH_take (i := 10) (oi := ?on47) ?hin47 ?an47 ?bn47 ?cn47 ?qn47 (Or.inr ⟨?dn47, rfl⟩) hHeld ?restn47
                    case hin47 => (simp only [List.getElem?_toArray, List.getElem?_cons_succ, List.getElem?_cons_zero]; exact rfl)
                    case an47 => kernel_rfl
                    case bn47 => kernel_rfl
                    case cn47 => kernel_rfl
                    case qn47 => exact fun _ _ _ h => h
                    case dn47 => rfl
                    try simp only [Act.put, List.setIfInBounds_toArray, List.set_cons_zero, List.set_cons_succ]
                    refine wpAnyH_take (i := 11) (oi := ?on48) ?hin48 ?an48 ?bn48 ?cn48 ?qn48 (Or.inr ⟨?dn48, rfl⟩) hHeld ?restn48
                    case hin48 => (simp only [List.getElem?_toArray, List.getElem?_cons_succ, List.getElem?_cons_zero]; exact rfl)
                    case an48 => kernel_rfl
                    case bn48 => kernel_rfl
                    case cn48 => kernel_rfl
                    case qn48 => exact fun _ _ _ h => h
                    case dn48 => rfl
                    try simp only [Act.put, List.setIfInBounds_toArray, List.set_cons_zero, List.set_cons_succ]
                    refine wpAnyH_take (i := 12) (oi := ?on49) ?hin49 ?an49 ?bn49 ?cn49 ?qn49 (Or.inr ⟨?dn49, rfl⟩) hHeld ?restn49
                    case hin49 => (simp only [List.getElem?_toArray, List.getElem?_cons_succ, List.getElem?_cons_zero]; exact rfl)
                    case an49 => kernel_rfl
                    case bn49 => kernel_rfl
                    case cn49 => kernel_rfl
                    case qn49 => exact fun _ _ _ h => h
                    case dn49 => rfl
                    try simp only [Act.put, List.setIfInBounds_toArray, List.set_cons_zero, List.set_cons_succ]
                    refine wpAnyH_take (i := 13) (oi := ?on50) (v := ?vn50) ?hin50 ?an50 ?bn50 ?cn50 ?qn50 (Or.inl ⟨?dn50, ?hyn50⟩) hHeld ?restn50
                    case hin50 => (simp only [List.getElem?_toArray, List.getElem?_cons_succ, List.getElem?_cons_zero]; exact rfl)
                    case an50 => kernel_rfl
                    case bn50 => kernel_rfl
                    case cn50 => kernel_rfl
                    case qn50 => exact fun _ _ _ h => h
                    case dn50 => rfl
                    case hyn50 => (intro z hSw; (try dsimp only at hSw); go_simp; (try with_reducible rfl))
                    try simp only [Act.put, List.setIfInBounds_toArray, List.set_cons_zero, List.set_cons_succ]
                    refine wpAnyH_take (i := 14) (oi := ?on51) (v := ?vn51) ?hin51 ?an51 ?bn51 ?cn51 ?qn51 (Or.inl ⟨?dn51, ?hyn51⟩) hHeld ?restn51
                    case hin51 => (simp only [List.getElem?_toArray, List.getElem?_cons_succ, List.getElem?_cons_zero]; exact rfl)
                    case an51 => kernel_rfl
                    case bn51 => kernel_rfl
                    case cn51 => kernel_rfl
                    case qn51 => exact fun _ _ _ h => h
                    case dn51 => rfl
                    case hyn51 => (intro z hSw; (try dsimp only at hSw); go_simp; (try with_reducible rfl))
                    try simp only [Act.put, List.setIfInBounds_toArray, List.set_cons_zero, List.set_cons_succ]
                    refine wpAnyH_take (i := 15) (oi := ?on52) (v := ?vn52) ?hin52 ?an52 ?bn52 ?cn52 ?qn52 (Or.inl ⟨?dn52, ?hyn52⟩) hHeld ?restn52
                    case hin52 => (simp only [List.getElem?_toArray, List.getElem?_cons_succ, List.getElem?_cons_zero]; exact rfl)
                    case an52 => kernel_rfl
                    case bn52 => kernel_rfl
                    case cn52 => kernel_rfl
                    case qn52 => exact fun _ _ _ h => h
                    case dn52 => rfl
                    case hyn52 => (intro z hSw; (try dsimp only at hSw); go_simp; (try with_reducible rfl))
                    try simp only [Act.put, List.setIfInBounds_toArray, List.set_cons_zero, List.set_cons_succ]
                    refine wpAnyH_take (i := 16) (oi := ?on53) (v := ?vn53) ?hin53 ?an53 ?bn53 ?cn53 ?qn53 (Or.inl ⟨?dn53, ?hyn53⟩) hHeld ?restn53
                    case hin53 => (simp only [List.getElem?_toArray, List.getElem?_cons_succ, List.getElem?_cons_zero]; exact rfl)
                    case an53 => kernel_rfl
                    case bn53 => kernel_rfl
                    case cn53 => kernel_rfl
                    case qn53 => exact fun _ _ _ h => h
                    case dn53 => rfl
                    case hyn53 => (intro z hSw; (try dsimp only at hSw); go_simp; (try with_reducible rfl))
                    try simp only [Act.put, List.setIfInBounds_toArray, List.set_cons_zero, List.set_cons_succ]
                    refine wpAnyH_take (i := 17) (oi := ?on54) (v := ?vn54) ?hin54 ?an54 ?bn54 ?cn54 ?qn54 (Or.inl ⟨?dn54, ?hyn54⟩) hHeld ?restn54
                    case hin54 => (simp only [List.getElem?_toArray, List.getElem?_cons_succ, List.getElem?_cons_zero]; exact rfl)
                    case an54 => kernel_rfl
                    case bn54 => kernel_rfl
                    case cn54 => kernel_rfl
                    case qn54 => exact fun _ _ _ h => h
                    case dn54 => rfl
                    case hyn54 => (intro z hSw; (try dsimp only at hSw); go_simp; (try with_reducible rfl))
                    try simp only [Act.put, List.setIfInBounds_toArray, List.set_cons_zero, List.set_cons_succ]
                    refine wpAnyH_take (i := 18) (oi := ?on55) ?hin55 ?an55 ?bn55 ?cn55 ?qn55 (Or.inr ⟨?dn55, rfl⟩) hHeld ?restn55
                    case hin55 => (simp only [List.getElem?_toArray, List.getElem?_cons_succ, List.getElem?_cons_zero]; exact rfl)
                    case an55 => kernel_rfl
                    case bn55 => kernel_rfl
                    case cn55 => kernel_rfl
                    case qn55 => exact fun _ _ _ h => h
                    case dn55 => rfl
                    try simp only [Act.put, List.setIfInBounds_toArray, List.set_cons_zero, List.set_cons_succ]
                    refine wpAnyH_take (i := 19) (oi := ?on56) ?hin56 ?an56 ?bn56 ?cn56 ?qn56 (Or.inr ⟨?dn56, rfl⟩) hHeld ?restn56
                    case hin56 => (simp only [List.getElem?_toArray, List.getElem?_cons_succ, List.getElem?_cons_zero]; exact rfl)
                    case an56 => kernel_rfl
                    case bn56 => kernel_rfl
                    case cn56 => kernel_rfl
                    case qn56 => exact fun _ _ _ h => h
                    case dn56 => rfl
                    try simp only [Act.put, List.setIfInBounds_toArray, List.set_cons_zero, List.set_cons_succ]
                    refine wpAnyH_take (i := 20) (oi := ?on57) ?hin57 ?an57 ?bn57 ?cn57 ?qn57 (Or.inr ⟨?dn57, rfl⟩) hHeld ?restn57
                    case hin57 => (simp only [List.getElem?_toArray, List.getElem?_cons_succ, List.getElem?_cons_zero]; exact rfl)
                    case an57 => kernel_rfl
                    case bn57 => kernel_rfl
                    case cn57 => kernel_rfl
                    case qn57 => exact fun _ _ _ h => h
                    case dn57 => rfl
                    try simp only [Act.put, List.setIfInBounds_toArray, List.set_cons_zero, List.set_cons_succ]
                    refine wpAnyH_take (i := 21) (oi := ?on58) ?hin58 ?an58 ?bn58 ?cn58 ?qn58 (Or.inr ⟨?dn58, rfl⟩) hHeld ?restn58
                    case hin58 => (simp only [List.getElem?_toArray, List.getElem?_cons_succ, List.getElem?_cons_zero]; exact rfl)
                    case an58 => kernel_rfl
                    case bn58 => kernel_rfl
                    case cn58 => kernel_rfl
                    case qn58 => exact fun _ _ _ h => h
                    case dn58 => rfl
                    try simp only [Act.put, List.setIfInBounds_toArray, List.set_cons_zero, List.set_cons_succ]
                    refine wpAnyH_take (i := 22) (oi := ?on59) ?hin59 ?an59 ?bn59 ?cn59 ?qn59 (Or.inr ⟨?dn59, rfl⟩) hHeld ?restn59
                    case hin59 => (simp only [List.getElem?_toArray, List.getElem?_cons_succ, List.getElem?_cons_zero]; exact rfl)
                    case an59 => kernel_rfl
                    case bn59 => kernel_rfl
                    case cn59 => kernel_rfl
                    case qn59 => exact fun _ _ _ h => h
                    case dn59 => rfl
                    try simp only [Act.put, List.setIfInBounds_toArray, List.set_cons_zero, List.set_cons_succ]
                    refine wpAnyH_take (i := 23) (oi := ?on60) ?hin60 ?an60 ?bn60 ?cn60 ?qn60 (Or.inr ⟨?dn60, rfl⟩) hHeld ?restn60
                    case hin60 => (simp only [List.getElem?_toArray, List.getElem?_cons_succ, List.getElem?_cons_zero]; exact rfl)
                    case an60 => kernel_rfl
                    case bn60 => kernel_rfl
                    case cn60 => kernel_rfl
                    case qn60 => exact fun _ _ _ h => h
                    case dn60 => rfl
                    try simp only [Act.put, List.setIfInBounds_toArray, List.set_cons_zero, List.set_cons_succ]
                    refine wpAnyH_take (i := 24) (oi := ?on61) ?hin61 ?an61 ?bn61 ?cn61 ?qn61 (Or.inr ⟨?dn61, rfl⟩) hHeld ?restn61
                    case hin61 => (simp only [List.getElem?_toArray, List.getElem?_cons_succ, List.getElem?_cons_zero]; exact rfl)
                    case an61 => kernel_rfl
                    case bn61 => kernel_rfl
                    case cn61 => kernel_rfl
                    case qn61 => exact fun _ _ _ h => h
                    case dn61 => rfl
                    try simp only [Act.put, List.setIfInBounds_toArray, List.set_cons_zero, List.set_cons_succ]
                    refine wpAnyH_take (i := 25) (oi := ?on62) (v := ?vn62) ?hin62 ?an62 ?bn62 ?cn62 ?qn62 (Or.inl ⟨?dn62, ?hyn62⟩) hHeld ?restn62
                    case hin62 => (simp only [List.getElem?_toArray, List.getElem?_cons_succ, List.getElem?_cons_zero]; exact rfl)
                    case an62 => kernel_rfl
                    case bn62 => kernel_rfl
                    case cn62 => kernel_rfl
                    case qn62 => exact fun _ _ _ h => h
                    case dn62 => rfl
                    case hyn62 => (intro z hSw; (try dsimp only at hSw); go_simp; (try with_reducible rfl))
                    try simp only [Act.put, List.setIfInBounds_toArray, List.set_cons_zero, List.set_cons_succ]
                    refine wpAnyH_take (i := 26) (oi := ?on63) (v := ?vn63) ?hin63 ?an63 ?bn63 ?cn63 ?qn63 (Or.inl ⟨?dn63, ?hyn63⟩) hHeld ?restn63
                    case hin63 => (simp only [List.getElem?_toArray, List.getElem?_cons_succ, List.getElem?_cons_zero]; exact rfl)
                    case an63 => kernel_rfl
                    case bn63 => kernel_rfl
                    case cn63 => kernel_rfl
                    case qn63 => exact fun _ _ _ h => h
                    case dn63 => rfl
                    case hyn63 => (intro z hSw; (try dsimp only at hSw); go_simp; (try with_reducible rfl))
                    try simp only [Act.put, List.setIfInBounds_toArray, List.set_cons_zero, List.set_cons_succ]
                    refine wpAnyH_take (i := 27) (oi := ?on64) ?hin64 ?an64 ?bn64 ?cn64 ?qn64 (Or.inr ⟨?dn64, rfl⟩) hHeld ?restn64
                    case hin64 => (simp only [List.getElem?_toArray, List.getElem?_cons_succ, List.getElem?_cons_zero]; exact rfl)
                    case an64 => kernel_rfl
                    case bn64 => kernel_rfl
                    case cn64 => kernel_rfl
                    case qn64 => exact fun _ _ _ h => h
                    case dn64 => rfl
                    try simp only [Act.put, List.setIfInBounds_toArray, List.set_cons_zero, List.set_cons_succ]
                    refine wpAnyH_take (i := 28) (oi := ?on65) ?hin65 ?an65 ?bn65 ?cn65 ?qn65 (Or.inr ⟨?dn65, rfl⟩) hHeld ?restn65
                    case hin65 => (simp only [List.getElem?_toArray, List.getElem?_cons_succ, List.getElem?_cons_zero]; exact rfl)
                    case an65 => kernel_rfl
                    case bn65 => kernel_rfl
                    case cn65 => kernel_rfl
                    case qn65 => exact fun _ _ _ h => h
                    case dn65 => rfl
                    try simp only [Act.put, List.setIfInBounds_toArray, List.set_cons_zero, List.set_cons_succ]
                    refine wpAnyH_take (i := 29) (oi := ?on66) ?hin66 ?an66 ?bn66 ?cn66 ?qn66 (Or.inr ⟨?dn66, rfl⟩) hHeld ?restn66
                    case hin66 => (simp only [List.getElem?_toArray, List.getElem?_cons_succ, List.getElem?_cons_zero]; exact rfl)
                    case an66 => kernel_rfl
                    case bn66 => kernel_rfl
                    case cn66 => kernel_rfl
                    case qn66 => exact fun _ _ _ h => h
                    case dn66 => rfl
                    try simp only [Act.put, List.setIfInBounds_toArray, List.set_cons_zero, List.set_cons_succ]
                    refine wpAnyH_take (i := 30) (oi := ?on67) ?hin67 ?an67 ?bn67 ?cn67 ?qn67 (Or.inr ⟨?dn67, rfl⟩) hHeld ?restn67
                    case hin67 => (simp only [List.getElem?_toArray, List.getElem?_cons_succ, List.getElem?_cons_zero]; exact rfl)
                    case an67 => kernel_rfl
                    case bn67 => kernel_rfl
                    case cn67 => kernel_rfl
                    case qn67 => exact fun _ _ _ h => h
                    case dn67 => rfl
                    try simp only [Act.put, List.setIfInBounds_toArray, List.set_cons_zero, List.set_cons_succ]
                    refine wpAnyH_take (i := 31) (oi := ?on68) ?hin68 ?an68 ?bn68 ?cn68 ?qn68 (Or.inr ⟨?dn68, rfl⟩) hHeld ?restn68
                    case hin68 => (simp only [List.getElem?_toArray, List.getElem?_cons_succ, List.getElem?_cons_zero]; exact rfl)
                    case an68 => kernel_rfl
                    case bn68 => kernel_rfl
                    case cn68 => kernel_rfl
                    case qn68 => exact fun _ _ _ h => h
                    case dn68 => rfl
                    try simp only [Act.put, List.setIfInBounds_toArray, List.set_cons_zero, List.set_cons_succ]
                    refine wpAnyH_take (i := 32) (oi := ?on69) ?hin69 ?an69 ?bn69 ?cn69 ?qn69 (Or.inr ⟨?dn69, rfl⟩) hHeld ?restn69
                    case hin69 => (simp only [List.getElem?_toArray, List.getElem?_cons_succ, List.getElem?_cons_zero]; exact rfl)
                    case an69 => kernel_rfl
                    case bn69 => kernel_rfl
                    case cn69 => kernel_rfl
                    case qn69 => exact fun _ _ _ h => h
                    case dn69 => rfl
                    try simp only [Act.put, List.setIfInBounds_toArray, List.set_cons_zero, List.set_cons_succ]
                    refine wpAnyH_take (i := 33) (oi := ?on70) ?hin70 ?an70 ?bn70 ?cn70 ?qn70 (Or.inr ⟨?dn70, rfl⟩) hHeld ?restn70
                    case hin70 => (simp only [List.getElem?_toArray, List.getElem?_cons_succ, List.getElem?_cons_zero]; exact rfl)
                    case an70 => kernel_rfl
                    case bn70 => kernel_rfl
                    case cn70 => kernel_rfl
                    case qn70 => exact fun _ _ _ h => h
                    case dn70 => rfl
                    try simp only [Act.put, List.setIfInBounds_toArray, List.set_cons_zero, List.set_cons_succ]
                    refine wpAnyH_take (i := 34) (oi := ?on71) (v := ?vn71) ?hin71 ?an71 ?bn71 ?cn71 ?qn71 (Or.inl ⟨?dn71, ?hyn71⟩) hHeld ?restn71
                    case hin71 => (simp only [List.getElem?_toArray, List.getElem?_cons_succ, List.getElem?_cons_zero]; exact rfl)
                    case an71 => kernel_rfl
                    case bn71 => kernel_rfl
                    case cn71 => kernel_rfl
                    case qn71 => exact fun _ _ _ h => h
                    case dn71 => rfl
                    case hyn71 => (intro z hSw; (try dsimp only at hSw); go_simp; (try with_reducible rfl))
                    try simp only [Act.put, List.setIfInBounds_toArray, List.set_cons_zero, List.set_cons_succ]
                    refine wpAnyH_take (i := 35) (oi := ?on72) (v := ?vn72) ?hin72 ?an72 ?bn72 ?cn72 ?qn72 (Or.inl ⟨?dn72, ?hyn72⟩) hHeld ?restn72
                    case hin72 => (simp only [List.getElem?_toArray, List.getElem?_cons_succ, List.getElem?_cons_zero]; exact rfl)
                    case an72 => kernel_rfl
                    case bn72 => kernel_rfl
                    case cn72 => kernel_rfl
                    case qn72 => exact fun _ _ _ h => h
                    case dn72 => rfl
                    case hyn72 => (intro z hSw; (try dsimp only at hSw); go_simp; (try with_reducible rfl))
                    try simp only [Act.put, List.setIfInBounds_toArray, List.set_cons_zero, List.set_cons_succ]
                    refine wpAnyH_done (by kernel_rfl) ?_ _
                    go_wp2_with fail
                    go_roundw
                    case rel => exact ⟨q + 1, by omega, by go_num, hZd⟩
                    case measure => simp [intOf]; omega
                · obtain rfl : q = n := by omega
                  go_wp2_with fail
                  go_roundw
                  case rel => exact ⟨k + 1, by omega, by go_num, hZ⟩
                  case measure => simp [intOf]; omega
          · obtain rfl : k = n := by omega
            go_wp2_with fail
            go_roundw
            case rel => exact ⟨j + 1, by omega, by go_num, hY, hs⟩
            case measure => simp [intOf]; omega
      · have hv := Lib.hid (hA.out (decide_eq_false hd))
        have hne : (((dif (img A (nt A j)) (nt A j) : Nat) : Int) != 0) = true := by
          rw [bne_iff_ne]
          omega
        clear hA hS hd
        generalize hdd : dif (img A (nt A j)) (nt A j) = dd at *
        clear hdd
        generalize hmg : img A (nt A j) = mg at *
        clear hmg
        generalize nt A j = m at *
        go_wp2_with fail
        go_quiet (first | (go_at_call 45; exact Calls.quiet_of_same (hi.out _ (by first | exact hgwr.out | exact hgwr.out.drew | exact hgwr.out.drewN _))))
        go_wp2_with fail
        go_ret
        exact ⟨by rw [hv.out]; rfl, HG.out.trans (hB.drewN _)⟩
    · obtain rfl : j = n := by omega
      have hv := Lib.hid (HZ.out HJ.out)
      go_wp2_with fail
      go_ret
      exact ⟨by rw [hv.out]; rfl, HG.out.trans hB⟩
set_option maxHeartbeats 4000000 in
set_option maxRecDepth 100000 in
theorem l05Flag8_c (v : Value) (A : List Nat) (w : World) (h : Ints w v (zs A)) (hA : Rl A) :
    Calls Tryz.prog 44 #[.agg #[.int .i64 (A.length : Int), v], .int .i64 8] w fun e w' => e = .returned (.bool (antiB A)) ∧ Grew w w' := by
  obtain ⟨R, hR⟩ : ∃ R, R = antiB A := ⟨_, rfl⟩
  rw [← hR]
  unfold antiB at hR
  have HA := Lib.hid (fun k hk h => hR.trans (@allB_no A.length (fun x => allB A.length (antiX A x)) k hk h))
  have HZ := Lib.hid (fun h => hR.trans (@allB_of A.length (fun x => allB A.length (antiX A x)) h))
  have hn30 := hA.1
  have HB := Lib.hid (fun i (hi : i < A.length) k (hk : k < 64) => l01Bit_q (nt A i) k (by have := hA.sm.at_ hi; omega) hk)
  have hal := (Grew.refl w).alloc (.cells #[.int .i64 (A.length : Int), v] 63)
  have y0 : ∀ W, Grew (w.alloc (.cells #[.int .i64 (A.length : Int), v] 63)) W → W.cell? ⟨w.heap.size, 0, none⟩ = some (.int .i64 (A.length : Int)) := fun W hW => (hW.cell (p := ⟨w.heap.size, 0, none⟩) (by simp)).trans (by simp)
  have y1 : ∀ W, Grew (w.alloc (.cells #[.int .i64 (A.length : Int), v] 63)) W → W.cell? ⟨w.heap.size, 1, none⟩ = some v := fun W hW => (hW.cell (p := ⟨w.heap.size, 1, none⟩) (by simp)).trans (by simp)
  obtain ⟨w1, hw1⟩ : ∃ w1, w1 = w.alloc (.cells #[.int .i64 (A.length : Int), v] 63) := ⟨_, rfl⟩
  rw [← hw1] at y0 y1 hal
  have HG := Lib.hid hal
  have r1 := Grew.refl w1
  have r1d := r1.drew
  obtain ⟨A', c, rfl⟩ := ints_sliceN h
  have HC := Lib.hid (fun h0 => cellsN h h0)
  clear h hA hR hal
  generalize hN : A.length = n at *
  clear hN
  go_enter Tryz.func44, Tryz.ntmps44
  go_wp2_with fail
  simp only [← hw1]
  clear hw1
  go_quiet (fail)
  go_wp2_with fail
  go_loopw [7] (fun i wr => ∃ j : Nat, j ≤ n ∧ i = .int .i64 j ∧ Grew w1 wr ∧ Hid (AllK (fun x => allB n (antiX A x)) j)) (fun i _ => n - (intOf i).toNat)
  case atStart => exact ⟨0, Nat.zero_le _, rfl, (Grew.refl _).drewN _, AllK.zero _⟩
  case round =>
    obtain ⟨j, hj, rfl, hB, HJ⟩ := hrel
    by_cases hlt : j < n
    · obtain ⟨b, o, rfl, hcell⟩ := HC.out (by omega)
      have hgw := HG.out
      have HX := Lib.hid (fun i hi W (hW : Grew w1 W) => hcell i hi W (hgw.trans hW))
      have hcx := fun W (hW : Grew wr W) => HX.out j hlt W (hB.trans hW)
      have rx := Grew.refl wr
      have hA := Lib.hid (HA.out j hlt)
      have hS := Lib.hid (fun h => HJ.out.succ (k := j) h)
      have hBx := Lib.hid (HB.out j hlt)
      clear hcell
      go_wp2_with fail
      go_loopw [8] (fun i wy => ∃ k : Nat, k ≤ n ∧ i = .int .i64 k ∧ Grew w1 wy ∧ Hid (AllK (antiX A j) k)) (fun i _ => n - (intOf i).toNat)
      case atStart => exact ⟨0, Nat.zero_le _, rfl, hB, AllK.zero _⟩
      case round =>
        obtain ⟨k, hk, rfl, hY, HK⟩ := hrel
        by_cases hlk : k < n
        · have hcy := fun W (hW : Grew wr W) => HX.out j hlt W (hY.trans hW)
          have ry := Grew.refl wr
          have hb2 := Lib.hid (hBx.out k (by omega))
          have hKS := Lib.hid (fun h => HK.out.succ (k := k) h)
          have hKN := Lib.hid (fun h => @allB_no n (antiX A j) k hlk h)
          have hcz := fun W (hW : Grew wr W) => HX.out k hlk W (hY.trans hW)
          have hb4 := Lib.hid (HB.out k hlk j (by omega))
          have hax : antiX A j k = !((nt A j).testBit k && (!(j == k) && (nt A k).testBit j)) := rfl
          cases ht : (nt A j).testBit k with
          | false =>
            rw [ht] at hb2 hax
            have hks := Lib.hid (hKS.out (by rw [hax]; simp))
            clear hax hKS hKN ht
            generalize nt A j = m at *
            clear hcx hcz hb4
            go_wp2_with fail
            refine (hb2.out _).mono ?_
            rintro e w3 ⟨rfl, rfl⟩
            go_wp2_with fail
            go_roundw
            case rel => exact ⟨k + 1, by omega, by go_num, hY, hks⟩
            case measure => simp [intOf]; omega
          | true =>
            rw [ht] at hb2 hax
            rw [Bool.true_and] at hax
            by_cases hjk : j = k
            · have hj1 : ((j : Int) != (k : Int)) = false := by rw [hjk]; simp
              have hks := Lib.hid (hKS.out (by rw [hax, hjk]; simp))
              clear hax hKS hKN ht hjk hb4 hcz
              go_wp2_with fail
              refine (hb2.out _).mono ?_
              rintro e w3 ⟨rfl, rfl⟩
              go_wp2_with fail
              go_loopw [9] (fun i wz => ∃ q : Nat, q ≤ n ∧ i = .int .i64 q ∧ Grew w1 wz) (fun i _ => n - (intOf i).toNat)
              case atStart => exact ⟨0, Nat.zero_le _, rfl, hY⟩
              case round =>
                obtain ⟨q, hq, rfl, hZ⟩ := hrel
                by_cases hlq : q < n
                · have hcw := fun W (hW : Grew wr W) => HX.out j hlt W (hZ.trans hW)
                  have rz := Grew.refl wr
                  have hZd := hZ.drew
                  have hb3 := Lib.hid (hBx.out q (by omega))
                  cases ht3 : (nt A j).testBit q with
                  | false =>
                    rw [ht3] at hb3
                    clear ht3
                    generalize nt A j = m at *
                    clear hcx hcy
                    go_wp2_with fail
                    refine (hb3.out _).mono ?_
                    rintro e w4 ⟨rfl, rfl⟩
                    go_wp2_with fail
                    go_roundw
                    case rel => exact ⟨q + 1, by omega, by go_num, hZ⟩
                    case measure => simp [intOf]; omega
                  | true =>
                    rw [ht3] at hb3
                    clear ht3
                    generalize nt A j = m at *
                    clear hcx hcy
                    go_wp2_with fail
                    refine (hb3.out _).mono ?_
                    rintro e w4 ⟨rfl, rfl⟩
                    go_wp2_with fail
                    refine wp_region_held_drew (S := fun w' => Grew w1 w') (by kernel_rfl) hZd (fun hHeld => ?_)
                    refine wpAnyH_take (i := 0) (oi := ?on73) (v := ?vn73) ?hin73 ?an73 ?bn73 ?cn73 ?qn73 (Or.inl ⟨?dn73, ?hyn73⟩) hHeld ?restn73
                    case hin73 => (simp only [List.getElem?_toArray, List.getElem?_cons_zero]; exact rfl)
                    case an73 => kernel_rfl
                    case bn73 => kernel_rfl
                    case cn73 => kernel_rfl
                    case qn73 => exact fun _ _ _ h => h
                    case dn73 => rfl
                    case hyn73 => (intro z hSw; (try dsimp only at hSw); go_simp; (try with_reducible rfl))
                    try simp only [Act.put, List.setIfInBounds_toArray, List.set_cons_zero, List.set_cons_succ]
                    refine wpAnyH_take (i := 1) (oi := ?on74) (v := ?vn74) ?hin74 ?an74 ?bn74 ?cn74 ?qn74 (Or.inl ⟨?dn74, ?hyn74⟩) hHeld ?restn74
                    case hin74 => (simp only [List.getElem?_toArray, List.getElem?_cons_succ, List.getElem?_cons_zero]; exact rfl)
                    case an74 => kernel_rfl
                    case bn74 => kernel_rfl
                    case cn74 => kernel_rfl
                    case qn74 => exact fun _ _ _ h => h
                    case dn74 => rfl
                    case hyn74 => (intro z hSw; (try dsimp only at hSw); go_simp; (try with_reducible rfl))
                    try simp only [Act.put, List.setIfInBounds_toArray, List.set_cons_zero, List.set_cons_succ]
                    refine wpAnyH_take (i := 2) (oi := ?on75) (v := ?vn75) ?hin75 ?an75 ?bn75 ?cn75 ?qn75 (Or.inl ⟨?dn75, ?hyn75⟩) hHeld ?restn75
                    case hin75 => (simp only [List.getElem?_toArray, List.getElem?_cons_succ, List.getElem?_cons_zero]; exact rfl)
                    case an75 => kernel_rfl
                    case bn75 => kernel_rfl
                    case cn75 => kernel_rfl
                    case qn75 => exact fun _ _ _ h => h
                    case dn75 => rfl
                    case hyn75 => (intro z hSw; (try dsimp only at hSw); go_simp; (try with_reducible rfl))
                    try simp only [Act.put, List.setIfInBounds_toArray, List.set_cons_zero, List.set_cons_succ]
                    refine wpAnyH_take (i := 3) (oi := ?on76) ?hin76 ?an76 ?bn76 ?cn76 ?qn76 (Or.inr ⟨?dn76, rfl⟩) hHeld ?restn76
                    case hin76 => (simp only [List.getElem?_toArray, List.getElem?_cons_succ, List.getElem?_cons_zero]; exact rfl)
                    case an76 => kernel_rfl
                    case bn76 => kernel_rfl
                    case cn76 => kernel_rfl
                    case qn76 => exact fun _ _ _ h => h
                    case dn76 => rfl
                    try simp only [Act.put, List.setIfInBounds_toArray, List.set_cons_zero, List.set_cons_succ]
                    refine wpAnyH_take (i := 4) (oi := ?on77) ?hin77 ?an77 ?bn77 ?cn77 ?qn77 (Or.inr ⟨?dn77, rfl⟩) hHeld ?restn77
                    case hin77 => (simp only [List.getElem?_toArray, List.getElem?_cons_succ, List.getElem?_cons_zero]; exact rfl)
                    case an77 => kernel_rfl
                    case bn77 => kernel_rfl
                    case cn77 => kernel_rfl
                    case qn77 => exact fun _ _ _ h => h
                    case dn77 => rfl
                    try simp only [Act.put, List.setIfInBounds_toArray, List.set_cons_zero, List.set_cons_succ]
                    refine wpAnyH_take (i := 5) (oi := ?on78) ?hin78 ?an78 ?bn78 ?cn78 ?qn78 (Or.inr ⟨?dn78, rfl⟩) hHeld ?restn78
                    case hin78 => (simp only [List.getElem?_toArray, List.getElem?_cons_succ, List.getElem?_cons_zero]; exact rfl)
                    case an78 => kernel_rfl
                    case bn78 => kernel_rfl
                    case cn78 => kernel_rfl
                    case qn78 => exact fun _ _ _ h => h
                    case dn78 => rfl
                    try simp only [Act.put, List.setIfInBounds_toArray, List.set_cons_zero, List.set_cons_succ]
                    refine wpAnyH_take (i := 6) (oi := ?on79) ?hin79 ?an79 ?bn79 ?cn79 ?qn79 (Or.inr ⟨?dn79, rfl⟩) hHeld ?restn79
                    case hin79 => (simp only [List.getElem?_toArray, List.getElem?_cons_succ, List.getElem?_cons_zero]; exact rfl)
                    case an79 => kernel_rfl
                    case bn79 => kernel_rfl
                    case cn79 => kernel_rfl
                    case qn79 => exact fun _ _ _ h => h
                    case dn79 => rfl
                    try simp only [Act.put, List.setIfInBounds_toArray, List.set_cons_zero, List.set_cons_succ]
                    refine wpAnyH_take (i := 7) (oi := ?on80) ?hin80 ?an80 ?bn80 ?cn80 ?qn80 (Or.inr ⟨?dn80, rfl⟩) hHeld ?restn80
                    case hin80 => (simp only [List.getElem?_toArray, List.getElem?_cons_succ, List.getElem?_cons_zero]; exact rfl)
                    case an80 => kernel_rfl
                    case bn80 => kernel_rfl
                    case cn80 => kernel_rfl
                    case qn80 => exact fun _ _ _ h => h
                    case dn80 => rfl
                    try simp only [Act.put, List.setIfInBounds_toArray, List.set_cons_zero, List.set_cons_succ]
                    refine wpAnyH_take (i := 8) (oi := ?on81) ?hin81 ?an81 ?bn81 ?cn81 ?qn81 (Or.inr ⟨?dn81, rfl⟩) hHeld ?restn81
                    case hin81 => (simp only [List.getElem?_toArray, List.getElem?_cons_succ, List.getElem?_cons_zero]; exact rfl)
                    case an81 => kernel_rfl
                    case bn81 => kernel_rfl
                    case cn81 => kernel_rfl
                    case qn81 => exact fun _ _ _ h => h
                    case dn81 => rfl
                    try simp only [Act.put, List.setIfInBounds_toArray, List.set_cons_zero, List.set_cons_succ]
                    refine wpAnyH_take (i := 9) (oi := ?on82) ?hin82 ?an82 ?bn82 ?cn82 ?qn82 (Or.inr ⟨?dn82, rfl⟩) hHeld ?restn82
                    case hin82 => (simp only [List.getElem?_toArray, List.getElem?_cons_succ, List.getElem?_cons_zero]; exact rfl)
                    case an82 => kernel_rfl
                    case bn82 => kernel_rfl
                    case cn82 => kernel_rfl
                    case qn82 => exact fun _ _ _ h => h
                    case dn82 => rfl
                    try simp only [Act.put, List.setIfInBounds_toArray, List.set_cons_zero, List.set_cons_succ]
                    refine wpAnyH_take (i := 10) (oi := ?on83) ?hin83 ?an83 ?bn83 ?cn83 ?qn83 (Or.inr ⟨?dn83, rfl⟩) hHeld ?restn83
                    case hin83 => (simp only [List.getElem?_toArray, List.getElem?_cons_succ, List.getElem?_cons_zero]; exact rfl)
                    case an83 => kernel_rfl
                    case bn83 => kernel_rfl
                    case cn83 => kernel_rfl
                    case qn83 => exact fun _ _ _ h => h
                    case dn83 => rfl
                    try simp only [Act.put, List.setIfInBounds_toArray, List.set_cons_zero, List.set_cons_succ]
                    refine wpAnyH_take (i := 11) (oi := ?on84) ?hin84 ?an84 ?bn84 ?cn84 ?qn84 (Or.inr ⟨?dn84, rfl⟩) hHeld ?restn84
                    case hin84 => (simp only [List.getElem?_toArray, List.getElem?_cons_succ, List.getElem?_cons_zero]; exact rfl)
                    case an84 => kernel_rfl
                    case bn84 => kernel_rfl
                    case cn84 => kernel_rfl
                    case qn84 => exact fun _ _ _ h => h
                    case dn84 => rfl
                    try simp only [Act.put, List.setIfInBounds_toArray, List.set_cons_zero, List.set_cons_succ]
                    refine wpAnyH_take (i := 12) (oi := ?on85) ?hin85 ?an85 ?bn85 ?cn85 ?qn85 (Or.inr ⟨?dn85, rfl⟩) hHeld ?restn85
                    case hin85 => (simp only [List.getElem?_toArray, List.getElem?_cons_succ, List.getElem?_cons_zero]; exact rfl)
                    case an85 => kernel_rfl
                    case bn85 => kernel_rfl
                    case cn85 => kernel_rfl
                    case qn85 => exact fun _ _ _ h => h
                    case dn85 => rfl
                    try simp only [Act.put, List.setIfInBounds_toArray, List.set_cons_zero, List.set_cons_succ]
                    refine wpAnyH_take (i := 13) (oi := ?on86) (v := ?vn86) ?hin86 ?an86 ?bn86 ?cn86 ?qn86 (Or.inl ⟨?dn86, ?hyn86⟩) hHeld ?restn86
                    case hin86 => (simp only [List.getElem?_toArray, List.getElem?_cons_succ, List.getElem?_cons_zero]; exact rfl)
                    case an86 => kernel_rfl
                    case bn86 => kernel_rfl
                    case cn86 => kernel_rfl
                    case qn86 => exact fun _ _ _ h => h
                    case dn86 => rfl
                    case hyn86 => (intro z hSw; (try dsimp only at hSw); go_simp; (try with_reducible rfl))
                    try simp only [Act.put, List.setIfInBounds_toArray, List.set_cons_zero, List.set_cons_succ]
                    refine wpAnyH_take (i := 14) (oi := ?on87) (v := ?vn87) ?hin87 ?an87 ?bn87 ?cn87 ?qn87 (Or.inl ⟨?dn87, ?hyn87⟩) hHeld ?restn87
                    case hin87 => (simp only [List.getElem?_toArray, List.getElem?_cons_succ, List.getElem?_cons_zero]; exact rfl)
                    case an87 => kernel_rfl
                    case bn87 => kernel_rfl
                    case cn87 => kernel_rfl
                    case qn87 => exact fun _ _ _ h => h
                    case dn87 => rfl
                    case hyn87 => (intro z hSw; (try dsimp only at hSw); go_simp; (try with_reducible rfl))
                    try simp only [Act.put, List.setIfInBounds_toArray, List.set_cons_zero, List.set_cons_succ]
                    refine wpAnyH_take (i := 15) (oi := ?on88) (v := ?vn88) ?hin88 ?an88 ?bn88 ?cn88 ?qn88 (Or.inl ⟨?dn88, ?hyn88⟩) hHeld ?restn88
                    case hin88 => (simp only [List.getElem?_toArray, List.getElem?_cons_succ, List.getElem?_cons_zero]; exact rfl)
                    case an88 => kernel_rfl
                    case bn88 => kernel_rfl
                    case cn88 => kernel_rfl
                    case qn88 => exact fun _ _ _ h => h
                    case dn88 => rfl
                    case hyn88 => (intro z hSw; (try dsimp only at hSw); go_simp; (try with_reducible rfl))
                    try simp only [Act.put, List.setIfInBounds_toArray, List.set_cons_zero, List.set_cons_succ]
                    refine wpAnyH_take (i := 16) (oi := ?on89) (v := ?vn89) ?hin89 ?an89 ?bn89 ?cn89 ?qn89 (Or.inl ⟨?dn89, ?hyn89⟩) hHeld ?restn89
                    case hin89 => (simp only [List.getElem?_toArray, List.getElem?_cons_succ, List.getElem?_cons_zero]; exact rfl)
                    case an89 => kernel_rfl
                    case bn89 => kernel_rfl
                    case cn89 => kernel_rfl
                    case qn89 => exact fun _ _ _ h => h
                    case dn89 => rfl
                    case hyn89 => (intro z hSw; (try dsimp only at hSw); go_simp; (try with_reducible rfl))
                    try simp only [Act.put, List.setIfInBounds_toArray, List.set_cons_zero, List.set_cons_succ]
                    refine wpAnyH_take (i := 17) (oi := ?on90) (v := ?vn90) ?hin90 ?an90 ?bn90 ?cn90 ?qn90 (Or.inl ⟨?dn90, ?hyn90⟩) hHeld ?restn90
                    case hin90 => (simp only [List.getElem?_toArray, List.getElem?_cons_succ, List.getElem?_cons_zero]; exact rfl)
                    case an90 => kernel_rfl
                    case bn90 => kernel_rfl
                    case cn90 => kernel_rfl
                    case qn90 => exact fun _ _ _ h => h
                    case dn90 => rfl
                    case hyn90 => (intro z hSw; (try dsimp only at hSw); go_simp; (try with_reducible rfl))
                    try simp only [Act.put, List.setIfInBounds_toArray, List.set_cons_zero, List.set_cons_succ]
                    refine wpAnyH_take (i := 18) (oi := ?on91) ?hin91 ?an91 ?bn91 ?cn91 ?qn91 (Or.inr ⟨?dn91, rfl⟩) hHeld ?restn91
                    case hin91 => (simp only [List.getElem?_toArray, List.getElem?_cons_succ, List.getElem?_cons_zero]; exact rfl)
                    case an91 => kernel_rfl
                    case bn91 => kernel_rfl
                    case cn91 => kernel_rfl
                    case qn91 => exact fun _ _ _ h => h
                    case dn91 => rfl
                    try simp only [Act.put, List.setIfInBounds_toArray, List.set_cons_zero, List.set_cons_succ]
                    refine wpAnyH_take (i := 19) (oi := ?on92) ?hin92 ?an92 ?bn92 ?cn92 ?qn92 (Or.inr ⟨?dn92, rfl⟩) hHeld ?restn92
                    case hin92 => (simp only [List.getElem?_toArray, List.getElem?_cons_succ, List.getElem?_cons_zero]; exact rfl)
                    case an92 => kernel_rfl
                    case bn92 => kernel_rfl
                    case cn92 => kernel_rfl
                    case qn92 => exact fun _ _ _ h => h
                    case dn92 => rfl
                    try simp only [Act.put, List.setIfInBounds_toArray, List.set_cons_zero, List.set_cons_succ]
                    refine wpAnyH_take (i := 20) (oi := ?on93) ?hin93 ?an93 ?bn93 ?cn93 ?qn93 (Or.inr ⟨?dn93, rfl⟩) hHeld ?restn93
                    case hin93 => (simp only [List.getElem?_toArray, List.getElem?_cons_succ, List.getElem?_cons_zero]; exact rfl)
                    case an93 => kernel_rfl
                    case bn93 => kernel_rfl
                    case cn93 => kernel_rfl
                    case qn93 => exact fun _ _ _ h => h
                    case dn93 => rfl
                    try simp only [Act.put, List.setIfInBounds_toArray, List.set_cons_zero, List.set_cons_succ]
                    refine wpAnyH_take (i := 21) (oi := ?on94) ?hin94 ?an94 ?bn94 ?cn94 ?qn94 (Or.inr ⟨?dn94, rfl⟩) hHeld ?restn94
                    case hin94 => (simp only [List.getElem?_toArray, List.getElem?_cons_succ, List.getElem?_cons_zero]; exact rfl)
                    case an94 => kernel_rfl
                    case bn94 => kernel_rfl
                    case cn94 => kernel_rfl
                    case qn94 => exact fun _ _ _ h => h
                    case dn94 => rfl
                    try simp only [Act.put, List.setIfInBounds_toArray, List.set_cons_zero, List.set_cons_succ]
                    refine wpAnyH_take (i := 22) (oi := ?on95) ?hin95 ?an95 ?bn95 ?cn95 ?qn95 (Or.inr ⟨?dn95, rfl⟩) hHeld ?restn95
                    case hin95 => (simp only [List.getElem?_toArray, List.getElem?_cons_succ, List.getElem?_cons_zero]; exact rfl)
                    case an95 => kernel_rfl
                    case bn95 => kernel_rfl
                    case cn95 => kernel_rfl
                    case qn95 => exact fun _ _ _ h => h
                    case dn95 => rfl
                    try simp only [Act.put, List.setIfInBounds_toArray, List.set_cons_zero, List.set_cons_succ]
                    refine wpAnyH_take (i := 23) (oi := ?on96) ?hin96 ?an96 ?bn96 ?cn96 ?qn96 (Or.inr ⟨?dn96, rfl⟩) hHeld ?restn96
                    case hin96 => (simp only [List.getElem?_toArray, List.getElem?_cons_succ, List.getElem?_cons_zero]; exact rfl)
                    case an96 => kernel_rfl
                    case bn96 => kernel_rfl
                    case cn96 => kernel_rfl
                    case qn96 => exact fun _ _ _ h => h
                    case dn96 => rfl
                    try simp only [Act.put, List.setIfInBounds_toArray, List.set_cons_zero, List.set_cons_succ]
                    refine wpAnyH_take (i := 24) (oi := ?on97) ?hin97 ?an97 ?bn97 ?cn97 ?qn97 (Or.inr ⟨?dn97, rfl⟩) hHeld ?restn97
                    case hin97 => (simp only [List.getElem?_toArray, List.getElem?_cons_succ, List.getElem?_cons_zero]; exact rfl)
                    case an97 => kernel_rfl
                    case bn97 => kernel_rfl
                    case cn97 => kernel_rfl
                    case qn97 => exact fun _ _ _ h => h
                    case dn97 => rfl
                    try simp only [Act.put, List.setIfInBounds_toArray, List.set_cons_zero, List.set_cons_succ]
                    refine wpAnyH_take (i := 25) (oi := ?on98) (v := ?vn98) ?hin98 ?an98 ?bn98 ?cn98 ?qn98 (Or.inl ⟨?dn98, ?hyn98⟩) hHeld ?restn98
                    case hin98 => (simp only [List.getElem?_toArray, List.getElem?_cons_succ, List.getElem?_cons_zero]; exact rfl)
                    case an98 => kernel_rfl
                    case bn98 => kernel_rfl
                    case cn98 => kernel_rfl
                    case qn98 => exact fun _ _ _ h => h
                    case dn98 => rfl
                    case hyn98 => (intro z hSw; (try dsimp only at hSw); go_simp; (try with_reducible rfl))
                    try simp only [Act.put, List.setIfInBounds_toArray, List.set_cons_zero, List.set_cons_succ]
                    refine wpAnyH_take (i := 26) (oi := ?on99) (v := ?vn99) ?hin99 ?an99 ?bn99 ?cn99 ?qn99 (Or.inl ⟨?dn99, ?hyn99⟩) hHeld ?restn99
                    case hin99 => (simp only [List.getElem?_toArray, List.getElem?_cons_succ, List.getElem?_cons_zero]; exact rfl)
                    case an99 => kernel_rfl
                    case bn99 => kernel_rfl
                    case cn99 => kernel_rfl
                    case qn99 => exact fun _ _ _ h => h
                    case dn99 => rfl
                    case hyn99 => (intro z hSw; (try dsimp only at hSw); go_simp; (try with_reducible rfl))
                    try simp only [Act.put, List.setIfInBounds_toArray, List.set_cons_zero, List.set_cons_succ]
                    refine wpAnyH_take (i := 27) (oi := ?on100) ?hin100 ?an100 ?bn100 ?cn100 ?qn100 (Or.inr ⟨?dn100, rfl⟩) hHeld ?restn100
                    case hin100 => (simp only [List.getElem?_toArray, List.getElem?_cons_succ, List.getElem?_cons_zero]; exact rfl)
                    case an100 => kernel_rfl
                    case bn100 => kernel_rfl
                    case cn100 => kernel_rfl
                    case qn100 => exact fun _ _ _ h => h
                    case dn100 => rfl
                    try simp only [Act.put, List.setIfInBounds_toArray, List.set_cons_zero, List.set_cons_succ]
                    refine wpAnyH_take (i := 28) (oi := ?on101) ?hin101 ?an101 ?bn101 ?cn101 ?qn101 (Or.inr ⟨?dn101, rfl⟩) hHeld ?restn101
                    case hin101 => (simp only [List.getElem?_toArray, List.getElem?_cons_succ, List.getElem?_cons_zero]; exact rfl)
                    case an101 => kernel_rfl
                    case bn101 => kernel_rfl
                    case cn101 => kernel_rfl
                    case qn101 => exact fun _ _ _ h => h
                    case dn101 => rfl
                    try simp only [Act.put, List.setIfInBounds_toArray, List.set_cons_zero, List.set_cons_succ]
                    refine wpAnyH_take (i := 29) (oi := ?on102) ?hin102 ?an102 ?bn102 ?cn102 ?qn102 (Or.inr ⟨?dn102, rfl⟩) hHeld ?restn102
                    case hin102 => (simp only [List.getElem?_toArray, List.getElem?_cons_succ, List.getElem?_cons_zero]; exact rfl)
                    case an102 => kernel_rfl
                    case bn102 => kernel_rfl
                    case cn102 => kernel_rfl
                    case qn102 => exact fun _ _ _ h => h
                    case dn102 => rfl
                    try simp only [Act.put, List.setIfInBounds_toArray, List.set_cons_zero, List.set_cons_succ]
                    refine wpAnyH_take (i := 30) (oi := ?on103) ?hin103 ?an103 ?bn103 ?cn103 ?qn103 (Or.inr ⟨?dn103, rfl⟩) hHeld ?restn103
                    case hin103 => (simp only [List.getElem?_toArray, List.getElem?_cons_succ, List.getElem?_cons_zero]; exact rfl)
                    case an103 => kernel_rfl
                    case bn103 => kernel_rfl
                    case cn103 => kernel_rfl
                    case qn103 => exact fun _ _ _ h => h
                    case dn103 => rfl
                    try simp only [Act.put, List.setIfInBounds_toArray, List.set_cons_zero, List.set_cons_succ]
                    refine wpAnyH_take (i := 31) (oi := ?on104) ?hin104 ?an104 ?bn104 ?cn104 ?qn104 (Or.inr ⟨?dn104, rfl⟩) hHeld ?restn104
                    case hin104 => (simp only [List.getElem?_toArray, List.getElem?_cons_succ, List.getElem?_cons_zero]; exact rfl)
                    case an104 => kernel_rfl
                    case bn104 => kernel_rfl
                    case cn104 => kernel_rfl
                    case qn104 => exact fun _ _ _ h => h
                    case dn104 => rfl
                    try simp only [Act.put, List.setIfInBounds_toArray, List.set_cons_zero, List.set_cons_succ]
                    refine wpAnyH_take (i := 32) (oi := ?on105) ?hin105 ?an105 ?bn105 ?cn105 ?qn105 (Or.inr ⟨?dn105, rfl⟩) hHeld ?restn105
                    case hin105 => (simp only [List.getElem?_toArray, List.getElem?_cons_succ, List.getElem?_cons_zero]; exact rfl)
                    case an105 => kernel_rfl
                    case bn105 => kernel_rfl
                    case cn105 => kernel_rfl
                    case qn105 => exact fun _ _ _ h => h
                    case dn105 => rfl
                    try simp only [Act.put, List.setIfInBounds_toArray, List.set_cons_zero, List.set_cons_succ]
                    refine wpAnyH_take (i := 33) (oi := ?on106) ?hin106 ?an106 ?bn106 ?cn106 ?qn106 (Or.inr ⟨?dn106, rfl⟩) hHeld ?restn106
                    case hin106 => (simp only [List.getElem?_toArray, List.getElem?_cons_succ, List.getElem?_cons_zero]; exact rfl)
                    case an106 => kernel_rfl
                    case bn106 => kernel_rfl
                    case cn106 => kernel_rfl
                    case qn106 => exact fun _ _ _ h => h
                    case dn106 => rfl
                    try simp only [Act.put, List.setIfInBounds_toArray, List.set_cons_zero, List.set_cons_succ]
                    refine wpAnyH_take (i := 34) (oi := ?on107) (v := ?vn107) ?hin107 ?an107 ?bn107 ?cn107 ?qn107 (Or.inl ⟨?dn107, ?hyn107⟩) hHeld ?restn107
                    case hin107 => (simp only [List.getElem?_toArray, List.getElem?_cons_succ, List.getElem?_cons_zero]; exact rfl)
                    case an107 => kernel_rfl
                    case bn107 => kernel_rfl
                    case cn107 => kernel_rfl
                    case qn107 => exact fun _ _ _ h => h
                    case dn107 => rfl
                    case hyn107 => (intro z hSw; (try dsimp only at hSw); go_simp; (try with_reducible rfl))
                    try simp only [Act.put, List.setIfInBounds_toArray, List.set_cons_zero, List.set_cons_succ]
                    refine wpAnyH_take (i := 35) (oi := ?on108) (v := ?vn108) ?hin108 ?an108 ?bn108 ?cn108 ?qn108 (Or.inl ⟨?dn108, ?hyn108⟩) hHeld ?restn108
                    case hin108 => (simp only [List.getElem?_toArray, List.getElem?_cons_succ, List.getElem?_cons_zero]; exact rfl)
                    case an108 => kernel_rfl
                    case bn108 => kernel_rfl
                    case cn108 => kernel_rfl
                    case qn108 => exact fun _ _ _ h => h
                    case dn108 => rfl
                    case hyn108 => (intro z hSw; (try dsimp only at hSw); go_simp; (try with_reducible rfl))
                    try simp only [Act.put, List.setIfInBounds_toArray, List.set_cons_zero, List.set_cons_succ]
                    refine wpAnyH_done (by kernel_rfl) ?_ _
                    go_wp2_with fail
                    go_roundw
                    case rel => exact ⟨q + 1, by omega, by go_num, hZd⟩
                    case measure => simp [intOf]; omega
                · obtain rfl : q = n := by omega
                  go_wp2_with fail
                  go_roundw
                  case rel => exact ⟨k + 1, by omega, by go_num, hZ, hks⟩
                  case measure => simp [intOf]; omega
            · have hj1 : ((j : Int) != (k : Int)) = true := by
                rw [bne_iff_ne]
                omega
              have hj2 : (j == k) = false := by rw [beq_eq_false_iff_ne]; exact hjk
              rw [hj2, Bool.not_false, Bool.true_and] at hax
              cases ht2 : (nt A k).testBit j with
              | true =>
                rw [ht2] at hb4 hax
                have hv := Lib.hid (hA.out (hKN.out (by rw [hax]; rfl)))
                clear hax hKS hKN ht hjk hj2 ht2
                generalize nt A j = m at *
                generalize nt A k = m2 at *
                go_wp2_with fail
                refine (hb2.out _).mono ?_
                rintro e w3 ⟨rfl, rfl⟩
                go_wp2_with fail
                refine (hb4.out _).mono ?_
                rintro e w4 ⟨rfl, rfl⟩
                go_wp2_with fail
                go_ret
                exact ⟨by rw [hv.out]; rfl, HG.out.trans hY⟩
              | false =>
                rw [ht2] at hb4 hax
                have hks := Lib.hid (hKS.out (by rw [hax]; rfl))
                clear hax hKS hKN ht hjk hj2 ht2
                go_wp2_with fail
                refine (hb2.out _).mono ?_
                rintro e w3 ⟨rfl, rfl⟩
                go_wp2_with fail
                refine (hb4.out _).mono ?_
                rintro e w4 ⟨rfl, rfl⟩
                go_wp2_with fail
                go_loopw [9] (fun i wz => ∃ q : Nat, q ≤ n ∧ i = .int .i64 q ∧ Grew w1 wz) (fun i _ => n - (intOf i).toNat)
                case atStart => exact ⟨0, Nat.zero_le _, rfl, hY⟩
                case round =>
                  obtain ⟨q, hq, rfl, hZ⟩ := hrel
                  by_cases hlq : q < n
                  · have hcw := fun W (hW : Grew wr W) => HX.out j hlt W (hZ.trans hW)
                    have rz := Grew.refl wr
                    have hZd := hZ.drew
                    have hb3 := Lib.hid (hBx.out q (by omega))
                    cases ht3 : (nt A j).testBit q with
                    | false =>
                      rw [ht3] at hb3
                      clear ht3
                      generalize nt A j = m at *
                      clear hcx hcy
                      go_wp2_with fail
                      refine (hb3.out _).mono ?_
                      rintro e w4 ⟨rfl, rfl⟩
                      go_wp2_with fail
                      go_roundw
                      case rel => exact ⟨q + 1, by omega, by go_num, hZ⟩
                      case measure => simp [intOf]; omega
                    | true =>
                      rw [ht3] at hb3
                      clear ht3
                      generalize nt A j = m at *
                      clear hcx hcy
                      go_wp2_with fail
                      refine (hb3.out _).mono ?_
                      rintro e w4 ⟨rfl, rfl⟩
                      go_wp2_with fail
                      refine wp_region_held_drew (S := fun w' => Grew w1 w') (by kernel_rfl) hZd (fun hHeld => ?_)
                      refine wpAnyH_take (i := 0) (oi := ?on109) (v := ?vn109) ?hin109 ?an109 ?bn109 ?cn109 ?qn109 (Or.inl ⟨?dn109, ?hyn109⟩) hHeld ?restn109
                      case hin109 => (simp only [List.getElem?_toArray, List.getElem?_cons_zero]; exact rfl)
                      case an109 => kernel_rfl
                      case bn109 => kernel_rfl
                      case cn109 => kernel_rfl
                      case qn109 => exact fun _ _ _ h => h
                      case dn109 => rfl
                      case hyn109 => (intro z hSw; (try dsimp only at hSw); go_simp; (try with_reducible rfl))
                      try simp only [Act.put, List.setIfInBounds_toArray, List.set_cons_zero, List.set_cons_succ]
                      refine wpAnyH_take (i := 1) (oi := ?on110) (v := ?vn110) ?hin110 ?an110 ?bn110 ?cn110 ?qn110 (Or.inl ⟨?dn110, ?hyn110⟩) hHeld ?restn110
                      case hin110 => (simp only [List.getElem?_toArray, List.getElem?_cons_succ, List.getElem?_cons_zero]; exact rfl)
                      case an110 => kernel_rfl
                      case bn110 => kernel_rfl
                      case cn110 => kernel_rfl
                      case qn110 => exact fun _ _ _ h => h
                      case dn110 => rfl
                      case hyn110 => (intro z hSw; (try dsimp only at hSw); go_simp; (try with_reducible rfl))
                      try simp only [Act.put, List.setIfInBounds_toArray, List.set_cons_zero, List.set_cons_succ]
                      refine wpAnyH_take (i := 2) (oi := ?on111) (v := ?vn111) ?hin111 ?an111 ?bn111 ?cn111 ?qn111 (Or.inl ⟨?dn111, ?hyn111⟩) hHeld ?restn111
                      case hin111 => (simp only [List.getElem?_toArray, List.getElem?_cons_succ, List.getElem?_cons_zero]; exact rfl)
                      case an111 => kernel_rfl
                      case bn111 => kernel_rfl
                      case cn111 => kernel_rfl
                      case qn111 => exact fun _ _ _ h => h
                      case dn111 => rfl
                      case hyn111 => (intro z hSw; (try dsimp only at hSw); go_simp; (try with_reducible rfl))
                      try simp only [Act.put, List.setIfInBounds_toArray, List.set_cons_zero, List.set_cons_succ]
                      refine wpAnyH_take (i := 3) (oi := ?on112) ?hin112 ?an112 ?bn112 ?cn112 ?qn112 (Or.inr ⟨?dn112, rfl⟩) hHeld ?restn112
                      case hin112 => (simp only [List.getElem?_toArray, List.getElem?_cons_succ, List.getElem?_cons_zero]; exact rfl)
                      case an112 => kernel_rfl
                      case bn112 => kernel_rfl
                      case cn112 => kernel_rfl
                      case qn112 => exact fun _ _ _ h => h
                      case dn112 => rfl
                      try simp only [Act.put, List.setIfInBounds_toArray, List.set_cons_zero, List.set_cons_succ]
                      refine wpAnyH_take (i := 4) (oi := ?on113) ?hin113 ?an113 ?bn113 ?cn113 ?qn113 (Or.inr ⟨?dn113, rfl⟩) hHeld ?restn113
                      case hin113 => (simp only [List.getElem?_toArray, List.getElem?_cons_succ, List.getElem?_cons_zero]; exact rfl)
                      case an113 => kernel_rfl
                      case bn113 => kernel_rfl
                      case cn113 => kernel_rfl
                      case qn113 => exact fun _ _ _ h => h
                      case dn113 => rfl
                      try simp only [Act.put, List.setIfInBounds_toArray, List.set_cons_zero, List.set_cons_succ]
                      refine wpAnyH_take (i := 5) (oi := ?on114) ?hin114 ?an114 ?bn114 ?cn114 ?qn114 (Or.inr ⟨?dn114, rfl⟩) hHeld ?restn114
                      case hin114 => (simp only [List.getElem?_toArray, List.getElem?_cons_succ, List.getElem?_cons_zero]; exact rfl)
                      case an114 => kernel_rfl
                      case bn114 => kernel_rfl
                      case cn114 => kernel_rfl
                      case qn114 => exact fun _ _ _ h => h
                      case dn114 => rfl
                      try simp only [Act.put, List.setIfInBounds_toArray, List.set_cons_zero, List.set_cons_succ]
                      refine wpAnyH_take (i := 6) (oi := ?on115) ?hin115 ?an115 ?bn115 ?cn115 ?qn115 (Or.inr ⟨?dn115, rfl⟩) hHeld ?restn115
                      case hin115 => (simp only [List.getElem?_toArray, List.getElem?_cons_succ, List.getElem?_cons_zero]; exact rfl)
                      case an115 => kernel_rfl
                      case bn115 => kernel_rfl
                      case cn115 => kernel_rfl
                      case qn115 => exact fun _ _ _ h => h
                      case dn115 => rfl
                      try simp only [Act.put, List.setIfInBounds_toArray, List.set_cons_zero, List.set_cons_succ]
                      refine wpAnyH_take (i := 7) (oi := ?on116) ?hin116 ?an116 ?bn116 ?cn116 ?qn116 (Or.inr ⟨?dn116, rfl⟩) hHeld ?restn116
                      case hin116 => (simp only [List.getElem?_toArray, List.getElem?_cons_succ, List.getElem?_cons_zero]; exact rfl)
                      case an116 => kernel_rfl
                      case bn116 => kernel_rfl
                      case cn116 => kernel_rfl
                      case qn116 => exact fun _ _ _ h => h
                      case dn116 => rfl
                      try simp only [Act.put, List.setIfInBounds_toArray, List.set_cons_zero, List.set_cons_succ]
                      refine wpAnyH_take (i := 8) (oi := ?on117) ?hin117 ?an117 ?bn117 ?cn117 ?qn117 (Or.inr ⟨?dn117, rfl⟩) hHeld ?restn117
                      case hin117 => (simp only [List.getElem?_toArray, List.getElem?_cons_succ, List.getElem?_cons_zero]; exact rfl)
                      case an117 => kernel_rfl
                      case bn117 => kernel_rfl
                      case cn117 => kernel_rfl
                      case qn117 => exact fun _ _ _ h => h
                      case dn117 => rfl
                      try simp only [Act.put, List.setIfInBounds_toArray, List.set_cons_zero, List.set_cons_succ]
                      refine wpAnyH_take (i := 9) (oi := ?on118) ?hin118 ?an118 ?bn118 ?cn118 ?qn118 (Or.inr ⟨?dn118, rfl⟩) hHeld ?restn118
                      case hin118 => (simp only [List.getElem?_toArray, List.getElem?_cons_succ, List.getElem?_cons_zero]; exact rfl)
                      case an118 => kernel_rfl
                      case bn118 => kernel_rfl
                      case cn118 => kernel_rfl
                      case qn118 => exact fun _ _ _ h => h
                      case dn118 => rfl
                      try simp only [Act.put, List.setIfInBounds_toArray, List.set_cons_zero, List.set_cons_succ]
                      refine wpAnyH_take (i := 10) (oi := ?on119) ?hin119 ?an119 ?bn119 ?cn119 ?qn119 (Or.inr ⟨?dn119, rfl⟩) hHeld ?restn119
                      case hin119 => (simp only [List.getElem?_toArray, List.getElem?_cons_succ, List.getElem?_cons_zero]; exact rfl)
                      case an119 => kernel_rfl
                      case bn119 => kernel_rfl
                      case cn119 => kernel_rfl
                      case qn119 => exact fun _ _ _ h => h
                      case dn119 => rfl
                      try simp only [Act.put, List.setIfInBounds_toArray, List.set_cons_zero, List.set_cons_succ]
                      refine wpAnyH_take (i := 11) (oi := ?on120) ?hin120 ?an120 ?bn120 ?cn120 ?qn120 (Or.inr ⟨?dn120, rfl⟩) hHeld ?restn120
                      case hin120 => (simp only [List.getElem?_toArray, List.getElem?_cons_succ, List.getElem?_cons_zero]; exact rfl)
                      case an120 => kernel_rfl
                      case bn120 => kernel_rfl
                      case cn120 => kernel_rfl
                      case qn120 => exact fun _ _ _ h => h
                      case dn120 => rfl
                      try simp only [Act.put, List.setIfInBounds_toArray, List.set_cons_zero, List.set_cons_succ]
                      refine wpAnyH_take (i := 12) (oi := ?on121) ?hin121 ?an121 ?bn121 ?cn121 ?qn121 (Or.inr ⟨?dn121, rfl⟩) hHeld ?restn121
                      case hin121 => (simp only [List.getElem?_toArray, List.getElem?_cons_succ, List.getElem?_cons_zero]; exact rfl)
                      case an121 => kernel_rfl
                      case bn121 => kernel_rfl
                      case cn121 => kernel_rfl
                      case qn121 => exact fun _ _ _ h => h
                      case dn121 => rfl
                      try simp only [Act.put, List.setIfInBounds_toArray, List.set_cons_zero, List.set_cons_succ]
                      refine wpAnyH_take (i := 13) (oi := ?on122) (v := ?vn122) ?hin122 ?an122 ?bn122 ?cn122 ?qn122 (Or.inl ⟨?dn122, ?hyn122⟩) hHeld ?restn122
                      case hin122 => (simp only [List.getElem?_toArray, List.getElem?_cons_succ, List.getElem?_cons_zero]; exact rfl)
                      case an122 => kernel_rfl
                      case bn122 => kernel_rfl
                      case cn122 => kernel_rfl
                      case qn122 => exact fun _ _ _ h => h
                      case dn122 => rfl
                      case hyn122 => (intro z hSw; (try dsimp only at hSw); go_simp; (try with_reducible rfl))
                      try simp only [Act.put, List.setIfInBounds_toArray, List.set_cons_zero, List.set_cons_succ]
                      refine wpAnyH_take (i := 14) (oi := ?on123) (v := ?vn123) ?hin123 ?an123 ?bn123 ?cn123 ?qn123 (Or.inl ⟨?dn123, ?hyn123⟩) hHeld ?restn123
                      case hin123 => (simp only [List.getElem?_toArray, List.getElem?_cons_succ, List.getElem?_cons_zero]; exact rfl)
                      case an123 => kernel_rfl
                      case bn123 => kernel_rfl
                      case cn123 => kernel_rfl
                      case qn123 => exact fun _ _ _ h => h
                      case dn123 => rfl
                      case hyn123 => (intro z hSw; (try dsimp only at hSw); go_simp; (try with_reducible rfl))
                      try simp only [Act.put, List.setIfInBounds_toArray, List.set_cons_zero, List.set_cons_succ]
                      refine wpAnyH_take (i := 15) (oi := ?on124) (v := ?vn124) ?hin124 ?an124 ?bn124 ?cn124 ?qn124 (Or.inl ⟨?dn124, ?hyn124⟩) hHeld ?restn124
                      case hin124 => (simp only [List.getElem?_toArray, List.getElem?_cons_succ, List.getElem?_cons_zero]; exact rfl)
                      case an124 => kernel_rfl
                      case bn124 => kernel_rfl
                      case cn124 => kernel_rfl
                      case qn124 => exact fun _ _ _ h => h
                      case dn124 => rfl
                      case hyn124 => (intro z hSw; (try dsimp only at hSw); go_simp; (try with_reducible rfl))
                      try simp only [Act.put, List.setIfInBounds_toArray, List.set_cons_zero, List.set_cons_succ]
                      refine wpAnyH_take (i := 16) (oi := ?on125) (v := ?vn125) ?hin125 ?an125 ?bn125 ?cn125 ?qn125 (Or.inl ⟨?dn125, ?hyn125⟩) hHeld ?restn125
                      case hin125 => (simp only [List.getElem?_toArray, List.getElem?_cons_succ, List.getElem?_cons_zero]; exact rfl)
                      case an125 => kernel_rfl
                      case bn125 => kernel_rfl
                      case cn125 => kernel_rfl
                      case qn125 => exact fun _ _ _ h => h
                      case dn125 => rfl
                      case hyn125 => (intro z hSw; (try dsimp only at hSw); go_simp; (try with_reducible rfl))
                      try simp only [Act.put, List.setIfInBounds_toArray, List.set_cons_zero, List.set_cons_succ]
                      refine wpAnyH_take (i := 17) (oi := ?on126) (v := ?vn126) ?hin126 ?an126 ?bn126 ?cn126 ?qn126 (Or.inl ⟨?dn126, ?hyn126⟩) hHeld ?restn126
                      case hin126 => (simp only [List.getElem?_toArray, List.getElem?_cons_succ, List.getElem?_cons_zero]; exact rfl)
                      case an126 => kernel_rfl
                      case bn126 => kernel_rfl
                      case cn126 => kernel_rfl
                      case qn126 => exact fun _ _ _ h => h
                      case dn126 => rfl
                      case hyn126 => (intro z hSw; (try dsimp only at hSw); go_simp; (try with_reducible rfl))
                      try simp only [Act.put, List.setIfInBounds_toArray, List.set_cons_zero, List.set_cons_succ]
                      refine wpAnyH_take (i := 18) (oi := ?on127) ?hin127 ?an127 ?bn127 ?cn127 ?qn127 (Or.inr ⟨?dn127, rfl⟩) hHeld ?restn127
                      case hin127 => (simp only [List.getElem?_toArray, List.getElem?_cons_succ, List.getElem?_cons_zero]; exact rfl)
                      case an127 => kernel_rfl
                      case bn127 => kernel_rfl
                      case cn127 => kernel_rfl
                      case qn127 => exact fun _ _ _ h => h
                      case dn127 => rfl
                      try simp only [Act.put, List.setIfInBounds_toArray, List.set_cons_zero, List.set_cons_succ]
                      refine wpAnyH_take (i := 19) (oi := ?on128) ?hin128 ?an128 ?bn128 ?cn128 ?qn128 (Or.inr ⟨?dn128, rfl⟩) hHeld ?restn128
                      case hin128 => (simp only [List.getElem?_toArray, List.getElem?_cons_succ, List.getElem?_cons_zero]; exact rfl)
                      case an128 => kernel_rfl
                      case bn128 => kernel_rfl
                      case cn128 => kernel_rfl
                      case qn128 => exact fun _ _ _ h => h
                      case dn128 => rfl
                      try simp only [Act.put, List.setIfInBounds_toArray, List.set_cons_zero, List.set_cons_succ]
                      refine wpAnyH_take (i := 20) (oi := ?on129) ?hin129 ?an129 ?bn129 ?cn129 ?qn129 (Or.inr ⟨?dn129, rfl⟩) hHeld ?restn129
                      case hin129 => (simp only [List.getElem?_toArray, List.getElem?_cons_succ, List.getElem?_cons_zero]; exact rfl)
                      case an129 => kernel_rfl
                      case bn129 => kernel_rfl
                      case cn129 => kernel_rfl
                      case qn129 => exact fun _ _ _ h => h
                      case dn129 => rfl
                      try simp only [Act.put, List.setIfInBounds_toArray, List.set_cons_zero, List.set_cons_succ]
                      refine wpAnyH_take (i := 21) (oi := ?on130) ?hin130 ?an130 ?bn130 ?cn130 ?qn130 (Or.inr ⟨?dn130, rfl⟩) hHeld ?restn130
                      case hin130 => (simp only [List.getElem?_toArray, List.getElem?_cons_succ, List.getElem?_cons_zero]; exact rfl)
                      case an130 => kernel_rfl
                      case bn130 => kernel_rfl
                      case cn130 => kernel_rfl
                      case qn130 => exact fun _ _ _ h => h
                      case dn130 => rfl
                      try simp only [Act.put, List.setIfInBounds_toArray, List.set_cons_zero, List.set_cons_succ]
                      refine wpAnyH_take (i := 22) (oi := ?on131) ?hin131 ?an131 ?bn131 ?cn131 ?qn131 (Or.inr ⟨?dn131, rfl⟩) hHeld ?restn131
                      case hin131 => (simp only [List.getElem?_toArray, List.getElem?_cons_succ, List.getElem?_cons_zero]; exact rfl)
                      case an131 => kernel_rfl
                      case bn131 => kernel_rfl
                      case cn131 => kernel_rfl
                      case qn131 => exact fun _ _ _ h => h
                      case dn131 => rfl
                      try simp only [Act.put, List.setIfInBounds_toArray, List.set_cons_zero, List.set_cons_succ]
                      refine wpAnyH_take (i := 23) (oi := ?on132) ?hin132 ?an132 ?bn132 ?cn132 ?qn132 (Or.inr ⟨?dn132, rfl⟩) hHeld ?restn132
                      case hin132 => (simp only [List.getElem?_toArray, List.getElem?_cons_succ, List.getElem?_cons_zero]; exact rfl)
                      case an132 => kernel_rfl
                      case bn132 => kernel_rfl
                      case cn132 => kernel_rfl
                      case qn132 => exact fun _ _ _ h => h
                      case dn132 => rfl
                      try simp only [Act.put, List.setIfInBounds_toArray, List.set_cons_zero, List.set_cons_succ]
                      refine wpAnyH_take (i := 24) (oi := ?on133) ?hin133 ?an133 ?bn133 ?cn133 ?qn133 (Or.inr ⟨?dn133, rfl⟩) hHeld ?restn133
                      case hin133 => (simp only [List.getElem?_toArray, List.getElem?_cons_succ, List.getElem?_cons_zero]; exact rfl)
                      case an133 => kernel_rfl
                      case bn133 => kernel_rfl
                      case cn133 => kernel_rfl
                      case qn133 => exact fun _ _ _ h => h
                      case dn133 => rfl
                      try simp only [Act.put, List.setIfInBounds_toArray, List.set_cons_zero, List.set_cons_succ]
                      refine wpAnyH_take (i := 25) (oi := ?on134) (v := ?vn134) ?hin134 ?an134 ?bn134 ?cn134 ?qn134 (Or.inl ⟨?dn134, ?hyn134⟩) hHeld ?restn134
                      case hin134 => (simp only [List.getElem?_toArray, List.getElem?_cons_succ, List.getElem?_cons_zero]; exact rfl)
                      case an134 => kernel_rfl
                      case bn134 => kernel_rfl
                      case cn134 => kernel_rfl
                      case qn134 => exact fun _ _ _ h => h
                      case dn134 => rfl
                      case hyn134 => (intro z hSw; (try dsimp only at hSw); go_simp; (try with_reducible rfl))
                      try simp only [Act.put, List.setIfInBounds_toArray, List.set_cons_zero, List.set_cons_succ]
                      refine wpAnyH_take (i := 26) (oi := ?on135) (v := ?vn135) ?hin135 ?an135 ?bn135 ?cn135 ?qn135 (Or.inl ⟨?dn135, ?hyn135⟩) hHeld ?restn135
                      case hin135 => (simp only [List.getElem?_toArray, List.getElem?_cons_succ, List.getElem?_cons_zero]; exact rfl)
                      case an135 => kernel_rfl
                      case bn135 => kernel_rfl
                      case cn135 => kernel_rfl
                      case qn135 => exact fun _ _ _ h => h
                      case dn135 => rfl
                      case hyn135 => (intro z hSw; (try dsimp only at hSw); go_simp; (try with_reducible rfl))
                      try simp only [Act.put, List.setIfInBounds_toArray, List.set_cons_zero, List.set_cons_succ]
                      refine wpAnyH_take (i := 27) (oi := ?on136) ?hin136 ?an136 ?bn136 ?cn136 ?qn136 (Or.inr ⟨?dn136, rfl⟩) hHeld ?restn136
                      case hin136 => (simp only [List.getElem?_toArray, List.getElem?_cons_succ, List.getElem?_cons_zero]; exact rfl)
                      case an136 => kernel_rfl
                      case bn136 => kernel_rfl
                      case cn136 => kernel_rfl
                      case qn136 => exact fun _ _ _ h => h
                      case dn136 => rfl
                      try simp only [Act.put, List.setIfInBounds_toArray, List.set_cons_zero, List.set_cons_succ]
                      refine wpAnyH_take (i := 28) (oi := ?on137) ?hin137 ?an137 ?bn137 ?cn137 ?qn137 (Or.inr ⟨?dn137, rfl⟩) hHeld ?restn137
                      case hin137 => (simp only [List.getElem?_toArray, List.getElem?_cons_succ, List.getElem?_cons_zero]; exact rfl)
                      case an137 => kernel_rfl
                      case bn137 => kernel_rfl
                      case cn137 => kernel_rfl
                      case qn137 => exact fun _ _ _ h => h
                      case dn137 => rfl
                      try simp only [Act.put, List.setIfInBounds_toArray, List.set_cons_zero, List.set_cons_succ]
                      refine wpAnyH_take (i := 29) (oi := ?on138) ?hin138 ?an138 ?bn138 ?cn138 ?qn138 (Or.inr ⟨?dn138, rfl⟩) hHeld ?restn138
                      case hin138 => (simp only [List.getElem?_toArray, List.getElem?_cons_succ, List.getElem?_cons_zero]; exact rfl)
                      case an138 => kernel_rfl
                      case bn138 => kernel_rfl
                      case cn138 => kernel_rfl
                      case qn138 => exact fun _ _ _ h => h
                      case dn138 => rfl
                      try simp only [Act.put, List.setIfInBounds_toArray, List.set_cons_zero, List.set_cons_succ]
                      refine wpAnyH_take (i := 30) (oi := ?on139) ?hin139 ?an139 ?bn139 ?cn139 ?qn139 (Or.inr ⟨?dn139, rfl⟩) hHeld ?restn139
                      case hin139 => (simp only [List.getElem?_toArray, List.getElem?_cons_succ, List.getElem?_cons_zero]; exact rfl)
                      case an139 => kernel_rfl
                      case bn139 => kernel_rfl
                      case cn139 => kernel_rfl
                      case qn139 => exact fun _ _ _ h => h
                      case dn139 => rfl
                      try simp only [Act.put, List.setIfInBounds_toArray, List.set_cons_zero, List.set_cons_succ]
                      refine wpAnyH_take (i := 31) (oi := ?on140) ?hin140 ?an140 ?bn140 ?cn140 ?qn140 (Or.inr ⟨?dn140, rfl⟩) hHeld ?restn140
                      case hin140 => (simp only [List.getElem?_toArray, List.getElem?_cons_succ, List.getElem?_cons_zero]; exact rfl)
                      case an140 => kernel_rfl
                      case bn140 => kernel_rfl
                      case cn140 => kernel_rfl
                      case qn140 => exact fun _ _ _ h => h
                      case dn140 => rfl
                      try simp only [Act.put, List.setIfInBounds_toArray, List.set_cons_zero, List.set_cons_succ]
                      refine wpAnyH_take (i := 32) (oi := ?on141) ?hin141 ?an141 ?bn141 ?cn141 ?qn141 (Or.inr ⟨?dn141, rfl⟩) hHeld ?restn141
                      case hin141 => (simp only [List.getElem?_toArray, List.getElem?_cons_succ, List.getElem?_cons_zero]; exact rfl)
                      case an141 => kernel_rfl
                      case bn141 => kernel_rfl
                      case cn141 => kernel_rfl
                      case qn141 => exact fun _ _ _ h => h
                      case dn141 => rfl
                      try simp only [Act.put, List.setIfInBounds_toArray, List.set_cons_zero, List.set_cons_succ]
                      refine wpAnyH_take (i := 33) (oi := ?on142) ?hin142 ?an142 ?bn142 ?cn142 ?qn142 (Or.inr ⟨?dn142, rfl⟩) hHeld ?restn142
                      case hin142 => (simp only [List.getElem?_toArray, List.getElem?_cons_succ, List.getElem?_cons_zero]; exact rfl)
                      case an142 => kernel_rfl
                      case bn142 => kernel_rfl
                      case cn142 => kernel_rfl
                      case qn142 => exact fun _ _ _ h => h
                      case dn142 => rfl
                      try simp only [Act.put, List.setIfInBounds_toArray, List.set_cons_zero, List.set_cons_succ]
                      refine wpAnyH_take (i := 34) (oi := ?on143) (v := ?vn143) ?hin143 ?an143 ?bn143 ?cn143 ?qn143 (Or.inl ⟨?dn143, ?hyn143⟩) hHeld ?restn143
                      case hin143 => (simp only [List.getElem?_toArray, List.getElem?_cons_succ, List.getElem?_cons_zero]; exact rfl)
                      case an143 => kernel_rfl
                      case bn143 => kernel_rfl
                      case cn143 => kernel_rfl
                      case qn143 => exact fun _ _ _ h => h
                      case dn143 => rfl
                      case hyn143 => (intro z hSw; (try dsimp only at hSw); go_simp; (try with_reducible rfl))
                      try simp only [Act.put, List.setIfInBounds_toArray, List.set_cons_zero, List.set_cons_succ]
                      refine wpAnyH_take (i := 35) (oi := ?on144) (v := ?vn144) ?hin144 ?an144 ?bn144 ?cn144 ?qn144 (Or.inl ⟨?dn144, ?hyn144⟩) hHeld ?restn144
                      case hin144 => (simp only [List.getElem?_toArray, List.getElem?_cons_succ, List.getElem?_cons_zero]; exact rfl)
                      case an144 => kernel_rfl
                      case bn144 => kernel_rfl
                      case cn144 => kernel_rfl
                      case qn144 => exact fun _ _ _ h => h
                      case dn144 => rfl
                      case hyn144 => (intro z hSw; (try dsimp only at hSw); go_simp; (try with_reducible rfl))
                      try simp only [Act.put, List.setIfInBounds_toArray, List.set_cons_zero, List.set_cons_succ]
                      refine wpAnyH_done (by kernel_rfl) ?_ _
                      go_wp2_with fail
                      go_roundw
                      case rel => exact ⟨q + 1, by omega, by go_num, hZd⟩
                      case measure => simp [intOf]; omega
                  · obtain rfl : q = n := by omega
                    go_wp2_with fail
                    go_roundw
                    case rel => exact ⟨k + 1, by omega, by go_num, hZ, hks⟩
                    case measure => simp [intOf]; omega
        · obtain rfl : k = n := by omega
          have hs := Lib.hid (hS.out (allB_of HK.out))
          go_wp2_with fail
          go_roundw
          case rel => exact ⟨j + 1, by omega, by go_num, hY, hs⟩
          case measure => simp [intOf]; omega
    · obtain rfl : j = n := by omega
      have hv := Lib.hid (HZ.out HJ.out)
      go_wp2_with fail
      go_ret
      exact ⟨by rw [hv.out]; rfl, HG.out.trans hB⟩
end Go.Proofs.YtoogcooggdahnaaGreat

/- Posets and valuations of the reference: l16Is, l17Is, IsValuation. -/
namespace Go.Proofs.YtoogcooggdahnaaGreat
open Go.RowKit
set_option maxHeartbeats 2000000 in
theorem l16Is_c (sz : Int) (v : Value) (L : List Int) (w : World) (h : Ints w v L) :
    Calls Tryz.prog 25 #[.agg #[.int .i64 sz, v]] w fun e w' => e = .returned (.bool (posB sz L)) ∧ Grew w w' := by
  have HI := Lib.hid (l01In_c sz 0 8)
  have hal := (Grew.refl w).alloc (.cells #[.int .i64 sz, v] 30)
  have HG := Lib.hid hal
  have HM := Lib.hid (fun W hW hn => l01Masks_c L.length v L W (h.grew hW) hn)
  have hmx : L.length ≤ 9223372036854775807 := h.2.1
  have hn30 : ¬ (0 ≤ sz ∧ sz ≤ 8) ∨ (L.length : Int) ≠ sz ∨ L.length ≤ 30 := by omega
  have y0 : ∀ W, Grew (w.alloc (.cells #[.int .i64 sz, v] 30)) W → W.cell? ⟨w.heap.size, 0, none⟩ = some (.int .i64 sz) := fun W hW => (hW.cell (p := ⟨w.heap.size, 0, none⟩) (by simp)).trans (by simp)
  have y1 : ∀ W, Grew (w.alloc (.cells #[.int .i64 sz, v] 30)) W → W.cell? ⟨w.heap.size, 1, none⟩ = some v := fun W hW => (hW.cell (p := ⟨w.heap.size, 1, none⟩) (by simp)).trans (by simp)
  obtain ⟨w1, hw1⟩ : ∃ w1, w1 = w.alloc (.cells #[.int .i64 sz, v] 30) := ⟨_, rfl⟩
  rw [← hw1] at y0 y1 HG
  clear hal
  have r1 := Grew.refl w1
  have r1d := r1.drew
  unfold posB
  by_cases h1 : 0 ≤ sz ∧ sz ≤ 8
  · rw [decide_eq_true h1] at HI ⊢
    rw [Bool.true_and]
    by_cases h2 : (L.length : Int) = sz
    · rw [decide_eq_true h2, Bool.true_and]
      obtain rfl := h2
      have hn : L.length ≤ 30 := by omega
      have HM := Lib.hid (fun W hW => HM.out W hW hn)
      cases h3 : mks L.length L with
      | true =>
        rw [Bool.true_and]
        have hA := pos_rl hn h3
        have hz := (nats_ok h3).1
        have hr := fun W (hW : Grew w W) => (show Ints W v (zs (nats L)) by rw [hz]; exact h.grew hW)
        have H0 := Lib.hid (fun W hW => l05Flag0_c v (nats L) W (hr W hW) hA)
        have H2 := Lib.hid (fun W hW => l05Flag2_c v (nats L) W (hr W hW) hA)
        have H8 := Lib.hid (fun W hW => l05Flag8_c v (nats L) W (hr W hW) hA)
        rw [nats_len] at H0 H2 H8
        rw [h3] at HM
        obtain ⟨A, c, rfl⟩ := ints_slice h
        clear h hA hz hr h3 hn hn30 h1
        generalize reflB (nats L) = r0 at *
        generalize transB (nats L) = r2 at *
        generalize antiB (nats L) = r8 at *
        generalize L.length = n at *
        have hq : ((n : Int) != (n : Int)) = false := by simp
        have hq2 : ((n : Int) == (n : Int)) = true := by simp
        go_enter Tryz.func25, Tryz.ntmps25
        go_wp2_with fail
        simp only [← hw1]
        refine (HI.out _).mono ?_
        rintro e w2 ⟨rfl, h2⟩
        clear hw1
        go_wp2_with fail
        refine (HM.out _ (HG.out.trans h2)).mono ?_
        rintro e w4 ⟨rfl, hgm⟩
        have h4 := h2.trans hgm
        have hw4 := HG.out.trans h4
        have z0 := fun W (hW : Grew w4 W) => y0 W (h4.trans hW)
        have z1 := fun W (hW : Grew w4 W) => y1 W (h4.trans hW)
        have r4 := Grew.refl w4
        have h6 := hw4.alloc (.cells #[.int .i64 (n : Int), .slice A n c] 63)
        have x0 : ∀ W, Grew (w4.alloc (.cells #[.int .i64 (n : Int), .slice A n c] 63)) W → W.cell? ⟨w4.heap.size, 0, none⟩ = some (.int .i64 (n : Int)) := fun W hW => (hW.cell (p := ⟨w4.heap.size, 0, none⟩) (by simp)).trans (by simp)
        have x1 : ∀ W, Grew (w4.alloc (.cells #[.int .i64 (n : Int), .slice A n c] 63)) W → W.cell? ⟨w4.heap.size, 1, none⟩ = some (.slice A n c) := fun W hW => (hW.cell (p := ⟨w4.heap.size, 1, none⟩) (by simp)).trans (by simp)
        have r6 := Grew.refl (w4.alloc (.cells #[.int .i64 (n : Int), .slice A n c] 63))
        have a6 := (Grew.refl w4).alloc (.cells #[.int .i64 (n : Int), .slice A n c] 63)
        cases r0 with
        | false =>
          go_wp2_with fail
          refine (H0.out _ h6).mono ?_
          rintro e w7 ⟨rfl, hg7⟩
          have h7 := h6.trans hg7
          go_wp2_with fail
          go_ret
          exact ⟨rfl, h7⟩
        | true =>
          go_wp2_with fail
          refine (H0.out _ h6).mono ?_
          rintro e w7 ⟨rfl, hg7⟩
          have h7 := h6.trans hg7
          cases r2 with
          | false =>
            go_wp2_with fail
            refine (H2.out _ h7).mono ?_
            rintro e w8 ⟨rfl, hg8⟩
            have h8 := h7.trans hg8
            go_wp2_with fail
            go_ret
            exact ⟨rfl, h8⟩
          | true =>
            go_wp2_with fail
            refine (H2.out _ h7).mono ?_
            rintro e w8 ⟨rfl, hg8⟩
            have h8 := h7.trans hg8
            have hg78 := hg7.trans hg8
            go_wp2_with fail
            refine (H8.out _ h8).mono ?_
            rintro e w9 ⟨rfl, hg9⟩
            have h9 := h8.trans hg9
            go_wp2_with fail
            go_ret
            exact ⟨rfl, h9⟩
      | false =>
        rw [h3] at HM
        rw [Bool.false_and]
        obtain ⟨A, c, rfl⟩ := ints_slice h
        clear h h3 hn hn30 h1
        generalize L.length = n at *
        have hq : ((n : Int) != (n : Int)) = false := by simp
        have hq2 : ((n : Int) == (n : Int)) = true := by simp
        go_enter Tryz.func25, Tryz.ntmps25
        go_wp2_with fail
        simp only [← hw1]
        refine (HI.out _).mono ?_
        rintro e w2 ⟨rfl, h2⟩
        clear hw1
        go_wp2_with fail
        refine (HM.out _ (HG.out.trans h2)).mono ?_
        rintro e w4 ⟨rfl, hgm⟩
        have h4 := h2.trans hgm
        go_wp2_with fail
        go_ret
        exact ⟨rfl, HG.out.trans h4⟩
    · rw [decide_eq_false h2, Bool.false_and]
      have hq : ((L.length : Int) == sz) = false := by simpa using h2
      have hq2 : ((L.length : Int) != sz) = true := by simpa using h2
      obtain ⟨A, c, rfl⟩ := ints_slice h
      clear h h2 hn30 h1 HM
      generalize L.length = n at *
      go_enter Tryz.func25, Tryz.ntmps25
      go_wp2_with fail
      simp only [← hw1]
      refine (HI.out _).mono ?_
      rintro e w2 ⟨rfl, h2⟩
      clear hw1
      go_wp2_with fail
      go_ret
      exact ⟨rfl, HG.out.trans h2⟩
  · rw [decide_eq_false h1] at HI ⊢
    rw [Bool.false_and]
    obtain ⟨A, c, rfl⟩ := ints_slice h
    clear h hn30 h1 HM
    generalize L.length = n at *
    go_enter Tryz.func25, Tryz.ntmps25
    go_wp2_with fail
    simp only [← hw1]
    refine (HI.out _).mono ?_
    rintro e w2 ⟨rfl, h2⟩
    clear hw1
    go_wp2_with fail
    go_ret
    exact ⟨rfl, HG.out.trans h2⟩
set_option maxHeartbeats 2000000 in
theorem all_up {A : List Nat} {V : List Int} (h : V.all (upB A) = true) : mks A.length V = true := by
  unfold mks
  rw [List.all_eq_true] at h ⊢
  intro x hx
  have := h x hx
  unfold upB at this
  rw [Bool.and_eq_true] at this
  exact this.1
theorem l17Is_c (v u : Value) (A : List Nat) (V : List Int) (w : World) (h : Ints w v (zs A)) (hu : Ints w u V) (hA : Rl A) :
    Calls Tryz.prog 26 #[.agg #[.int .i64 (A.length : Int), v], u] w fun e w' => e = .returned (.bool (decide (V.length = 6) && V.all (upB A))) ∧ Grew w w' := by
  have HM := Lib.hid (fun W (hW : Grew w W) => l01Masks_c A.length u V W (hu.grew hW) hA.1)
  have hal := (Grew.refl w).alloc (.cells #[.int .i64 (A.length : Int), v] 30)
  have y0 : ∀ W, Grew (w.alloc (.cells #[.int .i64 (A.length : Int), v] 30)) W → W.cell? ⟨w.heap.size, 0, none⟩ = some (.int .i64 (A.length : Int)) := fun W hW => (hW.cell (p := ⟨w.heap.size, 0, none⟩) (by simp)).trans (by simp)
  have y1 : ∀ W, Grew (w.alloc (.cells #[.int .i64 (A.length : Int), v] 30)) W → W.cell? ⟨w.heap.size, 1, none⟩ = some v := fun W hW => (hW.cell (p := ⟨w.heap.size, 1, none⟩) (by simp)).trans (by simp)
  obtain ⟨w1, hw1⟩ : ∃ w1, w1 = w.alloc (.cells #[.int .i64 (A.length : Int), v] 30) := ⟨_, rfl⟩
  rw [← hw1] at y0 y1 hal
  have HG := Lib.hid hal
  have r1 := Grew.refl w1
  have hmx : V.length ≤ 9223372036854775807 := hu.2.1
  by_cases h6 : V.length = 6
  · rw [decide_eq_true h6, Bool.true_and]
    have hq : ((V.length : Int) != 6) = false := by
      rw [h6]; rfl
    cases hm : mks A.length V with
    | false =>
      have hv : V.all (upB A) = false := by
        cases hx : V.all (upB A) with
        | false => rfl
        | true => rw [all_up hx] at hm; cases hm
      rw [hv]
      rw [hm] at HM
      obtain ⟨A', c, rfl⟩ := ints_sliceN h
      obtain ⟨A2, c2, rfl⟩ := ints_slice hu
      rw [h6] at *
      clear h hu hA hal hv hm h6
      generalize A.length = n at *
      go_enter Tryz.func26, Tryz.ntmps26
      go_wp2_with fail
      simp only [← hw1]
      refine (HM.out _ HG.out).mono ?_
      rintro e w2 ⟨rfl, hg2⟩
      clear hw1
      go_wp2_with fail
      go_ret
      exact ⟨rfl, HG.out.trans hg2⟩
    | true =>
      obtain ⟨hz, hlt⟩ := nats_ok hm
      obtain ⟨R, hR⟩ : ∃ R, R = V.all (upB A) := ⟨_, rfl⟩
      rw [← hR]
      have hR2 : R = !V.any fun x => !upB A x := hR.trans (not_any (upB A) V).symm
      have HAN := Lib.hid (fun k hk h => hR2.trans (congrArg (!·) (@anyI_at (fun x => !upB A x) V k hk h)))
      have HZN := Lib.hid (fun h => hR2.trans (congrArg (!·) (@noneI_any (fun x => !upB A x) V h)))
      have HU := Lib.hid (fun j (hj : j < V.length) => (show upB A (it V j) = decide (img A (nt (nats V) j) = nt (nats V) j) by
        have e : it V j = ((nt (nats V) j : Nat) : Int) := by
          rw [← zs_it (by rw [nats_len]; exact hj), hz]
        have hmk : mk A.length (it V j) = true := by
          unfold mks at hm
          rw [List.all_eq_true] at hm
          exact hm _ (it_memI hj)
        unfold upB
        rw [hmk, Bool.true_and, e]
        rfl))
      have hu2 : Ints w u (zs (nats V)) := by rw [hz]; exact hu
      have hl2 := nats_len V
      have HI := Lib.hid (fun j (hj : j < V.length) W (hW : Grew w W) => l01Image_q v A (nt (nats V) j) W (h.grew hW) hA.sm hA.1 (hlt _ (nt_mem (by rw [nats_len]; exact hj))))
      rw [hm] at HM
      obtain ⟨A', c, rfl⟩ := ints_sliceN h
      obtain ⟨A2, c2, rfl⟩ := ints_sliceN hu2
      have HC := Lib.hid (fun h0 => cellsN hu2 h0)
      rw [hl2] at HC HM ⊢
      clear h hu hu2 hA hal hm hR hR2 hz hlt hl2
      generalize nats V = M at *
      generalize A.length = n at *
      rw [h6] at *
      clear h6
      go_enter Tryz.func26, Tryz.ntmps26
      go_wp2_with fail
      simp only [← hw1]
      refine (HM.out _ HG.out).mono ?_
      rintro e w2 ⟨rfl, hg2⟩
      clear hw1
      go_wp2_with fail
      go_loopw [5] (fun i wr => ∃ j : Nat, j ≤ 6 ∧ i = .int .i64 j ∧ Grew w1 wr ∧ Hid (NoneI (fun x => !upB A x) V j)) (fun i _ => 6 - (intOf i).toNat)
      case atStart => exact ⟨0, Nat.zero_le _, rfl, hg2, NoneI.zero _ _⟩
      case round =>
        obtain ⟨j, hj, rfl, hB, HJ⟩ := hrel
        by_cases hlt : j < 6
        · obtain ⟨b, o, rfl, hcell⟩ := HC.out (by omega)
          have hgw := HG.out
          have hcx := fun W (hW : Grew wr W) => hcell j hlt W ((hgw.trans hB).trans hW)
          have hi := Lib.hid (HI.out j hlt)
          have hgwr := Lib.hid (hgw.trans hB)
          have rx := Grew.refl wr
          have rxd := rx.drew
          have hup := HU.out j hlt
          have hA1 := Lib.hid (HAN.out j hlt)
          have hS := Lib.hid (fun h => HJ.out.succ (k := j) h)
          clear hcell
          generalize nt M j = m at *
          generalize img A m = mi at *
          generalize it V j = x at *
          by_cases hd : mi = m
          · have hs := Lib.hid (hS.out (by rw [hup, decide_eq_true hd]; rfl))
            have hq2 : ((mi : Int) != (m : Int)) = false := by rw [hd]; simp
            clear hA1 hS hd hup
            go_wp2_with fail
            go_quiet (first | (go_at_call 45; exact Calls.quiet_of_same (hi.out _ (by first | exact hgwr.out | exact hgwr.out.drew | exact hgwr.out.drewN _))))
            go_wp2_with fail
            go_roundw
            case rel => exact ⟨j + 1, by omega, by go_num, hB.drewN _, hs⟩
            case measure => simp [intOf]; omega
          · have hv := Lib.hid (hA1.out (by rw [hup, decide_eq_false hd]; rfl))
            have hq2 : ((mi : Int) != (m : Int)) = true := by
              rw [bne_iff_ne]
              omega
            clear hA1 hS hd hup
            go_wp2_with fail
            go_quiet (first | (go_at_call 45; exact Calls.quiet_of_same (hi.out _ (by first | exact hgwr.out | exact hgwr.out.drew | exact hgwr.out.drewN _))))
            go_wp2_with fail
            go_ret
            exact ⟨by rw [hv.out]; rfl, HG.out.trans (hB.drewN _)⟩
        · obtain rfl : j = 6 := by omega
          have hv := Lib.hid (HZN.out HJ.out)
          go_wp2_with fail
          go_ret
          exact ⟨by rw [hv.out]; rfl, HG.out.trans hB⟩
  · rw [decide_eq_false h6, Bool.false_and]
    have hq : ((V.length : Int) != 6) = true := by
      rw [bne_iff_ne]
      omega
    obtain ⟨A', c, rfl⟩ := ints_sliceN h
    obtain ⟨A2, c2, rfl⟩ := ints_slice hu
    clear h hu hA hal h6 HM
    generalize A.length = n at *
    generalize V.length = n2 at *
    go_enter Tryz.func26, Tryz.ntmps26
    go_wp2_with fail
    simp only [← hw1]
    go_ret
    exact ⟨rfl, HG.out⟩
theorem isVal_c (sz : Int) (v u : Value) (L V : List Int) (w : World) (h : Ints w v L) (hu : Ints w u V) :
    Calls Tryz.prog 15 #[.agg #[.int .i64 sz, v], u] w fun e w' => e = .returned (.bool (valB sz L V)) ∧ Grew w w' := by
  have hal := (Grew.refl w).alloc (.cells #[.int .i64 sz, v] 30)
  have HP := Lib.hid (fun W hW => l16Is_c sz v L W (h.grew hW))
  have y0 : ∀ W, Grew (w.alloc (.cells #[.int .i64 sz, v] 30)) W → W.cell? ⟨w.heap.size, 0, none⟩ = some (.int .i64 sz) := fun W hW => (hW.cell (p := ⟨w.heap.size, 0, none⟩) (by simp)).trans (by simp)
  have y1 : ∀ W, Grew (w.alloc (.cells #[.int .i64 sz, v] 30)) W → W.cell? ⟨w.heap.size, 1, none⟩ = some v := fun W hW => (hW.cell (p := ⟨w.heap.size, 1, none⟩) (by simp)).trans (by simp)
  have HG := Lib.hid hal
  unfold valB
  cases hp : posB sz L with
  | false =>
    rw [hp] at HP
    rw [Bool.false_and]
    obtain ⟨A, c, rfl⟩ := ints_slice h
    obtain ⟨A2, c2, rfl⟩ := ints_slice hu
    clear h hu hal hp
    generalize L.length = n at *
    generalize V.length = n2 at *
    go_enter Tryz.func15, Tryz.ntmps15
    go_wp2_with fail
    refine (HP.out _ HG.out).mono ?_
    rintro e w1 ⟨rfl, hg1⟩
    go_wp2_with fail
    go_ret
    exact ⟨rfl, HG.out.trans hg1⟩
  | true =>
    rw [hp] at HP
    rw [Bool.true_and]
    obtain ⟨rfl, hl, hA, hz, _⟩ := posB_ok hp
    have hr := fun W (hW : Grew w W) => (show Ints W v (zs (nats L)) by rw [hz]; exact h.grew hW)
    have KV := Lib.hid (fun W (hW : Grew w W) => l17Is_c v u (nats L) V W (hr W hW) (hu.grew hW) hA)
    rw [nats_len] at KV
    obtain ⟨A, c, rfl⟩ := ints_slice h
    obtain ⟨A2, c2, rfl⟩ := ints_slice hu
    clear h hu hal hp hr hz hA
    generalize (decide (V.length = 6) && V.all (upB (nats L))) = r at *
    generalize L.length = n at *
    generalize V.length = n2 at *
    go_enter Tryz.func15, Tryz.ntmps15
    go_wp2_with fail
    refine (HP.out _ HG.out).mono ?_
    rintro e w1 ⟨rfl, hg1⟩
    go_wp2_with fail
    refine (KV.out _ (HG.out.trans hg1)).mono ?_
    rintro e w2 ⟨rfl, hg2⟩
    go_wp2_with fail
    go_ret
    exact ⟨rfl, (HG.out.trans hg1).trans hg2⟩
end Go.Proofs.YtoogcooggdahnaaGreat

/- IsCountermodel of both sides gives kmF. -/
namespace Go.Proofs.YtoogcooggdahnaaGreat
open Go.RowKit
open Fm (Nd Tree)

theorem asc_gp {L : List ByteArray} (h : ascP L = true) : ∀ i, i < L.length → gp (st L i) = true := by
  unfold ascP at h
  have := @of_decide_eq_true _ (Classical.propDecidable _) h
  exact fun i hi => (this i hi).1
noncomputable def sqB (L : List ByteArray) (s : ByteArray) : Bool := gp s && (ascP L && decide (L.length ≤ 12))
/-- IsCountermodel: its answer and its code. -/
noncomputable def kmF (sz : Int) (L V : List Int) (x : Int) (K : List ByteArray) (s : ByteArray) : Bool × Int :=
  if valB sz L V && sqB K s then (if elB sz x then ((rf (nats L) (nats V) (fun j => fo (st K j)) (fo s) K.length).testBit x.toNat, 0) else (false, 2)) else (false, 1)
def GivesKm (w : World) (r : Bool × Int) (e : Ending) (w' : World) : Prop := e = .returned (.tuple #[.bool r.1, .int .i64 r.2]) ∧ Grew w w'
theorem km_no1 {sz : Int} {L V : List Int} {x : Int} {K : List ByteArray} {s : ByteArray} (h : valB sz L V = false) : kmF sz L V x K s = (false, 1) := by unfold kmF; rw [h]; rfl
theorem km_no2 {sz : Int} {L V : List Int} {x : Int} {K : List ByteArray} {s : ByteArray} (h : sqB K s = false) : kmF sz L V x K s = (false, 1) := by unfold kmF; rw [h, Bool.and_false]; rfl
theorem km_no3 {sz : Int} {L V : List Int} {x : Int} {K : List ByteArray} {s : ByteArray} (h : valB sz L V = true) (hq : sqB K s = true) (he : elB sz x = false) : kmF sz L V x K s = (false, 2) := by unfold kmF; rw [h, hq, he]; rfl
theorem km_yes {sz : Int} {L V : List Int} {x : Int} {K : List ByteArray} {s : ByteArray} (h : valB sz L V = true) (hq : sqB K s = true) (he : elB sz x = true) :
    kmF sz L V x K s = ((rf (nats L) (nats V) (fun j => fo (st K j)) (fo s) K.length).testBit x.toNat, 0) := by unfold kmF; rw [h, hq, he]; rfl
/-- What holds of a valuation. -/
theorem val_nats {sz : Int} {L V : List Int} (h : valB sz L V = true) :
    sz = ((nats L).length : Int) ∧ (nats L).length ≤ 8 ∧ Rl (nats L) ∧ zs (nats L) = L ∧ zs (nats V) = V ∧ (nats V).length = 6 ∧ ∀ m ∈ nats V, m < 2 ^ (nats L).length := by
  obtain ⟨h1, h2, h3⟩ := val_ok h
  obtain ⟨rfl, h5, h6, h7, h8, _⟩ := posB_ok h1
  have hm := all_mks h3
  have hV := nats_ok hm
  exact ⟨by rw [nats_len], by rw [nats_len]; omega, h6, h7, hV.1, by rw [nats_len]; exact h2, hV.2⟩
set_option maxHeartbeats 4000000 in
theorem implKm_c (sz : Int) (v u vl : Value) (L V : List Int) (x : Int) (K : List ByteArray) (s : ByteArray) (w : World) (h : Ints w v L) (hu : Ints w u V) (hK : Strs w vl K) (hF : Fits K) (hn : K.length ≤ 1048576) (hz : s.size ≤ 140737488355328) :
    Calls Tryz.prog 10 #[.agg #[.int .i64 sz, v], u, .int .i64 x, vl, .string s] w (GivesKm w (kmF sz L V x K s)) := by
  have HV := Lib.hid (fun W hW => isValuation_c sz v u L V W (h.grew hW) (hu.grew hW))
  have HQ := Lib.hid (fun W hW => show Calls Tryz.prog 21 #[vl, .string s] W fun e w' => e = .returned (.bool (sqB K s)) ∧ Grew W w' from isSequent_c vl K s W (hK.grew hW) hF hn hz)
  have HREF := Lib.hid (fun (hv : valB sz L V = true) (hq : sqB K s = true) W (hW : Grew w W) => show Calls Tryz.prog 24 #[.agg #[.int .i64 sz, v], u, vl, .string s] W fun e w' => e = .returned (.int .i64 ((rf (nats L) (nats V) (fun j => fo (st K j)) (fo s) K.length : Nat) : Int)) ∧ Grew W w' from by
    obtain ⟨rfl, _, q2, q3, q4, q5, q6⟩ := val_nats hv
    have hq' := hq
    unfold sqB at hq'
    simp only [Bool.and_eq_true] at hq'
    exact refuted_c v u vl (nats L) (nats V) K s W (by rw [q3]; exact h.grew hW) (by rw [q4]; exact hu.grew hW) (hK.grew hW) q2 q6 q5 hq'.1 (asc_gp hq'.2.1) hF hn hz)
  have HRS := Lib.hid (fun (hv : valB sz L V = true) => rf_sm (V := nats V) (val_nats hv).2.2.1 (fun j => fo (st K j)) (fo s) K.length)
  have HSZ := Lib.hid (fun (hv : valB sz L V = true) => show 0 ≤ sz ∧ sz ≤ 8 from by obtain ⟨rfl, q, _⟩ := val_nats hv; omega)
  have hgr := (Grew.refl w).alloc (.cells #[.int .i64 sz, v] 30)
  obtain ⟨A', cA, rfl⟩ := ints_slice h
  obtain ⟨AU, cu, rfl⟩ := ints_slice hu
  obtain ⟨AL, cL, rfl⟩ := strs_slice hK
  obtain ⟨w1, hw1⟩ : ∃ w1, w1 = w.alloc (.cells #[.int .i64 sz, .slice A' L.length cA] 30) := ⟨_, rfl⟩
  have hb0 : w1.heap[w.heap.size]? = some (.cells #[.int .i64 sz, .slice A' L.length cA] 30 (0, 0)) := by rw [hw1]; exact blk_new w _
  rw [← hw1] at hgr
  have p0 : ∀ W, Grew w1 W → W.cell? ⟨w.heap.size, 0, none⟩ = some (.int .i64 sz) := fun W hW => by rw [blk_cell ((hW.block (blk_lt hb0)).trans hb0)]; rfl
  have p1 : ∀ W, Grew w1 W → W.cell? ⟨w.heap.size, 1, none⟩ = some (.slice A' L.length cA) := fun W hW => by rw [blk_cell ((hW.block (blk_lt hb0)).trans hb0)]; rfl
  have HAL := Lib.hid hgr
  have a0 := p0 _ (Grew.refl _)
  have a1 := p1 _ (Grew.refl _)
  clear h hu hK hF hn hz hb0 hgr
  cases hv : valB sz L V with
  | false =>
    rw [km_no1 hv]
    rw [hv] at HV
    clear HQ HREF HRS HSZ hv
    generalize L.length = n at *
    generalize V.length = m at *
    generalize K.length = k at *
    unfold GivesKm
    rw [hw1] at a0 a1
    go_enter Tryz.func10, Tryz.ntmps10
    go_wp2_with fail
    simp only [← hw1]
    refine (HV.out _ HAL.out).mono ?_
    rintro e w2 ⟨rfl, hg2⟩
    clear hw1 a0 a1
    go_wp2_with fail
    go_ret2
    exact ⟨rfl, HAL.out.trans hg2⟩
  | true =>
  have HREF := Lib.hid (HREF.out hv)
  have hrs := HRS.out hv
  have hsz := HSZ.out hv
  have hnt := val_nats hv
  rw [hv] at HV
  cases hq : sqB K s with
  | false =>
    rw [km_no2 hq]
    rw [hq] at HQ
    clear HREF HRS HSZ hq hrs hsz hnt hv
    generalize L.length = n at *
    generalize V.length = m at *
    generalize K.length = k at *
    unfold GivesKm
    rw [hw1] at a0 a1
    go_enter Tryz.func10, Tryz.ntmps10
    go_wp2_with fail
    simp only [← hw1]
    refine (HV.out _ HAL.out).mono ?_
    rintro e w2 ⟨rfl, hg2⟩
    clear hw1 a0 a1
    go_wp2_with fail
    refine (HQ.out _ (HAL.out.trans hg2)).mono ?_
    rintro e w3 ⟨rfl, hg3⟩
    go_wp2_with fail
    go_ret2
    exact ⟨rfl, HAL.out.trans (hg2.trans hg3)⟩
  | true =>
  have HREF := Lib.hid (HREF.out hq)
  rw [hq] at HQ
  have HE := Lib.hid (fun W => hasElement_c sz x (.slice A' L.length cA) W hsz)
  cases he : elB sz x with
  | false =>
    rw [km_no3 hv hq he]
    rw [he] at HE
    clear HREF HRS HSZ hq hrs hsz hnt hv he
    generalize L.length = n at *
    generalize V.length = m at *
    generalize K.length = k at *
    unfold GivesKm
    rw [hw1] at a0 a1
    go_enter Tryz.func10, Tryz.ntmps10
    go_wp2_with fail
    simp only [← hw1]
    refine (HV.out _ HAL.out).mono ?_
    rintro e w2 ⟨rfl, hg2⟩
    clear hw1 a0 a1
    go_wp2_with fail
    refine (HQ.out _ (HAL.out.trans hg2)).mono ?_
    rintro e w3 ⟨rfl, hg3⟩
    have g13 := hg2.trans hg3
    have b0 := p0 _ g13
    have b1 := p1 _ g13
    go_wp2_with fail
    refine (HE.out _).mono ?_
    rintro e w4 ⟨rfl, hg4⟩
    go_wp2_with fail
    go_ret2
    exact ⟨rfl, HAL.out.trans (g13.trans hg4)⟩
  | true =>
  rw [km_yes hv hq he]
  rw [he] at HE
  have hx := el_ok he
  obtain ⟨i, rfl⟩ : ∃ i : Nat, x = (i : Int) := ⟨x.toNat, by omega⟩
  rw [Int.toNat_natCast]
  have hi : i < 64 := by omega
  have KH := Lib.hid (fun W => has_c (rf (nats L) (nats V) (fun j => fo (st K j)) (fo s) K.length) i (by omega) hi W)
  clear HRS HSZ hq hsz hnt hv he hx hi
  generalize (rf (nats L) (nats V) (fun j => fo (st K j)) (fo s) K.length) = R at *
  generalize R.testBit i = ans at *
  generalize L.length = n at *
  generalize V.length = m at *
  generalize K.length = k at *
  unfold GivesKm
  rw [hw1] at a0 a1
  go_enter Tryz.func10, Tryz.ntmps10
  go_wp2_with fail
  simp only [← hw1]
  refine (HV.out _ HAL.out).mono ?_
  rintro e w2 ⟨rfl, hg2⟩
  clear hw1 a0 a1
  go_wp2_with fail
  refine (HQ.out _ (HAL.out.trans hg2)).mono ?_
  rintro e w3 ⟨rfl, hg3⟩
  have g13 := hg2.trans hg3
  have b0 := p0 _ g13
  have b1 := p1 _ g13
  go_wp2_with fail
  refine (HE.out _).mono ?_
  rintro e w4 ⟨rfl, hg4⟩
  have g14 := g13.trans hg4
  have c0 := p0 _ g14
  have c1 := p1 _ g14
  go_wp2_with fail
  refine (HREF.out _ (HAL.out.trans g14)).mono ?_
  rintro e w5 ⟨rfl, hg5⟩
  go_wp2_with fail
  refine (KH.out _).mono ?_
  rintro e w6 ⟨rfl, hg6⟩
  go_wp2_with fail
  go_ret2
  exact ⟨rfl, HAL.out.trans ((g14.trans hg5).trans hg6)⟩
set_option maxHeartbeats 4000000 in
theorem specKm_c (sz : Int) (v u vl : Value) (L V : List Int) (x : Int) (K : List ByteArray) (s : ByteArray) (w : World) (h : Ints w v L) (hu : Ints w u V) (hK : Strs w vl K) (hF : Fits K) (hn : K.length ≤ 1048576) (hz : s.size ≤ 140737488355328) :
    Calls Tryz.prog 6 #[.agg #[.int .i64 sz, v], u, .int .i64 x, vl, .string s] w (GivesKm w (kmF sz L V x K s)) := by
  have HV := Lib.hid (fun W hW => isVal_c sz v u L V W (h.grew hW) (hu.grew hW))
  have HQ := Lib.hid (fun W hW => show Calls Tryz.prog 16 #[vl, .string s] W fun e w' => e = .returned (.bool (sqB K s)) ∧ Grew W w' from l22Is_c vl K s W (hK.grew hW) hF hn hz)
  have HREF := Lib.hid (fun (hv : valB sz L V = true) (hq : sqB K s = true) W (hW : Grew w W) => show Calls Tryz.prog 19 #[.agg #[.int .i64 sz, v], u, vl, .string s] W fun e w' => e = .returned (.int .i64 ((rf (nats L) (nats V) (fun j => fo (st K j)) (fo s) K.length : Nat) : Int)) ∧ Grew W w' from by
    obtain ⟨rfl, _, q2, q3, q4, q5, q6⟩ := val_nats hv
    have hq' := hq
    unfold sqB at hq'
    simp only [Bool.and_eq_true] at hq'
    exact l24Against_c v u vl (nats L) (nats V) K s W (by rw [q3]; exact h.grew hW) (by rw [q4]; exact hu.grew hW) (hK.grew hW) q2 q6 q5 hq'.1 (asc_gp hq'.2.1) hF hn hz)
  have HRS := Lib.hid (fun (hv : valB sz L V = true) => rf_sm (V := nats V) (val_nats hv).2.2.1 (fun j => fo (st K j)) (fo s) K.length)
  have HSZ := Lib.hid (fun (hv : valB sz L V = true) => show 0 ≤ sz ∧ sz ≤ 8 from by obtain ⟨rfl, q, _⟩ := val_nats hv; omega)
  have hgr := (Grew.refl w).alloc (.cells #[.int .i64 sz, v] 30)
  obtain ⟨A', cA, rfl⟩ := ints_slice h
  obtain ⟨AU, cu, rfl⟩ := ints_slice hu
  obtain ⟨AL, cL, rfl⟩ := strs_slice hK
  obtain ⟨w1, hw1⟩ : ∃ w1, w1 = w.alloc (.cells #[.int .i64 sz, .slice A' L.length cA] 30) := ⟨_, rfl⟩
  have hb0 : w1.heap[w.heap.size]? = some (.cells #[.int .i64 sz, .slice A' L.length cA] 30 (0, 0)) := by rw [hw1]; exact blk_new w _
  rw [← hw1] at hgr
  have p0 : ∀ W, Grew w1 W → W.cell? ⟨w.heap.size, 0, none⟩ = some (.int .i64 sz) := fun W hW => by rw [blk_cell ((hW.block (blk_lt hb0)).trans hb0)]; rfl
  have p1 : ∀ W, Grew w1 W → W.cell? ⟨w.heap.size, 1, none⟩ = some (.slice A' L.length cA) := fun W hW => by rw [blk_cell ((hW.block (blk_lt hb0)).trans hb0)]; rfl
  have HAL := Lib.hid hgr
  have a0 := p0 _ (Grew.refl _)
  have a1 := p1 _ (Grew.refl _)
  clear h hu hK hF hn hz hb0 hgr
  cases hv : valB sz L V with
  | false =>
    rw [km_no1 hv]
    rw [hv] at HV
    clear HQ HREF HRS HSZ hv
    generalize L.length = n at *
    generalize V.length = m at *
    generalize K.length = k at *
    unfold GivesKm
    rw [hw1] at a0 a1
    go_enter Tryz.func6, Tryz.ntmps6
    go_wp2_with fail
    simp only [← hw1]
    refine (HV.out _ HAL.out).mono ?_
    rintro e w2 ⟨rfl, hg2⟩
    clear hw1 a0 a1
    go_wp2_with fail
    go_ret2
    exact ⟨rfl, HAL.out.trans hg2⟩
  | true =>
  have HREF := Lib.hid (HREF.out hv)
  have hrs := HRS.out hv
  have hsz := HSZ.out hv
  have hnt := val_nats hv
  rw [hv] at HV
  cases hq : sqB K s with
  | false =>
    rw [km_no2 hq]
    rw [hq] at HQ
    clear HREF HRS HSZ hq hrs hsz hnt hv
    generalize L.length = n at *
    generalize V.length = m at *
    generalize K.length = k at *
    unfold GivesKm
    rw [hw1] at a0 a1
    go_enter Tryz.func6, Tryz.ntmps6
    go_wp2_with fail
    simp only [← hw1]
    refine (HV.out _ HAL.out).mono ?_
    rintro e w2 ⟨rfl, hg2⟩
    clear hw1 a0 a1
    go_wp2_with fail
    refine (HQ.out _ (HAL.out.trans hg2)).mono ?_
    rintro e w3 ⟨rfl, hg3⟩
    go_wp2_with fail
    go_ret2
    exact ⟨rfl, HAL.out.trans (hg2.trans hg3)⟩
  | true =>
  have HREF := Lib.hid (HREF.out hq)
  rw [hq] at HQ
  have HE := Lib.hid (fun W => (l01In_q x 0 (sz - 1) W).mono fun e w' (q : _ ∧ _) => (⟨q.1.trans (by unfold elB; rw [Bool.decide_and]), q.2 ▸ Grew.refl _⟩ : e = .returned (.bool (elB sz x)) ∧ Grew W w'))
  have hwr : wrap64 (sz - 1) = sz - 1 := by unfold wrap64; omega
  cases he : elB sz x with
  | false =>
    rw [km_no3 hv hq he]
    rw [he] at HE
    clear HREF HRS HSZ hq hrs hsz hnt hv he
    generalize L.length = n at *
    generalize V.length = m at *
    generalize K.length = k at *
    unfold GivesKm
    rw [hw1] at a0 a1
    go_enter Tryz.func6, Tryz.ntmps6
    go_wp2_with fail
    simp only [← hw1]
    refine (HV.out _ HAL.out).mono ?_
    rintro e w2 ⟨rfl, hg2⟩
    clear hw1 a0 a1
    go_wp2_with fail
    refine (HQ.out _ (HAL.out.trans hg2)).mono ?_
    rintro e w3 ⟨rfl, hg3⟩
    have g13 := hg2.trans hg3
    have b0 := p0 _ g13
    have b1 := p1 _ g13
    go_wp2_with fail
    refine (HE.out _).mono ?_
    rintro e w4 ⟨rfl, hg4⟩
    go_wp2_with fail
    go_ret2
    exact ⟨rfl, HAL.out.trans (g13.trans hg4)⟩
  | true =>
  rw [km_yes hv hq he]
  rw [he] at HE
  have hx := el_ok he
  obtain ⟨i, rfl⟩ : ∃ i : Nat, x = (i : Int) := ⟨x.toNat, by omega⟩
  rw [Int.toNat_natCast]
  have hi : i < 64 := by omega
  have KH := Lib.hid (fun W => l01Bit_c (rf (nats L) (nats V) (fun j => fo (st K j)) (fo s) K.length) i (by omega) hi W)
  clear HRS HSZ hq hsz hnt hv he hx hi
  generalize (rf (nats L) (nats V) (fun j => fo (st K j)) (fo s) K.length) = R at *
  generalize R.testBit i = ans at *
  generalize L.length = n at *
  generalize V.length = m at *
  generalize K.length = k at *
  unfold GivesKm
  rw [hw1] at a0 a1
  go_enter Tryz.func6, Tryz.ntmps6
  go_wp2_with fail
  simp only [← hw1]
  refine (HV.out _ HAL.out).mono ?_
  rintro e w2 ⟨rfl, hg2⟩
  clear hw1 a0 a1
  go_wp2_with fail
  refine (HQ.out _ (HAL.out.trans hg2)).mono ?_
  rintro e w3 ⟨rfl, hg3⟩
  have g13 := hg2.trans hg3
  have b0 := p0 _ g13
  have b1 := p1 _ g13
  go_wp2_with fail
  refine (HE.out _).mono ?_
  rintro e w4 ⟨rfl, hg4⟩
  have g14 := g13.trans hg4
  have c0 := p0 _ g14
  have c1 := p1 _ g14
  go_wp2_with fail
  refine (HREF.out _ (HAL.out.trans g14)).mono ?_
  rintro e w5 ⟨rfl, hg5⟩
  go_wp2_with fail
  refine (KH.out _).mono ?_
  rintro e w6 ⟨rfl, hg6⟩
  go_wp2_with fail
  go_ret2
  exact ⟨rfl, HAL.out.trans ((g14.trans hg5).trans hg6)⟩
end Go.Proofs.YtoogcooggdahnaaGreat

/- Slices of int64 that came in: szInt64S. -/
namespace Go.Proofs.YtoogcooggdahnaaGreat
open Go.RowKit

/-- A list of numbers that came in. -/
def ArgI (w : World) (v : Value) (L : List Int) : Prop := (∃ A c, v = .slice A L.length c ∧ L.length ≤ 9223372036854775807) ∧ (0 < L.length → Ints w v L)
theorem ArgI.grew {w w' : World} {v : Value} {L : List Int} (h : ArgI w v L) (hg : Grew w w') : ArgI w' v L := ⟨h.1, fun hp => (h.2 hp).grew hg⟩

theorem szInt64S_c (v : Value) (L : List Int) (left : Int) (w : World) (h : ArgI w v L) (h0 : 0 ≤ left) (h1 : left ≤ 1048576) :
    Calls Tryz.prog 14 #[v, .int .i64 left] w fun e w' => ∃ r : Int, e = .returned (.int .i64 r) ∧ (r ≤ 1048576 ∧ (0 ≤ r → L.length ≤ 1048576)) ∧ Grew w w' := by
  obtain ⟨⟨A, c, rfl, hmax⟩, _⟩ := h
  generalize L.length = n at *
  by_cases hlong : left < n
  · go_enter Tryz.func14, Tryz.ntmps14
    go_wp2_with fail
    go_ret
    exact ⟨_, rfl, ⟨by omega, fun h => absurd h (by omega)⟩, Grew.refl _⟩
  · go_enter Tryz.func14, Tryz.ntmps14
    go_wp2_with fail
    go_ret
    exact ⟨_, rfl, ⟨by omega, fun _ => by omega⟩, Grew.refl _⟩
end Go.Proofs.YtoogcooggdahnaaGreat

/- The laws' own helpers on slices of int64: toInt64S, eqInt64S, markInt64S, heldInt64S. -/
namespace Go.Proofs.YtoogcooggdahnaaGreat
open Go.RowKit

theorem toInt64S_c (v : Value) (L : List Int) (w : World) (h : ArgI w v L) (hn : L.length ≤ 1048576) :
    Calls Tryz.prog 8 #[v] w (GivesI w L) := by
  obtain ⟨⟨A, c, rfl, hmax⟩, hS⟩ := h
  have hmk := run_make_row' (P := Tryz.prog) 22 2 (.int .i64 0) 8 Tryz.underlying22 Tryz.infoI rfl .i64 .i64 L.length (by omega) (by omega)
  have hend : ∀ cur w', w'.heap[w.heap.size]? = some (.cells cur 2 (0, 0)) → cur.size = L.length → (∀ i, i < L.length → cur[i]? = some (.int .i64 (it L i))) → OwnI w' w.heap.size (.slice (some ⟨w.heap.size, 0, none⟩) L.length L.length) L :=
    fun cur w' h1 h2 h3 => OwnI.mk_ (Nat.le_refl _) h1 (Nat.le_refl _) (by omega) h2 h3
  have HE := Lib.hid hend
  clear hend
  have hsz : (madeCells #[Value.int .i64 0] L.length).size = L.length := by simp [madeCells]
  have hnew := blk_new w (.cells (madeCells #[Value.int .i64 0] L.length) 2)
  have hal := (Grew.refl w).alloc (.cells (madeCells #[Value.int .i64 0] L.length) 2)
  generalize madeCells #[Value.int .i64 0] L.length = cur0 at *
  by_cases hp : 0 < L.length
  · rcases (hS hp).open_ with ⟨_, h2⟩ | ⟨b, o, c', hv, hc, hm, hb, hcell⟩
    · rw [h2] at hp; cases hp
    obtain ⟨rfl, rfl⟩ : A = some ⟨b, o, none⟩ ∧ c = c' := by simpa using hv
    clear hS hv
    have HC := Lib.hid hcell
    clear hcell
    generalize hN : L.length = n at *
    clear hN
    have HNEW := Lib.hid hnew
    clear hnew
    have HAL := Lib.hid hal
    clear hal
    go_enter Tryz.func8, Tryz.ntmps8
    go_wp2_with fail
    go_loopw [4] (fun i wr => ∃ (j : Nat) (cur : Array Value), j ≤ n ∧ i = .int .i64 j ∧ wr.heap[w.heap.size]? = some (.cells cur 2 (0, 0)) ∧ cur.size = n ∧ Grew w wr ∧ (∀ i, i < j → cur[i]? = some (.int .i64 (it L i)))) (fun i _ => n - (intOf i).toNat)
    case atStart => exact ⟨0, cur0, Nat.zero_le _, rfl, HNEW.out, hsz, HAL.out, fun i hi => absurd hi (by omega)⟩
    case round =>
      obtain ⟨j, cur, hj, rfl, hh, hcs, hB, hc2⟩ := hrel
      have HD := Lib.hid hc2
      clear hc2
      by_cases hlt : j < n
      · have k1 := HC.out j hlt _ hB
        have HS := Lib.hid (one_stepI (F := fun i => .int .i64 (it L i)) (j := j) (by omega) HD.out)
        have f1 : ∀ i, wr.frozen? ⟨w.heap.size, i, none⟩ = false := fun i => by simp [World.frozen?, hh]
        obtain ⟨u1, hu1⟩ : ∃ u, wr.cell? ⟨w.heap.size, 0 + j, none⟩ = some u := by
          rw [cell_of_row wr w.heap.size _ cur _ (0, 0) hh]
          exact ⟨_, Array.getElem?_eq_getElem (by omega)⟩
        simp only [Nat.zero_add] at hu1
        have HH := Lib.hid hh
        clear hh
        generalize it L j = x at *
        go_wp2_with fail
        go_roundw
        case rel => exact ⟨j + 1, _, by omega, by go_num, blk_set HH.out _ _, by simp [hcs], hB.setCell (Nat.le_refl _) _, HS.out⟩
        case measure => simp [intOf]; omega
      · obtain rfl : j = n := by omega
        have HH := Lib.hid hh
        clear hh
        go_wp2_with fail
        go_ret
        exact ⟨_, rfl, HE.out _ _ HH.out hcs HD.out, hB⟩
  · have hp0 : L.length ≤ 0 := by omega
    have HNEW := Lib.hid hnew
    clear hnew hS hp
    have HAL := Lib.hid hal
    clear hal
    generalize hN : L.length = n at *
    clear hN
    go_enter Tryz.func8, Tryz.ntmps8
    go_wp2_with fail
    refine wp_loop_rounds 1 ?_; rw [rounds_succ]
    go_wp2_with fail
    go_ret
    exact ⟨_, rfl, HE.out _ _ HNEW.out hsz (fun i hi => absurd hi (by omega)), HAL.out⟩
end Go.Proofs.YtoogcooggdahnaaGreat

/- Two lists of int64 that are equal: eqInt64S. -/
namespace Go.Proofs.YtoogcooggdahnaaGreat
open Go.RowKit

/-- Two lists of numbers that are equal. -/
theorem eqInt64S_yes (v1 v2 : Value) (L : List Int) (w : World) (h1 : Ints w v1 L) (h2 : Ints w v2 L) (hn : L.length ≤ 1099511627776) :
    Calls Tryz.prog 12 #[v1, v2] w fun e w' => e = .returned (.bool true) ∧ Grew w w' := by
  rcases h1.open_ with ⟨rfl, rfl⟩ | ⟨b1, o1, c1, rfl, hc1, hm1, hb1, hf⟩
  · obtain ⟨A, c, rfl⟩ := ints_slice h2
    go_enter Tryz.func12, Tryz.ntmps12
    go_wp2_with fail
    refine wp_loop_rounds 1 ?_; rw [rounds_succ]
    go_wp2_with fail
    go_ret
    exact ⟨rfl, Grew.refl _⟩
  · rcases h2.open_ with ⟨rfl, rfl⟩ | ⟨b2, o2, c2, rfl, hc2, hm2, hb2, hh⟩
    · go_enter Tryz.func12, Tryz.ntmps12
      go_wp2_with fail
      refine wp_loop_rounds 1 ?_; rw [rounds_succ]
      go_wp2_with fail
      go_ret
      exact ⟨rfl, Grew.refl _⟩
    · clear h1 h2
      have HF := Lib.hid hf
      have HH := Lib.hid hh
      clear hf hh
      generalize hN : L.length = n at *
      clear hN
      go_enter Tryz.func12, Tryz.ntmps12
      go_wp2_with fail
      go_loopw [5] (fun i wr => ∃ j : Nat, j ≤ n ∧ i = .int .i64 j ∧ Grew w wr) (fun i _ => n - (intOf i).toNat)
      case atStart => exact ⟨0, Nat.zero_le _, rfl, Grew.refl _⟩
      case round =>
        obtain ⟨j, hj, rfl, hB⟩ := hrel
        by_cases hlt : j < n
        · have k1 : ∀ W, Grew w W → W.cell? ⟨b1, o1 + j, none⟩ = some (.int .i64 (it L j)) := fun W hW => HF.out j hlt W hW
          have k2 : ∀ W, Grew w W → W.cell? ⟨b2, o2 + j, none⟩ = some (.int .i64 (it L j)) := fun W hW => HH.out j hlt W hW
          have k3 := k1 _ hB
          have k4 := k2 _ hB
          generalize it L j = x at *
          have hx : (x != x) = false := by simp
          go_wp2_with fail
          go_quiet (fail)
          go_wp2_with fail
          go_roundw
          case rel => exact ⟨j + 1, by omega, by go_num, by first | assumption | exact hB.drewN _⟩
          case measure => simp [intOf]; omega
        · go_wp2_with fail
          go_ret
          exact ⟨rfl, by assumption⟩
end Go.Proofs.YtoogcooggdahnaaGreat

/- The laws' own helpers on posets: szPoset, toPoset, eqPoset. -/
namespace Go.Proofs.YtoogcooggdahnaaGreat
open Go.RowKit

theorem szPoset_c (sz : Int) (v : Value) (L : List Int) (left : Int) (w : World) (h : ArgI w v L) (h0 : 0 ≤ left) (h1 : left ≤ 1048576) :
    Calls Tryz.prog 4 #[.agg #[.int .i64 sz, v], .int .i64 left] w fun e w' => ∃ r : Int, e = .returned (.int .i64 r) ∧ (r ≤ 1048576 ∧ (0 ≤ r → L.length ≤ 1048576)) ∧ Grew w w' := by
  have HS := Lib.hid (fun W hW => szInt64S_c v L left W (h.grew hW) h0 h1)
  obtain ⟨⟨A, c, rfl, hmax⟩, _⟩ := h
  clear h0 h1
  go_enter Tryz.func4, Tryz.ntmps4
  go_wp2_with fail
  refine (HS.out _ ((Grew.refl w).alloc _)).mono ?_
  rintro e w1 ⟨r, rfl, ⟨h1, h2⟩, hg1⟩
  by_cases hr : r < 0
  · go_wp2_with fail
    go_ret
    exact ⟨_, rfl, ⟨by omega, by omega⟩, Grew.of_alloc hg1⟩
  · go_wp2_with fail
    go_ret
    exact ⟨_, rfl, ⟨h1, h2⟩, Grew.of_alloc hg1⟩
/-- A poset in a block of its own, given by value. -/
def GivesPo (w : World) (sz : Int) (L : List Int) (e : Ending) (w' : World) : Prop := ∃ v, e = .returned (.agg #[.int .i64 sz, v]) ∧ OwnI w' w.heap.size v L ∧ Grew w w'
theorem toPoset_c (sz : Int) (v : Value) (L : List Int) (w : World) (h : ArgI w v L) (hn : L.length ≤ 1048576) :
    Calls Tryz.prog 7 #[.agg #[.int .i64 sz, v]] w (GivesPo w sz L) := by
  have hinfo := info2P
  have HT := Lib.hid (fun W hW => toInt64S_c v L W (h.grew hW) hn)
  obtain ⟨⟨A, c, rfl, hmax⟩, _⟩ := h
  generalize L.length = n at *
  obtain ⟨wa, hwa⟩ : ∃ wa, wa = ((w.alloc (.cells #[.int .i64 sz, .slice A n c] 24)).alloc (.cells #[.int .i64 0, .slice none 0 0] 30)).alloc (.cells #[.int .i64 sz, .slice none 0 0] 30) := ⟨_, rfl⟩
  have ga : Grew w wa := by rw [hwa]; exact (((Grew.refl w).alloc _).alloc _).alloc _
  have sa : wa.heap.size = w.heap.size + 3 := by rw [hwa]; simp
  have y1 : ∀ W, Grew wa W → W.heap[w.heap.size + 1]? = some (.cells #[.int .i64 0, .slice none 0 0] 30 (0, 0)) := fun W hW => (hW.block (by rw [sa]; omega)).trans (by
    rw [hwa]
    have h := blk_new (w.alloc (.cells #[.int .i64 sz, .slice A n c] 24)) (.cells #[.int .i64 0, .slice none 0 0] 30)
    have e : (w.alloc (.cells #[.int .i64 sz, .slice A n c] 24)).heap.size = w.heap.size + 1 := by simp
    rw [e] at h
    have h2 := ((Grew.refl ((w.alloc (.cells #[.int .i64 sz, .slice A n c] 24)).alloc (.cells #[.int .i64 0, .slice none 0 0] 30))).alloc (.cells #[.int .i64 sz, .slice none 0 0] 30)).block (k := w.heap.size + 1) (by simp)
    exact h2.trans h)
  have y2 : ∀ W, Grew wa W → W.heap[w.heap.size + 2]? = some (.cells #[.int .i64 sz, .slice none 0 0] 30 (0, 0)) := fun W hW => (hW.block (by rw [sa]; omega)).trans (by
    rw [hwa]
    have h := blk_new ((w.alloc (.cells #[.int .i64 sz, .slice A n c] 24)).alloc (.cells #[.int .i64 0, .slice none 0 0] 30)) (.cells #[.int .i64 sz, .slice none 0 0] 30)
    have e : ((w.alloc (.cells #[.int .i64 sz, .slice A n c] 24)).alloc (.cells #[.int .i64 0, .slice none 0 0] 30)).heap.size = w.heap.size + 2 := by simp
    rwa [e] at h)
  have GA := Lib.hid ga
  have SA := Lib.hid sa
  have Y1 := Lib.hid y1
  have Y2 := Lib.hid y2
  clear ga sa y1 y2
  go_enter Tryz.func7, Tryz.ntmps7
  go_wp2_with fail
  simp only [← hwa]
  clear hwa
  refine (HT.out _ GA.out).mono ?_
  rintro e w1 ⟨v1, rfl, hO1, hg1⟩
  obtain ⟨A1, c1', rfl⟩ := ints_slice hO1.ints
  have hb1 := Y1.out _ hg1
  have hb2 := Y2.out _ hg1
  have d0 : w1.cell? ⟨w.heap.size + 1, 0, none⟩ = some (.int .i64 0) := by rw [blk_cell hb1]; rfl
  have d1 : w1.cell? ⟨w.heap.size + 1, 1, none⟩ = some (.slice none 0 0) := by rw [blk_cell hb1]; rfl
  have c0 : w1.cell? ⟨w.heap.size + 2, 0, none⟩ = some (.int .i64 sz) := by rw [blk_cell hb2]; rfl
  have c1 : w1.cell? ⟨w.heap.size + 2, 1, none⟩ = some (.slice none 0 0) := by rw [blk_cell hb2]; rfl
  have f0 := blk_frozen hb1 0
  have f1 := blk_frozen hb1 1
  have f2 := blk_frozen hb2 1
  have HB1 := Lib.hid hb1
  have HB2 := Lib.hid hb2
  have HO1 := Lib.hid hO1
  clear hb1 hb2 hO1
  go_wp2_with fail
  have hs1 := hg1.size
  have hsa := SA.out
  have ho : Only (w.heap.size + 1 + 1) w1 (w1.setCell ⟨w.heap.size + 1 + 1, 1, none⟩ (.slice A1 L.length c1')) := (Only.refl _ _).setCell _
  have hb3 := (ho.block (k := w.heap.size + 1) (by omega) (by omega)).trans HB1.out
  (try simp only [Exit.inBlock, Exit.then])
  refine bodyPost_ret (results_cell_row rfl _ _ (w.heap.size + 1) _ _ _ _ rfl (blk_set (blk_set hb3 0 _) 1 _) Tryz.underlying30 rfl hinfo) rfl ?_
  have hk : Only (w.heap.size + 1) (w1.setCell ⟨w.heap.size + 1 + 1, 1, none⟩ (.slice A1 L.length c1')) (((w1.setCell ⟨w.heap.size + 1 + 1, 1, none⟩ (.slice A1 L.length c1')).setCell ⟨w.heap.size + 1, 0, none⟩ (.int .i64 sz)).setCell ⟨w.heap.size + 1, 1, none⟩ (.slice A1 L.length c1')) := ((Only.refl _ _).setCell _).setCell _
  refine ⟨_, rfl, ?_, (((GA.out.trans hg1).setCell (show w.heap.size ≤ w.heap.size + 1 + 1 by omega) _).setCell (Nat.le_succ _) _).setCell (Nat.le_succ _) _⟩
  have hq := own_only HO1.out ho (fun hh => by have := own_of_ge HO1.out hh; omega)
  exact OwnI.base (own_only hq hk (fun hh => by have := own_of_ge hq hh; omega)) (by omega)
theorem eqPoset_yes (sz : Int) (v1 v2 : Value) (L : List Int) (w : World) (h1 : Ints w v1 L) (h2 : Ints w v2 L) (hn : L.length ≤ 1099511627776) :
    Calls Tryz.prog 11 #[.agg #[.int .i64 sz, v1], .agg #[.int .i64 sz, v2]] w fun e w' => e = .returned (.bool true) ∧ Grew w w' := by
  have HE := Lib.hid (fun W hW => eqInt64S_yes v1 v2 L W (h1.grew hW) (h2.grew hW) hn)
  obtain ⟨A, c, rfl⟩ := ints_slice h1
  obtain ⟨A2, c2, rfl⟩ := ints_slice h2
  clear h1 h2
  have hq : (sz != sz) = false := by simp
  go_enter Tryz.func11, Tryz.ntmps11
  go_wp2_with fail
  refine (HE.out _ (((Grew.refl w).alloc _).alloc _)).mono ?_
  rintro e w1 ⟨rfl, hg1⟩
  go_wp2_with fail
  go_ret
  exact ⟨rfl, Grew.of_alloc (Grew.of_alloc hg1)⟩
end Go.Proofs.YtoogcooggdahnaaGreat

/- The law FnExactIsCountermodel, walked. -/
namespace Go.Proofs.YtoogcooggdahnaaGreat
open Go.RowKit

set_option maxHeartbeats 16000000 in
set_option maxRecDepth 20000 in
theorem lawKm_c (s0 : Int) (v0 : Value) (L0 : List Int) (v1 : Value) (L1 : List Int) (x2 : Int) (v3 : Value) (L3 : List ByteArray) (x4 : ByteArray) (w : World) (h0 : ArgI w v0 L0) (h1 : ArgI w v1 L1) (h3 : ArgS w v3 L3) :
    Calls Tryz.prog 3 #[.agg #[.int .i64 s0, v0], v1, .int .i64 x2, v3, .string x4] w fun e w' => e = .returned (.bool true) ∧ Grew w w' := by
  have Z0 := Lib.hid (fun W l (hW : Grew w W) (a0 : 0 ≤ l) (a1 : l ≤ 1048576) => szPoset_c s0 v0 L0 l W (h0.grew hW) a0 a1)
  have T0 := Lib.hid (fun W (hW : Grew w W) => toPoset_c s0 v0 L0 W (h0.grew hW))
  obtain ⟨⟨A0, c0, rfl, hm0⟩, _⟩ := h0
  have T1 := Lib.hid (fun W (hW : Grew w W) => toInt64S_c v1 L1 W (h1.grew hW))
  obtain ⟨⟨A1, c1, rfl, hm1⟩, _⟩ := h1
  have Z3 := Lib.hid (fun W l (hW : Grew w W) (a0 : 0 ≤ l) (a1 : l ≤ 1048576) => szStringS_c v3 L3 l W (h3.grew hW) a0 a1)
  have T3 := Lib.hid (fun W (hW : Grew w W) => toStringS_c v3 L3 W (h3.grew hW))
  obtain ⟨⟨A3, c3, rfl, hm3⟩, _⟩ := h3
  by_cases hlen1 : L1.length ≤ 1048576
  case neg =>
    clear T0 T1 T3 Z0 Z3
    generalize L0.length = n0 at *
    generalize L1.length = n1 at *
    generalize L3.length = n3 at *
    go_enter Tryz.func3, Tryz.ntmps3
    go_wp2_with fail
    go_ret
    exact ⟨rfl, (Grew.refl w).alloc _⟩
  by_cases hlen4 : x4.size ≤ 1048576
  case neg =>
    clear T0 T1 T3 Z0 Z3
    generalize L0.length = n0 at *
    generalize L1.length = n1 at *
    generalize L3.length = n3 at *
    go_enter Tryz.func3, Tryz.ntmps3
    go_wp2_with fail
    go_ret
    exact ⟨rfl, (Grew.refl w).alloc _⟩
  have T1 := Lib.hid (fun W hW => T1.out W hW hlen1)
  generalize hn0e : L0.length = n0 at *
  replace hn0e := Lib.hid hn0e
  generalize hn1e : L1.length = n1 at *
  replace hn1e := Lib.hid hn1e
  generalize hn3e : L3.length = n3 at *
  replace hn3e := Lib.hid hn3e
  have HL1 := Lib.hid hlen1
  have HL4 := Lib.hid hlen4
  go_enter Tryz.func3, Tryz.ntmps3
  have g0 : Grew w w := Grew.refl w
  obtain ⟨w1, hw1⟩ : ∃ W, W = w.alloc (.cells #[.int .i64 s0, .slice A0 n0 c0] 24) := ⟨_, rfl⟩
  have z1 : Hid (w1.heap.size = w.heap.size + 1) := Lib.hid (by rw [hw1]; simp)
  have g1 : Grew w w1 := by rw [hw1]; exact g0.alloc _
  have HBp0 : Hid (w1.heap[w.heap.size]? = some (.cells #[.int .i64 s0, .slice A0 n0 c0] 24 (0, 0))) := Lib.hid (by rw [hw1]; exact blk_new w _)
  clear g0
  go_wp2_with fail
  simp only [← hw1]
  clear hw1
  refine (Z0.out _ _ g1 (by omega) (by omega)).mono ?_
  rintro e w2 ⟨r0, rfl, ⟨hra0, hrb0⟩, hg2⟩
  have z2 := Lib.hid hg2.size
  have g2 : Grew w w2 := g1.trans hg2
  replace HBp0 := Lib.hid ((hg2.block (blk_lt HBp0.out)).trans HBp0.out)
  clear hg2 g1
  by_cases hr0 : r0 < 0
  · clear hrb0
    go_wp2_with fail
    go_ret
    exact ⟨rfl, g2⟩
  have hn0 := hrb0 (by omega)
  clear hrb0
  have T0 := Lib.hid (fun W hW => T0.out W hW hn0)
  have hLL0 : L0.length ≤ 1048576 := by have := hn0e.out; omega
  go_wp2_with fail
  refine (Z3.out _ _ g2 (by omega) (by omega)).mono ?_
  rintro e w3 ⟨r3, rfl, ⟨hra3, hrb3⟩, hg3⟩
  have z3 := Lib.hid hg3.size
  have g3 : Grew w w3 := g2.trans hg3
  replace HBp0 := Lib.hid ((hg3.block (blk_lt HBp0.out)).trans HBp0.out)
  clear hg3 g2
  by_cases hr3 : r3 < 0
  · clear hrb3
    go_wp2_with fail
    go_ret
    exact ⟨rfl, g3⟩
  obtain ⟨hn3, hf3⟩ := hrb3 (by omega)
  have F3 := Lib.hid hf3
  clear hrb3 hf3
  replace hn3 : n3 ≤ 1048576 := by have := hn3e.out; omega
  have hLL3 : L3.length ≤ 1048576 := by have := hn3e.out; omega
  have hLL1 : L1.length ≤ 1048576 := by have := hn1e.out; have := HL1.out; omega
  have KS := Lib.hid (fun u0 u1 u3 W (y0 : Ints W u0 L0) (y1 : Ints W u1 L1) (y3 : Strs W u3 L3) => specKm_c s0 u0 u1 u3 L0 L1 x2 L3 x4 W y0 y1 y3 F3.out (by omega) (by omega))
  have KI := Lib.hid (fun u0 u1 u3 W (y0 : Ints W u0 L0) (y1 : Ints W u1 L1) (y3 : Strs W u3 L3) => implKm_c s0 u0 u1 u3 L0 L1 x2 L3 x4 W y0 y1 y3 F3.out (by omega) (by omega))
  generalize kmF s0 L0 L1 x2 L3 x4 = rr at *
  obtain ⟨R0, R1⟩ := rr
  unfold GivesKm at KS KI
  simp only at KS KI
  have hcc0 : (R0 != R0) = false := by simp
  have hcc1 : (R1 != R1) = false := by simp
  have kp00 : w3.cell? ⟨w.heap.size, 0, none⟩ = some (.int .i64 s0) := by rw [blk_cell HBp0.out]; rfl
  have kp01 : w3.cell? ⟨w.heap.size, 1, none⟩ = some (.slice A0 n0 c0) := by rw [blk_cell HBp0.out]; rfl
  go_wp2_with fail
  refine (T0.out _ g3).mono ?_
  rintro e w4 ⟨a0, rfl, ha0, hg4⟩
  have z4 := Lib.hid hg4.size
  have g4 : Grew w w4 := g3.trans hg4
  replace HBp0 := Lib.hid ((hg4.block (blk_lt HBp0.out)).trans HBp0.out)
  clear hg4 g3
  obtain ⟨Aa0, ca0, rfl⟩ := ints_slice ha0.ints
  clear kp00 kp01
  have kp00 : w4.cell? ⟨w.heap.size, 0, none⟩ = some (.int .i64 s0) := by rw [blk_cell HBp0.out]; rfl
  have kp01 : w4.cell? ⟨w.heap.size, 1, none⟩ = some (.slice A0 n0 c0) := by rw [blk_cell HBp0.out]; rfl
  go_wp2_with fail
  refine (T1.out _ g4).mono ?_
  rintro e w5 ⟨a1, rfl, ha1, hg5⟩
  have z5 := Lib.hid hg5.size
  have g5 : Grew w w5 := g4.trans hg5
  replace ha0 := ha0.grew hg5
  replace HBp0 := Lib.hid ((hg5.block (blk_lt HBp0.out)).trans HBp0.out)
  clear hg5 g4
  obtain ⟨Aa1, ca1, rfl⟩ := ints_slice ha1.ints
  clear kp00 kp01
  have kp00 : w5.cell? ⟨w.heap.size, 0, none⟩ = some (.int .i64 s0) := by rw [blk_cell HBp0.out]; rfl
  have kp01 : w5.cell? ⟨w.heap.size, 1, none⟩ = some (.slice A0 n0 c0) := by rw [blk_cell HBp0.out]; rfl
  go_wp2_with fail
  refine (T3.out _ g5 hn3).mono ?_
  rintro e w6 ⟨a3, rfl, ha3, hg6⟩
  have z6 := Lib.hid hg6.size
  have g6 : Grew w w6 := g5.trans hg6
  replace ha0 := ha0.grew hg6
  replace ha1 := ha1.grew hg6
  replace HBp0 := Lib.hid ((hg6.block (blk_lt HBp0.out)).trans HBp0.out)
  clear hg6 g5
  obtain ⟨Aa3, ca3, rfl⟩ := strs_slice ha3.strs
  clear kp00 kp01
  have kp00 : w6.cell? ⟨w.heap.size, 0, none⟩ = some (.int .i64 s0) := by rw [blk_cell HBp0.out]; rfl
  have kp01 : w6.cell? ⟨w.heap.size, 1, none⟩ = some (.slice A0 n0 c0) := by rw [blk_cell HBp0.out]; rfl
  go_wp2_with fail
  refine (KS.out _ _ _ _ ha0.ints ha1.ints ha3.strs).mono ?_
  rintro e w7 ⟨rfl, hg7⟩
  have z7 := Lib.hid hg7.size
  have g7 : Grew w w7 := g6.trans hg7
  replace ha0 := ha0.grew hg7
  replace ha1 := ha1.grew hg7
  replace ha3 := ha3.grew hg7
  replace HBp0 := Lib.hid ((hg7.block (blk_lt HBp0.out)).trans HBp0.out)
  clear hg7 g6
  clear ha0
  clear ha1
  clear ha3
  clear kp00 kp01
  have kp00 : w7.cell? ⟨w.heap.size, 0, none⟩ = some (.int .i64 s0) := by rw [blk_cell HBp0.out]; rfl
  have kp01 : w7.cell? ⟨w.heap.size, 1, none⟩ = some (.slice A0 n0 c0) := by rw [blk_cell HBp0.out]; rfl
  go_wp2_with fail
  refine (T0.out _ g7).mono ?_
  rintro e w8 ⟨x0, rfl, hx0, hg8⟩
  have z8 := Lib.hid hg8.size
  have g8 : Grew w w8 := g7.trans hg8
  replace HBp0 := Lib.hid ((hg8.block (blk_lt HBp0.out)).trans HBp0.out)
  clear hg8 g7
  obtain ⟨Ax0, cx0, rfl⟩ := ints_slice hx0.ints
  clear kp00 kp01
  have kp00 : w8.cell? ⟨w.heap.size, 0, none⟩ = some (.int .i64 s0) := by rw [blk_cell HBp0.out]; rfl
  have kp01 : w8.cell? ⟨w.heap.size, 1, none⟩ = some (.slice A0 n0 c0) := by rw [blk_cell HBp0.out]; rfl
  have ap00 : ∀ o, (w8.alloc o).cell? ⟨w.heap.size, 0, none⟩ = some (.int .i64 s0) := fun o => by rw [blk_cell ((((Grew.refl w8).alloc o).block (blk_lt HBp0.out)).trans HBp0.out)]; rfl
  have ap01 : ∀ o, (w8.alloc o).cell? ⟨w.heap.size, 1, none⟩ = some (.slice A0 n0 c0) := fun o => by rw [blk_cell ((((Grew.refl w8).alloc o).block (blk_lt HBp0.out)).trans HBp0.out)]; rfl
  obtain ⟨w9, hw9⟩ : ∃ W, W = w8.alloc (.cells #[.int .i64 s0, .slice Ax0 L0.length cx0] 30) := ⟨_, rfl⟩
  have hg9 : Grew w8 w9 := by rw [hw9]; exact (Grew.refl _).alloc _
  have z9 : Hid (w9.heap.size = w8.heap.size + 1) := Lib.hid (by rw [hw9]; simp)
  have g9 : Grew w w9 := g8.trans hg9
  replace hx0 := hx0.grew hg9
  replace HBp0 := Lib.hid ((hg9.block (blk_lt HBp0.out)).trans HBp0.out)
  have HBx0 : Hid (w9.heap[w8.heap.size]? = some (.cells #[.int .i64 s0, .slice Ax0 L0.length cx0] 30 (0, 0))) := Lib.hid (by rw [hw9]; exact blk_new w8 _)
  clear hg9 g8
  go_wp2_with fail
  simp only [← hw9]
  clear hw9
  refine (T1.out _ g9).mono ?_
  rintro e w10 ⟨x1, rfl, hx1, hg10⟩
  have z10 := Lib.hid hg10.size
  have g10 : Grew w w10 := g9.trans hg10
  replace hx0 := hx0.grew hg10
  replace HBp0 := Lib.hid ((hg10.block (blk_lt HBp0.out)).trans HBp0.out)
  replace HBx0 := Lib.hid ((hg10.block (blk_lt HBx0.out)).trans HBx0.out)
  clear hg10 g9
  obtain ⟨Ax1, cx1, rfl⟩ := ints_slice hx1.ints
  clear kp00 kp01 ap00 ap01
  have kp00 : w10.cell? ⟨w.heap.size, 0, none⟩ = some (.int .i64 s0) := by rw [blk_cell HBp0.out]; rfl
  have kp01 : w10.cell? ⟨w.heap.size, 1, none⟩ = some (.slice A0 n0 c0) := by rw [blk_cell HBp0.out]; rfl
  have kx00 : w10.cell? ⟨w8.heap.size, 0, none⟩ = some (.int .i64 s0) := by rw [blk_cell HBx0.out]; rfl
  have kx01 : w10.cell? ⟨w8.heap.size, 1, none⟩ = some (.slice Ax0 L0.length cx0) := by rw [blk_cell HBx0.out]; rfl
  go_wp2_with fail
  refine (T3.out _ g10 hn3).mono ?_
  rintro e w11 ⟨x3, rfl, hx3, hg11⟩
  have z11 := Lib.hid hg11.size
  have g11 : Grew w w11 := g10.trans hg11
  replace hx0 := hx0.grew hg11
  replace hx1 := hx1.grew hg11
  replace HBp0 := Lib.hid ((hg11.block (blk_lt HBp0.out)).trans HBp0.out)
  replace HBx0 := Lib.hid ((hg11.block (blk_lt HBx0.out)).trans HBx0.out)
  clear hg11 g10
  obtain ⟨Ax3, cx3, rfl⟩ := strs_slice hx3.strs
  clear kp00 kp01 kx00 kx01
  have kp00 : w11.cell? ⟨w.heap.size, 0, none⟩ = some (.int .i64 s0) := by rw [blk_cell HBp0.out]; rfl
  have kp01 : w11.cell? ⟨w.heap.size, 1, none⟩ = some (.slice A0 n0 c0) := by rw [blk_cell HBp0.out]; rfl
  have kx00 : w11.cell? ⟨w8.heap.size, 0, none⟩ = some (.int .i64 s0) := by rw [blk_cell HBx0.out]; rfl
  have kx01 : w11.cell? ⟨w8.heap.size, 1, none⟩ = some (.slice Ax0 L0.length cx0) := by rw [blk_cell HBx0.out]; rfl
  go_wp2_with fail
  refine (KI.out _ _ _ _ hx0.ints hx1.ints hx3.strs).mono ?_
  rintro e w12 ⟨rfl, hg12⟩
  have z12 := Lib.hid hg12.size
  have g12 : Grew w w12 := g11.trans hg12
  replace hx0 := hx0.grew hg12
  replace hx1 := hx1.grew hg12
  replace hx3 := hx3.grew hg12
  replace HBp0 := Lib.hid ((hg12.block (blk_lt HBp0.out)).trans HBp0.out)
  replace HBx0 := Lib.hid ((hg12.block (blk_lt HBx0.out)).trans HBx0.out)
  clear hg12 g11
  clear kp00 kp01 kx00 kx01
  have kp00 : w12.cell? ⟨w.heap.size, 0, none⟩ = some (.int .i64 s0) := by rw [blk_cell HBp0.out]; rfl
  have kp01 : w12.cell? ⟨w.heap.size, 1, none⟩ = some (.slice A0 n0 c0) := by rw [blk_cell HBp0.out]; rfl
  have kx00 : w12.cell? ⟨w8.heap.size, 0, none⟩ = some (.int .i64 s0) := by rw [blk_cell HBx0.out]; rfl
  have kx01 : w12.cell? ⟨w8.heap.size, 1, none⟩ = some (.slice Ax0 L0.length cx0) := by rw [blk_cell HBx0.out]; rfl
  have ep00 : ∀ W, Grew w12 W → W.cell? ⟨w.heap.size, 0, none⟩ = some (.int .i64 s0) := fun W hW => by rw [blk_cell ((hW.block (blk_lt HBp0.out)).trans HBp0.out)]; rfl
  have ep01 : ∀ W, Grew w12 W → W.cell? ⟨w.heap.size, 1, none⟩ = some (.slice A0 n0 c0) := fun W hW => by rw [blk_cell ((hW.block (blk_lt HBp0.out)).trans HBp0.out)]; rfl
  have ex00 : ∀ W, Grew w12 W → W.cell? ⟨w8.heap.size, 0, none⟩ = some (.int .i64 s0) := fun W hW => by rw [blk_cell ((hW.block (blk_lt HBx0.out)).trans HBx0.out)]; rfl
  have ex01 : ∀ W, Grew w12 W → W.cell? ⟨w8.heap.size, 1, none⟩ = some (.slice Ax0 L0.length cx0) := fun W hW => by rw [blk_cell ((hW.block (blk_lt HBx0.out)).trans HBx0.out)]; rfl
  have hr13 := Grew.refl w12
  have hd13 := hr13.drew
  clear kp00 kp01 kx00 kx01
  go_wp2_with fail
  go_region_held3 (fun w' => Grew w12 w') (with_reducible assumption)
    (first | (go_at_call 11; refine (eqPoset_yes _ _ _ L0 _ (hx0.ints.grew hk13) hy0.ints (by omega)).mono ?_; rintro e w14 ⟨rfl, hgx⟩; have hk14 := hk13.trans hgx) | (go_at_call 7; refine (T0.out _ (g12.trans hd13)).mono ?_; rintro e w13 ⟨y0, rfl, hy0, hgy⟩; have hys := ints_slice hy0.ints; obtain ⟨Ay0, cy0, rfl⟩ := hys; have hk13 := hd13.trans hgy))
  have z14 := Lib.hid hk14.size
  have g14 : Grew w w14 := g12.trans hk14
  replace hx0 := hx0.grew hk14
  replace hx1 := hx1.grew hk14
  replace hx3 := hx3.grew hk14
  replace HBp0 := Lib.hid ((hk14.block (blk_lt HBp0.out)).trans HBp0.out)
  replace HBx0 := Lib.hid ((hk14.block (blk_lt HBx0.out)).trans HBx0.out)
  clear hk14 hgx hgy hy0 hk13 hr13 hd13 g12 ep00 ep01 ex00 ex01
  have kp00 : w14.cell? ⟨w.heap.size, 0, none⟩ = some (.int .i64 s0) := by rw [blk_cell HBp0.out]; rfl
  have kp01 : w14.cell? ⟨w.heap.size, 1, none⟩ = some (.slice A0 n0 c0) := by rw [blk_cell HBp0.out]; rfl
  have kx00 : w14.cell? ⟨w8.heap.size, 0, none⟩ = some (.int .i64 s0) := by rw [blk_cell HBx0.out]; rfl
  have kx01 : w14.cell? ⟨w8.heap.size, 1, none⟩ = some (.slice Ax0 L0.length cx0) := by rw [blk_cell HBx0.out]; rfl
  go_wp2_with fail
  refine (T1.out _ g14).mono ?_
  rintro e w15 ⟨y1, rfl, hy1, hg15⟩
  have z15 := Lib.hid hg15.size
  have g15 : Grew w w15 := g14.trans hg15
  replace hx0 := hx0.grew hg15
  replace hx1 := hx1.grew hg15
  replace hx3 := hx3.grew hg15
  replace HBp0 := Lib.hid ((hg15.block (blk_lt HBp0.out)).trans HBp0.out)
  replace HBx0 := Lib.hid ((hg15.block (blk_lt HBx0.out)).trans HBx0.out)
  clear hg15 g14
  obtain ⟨Ay1, cy1, rfl⟩ := ints_slice hy1.ints
  clear kp00 kp01 kx00 kx01
  have kp00 : w15.cell? ⟨w.heap.size, 0, none⟩ = some (.int .i64 s0) := by rw [blk_cell HBp0.out]; rfl
  have kp01 : w15.cell? ⟨w.heap.size, 1, none⟩ = some (.slice A0 n0 c0) := by rw [blk_cell HBp0.out]; rfl
  have kx00 : w15.cell? ⟨w8.heap.size, 0, none⟩ = some (.int .i64 s0) := by rw [blk_cell HBx0.out]; rfl
  have kx01 : w15.cell? ⟨w8.heap.size, 1, none⟩ = some (.slice Ax0 L0.length cx0) := by rw [blk_cell HBx0.out]; rfl
  go_wp2_with fail
  refine (eqInt64S_yes _ _ L1 _ hx1.ints hy1.ints (by omega)).mono ?_
  rintro e w16 ⟨rfl, hg16⟩
  have z16 := Lib.hid hg16.size
  have g16 : Grew w w16 := g15.trans hg16
  replace hx0 := hx0.grew hg16
  replace hx1 := hx1.grew hg16
  replace hx3 := hx3.grew hg16
  replace hy1 := hy1.grew hg16
  replace HBp0 := Lib.hid ((hg16.block (blk_lt HBp0.out)).trans HBp0.out)
  replace HBx0 := Lib.hid ((hg16.block (blk_lt HBx0.out)).trans HBx0.out)
  clear hg16 g15
  clear hy1
  clear kp00 kp01 kx00 kx01
  have kp00 : w16.cell? ⟨w.heap.size, 0, none⟩ = some (.int .i64 s0) := by rw [blk_cell HBp0.out]; rfl
  have kp01 : w16.cell? ⟨w.heap.size, 1, none⟩ = some (.slice A0 n0 c0) := by rw [blk_cell HBp0.out]; rfl
  have kx00 : w16.cell? ⟨w8.heap.size, 0, none⟩ = some (.int .i64 s0) := by rw [blk_cell HBx0.out]; rfl
  have kx01 : w16.cell? ⟨w8.heap.size, 1, none⟩ = some (.slice Ax0 L0.length cx0) := by rw [blk_cell HBx0.out]; rfl
  go_wp2_with fail
  refine (T3.out _ g16 hn3).mono ?_
  rintro e w17 ⟨y3, rfl, hy3, hg17⟩
  have z17 := Lib.hid hg17.size
  have g17 : Grew w w17 := g16.trans hg17
  replace hx0 := hx0.grew hg17
  replace hx1 := hx1.grew hg17
  replace hx3 := hx3.grew hg17
  replace HBp0 := Lib.hid ((hg17.block (blk_lt HBp0.out)).trans HBp0.out)
  replace HBx0 := Lib.hid ((hg17.block (blk_lt HBx0.out)).trans HBx0.out)
  clear hg17 g16
  obtain ⟨Ay3, cy3, rfl⟩ := strs_slice hy3.strs
  clear kp00 kp01 kx00 kx01
  have kp00 : w17.cell? ⟨w.heap.size, 0, none⟩ = some (.int .i64 s0) := by rw [blk_cell HBp0.out]; rfl
  have kp01 : w17.cell? ⟨w.heap.size, 1, none⟩ = some (.slice A0 n0 c0) := by rw [blk_cell HBp0.out]; rfl
  have kx00 : w17.cell? ⟨w8.heap.size, 0, none⟩ = some (.int .i64 s0) := by rw [blk_cell HBx0.out]; rfl
  have kx01 : w17.cell? ⟨w8.heap.size, 1, none⟩ = some (.slice Ax0 L0.length cx0) := by rw [blk_cell HBx0.out]; rfl
  go_wp2_with fail
  refine (eqStringS_yes _ _ L3 _ hx3.strs hy3.strs (by omega)).mono ?_
  rintro e w18 ⟨rfl, hg18⟩
  have z18 := Lib.hid hg18.size
  have g18 : Grew w w18 := g17.trans hg18
  replace hx0 := hx0.grew hg18
  replace hx1 := hx1.grew hg18
  replace hx3 := hx3.grew hg18
  replace hy3 := hy3.grew hg18
  replace HBp0 := Lib.hid ((hg18.block (blk_lt HBp0.out)).trans HBp0.out)
  replace HBx0 := Lib.hid ((hg18.block (blk_lt HBx0.out)).trans HBx0.out)
  clear hg18 g17
  clear hy3
  clear kp00 kp01 kx00 kx01
  have kp00 : w18.cell? ⟨w.heap.size, 0, none⟩ = some (.int .i64 s0) := by rw [blk_cell HBp0.out]; rfl
  have kp01 : w18.cell? ⟨w.heap.size, 1, none⟩ = some (.slice A0 n0 c0) := by rw [blk_cell HBp0.out]; rfl
  have kx00 : w18.cell? ⟨w8.heap.size, 0, none⟩ = some (.int .i64 s0) := by rw [blk_cell HBx0.out]; rfl
  have kx01 : w18.cell? ⟨w8.heap.size, 1, none⟩ = some (.slice Ax0 L0.length cx0) := by rw [blk_cell HBx0.out]; rfl
  go_wp2_with fail
  go_ret
  exact ⟨rfl, g18⟩
end Go.Proofs.YtoogcooggdahnaaGreat

/- A cell that is read lies in a block that is there. -/
namespace Go.Proofs.YtoogcooggdahnaaGreat
open Go.RowKit

theorem cell_lt {w : World} {a : Addr} {u : Value} (h : w.cell? a = some u) : a.block < w.heap.size := by
  unfold World.cell? at h
  split at h
  · rename_i hh
    exact (Array.getElem?_eq_some_iff.1 hh).1
  · cases h

end Go.Proofs.YtoogcooggdahnaaGreat

/- An argument that is a list of strings, or a struct of two such lists. -/
namespace Go.Proofs.YtoogcooggdahnaaGreat
open Go.RowKit

theorem argS_of_trod {H : Type} {enc : TypeId × Value → H} {P : Program} {W : World} {sp : Nat → Bool} {held : Bool} {n : Nat} {t e : TypeId} {v : Value} {y : DataW H × List MemPlace}
    (ht : P.underlying t = some (.slice e)) (he : P.underlying e = some .string) (hc : P.cellsOf e = 1) (h : DataW.trod enc P W 0 sp held n t [v] = some y) : ∃ L, ArgS W v L := by
  rcases Go.Deep.open_strs ht he hc h with ⟨hv, _⟩ | ⟨a, len, cap, m, Sx, hv, _, hl, hm, hmm, _, hcell⟩
  · obtain rfl : v = .slice none 0 0 := by simpa using hv
    exact ⟨[], ⟨none, 0, rfl, by simp⟩, fun h => absurd h (by simp), fun i hi => absurd hi (by simp)⟩
  · obtain rfl : v = .slice (some a) len cap := by simpa using hv
    have hlm : len ≤ m := by rw [hmm]; split <;> omega
    have hmax : maxLen = 9223372036854775807 := by decide
    rw [hmax] at hm
    have hlen : ((List.range len).map Sx).length = len := by simp
    have hst : ∀ i, i < len → st ((List.range len).map Sx) i = Sx i := fun i hi => by simp [st, List.getD, hi]
    refine ⟨(List.range len).map Sx, ⟨some a, cap, by rw [hlen], by rw [hlen]; omega⟩, fun hp => ?_, fun i hi => ?_⟩
    · rw [hlen] at hp
      obtain ⟨b, off, spot⟩ := a
      have h0 := (hcell 0 (by omega)).1
      have hspot : spot = none := by simpa [Addr.add] using World.cell?_spot h0
      subst hspot
      have hb := cell_lt h0
      have hadd : ∀ i, (⟨b, off, none⟩ : Addr).add i = ⟨b, off + i, none⟩ := fun i => by
        unfold Addr.add
        split
        · subst_vars; rfl
        · rfl
      rw [hadd] at hb
      unfold Strs Rd
      rw [hlen]
      refine ⟨by rw [scells_length, hlen], by omega, .inr ⟨b, off, cap, rfl, hl, hm, hb, fun j u hu => ?_⟩⟩
      have hj : j < len := by
        have := (List.getElem?_eq_some_iff.1 hu).1
        rw [scells_length, hlen] at this
        omega
      rw [scells_at (by rw [hlen]; exact hj), hst j hj] at hu
      rw [← hadd, (hcell j (by omega)).1]
      exact hu
    · rw [hlen] at hi
      rw [hst i hi, ← hmax]
      exact (hcell i (by omega)).2
end Go.Proofs.YtoogcooggdahnaaGreat

/- An argument that is a list of numbers. -/
namespace Go.Proofs.YtoogcooggdahnaaGreat
open Go.RowKit

theorem argI_of_trod {H : Type} {enc : TypeId × Value → H} {P : Program} {W : World} {sp : Nat → Bool} {held : Bool} {n : Nat} {t e : TypeId} {v : Value} {y : DataW H × List MemPlace}
    (ht : P.underlying t = some (.slice e)) (he : P.underlying e = some (.int .i64)) (hc : P.cellsOf e = 1) (h : DataW.trod enc P W 0 sp held n t [v] = some y) : ∃ L, ArgI W v L := by
  rcases Go.Deep.open_slice ht h with ⟨hv, _⟩ | ⟨a, len, cap, m, k, D, Pl, hv, _, hl, hm, hmm, _, hcell⟩
  · obtain rfl : v = .slice none 0 0 := by simpa using hv
    exact ⟨[], ⟨none, 0, rfl, by simp⟩, fun h => absurd h (by simp)⟩
  · obtain rfl : v = .slice (some a) len cap := by simpa using hv
    have hlm : len ≤ m := by rw [hmm]; split <;> omega
    have hmax : maxLen = 9223372036854775807 := by decide
    rw [hmax] at hm
    have each : ∀ i, i < len → ∃ q : Int, W.cell? (a.add i) = some (.int .i64 q) := fun i hi => by
      obtain ⟨cs', h1, h2⟩ := hcell i (by omega)
      rw [hc] at h1
      obtain ⟨_, hlen, hc1⟩ := World.cells?_some h1
      match cs', hlen with
      | [v0], _ =>
        obtain ⟨x, hx, _⟩ := DataW.trod_int he h2
        obtain rfl : v0 = .int .i64 x := by simpa using hx
        have e0 := hc1 0 (by omega)
        rw [Go.Deep.add_add] at e0
        exact ⟨x, by simpa [hc] using e0⟩
    obtain ⟨q, hq⟩ := Go.Deep.choose_lt each
    have hlen : ((List.range len).map q).length = len := by simp
    refine ⟨(List.range len).map q, ⟨some a, cap, by rw [hlen], by rw [hlen]; omega⟩, fun hp => ?_⟩
    rw [hlen] at hp
    obtain ⟨b, off, spot⟩ := a
    have h0 := hq 0 (by omega)
    have hspot : spot = none := by simpa [Addr.add] using World.cell?_spot h0
    subst hspot
    have hb := cell_lt h0
    have hadd : ∀ i, (⟨b, off, none⟩ : Addr).add i = ⟨b, off + i, none⟩ := fun i => by
      unfold Addr.add
      split
      · subst_vars; rfl
      · rfl
    rw [hadd] at hb
    unfold Ints Rd
    rw [hlen]
    refine ⟨by rw [icells_length, hlen], by omega, .inr ⟨b, off, cap, rfl, hl, hm, hb, fun j u hu => ?_⟩⟩
    have hj : j < len := by
      have := (List.getElem?_eq_some_iff.1 hu).1
      rw [icells_length, hlen] at this
      omega
    have h1 := icells_at (L := (List.range len).map q) (i := j) (by rw [hlen]; exact hj)
    rw [h1] at hu
    rw [← hadd, hq j hj, ← hu]
    simp [it, List.getD, hj]
end Go.Proofs.YtoogcooggdahnaaGreat

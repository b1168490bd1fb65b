/- Texts in one file: MbZ MbU MbG MbI IntArg IntLaw IntEq IntMark PoL LawCd Args0. -/
import Derived.Test.YtcnnfbblildbeaaPa1
set_option linter.all false

/- l05Flag of the reference: reflexive, transitive, antisymmetric. -/
namespace Go.Proofs.Ytcnnfbblildbeaa
open Go.RowKit
set_option maxHeartbeats 4000000 in
set_option maxRecDepth 100000 in
theorem l05Flag0_c (v : Value) (A : List Nat) (w : World) (h : Ints w v (zs A)) (hA : Rl A) :
    Calls Try.prog 38 #[.agg #[.int .i64 (A.length : Int), v], .int .i64 0] w fun e w' => e = .returned (.bool (reflB A)) ∧ Grew w w' := by
  obtain ⟨R, hR⟩ : ∃ R, R = reflB A := ⟨_, rfl⟩
  rw [← hR]
  unfold reflB at hR
  have HA := Lib.hid (fun k hk h => hR.trans (@allB_no A.length (fun x => (nt A x).testBit x) k hk h))
  have HZ := Lib.hid (fun h => hR.trans (@allB_of A.length (fun x => (nt A x).testBit x) h))
  have hn30 := hA.1
  have HB := Lib.hid (fun i (hi : i < A.length) k (hk : k < 64) => l01Bit_q (nt A i) k (by have := hA.sm.at_ hi; omega) hk)
  have hal := (Grew.refl w).alloc (.cells #[.int .i64 (A.length : Int), v] 51)
  have y0 : ∀ W, Grew (w.alloc (.cells #[.int .i64 (A.length : Int), v] 51)) W → W.cell? ⟨w.heap.size, 0, none⟩ = some (.int .i64 (A.length : Int)) := fun W hW => (hW.cell (p := ⟨w.heap.size, 0, none⟩) (by simp)).trans (by simp)
  have y1 : ∀ W, Grew (w.alloc (.cells #[.int .i64 (A.length : Int), v] 51)) W → W.cell? ⟨w.heap.size, 1, none⟩ = some v := fun W hW => (hW.cell (p := ⟨w.heap.size, 1, none⟩) (by simp)).trans (by simp)
  obtain ⟨w1, hw1⟩ : ∃ w1, w1 = w.alloc (.cells #[.int .i64 (A.length : Int), v] 51) := ⟨_, rfl⟩
  rw [← hw1] at y0 y1 hal
  have HG := Lib.hid hal
  have r1 := Grew.refl w1
  have r1d := r1.drew
  obtain ⟨A', c, rfl⟩ := ints_sliceN h
  have HC := Lib.hid (fun h0 => cellsN h h0)
  clear h hA hR hal
  generalize hN : A.length = n at *
  clear hN
  go_enter Try.func38, Try.ntmps38
  go_wp2_with fail
  simp only [← hw1]
  clear hw1
  go_quiet (fail)
  go_wp2_with fail
  go_loopw [7] (fun i wr => ∃ j : Nat, j ≤ n ∧ i = .int .i64 j ∧ Grew w1 wr ∧ Hid (AllK (fun x => (nt A x).testBit x) j)) (fun i _ => n - (intOf i).toNat)
  case atStart => exact ⟨0, Nat.zero_le _, rfl, (Grew.refl _).drewN _, AllK.zero _⟩
  case round =>
    obtain ⟨j, hj, rfl, hB, HJ⟩ := hrel
    by_cases hlt : j < n
    · obtain ⟨b, o, rfl, hcell⟩ := HC.out (by omega)
      have hgw := HG.out
      have HX := Lib.hid (fun i hi W (hW : Grew w1 W) => hcell i hi W (hgw.trans hW))
      have hcx := fun W (hW : Grew wr W) => HX.out j hlt W (hB.trans hW)
      have rx := Grew.refl wr
      have hA := Lib.hid (HA.out j hlt)
      have hS := Lib.hid (fun h => HJ.out.succ (k := j) h)
      have hBx := Lib.hid (HB.out j hlt)
      clear hcell
      have hbr := Lib.hid (hBx.out j (by omega))
      cases ht : (nt A j).testBit j with
      | false =>
        have hv := Lib.hid (hA.out ht)
        rw [ht] at hbr
        generalize nt A j = m at *
        go_wp2_with fail
        refine (hbr.out _).mono ?_
        rintro e w2 ⟨rfl, rfl⟩
        go_wp2_with fail
        go_ret
        exact ⟨by rw [hv.out]; rfl, HG.out.trans hB⟩
      | true =>
      have hs := Lib.hid (hS.out ht)
      rw [ht] at hbr
      clear ht hA hS
      go_wp2_with fail
      refine (hbr.out _).mono ?_
      rintro e w2 ⟨rfl, rfl⟩
      go_wp2_with fail
      go_loopw [8] (fun i wy => ∃ k : Nat, k ≤ n ∧ i = .int .i64 k ∧ Grew w1 wy) (fun i _ => n - (intOf i).toNat)
      case atStart => exact ⟨0, Nat.zero_le _, rfl, hB⟩
      case round =>
        obtain ⟨k, hk, rfl, hY⟩ := hrel
        by_cases hlk : k < n
        · have hcy := fun W (hW : Grew wr W) => HX.out j hlt W (hY.trans hW)
          have ry := Grew.refl wr
          have hb2 := Lib.hid (hBx.out k (by omega))
          cases ht : (nt A j).testBit k with
          | false =>
            rw [ht] at hb2
            generalize nt A j = m at *
            clear hcx
            go_wp2_with fail
            refine (hb2.out _).mono ?_
            rintro e w3 ⟨rfl, rfl⟩
            go_wp2_with fail
            go_roundw
            case rel => exact ⟨k + 1, by omega, by go_num, hY⟩
            case measure => simp [intOf]; omega
          | true =>
            rw [ht] at hb2
            clear ht
            go_wp2_with fail
            refine (hb2.out _).mono ?_
            rintro e w3 ⟨rfl, rfl⟩
            go_wp2_with fail
            go_loopw [9] (fun i wz => ∃ q : Nat, q ≤ n ∧ i = .int .i64 q ∧ Grew w1 wz) (fun i _ => n - (intOf i).toNat)
            case atStart => exact ⟨0, Nat.zero_le _, rfl, hY⟩
            case round =>
              obtain ⟨q, hq, rfl, hZ⟩ := hrel
              by_cases hlq : q < n
              · have hcw := fun W (hW : Grew wr W) => HX.out j hlt W (hZ.trans hW)
                have rz := Grew.refl wr
                have hZd := hZ.drew
                have hb3 := Lib.hid (hBx.out q (by omega))
                cases ht3 : (nt A j).testBit q with
                | false =>
                  rw [ht3] at hb3
                  clear ht3
                  generalize nt A j = m at *
                  clear hcx hcy
                  go_wp2_with fail
                  refine (hb3.out _).mono ?_
                  rintro e w4 ⟨rfl, rfl⟩
                  go_wp2_with fail
                  go_roundw
                  case rel => exact ⟨q + 1, by omega, by go_num, hZ⟩
                  case measure => simp [intOf]; omega
                | true =>
                  rw [ht3] at hb3
                  clear ht3
                  generalize nt A j = m at *
                  clear hcx hcy
                  go_wp2_with fail
                  refine (hb3.out _).mono ?_
                  rintro e w4 ⟨rfl, rfl⟩
                  go_wp2_with fail
                  refine wp_region_held_drew (S := fun w' => Grew w1 w') (by kernel_rfl) hZd (fun hHeld => ?_)
                  refine wpAnyH_take (i := 0) (oi := ?on1) (v := ?vn1) ?hin1 ?an1 ?bn1 ?cn1 ?qn1 (Or.inl ⟨?dn1, ?hyn1⟩) hHeld ?restn1
                  case hin1 => (simp only [List.getElem?_toArray, List.getElem?_cons_zero]; exact rfl)
                  case an1 => kernel_rfl
                  case bn1 => kernel_rfl
                  case cn1 => kernel_rfl
                  case qn1 => exact fun _ _ _ h => h
                  case dn1 => rfl
                  case hyn1 => (intro z hSw; (try dsimp only at hSw); go_simp; (try with_reducible rfl))
                  try simp only [Act.put, List.setIfInBounds_toArray, List.set_cons_zero, List.set_cons_succ]
                  refine wpAnyH_take (i := 1) (oi := ?on2) (v := ?vn2) ?hin2 ?an2 ?bn2 ?cn2 ?qn2 (Or.inl ⟨?dn2, ?hyn2⟩) hHeld ?restn2
                  case hin2 => (simp only [List.getElem?_toArray, List.getElem?_cons_succ, List.getElem?_cons_zero]; exact rfl)
                  case an2 => kernel_rfl
                  case bn2 => kernel_rfl
                  case cn2 => kernel_rfl
                  case qn2 => exact fun _ _ _ h => h
                  case dn2 => rfl
                  case hyn2 => (intro z hSw; (try dsimp only at hSw); go_simp; (try with_reducible rfl))
                  try simp only [Act.put, List.setIfInBounds_toArray, List.set_cons_zero, List.set_cons_succ]
                  refine wpAnyH_take (i := 2) (oi := ?on3) (v := ?vn3) ?hin3 ?an3 ?bn3 ?cn3 ?qn3 (Or.inl ⟨?dn3, ?hyn3⟩) hHeld ?restn3
                  case hin3 => (simp only [List.getElem?_toArray, List.getElem?_cons_succ, List.getElem?_cons_zero]; exact rfl)
                  case an3 => kernel_rfl
                  case bn3 => kernel_rfl
                  case cn3 => kernel_rfl
                  case qn3 => exact fun _ _ _ h => h
                  case dn3 => rfl
                  case hyn3 => (intro z hSw; (try dsimp only at hSw); go_simp; (try with_reducible rfl))
                  try simp only [Act.put, List.setIfInBounds_toArray, List.set_cons_zero, List.set_cons_succ]
                  refine wpAnyH_take (i := 3) (oi := ?on4) ?hin4 ?an4 ?bn4 ?cn4 ?qn4 (Or.inr ⟨?dn4, rfl⟩) hHeld ?restn4
                  case hin4 => (simp only [List.getElem?_toArray, List.getElem?_cons_succ, List.getElem?_cons_zero]; exact rfl)
                  case an4 => kernel_rfl
                  case bn4 => kernel_rfl
                  case cn4 => kernel_rfl
                  case qn4 => exact fun _ _ _ h => h
                  case dn4 => rfl
                  try simp only [Act.put, List.setIfInBounds_toArray, List.set_cons_zero, List.set_cons_succ]
                  refine wpAnyH_take (i := 4) (oi := ?on5) ?hin5 ?an5 ?bn5 ?cn5 ?qn5 (Or.inr ⟨?dn5, rfl⟩) hHeld ?restn5
                  case hin5 => (simp only [List.getElem?_toArray, List.getElem?_cons_succ, List.getElem?_cons_zero]; exact rfl)
                  case an5 => kernel_rfl
                  case bn5 => kernel_rfl
                  case cn5 => kernel_rfl
                  case qn5 => exact fun _ _ _ h => h
                  case dn5 => rfl
                  try simp only [Act.put, List.setIfInBounds_toArray, List.set_cons_zero, List.set_cons_succ]
                  refine wpAnyH_take (i := 5) (oi := ?on6) ?hin6 ?an6 ?bn6 ?cn6 ?qn6 (Or.inr ⟨?dn6, rfl⟩) hHeld ?restn6
                  case hin6 => (simp only [List.getElem?_toArray, List.getElem?_cons_succ, List.getElem?_cons_zero]; exact rfl)
                  case an6 => kernel_rfl
                  case bn6 => kernel_rfl
                  case cn6 => kernel_rfl
                  case qn6 => exact fun _ _ _ h => h
                  case dn6 => rfl
                  try simp only [Act.put, List.setIfInBounds_toArray, List.set_cons_zero, List.set_cons_succ]
                  refine wpAnyH_take (i := 6) (oi := ?on7) ?hin7 ?an7 ?bn7 ?cn7 ?qn7 (Or.inr ⟨?dn7, rfl⟩) hHeld ?restn7
                  case hin7 => (simp only [List.getElem?_toArray, List.getElem?_cons_succ, List.getElem?_cons_zero]; exact rfl)
                  case an7 => kernel_rfl
                  case bn7 => kernel_rfl
                  case cn7 => kernel_rfl
                  case qn7 => exact fun _ _ _ h => h
                  case dn7 => rfl
                  try simp only [Act.put, List.setIfInBounds_toArray, List.set_cons_zero, List.set_cons_succ]
                  refine wpAnyH_take (i := 7) (oi := ?on8) ?hin8 ?an8 ?bn8 ?cn8 ?qn8 (Or.inr ⟨?dn8, rfl⟩) hHeld ?restn8
                  case hin8 => (simp only [List.getElem?_toArray, List.getElem?_cons_succ, List.getElem?_cons_zero]; exact rfl)
                  case an8 => kernel_rfl
                  case bn8 => kernel_rfl
                  case cn8 => kernel_rfl
                  case qn8 => exact fun _ _ _ h => h
                  case dn8 => rfl
                  try simp only [Act.put, List.setIfInBounds_toArray, List.set_cons_zero, List.set_cons_succ]
                  refine wpAnyH_take (i := 8) (oi := ?on9) ?hin9 ?an9 ?bn9 ?cn9 ?qn9 (Or.inr ⟨?dn9, rfl⟩) hHeld ?restn9
                  case hin9 => (simp only [List.getElem?_toArray, List.getElem?_cons_succ, List.getElem?_cons_zero]; exact rfl)
                  case an9 => kernel_rfl
                  case bn9 => kernel_rfl
                  case cn9 => kernel_rfl
                  case qn9 => exact fun _ _ _ h => h
                  case dn9 => rfl
                  try simp only [Act.put, List.setIfInBounds_toArray, List.set_cons_zero, List.set_cons_succ]
                  refine wpAnyH_take (i := 9) (oi := ?on10) ?hin10 ?an10 ?bn10 ?cn10 ?qn10 (Or.inr ⟨?dn10, rfl⟩) hHeld ?restn10
                  case hin10 => (simp only [List.getElem?_toArray, List.getElem?_cons_succ, List.getElem?_cons_zero]; exact rfl)
                  case an10 => kernel_rfl
                  case bn10 => kernel_rfl
                  case cn10 => kernel_rfl
                  case qn10 => exact fun _ _ _ h => h
                  case dn10 => rfl
                  try simp only [Act.put, List.setIfInBounds_toArray, List.set_cons_zero, List.set_cons_succ]
                  refine wpAnyH_take (i := 10) (oi := ?on11) ?hin11 ?an11 ?bn11 ?cn11 ?qn11 (Or.inr ⟨?dn11, rfl⟩) hHeld ?restn11
                  case hin11 => (simp only [List.getElem?_toArray, List.getElem?_cons_succ, List.getElem?_cons_zero]; exact rfl)
                  case an11 => kernel_rfl
                  case bn11 => kernel_rfl
                  case cn11 => kernel_rfl
                  case qn11 => exact fun _ _ _ h => h
                  case dn11 => rfl
                  try simp only [Act.put, List.setIfInBounds_toArray, List.set_cons_zero, List.set_cons_succ]
                  refine wpAnyH_take (i := 11) (oi := ?on12) ?hin12 ?an12 ?bn12 ?cn12 ?qn12 (Or.inr ⟨?dn12, rfl⟩) hHeld ?restn12
                  case hin12 => (simp only [List.getElem?_toArray, List.getElem?_cons_succ, List.getElem?_cons_zero]; exact rfl)
                  case an12 => kernel_rfl
                  case bn12 => kernel_rfl
                  case cn12 => kernel_rfl
                  case qn12 => exact fun _ _ _ h => h
                  case dn12 => rfl
                  try simp only [Act.put, List.setIfInBounds_toArray, List.set_cons_zero, List.set_cons_succ]
                  refine wpAnyH_take (i := 12) (oi := ?on13) ?hin13 ?an13 ?bn13 ?cn13 ?qn13 (Or.inr ⟨?dn13, rfl⟩) hHeld ?restn13
                  case hin13 => (simp only [List.getElem?_toArray, List.getElem?_cons_succ, List.getElem?_cons_zero]; exact rfl)
                  case an13 => kernel_rfl
                  case bn13 => kernel_rfl
                  case cn13 => kernel_rfl
                  case qn13 => exact fun _ _ _ h => h
                  case dn13 => rfl
                  try simp only [Act.put, List.setIfInBounds_toArray, List.set_cons_zero, List.set_cons_succ]
                  refine wpAnyH_take (i := 13) (oi := ?on14) (v := ?vn14) ?hin14 ?an14 ?bn14 ?cn14 ?qn14 (Or.inl ⟨?dn14, ?hyn14⟩) hHeld ?restn14
                  case hin14 => (simp only [List.getElem?_toArray, List.getElem?_cons_succ, List.getElem?_cons_zero]; exact rfl)
                  case an14 => kernel_rfl
                  case bn14 => kernel_rfl
                  case cn14 => kernel_rfl
                  case qn14 => exact fun _ _ _ h => h
                  case dn14 => rfl
                  case hyn14 => (intro z hSw; (try dsimp only at hSw); go_simp; (try with_reducible rfl))
                  try simp only [Act.put, List.setIfInBounds_toArray, List.set_cons_zero, List.set_cons_succ]
                  refine wpAnyH_take (i := 14) (oi := ?on15) (v := ?vn15) ?hin15 ?an15 ?bn15 ?cn15 ?qn15 (Or.inl ⟨?dn15, ?hyn15⟩) hHeld ?restn15
                  case hin15 => (simp only [List.getElem?_toArray, List.getElem?_cons_succ, List.getElem?_cons_zero]; exact rfl)
                  case an15 => kernel_rfl
                  case bn15 => kernel_rfl
                  case cn15 => kernel_rfl
                  case qn15 => exact fun _ _ _ h => h
                  case dn15 => rfl
                  case hyn15 => (intro z hSw; (try dsimp only at hSw); go_simp; (try with_reducible rfl))
                  try simp only [Act.put, List.setIfInBounds_toArray, List.set_cons_zero, List.set_cons_succ]
                  refine wpAnyH_take (i := 15) (oi := ?on16) (v := ?vn16) ?hin16 ?an16 ?bn16 ?cn16 ?qn16 (Or.inl ⟨?dn16, ?hyn16⟩) hHeld ?restn16
                  case hin16 => (simp only [List.getElem?_toArray, List.getElem?_cons_succ, List.getElem?_cons_zero]; exact rfl)
                  case an16 => kernel_rfl
                  case bn16 => kernel_rfl
                  case cn16 => kernel_rfl
                  case qn16 => exact fun _ _ _ h => h
                  case dn16 => rfl
                  case hyn16 => (intro z hSw; (try dsimp only at hSw); go_simp; (try with_reducible rfl))
                  try simp only [Act.put, List.setIfInBounds_toArray, List.set_cons_zero, List.set_cons_succ]
                  refine wpAnyH_take (i := 16) (oi := ?on17) (v := ?vn17) ?hin17 ?an17 ?bn17 ?cn17 ?qn17 (Or.inl ⟨?dn17, ?hyn17⟩) hHeld ?restn17
                  case hin17 => (simp only [List.getElem?_toArray, List.getElem?_cons_succ, List.getElem?_cons_zero]; exact rfl)
                  case an17 => kernel_rfl
                  case bn17 => kernel_rfl
                  case cn17 => kernel_rfl
                  case qn17 => exact fun _ _ _ h => h
                  case dn17 => rfl
                  case hyn17 => (intro z hSw; (try dsimp only at hSw); go_simp; (try with_reducible rfl))
                  try simp only [Act.put, List.setIfInBounds_toArray, List.set_cons_zero, List.set_cons_succ]
                  refine wpAnyH_take (i := 17) (oi := ?on18) (v := ?vn18) ?hin18 ?an18 ?bn18 ?cn18 ?qn18 (Or.inl ⟨?dn18, ?hyn18⟩) hHeld ?restn18
                  case hin18 => (simp only [List.getElem?_toArray, List.getElem?_cons_succ, List.getElem?_cons_zero]; exact rfl)
                  case an18 => kernel_rfl
                  case bn18 => kernel_rfl
                  case cn18 => kernel_rfl
                  case qn18 => exact fun _ _ _ h => h
                  case dn18 => rfl
                  case hyn18 => (intro z hSw; (try dsimp only at hSw); go_simp; (try with_reducible rfl))
                  try simp only [Act.put, List.setIfInBounds_toArray, List.set_cons_zero, List.set_cons_succ]
                  refine wpAnyH_take (i := 18) (oi := ?on19) ?hin19 ?an19 ?bn19 ?cn19 ?qn19 (Or.inr ⟨?dn19, rfl⟩) hHeld ?restn19
                  case hin19 => (simp only [List.getElem?_toArray, List.getElem?_cons_succ, List.getElem?_cons_zero]; exact rfl)
                  case an19 => kernel_rfl
                  case bn19 => kernel_rfl
                  case cn19 => kernel_rfl
                  case qn19 => exact fun _ _ _ h => h
                  case dn19 => rfl
                  try simp only [Act.put, List.setIfInBounds_toArray, List.set_cons_zero, List.set_cons_succ]
                  refine wpAnyH_take (i := 19) (oi := ?on20) ?hin20 ?an20 ?bn20 ?cn20 ?qn20 (Or.inr ⟨?dn20, rfl⟩) hHeld ?restn20
                  case hin20 => (simp only [List.getElem?_toArray, List.getElem?_cons_succ, List.getElem?_cons_zero]; exact rfl)
                  case an20 => kernel_rfl
                  case bn20 => kernel_rfl
                  case cn20 => kernel_rfl
                  case qn20 => exact fun _ _ _ h => h
                  case dn20 => rfl
                  try simp only [Act.put, List.setIfInBounds_toArray, List.set_cons_zero, List.set_cons_succ]
                  refine wpAnyH_take (i := 20) (oi := ?on21) ?hin21 ?an21 ?bn21 ?cn21 ?qn21 (Or.inr ⟨?dn21, rfl⟩) hHeld ?restn21
                  case hin21 => (simp only [List.getElem?_toArray, List.getElem?_cons_succ, List.getElem?_cons_zero]; exact rfl)
                  case an21 => kernel_rfl
                  case bn21 => kernel_rfl
                  case cn21 => kernel_rfl
                  case qn21 => exact fun _ _ _ h => h
                  case dn21 => rfl
                  try simp only [Act.put, List.setIfInBounds_toArray, List.set_cons_zero, List.set_cons_succ]
                  refine wpAnyH_take (i := 21) (oi := ?on22) ?hin22 ?an22 ?bn22 ?cn22 ?qn22 (Or.inr ⟨?dn22, rfl⟩) hHeld ?restn22
                  case hin22 => (simp only [List.getElem?_toArray, List.getElem?_cons_succ, List.getElem?_cons_zero]; exact rfl)
                  case an22 => kernel_rfl
                  case bn22 => kernel_rfl
                  case cn22 => kernel_rfl
                  case qn22 => exact fun _ _ _ h => h
                  case dn22 => rfl
                  try simp only [Act.put, List.setIfInBounds_toArray, List.set_cons_zero, List.set_cons_succ]
                  refine wpAnyH_take (i := 22) (oi := ?on23) ?hin23 ?an23 ?bn23 ?cn23 ?qn23 (Or.inr ⟨?dn23, rfl⟩) hHeld ?restn23
                  case hin23 => (simp only [List.getElem?_toArray, List.getElem?_cons_succ, List.getElem?_cons_zero]; exact rfl)
                  case an23 => kernel_rfl
                  case bn23 => kernel_rfl
                  case cn23 => kernel_rfl
                  case qn23 => exact fun _ _ _ h => h
                  case dn23 => rfl
                  try simp only [Act.put, List.setIfInBounds_toArray, List.set_cons_zero, List.set_cons_succ]
                  refine wpAnyH_take (i := 23) (oi := ?on24) ?hin24 ?an24 ?bn24 ?cn24 ?qn24 (Or.inr ⟨?dn24, rfl⟩) hHeld ?restn24
                  case hin24 => (simp only [List.getElem?_toArray, List.getElem?_cons_succ, List.getElem?_cons_zero]; exact rfl)
                  case an24 => kernel_rfl
                  case bn24 => kernel_rfl
                  case cn24 => kernel_rfl
                  case qn24 => exact fun _ _ _ h => h
                  case dn24 => rfl
                  try simp only [Act.put, List.setIfInBounds_toArray, List.set_cons_zero, List.set_cons_succ]
                  refine wpAnyH_take (i := 24) (oi := ?on25) ?hin25 ?an25 ?bn25 ?cn25 ?qn25 (Or.inr ⟨?dn25, rfl⟩) hHeld ?restn25
                  case hin25 => (simp only [List.getElem?_toArray, List.getElem?_cons_succ, List.getElem?_cons_zero]; exact rfl)
                  case an25 => kernel_rfl
                  case bn25 => kernel_rfl
                  case cn25 => kernel_rfl
                  case qn25 => exact fun _ _ _ h => h
                  case dn25 => rfl
                  try simp only [Act.put, List.setIfInBounds_toArray, List.set_cons_zero, List.set_cons_succ]
                  refine wpAnyH_take (i := 25) (oi := ?on26) (v := ?vn26) ?hin26 ?an26 ?bn26 ?cn26 ?qn26 (Or.inl ⟨?dn26, ?hyn26⟩) hHeld ?restn26
                  case hin26 => (simp only [List.getElem?_toArray, List.getElem?_cons_succ, List.getElem?_cons_zero]; exact rfl)
                  case an26 => kernel_rfl
                  case bn26 => kernel_rfl
                  case cn26 => kernel_rfl
                  case qn26 => exact fun _ _ _ h => h
                  case dn26 => rfl
                  case hyn26 => (intro z hSw; (try dsimp only at hSw); go_simp; (try with_reducible rfl))
                  try simp only [Act.put, List.setIfInBounds_toArray, List.set_cons_zero, List.set_cons_succ]
                  refine wpAnyH_take (i := 26) (oi := ?on27) (v := ?vn27) ?hin27 ?an27 ?bn27 ?cn27 ?qn27 (Or.inl ⟨?dn27, ?hyn27⟩) hHeld ?restn27
                  case hin27 => (simp only [List.getElem?_toArray, List.getElem?_cons_succ, List.getElem?_cons_zero]; exact rfl)
                  case an27 => kernel_rfl
                  case bn27 => kernel_rfl
                  case cn27 => kernel_rfl
                  case qn27 => exact fun _ _ _ h => h
                  case dn27 => rfl
                  case hyn27 => (intro z hSw; (try dsimp only at hSw); go_simp; (try with_reducible rfl))
                  try simp only [Act.put, List.setIfInBounds_toArray, List.set_cons_zero, List.set_cons_succ]
                  refine wpAnyH_take (i := 27) (oi := ?on28) ?hin28 ?an28 ?bn28 ?cn28 ?qn28 (Or.inr ⟨?dn28, rfl⟩) hHeld ?restn28
                  case hin28 => (simp only [List.getElem?_toArray, List.getElem?_cons_succ, List.getElem?_cons_zero]; exact rfl)
                  case an28 => kernel_rfl
                  case bn28 => kernel_rfl
                  case cn28 => kernel_rfl
                  case qn28 => exact fun _ _ _ h => h
                  case dn28 => rfl
                  try simp only [Act.put, List.setIfInBounds_toArray, List.set_cons_zero, List.set_cons_succ]
                  refine wpAnyH_take (i := 28) (oi := ?on29) ?hin29 ?an29 ?bn29 ?cn29 ?qn29 (Or.inr ⟨?dn29, rfl⟩) hHeld ?restn29
                  case hin29 => (simp only [List.getElem?_toArray, List.getElem?_cons_succ, List.getElem?_cons_zero]; exact rfl)
                  case an29 => kernel_rfl
                  case bn29 => kernel_rfl
                  case cn29 => kernel_rfl
                  case qn29 => exact fun _ _ _ h => h
                  case dn29 => rfl
                  try simp only [Act.put, List.setIfInBounds_toArray, List.set_cons_zero, List.set_cons_succ]
                  refine wpAnyH_take (i := 29) (oi := ?on30) ?hin30 ?an30 ?bn30 ?cn30 ?qn30 (Or.inr ⟨?dn30, rfl⟩) hHeld ?restn30
                  case hin30 => (simp only [List.getElem?_toArray, List.getElem?_cons_succ, List.getElem?_cons_zero]; exact rfl)
                  case an30 => kernel_rfl
                  case bn30 => kernel_rfl
                  case cn30 => kernel_rfl
                  case qn30 => exact fun _ _ _ h => h
                  case dn30 => rfl
                  try simp only [Act.put, List.setIfInBounds_toArray, List.set_cons_zero, List.set_cons_succ]
                  refine wpAnyH_take (i := 30) (oi := ?on31) ?hin31 ?an31 ?bn31 ?cn31 ?qn31 (Or.inr ⟨?dn31, rfl⟩) hHeld ?restn31
                  case hin31 => (simp only [List.getElem?_toArray, List.getElem?_cons_succ, List.getElem?_cons_zero]; exact rfl)
                  case an31 => kernel_rfl
                  case bn31 => kernel_rfl
                  case cn31 => kernel_rfl
                  case qn31 => exact fun _ _ _ h => h
                  case dn31 => rfl
                  try simp only [Act.put, List.setIfInBounds_toArray, List.set_cons_zero, List.set_cons_succ]
                  refine wpAnyH_take (i := 31) (oi := ?on32) ?hin32 ?an32 ?bn32 ?cn32 ?qn32 (Or.inr ⟨?dn32, rfl⟩) hHeld ?restn32
                  case hin32 => (simp only [List.getElem?_toArray, List.getElem?_cons_succ, List.getElem?_cons_zero]; exact rfl)
                  case an32 => kernel_rfl
                  case bn32 => kernel_rfl
                  case cn32 => kernel_rfl
                  case qn32 => exact fun _ _ _ h => h
                  case dn32 => rfl
                  try simp only [Act.put, List.setIfInBounds_toArray, List.set_cons_zero, List.set_cons_succ]
                  refine wpAnyH_take (i := 32) (oi := ?on33) ?hin33 ?an33 ?bn33 ?cn33 ?qn33 (Or.inr ⟨?dn33, rfl⟩) hHeld ?restn33
                  case hin33 => (simp only [List.getElem?_toArray, List.getElem?_cons_succ, List.getElem?_cons_zero]; exact rfl)
                  case an33 => kernel_rfl
                  case bn33 => kernel_rfl
                  case cn33 => kernel_rfl
                  case qn33 => exact fun _ _ _ h => h
                  case dn33 => rfl
                  try simp only [Act.put, List.setIfInBounds_toArray, List.set_cons_zero, List.set_cons_succ]
                  refine wpAnyH_take (i := 33) (oi := ?on34) ?hin34 ?an34 ?bn34 ?cn34 ?qn34 (Or.inr ⟨?dn34, rfl⟩) hHeld ?restn34
                  case hin34 => (simp only [List.getElem?_toArray, List.getElem?_cons_succ, List.getElem?_cons_zero]; exact rfl)
                  case an34 => kernel_rfl
                  case bn34 => kernel_rfl
                  case cn34 => kernel_rfl
                  case qn34 => exact fun _ _ _ h => h
                  case dn34 => rfl
                  try simp only [Act.put, List.setIfInBounds_toArray, List.set_cons_zero, List.set_cons_succ]
                  refine wpAnyH_take (i := 34) (oi := ?on35) (v := ?vn35) ?hin35 ?an35 ?bn35 ?cn35 ?qn35 (Or.inl ⟨?dn35, ?hyn35⟩) hHeld ?restn35
                  case hin35 => (simp only [List.getElem?_toArray, List.getElem?_cons_succ, List.getElem?_cons_zero]; exact rfl)
                  case an35 => kernel_rfl
                  case bn35 => kernel_rfl
                  case cn35 => kernel_rfl
                  case qn35 => exact fun _ _ _ h => h
                  case dn35 => rfl
                  case hyn35 => (intro z hSw; (try dsimp only at hSw); go_simp; (try with_reducible rfl))
                  try simp only [Act.put, List.setIfInBounds_toArray, List.set_cons_zero, List.set_cons_succ]
                  refine wpAnyH_take (i := 35) (oi := ?on36) (v := ?vn36) ?hin36 ?an36 ?bn36 ?cn36 ?qn36 (Or.inl ⟨?dn36, ?hyn36⟩) hHeld ?restn36
                  case hin36 => (simp only [List.getElem?_toArray, List.getElem?_cons_succ, List.getElem?_cons_zero]; exact rfl)
                  case an36 => kernel_rfl
                  case bn36 => kernel_rfl
                  case cn36 => kernel_rfl
                  case qn36 => exact fun _ _ _ h => h
                  case dn36 => rfl
                  case hyn36 => (intro z hSw; (try dsimp only at hSw); go_simp; (try with_reducible rfl))
                  try simp only [Act.put, List.setIfInBounds_toArray, List.set_cons_zero, List.set_cons_succ]
                  refine wpAnyH_done (by kernel_rfl) ?_ _
                  go_wp2_with fail
                  go_roundw
                  case rel => exact ⟨q + 1, by omega, by go_num, hZd⟩
                  case measure => simp [intOf]; omega
              · obtain rfl : q = n := by omega
                go_wp2_with fail
                go_roundw
                case rel => exact ⟨k + 1, by omega, by go_num, hZ⟩
                case measure => simp [intOf]; omega
        · obtain rfl : k = n := by omega
          go_wp2_with fail
          go_roundw
          case rel => exact ⟨j + 1, by omega, by go_num, hY, hs⟩
          case measure => simp [intOf]; omega
    · obtain rfl : j = n := by omega
      have hv := Lib.hid (HZ.out HJ.out)
      go_wp2_with fail
      go_ret
      exact ⟨by rw [hv.out]; rfl, HG.out.trans hB⟩
set_option maxHeartbeats 4000000 in
set_option maxRecDepth 100000 in
theorem l05Flag2_c (v : Value) (A : List Nat) (w : World) (h : Ints w v (zs A)) (hA : Rl A) :
    Calls Try.prog 38 #[.agg #[.int .i64 (A.length : Int), v], .int .i64 2] w fun e w' => e = .returned (.bool (transB A)) ∧ Grew w w' := by
  obtain ⟨R, hR⟩ : ∃ R, R = transB A := ⟨_, rfl⟩
  rw [← hR]
  unfold transB at hR
  have HA := Lib.hid (fun k hk h => hR.trans (@allB_no A.length (fun x => decide (dif (img A (nt A x)) (nt A x) = 0)) k hk h))
  have HZ := Lib.hid (fun h => hR.trans (@allB_of A.length (fun x => decide (dif (img A (nt A x)) (nt A x) = 0)) h))
  have hn30 := hA.1
  have HB := Lib.hid (fun i (hi : i < A.length) k (hk : k < 64) => l01Bit_q (nt A i) k (by have := hA.sm.at_ hi; omega) hk)
  have HI := Lib.hid (fun i (hi : i < A.length) W (hW : Grew w W) => l01Image_q v A (nt A i) W (h.grew hW) hA.sm hA.1 (hA.lt hi))
  have HN := Lib.hid (fun i (hi : i < A.length) => andNot_i64 (img A (nt A i)) (nt A i) (by have := orK_sm (is := mbs (nt A i)) hA.sm (mbs (nt A i)).length; unfold img; omega) (by have := hA.sm.at_ hi; omega))
  have hal := (Grew.refl w).alloc (.cells #[.int .i64 (A.length : Int), v] 51)
  have y0 : ∀ W, Grew (w.alloc (.cells #[.int .i64 (A.length : Int), v] 51)) W → W.cell? ⟨w.heap.size, 0, none⟩ = some (.int .i64 (A.length : Int)) := fun W hW => (hW.cell (p := ⟨w.heap.size, 0, none⟩) (by simp)).trans (by simp)
  have y1 : ∀ W, Grew (w.alloc (.cells #[.int .i64 (A.length : Int), v] 51)) W → W.cell? ⟨w.heap.size, 1, none⟩ = some v := fun W hW => (hW.cell (p := ⟨w.heap.size, 1, none⟩) (by simp)).trans (by simp)
  obtain ⟨w1, hw1⟩ : ∃ w1, w1 = w.alloc (.cells #[.int .i64 (A.length : Int), v] 51) := ⟨_, rfl⟩
  rw [← hw1] at y0 y1 hal
  have HG := Lib.hid hal
  have r1 := Grew.refl w1
  have r1d := r1.drew
  obtain ⟨A', c, rfl⟩ := ints_sliceN h
  have HC := Lib.hid (fun h0 => cellsN h h0)
  clear h hA hR hal
  generalize hN : A.length = n at *
  clear hN
  go_enter Try.func38, Try.ntmps38
  go_wp2_with fail
  simp only [← hw1]
  clear hw1
  go_quiet (fail)
  go_wp2_with fail
  go_loopw [7] (fun i wr => ∃ j : Nat, j ≤ n ∧ i = .int .i64 j ∧ Grew w1 wr ∧ Hid (AllK (fun x => decide (dif (img A (nt A x)) (nt A x) = 0)) j)) (fun i _ => n - (intOf i).toNat)
  case atStart => exact ⟨0, Nat.zero_le _, rfl, (Grew.refl _).drewN _, AllK.zero _⟩
  case round =>
    obtain ⟨j, hj, rfl, hB, HJ⟩ := hrel
    by_cases hlt : j < n
    · obtain ⟨b, o, rfl, hcell⟩ := HC.out (by omega)
      have hgw := HG.out
      have HX := Lib.hid (fun i hi W (hW : Grew w1 W) => hcell i hi W (hgw.trans hW))
      have hcx := fun W (hW : Grew wr W) => HX.out j hlt W (hB.trans hW)
      have rx := Grew.refl wr
      have hA := Lib.hid (HA.out j hlt)
      have hS := Lib.hid (fun h => HJ.out.succ (k := j) h)
      have hBx := Lib.hid (HB.out j hlt)
      clear hcell
      have hi := Lib.hid (fun W hW => HI.out j hlt W hW)
      have hnn := HN.out j hlt
      have hrr := Grew.refl wr
      have hrd := hrr.drew
      have hgwr := Lib.hid (HG.out.trans hB)
      by_cases hd : dif (img A (nt A j)) (nt A j) = 0
      · have hs := Lib.hid (hS.out (decide_eq_true hd))
        rw [hd] at hnn
        clear hA hS hd
        generalize hmg : img A (nt A j) = mg at *
        clear hmg
        go_wp2_with fail
        go_quiet (first | (go_at_call 39; exact Calls.quiet_of_same (hi.out _ (by first | exact hgwr.out | exact hgwr.out.drew | exact hgwr.out.drewN _))))
        go_wp2_with fail
        have hBd := hB.drewN nq
        go_loopw [8] (fun i wy => ∃ k : Nat, k ≤ n ∧ i = .int .i64 k ∧ Grew w1 wy) (fun i _ => n - (intOf i).toNat)
        case atStart => exact ⟨0, Nat.zero_le _, rfl, hBd⟩
        case round =>
          obtain ⟨k, hk, rfl, hY⟩ := hrel
          by_cases hlk : k < n
          · have hcy := fun W (hW : Grew wr W) => HX.out j hlt W (hY.trans hW)
            have ry := Grew.refl wr
            have hb2 := Lib.hid (hBx.out k (by omega))
            cases ht : (nt A j).testBit k with
            | false =>
              rw [ht] at hb2
              generalize nt A j = m at *
              clear hcx
              go_wp2_with fail
              refine (hb2.out _).mono ?_
              rintro e w3 ⟨rfl, rfl⟩
              go_wp2_with fail
              go_roundw
              case rel => exact ⟨k + 1, by omega, by go_num, hY⟩
              case measure => simp [intOf]; omega
            | true =>
              rw [ht] at hb2
              clear ht
              go_wp2_with fail
              refine (hb2.out _).mono ?_
              rintro e w3 ⟨rfl, rfl⟩
              go_wp2_with fail
              go_loopw [9] (fun i wz => ∃ q : Nat, q ≤ n ∧ i = .int .i64 q ∧ Grew w1 wz) (fun i _ => n - (intOf i).toNat)
              case atStart => exact ⟨0, Nat.zero_le _, rfl, hY⟩
              case round =>
                obtain ⟨q, hq, rfl, hZ⟩ := hrel
                by_cases hlq : q < n
                · have hcw := fun W (hW : Grew wr W) => HX.out j hlt W (hZ.trans hW)
                  have rz := Grew.refl wr
                  have hZd := hZ.drew
                  have hb3 := Lib.hid (hBx.out q (by omega))
                  cases ht3 : (nt A j).testBit q with
                  | false =>
                    rw [ht3] at hb3
                    clear ht3
                    generalize nt A j = m at *
                    clear hcx hcy
                    go_wp2_with fail
                    refine (hb3.out _).mono ?_
                    rintro e w4 ⟨rfl, rfl⟩
                    go_wp2_with fail
                    go_roundw
                    case rel => exact ⟨q + 1, by omega, by go_num, hZ⟩
                    case measure => simp [intOf]; omega
                  | true =>
                    rw [ht3] at hb3
                    clear ht3
                    generalize nt A j = m at *
                    clear hcx hcy
                    go_wp2_with fail
                    refine (hb3.out _).mono ?_
                    rintro e w4 ⟨rfl, rfl⟩
                    go_wp2_with fail
                    refine wp_region_held_drew (S := fun w' => Grew w1 w') (by kernel_rfl) hZd (fun hHeld => ?_)
                    refine wpAnyH_take (i := 0) (oi := ?on37) (v := ?vn37) ?hin37 ?an37 ?bn37 ?cn37 ?qn37 (Or.inl ⟨?dn37, ?hyn37⟩) hHeld ?restn37
                    case hin37 => (simp only [List.getElem?_toArray, List.getElem?_cons_zero]; exact rfl)
                    case an37 => kernel_rfl
                    case bn37 => kernel_rfl
                    case cn37 => kernel_rfl
                    case qn37 => exact fun _ _ _ h => h
                    case dn37 => rfl
                    case hyn37 => (intro z hSw; (try dsimp only at hSw); go_simp; (try with_reducible rfl))
                    try simp only [Act.put, List.setIfInBounds_toArray, List.set_cons_zero, List.set_cons_succ]
                    refine wpAnyH_take (i := 1) (oi := ?on38) (v := ?vn38) ?hin38 ?an38 ?bn38 ?cn38 ?qn38 (Or.inl ⟨?dn38, ?hyn38⟩) hHeld ?restn38
                    case hin38 => (simp only [List.getElem?_toArray, List.getElem?_cons_succ, List.getElem?_cons_zero]; exact rfl)
                    case an38 => kernel_rfl
                    case bn38 => kernel_rfl
                    case cn38 => kernel_rfl
                    case qn38 => exact fun _ _ _ h => h
                    case dn38 => rfl
                    case hyn38 => (intro z hSw; (try dsimp only at hSw); go_simp; (try with_reducible rfl))
                    try simp only [Act.put, List.setIfInBounds_toArray, List.set_cons_zero, List.set_cons_succ]
                    refine wpAnyH_take (i := 2) (oi := ?on39) (v := ?vn39) ?hin39 ?an39 ?bn39 ?cn39 ?qn39 (Or.inl ⟨?dn39, ?hyn39⟩) hHeld ?restn39
                    case hin39 => (simp only [List.getElem?_toArray, List.getElem?_cons_succ, List.getElem?_cons_zero]; exact rfl)
                    case an39 => kernel_rfl
                    case bn39 => kernel_rfl
                    case cn39 => kernel_rfl
                    case qn39 => exact fun _ _ _ h => h
                    case dn39 => rfl
                    case hyn39 => (intro z hSw; (try dsimp only at hSw); go_simp; (try with_reducible rfl))
                    try simp only [Act.put, List.setIfInBounds_toArray, List.set_cons_zero, List.set_cons_succ]
                    refine wpAnyH_take (i := 3) (oi := ?on40) ?hin40 ?an40 ?bn40 ?cn40 ?qn40 (Or.inr ⟨?dn40, rfl⟩) hHeld ?restn40
                    case hin40 => (simp only [List.getElem?_toArray, List.getElem?_cons_succ, List.getElem?_cons_zero]; exact rfl)
                    case an40 => kernel_rfl
                    case bn40 => kernel_rfl
                    case cn40 => kernel_rfl
                    case qn40 => exact fun _ _ _ h => h
                    case dn40 => rfl
                    try simp only [Act.put, List.setIfInBounds_toArray, List.set_cons_zero, List.set_cons_succ]
                    refine wpAnyH_take (i := 4) (oi := ?on41) ?hin41 ?an41 ?bn41 ?cn41 ?qn41 (Or.inr ⟨?dn41, rfl⟩) hHeld ?restn41
                    case hin41 => (simp only [List.getElem?_toArray, List.getElem?_cons_succ, List.getElem?_cons_zero]; exact rfl)
                    case an41 => kernel_rfl
                    case bn41 => kernel_rfl
                    case cn41 => kernel_rfl
                    case qn41 => exact fun _ _ _ h => h
                    case dn41 => rfl
                    try simp only [Act.put, List.setIfInBounds_toArray, List.set_cons_zero, List.set_cons_succ]
                    refine wpAnyH_take (i := 5) (oi := ?on42) ?hin42 ?an42 ?bn42 ?cn42 ?qn42 (Or.inr ⟨?dn42, rfl⟩) hHeld ?restn42
                    case hin42 => (simp only [List.getElem?_toArray, List.getElem?_cons_succ, List.getElem?_cons_zero]; exact rfl)
                    case an42 => kernel_rfl
                    case bn42 => kernel_rfl
                    case cn42 => kernel_rfl
                    case qn42 => exact fun _ _ _ h => h
                    case dn42 => rfl
                    try simp only [Act.put, List.setIfInBounds_toArray, List.set_cons_zero, List.set_cons_succ]
                    refine wpAnyH_take (i := 6) (oi := ?on43) ?hin43 ?an43 ?bn43 ?cn43 ?qn43 (Or.inr ⟨?dn43, rfl⟩) hHeld ?restn43
                    case hin43 => (simp only [List.getElem?_toArray, List.getElem?_cons_succ, List.getElem?_cons_zero]; exact rfl)
                    case an43 => kernel_rfl
                    case bn43 => kernel_rfl
                    case cn43 => kernel_rfl
                    case qn43 => exact fun _ _ _ h => h
                    case dn43 => rfl
                    try simp only [Act.put, List.setIfInBounds_toArray, List.set_cons_zero, List.set_cons_succ]
                    refine wpAnyH_take (i := 7) (oi := ?on44) ?hin44 ?an44 ?bn44 ?cn44 ?qn44 (Or.inr ⟨?dn44, rfl⟩) hHeld ?restn44
                    case hin44 => (simp only [List.getElem?_toArray, List.getElem?_cons_succ, List.getElem?_cons_zero]; exact rfl)
                    case an44 => kernel_rfl
                    case bn44 => kernel_rfl
                    case cn44 => kernel_rfl
                    case qn44 => exact fun _ _ _ h => h
                    case dn44 => rfl
                    try simp only [Act.put, List.setIfInBounds_toArray, List.set_cons_zero, List.set_cons_succ]
                    refine wpAnyH_take (i := 8) (oi := ?on45) ?hin45 ?an45 ?bn45 ?cn45 ?qn45 (Or.inr ⟨?dn45, rfl⟩) hHeld ?restn45
                    case hin45 => (simp only [List.getElem?_toArray, List.getElem?_cons_succ, List.getElem?_cons_zero]; exact rfl)
                    case an45 => kernel_rfl
                    case bn45 => kernel_rfl
                    case cn45 => kernel_rfl
                    case qn45 => exact fun _ _ _ h => h
                    case dn45 => rfl
                    try simp only [Act.put, List.setIfInBounds_toArray, List.set_cons_zero, List.set_cons_succ]
                    refine wpAnyH_take (i := 9) (oi := ?on46) ?hin46 ?an46 ?bn46 ?cn46 ?qn46 (Or.inr ⟨?dn46, rfl⟩) hHeld ?restn46
                    case hin46 => (simp only [List.getElem?_toArray, List.getElem?_cons_succ, List.getElem?_cons_zero]; exact rfl)
                    case an46 => kernel_rfl
                    case bn46 => kernel_rfl
                    case cn46 => kernel_rfl
                    case qn46 => exact fun _ _ _ h => h
                    case dn46 => rfl
                    try simp only [Act.put, List.setIfInBounds_toArray, List.set_cons_zero, List.set_cons_succ]
                    refine wpAnyH_take (i := 10) (oi := ?on47) ?hin47 ?an47 ?bn47 ?cn47 ?qn47 (Or.inr ⟨?dn47, rfl⟩) hHeld ?restn47
                    case hin47 => (simp only [List.getElem?_toArray, List.getElem?_cons_succ, List.getElem?_cons_zero]; exact rfl)
                    case an47 => kernel_rfl
                    case bn47 => kernel_rfl
                    case cn47 => kernel_rfl
                    case qn47 => exact fun _ _ _ h => h
                    case dn47 => rfl
                    try simp only [Act.put, List.setIfInBounds_toArray, List.set_cons_zero, List.set_cons_succ]
                    refine wpAnyH_take (i := 11) (oi := ?on48) ?hin48 ?an48 ?bn48 ?cn48 ?qn48 (Or.inr ⟨?dn48, rfl⟩) hHeld ?restn48
                    case hin48 => (simp only [List.getElem?_toArray, List.getElem?_cons_succ, List.getElem?_cons_zero]; exact rfl)
                    case an48 => kernel_rfl
                    case bn48 => kernel_rfl
                    case cn48 => kernel_rfl
                    case qn48 => exact fun _ _ _ h => h
                    case dn48 => rfl
                    try simp only [Act.put, List.setIfInBounds_toArray, List.set_cons_zero, List.set_cons_succ]
                    refine wpAnyH_take (i := 12) (oi := ?on49) ?hin49 ?an49 ?bn49 ?cn49 ?qn49 (Or.inr ⟨?dn49, rfl⟩) hHeld ?restn49
                    case hin49 => (simp only [List.getElem?_toArray, List.getElem?_cons_succ, List.getElem?_cons_zero]; exact rfl)
                    case an49 => kernel_rfl
                    case bn49 => kernel_rfl
                    case cn49 => kernel_rfl
                    case qn49 => exact fun _ _ _ h => h
                    case dn49 => rfl
                    try simp only [Act.put, List.setIfInBounds_toArray, List.set_cons_zero, List.set_cons_succ]
                    refine wpAnyH_take (i := 13) (oi := ?on50) (v := ?vn50) ?hin50 ?an50 ?bn50 ?cn50 ?qn50 (Or.inl ⟨?dn50, ?hyn50⟩) hHeld ?restn50
                    case hin50 => (simp only [List.getElem?_toArray, List.getElem?_cons_succ, List.getElem?_cons_zero]; exact rfl)
                    case an50 => kernel_rfl
                    case bn50 => kernel_rfl
                    case cn50 => kernel_rfl
                    case qn50 => exact fun _ _ _ h => h
                    case dn50 => rfl
                    case hyn50 => (intro z hSw; (try dsimp only at hSw); go_simp; (try with_reducible rfl))
                    try simp only [Act.put, List.setIfInBounds_toArray, List.set_cons_zero, List.set_cons_succ]
                    refine wpAnyH_take (i := 14) (oi := ?on51) (v := ?vn51) ?hin51 ?an51 ?bn51 ?cn51 ?qn51 (Or.inl ⟨?dn51, ?hyn51⟩) hHeld ?restn51
                    case hin51 => (simp only [List.getElem?_toArray, List.getElem?_cons_succ, List.getElem?_cons_zero]; exact rfl)
                    case an51 => kernel_rfl
                    case bn51 => kernel_rfl
                    case cn51 => kernel_rfl
                    case qn51 => exact fun _ _ _ h => h
                    case dn51 => rfl
                    case hyn51 => (intro z hSw; (try dsimp only at hSw); go_simp; (try with_reducible rfl))
                    try simp only [Act.put, List.setIfInBounds_toArray, List.set_cons_zero, List.set_cons_succ]
                    refine wpAnyH_take (i := 15) (oi := ?on52) (v := ?vn52) ?hin52 ?an52 ?bn52 ?cn52 ?qn52 (Or.inl ⟨?dn52, ?hyn52⟩) hHeld ?restn52
                    case hin52 => (simp only [List.getElem?_toArray, List.getElem?_cons_succ, List.getElem?_cons_zero]; exact rfl)
                    case an52 => kernel_rfl
                    case bn52 => kernel_rfl
                    case cn52 => kernel_rfl
                    case qn52 => exact fun _ _ _ h => h
                    case dn52 => rfl
                    case hyn52 => (intro z hSw; (try dsimp only at hSw); go_simp; (try with_reducible rfl))
                    try simp only [Act.put, List.setIfInBounds_toArray, List.set_cons_zero, List.set_cons_succ]
                    refine wpAnyH_take (i := 16) (oi := ?on53) (v := ?vn53) ?hin53 ?an53 ?bn53 ?cn53 ?qn53 (Or.inl ⟨?dn53, ?hyn53⟩) hHeld ?restn53
                    case hin53 => (simp only [List.getElem?_toArray, List.getElem?_cons_succ, List.getElem?_cons_zero]; exact rfl)
                    case an53 => kernel_rfl
                    case bn53 => kernel_rfl
                    case cn53 => kernel_rfl
                    case qn53 => exact fun _ _ _ h => h
                    case dn53 => rfl
                    case hyn53 => (intro z hSw; (try dsimp only at hSw); go_simp; (try with_reducible rfl))
                    try simp only [Act.put, List.setIfInBounds_toArray, List.set_cons_zero, List.set_cons_succ]
                    refine wpAnyH_take (i := 17) (oi := ?on54) (v := ?vn54) ?hin54 ?an54 ?bn54 ?cn54 ?qn54 (Or.inl ⟨?dn54, ?hyn54⟩) hHeld ?restn54
                    case hin54 => (simp only [List.getElem?_toArray, List.getElem?_cons_succ, List.getElem?_cons_zero]; exact rfl)
                    case an54 => kernel_rfl
                    case bn54 => kernel_rfl
                    case cn54 => kernel_rfl
                    case qn54 => exact fun _ _ _ h => h
                    case dn54 => rfl
                    case hyn54 => (intro z hSw; (try dsimp only at hSw); go_simp; (try with_reducible rfl))
                    try simp only [Act.put, List.setIfInBounds_toArray, List.set_cons_zero, List.set_cons_succ]
                    refine wpAnyH_take (i := 18) (oi := ?on55) ?hin55 ?an55 ?bn55 ?cn55 ?qn55 (Or.inr ⟨?dn55, rfl⟩) hHeld ?restn55
                    case hin55 => (simp only [List.getElem?_toArray, List.getElem?_cons_succ, List.getElem?_cons_zero]; exact rfl)
                    case an55 => kernel_rfl
                    case bn55 => kernel_rfl
                    case cn55 => kernel_rfl
                    case qn55 => exact fun _ _ _ h => h
                    case dn55 => rfl
                    try simp only [Act.put, List.setIfInBounds_toArray, List.set_cons_zero, List.set_cons_succ]
                    refine wpAnyH_take (i := 19) (oi := ?on56) ?hin56 ?an56 ?bn56 ?cn56 ?qn56 (Or.inr ⟨?dn56, rfl⟩) hHeld ?restn56
                    case hin56 => (simp only [List.getElem?_toArray, List.getElem?_cons_succ, List.getElem?_cons_zero]; exact rfl)
                    case an56 => kernel_rfl
                    case bn56 => kernel_rfl
                    case cn56 => kernel_rfl
                    case qn56 => exact fun _ _ _ h => h
                    case dn56 => rfl
                    try simp only [Act.put, List.setIfInBounds_toArray, List.set_cons_zero, List.set_cons_succ]
                    refine wpAnyH_take (i := 20) (oi := ?on57) ?hin57 ?an57 ?bn57 ?cn57 ?qn57 (Or.inr ⟨?dn57, rfl⟩) hHeld ?restn57
                    case hin57 => (simp only [List.getElem?_toArray, List.getElem?_cons_succ, List.getElem?_cons_zero]; exact rfl)
                    case an57 => kernel_rfl
                    case bn57 => kernel_rfl
                    case cn57 => kernel_rfl
                    case qn57 => exact fun _ _ _ h => h
                    case dn57 => rfl
                    try simp only [Act.put, List.setIfInBounds_toArray, List.set_cons_zero, List.set_cons_succ]
                    refine wpAnyH_take (i := 21) (oi := ?on58) ?hin58 ?an58 ?bn58 ?cn58 ?qn58 (Or.inr ⟨?dn58, rfl⟩) hHeld ?restn58
                    case hin58 => (simp only [List.getElem?_toArray, List.getElem?_cons_succ, List.getElem?_cons_zero]; exact rfl)
                    case an58 => kernel_rfl
                    case bn58 => kernel_rfl
                    case cn58 => kernel_rfl
                    case qn58 => exact fun _ _ _ h => h
                    case dn58 => rfl
                    try simp only [Act.put, List.setIfInBounds_toArray, List.set_cons_zero, List.set_cons_succ]
                    refine wpAnyH_take (i := 22) (oi := ?on59) ?hin59 ?an59 ?bn59 ?cn59 ?qn59 (Or.inr ⟨?dn59, rfl⟩) hHeld ?restn59
                    case hin59 => (simp only [List.getElem?_toArray, List.getElem?_cons_succ, List.getElem?_cons_zero]; exact rfl)
                    case an59 => kernel_rfl
                    case bn59 => kernel_rfl
                    case cn59 => kernel_rfl
                    case qn59 => exact fun _ _ _ h => h
                    case dn59 => rfl
                    try simp only [Act.put, List.setIfInBounds_toArray, List.set_cons_zero, List.set_cons_succ]
                    refine wpAnyH_take (i := 23) (oi := ?on60) ?hin60 ?an60 ?bn60 ?cn60 ?qn60 (Or.inr ⟨?dn60, rfl⟩) hHeld ?restn60
                    case hin60 => (simp only [List.getElem?_toArray, List.getElem?_cons_succ, List.getElem?_cons_zero]; exact rfl)
                    case an60 => kernel_rfl
                    case bn60 => kernel_rfl
                    case cn60 => kernel_rfl
                    case qn60 => exact fun _ _ _ h => h
                    case dn60 => rfl
                    try simp only [Act.put, List.setIfInBounds_toArray, List.set_cons_zero, List.set_cons_succ]
                    refine wpAnyH_take (i := 24) (oi := ?on61) ?hin61 ?an61 ?bn61 ?cn61 ?qn61 (Or.inr ⟨?dn61, rfl⟩) hHeld ?restn61
                    case hin61 => (simp only [List.getElem?_toArray, List.getElem?_cons_succ, List.getElem?_cons_zero]; exact rfl)
                    case an61 => kernel_rfl
                    case bn61 => kernel_rfl
                    case cn61 => kernel_rfl
                    case qn61 => exact fun _ _ _ h => h
                    case dn61 => rfl
                    try simp only [Act.put, List.setIfInBounds_toArray, List.set_cons_zero, List.set_cons_succ]
                    refine wpAnyH_take (i := 25) (oi := ?on62) (v := ?vn62) ?hin62 ?an62 ?bn62 ?cn62 ?qn62 (Or.inl ⟨?dn62, ?hyn62⟩) hHeld ?restn62
                    case hin62 => (simp only [List.getElem?_toArray, List.getElem?_cons_succ, List.getElem?_cons_zero]; exact rfl)
                    case an62 => kernel_rfl
                    case bn62 => kernel_rfl
                    case cn62 => kernel_rfl
                    case qn62 => exact fun _ _ _ h => h
                    case dn62 => rfl
                    case hyn62 => (intro z hSw; (try dsimp only at hSw); go_simp; (try with_reducible rfl))
                    try simp only [Act.put, List.setIfInBounds_toArray, List.set_cons_zero, List.set_cons_succ]
                    refine wpAnyH_take (i := 26) (oi := ?on63) (v := ?vn63) ?hin63 ?an63 ?bn63 ?cn63 ?qn63 (Or.inl ⟨?dn63, ?hyn63⟩) hHeld ?restn63
                    case hin63 => (simp only [List.getElem?_toArray, List.getElem?_cons_succ, List.getElem?_cons_zero]; exact rfl)
                    case an63 => kernel_rfl
                    case bn63 => kernel_rfl
                    case cn63 => kernel_rfl
                    case qn63 => exact fun _ _ _ h => h
                    case dn63 => rfl
                    case hyn63 => (intro z hSw; (try dsimp only at hSw); go_simp; (try with_reducible rfl))
                    try simp only [Act.put, List.setIfInBounds_toArray, List.set_cons_zero, List.set_cons_succ]
                    refine wpAnyH_take (i := 27) (oi := ?on64) ?hin64 ?an64 ?bn64 ?cn64 ?qn64 (Or.inr ⟨?dn64, rfl⟩) hHeld ?restn64
                    case hin64 => (simp only [List.getElem?_toArray, List.getElem?_cons_succ, List.getElem?_cons_zero]; exact rfl)
                    case an64 => kernel_rfl
                    case bn64 => kernel_rfl
                    case cn64 => kernel_rfl
                    case qn64 => exact fun _ _ _ h => h
                    case dn64 => rfl
                    try simp only [Act.put, List.setIfInBounds_toArray, List.set_cons_zero, List.set_cons_succ]
                    refine wpAnyH_take (i := 28) (oi := ?on65) ?hin65 ?an65 ?bn65 ?cn65 ?qn65 (Or.inr ⟨?dn65, rfl⟩) hHeld ?restn65
                    case hin65 => (simp only [List.getElem?_toArray, List.getElem?_cons_succ, List.getElem?_cons_zero]; exact rfl)
                    case an65 => kernel_rfl
                    case bn65 => kernel_rfl
                    case cn65 => kernel_rfl
                    case qn65 => exact fun _ _ _ h => h
                    case dn65 => rfl
                    try simp only [Act.put, List.setIfInBounds_toArray, List.set_cons_zero, List.set_cons_succ]
                    refine wpAnyH_take (i := 29) (oi := ?on66) ?hin66 ?an66 ?bn66 ?cn66 ?qn66 (Or.inr ⟨?dn66, rfl⟩) hHeld ?restn66
                    case hin66 => (simp only [List.getElem?_toArray, List.getElem?_cons_succ, List.getElem?_cons_zero]; exact rfl)
                    case an66 => kernel_rfl
                    case bn66 => kernel_rfl
                    case cn66 => kernel_rfl
                    case qn66 => exact fun _ _ _ h => h
                    case dn66 => rfl
                    try simp only [Act.put, List.setIfInBounds_toArray, List.set_cons_zero, List.set_cons_succ]
                    refine wpAnyH_take (i := 30) (oi := ?on67) ?hin67 ?an67 ?bn67 ?cn67 ?qn67 (Or.inr ⟨?dn67, rfl⟩) hHeld ?restn67
                    case hin67 => (simp only [List.getElem?_toArray, List.getElem?_cons_succ, List.getElem?_cons_zero]; exact rfl)
                    case an67 => kernel_rfl
                    case bn67 => kernel_rfl
                    case cn67 => kernel_rfl
                    case qn67 => exact fun _ _ _ h => h
                    case dn67 => rfl
                    try simp only [Act.put, List.setIfInBounds_toArray, List.set_cons_zero, List.set_cons_succ]
                    refine wpAnyH_take (i := 31) (oi := ?on68) ?hin68 ?an68 ?bn68 ?cn68 ?qn68 (Or.inr ⟨?dn68, rfl⟩) hHeld ?restn68
                    case hin68 => (simp only [List.getElem?_toArray, List.getElem?_cons_succ, List.getElem?_cons_zero]; exact rfl)
                    case an68 => kernel_rfl
                    case bn68 => kernel_rfl
                    case cn68 => kernel_rfl
                    case qn68 => exact fun _ _ _ h => h
                    case dn68 => rfl
                    try simp only [Act.put, List.setIfInBounds_toArray, List.set_cons_zero, List.set_cons_succ]
                    refine wpAnyH_take (i := 32) (oi := ?on69) ?hin69 ?an69 ?bn69 ?cn69 ?qn69 (Or.inr ⟨?dn69, rfl⟩) hHeld ?restn69
                    case hin69 => (simp only [List.getElem?_toArray, List.getElem?_cons_succ, List.getElem?_cons_zero]; exact rfl)
                    case an69 => kernel_rfl
                    case bn69 => kernel_rfl
                    case cn69 => kernel_rfl
                    case qn69 => exact fun _ _ _ h => h
                    case dn69 => rfl
                    try simp only [Act.put, List.setIfInBounds_toArray, List.set_cons_zero, List.set_cons_succ]
                    refine wpAnyH_take (i := 33) (oi := ?on70) ?hin70 ?an70 ?bn70 ?cn70 ?qn70 (Or.inr ⟨?dn70, rfl⟩) hHeld ?restn70
                    case hin70 => (simp only [List.getElem?_toArray, List.getElem?_cons_succ, List.getElem?_cons_zero]; exact rfl)
                    case an70 => kernel_rfl
                    case bn70 => kernel_rfl
                    case cn70 => kernel_rfl
                    case qn70 => exact fun _ _ _ h => h
                    case dn70 => rfl
                    try simp only [Act.put, List.setIfInBounds_toArray, List.set_cons_zero, List.set_cons_succ]
                    refine wpAnyH_take (i := 34) (oi := ?on71) (v := ?vn71) ?hin71 ?an71 ?bn71 ?cn71 ?qn71 (Or.inl ⟨?dn71, ?hyn71⟩) hHeld ?restn71
                    case hin71 => (simp only [List.getElem?_toArray, List.getElem?_cons_succ, List.getElem?_cons_zero]; exact rfl)
                    case an71 => kernel_rfl
                    case bn71 => kernel_rfl
                    case cn71 => kernel_rfl
                    case qn71 => exact fun _ _ _ h => h
                    case dn71 => rfl
                    case hyn71 => (intro z hSw; (try dsimp only at hSw); go_simp; (try with_reducible rfl))
                    try simp only [Act.put, List.setIfInBounds_toArray, List.set_cons_zero, List.set_cons_succ]
                    refine wpAnyH_take (i := 35) (oi := ?on72) (v := ?vn72) ?hin72 ?an72 ?bn72 ?cn72 ?qn72 (Or.inl ⟨?dn72, ?hyn72⟩) hHeld ?restn72
                    case hin72 => (simp only [List.getElem?_toArray, List.getElem?_cons_succ, List.getElem?_cons_zero]; exact rfl)
                    case an72 => kernel_rfl
                    case bn72 => kernel_rfl
                    case cn72 => kernel_rfl
                    case qn72 => exact fun _ _ _ h => h
                    case dn72 => rfl
                    case hyn72 => (intro z hSw; (try dsimp only at hSw); go_simp; (try with_reducible rfl))
                    try simp only [Act.put, List.setIfInBounds_toArray, List.set_cons_zero, List.set_cons_succ]
                    refine wpAnyH_done (by kernel_rfl) ?_ _
                    go_wp2_with fail
                    go_roundw
                    case rel => exact ⟨q + 1, by omega, by go_num, hZd⟩
                    case measure => simp [intOf]; omega
                · obtain rfl : q = n := by omega
                  go_wp2_with fail
                  go_roundw
                  case rel => exact ⟨k + 1, by omega, by go_num, hZ⟩
                  case measure => simp [intOf]; omega
          · obtain rfl : k = n := by omega
            go_wp2_with fail
            go_roundw
            case rel => exact ⟨j + 1, by omega, by go_num, hY, hs⟩
            case measure => simp [intOf]; omega
      · have hv := Lib.hid (hA.out (decide_eq_false hd))
        have hne : (((dif (img A (nt A j)) (nt A j) : Nat) : Int) != 0) = true := by
          rw [bne_iff_ne]
          omega
        clear hA hS hd
        generalize hdd : dif (img A (nt A j)) (nt A j) = dd at *
        clear hdd
        generalize hmg : img A (nt A j) = mg at *
        clear hmg
        generalize nt A j = m at *
        go_wp2_with fail
        go_quiet (first | (go_at_call 39; exact Calls.quiet_of_same (hi.out _ (by first | exact hgwr.out | exact hgwr.out.drew | exact hgwr.out.drewN _))))
        go_wp2_with fail
        go_ret
        exact ⟨by rw [hv.out]; rfl, HG.out.trans (hB.drewN _)⟩
    · obtain rfl : j = n := by omega
      have hv := Lib.hid (HZ.out HJ.out)
      go_wp2_with fail
      go_ret
      exact ⟨by rw [hv.out]; rfl, HG.out.trans hB⟩
set_option maxHeartbeats 4000000 in
set_option maxRecDepth 100000 in
theorem l05Flag8_c (v : Value) (A : List Nat) (w : World) (h : Ints w v (zs A)) (hA : Rl A) :
    Calls Try.prog 38 #[.agg #[.int .i64 (A.length : Int), v], .int .i64 8] w fun e w' => e = .returned (.bool (antiB A)) ∧ Grew w w' := by
  obtain ⟨R, hR⟩ : ∃ R, R = antiB A := ⟨_, rfl⟩
  rw [← hR]
  unfold antiB at hR
  have HA := Lib.hid (fun k hk h => hR.trans (@allB_no A.length (fun x => allB A.length (antiX A x)) k hk h))
  have HZ := Lib.hid (fun h => hR.trans (@allB_of A.length (fun x => allB A.length (antiX A x)) h))
  have hn30 := hA.1
  have HB := Lib.hid (fun i (hi : i < A.length) k (hk : k < 64) => l01Bit_q (nt A i) k (by have := hA.sm.at_ hi; omega) hk)
  have hal := (Grew.refl w).alloc (.cells #[.int .i64 (A.length : Int), v] 51)
  have y0 : ∀ W, Grew (w.alloc (.cells #[.int .i64 (A.length : Int), v] 51)) W → W.cell? ⟨w.heap.size, 0, none⟩ = some (.int .i64 (A.length : Int)) := fun W hW => (hW.cell (p := ⟨w.heap.size, 0, none⟩) (by simp)).trans (by simp)
  have y1 : ∀ W, Grew (w.alloc (.cells #[.int .i64 (A.length : Int), v] 51)) W → W.cell? ⟨w.heap.size, 1, none⟩ = some v := fun W hW => (hW.cell (p := ⟨w.heap.size, 1, none⟩) (by simp)).trans (by simp)
  obtain ⟨w1, hw1⟩ : ∃ w1, w1 = w.alloc (.cells #[.int .i64 (A.length : Int), v] 51) := ⟨_, rfl⟩
  rw [← hw1] at y0 y1 hal
  have HG := Lib.hid hal
  have r1 := Grew.refl w1
  have r1d := r1.drew
  obtain ⟨A', c, rfl⟩ := ints_sliceN h
  have HC := Lib.hid (fun h0 => cellsN h h0)
  clear h hA hR hal
  generalize hN : A.length = n at *
  clear hN
  go_enter Try.func38, Try.ntmps38
  go_wp2_with fail
  simp only [← hw1]
  clear hw1
  go_quiet (fail)
  go_wp2_with fail
  go_loopw [7] (fun i wr => ∃ j : Nat, j ≤ n ∧ i = .int .i64 j ∧ Grew w1 wr ∧ Hid (AllK (fun x => allB n (antiX A x)) j)) (fun i _ => n - (intOf i).toNat)
  case atStart => exact ⟨0, Nat.zero_le _, rfl, (Grew.refl _).drewN _, AllK.zero _⟩
  case round =>
    obtain ⟨j, hj, rfl, hB, HJ⟩ := hrel
    by_cases hlt : j < n
    · obtain ⟨b, o, rfl, hcell⟩ := HC.out (by omega)
      have hgw := HG.out
      have HX := Lib.hid (fun i hi W (hW : Grew w1 W) => hcell i hi W (hgw.trans hW))
      have hcx := fun W (hW : Grew wr W) => HX.out j hlt W (hB.trans hW)
      have rx := Grew.refl wr
      have hA := Lib.hid (HA.out j hlt)
      have hS := Lib.hid (fun h => HJ.out.succ (k := j) h)
      have hBx := Lib.hid (HB.out j hlt)
      clear hcell
      go_wp2_with fail
      go_loopw [8] (fun i wy => ∃ k : Nat, k ≤ n ∧ i = .int .i64 k ∧ Grew w1 wy ∧ Hid (AllK (antiX A j) k)) (fun i _ => n - (intOf i).toNat)
      case atStart => exact ⟨0, Nat.zero_le _, rfl, hB, AllK.zero _⟩
      case round =>
        obtain ⟨k, hk, rfl, hY, HK⟩ := hrel
        by_cases hlk : k < n
        · have hcy := fun W (hW : Grew wr W) => HX.out j hlt W (hY.trans hW)
          have ry := Grew.refl wr
          have hb2 := Lib.hid (hBx.out k (by omega))
          have hKS := Lib.hid (fun h => HK.out.succ (k := k) h)
          have hKN := Lib.hid (fun h => @allB_no n (antiX A j) k hlk h)
          have hcz := fun W (hW : Grew wr W) => HX.out k hlk W (hY.trans hW)
          have hb4 := Lib.hid (HB.out k hlk j (by omega))
          have hax : antiX A j k = !((nt A j).testBit k && (!(j == k) && (nt A k).testBit j)) := rfl
          cases ht : (nt A j).testBit k with
          | false =>
            rw [ht] at hb2 hax
            have hks := Lib.hid (hKS.out (by rw [hax]; simp))
            clear hax hKS hKN ht
            generalize nt A j = m at *
            clear hcx hcz hb4
            go_wp2_with fail
            refine (hb2.out _).mono ?_
            rintro e w3 ⟨rfl, rfl⟩
            go_wp2_with fail
            go_roundw
            case rel => exact ⟨k + 1, by omega, by go_num, hY, hks⟩
            case measure => simp [intOf]; omega
          | true =>
            rw [ht] at hb2 hax
            rw [Bool.true_and] at hax
            by_cases hjk : j = k
            · have hj1 : ((j : Int) != (k : Int)) = false := by rw [hjk]; simp
              have hks := Lib.hid (hKS.out (by rw [hax, hjk]; simp))
              clear hax hKS hKN ht hjk hb4 hcz
              go_wp2_with fail
              refine (hb2.out _).mono ?_
              rintro e w3 ⟨rfl, rfl⟩
              go_wp2_with fail
              go_loopw [9] (fun i wz => ∃ q : Nat, q ≤ n ∧ i = .int .i64 q ∧ Grew w1 wz) (fun i _ => n - (intOf i).toNat)
              case atStart => exact ⟨0, Nat.zero_le _, rfl, hY⟩
              case round =>
                obtain ⟨q, hq, rfl, hZ⟩ := hrel
                by_cases hlq : q < n
                · have hcw := fun W (hW : Grew wr W) => HX.out j hlt W (hZ.trans hW)
                  have rz := Grew.refl wr
                  have hZd := hZ.drew
                  have hb3 := Lib.hid (hBx.out q (by omega))
                  cases ht3 : (nt A j).testBit q with
                  | false =>
                    rw [ht3] at hb3
                    clear ht3
                    generalize nt A j = m at *
                    clear hcx hcy
                    go_wp2_with fail
                    refine (hb3.out _).mono ?_
                    rintro e w4 ⟨rfl, rfl⟩
                    go_wp2_with fail
                    go_roundw
                    case rel => exact ⟨q + 1, by omega, by go_num, hZ⟩
                    case measure => simp [intOf]; omega
                  | true =>
                    rw [ht3] at hb3
                    clear ht3
                    generalize nt A j = m at *
                    clear hcx hcy
                    go_wp2_with fail
                    refine (hb3.out _).mono ?_
                    rintro e w4 ⟨rfl, rfl⟩
                    go_wp2_with fail
                    refine wp_region_held_drew (S := fun w' => Grew w1 w') (by kernel_rfl) hZd (fun hHeld => ?_)
                    refine wpAnyH_take (i := 0) (oi := ?on73) (v := ?vn73) ?hin73 ?an73 ?bn73 ?cn73 ?qn73 (Or.inl ⟨?dn73, ?hyn73⟩) hHeld ?restn73
                    case hin73 => (simp only [List.getElem?_toArray, List.getElem?_cons_zero]; exact rfl)
                    case an73 => kernel_rfl
                    case bn73 => kernel_rfl
                    case cn73 => kernel_rfl
                    case qn73 => exact fun _ _ _ h => h
                    case dn73 => rfl
                    case hyn73 => (intro z hSw; (try dsimp only at hSw); go_simp; (try with_reducible rfl))
                    try simp only [Act.put, List.setIfInBounds_toArray, List.set_cons_zero, List.set_cons_succ]
                    refine wpAnyH_take (i := 1) (oi := ?on74) (v := ?vn74) ?hin74 ?an74 ?bn74 ?cn74 ?qn74 (Or.inl ⟨?dn74, ?hyn74⟩) hHeld ?restn74
                    case hin74 => (simp only [List.getElem?_toArray, List.getElem?_cons_succ, List.getElem?_cons_zero]; exact rfl)
                    case an74 => kernel_rfl
                    case bn74 => kernel_rfl
                    case cn74 => kernel_rfl
                    case qn74 => exact fun _ _ _ h => h
                    case dn74 => rfl
                    case hyn74 => (intro z hSw; (try dsimp only at hSw); go_simp; (try with_reducible rfl))
                    try simp only [Act.put, List.setIfInBounds_toArray, List.set_cons_zero, List.set_cons_succ]
                    refine wpAnyH_take (i := 2) (oi := ?on75) (v := ?vn75) ?hin75 ?an75 ?bn75 ?cn75 ?qn75 (Or.inl ⟨?dn75, ?hyn75⟩) hHeld ?restn75
                    case hin75 => (simp only [List.getElem?_toArray, List.getElem?_cons_succ, List.getElem?_cons_zero]; exact rfl)
                    case an75 => kernel_rfl
                    case bn75 => kernel_rfl
                    case cn75 => kernel_rfl
                    case qn75 => exact fun _ _ _ h => h
                    case dn75 => rfl
                    case hyn75 => (intro z hSw; (try dsimp only at hSw); go_simp; (try with_reducible rfl))
                    try simp only [Act.put, List.setIfInBounds_toArray, List.set_cons_zero, List.set_cons_succ]
                    refine wpAnyH_take (i := 3) (oi := ?on76) ?hin76 ?an76 ?bn76 ?cn76 ?qn76 (Or.inr ⟨?dn76, rfl⟩) hHeld ?restn76
                    case hin76 => (simp only [List.getElem?_toArray, List.getElem?_cons_succ, List.getElem?_cons_zero]; exact rfl)
                    case an76 => kernel_rfl
                    case bn76 => kernel_rfl
                    case cn76 => kernel_rfl
                    case qn76 => exact fun _ _ _ h => h
                    case dn76 => rfl
                    try simp only [Act.put, List.setIfInBounds_toArray, List.set_cons_zero, List.set_cons_succ]
                    refine wpAnyH_take (i := 4) (oi := ?on77) ?hin77 ?an77 ?bn77 ?cn77 ?qn77 (Or.inr ⟨?dn77, rfl⟩) hHeld ?restn77
                    case hin77 => (simp only [List.getElem?_toArray, List.getElem?_cons_succ, List.getElem?_cons_zero]; exact rfl)
                    case an77 => kernel_rfl
                    case bn77 => kernel_rfl
                    case cn77 => kernel_rfl
                    case qn77 => exact fun _ _ _ h => h
                    case dn77 => rfl
                    try simp only [Act.put, List.setIfInBounds_toArray, List.set_cons_zero, List.set_cons_succ]
                    refine wpAnyH_take (i := 5) (oi := ?on78) ?hin78 ?an78 ?bn78 ?cn78 ?qn78 (Or.inr ⟨?dn78, rfl⟩) hHeld ?restn78
                    case hin78 => (simp only [List.getElem?_toArray, List.getElem?_cons_succ, List.getElem?_cons_zero]; exact rfl)
                    case an78 => kernel_rfl
                    case bn78 => kernel_rfl
                    case cn78 => kernel_rfl
                    case qn78 => exact fun _ _ _ h => h
                    case dn78 => rfl
                    try simp only [Act.put, List.setIfInBounds_toArray, List.set_cons_zero, List.set_cons_succ]
                    refine wpAnyH_take (i := 6) (oi := ?on79) ?hin79 ?an79 ?bn79 ?cn79 ?qn79 (Or.inr ⟨?dn79, rfl⟩) hHeld ?restn79
                    case hin79 => (simp only [List.getElem?_toArray, List.getElem?_cons_succ, List.getElem?_cons_zero]; exact rfl)
                    case an79 => kernel_rfl
                    case bn79 => kernel_rfl
                    case cn79 => kernel_rfl
                    case qn79 => exact fun _ _ _ h => h
                    case dn79 => rfl
                    try simp only [Act.put, List.setIfInBounds_toArray, List.set_cons_zero, List.set_cons_succ]
                    refine wpAnyH_take (i := 7) (oi := ?on80) ?hin80 ?an80 ?bn80 ?cn80 ?qn80 (Or.inr ⟨?dn80, rfl⟩) hHeld ?restn80
                    case hin80 => (simp only [List.getElem?_toArray, List.getElem?_cons_succ, List.getElem?_cons_zero]; exact rfl)
                    case an80 => kernel_rfl
                    case bn80 => kernel_rfl
                    case cn80 => kernel_rfl
                    case qn80 => exact fun _ _ _ h => h
                    case dn80 => rfl
                    try simp only [Act.put, List.setIfInBounds_toArray, List.set_cons_zero, List.set_cons_succ]
                    refine wpAnyH_take (i := 8) (oi := ?on81) ?hin81 ?an81 ?bn81 ?cn81 ?qn81 (Or.inr ⟨?dn81, rfl⟩) hHeld ?restn81
                    case hin81 => (simp only [List.getElem?_toArray, List.getElem?_cons_succ, List.getElem?_cons_zero]; exact rfl)
                    case an81 => kernel_rfl
                    case bn81 => kernel_rfl
                    case cn81 => kernel_rfl
                    case qn81 => exact fun _ _ _ h => h
                    case dn81 => rfl
                    try simp only [Act.put, List.setIfInBounds_toArray, List.set_cons_zero, List.set_cons_succ]
                    refine wpAnyH_take (i := 9) (oi := ?on82) ?hin82 ?an82 ?bn82 ?cn82 ?qn82 (Or.inr ⟨?dn82, rfl⟩) hHeld ?restn82
                    case hin82 => (simp only [List.getElem?_toArray, List.getElem?_cons_succ, List.getElem?_cons_zero]; exact rfl)
                    case an82 => kernel_rfl
                    case bn82 => kernel_rfl
                    case cn82 => kernel_rfl
                    case qn82 => exact fun _ _ _ h => h
                    case dn82 => rfl
                    try simp only [Act.put, List.setIfInBounds_toArray, List.set_cons_zero, List.set_cons_succ]
                    refine wpAnyH_take (i := 10) (oi := ?on83) ?hin83 ?an83 ?bn83 ?cn83 ?qn83 (Or.inr ⟨?dn83, rfl⟩) hHeld ?restn83
                    case hin83 => (simp only [List.getElem?_toArray, List.getElem?_cons_succ, List.getElem?_cons_zero]; exact rfl)
                    case an83 => kernel_rfl
                    case bn83 => kernel_rfl
                    case cn83 => kernel_rfl
                    case qn83 => exact fun _ _ _ h => h
                    case dn83 => rfl
                    try simp only [Act.put, List.setIfInBounds_toArray, List.set_cons_zero, List.set_cons_succ]
                    refine wpAnyH_take (i := 11) (oi := ?on84) ?hin84 ?an84 ?bn84 ?cn84 ?qn84 (Or.inr ⟨?dn84, rfl⟩) hHeld ?restn84
                    case hin84 => (simp only [List.getElem?_toArray, List.getElem?_cons_succ, List.getElem?_cons_zero]; exact rfl)
                    case an84 => kernel_rfl
                    case bn84 => kernel_rfl
                    case cn84 => kernel_rfl
                    case qn84 => exact fun _ _ _ h => h
                    case dn84 => rfl
                    try simp only [Act.put, List.setIfInBounds_toArray, List.set_cons_zero, List.set_cons_succ]
                    refine wpAnyH_take (i := 12) (oi := ?on85) ?hin85 ?an85 ?bn85 ?cn85 ?qn85 (Or.inr ⟨?dn85, rfl⟩) hHeld ?restn85
                    case hin85 => (simp only [List.getElem?_toArray, List.getElem?_cons_succ, List.getElem?_cons_zero]; exact rfl)
                    case an85 => kernel_rfl
                    case bn85 => kernel_rfl
                    case cn85 => kernel_rfl
                    case qn85 => exact fun _ _ _ h => h
                    case dn85 => rfl
                    try simp only [Act.put, List.setIfInBounds_toArray, List.set_cons_zero, List.set_cons_succ]
                    refine wpAnyH_take (i := 13) (oi := ?on86) (v := ?vn86) ?hin86 ?an86 ?bn86 ?cn86 ?qn86 (Or.inl ⟨?dn86, ?hyn86⟩) hHeld ?restn86
                    case hin86 => (simp only [List.getElem?_toArray, List.getElem?_cons_succ, List.getElem?_cons_zero]; exact rfl)
                    case an86 => kernel_rfl
                    case bn86 => kernel_rfl
                    case cn86 => kernel_rfl
                    case qn86 => exact fun _ _ _ h => h
                    case dn86 => rfl
                    case hyn86 => (intro z hSw; (try dsimp only at hSw); go_simp; (try with_reducible rfl))
                    try simp only [Act.put, List.setIfInBounds_toArray, List.set_cons_zero, List.set_cons_succ]
                    refine wpAnyH_take (i := 14) (oi := ?on87) (v := ?vn87) ?hin87 ?an87 ?bn87 ?cn87 ?qn87 (Or.inl ⟨?dn87, ?hyn87⟩) hHeld ?restn87
                    case hin87 => (simp only [List.getElem?_toArray, List.getElem?_cons_succ, List.getElem?_cons_zero]; exact rfl)
                    case an87 => kernel_rfl
                    case bn87 => kernel_rfl
                    case cn87 => kernel_rfl
                    case qn87 => exact fun _ _ _ h => h
                    case dn87 => rfl
                    case hyn87 => (intro z hSw; (try dsimp only at hSw); go_simp; (try with_reducible rfl))
                    try simp only [Act.put, List.setIfInBounds_toArray, List.set_cons_zero, List.set_cons_succ]
                    refine wpAnyH_take (i := 15) (oi := ?on88) (v := ?vn88) ?hin88 ?an88 ?bn88 ?cn88 ?qn88 (Or.inl ⟨?dn88, ?hyn88⟩) hHeld ?restn88
                    case hin88 => (simp only [List.getElem?_toArray, List.getElem?_cons_succ, List.getElem?_cons_zero]; exact rfl)
                    case an88 => kernel_rfl
                    case bn88 => kernel_rfl
                    case cn88 => kernel_rfl
                    case qn88 => exact fun _ _ _ h => h
                    case dn88 => rfl
                    case hyn88 => (intro z hSw; (try dsimp only at hSw); go_simp; (try with_reducible rfl))
                    try simp only [Act.put, List.setIfInBounds_toArray, List.set_cons_zero, List.set_cons_succ]
                    refine wpAnyH_take (i := 16) (oi := ?on89) (v := ?vn89) ?hin89 ?an89 ?bn89 ?cn89 ?qn89 (Or.inl ⟨?dn89, ?hyn89⟩) hHeld ?restn89
                    case hin89 => (simp only [List.getElem?_toArray, List.getElem?_cons_succ, List.getElem?_cons_zero]; exact rfl)
                    case an89 => kernel_rfl
                    case bn89 => kernel_rfl
                    case cn89 => kernel_rfl
                    case qn89 => exact fun _ _ _ h => h
                    case dn89 => rfl
                    case hyn89 => (intro z hSw; (try dsimp only at hSw); go_simp; (try with_reducible rfl))
                    try simp only [Act.put, List.setIfInBounds_toArray, List.set_cons_zero, List.set_cons_succ]
                    refine wpAnyH_take (i := 17) (oi := ?on90) (v := ?vn90) ?hin90 ?an90 ?bn90 ?cn90 ?qn90 (Or.inl ⟨?dn90, ?hyn90⟩) hHeld ?restn90
                    case hin90 => (simp only [List.getElem?_toArray, List.getElem?_cons_succ, List.getElem?_cons_zero]; exact rfl)
                    case an90 => kernel_rfl
                    case bn90 => kernel_rfl
                    case cn90 => kernel_rfl
                    case qn90 => exact fun _ _ _ h => h
                    case dn90 => rfl
                    case hyn90 => (intro z hSw; (try dsimp only at hSw); go_simp; (try with_reducible rfl))
                    try simp only [Act.put, List.setIfInBounds_toArray, List.set_cons_zero, List.set_cons_succ]
                    refine wpAnyH_take (i := 18) (oi := ?on91) ?hin91 ?an91 ?bn91 ?cn91 ?qn91 (Or.inr ⟨?dn91, rfl⟩) hHeld ?restn91
                    case hin91 => (simp only [List.getElem?_toArray, List.getElem?_cons_succ, List.getElem?_cons_zero]; exact rfl)
                    case an91 => kernel_rfl
                    case bn91 => kernel_rfl
                    case cn91 => kernel_rfl
                    case qn91 => exact fun _ _ _ h => h
                    case dn91 => rfl
                    try simp only [Act.put, List.setIfInBounds_toArray, List.set_cons_zero, List.set_cons_succ]
                    refine wpAnyH_take (i := 19) (oi := ?on92) ?hin92 ?an92 ?bn92 ?cn92 ?qn92 (Or.inr ⟨?dn92, rfl⟩) hHeld ?restn92
                    case hin92 => (simp only [List.getElem?_toArray, List.getElem?_cons_succ, List.getElem?_cons_zero]; exact rfl)
                    case an92 => kernel_rfl
                    case bn92 => kernel_rfl
                    case cn92 => kernel_rfl
                    case qn92 => exact fun _ _ _ h => h
                    case dn92 => rfl
                    try simp only [Act.put, List.setIfInBounds_toArray, List.set_cons_zero, List.set_cons_succ]
                    refine wpAnyH_take (i := 20) (oi := ?on93) ?hin93 ?an93 ?bn93 ?cn93 ?qn93 (Or.inr ⟨?dn93, rfl⟩) hHeld ?restn93
                    case hin93 => (simp only [List.getElem?_toArray, List.getElem?_cons_succ, List.getElem?_cons_zero]; exact rfl)
                    case an93 => kernel_rfl
                    case bn93 => kernel_rfl
                    case cn93 => kernel_rfl
                    case qn93 => exact fun _ _ _ h => h
                    case dn93 => rfl
                    try simp only [Act.put, List.setIfInBounds_toArray, List.set_cons_zero, List.set_cons_succ]
                    refine wpAnyH_take (i := 21) (oi := ?on94) ?hin94 ?an94 ?bn94 ?cn94 ?qn94 (Or.inr ⟨?dn94, rfl⟩) hHeld ?restn94
                    case hin94 => (simp only [List.getElem?_toArray, List.getElem?_cons_succ, List.getElem?_cons_zero]; exact rfl)
                    case an94 => kernel_rfl
                    case bn94 => kernel_rfl
                    case cn94 => kernel_rfl
                    case qn94 => exact fun _ _ _ h => h
                    case dn94 => rfl
                    try simp only [Act.put, List.setIfInBounds_toArray, List.set_cons_zero, List.set_cons_succ]
                    refine wpAnyH_take (i := 22) (oi := ?on95) ?hin95 ?an95 ?bn95 ?cn95 ?qn95 (Or.inr ⟨?dn95, rfl⟩) hHeld ?restn95
                    case hin95 => (simp only [List.getElem?_toArray, List.getElem?_cons_succ, List.getElem?_cons_zero]; exact rfl)
                    case an95 => kernel_rfl
                    case bn95 => kernel_rfl
                    case cn95 => kernel_rfl
                    case qn95 => exact fun _ _ _ h => h
                    case dn95 => rfl
                    try simp only [Act.put, List.setIfInBounds_toArray, List.set_cons_zero, List.set_cons_succ]
                    refine wpAnyH_take (i := 23) (oi := ?on96) ?hin96 ?an96 ?bn96 ?cn96 ?qn96 (Or.inr ⟨?dn96, rfl⟩) hHeld ?restn96
                    case hin96 => (simp only [List.getElem?_toArray, List.getElem?_cons_succ, List.getElem?_cons_zero]; exact rfl)
                    case an96 => kernel_rfl
                    case bn96 => kernel_rfl
                    case cn96 => kernel_rfl
                    case qn96 => exact fun _ _ _ h => h
                    case dn96 => rfl
                    try simp only [Act.put, List.setIfInBounds_toArray, List.set_cons_zero, List.set_cons_succ]
                    refine wpAnyH_take (i := 24) (oi := ?on97) ?hin97 ?an97 ?bn97 ?cn97 ?qn97 (Or.inr ⟨?dn97, rfl⟩) hHeld ?restn97
                    case hin97 => (simp only [List.getElem?_toArray, List.getElem?_cons_succ, List.getElem?_cons_zero]; exact rfl)
                    case an97 => kernel_rfl
                    case bn97 => kernel_rfl
                    case cn97 => kernel_rfl
                    case qn97 => exact fun _ _ _ h => h
                    case dn97 => rfl
                    try simp only [Act.put, List.setIfInBounds_toArray, List.set_cons_zero, List.set_cons_succ]
                    refine wpAnyH_take (i := 25) (oi := ?on98) (v := ?vn98) ?hin98 ?an98 ?bn98 ?cn98 ?qn98 (Or.inl ⟨?dn98, ?hyn98⟩) hHeld ?restn98
                    case hin98 => (simp only [List.getElem?_toArray, List.getElem?_cons_succ, List.getElem?_cons_zero]; exact rfl)
                    case an98 => kernel_rfl
                    case bn98 => kernel_rfl
                    case cn98 => kernel_rfl
                    case qn98 => exact fun _ _ _ h => h
                    case dn98 => rfl
                    case hyn98 => (intro z hSw; (try dsimp only at hSw); go_simp; (try with_reducible rfl))
                    try simp only [Act.put, List.setIfInBounds_toArray, List.set_cons_zero, List.set_cons_succ]
                    refine wpAnyH_take (i := 26) (oi := ?on99) (v := ?vn99) ?hin99 ?an99 ?bn99 ?cn99 ?qn99 (Or.inl ⟨?dn99, ?hyn99⟩) hHeld ?restn99
                    case hin99 => (simp only [List.getElem?_toArray, List.getElem?_cons_succ, List.getElem?_cons_zero]; exact rfl)
                    case an99 => kernel_rfl
                    case bn99 => kernel_rfl
                    case cn99 => kernel_rfl
                    case qn99 => exact fun _ _ _ h => h
                    case dn99 => rfl
                    case hyn99 => (intro z hSw; (try dsimp only at hSw); go_simp; (try with_reducible rfl))
                    try simp only [Act.put, List.setIfInBounds_toArray, List.set_cons_zero, List.set_cons_succ]
                    refine wpAnyH_take (i := 27) (oi := ?on100) ?hin100 ?an100 ?bn100 ?cn100 ?qn100 (Or.inr ⟨?dn100, rfl⟩) hHeld ?restn100
                    case hin100 => (simp only [List.getElem?_toArray, List.getElem?_cons_succ, List.getElem?_cons_zero]; exact rfl)
                    case an100 => kernel_rfl
                    case bn100 => kernel_rfl
                    case cn100 => kernel_rfl
                    case qn100 => exact fun _ _ _ h => h
                    case dn100 => rfl
                    try simp only [Act.put, List.setIfInBounds_toArray, List.set_cons_zero, List.set_cons_succ]
                    refine wpAnyH_take (i := 28) (oi := ?on101) ?hin101 ?an101 ?bn101 ?cn101 ?qn101 (Or.inr ⟨?dn101, rfl⟩) hHeld ?restn101
                    case hin101 => (simp only [List.getElem?_toArray, List.getElem?_cons_succ, List.getElem?_cons_zero]; exact rfl)
                    case an101 => kernel_rfl
                    case bn101 => kernel_rfl
                    case cn101 => kernel_rfl
                    case qn101 => exact fun _ _ _ h => h
                    case dn101 => rfl
                    try simp only [Act.put, List.setIfInBounds_toArray, List.set_cons_zero, List.set_cons_succ]
                    refine wpAnyH_take (i := 29) (oi := ?on102) ?hin102 ?an102 ?bn102 ?cn102 ?qn102 (Or.inr ⟨?dn102, rfl⟩) hHeld ?restn102
                    case hin102 => (simp only [List.getElem?_toArray, List.getElem?_cons_succ, List.getElem?_cons_zero]; exact rfl)
                    case an102 => kernel_rfl
                    case bn102 => kernel_rfl
                    case cn102 => kernel_rfl
                    case qn102 => exact fun _ _ _ h => h
                    case dn102 => rfl
                    try simp only [Act.put, List.setIfInBounds_toArray, List.set_cons_zero, List.set_cons_succ]
                    refine wpAnyH_take (i := 30) (oi := ?on103) ?hin103 ?an103 ?bn103 ?cn103 ?qn103 (Or.inr ⟨?dn103, rfl⟩) hHeld ?restn103
                    case hin103 => (simp only [List.getElem?_toArray, List.getElem?_cons_succ, List.getElem?_cons_zero]; exact rfl)
                    case an103 => kernel_rfl
                    case bn103 => kernel_rfl
                    case cn103 => kernel_rfl
                    case qn103 => exact fun _ _ _ h => h
                    case dn103 => rfl
                    try simp only [Act.put, List.setIfInBounds_toArray, List.set_cons_zero, List.set_cons_succ]
                    refine wpAnyH_take (i := 31) (oi := ?on104) ?hin104 ?an104 ?bn104 ?cn104 ?qn104 (Or.inr ⟨?dn104, rfl⟩) hHeld ?restn104
                    case hin104 => (simp only [List.getElem?_toArray, List.getElem?_cons_succ, List.getElem?_cons_zero]; exact rfl)
                    case an104 => kernel_rfl
                    case bn104 => kernel_rfl
                    case cn104 => kernel_rfl
                    case qn104 => exact fun _ _ _ h => h
                    case dn104 => rfl
                    try simp only [Act.put, List.setIfInBounds_toArray, List.set_cons_zero, List.set_cons_succ]
                    refine wpAnyH_take (i := 32) (oi := ?on105) ?hin105 ?an105 ?bn105 ?cn105 ?qn105 (Or.inr ⟨?dn105, rfl⟩) hHeld ?restn105
                    case hin105 => (simp only [List.getElem?_toArray, List.getElem?_cons_succ, List.getElem?_cons_zero]; exact rfl)
                    case an105 => kernel_rfl
                    case bn105 => kernel_rfl
                    case cn105 => kernel_rfl
                    case qn105 => exact fun _ _ _ h => h
                    case dn105 => rfl
                    try simp only [Act.put, List.setIfInBounds_toArray, List.set_cons_zero, List.set_cons_succ]
                    refine wpAnyH_take (i := 33) (oi := ?on106) ?hin106 ?an106 ?bn106 ?cn106 ?qn106 (Or.inr ⟨?dn106, rfl⟩) hHeld ?restn106
                    case hin106 => (simp only [List.getElem?_toArray, List.getElem?_cons_succ, List.getElem?_cons_zero]; exact rfl)
                    case an106 => kernel_rfl
                    case bn106 => kernel_rfl
                    case cn106 => kernel_rfl
                    case qn106 => exact fun _ _ _ h => h
                    case dn106 => rfl
                    try simp only [Act.put, List.setIfInBounds_toArray, List.set_cons_zero, List.set_cons_succ]
                    refine wpAnyH_take (i := 34) (oi := ?on107) (v := ?vn107) ?hin107 ?an107 ?bn107 ?cn107 ?qn107 (Or.inl ⟨?dn107, ?hyn107⟩) hHeld ?restn107
                    case hin107 => (simp only [List.getElem?_toArray, List.getElem?_cons_succ, List.getElem?_cons_zero]; exact rfl)
                    case an107 => kernel_rfl
                    case bn107 => kernel_rfl
                    case cn107 => kernel_rfl
                    case qn107 => exact fun _ _ _ h => h
                    case dn107 => rfl
                    case hyn107 => (intro z hSw; (try dsimp only at hSw); go_simp; (try with_reducible rfl))
                    try simp only [Act.put, List.setIfInBounds_toArray, List.set_cons_zero, List.set_cons_succ]
                    refine wpAnyH_take (i := 35) (oi := ?on108) (v := ?vn108) ?hin108 ?an108 ?bn108 ?cn108 ?qn108 (Or.inl ⟨?dn108, ?hyn108⟩) hHeld ?restn108
                    case hin108 => (simp only [List.getElem?_toArray, List.getElem?_cons_succ, List.getElem?_cons_zero]; exact rfl)
                    case an108 => kernel_rfl
                    case bn108 => kernel_rfl
                    case cn108 => kernel_rfl
                    case qn108 => exact fun _ _ _ h => h
                    case dn108 => rfl
                    case hyn108 => (intro z hSw; (try dsimp only at hSw); go_simp; (try with_reducible rfl))
                    try simp only [Act.put, List.setIfInBounds_toArray, List.set_cons_zero, List.set_cons_succ]
                    refine wpAnyH_done (by kernel_rfl) ?_ _
                    go_wp2_with fail
                    go_roundw
                    case rel => exact ⟨q + 1, by omega, by go_num, hZd⟩
                    case measure => simp [intOf]; omega
                · obtain rfl : q = n := by omega
                  go_wp2_with fail
                  go_roundw
                  case rel => exact ⟨k + 1, by omega, by go_num, hZ, hks⟩
                  case measure => simp [intOf]; omega
            · have hj1 : ((j : Int) != (k : Int)) = true := by
                rw [bne_iff_ne]
                omega
              have hj2 : (j == k) = false := by rw [beq_eq_false_iff_ne]; exact hjk
              rw [hj2, Bool.not_false, Bool.true_and] at hax
              cases ht2 : (nt A k).testBit j with
              | true =>
                rw [ht2] at hb4 hax
                have hv := Lib.hid (hA.out (hKN.out (by rw [hax]; rfl)))
                clear hax hKS hKN ht hjk hj2 ht2
                generalize nt A j = m at *
                generalize nt A k = m2 at *
                go_wp2_with fail
                refine (hb2.out _).mono ?_
                rintro e w3 ⟨rfl, rfl⟩
                go_wp2_with fail
                refine (hb4.out _).mono ?_
                rintro e w4 ⟨rfl, rfl⟩
                go_wp2_with fail
                go_ret
                exact ⟨by rw [hv.out]; rfl, HG.out.trans hY⟩
              | false =>
                rw [ht2] at hb4 hax
                have hks := Lib.hid (hKS.out (by rw [hax]; rfl))
                clear hax hKS hKN ht hjk hj2 ht2
                go_wp2_with fail
                refine (hb2.out _).mono ?_
                rintro e w3 ⟨rfl, rfl⟩
                go_wp2_with fail
                refine (hb4.out _).mono ?_
                rintro e w4 ⟨rfl, rfl⟩
                go_wp2_with fail
                go_loopw [9] (fun i wz => ∃ q : Nat, q ≤ n ∧ i = .int .i64 q ∧ Grew w1 wz) (fun i _ => n - (intOf i).toNat)
                case atStart => exact ⟨0, Nat.zero_le _, rfl, hY⟩
                case round =>
                  obtain ⟨q, hq, rfl, hZ⟩ := hrel
                  by_cases hlq : q < n
                  · have hcw := fun W (hW : Grew wr W) => HX.out j hlt W (hZ.trans hW)
                    have rz := Grew.refl wr
                    have hZd := hZ.drew
                    have hb3 := Lib.hid (hBx.out q (by omega))
                    cases ht3 : (nt A j).testBit q with
                    | false =>
                      rw [ht3] at hb3
                      clear ht3
                      generalize nt A j = m at *
                      clear hcx hcy
                      go_wp2_with fail
                      refine (hb3.out _).mono ?_
                      rintro e w4 ⟨rfl, rfl⟩
                      go_wp2_with fail
                      go_roundw
                      case rel => exact ⟨q + 1, by omega, by go_num, hZ⟩
                      case measure => simp [intOf]; omega
                    | true =>
                      rw [ht3] at hb3
                      clear ht3
                      generalize nt A j = m at *
                      clear hcx hcy
                      go_wp2_with fail
                      refine (hb3.out _).mono ?_
                      rintro e w4 ⟨rfl, rfl⟩
                      go_wp2_with fail
                      refine wp_region_held_drew (S := fun w' => Grew w1 w') (by kernel_rfl) hZd (fun hHeld => ?_)
                      refine wpAnyH_take (i := 0) (oi := ?on109) (v := ?vn109) ?hin109 ?an109 ?bn109 ?cn109 ?qn109 (Or.inl ⟨?dn109, ?hyn109⟩) hHeld ?restn109
                      case hin109 => (simp only [List.getElem?_toArray, List.getElem?_cons_zero]; exact rfl)
                      case an109 => kernel_rfl
                      case bn109 => kernel_rfl
                      case cn109 => kernel_rfl
                      case qn109 => exact fun _ _ _ h => h
                      case dn109 => rfl
                      case hyn109 => (intro z hSw; (try dsimp only at hSw); go_simp; (try with_reducible rfl))
                      try simp only [Act.put, List.setIfInBounds_toArray, List.set_cons_zero, List.set_cons_succ]
                      refine wpAnyH_take (i := 1) (oi := ?on110) (v := ?vn110) ?hin110 ?an110 ?bn110 ?cn110 ?qn110 (Or.inl ⟨?dn110, ?hyn110⟩) hHeld ?restn110
                      case hin110 => (simp only [List.getElem?_toArray, List.getElem?_cons_succ, List.getElem?_cons_zero]; exact rfl)
                      case an110 => kernel_rfl
                      case bn110 => kernel_rfl
                      case cn110 => kernel_rfl
                      case qn110 => exact fun _ _ _ h => h
                      case dn110 => rfl
                      case hyn110 => (intro z hSw; (try dsimp only at hSw); go_simp; (try with_reducible rfl))
                      try simp only [Act.put, List.setIfInBounds_toArray, List.set_cons_zero, List.set_cons_succ]
                      refine wpAnyH_take (i := 2) (oi := ?on111) (v := ?vn111) ?hin111 ?an111 ?bn111 ?cn111 ?qn111 (Or.inl ⟨?dn111, ?hyn111⟩) hHeld ?restn111
                      case hin111 => (simp only [List.getElem?_toArray, List.getElem?_cons_succ, List.getElem?_cons_zero]; exact rfl)
                      case an111 => kernel_rfl
                      case bn111 => kernel_rfl
                      case cn111 => kernel_rfl
                      case qn111 => exact fun _ _ _ h => h
                      case dn111 => rfl
                      case hyn111 => (intro z hSw; (try dsimp only at hSw); go_simp; (try with_reducible rfl))
                      try simp only [Act.put, List.setIfInBounds_toArray, List.set_cons_zero, List.set_cons_succ]
                      refine wpAnyH_take (i := 3) (oi := ?on112) ?hin112 ?an112 ?bn112 ?cn112 ?qn112 (Or.inr ⟨?dn112, rfl⟩) hHeld ?restn112
                      case hin112 => (simp only [List.getElem?_toArray, List.getElem?_cons_succ, List.getElem?_cons_zero]; exact rfl)
                      case an112 => kernel_rfl
                      case bn112 => kernel_rfl
                      case cn112 => kernel_rfl
                      case qn112 => exact fun _ _ _ h => h
                      case dn112 => rfl
                      try simp only [Act.put, List.setIfInBounds_toArray, List.set_cons_zero, List.set_cons_succ]
                      refine wpAnyH_take (i := 4) (oi := ?on113) ?hin113 ?an113 ?bn113 ?cn113 ?qn113 (Or.inr ⟨?dn113, rfl⟩) hHeld ?restn113
                      case hin113 => (simp only [List.getElem?_toArray, List.getElem?_cons_succ, List.getElem?_cons_zero]; exact rfl)
                      case an113 => kernel_rfl
                      case bn113 => kernel_rfl
                      case cn113 => kernel_rfl
                      case qn113 => exact fun _ _ _ h => h
                      case dn113 => rfl
                      try simp only [Act.put, List.setIfInBounds_toArray, List.set_cons_zero, List.set_cons_succ]
                      refine wpAnyH_take (i := 5) (oi := ?on114) ?hin114 ?an114 ?bn114 ?cn114 ?qn114 (Or.inr ⟨?dn114, rfl⟩) hHeld ?restn114
                      case hin114 => (simp only [List.getElem?_toArray, List.getElem?_cons_succ, List.getElem?_cons_zero]; exact rfl)
                      case an114 => kernel_rfl
                      case bn114 => kernel_rfl
                      case cn114 => kernel_rfl
                      case qn114 => exact fun _ _ _ h => h
                      case dn114 => rfl
                      try simp only [Act.put, List.setIfInBounds_toArray, List.set_cons_zero, List.set_cons_succ]
                      refine wpAnyH_take (i := 6) (oi := ?on115) ?hin115 ?an115 ?bn115 ?cn115 ?qn115 (Or.inr ⟨?dn115, rfl⟩) hHeld ?restn115
                      case hin115 => (simp only [List.getElem?_toArray, List.getElem?_cons_succ, List.getElem?_cons_zero]; exact rfl)
                      case an115 => kernel_rfl
                      case bn115 => kernel_rfl
                      case cn115 => kernel_rfl
                      case qn115 => exact fun _ _ _ h => h
                      case dn115 => rfl
                      try simp only [Act.put, List.setIfInBounds_toArray, List.set_cons_zero, List.set_cons_succ]
                      refine wpAnyH_take (i := 7) (oi := ?on116) ?hin116 ?an116 ?bn116 ?cn116 ?qn116 (Or.inr ⟨?dn116, rfl⟩) hHeld ?restn116
                      case hin116 => (simp only [List.getElem?_toArray, List.getElem?_cons_succ, List.getElem?_cons_zero]; exact rfl)
                      case an116 => kernel_rfl
                      case bn116 => kernel_rfl
                      case cn116 => kernel_rfl
                      case qn116 => exact fun _ _ _ h => h
                      case dn116 => rfl
                      try simp only [Act.put, List.setIfInBounds_toArray, List.set_cons_zero, List.set_cons_succ]
                      refine wpAnyH_take (i := 8) (oi := ?on117) ?hin117 ?an117 ?bn117 ?cn117 ?qn117 (Or.inr ⟨?dn117, rfl⟩) hHeld ?restn117
                      case hin117 => (simp only [List.getElem?_toArray, List.getElem?_cons_succ, List.getElem?_cons_zero]; exact rfl)
                      case an117 => kernel_rfl
                      case bn117 => kernel_rfl
                      case cn117 => kernel_rfl
                      case qn117 => exact fun _ _ _ h => h
                      case dn117 => rfl
                      try simp only [Act.put, List.setIfInBounds_toArray, List.set_cons_zero, List.set_cons_succ]
                      refine wpAnyH_take (i := 9) (oi := ?on118) ?hin118 ?an118 ?bn118 ?cn118 ?qn118 (Or.inr ⟨?dn118, rfl⟩) hHeld ?restn118
                      case hin118 => (simp only [List.getElem?_toArray, List.getElem?_cons_succ, List.getElem?_cons_zero]; exact rfl)
                      case an118 => kernel_rfl
                      case bn118 => kernel_rfl
                      case cn118 => kernel_rfl
                      case qn118 => exact fun _ _ _ h => h
                      case dn118 => rfl
                      try simp only [Act.put, List.setIfInBounds_toArray, List.set_cons_zero, List.set_cons_succ]
                      refine wpAnyH_take (i := 10) (oi := ?on119) ?hin119 ?an119 ?bn119 ?cn119 ?qn119 (Or.inr ⟨?dn119, rfl⟩) hHeld ?restn119
                      case hin119 => (simp only [List.getElem?_toArray, List.getElem?_cons_succ, List.getElem?_cons_zero]; exact rfl)
                      case an119 => kernel_rfl
                      case bn119 => kernel_rfl
                      case cn119 => kernel_rfl
                      case qn119 => exact fun _ _ _ h => h
                      case dn119 => rfl
                      try simp only [Act.put, List.setIfInBounds_toArray, List.set_cons_zero, List.set_cons_succ]
                      refine wpAnyH_take (i := 11) (oi := ?on120) ?hin120 ?an120 ?bn120 ?cn120 ?qn120 (Or.inr ⟨?dn120, rfl⟩) hHeld ?restn120
                      case hin120 => (simp only [List.getElem?_toArray, List.getElem?_cons_succ, List.getElem?_cons_zero]; exact rfl)
                      case an120 => kernel_rfl
                      case bn120 => kernel_rfl
                      case cn120 => kernel_rfl
                      case qn120 => exact fun _ _ _ h => h
                      case dn120 => rfl
                      try simp only [Act.put, List.setIfInBounds_toArray, List.set_cons_zero, List.set_cons_succ]
                      refine wpAnyH_take (i := 12) (oi := ?on121) ?hin121 ?an121 ?bn121 ?cn121 ?qn121 (Or.inr ⟨?dn121, rfl⟩) hHeld ?restn121
                      case hin121 => (simp only [List.getElem?_toArray, List.getElem?_cons_succ, List.getElem?_cons_zero]; exact rfl)
                      case an121 => kernel_rfl
                      case bn121 => kernel_rfl
                      case cn121 => kernel_rfl
                      case qn121 => exact fun _ _ _ h => h
                      case dn121 => rfl
                      try simp only [Act.put, List.setIfInBounds_toArray, List.set_cons_zero, List.set_cons_succ]
                      refine wpAnyH_take (i := 13) (oi := ?on122) (v := ?vn122) ?hin122 ?an122 ?bn122 ?cn122 ?qn122 (Or.inl ⟨?dn122, ?hyn122⟩) hHeld ?restn122
                      case hin122 => (simp only [List.getElem?_toArray, List.getElem?_cons_succ, List.getElem?_cons_zero]; exact rfl)
                      case an122 => kernel_rfl
                      case bn122 => kernel_rfl
                      case cn122 => kernel_rfl
                      case qn122 => exact fun _ _ _ h => h
                      case dn122 => rfl
                      case hyn122 => (intro z hSw; (try dsimp only at hSw); go_simp; (try with_reducible rfl))
                      try simp only [Act.put, List.setIfInBounds_toArray, List.set_cons_zero, List.set_cons_succ]
                      refine wpAnyH_take (i := 14) (oi := ?on123) (v := ?vn123) ?hin123 ?an123 ?bn123 ?cn123 ?qn123 (Or.inl ⟨?dn123, ?hyn123⟩) hHeld ?restn123
                      case hin123 => (simp only [List.getElem?_toArray, List.getElem?_cons_succ, List.getElem?_cons_zero]; exact rfl)
                      case an123 => kernel_rfl
                      case bn123 => kernel_rfl
                      case cn123 => kernel_rfl
                      case qn123 => exact fun _ _ _ h => h
                      case dn123 => rfl
                      case hyn123 => (intro z hSw; (try dsimp only at hSw); go_simp; (try with_reducible rfl))
                      try simp only [Act.put, List.setIfInBounds_toArray, List.set_cons_zero, List.set_cons_succ]
                      refine wpAnyH_take (i := 15) (oi := ?on124) (v := ?vn124) ?hin124 ?an124 ?bn124 ?cn124 ?qn124 (Or.inl ⟨?dn124, ?hyn124⟩) hHeld ?restn124
                      case hin124 => (simp only [List.getElem?_toArray, List.getElem?_cons_succ, List.getElem?_cons_zero]; exact rfl)
                      case an124 => kernel_rfl
                      case bn124 => kernel_rfl
                      case cn124 => kernel_rfl
                      case qn124 => exact fun _ _ _ h => h
                      case dn124 => rfl
                      case hyn124 => (intro z hSw; (try dsimp only at hSw); go_simp; (try with_reducible rfl))
                      try simp only [Act.put, List.setIfInBounds_toArray, List.set_cons_zero, List.set_cons_succ]
                      refine wpAnyH_take (i := 16) (oi := ?on125) (v := ?vn125) ?hin125 ?an125 ?bn125 ?cn125 ?qn125 (Or.inl ⟨?dn125, ?hyn125⟩) hHeld ?restn125
                      case hin125 => (simp only [List.getElem?_toArray, List.getElem?_cons_succ, List.getElem?_cons_zero]; exact rfl)
                      case an125 => kernel_rfl
                      case bn125 => kernel_rfl
                      case cn125 => kernel_rfl
                      case qn125 => exact fun _ _ _ h => h
                      case dn125 => rfl
                      case hyn125 => (intro z hSw; (try dsimp only at hSw); go_simp; (try with_reducible rfl))
                      try simp only [Act.put, List.setIfInBounds_toArray, List.set_cons_zero, List.set_cons_succ]
                      refine wpAnyH_take (i := 17) (oi := ?on126) (v := ?vn126) ?hin126 ?an126 ?bn126 ?cn126 ?qn126 (Or.inl ⟨?dn126, ?hyn126⟩) hHeld ?restn126
                      case hin126 => (simp only [List.getElem?_toArray, List.getElem?_cons_succ, List.getElem?_cons_zero]; exact rfl)
                      case an126 => kernel_rfl
                      case bn126 => kernel_rfl
                      case cn126 => kernel_rfl
                      case qn126 => exact fun _ _ _ h => h
                      case dn126 => rfl
                      case hyn126 => (intro z hSw; (try dsimp only at hSw); go_simp; (try with_reducible rfl))
                      try simp only [Act.put, List.setIfInBounds_toArray, List.set_cons_zero, List.set_cons_succ]
                      refine wpAnyH_take (i := 18) (oi := ?on127) ?hin127 ?an127 ?bn127 ?cn127 ?qn127 (Or.inr ⟨?dn127, rfl⟩) hHeld ?restn127
                      case hin127 => (simp only [List.getElem?_toArray, List.getElem?_cons_succ, List.getElem?_cons_zero]; exact rfl)
                      case an127 => kernel_rfl
                      case bn127 => kernel_rfl
                      case cn127 => kernel_rfl
                      case qn127 => exact fun _ _ _ h => h
                      case dn127 => rfl
                      try simp only [Act.put, List.setIfInBounds_toArray, List.set_cons_zero, List.set_cons_succ]
                      refine wpAnyH_take (i := 19) (oi := ?on128) ?hin128 ?an128 ?bn128 ?cn128 ?qn128 (Or.inr ⟨?dn128, rfl⟩) hHeld ?restn128
                      case hin128 => (simp only [List.getElem?_toArray, List.getElem?_cons_succ, List.getElem?_cons_zero]; exact rfl)
                      case an128 => kernel_rfl
                      case bn128 => kernel_rfl
                      case cn128 => kernel_rfl
                      case qn128 => exact fun _ _ _ h => h
                      case dn128 => rfl
                      try simp only [Act.put, List.setIfInBounds_toArray, List.set_cons_zero, List.set_cons_succ]
                      refine wpAnyH_take (i := 20) (oi := ?on129) ?hin129 ?an129 ?bn129 ?cn129 ?qn129 (Or.inr ⟨?dn129, rfl⟩) hHeld ?restn129
                      case hin129 => (simp only [List.getElem?_toArray, List.getElem?_cons_succ, List.getElem?_cons_zero]; exact rfl)
                      case an129 => kernel_rfl
                      case bn129 => kernel_rfl
                      case cn129 => kernel_rfl
                      case qn129 => exact fun _ _ _ h => h
                      case dn129 => rfl
                      try simp only [Act.put, List.setIfInBounds_toArray, List.set_cons_zero, List.set_cons_succ]
                      refine wpAnyH_take (i := 21) (oi := ?on130) ?hin130 ?an130 ?bn130 ?cn130 ?qn130 (Or.inr ⟨?dn130, rfl⟩) hHeld ?restn130
                      case hin130 => (simp only [List.getElem?_toArray, List.getElem?_cons_succ, List.getElem?_cons_zero]; exact rfl)
                      case an130 => kernel_rfl
                      case bn130 => kernel_rfl
                      case cn130 => kernel_rfl
                      case qn130 => exact fun _ _ _ h => h
                      case dn130 => rfl
                      try simp only [Act.put, List.setIfInBounds_toArray, List.set_cons_zero, List.set_cons_succ]
                      refine wpAnyH_take (i := 22) (oi := ?on131) ?hin131 ?an131 ?bn131 ?cn131 ?qn131 (Or.inr ⟨?dn131, rfl⟩) hHeld ?restn131
                      case hin131 => (simp only [List.getElem?_toArray, List.getElem?_cons_succ, List.getElem?_cons_zero]; exact rfl)
                      case an131 => kernel_rfl
                      case bn131 => kernel_rfl
                      case cn131 => kernel_rfl
                      case qn131 => exact fun _ _ _ h => h
                      case dn131 => rfl
                      try simp only [Act.put, List.setIfInBounds_toArray, List.set_cons_zero, List.set_cons_succ]
                      refine wpAnyH_take (i := 23) (oi := ?on132) ?hin132 ?an132 ?bn132 ?cn132 ?qn132 (Or.inr ⟨?dn132, rfl⟩) hHeld ?restn132
                      case hin132 => (simp only [List.getElem?_toArray, List.getElem?_cons_succ, List.getElem?_cons_zero]; exact rfl)
                      case an132 => kernel_rfl
                      case bn132 => kernel_rfl
                      case cn132 => kernel_rfl
                      case qn132 => exact fun _ _ _ h => h
                      case dn132 => rfl
                      try simp only [Act.put, List.setIfInBounds_toArray, List.set_cons_zero, List.set_cons_succ]
                      refine wpAnyH_take (i := 24) (oi := ?on133) ?hin133 ?an133 ?bn133 ?cn133 ?qn133 (Or.inr ⟨?dn133, rfl⟩) hHeld ?restn133
                      case hin133 => (simp only [List.getElem?_toArray, List.getElem?_cons_succ, List.getElem?_cons_zero]; exact rfl)
                      case an133 => kernel_rfl
                      case bn133 => kernel_rfl
                      case cn133 => kernel_rfl
                      case qn133 => exact fun _ _ _ h => h
                      case dn133 => rfl
                      try simp only [Act.put, List.setIfInBounds_toArray, List.set_cons_zero, List.set_cons_succ]
                      refine wpAnyH_take (i := 25) (oi := ?on134) (v := ?vn134) ?hin134 ?an134 ?bn134 ?cn134 ?qn134 (Or.inl ⟨?dn134, ?hyn134⟩) hHeld ?restn134
                      case hin134 => (simp only [List.getElem?_toArray, List.getElem?_cons_succ, List.getElem?_cons_zero]; exact rfl)
                      case an134 => kernel_rfl
                      case bn134 => kernel_rfl
                      case cn134 => kernel_rfl
                      case qn134 => exact fun _ _ _ h => h
                      case dn134 => rfl
                      case hyn134 => (intro z hSw; (try dsimp only at hSw); go_simp; (try with_reducible rfl))
                      try simp only [Act.put, List.setIfInBounds_toArray, List.set_cons_zero, List.set_cons_succ]
                      refine wpAnyH_take (i := 26) (oi := ?on135) (v := ?vn135) ?hin135 ?an135 ?bn135 ?cn135 ?qn135 (Or.inl ⟨?dn135, ?hyn135⟩) hHeld ?restn135
                      case hin135 => (simp only [List.getElem?_toArray, List.getElem?_cons_succ, List.getElem?_cons_zero]; exact rfl)
                      case an135 => kernel_rfl
                      case bn135 => kernel_rfl
                      case cn135 => kernel_rfl
                      case qn135 => exact fun _ _ _ h => h
                      case dn135 => rfl
                      case hyn135 => (intro z hSw; (try dsimp only at hSw); go_simp; (try with_reducible rfl))
                      try simp only [Act.put, List.setIfInBounds_toArray, List.set_cons_zero, List.set_cons_succ]
                      refine wpAnyH_take (i := 27) (oi := ?on136) ?hin136 ?an136 ?bn136 ?cn136 ?qn136 (Or.inr ⟨?dn136, rfl⟩) hHeld ?restn136
                      case hin136 => (simp only [List.getElem?_toArray, List.getElem?_cons_succ, List.getElem?_cons_zero]; exact rfl)
                      case an136 => kernel_rfl
                      case bn136 => kernel_rfl
                      case cn136 => kernel_rfl
                      case qn136 => exact fun _ _ _ h => h
                      case dn136 => rfl
                      try simp only [Act.put, List.setIfInBounds_toArray, List.set_cons_zero, List.set_cons_succ]
                      refine wpAnyH_take (i := 28) (oi := ?on137) ?hin137 ?an137 ?bn137 ?cn137 ?qn137 (Or.inr ⟨?dn137, rfl⟩) hHeld ?restn137
                      case hin137 => (simp only [List.getElem?_toArray, List.getElem?_cons_succ, List.getElem?_cons_zero]; exact rfl)
                      case an137 => kernel_rfl
                      case bn137 => kernel_rfl
                      case cn137 => kernel_rfl
                      case qn137 => exact fun _ _ _ h => h
                      case dn137 => rfl
                      try simp only [Act.put, List.setIfInBounds_toArray, List.set_cons_zero, List.set_cons_succ]
                      refine wpAnyH_take (i := 29) (oi := ?on138) ?hin138 ?an138 ?bn138 ?cn138 ?qn138 (Or.inr ⟨?dn138, rfl⟩) hHeld ?restn138
                      case hin138 => (simp only [List.getElem?_toArray, List.getElem?_cons_succ, List.getElem?_cons_zero]; exact rfl)
                      case an138 => kernel_rfl
                      case bn138 => kernel_rfl
                      case cn138 => kernel_rfl
                      case qn138 => exact fun _ _ _ h => h
                      case dn138 => rfl
                      try simp only [Act.put, List.setIfInBounds_toArray, List.set_cons_zero, List.set_cons_succ]
                      refine wpAnyH_take (i := 30) (oi := ?on139) ?hin139 ?an139 ?bn139 ?cn139 ?qn139 (Or.inr ⟨?dn139, rfl⟩) hHeld ?restn139
                      case hin139 => (simp only [List.getElem?_toArray, List.getElem?_cons_succ, List.getElem?_cons_zero]; exact rfl)
                      case an139 => kernel_rfl
                      case bn139 => kernel_rfl
                      case cn139 => kernel_rfl
                      case qn139 => exact fun _ _ _ h => h
                      case dn139 => rfl
                      try simp only [Act.put, List.setIfInBounds_toArray, List.set_cons_zero, List.set_cons_succ]
                      refine wpAnyH_take (i := 31) (oi := ?on140) ?hin140 ?an140 ?bn140 ?cn140 ?qn140 (Or.inr ⟨?dn140, rfl⟩) hHeld ?restn140
                      case hin140 => (simp only [List.getElem?_toArray, List.getElem?_cons_succ, List.getElem?_cons_zero]; exact rfl)
                      case an140 => kernel_rfl
                      case bn140 => kernel_rfl
                      case cn140 => kernel_rfl
                      case qn140 => exact fun _ _ _ h => h
                      case dn140 => rfl
                      try simp only [Act.put, List.setIfInBounds_toArray, List.set_cons_zero, List.set_cons_succ]
                      refine wpAnyH_take (i := 32) (oi := ?on141) ?hin141 ?an141 ?bn141 ?cn141 ?qn141 (Or.inr ⟨?dn141, rfl⟩) hHeld ?restn141
                      case hin141 => (simp only [List.getElem?_toArray, List.getElem?_cons_succ, List.getElem?_cons_zero]; exact rfl)
                      case an141 => kernel_rfl
                      case bn141 => kernel_rfl
                      case cn141 => kernel_rfl
                      case qn141 => exact fun _ _ _ h => h
                      case dn141 => rfl
                      try simp only [Act.put, List.setIfInBounds_toArray, List.set_cons_zero, List.set_cons_succ]
                      refine wpAnyH_take (i := 33) (oi := ?on142) ?hin142 ?an142 ?bn142 ?cn142 ?qn142 (Or.inr ⟨?dn142, rfl⟩) hHeld ?restn142
                      case hin142 => (simp only [List.getElem?_toArray, List.getElem?_cons_succ, List.getElem?_cons_zero]; exact rfl)
                      case an142 => kernel_rfl
                      case bn142 => kernel_rfl
                      case cn142 => kernel_rfl
                      case qn142 => exact fun _ _ _ h => h
                      case dn142 => rfl
                      try simp only [Act.put, List.setIfInBounds_toArray, List.set_cons_zero, List.set_cons_succ]
                      refine wpAnyH_take (i := 34) (oi := ?on143) (v := ?vn143) ?hin143 ?an143 ?bn143 ?cn143 ?qn143 (Or.inl ⟨?dn143, ?hyn143⟩) hHeld ?restn143
                      case hin143 => (simp only [List.getElem?_toArray, List.getElem?_cons_succ, List.getElem?_cons_zero]; exact rfl)
                      case an143 => kernel_rfl
                      case bn143 => kernel_rfl
                      case cn143 => kernel_rfl
                      case qn143 => exact fun _ _ _ h => h
                      case dn143 => rfl
                      case hyn143 => (intro z hSw; (try dsimp only at hSw); go_simp; (try with_reducible rfl))
                      try simp only [Act.put, List.setIfInBounds_toArray, List.set_cons_zero, List.set_cons_succ]
                      refine wpAnyH_take (i := 35) (oi := ?on144) (v := ?vn144) ?hin144 ?an144 ?bn144 ?cn144 ?qn144 (Or.inl ⟨?dn144, ?hyn144⟩) hHeld ?restn144
                      case hin144 => (simp only [List.getElem?_toArray, List.getElem?_cons_succ, List.getElem?_cons_zero]; exact rfl)
                      case an144 => kernel_rfl
                      case bn144 => kernel_rfl
                      case cn144 => kernel_rfl
                      case qn144 => exact fun _ _ _ h => h
                      case dn144 => rfl
                      case hyn144 => (intro z hSw; (try dsimp only at hSw); go_simp; (try with_reducible rfl))
                      try simp only [Act.put, List.setIfInBounds_toArray, List.set_cons_zero, List.set_cons_succ]
                      refine wpAnyH_done (by kernel_rfl) ?_ _
                      go_wp2_with fail
                      go_roundw
                      case rel => exact ⟨q + 1, by omega, by go_num, hZd⟩
                      case measure => simp [intOf]; omega
                  · obtain rfl : q = n := by omega
                    go_wp2_with fail
                    go_roundw
                    case rel => exact ⟨k + 1, by omega, by go_num, hZ, hks⟩
                    case measure => simp [intOf]; omega
        · obtain rfl : k = n := by omega
          have hs := Lib.hid (hS.out (allB_of HK.out))
          go_wp2_with fail
          go_roundw
          case rel => exact ⟨j + 1, by omega, by go_num, hY, hs⟩
          case measure => simp [intOf]; omega
    · obtain rfl : j = n := by omega
      have hv := Lib.hid (HZ.out HJ.out)
      go_wp2_with fail
      go_ret
      exact ⟨by rw [hv.out]; rfl, HG.out.trans hB⟩
end Go.Proofs.Ytcnnfbblildbeaa

/- Posets and valuations of the reference: l16Is, l17Is, IsValuation. -/
namespace Go.Proofs.Ytcnnfbblildbeaa
open Go.RowKit
set_option maxHeartbeats 2000000 in
theorem l16Is_c (sz : Int) (v : Value) (L : List Int) (w : World) (h : Ints w v L) :
    Calls Try.prog 23 #[.agg #[.int .i64 sz, v]] w fun e w' => e = .returned (.bool (posB sz L)) ∧ Grew w w' := by
  have HI := Lib.hid (l01In_c sz 0 8)
  have hal := (Grew.refl w).alloc (.cells #[.int .i64 sz, v] 26)
  have HG := Lib.hid hal
  have HM := Lib.hid (fun W hW hn => l01Masks_c L.length v L W (h.grew hW) hn)
  have hmx : L.length ≤ 9223372036854775807 := h.2.1
  have hn30 : ¬ (0 ≤ sz ∧ sz ≤ 8) ∨ (L.length : Int) ≠ sz ∨ L.length ≤ 30 := by omega
  have y0 : ∀ W, Grew (w.alloc (.cells #[.int .i64 sz, v] 26)) W → W.cell? ⟨w.heap.size, 0, none⟩ = some (.int .i64 sz) := fun W hW => (hW.cell (p := ⟨w.heap.size, 0, none⟩) (by simp)).trans (by simp)
  have y1 : ∀ W, Grew (w.alloc (.cells #[.int .i64 sz, v] 26)) W → W.cell? ⟨w.heap.size, 1, none⟩ = some v := fun W hW => (hW.cell (p := ⟨w.heap.size, 1, none⟩) (by simp)).trans (by simp)
  obtain ⟨w1, hw1⟩ : ∃ w1, w1 = w.alloc (.cells #[.int .i64 sz, v] 26) := ⟨_, rfl⟩
  rw [← hw1] at y0 y1 HG
  clear hal
  have r1 := Grew.refl w1
  have r1d := r1.drew
  unfold posB
  by_cases h1 : 0 ≤ sz ∧ sz ≤ 8
  · rw [decide_eq_true h1] at HI ⊢
    rw [Bool.true_and]
    by_cases h2 : (L.length : Int) = sz
    · rw [decide_eq_true h2, Bool.true_and]
      obtain rfl := h2
      have hn : L.length ≤ 30 := by omega
      have HM := Lib.hid (fun W hW => HM.out W hW hn)
      cases h3 : mks L.length L with
      | true =>
        rw [Bool.true_and]
        have hA := pos_rl hn h3
        have hz := (nats_ok h3).1
        have hr := fun W (hW : Grew w W) => (show Ints W v (zs (nats L)) by rw [hz]; exact h.grew hW)
        have H0 := Lib.hid (fun W hW => l05Flag0_c v (nats L) W (hr W hW) hA)
        have H2 := Lib.hid (fun W hW => l05Flag2_c v (nats L) W (hr W hW) hA)
        have H8 := Lib.hid (fun W hW => l05Flag8_c v (nats L) W (hr W hW) hA)
        rw [nats_len] at H0 H2 H8
        rw [h3] at HM
        obtain ⟨A, c, rfl⟩ := ints_slice h
        clear h hA hz hr h3 hn hn30 h1
        generalize reflB (nats L) = r0 at *
        generalize transB (nats L) = r2 at *
        generalize antiB (nats L) = r8 at *
        generalize L.length = n at *
        have hq : ((n : Int) != (n : Int)) = false := by simp
        have hq2 : ((n : Int) == (n : Int)) = true := by simp
        go_enter Try.func23, Try.ntmps23
        go_wp2_with fail
        simp only [← hw1]
        refine (HI.out _).mono ?_
        rintro e w2 ⟨rfl, h2⟩
        clear hw1
        go_wp2_with fail
        refine (HM.out _ (HG.out.trans h2)).mono ?_
        rintro e w4 ⟨rfl, hgm⟩
        have h4 := h2.trans hgm
        have hw4 := HG.out.trans h4
        have z0 := fun W (hW : Grew w4 W) => y0 W (h4.trans hW)
        have z1 := fun W (hW : Grew w4 W) => y1 W (h4.trans hW)
        have r4 := Grew.refl w4
        have h6 := hw4.alloc (.cells #[.int .i64 (n : Int), .slice A n c] 51)
        have x0 : ∀ W, Grew (w4.alloc (.cells #[.int .i64 (n : Int), .slice A n c] 51)) W → W.cell? ⟨w4.heap.size, 0, none⟩ = some (.int .i64 (n : Int)) := fun W hW => (hW.cell (p := ⟨w4.heap.size, 0, none⟩) (by simp)).trans (by simp)
        have x1 : ∀ W, Grew (w4.alloc (.cells #[.int .i64 (n : Int), .slice A n c] 51)) W → W.cell? ⟨w4.heap.size, 1, none⟩ = some (.slice A n c) := fun W hW => (hW.cell (p := ⟨w4.heap.size, 1, none⟩) (by simp)).trans (by simp)
        have r6 := Grew.refl (w4.alloc (.cells #[.int .i64 (n : Int), .slice A n c] 51))
        have a6 := (Grew.refl w4).alloc (.cells #[.int .i64 (n : Int), .slice A n c] 51)
        cases r0 with
        | false =>
          go_wp2_with fail
          refine (H0.out _ h6).mono ?_
          rintro e w7 ⟨rfl, hg7⟩
          have h7 := h6.trans hg7
          go_wp2_with fail
          go_ret
          exact ⟨rfl, h7⟩
        | true =>
          go_wp2_with fail
          refine (H0.out _ h6).mono ?_
          rintro e w7 ⟨rfl, hg7⟩
          have h7 := h6.trans hg7
          cases r2 with
          | false =>
            go_wp2_with fail
            refine (H2.out _ h7).mono ?_
            rintro e w8 ⟨rfl, hg8⟩
            have h8 := h7.trans hg8
            go_wp2_with fail
            go_ret
            exact ⟨rfl, h8⟩
          | true =>
            go_wp2_with fail
            refine (H2.out _ h7).mono ?_
            rintro e w8 ⟨rfl, hg8⟩
            have h8 := h7.trans hg8
            have hg78 := hg7.trans hg8
            go_wp2_with fail
            refine (H8.out _ h8).mono ?_
            rintro e w9 ⟨rfl, hg9⟩
            have h9 := h8.trans hg9
            go_wp2_with fail
            go_ret
            exact ⟨rfl, h9⟩
      | false =>
        rw [h3] at HM
        rw [Bool.false_and]
        obtain ⟨A, c, rfl⟩ := ints_slice h
        clear h h3 hn hn30 h1
        generalize L.length = n at *
        have hq : ((n : Int) != (n : Int)) = false := by simp
        have hq2 : ((n : Int) == (n : Int)) = true := by simp
        go_enter Try.func23, Try.ntmps23
        go_wp2_with fail
        simp only [← hw1]
        refine (HI.out _).mono ?_
        rintro e w2 ⟨rfl, h2⟩
        clear hw1
        go_wp2_with fail
        refine (HM.out _ (HG.out.trans h2)).mono ?_
        rintro e w4 ⟨rfl, hgm⟩
        have h4 := h2.trans hgm
        go_wp2_with fail
        go_ret
        exact ⟨rfl, HG.out.trans h4⟩
    · rw [decide_eq_false h2, Bool.false_and]
      have hq : ((L.length : Int) == sz) = false := by simpa using h2
      have hq2 : ((L.length : Int) != sz) = true := by simpa using h2
      obtain ⟨A, c, rfl⟩ := ints_slice h
      clear h h2 hn30 h1 HM
      generalize L.length = n at *
      go_enter Try.func23, Try.ntmps23
      go_wp2_with fail
      simp only [← hw1]
      refine (HI.out _).mono ?_
      rintro e w2 ⟨rfl, h2⟩
      clear hw1
      go_wp2_with fail
      go_ret
      exact ⟨rfl, HG.out.trans h2⟩
  · rw [decide_eq_false h1] at HI ⊢
    rw [Bool.false_and]
    obtain ⟨A, c, rfl⟩ := ints_slice h
    clear h hn30 h1 HM
    generalize L.length = n at *
    go_enter Try.func23, Try.ntmps23
    go_wp2_with fail
    simp only [← hw1]
    refine (HI.out _).mono ?_
    rintro e w2 ⟨rfl, h2⟩
    clear hw1
    go_wp2_with fail
    go_ret
    exact ⟨rfl, HG.out.trans h2⟩
set_option maxHeartbeats 2000000 in
theorem all_up {A : List Nat} {V : List Int} (h : V.all (upB A) = true) : mks A.length V = true := by
  unfold mks
  rw [List.all_eq_true] at h ⊢
  intro x hx
  have := h x hx
  unfold upB at this
  rw [Bool.and_eq_true] at this
  exact this.1
theorem l17Is_c (v u : Value) (A : List Nat) (V : List Int) (w : World) (h : Ints w v (zs A)) (hu : Ints w u V) (hA : Rl A) :
    Calls Try.prog 24 #[.agg #[.int .i64 (A.length : Int), v], u] w fun e w' => e = .returned (.bool (decide (V.length = 6) && V.all (upB A))) ∧ Grew w w' := by
  have HM := Lib.hid (fun W (hW : Grew w W) => l01Masks_c A.length u V W (hu.grew hW) hA.1)
  have hal := (Grew.refl w).alloc (.cells #[.int .i64 (A.length : Int), v] 26)
  have y0 : ∀ W, Grew (w.alloc (.cells #[.int .i64 (A.length : Int), v] 26)) W → W.cell? ⟨w.heap.size, 0, none⟩ = some (.int .i64 (A.length : Int)) := fun W hW => (hW.cell (p := ⟨w.heap.size, 0, none⟩) (by simp)).trans (by simp)
  have y1 : ∀ W, Grew (w.alloc (.cells #[.int .i64 (A.length : Int), v] 26)) W → W.cell? ⟨w.heap.size, 1, none⟩ = some v := fun W hW => (hW.cell (p := ⟨w.heap.size, 1, none⟩) (by simp)).trans (by simp)
  obtain ⟨w1, hw1⟩ : ∃ w1, w1 = w.alloc (.cells #[.int .i64 (A.length : Int), v] 26) := ⟨_, rfl⟩
  rw [← hw1] at y0 y1 hal
  have HG := Lib.hid hal
  have r1 := Grew.refl w1
  have hmx : V.length ≤ 9223372036854775807 := hu.2.1
  by_cases h6 : V.length = 6
  · rw [decide_eq_true h6, Bool.true_and]
    have hq : ((V.length : Int) != 6) = false := by
      rw [h6]; rfl
    cases hm : mks A.length V with
    | false =>
      have hv : V.all (upB A) = false := by
        cases hx : V.all (upB A) with
        | false => rfl
        | true => rw [all_up hx] at hm; cases hm
      rw [hv]
      rw [hm] at HM
      obtain ⟨A', c, rfl⟩ := ints_sliceN h
      obtain ⟨A2, c2, rfl⟩ := ints_slice hu
      rw [h6] at *
      clear h hu hA hal hv hm h6
      generalize A.length = n at *
      go_enter Try.func24, Try.ntmps24
      go_wp2_with fail
      simp only [← hw1]
      refine (HM.out _ HG.out).mono ?_
      rintro e w2 ⟨rfl, hg2⟩
      clear hw1
      go_wp2_with fail
      go_ret
      exact ⟨rfl, HG.out.trans hg2⟩
    | true =>
      obtain ⟨hz, hlt⟩ := nats_ok hm
      obtain ⟨R, hR⟩ : ∃ R, R = V.all (upB A) := ⟨_, rfl⟩
      rw [← hR]
      have hR2 : R = !V.any fun x => !upB A x := hR.trans (not_any (upB A) V).symm
      have HAN := Lib.hid (fun k hk h => hR2.trans (congrArg (!·) (@anyI_at (fun x => !upB A x) V k hk h)))
      have HZN := Lib.hid (fun h => hR2.trans (congrArg (!·) (@noneI_any (fun x => !upB A x) V h)))
      have HU := Lib.hid (fun j (hj : j < V.length) => (show upB A (it V j) = decide (img A (nt (nats V) j) = nt (nats V) j) by
        have e : it V j = ((nt (nats V) j : Nat) : Int) := by
          rw [← zs_it (by rw [nats_len]; exact hj), hz]
        have hmk : mk A.length (it V j) = true := by
          unfold mks at hm
          rw [List.all_eq_true] at hm
          exact hm _ (it_memI hj)
        unfold upB
        rw [hmk, Bool.true_and, e]
        rfl))
      have hu2 : Ints w u (zs (nats V)) := by rw [hz]; exact hu
      have hl2 := nats_len V
      have HI := Lib.hid (fun j (hj : j < V.length) W (hW : Grew w W) => l01Image_q v A (nt (nats V) j) W (h.grew hW) hA.sm hA.1 (hlt _ (nt_mem (by rw [nats_len]; exact hj))))
      rw [hm] at HM
      obtain ⟨A', c, rfl⟩ := ints_sliceN h
      obtain ⟨A2, c2, rfl⟩ := ints_sliceN hu2
      have HC := Lib.hid (fun h0 => cellsN hu2 h0)
      rw [hl2] at HC HM ⊢
      clear h hu hu2 hA hal hm hR hR2 hz hlt hl2
      generalize nats V = M at *
      generalize A.length = n at *
      rw [h6] at *
      clear h6
      go_enter Try.func24, Try.ntmps24
      go_wp2_with fail
      simp only [← hw1]
      refine (HM.out _ HG.out).mono ?_
      rintro e w2 ⟨rfl, hg2⟩
      clear hw1
      go_wp2_with fail
      go_loopw [5] (fun i wr => ∃ j : Nat, j ≤ 6 ∧ i = .int .i64 j ∧ Grew w1 wr ∧ Hid (NoneI (fun x => !upB A x) V j)) (fun i _ => 6 - (intOf i).toNat)
      case atStart => exact ⟨0, Nat.zero_le _, rfl, hg2, NoneI.zero _ _⟩
      case round =>
        obtain ⟨j, hj, rfl, hB, HJ⟩ := hrel
        by_cases hlt : j < 6
        · obtain ⟨b, o, rfl, hcell⟩ := HC.out (by omega)
          have hgw := HG.out
          have hcx := fun W (hW : Grew wr W) => hcell j hlt W ((hgw.trans hB).trans hW)
          have hi := Lib.hid (HI.out j hlt)
          have hgwr := Lib.hid (hgw.trans hB)
          have rx := Grew.refl wr
          have rxd := rx.drew
          have hup := HU.out j hlt
          have hA1 := Lib.hid (HAN.out j hlt)
          have hS := Lib.hid (fun h => HJ.out.succ (k := j) h)
          clear hcell
          generalize nt M j = m at *
          generalize img A m = mi at *
          generalize it V j = x at *
          by_cases hd : mi = m
          · have hs := Lib.hid (hS.out (by rw [hup, decide_eq_true hd]; rfl))
            have hq2 : ((mi : Int) != (m : Int)) = false := by rw [hd]; simp
            clear hA1 hS hd hup
            go_wp2_with fail
            go_quiet (first | (go_at_call 39; exact Calls.quiet_of_same (hi.out _ (by first | exact hgwr.out | exact hgwr.out.drew | exact hgwr.out.drewN _))))
            go_wp2_with fail
            go_roundw
            case rel => exact ⟨j + 1, by omega, by go_num, hB.drewN _, hs⟩
            case measure => simp [intOf]; omega
          · have hv := Lib.hid (hA1.out (by rw [hup, decide_eq_false hd]; rfl))
            have hq2 : ((mi : Int) != (m : Int)) = true := by
              rw [bne_iff_ne]
              omega
            clear hA1 hS hd hup
            go_wp2_with fail
            go_quiet (first | (go_at_call 39; exact Calls.quiet_of_same (hi.out _ (by first | exact hgwr.out | exact hgwr.out.drew | exact hgwr.out.drewN _))))
            go_wp2_with fail
            go_ret
            exact ⟨by rw [hv.out]; rfl, HG.out.trans (hB.drewN _)⟩
        · obtain rfl : j = 6 := by omega
          have hv := Lib.hid (HZN.out HJ.out)
          go_wp2_with fail
          go_ret
          exact ⟨by rw [hv.out]; rfl, HG.out.trans hB⟩
  · rw [decide_eq_false h6, Bool.false_and]
    have hq : ((V.length : Int) != 6) = true := by
      rw [bne_iff_ne]
      omega
    obtain ⟨A', c, rfl⟩ := ints_sliceN h
    obtain ⟨A2, c2, rfl⟩ := ints_slice hu
    clear h hu hA hal h6 HM
    generalize A.length = n at *
    generalize V.length = n2 at *
    go_enter Try.func24, Try.ntmps24
    go_wp2_with fail
    simp only [← hw1]
    go_ret
    exact ⟨rfl, HG.out⟩
theorem isVal_c (sz : Int) (v u : Value) (L V : List Int) (w : World) (h : Ints w v L) (hu : Ints w u V) :
    Calls Try.prog 16 #[.agg #[.int .i64 sz, v], u] w fun e w' => e = .returned (.bool (valB sz L V)) ∧ Grew w w' := by
  have hal := (Grew.refl w).alloc (.cells #[.int .i64 sz, v] 26)
  have HP := Lib.hid (fun W hW => l16Is_c sz v L W (h.grew hW))
  have y0 : ∀ W, Grew (w.alloc (.cells #[.int .i64 sz, v] 26)) W → W.cell? ⟨w.heap.size, 0, none⟩ = some (.int .i64 sz) := fun W hW => (hW.cell (p := ⟨w.heap.size, 0, none⟩) (by simp)).trans (by simp)
  have y1 : ∀ W, Grew (w.alloc (.cells #[.int .i64 sz, v] 26)) W → W.cell? ⟨w.heap.size, 1, none⟩ = some v := fun W hW => (hW.cell (p := ⟨w.heap.size, 1, none⟩) (by simp)).trans (by simp)
  have HG := Lib.hid hal
  unfold valB
  cases hp : posB sz L with
  | false =>
    rw [hp] at HP
    rw [Bool.false_and]
    obtain ⟨A, c, rfl⟩ := ints_slice h
    obtain ⟨A2, c2, rfl⟩ := ints_slice hu
    clear h hu hal hp
    generalize L.length = n at *
    generalize V.length = n2 at *
    go_enter Try.func16, Try.ntmps16
    go_wp2_with fail
    refine (HP.out _ HG.out).mono ?_
    rintro e w1 ⟨rfl, hg1⟩
    go_wp2_with fail
    go_ret
    exact ⟨rfl, HG.out.trans hg1⟩
  | true =>
    rw [hp] at HP
    rw [Bool.true_and]
    obtain ⟨rfl, hl, hA, hz, _⟩ := posB_ok hp
    have hr := fun W (hW : Grew w W) => (show Ints W v (zs (nats L)) by rw [hz]; exact h.grew hW)
    have KV := Lib.hid (fun W (hW : Grew w W) => l17Is_c v u (nats L) V W (hr W hW) (hu.grew hW) hA)
    rw [nats_len] at KV
    obtain ⟨A, c, rfl⟩ := ints_slice h
    obtain ⟨A2, c2, rfl⟩ := ints_slice hu
    clear h hu hal hp hr hz hA
    generalize (decide (V.length = 6) && V.all (upB (nats L))) = r at *
    generalize L.length = n at *
    generalize V.length = n2 at *
    go_enter Try.func16, Try.ntmps16
    go_wp2_with fail
    refine (HP.out _ HG.out).mono ?_
    rintro e w1 ⟨rfl, hg1⟩
    go_wp2_with fail
    refine (KV.out _ (HG.out.trans hg1)).mono ?_
    rintro e w2 ⟨rfl, hg2⟩
    go_wp2_with fail
    go_ret
    exact ⟨rfl, (HG.out.trans hg1).trans hg2⟩
end Go.Proofs.Ytcnnfbblildbeaa

/- PartOfValuation of the reference at a good poset, valuation and mask. -/
namespace Go.Proofs.Ytcnnfbblildbeaa
open Go.RowKit

set_option maxHeartbeats 1000000 in
theorem specPart_c (sz : Int) (v u : Value) (L V : List Int) (m : Nat) (w : World) (h : Ints w v L) (hu : Ints w u V) (hv : valB sz L V = true) (hm : m < 2 ^ L.length) :
    Calls Try.prog 18 #[.agg #[.int .i64 sz, v], u, .int .i64 (m : Int)] w (GivesCD w (zs (prt (nats L) m), zs (sqa (nats V) m), 0)) := by
  have hinfo := info2P
  obtain ⟨hp1, hV6, hup⟩ := val_ok hv
  obtain ⟨rfl, hl8, hA, hzL, hmk, _⟩ := posB_ok hp1
  have hmV := all_mks hup
  rw [nats_len] at hmV
  have hV := nats_ok hmV
  have hSm : Sm (nats V) := fun x hx => Nat.lt_of_lt_of_le (hV.2 x hx) (pow30' (by omega))
  have hm' : m < 1073741824 := Nat.lt_of_lt_of_le hm (pow30' (by omega))
  have HVal := Lib.hid (fun W hW => isVal_c (L.length : Int) v u L V W (h.grew hW) (hu.grew hW))
  rw [hv] at HVal
  have HF := Lib.hid (l01Full_q L.length (by omega))
  have HI := Lib.hid (l01In_q (m : Int) 0 (((2 ^ L.length : Nat) : Int) - 1))
  rw [decide_eq_true (show (0 : Int) ≤ (m : Int) ∧ (m : Int) ≤ ((2 ^ L.length : Nat) : Int) - 1 by omega)] at HI
  have HM := Lib.hid (l01List_c m hm')
  have HS := Lib.hid (fun i (hi : i < (nats V).length) v2 W hv => l05Sqz_c v2 m (nt (nats V) i) W hv hm' (hSm.at_ hi))
  have HX := Lib.hid (fun k (hk : k < (nats V).length) => (congrArg zs (sqaK_next (m := m) hk)).trans (zs_append _ _))
  have HL := Lib.hid (fun k => Nat.le_trans (Nat.le_of_eq (zs_len (sqaK (nats V) m k))) (sqaK_len (nats V) m k))
  have HR := Lib.hid (sqaK_all (nats V) m)
  have hr := fun W (hW : Grew w W) => (show Ints W v (zs (nats L)) by rw [hzL]; exact h.grew hW)
  have HP := Lib.hid (fun W hW => l16Part_c (L.length : Int) v (nats L) m W (hr W hW) hA (by rw [nats_len]; exact hm))
  have hru : Ints w u (zs (nats V)) := by rw [hV.1]; exact hu
  have hVl : (nats V).length = 6 := by rw [nats_len]; exact hV6
  have y1 : ∀ W, Grew ((w.alloc (.cells #[.int .i64 (L.length : Int), v] 26)).alloc (.cells #[.int .i64 0, .slice none 0 0] 26)) W → W.heap[w.heap.size]? = some (.cells #[.int .i64 (L.length : Int), v] 26 (0, 0)) :=
    fun W hW => ((((Grew.refl (w.alloc (.cells #[.int .i64 (L.length : Int), v] 26))).alloc (.cells #[.int .i64 0, .slice none 0 0] 26)).trans hW).block (by simp)).trans (blk_new w _)
  have y2 : ∀ W, Grew ((w.alloc (.cells #[.int .i64 (L.length : Int), v] 26)).alloc (.cells #[.int .i64 0, .slice none 0 0] 26)) W → W.heap[w.heap.size + 1]? = some (.cells #[.int .i64 0, .slice none 0 0] 26 (0, 0)) :=
    fun W hW => (hW.block (by simp)).trans (by
      have h := blk_new (w.alloc (.cells #[.int .i64 (L.length : Int), v] 26)) (.cells #[.int .i64 0, .slice none 0 0] 26)
      have e : (w.alloc (.cells #[.int .i64 (L.length : Int), v] 26)).heap.size = w.heap.size + 1 := by simp
      rwa [e] at h)
  have hsz0 : ((w.alloc (.cells #[.int .i64 (L.length : Int), v] 26)).alloc (.cells #[.int .i64 0, .slice none 0 0] 26)).heap.size = w.heap.size + 2 := by simp
  have hal0 := ((Grew.refl w).alloc (.cells #[.int .i64 (L.length : Int), v] 26)).alloc (.cells #[.int .i64 0, .slice none 0 0] 26)
  obtain ⟨w0, hw0⟩ : ∃ w0, w0 = (w.alloc (.cells #[.int .i64 (L.length : Int), v] 26)).alloc (.cells #[.int .i64 0, .slice none 0 0] 26) := ⟨_, rfl⟩
  rw [← hw0] at hal0 hsz0 y1 y2
  have Y1 := Lib.hid y1
  have Y2 := Lib.hid y2
  have HSZ := Lib.hid hsz0
  have HAL := Lib.hid hal0
  clear y1 y2 hsz0 hal0
  rw [← HR.out]
  obtain ⟨A, c, rfl⟩ := ints_slice h
  obtain ⟨A2, c2, rfl⟩ := ints_sliceN hru
  have HC := Lib.hid (fun h0 => cellsN hru h0)
  rw [hVl] at HS HX HC HVal ⊢
  clear h hu hv hp1 hV6 hup hA hzL hmk hmV hV hSm hm hm' hr hru hVl HR
  generalize zs (prt (nats L) m) = R1 at *
  generalize nats V = V' at *
  generalize hpw : ((2 ^ L.length : Nat) : Int) - 1 = pw at *
  clear hpw
  generalize L.length = n at *
  go_enter Try.func18, Try.ntmps18
  go_wp2_with fail
  simp only [← hw0]
  clear hw0
  refine (HVal.out _ HAL.out).mono ?_
  rintro e w1 ⟨rfl, hg1⟩
  have d0 : w1.cell? ⟨w.heap.size, 0, none⟩ = some (.int .i64 (n : Int)) := by rw [blk_cell (Y1.out _ hg1)]; rfl
  go_wp2_with fail
  refine (HF.out _).mono ?_
  rintro e w1' ⟨rfl, rfl⟩
  go_wp2_with fail
  refine (HI.out _).mono ?_
  rintro e w1'' ⟨rfl, rfl⟩
  go_wp2_with fail
  refine (HM.out _).mono ?_
  rintro e w2 ⟨v2, rfl, hO2, hg2⟩
  obtain ⟨A3, c3, rfl⟩ := ints_slice hO2.ints
  have HO2 := Lib.hid hO2.ints
  have hg12 := hg1.trans hg2
  clear hO2 d0
  generalize (zs (mbs m)).length = nl at *
  go_wp2_with fail
  go_loopw [10, 11] (fun s i wr => ∃ j : Nat, j ≤ 6 ∧ i = .int .i64 j ∧ Grew w2 wr ∧ OwnI wr w2.heap.size s (zs (sqaK V' m j))) (fun _ i _ => 6 - (intOf i).toNat)
  case atStart => exact ⟨0, by omega, rfl, (Grew.refl _).alloc _, (own_emptyI w2)⟩
  case round =>
    obtain ⟨j, hj, rfl, hB, hO⟩ := hrel
    by_cases hlt : j < 6
    · obtain ⟨b, o, rfl, hcell⟩ := HC.out (by omega)
      have k1 := hcell j hlt _ ((HAL.out.trans hg12).trans hB)
      have hs := Lib.hid (fun v2 W hv => HS.out j hlt v2 W hv)
      have hx := Lib.hid (HX.out j hlt)
      have hl := HL.out j
      have hL1 := Lib.hid (HO2.out.grew hB)
      clear hcell
      generalize nt V' j = y at *
      generalize sqz y m = q at *
      go_wp2_with fail
      refine (hs.out _ _ hL1.out).mono ?_
      rintro e w4 ⟨rfl, hg4⟩
      have hB4 := hB.trans hg4
      go_wp2_with (first | (at_builtin; refine wpList_appI (w0 := w2) _ _ rfl rfl _ (zs (sqaK V' m j)) rfl ((hO.grew hg4).grew (Grew.alloc (Grew.refl _) _)) (hB4.alloc _) _ (q : Int) rfl (rd_litI _ _ _) (by omega) ?_; intro v5 w5 hO5 hg5 _))
      go_roundw
      case rel => exact ⟨j + 1, by omega, by go_num, hg5, by rw [hx.out]; exact hO5⟩
      case measure => simp [intOf]; omega
    · obtain rfl : j = 6 := by omega
      have hb1 : Grew w0 wr := hg12.trans hB
      have e0 : wr.cell? ⟨w.heap.size, 0, none⟩ = some (.int .i64 (n : Int)) := by rw [blk_cell (Y1.out _ hb1)]; rfl
      have e1 : wr.cell? ⟨w.heap.size, 1, none⟩ = some (.slice A n c) := by rw [blk_cell (Y1.out _ hb1)]; rfl
      have hP := Lib.hid (HP.out wr (HAL.out.trans hb1))
      have HO := Lib.hid hO
      clear hO HC HS HX
      generalize zs (sqaK V' m 6) = R2 at *
      go_wp2_with fail
      refine hP.out.mono ?_
      rintro e w3 ⟨v3, rfl, hO3, hg3⟩
      obtain ⟨A4, c4, rfl⟩ := ints_slice hO3.ints
      have hb2 := Y2.out _ (hb1.trans hg3)
      have c0 : w3.cell? ⟨w.heap.size + 1, 0, none⟩ = some (.int .i64 0) := by rw [blk_cell hb2]; rfl
      have c1 : w3.cell? ⟨w.heap.size + 1, 1, none⟩ = some (.slice none 0 0) := by rw [blk_cell hb2]; rfl
      have f0 := blk_frozen hb2 0
      have f1 := blk_frozen hb2 1
      have HB2 := Lib.hid hb2
      have HO3 := Lib.hid hO3
      clear hb2 hO3
      go_wp2_with fail
      (try simp only [Exit.inBlock, Exit.then])
      refine bodyPost_ret (results_cell_tmp2_row rfl _ _ (w.heap.size + 1) _ _ _ _ rfl (blk_set (blk_set HB2.out 0 _) 1 _) Try.underlying26 rfl hinfo) rfl ?_
      have hk : Only (w.heap.size + 1) w3 ((w3.setCell ⟨w.heap.size + 1, 0, none⟩ (.int .i64 (R1.length : Int))).setCell ⟨w.heap.size + 1, 1, none⟩ (.slice A4 R1.length c4)) := ((Only.refl _ _).setCell _).setCell _
      have hs1 := hb1.size
      have hs0 := HSZ.out
      have hs2 := hg12.size
      have hsB := hB.size
      refine ⟨_, _, rfl, ?_, ?_, ?_, ((HAL.out.trans (hb1.trans hg3)).setCell (Nat.le_succ _) _).setCell (Nat.le_succ _) _⟩
      · exact OwnI.base (own_only HO3.out hk (fun hh => by have := own_of_ge HO3.out hh; omega)) (by omega)
      · exact OwnI.base (own_only (HO.out.grew hg3) hk (fun hh => by have := own_of_ge HO.out hh; omega)) (by omega)
      · intro g hg hg'
        have h1 := own_of_ge HO3.out hg
        have h2 := (World.ownsRow.lt HO.out g hg').2
        omega
end Go.Proofs.Ytcnnfbblildbeaa

/- CutDown of the reference returns cutF. -/
namespace Go.Proofs.Ytcnnfbblildbeaa
open Go.RowKit

set_option maxHeartbeats 1000000 in
theorem specCut_c (sz : Int) (v u : Value) (L V : List Int) (x : Int) (w : World) (h : Ints w v L) (hu : Ints w u V) :
    Calls Try.prog 5 #[.agg #[.int .i64 sz, v], u, .int .i64 x] w (GivesCD w (cutF sz L V x)) := by
  have hinfo := info2P
  have HV := Lib.hid (fun W hW => isVal_c sz v u L V W (h.grew hW) (hu.grew hW))
  have HE := Lib.hid (l01In_q x 0 (sz - 1))
  have HU := Lib.hid (fun W hW => hu.grew (w' := W) hW)
  have HH := Lib.hid (fun W hW => h.grew (w' := W) hW)
  have hB0 := Lib.hid ((((Grew.refl w).alloc (.cells #[.int .i64 sz, v] 26)).alloc (.cells #[.int .i64 0, .slice none 0 0] 26)))
  have y0 : ∀ W, Grew ((w.alloc (.cells #[.int .i64 sz, v] 26)).alloc (.cells #[.int .i64 0, .slice none 0 0] 26)) W → W.heap[w.heap.size]? = some (.cells #[.int .i64 sz, v] 26 (0, 0)) :=
    fun W hW => ((((Grew.refl (w.alloc (.cells #[.int .i64 sz, v] 26))).alloc (.cells #[.int .i64 0, .slice none 0 0] 26)).trans hW).block (by simp)).trans (blk_new w _)
  have y1 : ∀ W, Grew ((w.alloc (.cells #[.int .i64 sz, v] 26)).alloc (.cells #[.int .i64 0, .slice none 0 0] 26)) W → W.heap[w.heap.size + 1]? = some (.cells #[.int .i64 0, .slice none 0 0] 26 (0, 0)) :=
    fun W hW => (hW.block (by simp)).trans (by
      have h := blk_new (w.alloc (.cells #[.int .i64 sz, v] 26)) (.cells #[.int .i64 0, .slice none 0 0] 26)
      have e : (w.alloc (.cells #[.int .i64 sz, v] 26)).heap.size = w.heap.size + 1 := by simp
      rwa [e] at h)
  have hs : ((w.alloc (.cells #[.int .i64 sz, v] 26)).alloc (.cells #[.int .i64 0, .slice none 0 0] 26)).heap.size = w.heap.size + 2 := by simp
  obtain ⟨w1, hw1⟩ : ∃ w1, w1 = (w.alloc (.cells #[.int .i64 sz, v] 26)).alloc (.cells #[.int .i64 0, .slice none 0 0] 26) := ⟨_, rfl⟩
  rw [← hw1] at y0 y1 hB0 hs
  have Y0 := Lib.hid y0
  have Y1 := Lib.hid y1
  have HSZ := Lib.hid hs
  clear y0 y1 hs
  cases hv : valB sz L V with
  | false =>
    rw [cut_no1 hv]
    rw [hv] at HV
    obtain ⟨A, c, rfl⟩ := ints_slice h
    obtain ⟨A2, c2, rfl⟩ := ints_slice hu
    clear h hu hv HE
    generalize L.length = n at *
    generalize V.length = n2 at *
    go_enter Try.func5, Try.ntmps5
    go_wp2_with fail
    simp only [← hw1]
    refine (HV.out _ hB0.out).mono ?_
    rintro e w2 ⟨rfl, hg2⟩
    have hb := Y1.out _ hg2
    have c0 : w2.cell? ⟨w.heap.size + 1, 0, none⟩ = some (.int .i64 0) := by rw [blk_cell hb]; rfl
    have c1 : w2.cell? ⟨w.heap.size + 1, 1, none⟩ = some (.slice none 0 0) := by rw [blk_cell hb]; rfl
    have f0 := blk_frozen hb 0
    have f1 := blk_frozen hb 1
    have HB := Lib.hid hb
    clear hb
    go_wp2_with fail
    (try simp only [Exit.inBlock, Exit.then])
    refine bodyPost_ret (results_cell_tmp2_row rfl _ _ (w.heap.size + 1) _ _ _ _ rfl (blk_set (blk_set HB.out 0 _) 1 _) Try.underlying26 rfl hinfo) rfl ?_
    exact ⟨_, _, rfl, OwnI.nil_ _ _, OwnI.nil_ _ _, fun g hg => absurd hg (by intro h; cases h), ((hB0.out.trans hg2).setCell (Nat.le_succ _) _).setCell (Nat.le_succ _) _⟩
  | true =>
    have hsz : 0 ≤ sz ∧ sz ≤ 8 := by
      obtain ⟨e1, e2, _⟩ := posB_ok (val_ok hv).1
      omega
    have hw64 : wrap64 (sz - 1) = sz - 1 := by unfold wrap64; omega
    rw [hv] at HV
    have heB : decide (0 ≤ x ∧ x ≤ sz - 1) = elB sz x := Bool.decide_and _ _
    rw [heB] at HE
    clear heB
    cases hx : elB sz x with
    | false =>
      rw [cut_no2 hv hx]
      rw [hx] at HE
      obtain ⟨A, c, rfl⟩ := ints_slice h
      obtain ⟨A2, c2, rfl⟩ := ints_slice hu
      clear h hu hv hx hsz
      generalize L.length = n at *
      generalize V.length = n2 at *
      go_enter Try.func5, Try.ntmps5
      go_wp2_with fail
      simp only [← hw1]
      refine (HV.out _ hB0.out).mono ?_
      rintro e w2 ⟨rfl, hg2⟩
      have hb0 := Y0.out _ hg2
      have d0 : w2.cell? ⟨w.heap.size, 0, none⟩ = some (.int .i64 sz) := by rw [blk_cell hb0]; rfl
      have d1 : w2.cell? ⟨w.heap.size, 1, none⟩ = some (.slice A n c) := by rw [blk_cell hb0]; rfl
      clear hb0
      go_wp2_with fail
      refine (HE.out _).mono ?_
      rintro e w3 ⟨rfl, rfl⟩
      clear d0 d1
      have hb := Y1.out _ hg2
      have c0 : w3.cell? ⟨w.heap.size + 1, 0, none⟩ = some (.int .i64 0) := by rw [blk_cell hb]; rfl
      have c1 : w3.cell? ⟨w.heap.size + 1, 1, none⟩ = some (.slice none 0 0) := by rw [blk_cell hb]; rfl
      have f0 := blk_frozen hb 0
      have f1 := blk_frozen hb 1
      have HB := Lib.hid hb
      clear hb
      go_wp2_with fail
      (try simp only [Exit.inBlock, Exit.then])
      refine bodyPost_ret (results_cell_tmp2_row rfl _ _ (w.heap.size + 1) _ _ _ _ rfl (blk_set (blk_set HB.out 0 _) 1 _) Try.underlying26 rfl hinfo) rfl ?_
      exact ⟨_, _, rfl, OwnI.nil_ _ _, OwnI.nil_ _ _, fun g hg => absurd hg (by intro h; cases h), ((hB0.out.trans hg2).setCell (Nat.le_succ _) _).setCell (Nat.le_succ _) _⟩
    | true =>
      obtain ⟨hsl, hl8, hA, hzL, hzV, hV6, hSm, hlt, hxl, hxe⟩ := cut_ok hv hx
      rw [cut_yes hv hx]
      rw [hx] at HE
      have hr : Ints w v (zs (nats L)) := by rw [hzL]; exact h
      have hP := Lib.hid (fun W hW => specPart_c sz v u L V (nt (nats L) x.toNat) W (HH.out W hW) (HU.out W hW) hv hlt)
      clear HU HH
      obtain ⟨A, c, rfl⟩ := ints_sliceN hr
      obtain ⟨b, o, hAe, hcell⟩ := cellsN hr (by rw [nats_len]; omega)
      subst hAe
      have kx := hcell x.toNat (by rw [nats_len]; exact hxl)
      obtain ⟨A2, c2, rfl⟩ := ints_slice hu
      clear h hu hv hx hcell hr hzL hlt hA hzV hV6 hSm
      rw [nats_len] at *
      obtain ⟨j, rfl⟩ : ∃ j : Nat, x = (j : Int) := ⟨_, hxe⟩
      simp only [Int.toNat_natCast] at *
      generalize nt (nats L) j = m at *
      generalize zs (prt (nats L) m) = R1 at *
      generalize zs (sqa (nats V) m) = R2 at *
      subst hsl
      clear hxe
      generalize L.length = n at *
      generalize V.length = n2 at *
      go_enter Try.func5, Try.ntmps5
      go_wp2_with fail
      simp only [← hw1]
      clear hw1
      refine (HV.out _ hB0.out).mono ?_
      rintro e w2 ⟨rfl, hg2⟩
      have hb0 := Y0.out _ hg2
      have d0 : w2.cell? ⟨w.heap.size, 0, none⟩ = some (.int .i64 (n : Int)) := by rw [blk_cell hb0]; rfl
      clear hb0
      go_wp2_with fail
      refine (HE.out _).mono ?_
      rintro e w3 ⟨rfl, rfl⟩
      clear d0
      have hgw3 : Grew w w3 := hB0.out.trans hg2
      have hsz3 : w.heap.size + 2 ≤ w3.heap.size := by have h1 := hg2.size; have h2 := HSZ.out; omega
      have e0 : ∀ W, Grew w3 W → W.cell? ⟨w.heap.size, 0, none⟩ = some (.int .i64 (n : Int)) := fun W hW => by rw [blk_cell (Y0.out W (hg2.trans hW))]; rfl
      have e1 : ∀ W, Grew w3 W → W.cell? ⟨w.heap.size, 1, none⟩ = some (.slice (some ⟨b, o, none⟩) n c) := fun W hW => by rw [blk_cell (Y0.out W (hg2.trans hW))]; rfl
      have e2 : ∀ W, Grew w3 W → W.cell? ⟨b, o + j, none⟩ = some (.int .i64 (m : Int)) := fun W hW => kx W (hgw3.trans hW)
      clear kx
      go_wp2_with fail
      have hr3 := Grew.refl w3
      have hr3d := hr3.drew
      have q0 : ∀ W, Grew (w3.alloc (.cells #[.int .i64 0, .slice none 0 0] 26)).drew W → W.heap[w3.heap.size]? = some (.cells #[.int .i64 0, .slice none 0 0] 26 (0, 0)) := fun W hW => (hW.block (by simp)).trans (blk_new w3 _)
      have q1 : ∀ W, Grew (w3.alloc (.cells #[.int .i64 0, .slice none 0 0] 26)).drew W → W.cell? ⟨w3.heap.size, 0, none⟩ = some (.int .i64 0) := fun W hW => by rw [blk_cell (q0 W hW)]; rfl
      have q2 : ∀ W, Grew (w3.alloc (.cells #[.int .i64 0, .slice none 0 0] 26)).drew W → W.cell? ⟨w3.heap.size, 1, none⟩ = some (.slice none 0 0) := fun W hW => by rw [blk_cell (q0 W hW)]; rfl
      have q3 : ∀ W, Grew (w3.alloc (.cells #[.int .i64 0, .slice none 0 0] 26)).drew W → W.frozen? ⟨w3.heap.size, 0, none⟩ = false := fun W hW => blk_frozen (q0 W hW) 0
      have q4 : ∀ W, Grew (w3.alloc (.cells #[.int .i64 0, .slice none 0 0] 26)).drew W → W.frozen? ⟨w3.heap.size, 1, none⟩ = false := fun W hW => blk_frozen (q0 W hW) 1
      have Q0 := Lib.hid q0
      clear q0
      go_region_held3 (fun w' => Grew w3 w') (first | with_reducible assumption | exact Grew.alloc ‹_› _ | exact Grew.setCell (Grew.setCell (by with_reducible assumption) (Nat.le_refl _) _) (Nat.le_refl _) _ | exact Grew.setCell (Grew.setCell (Grew.alloc (by with_reducible assumption) _) hs34 _) hs34 _)
        (first | (go_at_call 18; refine (hP.out _ (hgw3.trans (by first | with_reducible assumption | exact Grew.alloc (by with_reducible assumption) _))).mono ?_; rintro e w4 ⟨v4, u4, rfl, hO4, hU4, hap4, hg4⟩; have hs4 := ints_slice hO4.ints; obtain ⟨A4, c4, rfl⟩ := hs4; have hk4 : Grew w3 w4 := Grew.trans (by first | with_reducible assumption | exact Grew.alloc (by with_reducible assumption) _) hg4; have hs34 := hk4.size))
      · obtain ⟨w5, hw5⟩ : ∃ w5, w5 = w4.alloc (.cells #[.int .i64 (R1.length : Int), .slice A4 R1.length c4] 26) := ⟨_, rfl⟩
        have hk5 : Grew w3 w5 := by rw [hw5]; exact hk4.alloc _
        have hO5 : OwnI w5 w3.heap.size (.slice A4 R1.length c4) R1 := by rw [hw5]; exact (hO4.grew ((Grew.refl w4).alloc _)).base (Nat.le_refl _)
        have hU5 : OwnI w5 w3.heap.size u4 R2 := by rw [hw5]; exact (hU4.grew ((Grew.refl w4).alloc _)).base (Nat.le_refl _)
        have hb5 : w5.heap[w4.heap.size]? = some (.cells #[.int .i64 (R1.length : Int), .slice A4 R1.length c4] 26 (0, 0)) := by rw [hw5]; exact blk_new w4 _
        rw [← hw5]
        clear hw5 e0 e1 e2 q1 q2 q3 q4 hO4 hU4 Q0
        have p0 : w5.cell? ⟨w4.heap.size, 0, none⟩ = some (.int .i64 (R1.length : Int)) := by rw [blk_cell hb5]; rfl
        have p1 : w5.cell? ⟨w4.heap.size, 1, none⟩ = some (.slice A4 R1.length c4) := by rw [blk_cell hb5]; rfl
        have hb2 := Y1.out _ (hg2.trans hk5)
        have c0 : w5.cell? ⟨w.heap.size + 1, 0, none⟩ = some (.int .i64 0) := by rw [blk_cell hb2]; rfl
        have c1 : w5.cell? ⟨w.heap.size + 1, 1, none⟩ = some (.slice none 0 0) := by rw [blk_cell hb2]; rfl
        have f0 := blk_frozen hb2 0
        have f1 := blk_frozen hb2 1
        have HB2 := Lib.hid hb2
        have HO5 := Lib.hid hO5
        have HU5 := Lib.hid hU5
        clear hb2 hO5 hU5 hb5
        go_wp2_with fail
        (try simp only [Exit.inBlock, Exit.then])
        refine bodyPost_ret (results_cell_tmp2_row rfl _ _ (w.heap.size + 1) _ _ _ _ rfl (blk_set (blk_set HB2.out 0 _) 1 _) Try.underlying26 rfl hinfo) rfl ?_
        have hk : Only (w.heap.size + 1) w5 ((w5.setCell ⟨w.heap.size + 1, 0, none⟩ (.int .i64 (R1.length : Int))).setCell ⟨w.heap.size + 1, 1, none⟩ (.slice A4 R1.length c4)) := ((Only.refl _ _).setCell _).setCell _
        refine ⟨_, _, rfl, ?_, ?_, hap4, ((hgw3.trans hk5).setCell (Nat.le_succ _) _).setCell (Nat.le_succ _) _⟩
        · exact OwnI.base (own_only HO5.out hk (fun hh => by have := own_of_ge HO5.out hh; omega)) (by omega)
        · exact OwnI.base (own_only HU5.out hk (fun hh => by have := own_of_ge HU5.out hh; omega)) (by omega)
      · obtain ⟨w5, hw5⟩ : ∃ w5, w5 = (w4.setCell ⟨w3.heap.size, 0, none⟩ (.int .i64 (R1.length : Int))).setCell ⟨w3.heap.size, 1, none⟩ (.slice A4 R1.length c4) := ⟨_, rfl⟩
        have hk5 : Grew w3 w5 := by rw [hw5]; exact (hk4.setCell (Nat.le_refl _) _).setCell (Nat.le_refl _) _
        have hO5 : OwnI w5 w3.heap.size (.slice A4 R1.length c4) R1 := by rw [hw5]; exact OwnI.base (own_only hO4 (((Only.refl w3.heap.size w4).setCell (o := 0) (.int .i64 (R1.length : Int))).setCell (o := 1) (.slice A4 R1.length c4)) (fun hh => by have h1 := own_of_ge hO4 hh; have h2 : (w3.alloc (.cells #[.int .i64 0, .slice none 0 0] 26)).drew.heap.size = w3.heap.size + 1 := Array.size_push _; omega)) (Nat.le_trans (Nat.le_succ _) (Nat.le_of_eq (show w3.heap.size + 1 = (w3.alloc (.cells #[.int .i64 0, .slice none 0 0] 26)).drew.heap.size from (Array.size_push _).symm)))
        have hU5 : OwnI w5 w3.heap.size u4 R2 := by rw [hw5]; exact OwnI.base (own_only hU4 (((Only.refl w3.heap.size w4).setCell (o := 0) (.int .i64 (R1.length : Int))).setCell (o := 1) (.slice A4 R1.length c4)) (fun hh => by have h1 := own_of_ge hU4 hh; have h2 : (w3.alloc (.cells #[.int .i64 0, .slice none 0 0] 26)).drew.heap.size = w3.heap.size + 1 := Array.size_push _; omega)) (Nat.le_trans (Nat.le_succ _) (Nat.le_of_eq (show w3.heap.size + 1 = (w3.alloc (.cells #[.int .i64 0, .slice none 0 0] 26)).drew.heap.size from (Array.size_push _).symm)))
        have hb5 : w5.heap[w3.heap.size]? = some (.cells #[.int .i64 (R1.length : Int), .slice A4 R1.length c4] 26 (0, 0)) := by rw [hw5]; exact blk_set (blk_set (Q0.out _ hg4) 0 _) 1 _
        rw [← hw5]
        clear hw5 e0 e1 e2 q1 q2 q3 q4 hO4 hU4 Q0
        have p0 : w5.cell? ⟨w3.heap.size, 0, none⟩ = some (.int .i64 (R1.length : Int)) := by rw [blk_cell hb5]; rfl
        have p1 : w5.cell? ⟨w3.heap.size, 1, none⟩ = some (.slice A4 R1.length c4) := by rw [blk_cell hb5]; rfl
        have hb2 := Y1.out _ (hg2.trans hk5)
        have c0 : w5.cell? ⟨w.heap.size + 1, 0, none⟩ = some (.int .i64 0) := by rw [blk_cell hb2]; rfl
        have c1 : w5.cell? ⟨w.heap.size + 1, 1, none⟩ = some (.slice none 0 0) := by rw [blk_cell hb2]; rfl
        have f0 := blk_frozen hb2 0
        have f1 := blk_frozen hb2 1
        have HB2 := Lib.hid hb2
        have HO5 := Lib.hid hO5
        have HU5 := Lib.hid hU5
        clear hb2 hO5 hU5 hb5
        go_wp2_with fail
        (try simp only [Exit.inBlock, Exit.then])
        refine bodyPost_ret (results_cell_tmp2_row rfl _ _ (w.heap.size + 1) _ _ _ _ rfl (blk_set (blk_set HB2.out 0 _) 1 _) Try.underlying26 rfl hinfo) rfl ?_
        have hk : Only (w.heap.size + 1) w5 ((w5.setCell ⟨w.heap.size + 1, 0, none⟩ (.int .i64 (R1.length : Int))).setCell ⟨w.heap.size + 1, 1, none⟩ (.slice A4 R1.length c4)) := ((Only.refl _ _).setCell _).setCell _
        refine ⟨_, _, rfl, ?_, ?_, hap4, ((hgw3.trans hk5).setCell (Nat.le_succ _) _).setCell (Nat.le_succ _) _⟩
        · exact OwnI.base (own_only HO5.out hk (fun hh => by have := own_of_ge HO5.out hh; omega)) (by omega)
        · exact OwnI.base (own_only HU5.out hk (fun hh => by have := own_of_ge HU5.out hh; omega)) (by omega)
end Go.Proofs.Ytcnnfbblildbeaa

/- Slices of int64 that came in: szInt64S. -/
namespace Go.Proofs.Ytcnnfbblildbeaa
open Go.RowKit

/-- A list of numbers that came in. -/
def ArgI (w : World) (v : Value) (L : List Int) : Prop := (∃ A c, v = .slice A L.length c ∧ L.length ≤ 9223372036854775807) ∧ (0 < L.length → Ints w v L)
theorem ArgI.grew {w w' : World} {v : Value} {L : List Int} (h : ArgI w v L) (hg : Grew w w') : ArgI w' v L := ⟨h.1, fun hp => (h.2 hp).grew hg⟩

theorem szInt64S_c (v : Value) (L : List Int) (left : Int) (w : World) (h : ArgI w v L) (h0 : 0 ≤ left) (h1 : left ≤ 1048576) :
    Calls Try.prog 15 #[v, .int .i64 left] w fun e w' => ∃ r : Int, e = .returned (.int .i64 r) ∧ (r ≤ 1048576 ∧ (0 ≤ r → L.length ≤ 1048576)) ∧ Grew w w' := by
  obtain ⟨⟨A, c, rfl, hmax⟩, _⟩ := h
  generalize L.length = n at *
  by_cases hlong : left < n
  · go_enter Try.func15, Try.ntmps15
    go_wp2_with fail
    go_ret
    exact ⟨_, rfl, ⟨by omega, fun h => absurd h (by omega)⟩, Grew.refl _⟩
  · go_enter Try.func15, Try.ntmps15
    go_wp2_with fail
    go_ret
    exact ⟨_, rfl, ⟨by omega, fun _ => by omega⟩, Grew.refl _⟩
end Go.Proofs.Ytcnnfbblildbeaa

/- The laws' own helpers on slices of int64: toInt64S, eqInt64S, markInt64S, heldInt64S. -/
namespace Go.Proofs.Ytcnnfbblildbeaa
open Go.RowKit

theorem toInt64S_c (v : Value) (L : List Int) (w : World) (h : ArgI w v L) (hn : L.length ≤ 1048576) :
    Calls Try.prog 7 #[v] w (GivesI w L) := by
  obtain ⟨⟨A, c, rfl, hmax⟩, hS⟩ := h
  have hmk := run_make_row' (P := Try.prog) 22 2 (.int .i64 0) 8 Try.underlying22 Try.infoI rfl .i64 .i64 L.length (by omega) (by omega)
  have hend : ∀ cur w', w'.heap[w.heap.size]? = some (.cells cur 2 (0, 0)) → cur.size = L.length → (∀ i, i < L.length → cur[i]? = some (.int .i64 (it L i))) → OwnI w' w.heap.size (.slice (some ⟨w.heap.size, 0, none⟩) L.length L.length) L :=
    fun cur w' h1 h2 h3 => OwnI.mk_ (Nat.le_refl _) h1 (Nat.le_refl _) (by omega) h2 h3
  have HE := Lib.hid hend
  clear hend
  have hsz : (madeCells #[Value.int .i64 0] L.length).size = L.length := by simp [madeCells]
  have hnew := blk_new w (.cells (madeCells #[Value.int .i64 0] L.length) 2)
  have hal := (Grew.refl w).alloc (.cells (madeCells #[Value.int .i64 0] L.length) 2)
  generalize madeCells #[Value.int .i64 0] L.length = cur0 at *
  by_cases hp : 0 < L.length
  · rcases (hS hp).open_ with ⟨_, h2⟩ | ⟨b, o, c', hv, hc, hm, hb, hcell⟩
    · rw [h2] at hp; cases hp
    obtain ⟨rfl, rfl⟩ : A = some ⟨b, o, none⟩ ∧ c = c' := by simpa using hv
    clear hS hv
    have HC := Lib.hid hcell
    clear hcell
    generalize hN : L.length = n at *
    clear hN
    have HNEW := Lib.hid hnew
    clear hnew
    have HAL := Lib.hid hal
    clear hal
    go_enter Try.func7, Try.ntmps7
    go_wp2_with fail
    go_loopw [4] (fun i wr => ∃ (j : Nat) (cur : Array Value), j ≤ n ∧ i = .int .i64 j ∧ wr.heap[w.heap.size]? = some (.cells cur 2 (0, 0)) ∧ cur.size = n ∧ Grew w wr ∧ (∀ i, i < j → cur[i]? = some (.int .i64 (it L i)))) (fun i _ => n - (intOf i).toNat)
    case atStart => exact ⟨0, cur0, Nat.zero_le _, rfl, HNEW.out, hsz, HAL.out, fun i hi => absurd hi (by omega)⟩
    case round =>
      obtain ⟨j, cur, hj, rfl, hh, hcs, hB, hc2⟩ := hrel
      have HD := Lib.hid hc2
      clear hc2
      by_cases hlt : j < n
      · have k1 := HC.out j hlt _ hB
        have HS := Lib.hid (one_stepI (F := fun i => .int .i64 (it L i)) (j := j) (by omega) HD.out)
        have f1 : ∀ i, wr.frozen? ⟨w.heap.size, i, none⟩ = false := fun i => by simp [World.frozen?, hh]
        obtain ⟨u1, hu1⟩ : ∃ u, wr.cell? ⟨w.heap.size, 0 + j, none⟩ = some u := by
          rw [cell_of_row wr w.heap.size _ cur _ (0, 0) hh]
          exact ⟨_, Array.getElem?_eq_getElem (by omega)⟩
        simp only [Nat.zero_add] at hu1
        have HH := Lib.hid hh
        clear hh
        generalize it L j = x at *
        go_wp2_with fail
        go_roundw
        case rel => exact ⟨j + 1, _, by omega, by go_num, blk_set HH.out _ _, by simp [hcs], hB.setCell (Nat.le_refl _) _, HS.out⟩
        case measure => simp [intOf]; omega
      · obtain rfl : j = n := by omega
        have HH := Lib.hid hh
        clear hh
        go_wp2_with fail
        go_ret
        exact ⟨_, rfl, HE.out _ _ HH.out hcs HD.out, hB⟩
  · have hp0 : L.length ≤ 0 := by omega
    have HNEW := Lib.hid hnew
    clear hnew hS hp
    have HAL := Lib.hid hal
    clear hal
    generalize hN : L.length = n at *
    clear hN
    go_enter Try.func7, Try.ntmps7
    go_wp2_with fail
    refine wp_loop_rounds 1 ?_; rw [rounds_succ]
    go_wp2_with fail
    go_ret
    exact ⟨_, rfl, HE.out _ _ HNEW.out hsz (fun i hi => absurd hi (by omega)), HAL.out⟩
end Go.Proofs.Ytcnnfbblildbeaa

/- Two lists of int64 that are equal: eqInt64S. -/
namespace Go.Proofs.Ytcnnfbblildbeaa
open Go.RowKit

/-- Two lists of numbers that are equal. -/
theorem eqInt64S_yes (v1 v2 : Value) (L : List Int) (w : World) (h1 : Ints w v1 L) (h2 : Ints w v2 L) (hn : L.length ≤ 1099511627776) :
    Calls Try.prog 10 #[v1, v2] w fun e w' => e = .returned (.bool true) ∧ Grew w w' := by
  rcases h1.open_ with ⟨rfl, rfl⟩ | ⟨b1, o1, c1, rfl, hc1, hm1, hb1, hf⟩
  · obtain ⟨A, c, rfl⟩ := ints_slice h2
    go_enter Try.func10, Try.ntmps10
    go_wp2_with fail
    refine wp_loop_rounds 1 ?_; rw [rounds_succ]
    go_wp2_with fail
    go_ret
    exact ⟨rfl, Grew.refl _⟩
  · rcases h2.open_ with ⟨rfl, rfl⟩ | ⟨b2, o2, c2, rfl, hc2, hm2, hb2, hh⟩
    · go_enter Try.func10, Try.ntmps10
      go_wp2_with fail
      refine wp_loop_rounds 1 ?_; rw [rounds_succ]
      go_wp2_with fail
      go_ret
      exact ⟨rfl, Grew.refl _⟩
    · clear h1 h2
      have HF := Lib.hid hf
      have HH := Lib.hid hh
      clear hf hh
      generalize hN : L.length = n at *
      clear hN
      go_enter Try.func10, Try.ntmps10
      go_wp2_with fail
      go_loopw [5] (fun i wr => ∃ j : Nat, j ≤ n ∧ i = .int .i64 j ∧ Grew w wr) (fun i _ => n - (intOf i).toNat)
      case atStart => exact ⟨0, Nat.zero_le _, rfl, Grew.refl _⟩
      case round =>
        obtain ⟨j, hj, rfl, hB⟩ := hrel
        by_cases hlt : j < n
        · have k1 : ∀ W, Grew w W → W.cell? ⟨b1, o1 + j, none⟩ = some (.int .i64 (it L j)) := fun W hW => HF.out j hlt W hW
          have k2 : ∀ W, Grew w W → W.cell? ⟨b2, o2 + j, none⟩ = some (.int .i64 (it L j)) := fun W hW => HH.out j hlt W hW
          have k3 := k1 _ hB
          have k4 := k2 _ hB
          generalize it L j = x at *
          have hx : (x != x) = false := by simp
          go_wp2_with fail
          go_quiet (fail)
          go_wp2_with fail
          go_roundw
          case rel => exact ⟨j + 1, by omega, by go_num, by first | assumption | exact hB.drewN _⟩
          case measure => simp [intOf]; omega
        · go_wp2_with fail
          go_ret
          exact ⟨rfl, by assumption⟩
end Go.Proofs.Ytcnnfbblildbeaa

/- The laws' marks on slices of int64. -/
namespace Go.Proofs.Ytcnnfbblildbeaa
open Go.RowKit

def imarks (k : Int) (n : Nat) : List Int := (List.range n).map fun i : Nat => k + (i : Int)
theorem imarks_length (k : Int) (n : Nat) : (imarks k n).length = n := by simp [imarks]
theorem imarks_at {k : Int} {n i : Nat} (h : i < n) : it (imarks k n) i = k + i := by simp [imarks, it, List.getD, h]

theorem markInt64S_c (v : Value) (L : List Int) (B : Nat) (k : Int) (w : World) (h : OwnI w B v L) (hk0 : 0 ≤ k) (hk : k ≤ 4611686018427387904) (hn : L.length ≤ 1099511627776) :
    Calls Try.prog 12 #[v, .int .i64 k] w fun e w' => e = .returned (.int .i64 (k + L.length)) ∧ OwnI w' B v (imarks k L.length) ∧ w.grownBy w' v.ownBlock := by
  rcases h.2 with ⟨rfl, h0⟩ | ⟨g, c, cur0, rfl, hB, hh0, hnc, hcm, hcs0, _⟩
  · have hL : L.length = 0 := by simpa using h0
    rw [hL]
    clear h h0
    go_enter Try.func12, Try.ntmps12
    go_wp2_with fail
    refine wp_loop_rounds 1 ?_; rw [rounds_succ]
    go_wp2_with fail
    go_ret
    exact ⟨by simp, by simpa [imarks] using OwnI.nil_ _ _, World.grownBy.refl _ _⟩
  · have hend : ∀ cur w', w'.heap[g]? = some (.cells cur 2 (0, 0)) → cur.size = c → (∀ i, i < L.length → cur[i]? = some (.int .i64 (k + (i : Int)))) → OwnI w' B (.slice (some ⟨g, 0, none⟩) L.length c) (imarks k L.length) := by
      intro cur w' h1 h2 h3
      have := OwnI.mk_ (w := w') (B := B) (L := imarks k L.length) (g := g) (c := c) (cur := cur) hB h1 (by rw [imarks_length]; exact hnc) hcm h2 (fun i hi => by
        rw [imarks_length] at hi
        rw [imarks_at hi]
        exact h3 i hi)
      rw [imarks_length] at this
      exact this
    generalize hN : L.length = n at *
    clear hN h
    have HE := Lib.hid hend
    clear hend
    go_enter Try.func12, Try.ntmps12
    go_wp2_with fail
    go_loopw [1, 5] (fun kk i wr => ∃ (j : Nat) (cur : Array Value), j ≤ n ∧ i = .int .i64 j ∧ kk = .int .i64 (k + (j : Int)) ∧ wr.heap[g]? = some (.cells cur 2 (0, 0)) ∧ cur.size = c ∧ Only g w wr ∧ (∀ i, i < j → cur[i]? = some (.int .i64 (k + (i : Int))))) (fun _ i _ => n - (intOf i).toNat)
    case atStart => exact ⟨0, cur0, Nat.zero_le _, rfl, by simp, hh0, by omega, Only.refl _ _, fun i hi => absurd hi (by omega)⟩
    case round =>
      obtain ⟨j, cur, hj, rfl, rfl, hh, hcs, ho, hc⟩ := hrel
      have HC := Lib.hid hc
      clear hc
      by_cases hlt : j < n
      · have f1 : wr.frozen? ⟨g, j, none⟩ = false := blk_frozen hh j
        obtain ⟨u1, hu1⟩ : ∃ u, wr.cell? ⟨g, j, none⟩ = some u := by
          rw [blk_cell hh]
          exact ⟨_, Array.getElem?_eq_getElem (by omega)⟩
        have HH := Lib.hid hh
        clear hh
        go_wp2_with fail
        go_roundw
        case rel => exact ⟨j + 1, _, by omega, by go_num, by go_num, blk_set HH.out _ _, by simp [hcs], ho.setCell _, one_stepI (F := fun i => .int .i64 (k + (i : Int))) (by omega) HC.out⟩
        case measure => simp [intOf]; omega
      · obtain rfl : j = n := by omega
        have HH := Lib.hid hh
        clear hh
        go_wp2_with fail
        go_ret
        exact ⟨rfl, HE.out _ _ HH.out hcs HC.out, ho⟩

theorem heldInt64S_c (v : Value) (n : Nat) (k : Int) (w : World) (h : Ints w v (imarks k n)) (hk0 : 0 ≤ k) (hk : k ≤ 4611686018427387904) (hn : n ≤ 1099511627776) :
    Calls Try.prog 14 #[v, .int .i64 k] w fun e w' => e = .returned (.int .i64 (k + n)) ∧ Grew w w' := by
  have hat := fun i => @imarks_at k n i
  rcases h.open_ with ⟨rfl, h0⟩ | ⟨b, o, c, rfl, hc, hm, hb, hcell⟩
  · have hn0 : n = 0 := by have := congrArg List.length h0; rw [imarks_length] at this; simpa using this
    subst hn0
    clear h h0 hat
    go_enter Try.func14, Try.ntmps14
    go_wp2_with fail
    refine wp_loop_rounds 1 ?_; rw [rounds_succ]
    go_wp2_with fail
    go_ret
    exact ⟨by simp, Grew.refl _⟩
  · rw [imarks_length] at hc hcell ⊢
    have HC : Hid (∀ i, i < n → ∀ W, Grew w W → W.cell? ⟨b, o + i, none⟩ = some (.int .i64 (k + (i : Int)))) := Lib.hid (fun i hi W hW => by rw [← hat i hi]; exact hcell i hi W hW)
    clear h hcell hat
    go_enter Try.func14, Try.ntmps14
    go_wp2_with fail
    go_loopw [1, 5] (fun kk i wr => ∃ j : Nat, j ≤ n ∧ i = .int .i64 j ∧ kk = .int .i64 (k + (j : Int)) ∧ Grew w wr) (fun _ i _ => n - (intOf i).toNat)
    case atStart => exact ⟨0, Nat.zero_le _, rfl, by simp, Grew.refl _⟩
    case round =>
      obtain ⟨j, hj, rfl, rfl, hB⟩ := hrel
      by_cases hlt : j < n
      · have k1 := HC.out j hlt _ hB
        have hq : (k + (j : Int) != k + (j : Int)) = false := by simp
        go_wp2_with fail
        go_roundw
        case rel => exact ⟨j + 1, by omega, by go_num, by go_num, hB⟩
        case measure => simp [intOf]; omega
      · obtain rfl : j = n := by omega
        go_wp2_with fail
        go_ret
        exact ⟨rfl, hB⟩
/-- The forms that the laws' walks use. -/
theorem markInt64S_w (v : Value) (L : List Int) (B : Nat) (k : Int) (w : World) (h : OwnI w B v L) (hk0 : 0 ≤ k) (hk : k ≤ 1099511627776) (hn : L.length ≤ 1048576) :
    Calls Try.prog 12 #[v, .int .i64 k] w fun e w' => e = .returned (.int .i64 (k + L.length)) ∧ w.grownBy w' v.ownBlock :=
  (markInt64S_c v L B k w h hk0 (by omega) (by omega)).mono fun _ _ ⟨h1, _, h3⟩ => ⟨h1, h3⟩
theorem markInt64S_m (v : Value) (L : List Int) (B : Nat) (k : Int) (w : World) (h : OwnI w B v L) (hk0 : 0 ≤ k) (hk : k ≤ 1099511627776) (hn : L.length ≤ 1048576) :
    Calls Try.prog 12 #[v, .int .i64 k] w fun e w' => e = .returned (.int .i64 (k + L.length)) ∧ OwnI w' B v (imarks k L.length) ∧ w.grownBy w' v.ownBlock :=
  markInt64S_c v L B k w h hk0 (by omega) (by omega)
end Go.Proofs.Ytcnnfbblildbeaa

/- The laws' own helpers on posets: szPoset, toPoset, eqPoset, markPoset, heldPoset. -/
namespace Go.Proofs.Ytcnnfbblildbeaa
open Go.RowKit

theorem szPoset_c (sz : Int) (v : Value) (L : List Int) (left : Int) (w : World) (h : ArgI w v L) (h0 : 0 ≤ left) (h1 : left ≤ 1048576) :
    Calls Try.prog 4 #[.agg #[.int .i64 sz, v], .int .i64 left] w fun e w' => ∃ r : Int, e = .returned (.int .i64 r) ∧ (r ≤ 1048576 ∧ (0 ≤ r → L.length ≤ 1048576)) ∧ Grew w w' := by
  have HS := Lib.hid (fun W hW => szInt64S_c v L left W (h.grew hW) h0 h1)
  obtain ⟨⟨A, c, rfl, hmax⟩, _⟩ := h
  clear h0 h1
  go_enter Try.func4, Try.ntmps4
  go_wp2_with fail
  refine (HS.out _ ((Grew.refl w).alloc _)).mono ?_
  rintro e w1 ⟨r, rfl, ⟨h1, h2⟩, hg1⟩
  by_cases hr : r < 0
  · go_wp2_with fail
    go_ret
    exact ⟨_, rfl, ⟨by omega, by omega⟩, Grew.of_alloc hg1⟩
  · go_wp2_with fail
    go_ret
    exact ⟨_, rfl, ⟨h1, h2⟩, Grew.of_alloc hg1⟩
/-- A poset in a block of its own, given by value. -/
def GivesPo (w : World) (sz : Int) (L : List Int) (e : Ending) (w' : World) : Prop := ∃ v, e = .returned (.agg #[.int .i64 sz, v]) ∧ OwnI w' w.heap.size v L ∧ Grew w w'
theorem toPoset_c (sz : Int) (v : Value) (L : List Int) (w : World) (h : ArgI w v L) (hn : L.length ≤ 1048576) :
    Calls Try.prog 6 #[.agg #[.int .i64 sz, v]] w (GivesPo w sz L) := by
  have hinfo := info2P
  have HT := Lib.hid (fun W hW => toInt64S_c v L W (h.grew hW) hn)
  obtain ⟨⟨A, c, rfl, hmax⟩, _⟩ := h
  generalize L.length = n at *
  obtain ⟨wa, hwa⟩ : ∃ wa, wa = ((w.alloc (.cells #[.int .i64 sz, .slice A n c] 24)).alloc (.cells #[.int .i64 0, .slice none 0 0] 26)).alloc (.cells #[.int .i64 sz, .slice none 0 0] 26) := ⟨_, rfl⟩
  have ga : Grew w wa := by rw [hwa]; exact (((Grew.refl w).alloc _).alloc _).alloc _
  have sa : wa.heap.size = w.heap.size + 3 := by rw [hwa]; simp
  have y1 : ∀ W, Grew wa W → W.heap[w.heap.size + 1]? = some (.cells #[.int .i64 0, .slice none 0 0] 26 (0, 0)) := fun W hW => (hW.block (by rw [sa]; omega)).trans (by
    rw [hwa]
    have h := blk_new (w.alloc (.cells #[.int .i64 sz, .slice A n c] 24)) (.cells #[.int .i64 0, .slice none 0 0] 26)
    have e : (w.alloc (.cells #[.int .i64 sz, .slice A n c] 24)).heap.size = w.heap.size + 1 := by simp
    rw [e] at h
    have h2 := ((Grew.refl ((w.alloc (.cells #[.int .i64 sz, .slice A n c] 24)).alloc (.cells #[.int .i64 0, .slice none 0 0] 26))).alloc (.cells #[.int .i64 sz, .slice none 0 0] 26)).block (k := w.heap.size + 1) (by simp)
    exact h2.trans h)
  have y2 : ∀ W, Grew wa W → W.heap[w.heap.size + 2]? = some (.cells #[.int .i64 sz, .slice none 0 0] 26 (0, 0)) := fun W hW => (hW.block (by rw [sa]; omega)).trans (by
    rw [hwa]
    have h := blk_new ((w.alloc (.cells #[.int .i64 sz, .slice A n c] 24)).alloc (.cells #[.int .i64 0, .slice none 0 0] 26)) (.cells #[.int .i64 sz, .slice none 0 0] 26)
    have e : ((w.alloc (.cells #[.int .i64 sz, .slice A n c] 24)).alloc (.cells #[.int .i64 0, .slice none 0 0] 26)).heap.size = w.heap.size + 2 := by simp
    rwa [e] at h)
  have GA := Lib.hid ga
  have SA := Lib.hid sa
  have Y1 := Lib.hid y1
  have Y2 := Lib.hid y2
  clear ga sa y1 y2
  go_enter Try.func6, Try.ntmps6
  go_wp2_with fail
  simp only [← hwa]
  clear hwa
  refine (HT.out _ GA.out).mono ?_
  rintro e w1 ⟨v1, rfl, hO1, hg1⟩
  obtain ⟨A1, c1', rfl⟩ := ints_slice hO1.ints
  have hb1 := Y1.out _ hg1
  have hb2 := Y2.out _ hg1
  have d0 : w1.cell? ⟨w.heap.size + 1, 0, none⟩ = some (.int .i64 0) := by rw [blk_cell hb1]; rfl
  have d1 : w1.cell? ⟨w.heap.size + 1, 1, none⟩ = some (.slice none 0 0) := by rw [blk_cell hb1]; rfl
  have c0 : w1.cell? ⟨w.heap.size + 2, 0, none⟩ = some (.int .i64 sz) := by rw [blk_cell hb2]; rfl
  have c1 : w1.cell? ⟨w.heap.size + 2, 1, none⟩ = some (.slice none 0 0) := by rw [blk_cell hb2]; rfl
  have f0 := blk_frozen hb1 0
  have f1 := blk_frozen hb1 1
  have f2 := blk_frozen hb2 1
  have HB1 := Lib.hid hb1
  have HB2 := Lib.hid hb2
  have HO1 := Lib.hid hO1
  clear hb1 hb2 hO1
  go_wp2_with fail
  have hs1 := hg1.size
  have hsa := SA.out
  have ho : Only (w.heap.size + 1 + 1) w1 (w1.setCell ⟨w.heap.size + 1 + 1, 1, none⟩ (.slice A1 L.length c1')) := (Only.refl _ _).setCell _
  have hb3 := (ho.block (k := w.heap.size + 1) (by omega) (by omega)).trans HB1.out
  (try simp only [Exit.inBlock, Exit.then])
  refine bodyPost_ret (results_cell_row rfl _ _ (w.heap.size + 1) _ _ _ _ rfl (blk_set (blk_set hb3 0 _) 1 _) Try.underlying26 rfl hinfo) rfl ?_
  have hk : Only (w.heap.size + 1) (w1.setCell ⟨w.heap.size + 1 + 1, 1, none⟩ (.slice A1 L.length c1')) (((w1.setCell ⟨w.heap.size + 1 + 1, 1, none⟩ (.slice A1 L.length c1')).setCell ⟨w.heap.size + 1, 0, none⟩ (.int .i64 sz)).setCell ⟨w.heap.size + 1, 1, none⟩ (.slice A1 L.length c1')) := ((Only.refl _ _).setCell _).setCell _
  refine ⟨_, rfl, ?_, (((GA.out.trans hg1).setCell (show w.heap.size ≤ w.heap.size + 1 + 1 by omega) _).setCell (Nat.le_succ _) _).setCell (Nat.le_succ _) _⟩
  have hq := own_only HO1.out ho (fun hh => by have := own_of_ge HO1.out hh; omega)
  exact OwnI.base (own_only hq hk (fun hh => by have := own_of_ge hq hh; omega)) (by omega)
theorem eqPoset_yes (sz : Int) (v1 v2 : Value) (L : List Int) (w : World) (h1 : Ints w v1 L) (h2 : Ints w v2 L) (hn : L.length ≤ 1099511627776) :
    Calls Try.prog 9 #[.agg #[.int .i64 sz, v1], .agg #[.int .i64 sz, v2]] w fun e w' => e = .returned (.bool true) ∧ Grew w w' := by
  have HE := Lib.hid (fun W hW => eqInt64S_yes v1 v2 L W (h1.grew hW) (h2.grew hW) hn)
  obtain ⟨A, c, rfl⟩ := ints_slice h1
  obtain ⟨A2, c2, rfl⟩ := ints_slice h2
  clear h1 h2
  have hq : (sz != sz) = false := by simp
  go_enter Try.func9, Try.ntmps9
  go_wp2_with fail
  refine (HE.out _ (((Grew.refl w).alloc _).alloc _)).mono ?_
  rintro e w1 ⟨rfl, hg1⟩
  go_wp2_with fail
  go_ret
  exact ⟨rfl, Grew.of_alloc (Grew.of_alloc hg1)⟩
theorem markPoset_m (sz : Int) (v : Value) (L : List Int) (B : Nat) (k : Int) (w : World) (h : OwnI w B v L) (hk0 : 0 ≤ k) (hk : k ≤ 1099511627776) (hn : L.length ≤ 1048576) :
    Calls Try.prog 11 #[.agg #[.int .i64 sz, v], .int .i64 k] w fun e w' => e = .returned (.int .i64 (k + L.length)) ∧ OwnI w' B v (imarks k L.length) ∧ w.grownBy w' v.ownBlock := by
  have HM := Lib.hid (fun W (hW : Grew w W) => markInt64S_m v L B k W (h.grew hW) hk0 hk hn)
  obtain ⟨A, c, rfl⟩ := ints_slice h.ints
  clear h
  generalize L.length = n at *
  go_enter Try.func11, Try.ntmps11
  go_wp2_with fail
  refine (HM.out _ ((Grew.refl w).alloc _)).mono ?_
  rintro e w1 ⟨rfl, hO1, hg1⟩
  go_wp2_with fail
  go_ret
  exact ⟨rfl, hO1, (((Grew.refl w).alloc _).by_ _).trans hg1⟩
theorem heldPoset_c (sz : Int) (v : Value) (n : Nat) (k : Int) (w : World) (h : Ints w v (imarks k n)) (hk0 : 0 ≤ k) (hk : k ≤ 1099511627776) (hn : n ≤ 1048576) :
    Calls Try.prog 13 #[.agg #[.int .i64 sz, v], .int .i64 k] w fun e w' => e = .returned (.int .i64 (k + n)) ∧ Grew w w' := by
  have HM := Lib.hid (fun W (hW : Grew w W) => heldInt64S_c v n k W (h.grew hW) hk0 (by omega) (by omega))
  obtain ⟨A, c, rfl⟩ := ints_slice h
  clear h
  generalize (imarks k n).length = n' at *
  have hlt : ¬ (k + (n : Int) < 0) := by omega
  go_enter Try.func13, Try.ntmps13
  go_wp2_with fail
  refine (HM.out _ ((Grew.refl w).alloc _)).mono ?_
  rintro e w1 ⟨rfl, hg1⟩
  go_wp2_with fail
  go_ret
  exact ⟨rfl, Grew.of_alloc hg1⟩
end Go.Proofs.Ytcnnfbblildbeaa

/- The law FnExactCutDown, walked. -/
namespace Go.Proofs.Ytcnnfbblildbeaa
open Go.RowKit

theorem cutF_len {sz : Int} {L V : List Int} {x : Int} : (cutF sz L V x).1.length ≤ 30 ∧ (cutF sz L V x).2.1.length ≤ 6 := by
  unfold cutF
  split
  · rename_i hv
    split
    · obtain ⟨_, h6, _⟩ := val_ok hv
      refine ⟨by rw [zs_len]; exact prt_len _ _, ?_⟩
      rw [zs_len]
      unfold sqa
      rw [List.length_map, nats_len]
      omega
    · exact ⟨by simp, by simp⟩
  · exact ⟨by simp, by simp⟩

set_option maxHeartbeats 16000000 in
set_option maxRecDepth 20000 in
theorem lawCd_c (sz : Int) (v0 v1 : Value) (L V : List Int) (x : Int) (w : World) (h0 : ArgI w v0 L) (h1 : ArgI w v1 V) :
    Calls Try.prog 3 #[.agg #[.int .i64 sz, v0], v1, .int .i64 x] w fun e w' => e = .returned (.bool true) ∧ Grew w w' := by
  have Z0 := Lib.hid (fun W l (hW : Grew w W) (a0 : 0 ≤ l) (a1 : l ≤ 1048576) => szPoset_c sz v0 L l W (h0.grew hW) a0 a1)
  have T0 := Lib.hid (fun W (hW : Grew w W) => toPoset_c sz v0 L W (h0.grew hW))
  have T1 := Lib.hid (fun W (hW : Grew w W) => toInt64S_c v1 V W (h1.grew hW))
  obtain ⟨⟨A0, c0, rfl, hm0⟩, _⟩ := h0
  obtain ⟨⟨A1, c1, rfl, hm1⟩, _⟩ := h1
  by_cases hlen : V.length ≤ 1048576
  case neg =>
    clear T0 T1 Z0
    generalize V.length = n at *
    generalize L.length = m at *
    go_enter Try.func3, Try.ntmps3
    go_wp2_with fail
    go_ret
    exact ⟨rfl, (Grew.refl w).alloc _⟩
  have T1 := Lib.hid (fun W hW => T1.out W hW hlen)
  have KS := Lib.hid (fun v u W (hv : Ints W v L) (hu : Ints W u V) => specCut_c sz v u L V x W hv hu)
  have KI := Lib.hid (fun v u W (hv : Ints W v L) (hu : Ints W u V) => implCut_c sz v u L V x W hv hu)
  obtain ⟨hl1, hl2⟩ := @cutF_len sz L V x
  generalize cutF sz L V x = rr at *
  obtain ⟨R1, R2, c⟩ := rr
  simp only at hl1 hl2
  unfold GivesCD at KS KI
  simp only at KS KI
  have hcc : (c != c) = false := by simp
  have HL := Lib.hid hlen
  generalize hnV : V.length = n at *
  generalize hnL : L.length = m at *
  replace hnV := Lib.hid hnV
  replace hnL := Lib.hid hnL
  go_enter Try.func3, Try.ntmps3
  have g0 : Grew w w := Grew.refl w
  obtain ⟨w1, hw1⟩ : ∃ W, W = w.alloc (.cells #[.int .i64 sz, .slice A0 m c0] 24) := ⟨_, rfl⟩
  have z1 : Hid (w1.heap.size = w.heap.size + 1) := Lib.hid (by rw [hw1]; simp)
  have g1 : Grew w w1 := by rw [hw1]; exact g0.alloc _
  have HBp : Hid (w1.heap[w.heap.size]? = some (.cells #[.int .i64 sz, .slice A0 m c0] 24 (0, 0))) := Lib.hid (by rw [hw1]; exact blk_new w _)
  clear g0
  go_wp2_with fail
  simp only [← hw1]
  clear hw1
  refine (Z0.out _ _ g1 (by omega) (by omega)).mono ?_
  rintro e w2 ⟨r0, rfl, ⟨hr1, hr2⟩, hg2⟩
  have z2 := Lib.hid hg2.size
  have g2 : Grew w w2 := g1.trans hg2
  replace HBp := Lib.hid ((hg2.block (blk_lt HBp.out)).trans HBp.out)
  clear hg2 g1
  by_cases hr0 : r0 < 0
  · clear hr2
    go_wp2_with fail
    go_ret
    exact ⟨rfl, g2⟩
  have hmm := hr2 (by omega)
  have T0 := Lib.hid (fun W hW => T0.out W hW hmm)
  have hLL : L.length ≤ 1048576 := by have := hnL.out; omega
  have hVV : V.length ≤ 1048576 := by have := hnV.out; have := HL.out; omega
  clear hr2 hr1
  have kp0 : w2.cell? ⟨w.heap.size, 0, none⟩ = some (.int .i64 sz) := by rw [blk_cell HBp.out]; rfl
  have kp1 : w2.cell? ⟨w.heap.size, 1, none⟩ = some (.slice A0 m c0) := by rw [blk_cell HBp.out]; rfl
  go_wp2_with fail
  refine (T0.out _ g2).mono ?_
  rintro e w3 ⟨a0, rfl, ha0, hg3⟩
  have z3 := Lib.hid hg3.size
  have g3 : Grew w w3 := g2.trans hg3
  replace HBp := Lib.hid ((hg3.block (blk_lt HBp.out)).trans HBp.out)
  clear hg3 g2
  obtain ⟨Aa0, ca0, rfl⟩ := ints_slice ha0.ints
  have bla0 := Lib.hid (fun g (hg : (.slice Aa0 L.length ca0 : Value).ownBlock = some g) => (⟨own_of_ge ha0 hg, (World.ownsRow.lt ha0 g hg).2⟩ : _ ∧ _))
  clear kp0 kp1
  have kp0 : w3.cell? ⟨w.heap.size, 0, none⟩ = some (.int .i64 sz) := by rw [blk_cell HBp.out]; rfl
  have kp1 : w3.cell? ⟨w.heap.size, 1, none⟩ = some (.slice A0 m c0) := by rw [blk_cell HBp.out]; rfl
  go_wp2_with fail
  refine (T1.out _ g3).mono ?_
  rintro e w4 ⟨a1, rfl, ha1, hg4⟩
  have z4 := Lib.hid hg4.size
  have g4 : Grew w w4 := g3.trans hg4
  replace ha0 := ha0.grew hg4
  replace HBp := Lib.hid ((hg4.block (blk_lt HBp.out)).trans HBp.out)
  clear hg4 g3
  obtain ⟨Aa1, ca1, rfl⟩ := ints_slice ha1.ints
  have bla1 := Lib.hid (fun g (hg : (.slice Aa1 V.length ca1 : Value).ownBlock = some g) => (⟨own_of_ge ha1 hg, (World.ownsRow.lt ha1 g hg).2⟩ : _ ∧ _))
  clear kp0 kp1
  have kp0 : w4.cell? ⟨w.heap.size, 0, none⟩ = some (.int .i64 sz) := by rw [blk_cell HBp.out]; rfl
  have kp1 : w4.cell? ⟨w.heap.size, 1, none⟩ = some (.slice A0 m c0) := by rw [blk_cell HBp.out]; rfl
  go_wp2_with fail
  refine (KS.out _ _ _ ha0.ints ha1.ints).mono ?_
  rintro e w5 ⟨q0, q1, rfl, hq0, hq1, apq0, hg5⟩
  have z5 := Lib.hid hg5.size
  have g5 : Grew w w5 := g4.trans hg5
  replace ha0 := ha0.grew hg5
  replace ha1 := ha1.grew hg5
  replace HBp := Lib.hid ((hg5.block (blk_lt HBp.out)).trans HBp.out)
  clear hg5 g4
  obtain ⟨Aq0, cq0, rfl⟩ := ints_slice hq0.ints
  obtain ⟨Aq1, cq1, rfl⟩ := ints_slice hq1.ints
  have blq0 := Lib.hid (fun g (hg : (.slice Aq0 R1.length cq0 : Value).ownBlock = some g) => (⟨own_of_ge hq0 hg, (World.ownsRow.lt hq0 g hg).2⟩ : _ ∧ _))
  have blq1 := Lib.hid (fun g (hg : (.slice Aq1 R2.length cq1 : Value).ownBlock = some g) => (⟨own_of_ge hq1 hg, (World.ownsRow.lt hq1 g hg).2⟩ : _ ∧ _))
  clear ha0 bla0
  clear ha1 bla1
  clear kp0 kp1
  have kp0 : w5.cell? ⟨w.heap.size, 0, none⟩ = some (.int .i64 sz) := by rw [blk_cell HBp.out]; rfl
  have kp1 : w5.cell? ⟨w.heap.size, 1, none⟩ = some (.slice A0 m c0) := by rw [blk_cell HBp.out]; rfl
  have ap0 : ∀ o, (w5.alloc o).cell? ⟨w.heap.size, 0, none⟩ = some (.int .i64 sz) := fun o => by rw [blk_cell ((((Grew.refl w5).alloc o).block (blk_lt HBp.out)).trans HBp.out)]; rfl
  have ap1 : ∀ o, (w5.alloc o).cell? ⟨w.heap.size, 1, none⟩ = some (.slice A0 m c0) := fun o => by rw [blk_cell ((((Grew.refl w5).alloc o).block (blk_lt HBp.out)).trans HBp.out)]; rfl
  obtain ⟨w6, hw6⟩ : ∃ W, W = w5.alloc (.cells #[.int .i64 (R1.length : Int), .slice Aq0 R1.length cq0] 26) := ⟨_, rfl⟩
  have hg6 : Grew w5 w6 := by rw [hw6]; exact (Grew.refl _).alloc _
  have z6 : Hid (w6.heap.size = w5.heap.size + 1) := Lib.hid (by rw [hw6]; simp)
  have g6 : Grew w w6 := g5.trans hg6
  replace hq0 := hq0.grew hg6
  replace hq1 := hq1.grew hg6
  replace HBp := Lib.hid ((hg6.block (blk_lt HBp.out)).trans HBp.out)
  have HBq : Hid (w6.heap[w5.heap.size]? = some (.cells #[.int .i64 (R1.length : Int), .slice Aq0 R1.length cq0] 26 (0, 0))) := Lib.hid (by rw [hw6]; exact blk_new w5 _)
  clear hg6 g5
  go_wp2_with fail
  simp only [← hw6]
  clear hw6
  refine (T0.out _ g6).mono ?_
  rintro e w7 ⟨x0, rfl, hx0, hg7⟩
  have z7 := Lib.hid hg7.size
  have g7 : Grew w w7 := g6.trans hg7
  replace hq0 := hq0.grew hg7
  replace hq1 := hq1.grew hg7
  replace HBp := Lib.hid ((hg7.block (blk_lt HBp.out)).trans HBp.out)
  replace HBq := Lib.hid ((hg7.block (blk_lt HBq.out)).trans HBq.out)
  clear hg7 g6
  obtain ⟨Ax0, cx0, rfl⟩ := ints_slice hx0.ints
  have blx0 := Lib.hid (fun g (hg : (.slice Ax0 L.length cx0 : Value).ownBlock = some g) => (⟨own_of_ge hx0 hg, (World.ownsRow.lt hx0 g hg).2⟩ : _ ∧ _))
  clear kp0 kp1 ap0 ap1
  have kp0 : w7.cell? ⟨w.heap.size, 0, none⟩ = some (.int .i64 sz) := by rw [blk_cell HBp.out]; rfl
  have kp1 : w7.cell? ⟨w.heap.size, 1, none⟩ = some (.slice A0 m c0) := by rw [blk_cell HBp.out]; rfl
  have kq0 : w7.cell? ⟨w5.heap.size, 0, none⟩ = some (.int .i64 (R1.length : Int)) := by rw [blk_cell HBq.out]; rfl
  have kq1 : w7.cell? ⟨w5.heap.size, 1, none⟩ = some (.slice Aq0 R1.length cq0) := by rw [blk_cell HBq.out]; rfl
  have ap0 : ∀ o, (w7.alloc o).cell? ⟨w.heap.size, 0, none⟩ = some (.int .i64 sz) := fun o => by rw [blk_cell ((((Grew.refl w7).alloc o).block (blk_lt HBp.out)).trans HBp.out)]; rfl
  have ap1 : ∀ o, (w7.alloc o).cell? ⟨w.heap.size, 1, none⟩ = some (.slice A0 m c0) := fun o => by rw [blk_cell ((((Grew.refl w7).alloc o).block (blk_lt HBp.out)).trans HBp.out)]; rfl
  have aq0 : ∀ o, (w7.alloc o).cell? ⟨w5.heap.size, 0, none⟩ = some (.int .i64 (R1.length : Int)) := fun o => by rw [blk_cell ((((Grew.refl w7).alloc o).block (blk_lt HBq.out)).trans HBq.out)]; rfl
  have aq1 : ∀ o, (w7.alloc o).cell? ⟨w5.heap.size, 1, none⟩ = some (.slice Aq0 R1.length cq0) := fun o => by rw [blk_cell ((((Grew.refl w7).alloc o).block (blk_lt HBq.out)).trans HBq.out)]; rfl
  obtain ⟨w8, hw8⟩ : ∃ W, W = w7.alloc (.cells #[.int .i64 sz, .slice Ax0 L.length cx0] 26) := ⟨_, rfl⟩
  have hg8 : Grew w7 w8 := by rw [hw8]; exact (Grew.refl _).alloc _
  have z8 : Hid (w8.heap.size = w7.heap.size + 1) := Lib.hid (by rw [hw8]; simp)
  have g8 : Grew w w8 := g7.trans hg8
  replace hq0 := hq0.grew hg8
  replace hq1 := hq1.grew hg8
  replace hx0 := hx0.grew hg8
  replace HBp := Lib.hid ((hg8.block (blk_lt HBp.out)).trans HBp.out)
  replace HBq := Lib.hid ((hg8.block (blk_lt HBq.out)).trans HBq.out)
  have HBx : Hid (w8.heap[w7.heap.size]? = some (.cells #[.int .i64 sz, .slice Ax0 L.length cx0] 26 (0, 0))) := Lib.hid (by rw [hw8]; exact blk_new w7 _)
  clear hg8 g7
  go_wp2_with fail
  simp only [← hw8]
  clear hw8
  refine (T1.out _ g8).mono ?_
  rintro e w9 ⟨x1, rfl, hx1, hg9⟩
  have z9 := Lib.hid hg9.size
  have g9 : Grew w w9 := g8.trans hg9
  replace hq0 := hq0.grew hg9
  replace hq1 := hq1.grew hg9
  replace hx0 := hx0.grew hg9
  replace HBp := Lib.hid ((hg9.block (blk_lt HBp.out)).trans HBp.out)
  replace HBq := Lib.hid ((hg9.block (blk_lt HBq.out)).trans HBq.out)
  replace HBx := Lib.hid ((hg9.block (blk_lt HBx.out)).trans HBx.out)
  clear hg9 g8
  obtain ⟨Ax1, cx1, rfl⟩ := ints_slice hx1.ints
  have blx1 := Lib.hid (fun g (hg : (.slice Ax1 V.length cx1 : Value).ownBlock = some g) => (⟨own_of_ge hx1 hg, (World.ownsRow.lt hx1 g hg).2⟩ : _ ∧ _))
  clear kp0 kp1 kq0 kq1 ap0 ap1 aq0 aq1
  have kp0 : w9.cell? ⟨w.heap.size, 0, none⟩ = some (.int .i64 sz) := by rw [blk_cell HBp.out]; rfl
  have kp1 : w9.cell? ⟨w.heap.size, 1, none⟩ = some (.slice A0 m c0) := by rw [blk_cell HBp.out]; rfl
  have kq0 : w9.cell? ⟨w5.heap.size, 0, none⟩ = some (.int .i64 (R1.length : Int)) := by rw [blk_cell HBq.out]; rfl
  have kq1 : w9.cell? ⟨w5.heap.size, 1, none⟩ = some (.slice Aq0 R1.length cq0) := by rw [blk_cell HBq.out]; rfl
  have kx0 : w9.cell? ⟨w7.heap.size, 0, none⟩ = some (.int .i64 sz) := by rw [blk_cell HBx.out]; rfl
  have kx1 : w9.cell? ⟨w7.heap.size, 1, none⟩ = some (.slice Ax0 L.length cx0) := by rw [blk_cell HBx.out]; rfl
  go_wp2_with fail
  refine (KI.out _ _ _ hx0.ints hx1.ints).mono ?_
  rintro e w10 ⟨g0, g1, rfl, hg0, hg1, apg0, hg10⟩
  have z10 := Lib.hid hg10.size
  have g10 : Grew w w10 := g9.trans hg10
  replace hq0 := hq0.grew hg10
  replace hq1 := hq1.grew hg10
  replace hx0 := hx0.grew hg10
  replace hx1 := hx1.grew hg10
  replace HBp := Lib.hid ((hg10.block (blk_lt HBp.out)).trans HBp.out)
  replace HBq := Lib.hid ((hg10.block (blk_lt HBq.out)).trans HBq.out)
  replace HBx := Lib.hid ((hg10.block (blk_lt HBx.out)).trans HBx.out)
  clear hg10 g9
  obtain ⟨Ag0, cg0, rfl⟩ := ints_slice hg0.ints
  obtain ⟨Ag1, cg1, rfl⟩ := ints_slice hg1.ints
  have blg0 := Lib.hid (fun g (hg : (.slice Ag0 R1.length cg0 : Value).ownBlock = some g) => (⟨own_of_ge hg0 hg, (World.ownsRow.lt hg0 g hg).2⟩ : _ ∧ _))
  have blg1 := Lib.hid (fun g (hg : (.slice Ag1 R2.length cg1 : Value).ownBlock = some g) => (⟨own_of_ge hg1 hg, (World.ownsRow.lt hg1 g hg).2⟩ : _ ∧ _))
  have AP := Lib.hid apg0
  clear apg0 apq0
  clear kp0 kp1 kq0 kq1 kx0 kx1
  have kp0 : w10.cell? ⟨w.heap.size, 0, none⟩ = some (.int .i64 sz) := by rw [blk_cell HBp.out]; rfl
  have kp1 : w10.cell? ⟨w.heap.size, 1, none⟩ = some (.slice A0 m c0) := by rw [blk_cell HBp.out]; rfl
  have kq0 : w10.cell? ⟨w5.heap.size, 0, none⟩ = some (.int .i64 (R1.length : Int)) := by rw [blk_cell HBq.out]; rfl
  have kq1 : w10.cell? ⟨w5.heap.size, 1, none⟩ = some (.slice Aq0 R1.length cq0) := by rw [blk_cell HBq.out]; rfl
  have kx0 : w10.cell? ⟨w7.heap.size, 0, none⟩ = some (.int .i64 sz) := by rw [blk_cell HBx.out]; rfl
  have kx1 : w10.cell? ⟨w7.heap.size, 1, none⟩ = some (.slice Ax0 L.length cx0) := by rw [blk_cell HBx.out]; rfl
  have ap0 : ∀ o, (w10.alloc o).cell? ⟨w.heap.size, 0, none⟩ = some (.int .i64 sz) := fun o => by rw [blk_cell ((((Grew.refl w10).alloc o).block (blk_lt HBp.out)).trans HBp.out)]; rfl
  have ap1 : ∀ o, (w10.alloc o).cell? ⟨w.heap.size, 1, none⟩ = some (.slice A0 m c0) := fun o => by rw [blk_cell ((((Grew.refl w10).alloc o).block (blk_lt HBp.out)).trans HBp.out)]; rfl
  have aq0 : ∀ o, (w10.alloc o).cell? ⟨w5.heap.size, 0, none⟩ = some (.int .i64 (R1.length : Int)) := fun o => by rw [blk_cell ((((Grew.refl w10).alloc o).block (blk_lt HBq.out)).trans HBq.out)]; rfl
  have aq1 : ∀ o, (w10.alloc o).cell? ⟨w5.heap.size, 1, none⟩ = some (.slice Aq0 R1.length cq0) := fun o => by rw [blk_cell ((((Grew.refl w10).alloc o).block (blk_lt HBq.out)).trans HBq.out)]; rfl
  have ax0 : ∀ o, (w10.alloc o).cell? ⟨w7.heap.size, 0, none⟩ = some (.int .i64 sz) := fun o => by rw [blk_cell ((((Grew.refl w10).alloc o).block (blk_lt HBx.out)).trans HBx.out)]; rfl
  have ax1 : ∀ o, (w10.alloc o).cell? ⟨w7.heap.size, 1, none⟩ = some (.slice Ax0 L.length cx0) := fun o => by rw [blk_cell ((((Grew.refl w10).alloc o).block (blk_lt HBx.out)).trans HBx.out)]; rfl
  obtain ⟨w11, hw11⟩ : ∃ W, W = w10.alloc (.cells #[.int .i64 (R1.length : Int), .slice Ag0 R1.length cg0] 26) := ⟨_, rfl⟩
  have hg11 : Grew w10 w11 := by rw [hw11]; exact (Grew.refl _).alloc _
  have z11 : Hid (w11.heap.size = w10.heap.size + 1) := Lib.hid (by rw [hw11]; simp)
  have g11 : Grew w w11 := g10.trans hg11
  replace hq0 := hq0.grew hg11
  replace hq1 := hq1.grew hg11
  replace hx0 := hx0.grew hg11
  replace hx1 := hx1.grew hg11
  replace hg0 := hg0.grew hg11
  replace hg1 := hg1.grew hg11
  replace HBp := Lib.hid ((hg11.block (blk_lt HBp.out)).trans HBp.out)
  replace HBq := Lib.hid ((hg11.block (blk_lt HBq.out)).trans HBq.out)
  replace HBx := Lib.hid ((hg11.block (blk_lt HBx.out)).trans HBx.out)
  have HBg : Hid (w11.heap[w10.heap.size]? = some (.cells #[.int .i64 (R1.length : Int), .slice Ag0 R1.length cg0] 26 (0, 0))) := Lib.hid (by rw [hw11]; exact blk_new w10 _)
  clear hg11 g10
  go_wp2_with fail
  simp only [← hw11]
  clear hw11
  refine (eqPoset_yes _ _ _ R1 _ hg0.ints hq0.ints (by omega)).mono ?_
  rintro e w12 ⟨rfl, hg12⟩
  have z12 := Lib.hid hg12.size
  have g12 : Grew w w12 := g11.trans hg12
  replace hq0 := hq0.grew hg12
  replace hq1 := hq1.grew hg12
  replace hx0 := hx0.grew hg12
  replace hx1 := hx1.grew hg12
  replace hg0 := hg0.grew hg12
  replace hg1 := hg1.grew hg12
  replace HBp := Lib.hid ((hg12.block (blk_lt HBp.out)).trans HBp.out)
  replace HBq := Lib.hid ((hg12.block (blk_lt HBq.out)).trans HBq.out)
  replace HBx := Lib.hid ((hg12.block (blk_lt HBx.out)).trans HBx.out)
  replace HBg := Lib.hid ((hg12.block (blk_lt HBg.out)).trans HBg.out)
  clear hg12 g11
  clear kp0 kp1 kq0 kq1 kx0 kx1 ap0 ap1 aq0 aq1 ax0 ax1
  have kp0 : w12.cell? ⟨w.heap.size, 0, none⟩ = some (.int .i64 sz) := by rw [blk_cell HBp.out]; rfl
  have kp1 : w12.cell? ⟨w.heap.size, 1, none⟩ = some (.slice A0 m c0) := by rw [blk_cell HBp.out]; rfl
  have kq0 : w12.cell? ⟨w5.heap.size, 0, none⟩ = some (.int .i64 (R1.length : Int)) := by rw [blk_cell HBq.out]; rfl
  have kq1 : w12.cell? ⟨w5.heap.size, 1, none⟩ = some (.slice Aq0 R1.length cq0) := by rw [blk_cell HBq.out]; rfl
  have kx0 : w12.cell? ⟨w7.heap.size, 0, none⟩ = some (.int .i64 sz) := by rw [blk_cell HBx.out]; rfl
  have kx1 : w12.cell? ⟨w7.heap.size, 1, none⟩ = some (.slice Ax0 L.length cx0) := by rw [blk_cell HBx.out]; rfl
  have kg0 : w12.cell? ⟨w10.heap.size, 0, none⟩ = some (.int .i64 (R1.length : Int)) := by rw [blk_cell HBg.out]; rfl
  have kg1 : w12.cell? ⟨w10.heap.size, 1, none⟩ = some (.slice Ag0 R1.length cg0) := by rw [blk_cell HBg.out]; rfl
  go_wp2_with fail
  refine (eqInt64S_yes _ _ R2 _ hg1.ints hq1.ints (by omega)).mono ?_
  rintro e w13 ⟨rfl, hg13⟩
  have z13 := Lib.hid hg13.size
  have g13 : Grew w w13 := g12.trans hg13
  replace hq0 := hq0.grew hg13
  replace hq1 := hq1.grew hg13
  replace hx0 := hx0.grew hg13
  replace hx1 := hx1.grew hg13
  replace hg0 := hg0.grew hg13
  replace hg1 := hg1.grew hg13
  replace HBp := Lib.hid ((hg13.block (blk_lt HBp.out)).trans HBp.out)
  replace HBq := Lib.hid ((hg13.block (blk_lt HBq.out)).trans HBq.out)
  replace HBx := Lib.hid ((hg13.block (blk_lt HBx.out)).trans HBx.out)
  replace HBg := Lib.hid ((hg13.block (blk_lt HBg.out)).trans HBg.out)
  clear hg13 g12
  clear kp0 kp1 kq0 kq1 kx0 kx1 kg0 kg1
  have kp0 : w13.cell? ⟨w.heap.size, 0, none⟩ = some (.int .i64 sz) := by rw [blk_cell HBp.out]; rfl
  have kp1 : w13.cell? ⟨w.heap.size, 1, none⟩ = some (.slice A0 m c0) := by rw [blk_cell HBp.out]; rfl
  have kq0 : w13.cell? ⟨w5.heap.size, 0, none⟩ = some (.int .i64 (R1.length : Int)) := by rw [blk_cell HBq.out]; rfl
  have kq1 : w13.cell? ⟨w5.heap.size, 1, none⟩ = some (.slice Aq0 R1.length cq0) := by rw [blk_cell HBq.out]; rfl
  have kx0 : w13.cell? ⟨w7.heap.size, 0, none⟩ = some (.int .i64 sz) := by rw [blk_cell HBx.out]; rfl
  have kx1 : w13.cell? ⟨w7.heap.size, 1, none⟩ = some (.slice Ax0 L.length cx0) := by rw [blk_cell HBx.out]; rfl
  have kg0 : w13.cell? ⟨w10.heap.size, 0, none⟩ = some (.int .i64 (R1.length : Int)) := by rw [blk_cell HBg.out]; rfl
  have kg1 : w13.cell? ⟨w10.heap.size, 1, none⟩ = some (.slice Ag0 R1.length cg0) := by rw [blk_cell HBg.out]; rfl
  have ep0 : ∀ W, Grew w13 W → W.cell? ⟨w.heap.size, 0, none⟩ = some (.int .i64 sz) := fun W hW => by rw [blk_cell ((hW.block (blk_lt HBp.out)).trans HBp.out)]; rfl
  have ep1 : ∀ W, Grew w13 W → W.cell? ⟨w.heap.size, 1, none⟩ = some (.slice A0 m c0) := fun W hW => by rw [blk_cell ((hW.block (blk_lt HBp.out)).trans HBp.out)]; rfl
  have ex0 : ∀ W, Grew w13 W → W.cell? ⟨w7.heap.size, 0, none⟩ = some (.int .i64 sz) := fun W hW => by rw [blk_cell ((hW.block (blk_lt HBx.out)).trans HBx.out)]; rfl
  have ex1 : ∀ W, Grew w13 W → W.cell? ⟨w7.heap.size, 1, none⟩ = some (.slice Ax0 L.length cx0) := fun W hW => by rw [blk_cell ((hW.block (blk_lt HBx.out)).trans HBx.out)]; rfl
  have hr13 := Grew.refl w13
  have hd13 := hr13.drew
  clear kp0 kp1 kq0 kq1 kx0 kx1 kg0 kg1
  go_wp2_with fail
  go_region_held3 (fun w' => Grew w13 w') (with_reducible assumption)
    (first | (go_at_call 9; refine (eqPoset_yes _ _ _ L _ (hx0.ints.grew hk14) hy0.ints (by omega)).mono ?_; rintro e w15 ⟨rfl, hgx⟩; have hk15 := hk14.trans hgx) | (go_at_call 6; refine (T0.out _ (g13.trans hd13)).mono ?_; rintro e w14 ⟨y0, rfl, hy0, hgy⟩; have hys := ints_slice hy0.ints; obtain ⟨Ay0, cy0, rfl⟩ := hys; have hk14 := hd13.trans hgy))
  have z15 := Lib.hid hk15.size
  have g15 : Grew w w15 := g13.trans hk15
  replace hq0 := hq0.grew hk15
  replace hq1 := hq1.grew hk15
  replace hx0 := hx0.grew hk15
  replace hx1 := hx1.grew hk15
  replace hg0 := hg0.grew hk15
  replace hg1 := hg1.grew hk15
  replace HBp := Lib.hid ((hk15.block (blk_lt HBp.out)).trans HBp.out)
  replace HBq := Lib.hid ((hk15.block (blk_lt HBq.out)).trans HBq.out)
  replace HBx := Lib.hid ((hk15.block (blk_lt HBx.out)).trans HBx.out)
  replace HBg := Lib.hid ((hk15.block (blk_lt HBg.out)).trans HBg.out)
  clear hk15 hgx hgy hy0 hk14 hr13 hd13 g13 ep0 ep1 ex0 ex1
  have kp0 : w15.cell? ⟨w.heap.size, 0, none⟩ = some (.int .i64 sz) := by rw [blk_cell HBp.out]; rfl
  have kp1 : w15.cell? ⟨w.heap.size, 1, none⟩ = some (.slice A0 m c0) := by rw [blk_cell HBp.out]; rfl
  have kq0 : w15.cell? ⟨w5.heap.size, 0, none⟩ = some (.int .i64 (R1.length : Int)) := by rw [blk_cell HBq.out]; rfl
  have kq1 : w15.cell? ⟨w5.heap.size, 1, none⟩ = some (.slice Aq0 R1.length cq0) := by rw [blk_cell HBq.out]; rfl
  have kx0 : w15.cell? ⟨w7.heap.size, 0, none⟩ = some (.int .i64 sz) := by rw [blk_cell HBx.out]; rfl
  have kx1 : w15.cell? ⟨w7.heap.size, 1, none⟩ = some (.slice Ax0 L.length cx0) := by rw [blk_cell HBx.out]; rfl
  have kg0 : w15.cell? ⟨w10.heap.size, 0, none⟩ = some (.int .i64 (R1.length : Int)) := by rw [blk_cell HBg.out]; rfl
  have kg1 : w15.cell? ⟨w10.heap.size, 1, none⟩ = some (.slice Ag0 R1.length cg0) := by rw [blk_cell HBg.out]; rfl
  go_wp2_with fail
  refine (T1.out _ g15).mono ?_
  rintro e w16 ⟨y1, rfl, hy1, hg16⟩
  have z16 := Lib.hid hg16.size
  have g16 : Grew w w16 := g15.trans hg16
  replace hq0 := hq0.grew hg16
  replace hq1 := hq1.grew hg16
  replace hx0 := hx0.grew hg16
  replace hx1 := hx1.grew hg16
  replace hg0 := hg0.grew hg16
  replace hg1 := hg1.grew hg16
  replace HBp := Lib.hid ((hg16.block (blk_lt HBp.out)).trans HBp.out)
  replace HBq := Lib.hid ((hg16.block (blk_lt HBq.out)).trans HBq.out)
  replace HBx := Lib.hid ((hg16.block (blk_lt HBx.out)).trans HBx.out)
  replace HBg := Lib.hid ((hg16.block (blk_lt HBg.out)).trans HBg.out)
  clear hg16 g15
  obtain ⟨Ay1, cy1, rfl⟩ := ints_slice hy1.ints
  have bly1 := Lib.hid (fun g (hg : (.slice Ay1 V.length cy1 : Value).ownBlock = some g) => (⟨own_of_ge hy1 hg, (World.ownsRow.lt hy1 g hg).2⟩ : _ ∧ _))
  clear kp0 kp1 kq0 kq1 kx0 kx1 kg0 kg1
  have kp0 : w16.cell? ⟨w.heap.size, 0, none⟩ = some (.int .i64 sz) := by rw [blk_cell HBp.out]; rfl
  have kp1 : w16.cell? ⟨w.heap.size, 1, none⟩ = some (.slice A0 m c0) := by rw [blk_cell HBp.out]; rfl
  have kq0 : w16.cell? ⟨w5.heap.size, 0, none⟩ = some (.int .i64 (R1.length : Int)) := by rw [blk_cell HBq.out]; rfl
  have kq1 : w16.cell? ⟨w5.heap.size, 1, none⟩ = some (.slice Aq0 R1.length cq0) := by rw [blk_cell HBq.out]; rfl
  have kx0 : w16.cell? ⟨w7.heap.size, 0, none⟩ = some (.int .i64 sz) := by rw [blk_cell HBx.out]; rfl
  have kx1 : w16.cell? ⟨w7.heap.size, 1, none⟩ = some (.slice Ax0 L.length cx0) := by rw [blk_cell HBx.out]; rfl
  have kg0 : w16.cell? ⟨w10.heap.size, 0, none⟩ = some (.int .i64 (R1.length : Int)) := by rw [blk_cell HBg.out]; rfl
  have kg1 : w16.cell? ⟨w10.heap.size, 1, none⟩ = some (.slice Ag0 R1.length cg0) := by rw [blk_cell HBg.out]; rfl
  go_wp2_with fail
  refine (eqInt64S_yes _ _ V _ hx1.ints hy1.ints (by omega)).mono ?_
  rintro e w17 ⟨rfl, hg17⟩
  have z17 := Lib.hid hg17.size
  have g17 : Grew w w17 := g16.trans hg17
  replace hq0 := hq0.grew hg17
  replace hq1 := hq1.grew hg17
  replace hx0 := hx0.grew hg17
  replace hx1 := hx1.grew hg17
  replace hg0 := hg0.grew hg17
  replace hg1 := hg1.grew hg17
  replace hy1 := hy1.grew hg17
  replace HBp := Lib.hid ((hg17.block (blk_lt HBp.out)).trans HBp.out)
  replace HBq := Lib.hid ((hg17.block (blk_lt HBq.out)).trans HBq.out)
  replace HBx := Lib.hid ((hg17.block (blk_lt HBx.out)).trans HBx.out)
  replace HBg := Lib.hid ((hg17.block (blk_lt HBg.out)).trans HBg.out)
  clear hg17 g16
  clear hy1 bly1
  clear kp0 kp1 kq0 kq1 kx0 kx1 kg0 kg1
  have kp0 : w17.cell? ⟨w.heap.size, 0, none⟩ = some (.int .i64 sz) := by rw [blk_cell HBp.out]; rfl
  have kp1 : w17.cell? ⟨w.heap.size, 1, none⟩ = some (.slice A0 m c0) := by rw [blk_cell HBp.out]; rfl
  have kq0 : w17.cell? ⟨w5.heap.size, 0, none⟩ = some (.int .i64 (R1.length : Int)) := by rw [blk_cell HBq.out]; rfl
  have kq1 : w17.cell? ⟨w5.heap.size, 1, none⟩ = some (.slice Aq0 R1.length cq0) := by rw [blk_cell HBq.out]; rfl
  have kx0 : w17.cell? ⟨w7.heap.size, 0, none⟩ = some (.int .i64 sz) := by rw [blk_cell HBx.out]; rfl
  have kx1 : w17.cell? ⟨w7.heap.size, 1, none⟩ = some (.slice Ax0 L.length cx0) := by rw [blk_cell HBx.out]; rfl
  have kg0 : w17.cell? ⟨w10.heap.size, 0, none⟩ = some (.int .i64 (R1.length : Int)) := by rw [blk_cell HBg.out]; rfl
  have kg1 : w17.cell? ⟨w10.heap.size, 1, none⟩ = some (.slice Ag0 R1.length cg0) := by rw [blk_cell HBg.out]; rfl
  go_wp2_with fail
  refine (markPoset_m _ _ L _ 1 _ hx0 (by omega) (by omega) (by omega)).mono ?_
  rintro e w18 ⟨rfl, hx0, hr18⟩
  have z18 := Lib.hid hr18.size
  have g18 : Grew w w18 := grew_row g17 hr18 (fun g hg => by have h1 := blx0.out g hg; have y1 := z1.out; have y2 := z2.out; have y3 := z3.out; have y4 := z4.out; have y5 := z5.out; have y6 := z6.out; have y7 := z7.out; have y8 := z8.out; have y9 := z9.out; have y10 := z10.out; have y11 := z11.out; have y12 := z12.out; have y13 := z13.out; have y15 := z15.out; have y16 := z16.out; have y17 := z17.out; omega)
  replace hq0 : OwnI w18 _ (.slice Aq0 R1.length cq0) (R1) := own_row hq0 hr18 (fun g hg hg2 => by have h1 := blx0.out g hg; have h2 := blq0.out g hg2; have y1 := z1.out; have y2 := z2.out; have y3 := z3.out; have y4 := z4.out; have y5 := z5.out; have y6 := z6.out; have y7 := z7.out; have y8 := z8.out; have y9 := z9.out; have y10 := z10.out; have y11 := z11.out; have y12 := z12.out; have y13 := z13.out; have y15 := z15.out; have y16 := z16.out; have y17 := z17.out; omega)
  replace hq1 : OwnI w18 _ (.slice Aq1 R2.length cq1) (R2) := own_row hq1 hr18 (fun g hg hg2 => by have h1 := blx0.out g hg; have h2 := blq1.out g hg2; have y1 := z1.out; have y2 := z2.out; have y3 := z3.out; have y4 := z4.out; have y5 := z5.out; have y6 := z6.out; have y7 := z7.out; have y8 := z8.out; have y9 := z9.out; have y10 := z10.out; have y11 := z11.out; have y12 := z12.out; have y13 := z13.out; have y15 := z15.out; have y16 := z16.out; have y17 := z17.out; omega)
  replace hx1 : OwnI w18 _ (.slice Ax1 V.length cx1) (V) := own_row hx1 hr18 (fun g hg hg2 => by have h1 := blx0.out g hg; have h2 := blx1.out g hg2; have y1 := z1.out; have y2 := z2.out; have y3 := z3.out; have y4 := z4.out; have y5 := z5.out; have y6 := z6.out; have y7 := z7.out; have y8 := z8.out; have y9 := z9.out; have y10 := z10.out; have y11 := z11.out; have y12 := z12.out; have y13 := z13.out; have y15 := z15.out; have y16 := z16.out; have y17 := z17.out; omega)
  replace hg0 : OwnI w18 _ (.slice Ag0 R1.length cg0) (R1) := own_row hg0 hr18 (fun g hg hg2 => by have h1 := blx0.out g hg; have h2 := blg0.out g hg2; have y1 := z1.out; have y2 := z2.out; have y3 := z3.out; have y4 := z4.out; have y5 := z5.out; have y6 := z6.out; have y7 := z7.out; have y8 := z8.out; have y9 := z9.out; have y10 := z10.out; have y11 := z11.out; have y12 := z12.out; have y13 := z13.out; have y15 := z15.out; have y16 := z16.out; have y17 := z17.out; omega)
  replace hg1 : OwnI w18 _ (.slice Ag1 R2.length cg1) (R2) := own_row hg1 hr18 (fun g hg hg2 => by have h1 := blx0.out g hg; have h2 := blg1.out g hg2; have y1 := z1.out; have y2 := z2.out; have y3 := z3.out; have y4 := z4.out; have y5 := z5.out; have y6 := z6.out; have y7 := z7.out; have y8 := z8.out; have y9 := z9.out; have y10 := z10.out; have y11 := z11.out; have y12 := z12.out; have y13 := z13.out; have y15 := z15.out; have y16 := z16.out; have y17 := z17.out; omega)
  replace HBp := Lib.hid ((hr18.block w.heap.size (blk_lt HBp.out) (fun hg => by have h1 := blx0.out _ hg.symm; have y1 := z1.out; have y2 := z2.out; have y3 := z3.out; have y4 := z4.out; have y5 := z5.out; have y6 := z6.out; have y7 := z7.out; have y8 := z8.out; have y9 := z9.out; have y10 := z10.out; have y11 := z11.out; have y12 := z12.out; have y13 := z13.out; have y15 := z15.out; have y16 := z16.out; have y17 := z17.out; omega)).trans HBp.out)
  replace HBq := Lib.hid ((hr18.block w5.heap.size (blk_lt HBq.out) (fun hg => by have h1 := blx0.out _ hg.symm; have y1 := z1.out; have y2 := z2.out; have y3 := z3.out; have y4 := z4.out; have y5 := z5.out; have y6 := z6.out; have y7 := z7.out; have y8 := z8.out; have y9 := z9.out; have y10 := z10.out; have y11 := z11.out; have y12 := z12.out; have y13 := z13.out; have y15 := z15.out; have y16 := z16.out; have y17 := z17.out; omega)).trans HBq.out)
  replace HBx := Lib.hid ((hr18.block w7.heap.size (blk_lt HBx.out) (fun hg => by have h1 := blx0.out _ hg.symm; have y1 := z1.out; have y2 := z2.out; have y3 := z3.out; have y4 := z4.out; have y5 := z5.out; have y6 := z6.out; have y7 := z7.out; have y8 := z8.out; have y9 := z9.out; have y10 := z10.out; have y11 := z11.out; have y12 := z12.out; have y13 := z13.out; have y15 := z15.out; have y16 := z16.out; have y17 := z17.out; omega)).trans HBx.out)
  replace HBg := Lib.hid ((hr18.block w10.heap.size (blk_lt HBg.out) (fun hg => by have h1 := blx0.out _ hg.symm; have y1 := z1.out; have y2 := z2.out; have y3 := z3.out; have y4 := z4.out; have y5 := z5.out; have y6 := z6.out; have y7 := z7.out; have y8 := z8.out; have y9 := z9.out; have y10 := z10.out; have y11 := z11.out; have y12 := z12.out; have y13 := z13.out; have y15 := z15.out; have y16 := z16.out; have y17 := z17.out; omega)).trans HBg.out)
  clear hr18 g17
  clear kp0 kp1 kq0 kq1 kx0 kx1 kg0 kg1
  have kp0 : w18.cell? ⟨w.heap.size, 0, none⟩ = some (.int .i64 sz) := by rw [blk_cell HBp.out]; rfl
  have kp1 : w18.cell? ⟨w.heap.size, 1, none⟩ = some (.slice A0 m c0) := by rw [blk_cell HBp.out]; rfl
  have kq0 : w18.cell? ⟨w5.heap.size, 0, none⟩ = some (.int .i64 (R1.length : Int)) := by rw [blk_cell HBq.out]; rfl
  have kq1 : w18.cell? ⟨w5.heap.size, 1, none⟩ = some (.slice Aq0 R1.length cq0) := by rw [blk_cell HBq.out]; rfl
  have kx0 : w18.cell? ⟨w7.heap.size, 0, none⟩ = some (.int .i64 sz) := by rw [blk_cell HBx.out]; rfl
  have kx1 : w18.cell? ⟨w7.heap.size, 1, none⟩ = some (.slice Ax0 L.length cx0) := by rw [blk_cell HBx.out]; rfl
  have kg0 : w18.cell? ⟨w10.heap.size, 0, none⟩ = some (.int .i64 (R1.length : Int)) := by rw [blk_cell HBg.out]; rfl
  have kg1 : w18.cell? ⟨w10.heap.size, 1, none⟩ = some (.slice Ag0 R1.length cg0) := by rw [blk_cell HBg.out]; rfl
  go_wp2_with fail
  refine (markInt64S_m _ V _ _ _ hx1 (by omega) (by omega) (by omega)).mono ?_
  rintro e w19 ⟨rfl, hx1, hr19⟩
  have z19 := Lib.hid hr19.size
  have g19 : Grew w w19 := grew_row g18 hr19 (fun g hg => by have h1 := blx1.out g hg; have y1 := z1.out; have y2 := z2.out; have y3 := z3.out; have y4 := z4.out; have y5 := z5.out; have y6 := z6.out; have y7 := z7.out; have y8 := z8.out; have y9 := z9.out; have y10 := z10.out; have y11 := z11.out; have y12 := z12.out; have y13 := z13.out; have y15 := z15.out; have y16 := z16.out; have y17 := z17.out; have y18 := z18.out; omega)
  replace hq0 : OwnI w19 _ (.slice Aq0 R1.length cq0) (R1) := own_row hq0 hr19 (fun g hg hg2 => by have h1 := blx1.out g hg; have h2 := blq0.out g hg2; have y1 := z1.out; have y2 := z2.out; have y3 := z3.out; have y4 := z4.out; have y5 := z5.out; have y6 := z6.out; have y7 := z7.out; have y8 := z8.out; have y9 := z9.out; have y10 := z10.out; have y11 := z11.out; have y12 := z12.out; have y13 := z13.out; have y15 := z15.out; have y16 := z16.out; have y17 := z17.out; have y18 := z18.out; omega)
  replace hq1 : OwnI w19 _ (.slice Aq1 R2.length cq1) (R2) := own_row hq1 hr19 (fun g hg hg2 => by have h1 := blx1.out g hg; have h2 := blq1.out g hg2; have y1 := z1.out; have y2 := z2.out; have y3 := z3.out; have y4 := z4.out; have y5 := z5.out; have y6 := z6.out; have y7 := z7.out; have y8 := z8.out; have y9 := z9.out; have y10 := z10.out; have y11 := z11.out; have y12 := z12.out; have y13 := z13.out; have y15 := z15.out; have y16 := z16.out; have y17 := z17.out; have y18 := z18.out; omega)
  replace hx0 : OwnI w19 _ (.slice Ax0 L.length cx0) (imarks 1 L.length) := own_row hx0 hr19 (fun g hg hg2 => by have h1 := blx1.out g hg; have h2 := blx0.out g hg2; have y1 := z1.out; have y2 := z2.out; have y3 := z3.out; have y4 := z4.out; have y5 := z5.out; have y6 := z6.out; have y7 := z7.out; have y8 := z8.out; have y9 := z9.out; have y10 := z10.out; have y11 := z11.out; have y12 := z12.out; have y13 := z13.out; have y15 := z15.out; have y16 := z16.out; have y17 := z17.out; have y18 := z18.out; omega)
  replace hg0 : OwnI w19 _ (.slice Ag0 R1.length cg0) (R1) := own_row hg0 hr19 (fun g hg hg2 => by have h1 := blx1.out g hg; have h2 := blg0.out g hg2; have y1 := z1.out; have y2 := z2.out; have y3 := z3.out; have y4 := z4.out; have y5 := z5.out; have y6 := z6.out; have y7 := z7.out; have y8 := z8.out; have y9 := z9.out; have y10 := z10.out; have y11 := z11.out; have y12 := z12.out; have y13 := z13.out; have y15 := z15.out; have y16 := z16.out; have y17 := z17.out; have y18 := z18.out; omega)
  replace hg1 : OwnI w19 _ (.slice Ag1 R2.length cg1) (R2) := own_row hg1 hr19 (fun g hg hg2 => by have h1 := blx1.out g hg; have h2 := blg1.out g hg2; have y1 := z1.out; have y2 := z2.out; have y3 := z3.out; have y4 := z4.out; have y5 := z5.out; have y6 := z6.out; have y7 := z7.out; have y8 := z8.out; have y9 := z9.out; have y10 := z10.out; have y11 := z11.out; have y12 := z12.out; have y13 := z13.out; have y15 := z15.out; have y16 := z16.out; have y17 := z17.out; have y18 := z18.out; omega)
  replace HBp := Lib.hid ((hr19.block w.heap.size (blk_lt HBp.out) (fun hg => by have h1 := blx1.out _ hg.symm; have y1 := z1.out; have y2 := z2.out; have y3 := z3.out; have y4 := z4.out; have y5 := z5.out; have y6 := z6.out; have y7 := z7.out; have y8 := z8.out; have y9 := z9.out; have y10 := z10.out; have y11 := z11.out; have y12 := z12.out; have y13 := z13.out; have y15 := z15.out; have y16 := z16.out; have y17 := z17.out; have y18 := z18.out; omega)).trans HBp.out)
  replace HBq := Lib.hid ((hr19.block w5.heap.size (blk_lt HBq.out) (fun hg => by have h1 := blx1.out _ hg.symm; have y1 := z1.out; have y2 := z2.out; have y3 := z3.out; have y4 := z4.out; have y5 := z5.out; have y6 := z6.out; have y7 := z7.out; have y8 := z8.out; have y9 := z9.out; have y10 := z10.out; have y11 := z11.out; have y12 := z12.out; have y13 := z13.out; have y15 := z15.out; have y16 := z16.out; have y17 := z17.out; have y18 := z18.out; omega)).trans HBq.out)
  replace HBx := Lib.hid ((hr19.block w7.heap.size (blk_lt HBx.out) (fun hg => by have h1 := blx1.out _ hg.symm; have y1 := z1.out; have y2 := z2.out; have y3 := z3.out; have y4 := z4.out; have y5 := z5.out; have y6 := z6.out; have y7 := z7.out; have y8 := z8.out; have y9 := z9.out; have y10 := z10.out; have y11 := z11.out; have y12 := z12.out; have y13 := z13.out; have y15 := z15.out; have y16 := z16.out; have y17 := z17.out; have y18 := z18.out; omega)).trans HBx.out)
  replace HBg := Lib.hid ((hr19.block w10.heap.size (blk_lt HBg.out) (fun hg => by have h1 := blx1.out _ hg.symm; have y1 := z1.out; have y2 := z2.out; have y3 := z3.out; have y4 := z4.out; have y5 := z5.out; have y6 := z6.out; have y7 := z7.out; have y8 := z8.out; have y9 := z9.out; have y10 := z10.out; have y11 := z11.out; have y12 := z12.out; have y13 := z13.out; have y15 := z15.out; have y16 := z16.out; have y17 := z17.out; have y18 := z18.out; omega)).trans HBg.out)
  clear hr19 g18
  clear hx0 blx0
  clear hx1 blx1
  clear HBx
  clear kp0 kp1 kq0 kq1 kx0 kx1 kg0 kg1
  have kp0 : w19.cell? ⟨w.heap.size, 0, none⟩ = some (.int .i64 sz) := by rw [blk_cell HBp.out]; rfl
  have kp1 : w19.cell? ⟨w.heap.size, 1, none⟩ = some (.slice A0 m c0) := by rw [blk_cell HBp.out]; rfl
  have kq0 : w19.cell? ⟨w5.heap.size, 0, none⟩ = some (.int .i64 (R1.length : Int)) := by rw [blk_cell HBq.out]; rfl
  have kq1 : w19.cell? ⟨w5.heap.size, 1, none⟩ = some (.slice Aq0 R1.length cq0) := by rw [blk_cell HBq.out]; rfl
  have kg0 : w19.cell? ⟨w10.heap.size, 0, none⟩ = some (.int .i64 (R1.length : Int)) := by rw [blk_cell HBg.out]; rfl
  have kg1 : w19.cell? ⟨w10.heap.size, 1, none⟩ = some (.slice Ag0 R1.length cg0) := by rw [blk_cell HBg.out]; rfl
  go_wp2_with fail
  refine (eqPoset_yes _ _ _ R1 _ hg0.ints hq0.ints (by omega)).mono ?_
  rintro e w20 ⟨rfl, hg20⟩
  have z20 := Lib.hid hg20.size
  have g20 : Grew w w20 := g19.trans hg20
  replace hq0 := hq0.grew hg20
  replace hq1 := hq1.grew hg20
  replace hg0 := hg0.grew hg20
  replace hg1 := hg1.grew hg20
  replace HBp := Lib.hid ((hg20.block (blk_lt HBp.out)).trans HBp.out)
  replace HBq := Lib.hid ((hg20.block (blk_lt HBq.out)).trans HBq.out)
  replace HBg := Lib.hid ((hg20.block (blk_lt HBg.out)).trans HBg.out)
  clear hg20 g19
  clear kp0 kp1 kq0 kq1 kg0 kg1
  have kp0 : w20.cell? ⟨w.heap.size, 0, none⟩ = some (.int .i64 sz) := by rw [blk_cell HBp.out]; rfl
  have kp1 : w20.cell? ⟨w.heap.size, 1, none⟩ = some (.slice A0 m c0) := by rw [blk_cell HBp.out]; rfl
  have kq0 : w20.cell? ⟨w5.heap.size, 0, none⟩ = some (.int .i64 (R1.length : Int)) := by rw [blk_cell HBq.out]; rfl
  have kq1 : w20.cell? ⟨w5.heap.size, 1, none⟩ = some (.slice Aq0 R1.length cq0) := by rw [blk_cell HBq.out]; rfl
  have kg0 : w20.cell? ⟨w10.heap.size, 0, none⟩ = some (.int .i64 (R1.length : Int)) := by rw [blk_cell HBg.out]; rfl
  have kg1 : w20.cell? ⟨w10.heap.size, 1, none⟩ = some (.slice Ag0 R1.length cg0) := by rw [blk_cell HBg.out]; rfl
  go_wp2_with fail
  refine (eqInt64S_yes _ _ R2 _ hg1.ints hq1.ints (by omega)).mono ?_
  rintro e w21 ⟨rfl, hg21⟩
  have z21 := Lib.hid hg21.size
  have g21 : Grew w w21 := g20.trans hg21
  replace hq0 := hq0.grew hg21
  replace hq1 := hq1.grew hg21
  replace hg0 := hg0.grew hg21
  replace hg1 := hg1.grew hg21
  replace HBp := Lib.hid ((hg21.block (blk_lt HBp.out)).trans HBp.out)
  replace HBq := Lib.hid ((hg21.block (blk_lt HBq.out)).trans HBq.out)
  replace HBg := Lib.hid ((hg21.block (blk_lt HBg.out)).trans HBg.out)
  clear hg21 g20
  clear kp0 kp1 kq0 kq1 kg0 kg1
  have kp0 : w21.cell? ⟨w.heap.size, 0, none⟩ = some (.int .i64 sz) := by rw [blk_cell HBp.out]; rfl
  have kp1 : w21.cell? ⟨w.heap.size, 1, none⟩ = some (.slice A0 m c0) := by rw [blk_cell HBp.out]; rfl
  have kq0 : w21.cell? ⟨w5.heap.size, 0, none⟩ = some (.int .i64 (R1.length : Int)) := by rw [blk_cell HBq.out]; rfl
  have kq1 : w21.cell? ⟨w5.heap.size, 1, none⟩ = some (.slice Aq0 R1.length cq0) := by rw [blk_cell HBq.out]; rfl
  have kg0 : w21.cell? ⟨w10.heap.size, 0, none⟩ = some (.int .i64 (R1.length : Int)) := by rw [blk_cell HBg.out]; rfl
  have kg1 : w21.cell? ⟨w10.heap.size, 1, none⟩ = some (.slice Ag0 R1.length cg0) := by rw [blk_cell HBg.out]; rfl
  go_wp2_with fail
  refine (markPoset_m _ _ R1 _ 1 _ hg0 (by omega) (by omega) (by omega)).mono ?_
  rintro e w22 ⟨rfl, hg0, hr22⟩
  have z22 := Lib.hid hr22.size
  have g22 : Grew w w22 := grew_row g21 hr22 (fun g hg => by have h1 := blg0.out g hg; have y1 := z1.out; have y2 := z2.out; have y3 := z3.out; have y4 := z4.out; have y5 := z5.out; have y6 := z6.out; have y7 := z7.out; have y8 := z8.out; have y9 := z9.out; have y10 := z10.out; have y11 := z11.out; have y12 := z12.out; have y13 := z13.out; have y15 := z15.out; have y16 := z16.out; have y17 := z17.out; have y18 := z18.out; have y19 := z19.out; have y20 := z20.out; have y21 := z21.out; omega)
  replace hq0 : OwnI w22 _ (.slice Aq0 R1.length cq0) (R1) := own_row hq0 hr22 (fun g hg hg2 => by have h1 := blg0.out g hg; have h2 := blq0.out g hg2; have y1 := z1.out; have y2 := z2.out; have y3 := z3.out; have y4 := z4.out; have y5 := z5.out; have y6 := z6.out; have y7 := z7.out; have y8 := z8.out; have y9 := z9.out; have y10 := z10.out; have y11 := z11.out; have y12 := z12.out; have y13 := z13.out; have y15 := z15.out; have y16 := z16.out; have y17 := z17.out; have y18 := z18.out; have y19 := z19.out; have y20 := z20.out; have y21 := z21.out; omega)
  replace hq1 : OwnI w22 _ (.slice Aq1 R2.length cq1) (R2) := own_row hq1 hr22 (fun g hg hg2 => by have h1 := blg0.out g hg; have h2 := blq1.out g hg2; have y1 := z1.out; have y2 := z2.out; have y3 := z3.out; have y4 := z4.out; have y5 := z5.out; have y6 := z6.out; have y7 := z7.out; have y8 := z8.out; have y9 := z9.out; have y10 := z10.out; have y11 := z11.out; have y12 := z12.out; have y13 := z13.out; have y15 := z15.out; have y16 := z16.out; have y17 := z17.out; have y18 := z18.out; have y19 := z19.out; have y20 := z20.out; have y21 := z21.out; omega)
  replace hg1 : OwnI w22 _ (.slice Ag1 R2.length cg1) (R2) := own_row hg1 hr22 (fun g hg hg2 => AP.out g hg hg2)
  replace HBp := Lib.hid ((hr22.block w.heap.size (blk_lt HBp.out) (fun hg => by have h1 := blg0.out _ hg.symm; have y1 := z1.out; have y2 := z2.out; have y3 := z3.out; have y4 := z4.out; have y5 := z5.out; have y6 := z6.out; have y7 := z7.out; have y8 := z8.out; have y9 := z9.out; have y10 := z10.out; have y11 := z11.out; have y12 := z12.out; have y13 := z13.out; have y15 := z15.out; have y16 := z16.out; have y17 := z17.out; have y18 := z18.out; have y19 := z19.out; have y20 := z20.out; have y21 := z21.out; omega)).trans HBp.out)
  replace HBq := Lib.hid ((hr22.block w5.heap.size (blk_lt HBq.out) (fun hg => by have h1 := blg0.out _ hg.symm; have y1 := z1.out; have y2 := z2.out; have y3 := z3.out; have y4 := z4.out; have y5 := z5.out; have y6 := z6.out; have y7 := z7.out; have y8 := z8.out; have y9 := z9.out; have y10 := z10.out; have y11 := z11.out; have y12 := z12.out; have y13 := z13.out; have y15 := z15.out; have y16 := z16.out; have y17 := z17.out; have y18 := z18.out; have y19 := z19.out; have y20 := z20.out; have y21 := z21.out; omega)).trans HBq.out)
  replace HBg := Lib.hid ((hr22.block w10.heap.size (blk_lt HBg.out) (fun hg => by have h1 := blg0.out _ hg.symm; have y1 := z1.out; have y2 := z2.out; have y3 := z3.out; have y4 := z4.out; have y5 := z5.out; have y6 := z6.out; have y7 := z7.out; have y8 := z8.out; have y9 := z9.out; have y10 := z10.out; have y11 := z11.out; have y12 := z12.out; have y13 := z13.out; have y15 := z15.out; have y16 := z16.out; have y17 := z17.out; have y18 := z18.out; have y19 := z19.out; have y20 := z20.out; have y21 := z21.out; omega)).trans HBg.out)
  clear hr22 g21
  clear kp0 kp1 kq0 kq1 kg0 kg1
  have kp0 : w22.cell? ⟨w.heap.size, 0, none⟩ = some (.int .i64 sz) := by rw [blk_cell HBp.out]; rfl
  have kp1 : w22.cell? ⟨w.heap.size, 1, none⟩ = some (.slice A0 m c0) := by rw [blk_cell HBp.out]; rfl
  have kq0 : w22.cell? ⟨w5.heap.size, 0, none⟩ = some (.int .i64 (R1.length : Int)) := by rw [blk_cell HBq.out]; rfl
  have kq1 : w22.cell? ⟨w5.heap.size, 1, none⟩ = some (.slice Aq0 R1.length cq0) := by rw [blk_cell HBq.out]; rfl
  have kg0 : w22.cell? ⟨w10.heap.size, 0, none⟩ = some (.int .i64 (R1.length : Int)) := by rw [blk_cell HBg.out]; rfl
  have kg1 : w22.cell? ⟨w10.heap.size, 1, none⟩ = some (.slice Ag0 R1.length cg0) := by rw [blk_cell HBg.out]; rfl
  go_wp2_with fail
  refine (markInt64S_m _ R2 _ _ _ hg1 (by omega) (by omega) (by omega)).mono ?_
  rintro e w23 ⟨rfl, hg1, hr23⟩
  have z23 := Lib.hid hr23.size
  have g23 : Grew w w23 := grew_row g22 hr23 (fun g hg => by have h1 := blg1.out g hg; have y1 := z1.out; have y2 := z2.out; have y3 := z3.out; have y4 := z4.out; have y5 := z5.out; have y6 := z6.out; have y7 := z7.out; have y8 := z8.out; have y9 := z9.out; have y10 := z10.out; have y11 := z11.out; have y12 := z12.out; have y13 := z13.out; have y15 := z15.out; have y16 := z16.out; have y17 := z17.out; have y18 := z18.out; have y19 := z19.out; have y20 := z20.out; have y21 := z21.out; have y22 := z22.out; omega)
  replace hq0 : OwnI w23 _ (.slice Aq0 R1.length cq0) (R1) := own_row hq0 hr23 (fun g hg hg2 => by have h1 := blg1.out g hg; have h2 := blq0.out g hg2; have y1 := z1.out; have y2 := z2.out; have y3 := z3.out; have y4 := z4.out; have y5 := z5.out; have y6 := z6.out; have y7 := z7.out; have y8 := z8.out; have y9 := z9.out; have y10 := z10.out; have y11 := z11.out; have y12 := z12.out; have y13 := z13.out; have y15 := z15.out; have y16 := z16.out; have y17 := z17.out; have y18 := z18.out; have y19 := z19.out; have y20 := z20.out; have y21 := z21.out; have y22 := z22.out; omega)
  replace hq1 : OwnI w23 _ (.slice Aq1 R2.length cq1) (R2) := own_row hq1 hr23 (fun g hg hg2 => by have h1 := blg1.out g hg; have h2 := blq1.out g hg2; have y1 := z1.out; have y2 := z2.out; have y3 := z3.out; have y4 := z4.out; have y5 := z5.out; have y6 := z6.out; have y7 := z7.out; have y8 := z8.out; have y9 := z9.out; have y10 := z10.out; have y11 := z11.out; have y12 := z12.out; have y13 := z13.out; have y15 := z15.out; have y16 := z16.out; have y17 := z17.out; have y18 := z18.out; have y19 := z19.out; have y20 := z20.out; have y21 := z21.out; have y22 := z22.out; omega)
  replace hg0 : OwnI w23 _ (.slice Ag0 R1.length cg0) (imarks 1 R1.length) := own_row hg0 hr23 (fun g hg hg2 => AP.out g hg2 hg)
  replace HBp := Lib.hid ((hr23.block w.heap.size (blk_lt HBp.out) (fun hg => by have h1 := blg1.out _ hg.symm; have y1 := z1.out; have y2 := z2.out; have y3 := z3.out; have y4 := z4.out; have y5 := z5.out; have y6 := z6.out; have y7 := z7.out; have y8 := z8.out; have y9 := z9.out; have y10 := z10.out; have y11 := z11.out; have y12 := z12.out; have y13 := z13.out; have y15 := z15.out; have y16 := z16.out; have y17 := z17.out; have y18 := z18.out; have y19 := z19.out; have y20 := z20.out; have y21 := z21.out; have y22 := z22.out; omega)).trans HBp.out)
  replace HBq := Lib.hid ((hr23.block w5.heap.size (blk_lt HBq.out) (fun hg => by have h1 := blg1.out _ hg.symm; have y1 := z1.out; have y2 := z2.out; have y3 := z3.out; have y4 := z4.out; have y5 := z5.out; have y6 := z6.out; have y7 := z7.out; have y8 := z8.out; have y9 := z9.out; have y10 := z10.out; have y11 := z11.out; have y12 := z12.out; have y13 := z13.out; have y15 := z15.out; have y16 := z16.out; have y17 := z17.out; have y18 := z18.out; have y19 := z19.out; have y20 := z20.out; have y21 := z21.out; have y22 := z22.out; omega)).trans HBq.out)
  replace HBg := Lib.hid ((hr23.block w10.heap.size (blk_lt HBg.out) (fun hg => by have h1 := blg1.out _ hg.symm; have y1 := z1.out; have y2 := z2.out; have y3 := z3.out; have y4 := z4.out; have y5 := z5.out; have y6 := z6.out; have y7 := z7.out; have y8 := z8.out; have y9 := z9.out; have y10 := z10.out; have y11 := z11.out; have y12 := z12.out; have y13 := z13.out; have y15 := z15.out; have y16 := z16.out; have y17 := z17.out; have y18 := z18.out; have y19 := z19.out; have y20 := z20.out; have y21 := z21.out; have y22 := z22.out; omega)).trans HBg.out)
  clear hr23 g22
  clear kp0 kp1 kq0 kq1 kg0 kg1
  have kp0 : w23.cell? ⟨w.heap.size, 0, none⟩ = some (.int .i64 sz) := by rw [blk_cell HBp.out]; rfl
  have kp1 : w23.cell? ⟨w.heap.size, 1, none⟩ = some (.slice A0 m c0) := by rw [blk_cell HBp.out]; rfl
  have kq0 : w23.cell? ⟨w5.heap.size, 0, none⟩ = some (.int .i64 (R1.length : Int)) := by rw [blk_cell HBq.out]; rfl
  have kq1 : w23.cell? ⟨w5.heap.size, 1, none⟩ = some (.slice Aq0 R1.length cq0) := by rw [blk_cell HBq.out]; rfl
  have kg0 : w23.cell? ⟨w10.heap.size, 0, none⟩ = some (.int .i64 (R1.length : Int)) := by rw [blk_cell HBg.out]; rfl
  have kg1 : w23.cell? ⟨w10.heap.size, 1, none⟩ = some (.slice Ag0 R1.length cg0) := by rw [blk_cell HBg.out]; rfl
  go_wp2_with fail
  refine (heldPoset_c _ _ R1.length 1 _ hg0.ints (by omega) (by omega) (by omega)).mono ?_
  rintro e w24 ⟨rfl, hg24⟩
  have z24 := Lib.hid hg24.size
  have g24 : Grew w w24 := g23.trans hg24
  replace hq0 := hq0.grew hg24
  replace hq1 := hq1.grew hg24
  replace hg0 := hg0.grew hg24
  replace hg1 := hg1.grew hg24
  replace HBp := Lib.hid ((hg24.block (blk_lt HBp.out)).trans HBp.out)
  replace HBq := Lib.hid ((hg24.block (blk_lt HBq.out)).trans HBq.out)
  replace HBg := Lib.hid ((hg24.block (blk_lt HBg.out)).trans HBg.out)
  clear hg24 g23
  clear kp0 kp1 kq0 kq1 kg0 kg1
  have kp0 : w24.cell? ⟨w.heap.size, 0, none⟩ = some (.int .i64 sz) := by rw [blk_cell HBp.out]; rfl
  have kp1 : w24.cell? ⟨w.heap.size, 1, none⟩ = some (.slice A0 m c0) := by rw [blk_cell HBp.out]; rfl
  have kq0 : w24.cell? ⟨w5.heap.size, 0, none⟩ = some (.int .i64 (R1.length : Int)) := by rw [blk_cell HBq.out]; rfl
  have kq1 : w24.cell? ⟨w5.heap.size, 1, none⟩ = some (.slice Aq0 R1.length cq0) := by rw [blk_cell HBq.out]; rfl
  have kg0 : w24.cell? ⟨w10.heap.size, 0, none⟩ = some (.int .i64 (R1.length : Int)) := by rw [blk_cell HBg.out]; rfl
  have kg1 : w24.cell? ⟨w10.heap.size, 1, none⟩ = some (.slice Ag0 R1.length cg0) := by rw [blk_cell HBg.out]; rfl
  go_wp2_with fail
  refine (heldInt64S_c _ R2.length _ _ hg1.ints (by omega) (by omega) (by omega)).mono ?_
  rintro e w25 ⟨rfl, hg25⟩
  have z25 := Lib.hid hg25.size
  have g25 : Grew w w25 := g24.trans hg25
  replace hq0 := hq0.grew hg25
  replace hq1 := hq1.grew hg25
  replace hg0 := hg0.grew hg25
  replace hg1 := hg1.grew hg25
  replace HBp := Lib.hid ((hg25.block (blk_lt HBp.out)).trans HBp.out)
  replace HBq := Lib.hid ((hg25.block (blk_lt HBq.out)).trans HBq.out)
  replace HBg := Lib.hid ((hg25.block (blk_lt HBg.out)).trans HBg.out)
  clear hg25 g24
  clear kp0 kp1 kq0 kq1 kg0 kg1
  have kp0 : w25.cell? ⟨w.heap.size, 0, none⟩ = some (.int .i64 sz) := by rw [blk_cell HBp.out]; rfl
  have kp1 : w25.cell? ⟨w.heap.size, 1, none⟩ = some (.slice A0 m c0) := by rw [blk_cell HBp.out]; rfl
  have kq0 : w25.cell? ⟨w5.heap.size, 0, none⟩ = some (.int .i64 (R1.length : Int)) := by rw [blk_cell HBq.out]; rfl
  have kq1 : w25.cell? ⟨w5.heap.size, 1, none⟩ = some (.slice Aq0 R1.length cq0) := by rw [blk_cell HBq.out]; rfl
  have kg0 : w25.cell? ⟨w10.heap.size, 0, none⟩ = some (.int .i64 (R1.length : Int)) := by rw [blk_cell HBg.out]; rfl
  have kg1 : w25.cell? ⟨w10.heap.size, 1, none⟩ = some (.slice Ag0 R1.length cg0) := by rw [blk_cell HBg.out]; rfl
  go_wp2_with fail
  refine (T0.out _ g25).mono ?_
  rintro e w26 ⟨y0, rfl, hy0, hg26⟩
  have z26 := Lib.hid hg26.size
  have g26 : Grew w w26 := g25.trans hg26
  replace hq0 := hq0.grew hg26
  replace hq1 := hq1.grew hg26
  replace hg0 := hg0.grew hg26
  replace hg1 := hg1.grew hg26
  replace HBp := Lib.hid ((hg26.block (blk_lt HBp.out)).trans HBp.out)
  replace HBq := Lib.hid ((hg26.block (blk_lt HBq.out)).trans HBq.out)
  replace HBg := Lib.hid ((hg26.block (blk_lt HBg.out)).trans HBg.out)
  clear hg26 g25
  obtain ⟨Ay0, cy0, rfl⟩ := ints_slice hy0.ints
  have bly0 := Lib.hid (fun g (hg : (.slice Ay0 L.length cy0 : Value).ownBlock = some g) => (⟨own_of_ge hy0 hg, (World.ownsRow.lt hy0 g hg).2⟩ : _ ∧ _))
  clear kp0 kp1 kq0 kq1 kg0 kg1
  have kp0 : w26.cell? ⟨w.heap.size, 0, none⟩ = some (.int .i64 sz) := by rw [blk_cell HBp.out]; rfl
  have kp1 : w26.cell? ⟨w.heap.size, 1, none⟩ = some (.slice A0 m c0) := by rw [blk_cell HBp.out]; rfl
  have kq0 : w26.cell? ⟨w5.heap.size, 0, none⟩ = some (.int .i64 (R1.length : Int)) := by rw [blk_cell HBq.out]; rfl
  have kq1 : w26.cell? ⟨w5.heap.size, 1, none⟩ = some (.slice Aq0 R1.length cq0) := by rw [blk_cell HBq.out]; rfl
  have kg0 : w26.cell? ⟨w10.heap.size, 0, none⟩ = some (.int .i64 (R1.length : Int)) := by rw [blk_cell HBg.out]; rfl
  have kg1 : w26.cell? ⟨w10.heap.size, 1, none⟩ = some (.slice Ag0 R1.length cg0) := by rw [blk_cell HBg.out]; rfl
  go_wp2_with fail
  refine (T1.out _ g26).mono ?_
  rintro e w27 ⟨y1, rfl, hy1, hg27⟩
  have z27 := Lib.hid hg27.size
  have g27 : Grew w w27 := g26.trans hg27
  replace hq0 := hq0.grew hg27
  replace hq1 := hq1.grew hg27
  replace hg0 := hg0.grew hg27
  replace hg1 := hg1.grew hg27
  replace hy0 := hy0.grew hg27
  replace HBp := Lib.hid ((hg27.block (blk_lt HBp.out)).trans HBp.out)
  replace HBq := Lib.hid ((hg27.block (blk_lt HBq.out)).trans HBq.out)
  replace HBg := Lib.hid ((hg27.block (blk_lt HBg.out)).trans HBg.out)
  clear hg27 g26
  obtain ⟨Ay1, cy1, rfl⟩ := ints_slice hy1.ints
  have bly1 := Lib.hid (fun g (hg : (.slice Ay1 V.length cy1 : Value).ownBlock = some g) => (⟨own_of_ge hy1 hg, (World.ownsRow.lt hy1 g hg).2⟩ : _ ∧ _))
  clear kp0 kp1 kq0 kq1 kg0 kg1
  have kp0 : w27.cell? ⟨w.heap.size, 0, none⟩ = some (.int .i64 sz) := by rw [blk_cell HBp.out]; rfl
  have kp1 : w27.cell? ⟨w.heap.size, 1, none⟩ = some (.slice A0 m c0) := by rw [blk_cell HBp.out]; rfl
  have kq0 : w27.cell? ⟨w5.heap.size, 0, none⟩ = some (.int .i64 (R1.length : Int)) := by rw [blk_cell HBq.out]; rfl
  have kq1 : w27.cell? ⟨w5.heap.size, 1, none⟩ = some (.slice Aq0 R1.length cq0) := by rw [blk_cell HBq.out]; rfl
  have kg0 : w27.cell? ⟨w10.heap.size, 0, none⟩ = some (.int .i64 (R1.length : Int)) := by rw [blk_cell HBg.out]; rfl
  have kg1 : w27.cell? ⟨w10.heap.size, 1, none⟩ = some (.slice Ag0 R1.length cg0) := by rw [blk_cell HBg.out]; rfl
  go_wp2_with fail
  refine (KI.out _ _ _ hy0.ints hy1.ints).mono ?_
  rintro e w28 ⟨h0, h1, rfl, hh0, hh1, aph0, hg28⟩
  have z28 := Lib.hid hg28.size
  have g28 : Grew w w28 := g27.trans hg28
  replace hq0 := hq0.grew hg28
  replace hq1 := hq1.grew hg28
  replace hg0 := hg0.grew hg28
  replace hg1 := hg1.grew hg28
  replace hy0 := hy0.grew hg28
  replace hy1 := hy1.grew hg28
  replace HBp := Lib.hid ((hg28.block (blk_lt HBp.out)).trans HBp.out)
  replace HBq := Lib.hid ((hg28.block (blk_lt HBq.out)).trans HBq.out)
  replace HBg := Lib.hid ((hg28.block (blk_lt HBg.out)).trans HBg.out)
  clear hg28 g27
  obtain ⟨Ah0, ch0, rfl⟩ := ints_slice hh0.ints
  obtain ⟨Ah1, ch1, rfl⟩ := ints_slice hh1.ints
  have blh0 := Lib.hid (fun g (hg : (.slice Ah0 R1.length ch0 : Value).ownBlock = some g) => (⟨own_of_ge hh0 hg, (World.ownsRow.lt hh0 g hg).2⟩ : _ ∧ _))
  have blh1 := Lib.hid (fun g (hg : (.slice Ah1 R2.length ch1 : Value).ownBlock = some g) => (⟨own_of_ge hh1 hg, (World.ownsRow.lt hh1 g hg).2⟩ : _ ∧ _))
  clear aph0
  clear hy0 bly0
  clear hy1 bly1
  clear kp0 kp1 kq0 kq1 kg0 kg1
  have kp0 : w28.cell? ⟨w.heap.size, 0, none⟩ = some (.int .i64 sz) := by rw [blk_cell HBp.out]; rfl
  have kp1 : w28.cell? ⟨w.heap.size, 1, none⟩ = some (.slice A0 m c0) := by rw [blk_cell HBp.out]; rfl
  have kq0 : w28.cell? ⟨w5.heap.size, 0, none⟩ = some (.int .i64 (R1.length : Int)) := by rw [blk_cell HBq.out]; rfl
  have kq1 : w28.cell? ⟨w5.heap.size, 1, none⟩ = some (.slice Aq0 R1.length cq0) := by rw [blk_cell HBq.out]; rfl
  have kg0 : w28.cell? ⟨w10.heap.size, 0, none⟩ = some (.int .i64 (R1.length : Int)) := by rw [blk_cell HBg.out]; rfl
  have kg1 : w28.cell? ⟨w10.heap.size, 1, none⟩ = some (.slice Ag0 R1.length cg0) := by rw [blk_cell HBg.out]; rfl
  have ap0 : ∀ o, (w28.alloc o).cell? ⟨w.heap.size, 0, none⟩ = some (.int .i64 sz) := fun o => by rw [blk_cell ((((Grew.refl w28).alloc o).block (blk_lt HBp.out)).trans HBp.out)]; rfl
  have ap1 : ∀ o, (w28.alloc o).cell? ⟨w.heap.size, 1, none⟩ = some (.slice A0 m c0) := fun o => by rw [blk_cell ((((Grew.refl w28).alloc o).block (blk_lt HBp.out)).trans HBp.out)]; rfl
  have aq0 : ∀ o, (w28.alloc o).cell? ⟨w5.heap.size, 0, none⟩ = some (.int .i64 (R1.length : Int)) := fun o => by rw [blk_cell ((((Grew.refl w28).alloc o).block (blk_lt HBq.out)).trans HBq.out)]; rfl
  have aq1 : ∀ o, (w28.alloc o).cell? ⟨w5.heap.size, 1, none⟩ = some (.slice Aq0 R1.length cq0) := fun o => by rw [blk_cell ((((Grew.refl w28).alloc o).block (blk_lt HBq.out)).trans HBq.out)]; rfl
  have ag0 : ∀ o, (w28.alloc o).cell? ⟨w10.heap.size, 0, none⟩ = some (.int .i64 (R1.length : Int)) := fun o => by rw [blk_cell ((((Grew.refl w28).alloc o).block (blk_lt HBg.out)).trans HBg.out)]; rfl
  have ag1 : ∀ o, (w28.alloc o).cell? ⟨w10.heap.size, 1, none⟩ = some (.slice Ag0 R1.length cg0) := fun o => by rw [blk_cell ((((Grew.refl w28).alloc o).block (blk_lt HBg.out)).trans HBg.out)]; rfl
  obtain ⟨w29, hw29⟩ : ∃ W, W = w28.alloc (.cells #[.int .i64 (R1.length : Int), .slice Ah0 R1.length ch0] 26) := ⟨_, rfl⟩
  have hg29 : Grew w28 w29 := by rw [hw29]; exact (Grew.refl _).alloc _
  have z29 : Hid (w29.heap.size = w28.heap.size + 1) := Lib.hid (by rw [hw29]; simp)
  have g29 : Grew w w29 := g28.trans hg29
  replace hq0 := hq0.grew hg29
  replace hq1 := hq1.grew hg29
  replace hg0 := hg0.grew hg29
  replace hg1 := hg1.grew hg29
  replace hh0 := hh0.grew hg29
  replace hh1 := hh1.grew hg29
  replace HBp := Lib.hid ((hg29.block (blk_lt HBp.out)).trans HBp.out)
  replace HBq := Lib.hid ((hg29.block (blk_lt HBq.out)).trans HBq.out)
  replace HBg := Lib.hid ((hg29.block (blk_lt HBg.out)).trans HBg.out)
  have HBh : Hid (w29.heap[w28.heap.size]? = some (.cells #[.int .i64 (R1.length : Int), .slice Ah0 R1.length ch0] 26 (0, 0))) := Lib.hid (by rw [hw29]; exact blk_new w28 _)
  clear hg29 g28
  go_wp2_with fail
  simp only [← hw29]
  clear hw29
  refine (eqPoset_yes _ _ _ R1 _ hh0.ints hq0.ints (by omega)).mono ?_
  rintro e w30 ⟨rfl, hg30⟩
  have z30 := Lib.hid hg30.size
  have g30 : Grew w w30 := g29.trans hg30
  replace hq0 := hq0.grew hg30
  replace hq1 := hq1.grew hg30
  replace hg0 := hg0.grew hg30
  replace hg1 := hg1.grew hg30
  replace hh0 := hh0.grew hg30
  replace hh1 := hh1.grew hg30
  replace HBp := Lib.hid ((hg30.block (blk_lt HBp.out)).trans HBp.out)
  replace HBq := Lib.hid ((hg30.block (blk_lt HBq.out)).trans HBq.out)
  replace HBg := Lib.hid ((hg30.block (blk_lt HBg.out)).trans HBg.out)
  replace HBh := Lib.hid ((hg30.block (blk_lt HBh.out)).trans HBh.out)
  clear hg30 g29
  clear kp0 kp1 kq0 kq1 kg0 kg1 ap0 ap1 aq0 aq1 ag0 ag1
  have kp0 : w30.cell? ⟨w.heap.size, 0, none⟩ = some (.int .i64 sz) := by rw [blk_cell HBp.out]; rfl
  have kp1 : w30.cell? ⟨w.heap.size, 1, none⟩ = some (.slice A0 m c0) := by rw [blk_cell HBp.out]; rfl
  have kq0 : w30.cell? ⟨w5.heap.size, 0, none⟩ = some (.int .i64 (R1.length : Int)) := by rw [blk_cell HBq.out]; rfl
  have kq1 : w30.cell? ⟨w5.heap.size, 1, none⟩ = some (.slice Aq0 R1.length cq0) := by rw [blk_cell HBq.out]; rfl
  have kg0 : w30.cell? ⟨w10.heap.size, 0, none⟩ = some (.int .i64 (R1.length : Int)) := by rw [blk_cell HBg.out]; rfl
  have kg1 : w30.cell? ⟨w10.heap.size, 1, none⟩ = some (.slice Ag0 R1.length cg0) := by rw [blk_cell HBg.out]; rfl
  have kh0 : w30.cell? ⟨w28.heap.size, 0, none⟩ = some (.int .i64 (R1.length : Int)) := by rw [blk_cell HBh.out]; rfl
  have kh1 : w30.cell? ⟨w28.heap.size, 1, none⟩ = some (.slice Ah0 R1.length ch0) := by rw [blk_cell HBh.out]; rfl
  go_wp2_with fail
  refine (eqInt64S_yes _ _ R2 _ hh1.ints hq1.ints (by omega)).mono ?_
  rintro e w31 ⟨rfl, hg31⟩
  have z31 := Lib.hid hg31.size
  have g31 : Grew w w31 := g30.trans hg31
  replace hq0 := hq0.grew hg31
  replace hq1 := hq1.grew hg31
  replace hg0 := hg0.grew hg31
  replace hg1 := hg1.grew hg31
  replace hh0 := hh0.grew hg31
  replace hh1 := hh1.grew hg31
  replace HBp := Lib.hid ((hg31.block (blk_lt HBp.out)).trans HBp.out)
  replace HBq := Lib.hid ((hg31.block (blk_lt HBq.out)).trans HBq.out)
  replace HBg := Lib.hid ((hg31.block (blk_lt HBg.out)).trans HBg.out)
  replace HBh := Lib.hid ((hg31.block (blk_lt HBh.out)).trans HBh.out)
  clear hg31 g30
  clear hh0 blh0
  clear hh1 blh1
  clear kp0 kp1 kq0 kq1 kg0 kg1 kh0 kh1
  have kp0 : w31.cell? ⟨w.heap.size, 0, none⟩ = some (.int .i64 sz) := by rw [blk_cell HBp.out]; rfl
  have kp1 : w31.cell? ⟨w.heap.size, 1, none⟩ = some (.slice A0 m c0) := by rw [blk_cell HBp.out]; rfl
  have kq0 : w31.cell? ⟨w5.heap.size, 0, none⟩ = some (.int .i64 (R1.length : Int)) := by rw [blk_cell HBq.out]; rfl
  have kq1 : w31.cell? ⟨w5.heap.size, 1, none⟩ = some (.slice Aq0 R1.length cq0) := by rw [blk_cell HBq.out]; rfl
  have kg0 : w31.cell? ⟨w10.heap.size, 0, none⟩ = some (.int .i64 (R1.length : Int)) := by rw [blk_cell HBg.out]; rfl
  have kg1 : w31.cell? ⟨w10.heap.size, 1, none⟩ = some (.slice Ag0 R1.length cg0) := by rw [blk_cell HBg.out]; rfl
  have kh0 : w31.cell? ⟨w28.heap.size, 0, none⟩ = some (.int .i64 (R1.length : Int)) := by rw [blk_cell HBh.out]; rfl
  have kh1 : w31.cell? ⟨w28.heap.size, 1, none⟩ = some (.slice Ah0 R1.length ch0) := by rw [blk_cell HBh.out]; rfl
  go_wp2_with fail
  refine (heldPoset_c _ _ R1.length 1 _ hg0.ints (by omega) (by omega) (by omega)).mono ?_
  rintro e w32 ⟨rfl, hg32⟩
  have z32 := Lib.hid hg32.size
  have g32 : Grew w w32 := g31.trans hg32
  replace hq0 := hq0.grew hg32
  replace hq1 := hq1.grew hg32
  replace hg0 := hg0.grew hg32
  replace hg1 := hg1.grew hg32
  replace HBp := Lib.hid ((hg32.block (blk_lt HBp.out)).trans HBp.out)
  replace HBq := Lib.hid ((hg32.block (blk_lt HBq.out)).trans HBq.out)
  replace HBg := Lib.hid ((hg32.block (blk_lt HBg.out)).trans HBg.out)
  replace HBh := Lib.hid ((hg32.block (blk_lt HBh.out)).trans HBh.out)
  clear hg32 g31
  clear kp0 kp1 kq0 kq1 kg0 kg1 kh0 kh1
  have kp0 : w32.cell? ⟨w.heap.size, 0, none⟩ = some (.int .i64 sz) := by rw [blk_cell HBp.out]; rfl
  have kp1 : w32.cell? ⟨w.heap.size, 1, none⟩ = some (.slice A0 m c0) := by rw [blk_cell HBp.out]; rfl
  have kq0 : w32.cell? ⟨w5.heap.size, 0, none⟩ = some (.int .i64 (R1.length : Int)) := by rw [blk_cell HBq.out]; rfl
  have kq1 : w32.cell? ⟨w5.heap.size, 1, none⟩ = some (.slice Aq0 R1.length cq0) := by rw [blk_cell HBq.out]; rfl
  have kg0 : w32.cell? ⟨w10.heap.size, 0, none⟩ = some (.int .i64 (R1.length : Int)) := by rw [blk_cell HBg.out]; rfl
  have kg1 : w32.cell? ⟨w10.heap.size, 1, none⟩ = some (.slice Ag0 R1.length cg0) := by rw [blk_cell HBg.out]; rfl
  have kh0 : w32.cell? ⟨w28.heap.size, 0, none⟩ = some (.int .i64 (R1.length : Int)) := by rw [blk_cell HBh.out]; rfl
  have kh1 : w32.cell? ⟨w28.heap.size, 1, none⟩ = some (.slice Ah0 R1.length ch0) := by rw [blk_cell HBh.out]; rfl
  go_wp2_with fail
  refine (heldInt64S_c _ R2.length _ _ hg1.ints (by omega) (by omega) (by omega)).mono ?_
  rintro e w33 ⟨rfl, hg33⟩
  have z33 := Lib.hid hg33.size
  have g33 : Grew w w33 := g32.trans hg33
  replace hq0 := hq0.grew hg33
  replace hq1 := hq1.grew hg33
  replace hg0 := hg0.grew hg33
  replace hg1 := hg1.grew hg33
  replace HBp := Lib.hid ((hg33.block (blk_lt HBp.out)).trans HBp.out)
  replace HBq := Lib.hid ((hg33.block (blk_lt HBq.out)).trans HBq.out)
  replace HBg := Lib.hid ((hg33.block (blk_lt HBg.out)).trans HBg.out)
  replace HBh := Lib.hid ((hg33.block (blk_lt HBh.out)).trans HBh.out)
  clear hg33 g32
  clear kp0 kp1 kq0 kq1 kg0 kg1 kh0 kh1
  have kp0 : w33.cell? ⟨w.heap.size, 0, none⟩ = some (.int .i64 sz) := by rw [blk_cell HBp.out]; rfl
  have kp1 : w33.cell? ⟨w.heap.size, 1, none⟩ = some (.slice A0 m c0) := by rw [blk_cell HBp.out]; rfl
  have kq0 : w33.cell? ⟨w5.heap.size, 0, none⟩ = some (.int .i64 (R1.length : Int)) := by rw [blk_cell HBq.out]; rfl
  have kq1 : w33.cell? ⟨w5.heap.size, 1, none⟩ = some (.slice Aq0 R1.length cq0) := by rw [blk_cell HBq.out]; rfl
  have kg0 : w33.cell? ⟨w10.heap.size, 0, none⟩ = some (.int .i64 (R1.length : Int)) := by rw [blk_cell HBg.out]; rfl
  have kg1 : w33.cell? ⟨w10.heap.size, 1, none⟩ = some (.slice Ag0 R1.length cg0) := by rw [blk_cell HBg.out]; rfl
  have kh0 : w33.cell? ⟨w28.heap.size, 0, none⟩ = some (.int .i64 (R1.length : Int)) := by rw [blk_cell HBh.out]; rfl
  have kh1 : w33.cell? ⟨w28.heap.size, 1, none⟩ = some (.slice Ah0 R1.length ch0) := by rw [blk_cell HBh.out]; rfl
  go_wp2_with fail
  go_ret
  exact ⟨rfl, g33⟩
end Go.Proofs.Ytcnnfbblildbeaa

/- A cell that is read lies in a block that is there. -/
namespace Go.Proofs.Ytcnnfbblildbeaa
open Go.RowKit

theorem cell_lt {w : World} {a : Addr} {u : Value} (h : w.cell? a = some u) : a.block < w.heap.size := by
  unfold World.cell? at h
  split at h
  · rename_i hh
    exact (Array.getElem?_eq_some_iff.1 hh).1
  · cases h

end Go.Proofs.Ytcnnfbblildbeaa

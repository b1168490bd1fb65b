/- Texts in one file: MbZ MbU MnX DrawF Fv EncI Join TakeP WalkP WalkA Round ParseI Take WalkQ WalkB ParseF Part Agree Equal Write Good PartP Text Parsed Strs IsText Cont Plain Gp TxP Fo KrT KrB. -/
import Derived.Lib.SlicesS
import Derived.Deep.QuietTactic
import Derived.BigQuiet
import Derived.Outline
import Derived.Deep.LoopGhost
import Derived.Lib.OthersKept
import Derived.Deep.RegionHeld3
import Derived.Test.YtphljdhacbpkbaaGreatProg
import Derived.WalkSpells
import Derived.WalkLawsBesides
import Derived.Shelf.Abstract
import Derived.Test.YtphljdhacbpkbaaGreatPa1
import Derived.Test.YtphljdhacbpkbaaGreatPa2
set_option linter.all false

/- l05Flag of the reference: reflexive, transitive, antisymmetric. -/
namespace Go.Proofs.YtphljdhacbpkbaaGreat
open Go.RowKit
set_option maxHeartbeats 4000000 in
set_option maxRecDepth 100000 in
theorem l05Flag0_c (v : Value) (A : List Nat) (w : World) (h : Ints w v (zs A)) (hA : Rl A) :
    Calls Tryz.prog 75 #[.agg #[.int .i64 (A.length : Int), v], .int .i64 0] w fun e w' => e = .returned (.bool (reflB A)) ∧ Grew w w' := by
  obtain ⟨R, hR⟩ : ∃ R, R = reflB A := ⟨_, rfl⟩
  rw [← hR]
  unfold reflB at hR
  have HA := Lib.hid (fun k hk h => hR.trans (@allB_no A.length (fun x => (nt A x).testBit x) k hk h))
  have HZ := Lib.hid (fun h => hR.trans (@allB_of A.length (fun x => (nt A x).testBit x) h))
  have hn30 := hA.1
  have HB := Lib.hid (fun i (hi : i < A.length) k (hk : k < 64) => l01Bit_q (nt A i) k (by have := hA.sm.at_ hi; omega) hk)
  have hal := (Grew.refl w).alloc (.cells #[.int .i64 (A.length : Int), v] 83)
  have y0 : ∀ W, Grew (w.alloc (.cells #[.int .i64 (A.length : Int), v] 83)) W → W.cell? ⟨w.heap.size, 0, none⟩ = some (.int .i64 (A.length : Int)) := fun W hW => (hW.cell (p := ⟨w.heap.size, 0, none⟩) (by simp)).trans (by simp)
  have y1 : ∀ W, Grew (w.alloc (.cells #[.int .i64 (A.length : Int), v] 83)) W → W.cell? ⟨w.heap.size, 1, none⟩ = some v := fun W hW => (hW.cell (p := ⟨w.heap.size, 1, none⟩) (by simp)).trans (by simp)
  obtain ⟨w1, hw1⟩ : ∃ w1, w1 = w.alloc (.cells #[.int .i64 (A.length : Int), v] 83) := ⟨_, rfl⟩
  rw [← hw1] at y0 y1 hal
  have HG := Lib.hid hal
  have r1 := Grew.refl w1
  have r1d := r1.drew
  obtain ⟨A', c, rfl⟩ := ints_sliceN h
  have HC := Lib.hid (fun h0 => cellsN h h0)
  clear h hA hR hal
  generalize hN : A.length = n at *
  clear hN
  go_enter Tryz.func75, Tryz.ntmps75
  go_wp2_with fail
  simp only [← hw1]
  clear hw1
  go_quiet (fail)
  go_wp2_with fail
  go_loopw [7] (fun i wr => ∃ j : Nat, j ≤ n ∧ i = .int .i64 j ∧ Grew w1 wr ∧ Hid (AllK (fun x => (nt A x).testBit x) j)) (fun i _ => n - (intOf i).toNat)
  case atStart => exact ⟨0, Nat.zero_le _, rfl, (Grew.refl _).drewN _, AllK.zero _⟩
  case round =>
    obtain ⟨j, hj, rfl, hB, HJ⟩ := hrel
    by_cases hlt : j < n
    · obtain ⟨b, o, rfl, hcell⟩ := HC.out (by omega)
      have hgw := HG.out
      have HX := Lib.hid (fun i hi W (hW : Grew w1 W) => hcell i hi W (hgw.trans hW))
      have hcx := fun W (hW : Grew wr W) => HX.out j hlt W (hB.trans hW)
      have rx := Grew.refl wr
      have hA := Lib.hid (HA.out j hlt)
      have hS := Lib.hid (fun h => HJ.out.succ (k := j) h)
      have hBx := Lib.hid (HB.out j hlt)
      clear hcell
      have hbr := Lib.hid (hBx.out j (by omega))
      cases ht : (nt A j).testBit j with
      | false =>
        have hv := Lib.hid (hA.out ht)
        rw [ht] at hbr
        generalize nt A j = m at *
        go_wp2_with fail
        refine (hbr.out _).mono ?_
        rintro e w2 ⟨rfl, rfl⟩
        go_wp2_with fail
        go_ret
        exact ⟨by rw [hv.out]; rfl, HG.out.trans hB⟩
      | true =>
      have hs := Lib.hid (hS.out ht)
      rw [ht] at hbr
      clear ht hA hS
      go_wp2_with fail
      refine (hbr.out _).mono ?_
      rintro e w2 ⟨rfl, rfl⟩
      go_wp2_with fail
      go_loopw [8] (fun i wy => ∃ k : Nat, k ≤ n ∧ i = .int .i64 k ∧ Grew w1 wy) (fun i _ => n - (intOf i).toNat)
      case atStart => exact ⟨0, Nat.zero_le _, rfl, hB⟩
      case round =>
        obtain ⟨k, hk, rfl, hY⟩ := hrel
        by_cases hlk : k < n
        · have hcy := fun W (hW : Grew wr W) => HX.out j hlt W (hY.trans hW)
          have ry := Grew.refl wr
          have hb2 := Lib.hid (hBx.out k (by omega))
          cases ht : (nt A j).testBit k with
          | false =>
            rw [ht] at hb2
            generalize nt A j = m at *
            clear hcx
            go_wp2_with fail
            refine (hb2.out _).mono ?_
            rintro e w3 ⟨rfl, rfl⟩
            go_wp2_with fail
            go_roundw
            case rel => exact ⟨k + 1, by omega, by go_num, hY⟩
            case measure => simp [intOf]; omega
          | true =>
            rw [ht] at hb2
            clear ht
            go_wp2_with fail
            refine (hb2.out _).mono ?_
            rintro e w3 ⟨rfl, rfl⟩
            go_wp2_with fail
            go_loopw [9] (fun i wz => ∃ q : Nat, q ≤ n ∧ i = .int .i64 q ∧ Grew w1 wz) (fun i _ => n - (intOf i).toNat)
            case atStart => exact ⟨0, Nat.zero_le _, rfl, hY⟩
            case round =>
              obtain ⟨q, hq, rfl, hZ⟩ := hrel
              by_cases hlq : q < n
              · have hcw := fun W (hW : Grew wr W) => HX.out j hlt W (hZ.trans hW)
                have rz := Grew.refl wr
                have hZd := hZ.drew
                have hb3 := Lib.hid (hBx.out q (by omega))
                cases ht3 : (nt A j).testBit q with
                | false =>
                  rw [ht3] at hb3
                  clear ht3
                  generalize nt A j = m at *
                  clear hcx hcy
                  go_wp2_with fail
                  refine (hb3.out _).mono ?_
                  rintro e w4 ⟨rfl, rfl⟩
                  go_wp2_with fail
                  go_roundw
                  case rel => exact ⟨q + 1, by omega, by go_num, hZ⟩
                  case measure => simp [intOf]; omega
                | true =>
                  rw [ht3] at hb3
                  clear ht3
                  generalize nt A j = m at *
                  clear hcx hcy
                  go_wp2_with fail
                  refine (hb3.out _).mono ?_
                  rintro e w4 ⟨rfl, rfl⟩
                  go_wp2_with fail
                  refine wp_region_held_drew (S := fun w' => Grew w1 w') (by kernel_rfl) hZd (fun hHeld => ?_)
                  refine wpAnyH_take (i := 0) (oi := ?on1) (v := ?vn1) ?hin1 ?an1 ?bn1 ?cn1 ?qn1 (Or.inl ⟨?dn1, ?hyn1⟩) hHeld ?restn1
                  case hin1 => (simp only [List.getElem?_toArray, List.getElem?_cons_zero]; exact rfl)
                  case an1 => kernel_rfl
                  case bn1 => kernel_rfl
                  case cn1 => kernel_rfl
                  case qn1 => exact fun _ _ _ h => h
                  case dn1 => rfl
                  case hyn1 => (intro z hSw; (try dsimp only at hSw); go_simp; (try with_reducible rfl))
                  try simp only [Act.put, List.setIfInBounds_toArray, List.set_cons_zero, List.set_cons_succ]
                  refine wpAnyH_take (i := 1) (oi := ?on2) (v := ?vn2) ?hin2 ?an2 ?bn2 ?cn2 ?qn2 (Or.inl ⟨?dn2, ?hyn2⟩) hHeld ?restn2
                  case hin2 => (simp only [List.getElem?_toArray, List.getElem?_cons_succ, List.getElem?_cons_zero]; exact rfl)
                  case an2 => kernel_rfl
                  case bn2 => kernel_rfl
                  case cn2 => kernel_rfl
                  case qn2 => exact fun _ _ _ h => h
                  case dn2 => rfl
                  case hyn2 => (intro z hSw; (try dsimp only at hSw); go_simp; (try with_reducible rfl))
                  try simp only [Act.put, List.setIfInBounds_toArray, List.set_cons_zero, List.set_cons_succ]
                  refine wpAnyH_take (i := 2) (oi := ?on3) (v := ?vn3) ?hin3 ?an3 ?bn3 ?cn3 ?qn3 (Or.inl ⟨?dn3, ?hyn3⟩) hHeld ?restn3
                  case hin3 => (simp only [List.getElem?_toArray, List.getElem?_cons_succ, List.getElem?_cons_zero]; exact rfl)
                  case an3 => kernel_rfl
                  case bn3 => kernel_rfl
                  case cn3 => kernel_rfl
                  case qn3 => exact fun _ _ _ h => h
                  case dn3 => rfl
                  case hyn3 => (intro z hSw; (try dsimp only at hSw); go_simp; (try with_reducible rfl))
                  try simp only [Act.put, List.setIfInBounds_toArray, List.set_cons_zero, List.set_cons_succ]
                  refine wpAnyH_take (i := 3) (oi := ?on4) ?hin4 ?an4 ?bn4 ?cn4 ?qn4 (Or.inr ⟨?dn4, rfl⟩) hHeld ?restn4
                  case hin4 => (simp only [List.getElem?_toArray, List.getElem?_cons_succ, List.getElem?_cons_zero]; exact rfl)
                  case an4 => kernel_rfl
                  case bn4 => kernel_rfl
                  case cn4 => kernel_rfl
                  case qn4 => exact fun _ _ _ h => h
                  case dn4 => rfl
                  try simp only [Act.put, List.setIfInBounds_toArray, List.set_cons_zero, List.set_cons_succ]
                  refine wpAnyH_take (i := 4) (oi := ?on5) ?hin5 ?an5 ?bn5 ?cn5 ?qn5 (Or.inr ⟨?dn5, rfl⟩) hHeld ?restn5
                  case hin5 => (simp only [List.getElem?_toArray, List.getElem?_cons_succ, List.getElem?_cons_zero]; exact rfl)
                  case an5 => kernel_rfl
                  case bn5 => kernel_rfl
                  case cn5 => kernel_rfl
                  case qn5 => exact fun _ _ _ h => h
                  case dn5 => rfl
                  try simp only [Act.put, List.setIfInBounds_toArray, List.set_cons_zero, List.set_cons_succ]
                  refine wpAnyH_take (i := 5) (oi := ?on6) ?hin6 ?an6 ?bn6 ?cn6 ?qn6 (Or.inr ⟨?dn6, rfl⟩) hHeld ?restn6
                  case hin6 => (simp only [List.getElem?_toArray, List.getElem?_cons_succ, List.getElem?_cons_zero]; exact rfl)
                  case an6 => kernel_rfl
                  case bn6 => kernel_rfl
                  case cn6 => kernel_rfl
                  case qn6 => exact fun _ _ _ h => h
                  case dn6 => rfl
                  try simp only [Act.put, List.setIfInBounds_toArray, List.set_cons_zero, List.set_cons_succ]
                  refine wpAnyH_take (i := 6) (oi := ?on7) ?hin7 ?an7 ?bn7 ?cn7 ?qn7 (Or.inr ⟨?dn7, rfl⟩) hHeld ?restn7
                  case hin7 => (simp only [List.getElem?_toArray, List.getElem?_cons_succ, List.getElem?_cons_zero]; exact rfl)
                  case an7 => kernel_rfl
                  case bn7 => kernel_rfl
                  case cn7 => kernel_rfl
                  case qn7 => exact fun _ _ _ h => h
                  case dn7 => rfl
                  try simp only [Act.put, List.setIfInBounds_toArray, List.set_cons_zero, List.set_cons_succ]
                  refine wpAnyH_take (i := 7) (oi := ?on8) ?hin8 ?an8 ?bn8 ?cn8 ?qn8 (Or.inr ⟨?dn8, rfl⟩) hHeld ?restn8
                  case hin8 => (simp only [List.getElem?_toArray, List.getElem?_cons_succ, List.getElem?_cons_zero]; exact rfl)
                  case an8 => kernel_rfl
                  case bn8 => kernel_rfl
                  case cn8 => kernel_rfl
                  case qn8 => exact fun _ _ _ h => h
                  case dn8 => rfl
                  try simp only [Act.put, List.setIfInBounds_toArray, List.set_cons_zero, List.set_cons_succ]
                  refine wpAnyH_take (i := 8) (oi := ?on9) ?hin9 ?an9 ?bn9 ?cn9 ?qn9 (Or.inr ⟨?dn9, rfl⟩) hHeld ?restn9
                  case hin9 => (simp only [List.getElem?_toArray, List.getElem?_cons_succ, List.getElem?_cons_zero]; exact rfl)
                  case an9 => kernel_rfl
                  case bn9 => kernel_rfl
                  case cn9 => kernel_rfl
                  case qn9 => exact fun _ _ _ h => h
                  case dn9 => rfl
                  try simp only [Act.put, List.setIfInBounds_toArray, List.set_cons_zero, List.set_cons_succ]
                  refine wpAnyH_take (i := 9) (oi := ?on10) ?hin10 ?an10 ?bn10 ?cn10 ?qn10 (Or.inr ⟨?dn10, rfl⟩) hHeld ?restn10
                  case hin10 => (simp only [List.getElem?_toArray, List.getElem?_cons_succ, List.getElem?_cons_zero]; exact rfl)
                  case an10 => kernel_rfl
                  case bn10 => kernel_rfl
                  case cn10 => kernel_rfl
                  case qn10 => exact fun _ _ _ h => h
                  case dn10 => rfl
                  try simp only [Act.put, List.setIfInBounds_toArray, List.set_cons_zero, List.set_cons_succ]
                  refine wpAnyH_take (i := 10) (oi := ?on11) ?hin11 ?an11 ?bn11 ?cn11 ?qn11 (Or.inr ⟨?dn11, rfl⟩) hHeld ?restn11
                  case hin11 => (simp only [List.getElem?_toArray, List.getElem?_cons_succ, List.getElem?_cons_zero]; exact rfl)
                  case an11 => kernel_rfl
                  case bn11 => kernel_rfl
                  case cn11 => kernel_rfl
                  case qn11 => exact fun _ _ _ h => h
                  case dn11 => rfl
                  try simp only [Act.put, List.setIfInBounds_toArray, List.set_cons_zero, List.set_cons_succ]
                  refine wpAnyH_take (i := 11) (oi := ?on12) ?hin12 ?an12 ?bn12 ?cn12 ?qn12 (Or.inr ⟨?dn12, rfl⟩) hHeld ?restn12
                  case hin12 => (simp only [List.getElem?_toArray, List.getElem?_cons_succ, List.getElem?_cons_zero]; exact rfl)
                  case an12 => kernel_rfl
                  case bn12 => kernel_rfl
                  case cn12 => kernel_rfl
                  case qn12 => exact fun _ _ _ h => h
                  case dn12 => rfl
                  try simp only [Act.put, List.setIfInBounds_toArray, List.set_cons_zero, List.set_cons_succ]
                  refine wpAnyH_take (i := 12) (oi := ?on13) ?hin13 ?an13 ?bn13 ?cn13 ?qn13 (Or.inr ⟨?dn13, rfl⟩) hHeld ?restn13
                  case hin13 => (simp only [List.getElem?_toArray, List.getElem?_cons_succ, List.getElem?_cons_zero]; exact rfl)
                  case an13 => kernel_rfl
                  case bn13 => kernel_rfl
                  case cn13 => kernel_rfl
                  case qn13 => exact fun _ _ _ h => h
                  case dn13 => rfl
                  try simp only [Act.put, List.setIfInBounds_toArray, List.set_cons_zero, List.set_cons_succ]
                  refine wpAnyH_take (i := 13) (oi := ?on14) (v := ?vn14) ?hin14 ?an14 ?bn14 ?cn14 ?qn14 (Or.inl ⟨?dn14, ?hyn14⟩) hHeld ?restn14
                  case hin14 => (simp only [List.getElem?_toArray, List.getElem?_cons_succ, List.getElem?_cons_zero]; exact rfl)
                  case an14 => kernel_rfl
                  case bn14 => kernel_rfl
                  case cn14 => kernel_rfl
                  case qn14 => exact fun _ _ _ h => h
                  case dn14 => rfl
                  case hyn14 => (intro z hSw; (try dsimp only at hSw); go_simp; (try with_reducible rfl))
                  try simp only [Act.put, List.setIfInBounds_toArray, List.set_cons_zero, List.set_cons_succ]
                  refine wpAnyH_take (i := 14) (oi := ?on15) (v := ?vn15) ?hin15 ?an15 ?bn15 ?cn15 ?qn15 (Or.inl ⟨?dn15, ?hyn15⟩) hHeld ?restn15
                  case hin15 => (simp only [List.getElem?_toArray, List.getElem?_cons_succ, List.getElem?_cons_zero]; exact rfl)
                  case an15 => kernel_rfl
                  case bn15 => kernel_rfl
                  case cn15 => kernel_rfl
                  case qn15 => exact fun _ _ _ h => h
                  case dn15 => rfl
                  case hyn15 => (intro z hSw; (try dsimp only at hSw); go_simp; (try with_reducible rfl))
                  try simp only [Act.put, List.setIfInBounds_toArray, List.set_cons_zero, List.set_cons_succ]
                  refine wpAnyH_take (i := 15) (oi := ?on16) (v := ?vn16) ?hin16 ?an16 ?bn16 ?cn16 ?qn16 (Or.inl ⟨?dn16, ?hyn16⟩) hHeld ?restn16
                  case hin16 => (simp only [List.getElem?_toArray, List.getElem?_cons_succ, List.getElem?_cons_zero]; exact rfl)
                  case an16 => kernel_rfl
                  case bn16 => kernel_rfl
                  case cn16 => kernel_rfl
                  case qn16 => exact fun _ _ _ h => h
                  case dn16 => rfl
                  case hyn16 => (intro z hSw; (try dsimp only at hSw); go_simp; (try with_reducible rfl))
                  try simp only [Act.put, List.setIfInBounds_toArray, List.set_cons_zero, List.set_cons_succ]
                  refine wpAnyH_take (i := 16) (oi := ?on17) (v := ?vn17) ?hin17 ?an17 ?bn17 ?cn17 ?qn17 (Or.inl ⟨?dn17, ?hyn17⟩) hHeld ?restn17
                  case hin17 => (simp only [List.getElem?_toArray, List.getElem?_cons_succ, List.getElem?_cons_zero]; exact rfl)
                  case an17 => kernel_rfl
                  case bn17 => kernel_rfl
                  case cn17 => kernel_rfl
                  case qn17 => exact fun _ _ _ h => h
                  case dn17 => rfl
                  case hyn17 => (intro z hSw; (try dsimp only at hSw); go_simp; (try with_reducible rfl))
                  try simp only [Act.put, List.setIfInBounds_toArray, List.set_cons_zero, List.set_cons_succ]
                  refine wpAnyH_take (i := 17) (oi := ?on18) (v := ?vn18) ?hin18 ?an18 ?bn18 ?cn18 ?qn18 (Or.inl ⟨?dn18, ?hyn18⟩) hHeld ?restn18
                  case hin18 => (simp only [List.getElem?_toArray, List.getElem?_cons_succ, List.getElem?_cons_zero]; exact rfl)
                  case an18 => kernel_rfl
                  case bn18 => kernel_rfl
                  case cn18 => kernel_rfl
                  case qn18 => exact fun _ _ _ h => h
                  case dn18 => rfl
                  case hyn18 => (intro z hSw; (try dsimp only at hSw); go_simp; (try with_reducible rfl))
                  try simp only [Act.put, List.setIfInBounds_toArray, List.set_cons_zero, List.set_cons_succ]
                  refine wpAnyH_take (i := 18) (oi := ?on19) ?hin19 ?an19 ?bn19 ?cn19 ?qn19 (Or.inr ⟨?dn19, rfl⟩) hHeld ?restn19
                  case hin19 => (simp only [List.getElem?_toArray, List.getElem?_cons_succ, List.getElem?_cons_zero]; exact rfl)
                  case an19 => kernel_rfl
                  case bn19 => kernel_rfl
                  case cn19 => kernel_rfl
                  case qn19 => exact fun _ _ _ h => h
                  case dn19 => rfl
                  try simp only [Act.put, List.setIfInBounds_toArray, List.set_cons_zero, List.set_cons_succ]
                  refine wpAnyH_take (i := 19) (oi := ?on20) ?hin20 ?an20 ?bn20 ?cn20 ?qn20 (Or.inr ⟨?dn20, rfl⟩) hHeld ?restn20
                  case hin20 => (simp only [List.getElem?_toArray, List.getElem?_cons_succ, List.getElem?_cons_zero]; exact rfl)
                  case an20 => kernel_rfl
                  case bn20 => kernel_rfl
                  case cn20 => kernel_rfl
                  case qn20 => exact fun _ _ _ h => h
                  case dn20 => rfl
                  try simp only [Act.put, List.setIfInBounds_toArray, List.set_cons_zero, List.set_cons_succ]
                  refine wpAnyH_take (i := 20) (oi := ?on21) ?hin21 ?an21 ?bn21 ?cn21 ?qn21 (Or.inr ⟨?dn21, rfl⟩) hHeld ?restn21
                  case hin21 => (simp only [List.getElem?_toArray, List.getElem?_cons_succ, List.getElem?_cons_zero]; exact rfl)
                  case an21 => kernel_rfl
                  case bn21 => kernel_rfl
                  case cn21 => kernel_rfl
                  case qn21 => exact fun _ _ _ h => h
                  case dn21 => rfl
                  try simp only [Act.put, List.setIfInBounds_toArray, List.set_cons_zero, List.set_cons_succ]
                  refine wpAnyH_take (i := 21) (oi := ?on22) ?hin22 ?an22 ?bn22 ?cn22 ?qn22 (Or.inr ⟨?dn22, rfl⟩) hHeld ?restn22
                  case hin22 => (simp only [List.getElem?_toArray, List.getElem?_cons_succ, List.getElem?_cons_zero]; exact rfl)
                  case an22 => kernel_rfl
                  case bn22 => kernel_rfl
                  case cn22 => kernel_rfl
                  case qn22 => exact fun _ _ _ h => h
                  case dn22 => rfl
                  try simp only [Act.put, List.setIfInBounds_toArray, List.set_cons_zero, List.set_cons_succ]
                  refine wpAnyH_take (i := 22) (oi := ?on23) ?hin23 ?an23 ?bn23 ?cn23 ?qn23 (Or.inr ⟨?dn23, rfl⟩) hHeld ?restn23
                  case hin23 => (simp only [List.getElem?_toArray, List.getElem?_cons_succ, List.getElem?_cons_zero]; exact rfl)
                  case an23 => kernel_rfl
                  case bn23 => kernel_rfl
                  case cn23 => kernel_rfl
                  case qn23 => exact fun _ _ _ h => h
                  case dn23 => rfl
                  try simp only [Act.put, List.setIfInBounds_toArray, List.set_cons_zero, List.set_cons_succ]
                  refine wpAnyH_take (i := 23) (oi := ?on24) ?hin24 ?an24 ?bn24 ?cn24 ?qn24 (Or.inr ⟨?dn24, rfl⟩) hHeld ?restn24
                  case hin24 => (simp only [List.getElem?_toArray, List.getElem?_cons_succ, List.getElem?_cons_zero]; exact rfl)
                  case an24 => kernel_rfl
                  case bn24 => kernel_rfl
                  case cn24 => kernel_rfl
                  case qn24 => exact fun _ _ _ h => h
                  case dn24 => rfl
                  try simp only [Act.put, List.setIfInBounds_toArray, List.set_cons_zero, List.set_cons_succ]
                  refine wpAnyH_take (i := 24) (oi := ?on25) ?hin25 ?an25 ?bn25 ?cn25 ?qn25 (Or.inr ⟨?dn25, rfl⟩) hHeld ?restn25
                  case hin25 => (simp only [List.getElem?_toArray, List.getElem?_cons_succ, List.getElem?_cons_zero]; exact rfl)
                  case an25 => kernel_rfl
                  case bn25 => kernel_rfl
                  case cn25 => kernel_rfl
                  case qn25 => exact fun _ _ _ h => h
                  case dn25 => rfl
                  try simp only [Act.put, List.setIfInBounds_toArray, List.set_cons_zero, List.set_cons_succ]
                  refine wpAnyH_take (i := 25) (oi := ?on26) (v := ?vn26) ?hin26 ?an26 ?bn26 ?cn26 ?qn26 (Or.inl ⟨?dn26, ?hyn26⟩) hHeld ?restn26
                  case hin26 => (simp only [List.getElem?_toArray, List.getElem?_cons_succ, List.getElem?_cons_zero]; exact rfl)
                  case an26 => kernel_rfl
                  case bn26 => kernel_rfl
                  case cn26 => kernel_rfl
                  case qn26 => exact fun _ _ _ h => h
                  case dn26 => rfl
                  case hyn26 => (intro z hSw; (try dsimp only at hSw); go_simp; (try with_reducible rfl))
                  try simp only [Act.put, List.setIfInBounds_toArray, List.set_cons_zero, List.set_cons_succ]
                  refine wpAnyH_take (i := 26) (oi := ?on27) (v := ?vn27) ?hin27 ?an27 ?bn27 ?cn27 ?qn27 (Or.inl ⟨?dn27, ?hyn27⟩) hHeld ?restn27
                  case hin27 => (simp only [List.getElem?_toArray, List.getElem?_cons_succ, List.getElem?_cons_zero]; exact rfl)
                  case an27 => kernel_rfl
                  case bn27 => kernel_rfl
                  case cn27 => kernel_rfl
                  case qn27 => exact fun _ _ _ h => h
                  case dn27 => rfl
                  case hyn27 => (intro z hSw; (try dsimp only at hSw); go_simp; (try with_reducible rfl))
                  try simp only [Act.put, List.setIfInBounds_toArray, List.set_cons_zero, List.set_cons_succ]
                  refine wpAnyH_take (i := 27) (oi := ?on28) ?hin28 ?an28 ?bn28 ?cn28 ?qn28 (Or.inr ⟨?dn28, rfl⟩) hHeld ?restn28
                  case hin28 => (simp only [List.getElem?_toArray, List.getElem?_cons_succ, List.getElem?_cons_zero]; exact rfl)
                  case an28 => kernel_rfl
                  case bn28 => kernel_rfl
                  case cn28 => kernel_rfl
                  case qn28 => exact fun _ _ _ h => h
                  case dn28 => rfl
                  try simp only [Act.put, List.setIfInBounds_toArray, List.set_cons_zero, List.set_cons_succ]
                  refine wpAnyH_take (i := 28) (oi := ?on29) ?hin29 ?an29 ?bn29 ?cn29 ?qn29 (Or.inr ⟨?dn29, rfl⟩) hHeld ?restn29
                  case hin29 => (simp only [List.getElem?_toArray, List.getElem?_cons_succ, List.getElem?_cons_zero]; exact rfl)
                  case an29 => kernel_rfl
                  case bn29 => kernel_rfl
                  case cn29 => kernel_rfl
                  case qn29 => exact fun _ _ _ h => h
                  case dn29 => rfl
                  try simp only [Act.put, List.setIfInBounds_toArray, List.set_cons_zero, List.set_cons_succ]
                  refine wpAnyH_take (i := 29) (oi := ?on30) ?hin30 ?an30 ?bn30 ?cn30 ?qn30 (Or.inr ⟨?dn30, rfl⟩) hHeld ?restn30
                  case hin30 => (simp only [List.getElem?_toArray, List.getElem?_cons_succ, List.getElem?_cons_zero]; exact rfl)
                  case an30 => kernel_rfl
                  case bn30 => kernel_rfl
                  case cn30 => kernel_rfl
                  case qn30 => exact fun _ _ _ h => h
                  case dn30 => rfl
                  try simp only [Act.put, List.setIfInBounds_toArray, List.set_cons_zero, List.set_cons_succ]
                  refine wpAnyH_take (i := 30) (oi := ?on31) ?hin31 ?an31 ?bn31 ?cn31 ?qn31 (Or.inr ⟨?dn31, rfl⟩) hHeld ?restn31
                  case hin31 => (simp only [List.getElem?_toArray, List.getElem?_cons_succ, List.getElem?_cons_zero]; exact rfl)
                  case an31 => kernel_rfl
                  case bn31 => kernel_rfl
                  case cn31 => kernel_rfl
                  case qn31 => exact fun _ _ _ h => h
                  case dn31 => rfl
                  try simp only [Act.put, List.setIfInBounds_toArray, List.set_cons_zero, List.set_cons_succ]
                  refine wpAnyH_take (i := 31) (oi := ?on32) ?hin32 ?an32 ?bn32 ?cn32 ?qn32 (Or.inr ⟨?dn32, rfl⟩) hHeld ?restn32
                  case hin32 => (simp only [List.getElem?_toArray, List.getElem?_cons_succ, List.getElem?_cons_zero]; exact rfl)
                  case an32 => kernel_rfl
                  case bn32 => kernel_rfl
                  case cn32 => kernel_rfl
                  case qn32 => exact fun _ _ _ h => h
                  case dn32 => rfl
                  try simp only [Act.put, List.setIfInBounds_toArray, List.set_cons_zero, List.set_cons_succ]
                  refine wpAnyH_take (i := 32) (oi := ?on33) ?hin33 ?an33 ?bn33 ?cn33 ?qn33 (Or.inr ⟨?dn33, rfl⟩) hHeld ?restn33
                  case hin33 => (simp only [List.getElem?_toArray, List.getElem?_cons_succ, List.getElem?_cons_zero]; exact rfl)
                  case an33 => kernel_rfl
                  case bn33 => kernel_rfl
                  case cn33 => kernel_rfl
                  case qn33 => exact fun _ _ _ h => h
                  case dn33 => rfl
                  try simp only [Act.put, List.setIfInBounds_toArray, List.set_cons_zero, List.set_cons_succ]
                  refine wpAnyH_take (i := 33) (oi := ?on34) ?hin34 ?an34 ?bn34 ?cn34 ?qn34 (Or.inr ⟨?dn34, rfl⟩) hHeld ?restn34
                  case hin34 => (simp only [List.getElem?_toArray, List.getElem?_cons_succ, List.getElem?_cons_zero]; exact rfl)
                  case an34 => kernel_rfl
                  case bn34 => kernel_rfl
                  case cn34 => kernel_rfl
                  case qn34 => exact fun _ _ _ h => h
                  case dn34 => rfl
                  try simp only [Act.put, List.setIfInBounds_toArray, List.set_cons_zero, List.set_cons_succ]
                  refine wpAnyH_take (i := 34) (oi := ?on35) (v := ?vn35) ?hin35 ?an35 ?bn35 ?cn35 ?qn35 (Or.inl ⟨?dn35, ?hyn35⟩) hHeld ?restn35
                  case hin35 => (simp only [List.getElem?_toArray, List.getElem?_cons_succ, List.getElem?_cons_zero]; exact rfl)
                  case an35 => kernel_rfl
                  case bn35 => kernel_rfl
                  case cn35 => kernel_rfl
                  case qn35 => exact fun _ _ _ h => h
                  case dn35 => rfl
                  case hyn35 => (intro z hSw; (try dsimp only at hSw); go_simp; (try with_reducible rfl))
                  try simp only [Act.put, List.setIfInBounds_toArray, List.set_cons_zero, List.set_cons_succ]
                  refine wpAnyH_take (i := 35) (oi := ?on36) (v := ?vn36) ?hin36 ?an36 ?bn36 ?cn36 ?qn36 (Or.inl ⟨?dn36, ?hyn36⟩) hHeld ?restn36
                  case hin36 => (simp only [List.getElem?_toArray, List.getElem?_cons_succ, List.getElem?_cons_zero]; exact rfl)
                  case an36 => kernel_rfl
                  case bn36 => kernel_rfl
                  case cn36 => kernel_rfl
                  case qn36 => exact fun _ _ _ h => h
                  case dn36 => rfl
                  case hyn36 => (intro z hSw; (try dsimp only at hSw); go_simp; (try with_reducible rfl))
                  try simp only [Act.put, List.setIfInBounds_toArray, List.set_cons_zero, List.set_cons_succ]
                  refine wpAnyH_done (by kernel_rfl) ?_ _
                  go_wp2_with fail
                  go_roundw
                  case rel => exact ⟨q + 1, by omega, by go_num, hZd⟩
                  case measure => simp [intOf]; omega
              · obtain rfl : q = n := by omega
                go_wp2_with fail
                go_roundw
                case rel => exact ⟨k + 1, by omega, by go_num, hZ⟩
                case measure => simp [intOf]; omega
        · obtain rfl : k = n := by omega
          go_wp2_with fail
          go_roundw
          case rel => exact ⟨j + 1, by omega, by go_num, hY, hs⟩
          case measure => simp [intOf]; omega
    · obtain rfl : j = n := by omega
      have hv := Lib.hid (HZ.out HJ.out)
      go_wp2_with fail
      go_ret
      exact ⟨by rw [hv.out]; rfl, HG.out.trans hB⟩
set_option maxHeartbeats 4000000 in
set_option maxRecDepth 100000 in
theorem l05Flag2_c (v : Value) (A : List Nat) (w : World) (h : Ints w v (zs A)) (hA : Rl A) :
    Calls Tryz.prog 75 #[.agg #[.int .i64 (A.length : Int), v], .int .i64 2] w fun e w' => e = .returned (.bool (transB A)) ∧ Grew w w' := by
  obtain ⟨R, hR⟩ : ∃ R, R = transB A := ⟨_, rfl⟩
  rw [← hR]
  unfold transB at hR
  have HA := Lib.hid (fun k hk h => hR.trans (@allB_no A.length (fun x => decide (dif (img A (nt A x)) (nt A x) = 0)) k hk h))
  have HZ := Lib.hid (fun h => hR.trans (@allB_of A.length (fun x => decide (dif (img A (nt A x)) (nt A x) = 0)) h))
  have hn30 := hA.1
  have HB := Lib.hid (fun i (hi : i < A.length) k (hk : k < 64) => l01Bit_q (nt A i) k (by have := hA.sm.at_ hi; omega) hk)
  have HI := Lib.hid (fun i (hi : i < A.length) W (hW : Grew w W) => l01Image_q v A (nt A i) W (h.grew hW) hA.sm hA.1 (hA.lt hi))
  have HN := Lib.hid (fun i (hi : i < A.length) => andNot_i64 (img A (nt A i)) (nt A i) (by have := orK_sm (is := mbs (nt A i)) hA.sm (mbs (nt A i)).length; unfold img; omega) (by have := hA.sm.at_ hi; omega))
  have hal := (Grew.refl w).alloc (.cells #[.int .i64 (A.length : Int), v] 83)
  have y0 : ∀ W, Grew (w.alloc (.cells #[.int .i64 (A.length : Int), v] 83)) W → W.cell? ⟨w.heap.size, 0, none⟩ = some (.int .i64 (A.length : Int)) := fun W hW => (hW.cell (p := ⟨w.heap.size, 0, none⟩) (by simp)).trans (by simp)
  have y1 : ∀ W, Grew (w.alloc (.cells #[.int .i64 (A.length : Int), v] 83)) W → W.cell? ⟨w.heap.size, 1, none⟩ = some v := fun W hW => (hW.cell (p := ⟨w.heap.size, 1, none⟩) (by simp)).trans (by simp)
  obtain ⟨w1, hw1⟩ : ∃ w1, w1 = w.alloc (.cells #[.int .i64 (A.length : Int), v] 83) := ⟨_, rfl⟩
  rw [← hw1] at y0 y1 hal
  have HG := Lib.hid hal
  have r1 := Grew.refl w1
  have r1d := r1.drew
  obtain ⟨A', c, rfl⟩ := ints_sliceN h
  have HC := Lib.hid (fun h0 => cellsN h h0)
  clear h hA hR hal
  generalize hN : A.length = n at *
  clear hN
  go_enter Tryz.func75, Tryz.ntmps75
  go_wp2_with fail
  simp only [← hw1]
  clear hw1
  go_quiet (fail)
  go_wp2_with fail
  go_loopw [7] (fun i wr => ∃ j : Nat, j ≤ n ∧ i = .int .i64 j ∧ Grew w1 wr ∧ Hid (AllK (fun x => decide (dif (img A (nt A x)) (nt A x) = 0)) j)) (fun i _ => n - (intOf i).toNat)
  case atStart => exact ⟨0, Nat.zero_le _, rfl, (Grew.refl _).drewN _, AllK.zero _⟩
  case round =>
    obtain ⟨j, hj, rfl, hB, HJ⟩ := hrel
    by_cases hlt : j < n
    · obtain ⟨b, o, rfl, hcell⟩ := HC.out (by omega)
      have hgw := HG.out
      have HX := Lib.hid (fun i hi W (hW : Grew w1 W) => hcell i hi W (hgw.trans hW))
      have hcx := fun W (hW : Grew wr W) => HX.out j hlt W (hB.trans hW)
      have rx := Grew.refl wr
      have hA := Lib.hid (HA.out j hlt)
      have hS := Lib.hid (fun h => HJ.out.succ (k := j) h)
      have hBx := Lib.hid (HB.out j hlt)
      clear hcell
      have hi := Lib.hid (fun W hW => HI.out j hlt W hW)
      have hnn := HN.out j hlt
      have hrr := Grew.refl wr
      have hrd := hrr.drew
      have hgwr := Lib.hid (HG.out.trans hB)
      by_cases hd : dif (img A (nt A j)) (nt A j) = 0
      · have hs := Lib.hid (hS.out (decide_eq_true hd))
        rw [hd] at hnn
        clear hA hS hd
        generalize hmg : img A (nt A j) = mg at *
        clear hmg
        go_wp2_with fail
        go_quiet (first | (go_at_call 129; exact Calls.quiet_of_same (hi.out _ (by first | exact hgwr.out | exact hgwr.out.drew | exact hgwr.out.drewN _))))
        go_wp2_with fail
        have hBd := hB.drewN nq
        go_loopw [8] (fun i wy => ∃ k : Nat, k ≤ n ∧ i = .int .i64 k ∧ Grew w1 wy) (fun i _ => n - (intOf i).toNat)
        case atStart => exact ⟨0, Nat.zero_le _, rfl, hBd⟩
        case round =>
          obtain ⟨k, hk, rfl, hY⟩ := hrel
          by_cases hlk : k < n
          · have hcy := fun W (hW : Grew wr W) => HX.out j hlt W (hY.trans hW)
            have ry := Grew.refl wr
            have hb2 := Lib.hid (hBx.out k (by omega))
            cases ht : (nt A j).testBit k with
            | false =>
              rw [ht] at hb2
              generalize nt A j = m at *
              clear hcx
              go_wp2_with fail
              refine (hb2.out _).mono ?_
              rintro e w3 ⟨rfl, rfl⟩
              go_wp2_with fail
              go_roundw
              case rel => exact ⟨k + 1, by omega, by go_num, hY⟩
              case measure => simp [intOf]; omega
            | true =>
              rw [ht] at hb2
              clear ht
              go_wp2_with fail
              refine (hb2.out _).mono ?_
              rintro e w3 ⟨rfl, rfl⟩
              go_wp2_with fail
              go_loopw [9] (fun i wz => ∃ q : Nat, q ≤ n ∧ i = .int .i64 q ∧ Grew w1 wz) (fun i _ => n - (intOf i).toNat)
              case atStart => exact ⟨0, Nat.zero_le _, rfl, hY⟩
              case round =>
                obtain ⟨q, hq, rfl, hZ⟩ := hrel
                by_cases hlq : q < n
                · have hcw := fun W (hW : Grew wr W) => HX.out j hlt W (hZ.trans hW)
                  have rz := Grew.refl wr
                  have hZd := hZ.drew
                  have hb3 := Lib.hid (hBx.out q (by omega))
                  cases ht3 : (nt A j).testBit q with
                  | false =>
                    rw [ht3] at hb3
                    clear ht3
                    generalize nt A j = m at *
                    clear hcx hcy
                    go_wp2_with fail
                    refine (hb3.out _).mono ?_
                    rintro e w4 ⟨rfl, rfl⟩
                    go_wp2_with fail
                    go_roundw
                    case rel => exact ⟨q + 1, by omega, by go_num, hZ⟩
                    case measure => simp [intOf]; omega
                  | true =>
                    rw [ht3] at hb3
                    clear ht3
                    generalize nt A j = m at *
                    clear hcx hcy
                    go_wp2_with fail
                    refine (hb3.out _).mono ?_
                    rintro e w4 ⟨rfl, rfl⟩
                    go_wp2_with fail
                    refine wp_region_held_drew (S := fun w' => Grew w1 w') (by kernel_rfl) hZd (fun hHeld => ?_)
                    refine wpAnyH_take (i := 0) (oi := ?on37) (v := ?vn37) ?hin37 ?an37 ?bn37 ?cn37 ?qn37 (Or.inl ⟨?dn37, ?hyn37⟩) hHeld ?restn37
                    case hin37 => (simp only [List.getElem?_toArray, List.getElem?_cons_zero]; exact rfl)
                    case an37 => kernel_rfl
                    case bn37 => kernel_rfl
                    case cn37 => kernel_rfl
                    case qn37 => exact fun _ _ _ h => h
                    case dn37 => rfl
                    case hyn37 => (intro z hSw; (try dsimp only at hSw); go_simp; (try with_reducible rfl))
                    try simp only [Act.put, List.setIfInBounds_toArray, List.set_cons_zero, List.set_cons_succ]
                    refine wpAnyH_take (i := 1) (oi := ?on38) (v := ?vn38) ?hin38 ?an38 ?bn38 ?cn38 ?qn38 (Or.inl ⟨?dn38, ?hyn38⟩) hHeld ?restn38
                    case hin38 => (simp only [List.getElem?_toArray, List.getElem?_cons_succ, List.getElem?_cons_zero]; exact rfl)
                    case an38 => kernel_rfl
                    case bn38 => kernel_rfl
                    case cn38 => kernel_rfl
                    case qn38 => exact fun _ _ _ h => h
                    case dn38 => rfl
                    case hyn38 => (intro z hSw; (try dsimp only at hSw); go_simp; (try with_reducible rfl))
                    try simp only [Act.put, List.setIfInBounds_toArray, List.set_cons_zero, List.set_cons_succ]
                    refine wpAnyH_take (i := 2) (oi := ?on39) (v := ?vn39) ?hin39 ?an39 ?bn39 ?cn39 ?qn39 (Or.inl ⟨?dn39, ?hyn39⟩) hHeld ?restn39
                    case hin39 => (simp only [List.getElem?_toArray, List.getElem?_cons_succ, List.getElem?_cons_zero]; exact rfl)
                    case an39 => kernel_rfl
                    case bn39 => kernel_rfl
                    case cn39 => kernel_rfl
                    case qn39 => exact fun _ _ _ h => h
                    case dn39 => rfl
                    case hyn39 => (intro z hSw; (try dsimp only at hSw); go_simp; (try with_reducible rfl))
                    try simp only [Act.put, List.setIfInBounds_toArray, List.set_cons_zero, List.set_cons_succ]
                    refine wpAnyH_take (i := 3) (oi := ?on40) ?hin40 ?an40 ?bn40 ?cn40 ?qn40 (Or.inr ⟨?dn40, rfl⟩) hHeld ?restn40
                    case hin40 => (simp only [List.getElem?_toArray, List.getElem?_cons_succ, List.getElem?_cons_zero]; exact rfl)
                    case an40 => kernel_rfl
                    case bn40 => kernel_rfl
                    case cn40 => kernel_rfl
                    case qn40 => exact fun _ _ _ h => h
                    case dn40 => rfl
                    try simp only [Act.put, List.setIfInBounds_toArray, List.set_cons_zero, List.set_cons_succ]
                    refine wpAnyH_take (i := 4) (oi := ?on41) ?hin41 ?an41 ?bn41 ?cn41 ?qn41 (Or.inr ⟨?dn41, rfl⟩) hHeld ?restn41
                    case hin41 => (simp only [List.getElem?_toArray, List.getElem?_cons_succ, List.getElem?_cons_zero]; exact rfl)
                    case an41 => kernel_rfl
                    case bn41 => kernel_rfl
                    case cn41 => kernel_rfl
                    case qn41 => exact fun _ _ _ h => h
                    case dn41 => rfl
                    try simp only [Act.put, List.setIfInBounds_toArray, List.set_cons_zero, List.set_cons_succ]
                    refine wpAnyH_take (i := 5) (oi := ?on42) ?hin42 ?an42 ?bn42 ?cn42 ?qn42 (Or.inr ⟨?dn42, rfl⟩) hHeld ?restn42
                    case hin42 => (simp only [List.getElem?_toArray, List.getElem?_cons_succ, List.getElem?_cons_zero]; exact rfl)
                    case an42 => kernel_rfl
                    case bn42 => kernel_rfl
                    case cn42 => kernel_rfl
                    case qn42 => exact fun _ _ _ h => h
                    case dn42 => rfl
                    try simp only [Act.put, List.setIfInBounds_toArray, List.set_cons_zero, List.set_cons_succ]
                    refine wpAnyH_take (i := 6) (oi := ?on43) ?hin43 ?an43 ?bn43 ?cn43 ?qn43 (Or.inr ⟨?dn43, rfl⟩) hHeld ?restn43
                    case hin43 => (simp only [List.getElem?_toArray, List.getElem?_cons_succ, List.getElem?_cons_zero]; exact rfl)
                    case an43 => kernel_rfl
                    case bn43 => kernel_rfl
                    case cn43 => kernel_rfl
                    case qn43 => exact fun _ _ _ h => h
                    case dn43 => rfl
                    try simp only [Act.put, List.setIfInBounds_toArray, List.set_cons_zero, List.set_cons_succ]
                    refine wpAnyH_take (i := 7) (oi := ?on44) ?hin44 ?an44 ?bn44 ?cn44 ?qn44 (Or.inr ⟨?dn44, rfl⟩) hHeld ?restn44
                    case hin44 => (simp only [List.getElem?_toArray, List.getElem?_cons_succ, List.getElem?_cons_zero]; exact rfl)
                    case an44 => kernel_rfl
                    case bn44 => kernel_rfl
                    case cn44 => kernel_rfl
                    case qn44 => exact fun _ _ _ h => h
                    case dn44 => rfl
                    try simp only [Act.put, List.setIfInBounds_toArray, List.set_cons_zero, List.set_cons_succ]
                    refine wpAnyH_take (i := 8) (oi := ?on45) ?hin45 ?an45 ?bn45 ?cn45 ?qn45 (Or.inr ⟨?dn45, rfl⟩) hHeld ?restn45
                    case hin45 => (simp only [List.getElem?_toArray, List.getElem?_cons_succ, List.getElem?_cons_zero]; exact rfl)
                    case an45 => kernel_rfl
                    case bn45 => kernel_rfl
                    case cn45 => kernel_rfl
                    case qn45 => exact fun _ _ _ h => h
                    case dn45 => rfl
                    try simp only [Act.put, List.setIfInBounds_toArray, List.set_cons_zero, List.set_cons_succ]
                    refine wpAnyH_take (i := 9) (oi := ?on46) ?hin46 ?an46 ?bn46 ?cn46 ?qn46 (Or.inr ⟨?dn46, rfl⟩) hHeld ?restn46
                    case hin46 => (simp only [List.getElem?_toArray, List.getElem?_cons_succ, List.getElem?_cons_zero]; exact rfl)
                    case an46 => kernel_rfl
                    case bn46 => kernel_rfl
                    case cn46 => kernel_rfl
                    case qn46 => exact fun _ _ _ h => h
                    case dn46 => rfl
                    try simp only [Act.put, List.setIfInBounds_toArray, List.set_cons_zero, List.set_cons_succ]
                    refine wpAnyH_take (i := 10) (oi := ?on47) ?hin47 ?an47 ?bn47 ?cn47 ?qn47 (Or.inr ⟨?dn47, rfl⟩) hHeld ?restn47
                    case hin47 => (simp only [List.getElem?_toArray, List.getElem?_cons_succ, List.getElem?_cons_zero]; exact rfl)
                    case an47 => kernel_rfl
                    case bn47 => kernel_rfl
                    case cn47 => kernel_rfl
                    case qn47 => exact fun _ _ _ h => h
                    case dn47 => rfl
                    try simp only [Act.put, List.setIfInBounds_toArray, List.set_cons_zero, List.set_cons_succ]
                    refine wpAnyH_take (i := 11) (oi := ?on48) ?hin48 ?an48 ?bn48 ?cn48 ?qn48 (Or.inr ⟨?dn48, rfl⟩) hHeld ?restn48
                    case hin48 => (simp only [List.getElem?_toArray, List.getElem?_cons_succ, List.getElem?_cons_zero]; exact rfl)
                    case an48 => kernel_rfl
                    case bn48 => kernel_rfl
                    case cn48 => kernel_rfl
                    case qn48 => exact fun _ _ _ h => h
                    case dn48 => rfl
                    try simp only [Act.put, List.setIfInBounds_toArray, List.set_cons_zero, List.set_cons_succ]
                    refine wpAnyH_take (i := 12) (oi := ?on49) ?hin49 ?an49 ?bn49 ?cn49 ?qn49 (Or.inr ⟨?dn49, rfl⟩) hHeld ?restn49
                    case hin49 => (simp only [List.getElem?_toArray, List.getElem?_cons_succ, List.getElem?_cons_zero]; exact rfl)
                    case an49 => kernel_rfl
                    case bn49 => kernel_rfl
                    case cn49 => kernel_rfl
                    case qn49 => exact fun _ _ _ h => h
                    case dn49 => rfl
                    try simp only [Act.put, List.setIfInBounds_toArray, List.set_cons_zero, List.set_cons_succ]
                    refine wpAnyH_take (i := 13) (oi := ?on50) (v := ?vn50) ?hin50 ?an50 ?bn50 ?cn50 ?qn50 (Or.inl ⟨?dn50, ?hyn50⟩) hHeld ?restn50
                    case hin50 => (simp only [List.getElem?_toArray, List.getElem?_cons_succ, List.getElem?_cons_zero]; exact rfl)
                    case an50 => kernel_rfl
                    case bn50 => kernel_rfl
                    case cn50 => kernel_rfl
                    case qn50 => exact fun _ _ _ h => h
                    case dn50 => rfl
                    case hyn50 => (intro z hSw; (try dsimp only at hSw); go_simp; (try with_reducible rfl))
                    try simp only [Act.put, List.setIfInBounds_toArray, List.set_cons_zero, List.set_cons_succ]
                    refine wpAnyH_take (i := 14) (oi := ?on51) (v := ?vn51) ?hin51 ?an51 ?bn51 ?cn51 ?qn51 (Or.inl ⟨?dn51, ?hyn51⟩) hHeld ?restn51
                    case hin51 => (simp only [List.getElem?_toArray, List.getElem?_cons_succ, List.getElem?_cons_zero]; exact rfl)
                    case an51 => kernel_rfl
                    case bn51 => kernel_rfl
                    case cn51 => kernel_rfl
                    case qn51 => exact fun _ _ _ h => h
                    case dn51 => rfl
                    case hyn51 => (intro z hSw; (try dsimp only at hSw); go_simp; (try with_reducible rfl))
                    try simp only [Act.put, List.setIfInBounds_toArray, List.set_cons_zero, List.set_cons_succ]
                    refine wpAnyH_take (i := 15) (oi := ?on52) (v := ?vn52) ?hin52 ?an52 ?bn52 ?cn52 ?qn52 (Or.inl ⟨?dn52, ?hyn52⟩) hHeld ?restn52
                    case hin52 => (simp only [List.getElem?_toArray, List.getElem?_cons_succ, List.getElem?_cons_zero]; exact rfl)
                    case an52 => kernel_rfl
                    case bn52 => kernel_rfl
                    case cn52 => kernel_rfl
                    case qn52 => exact fun _ _ _ h => h
                    case dn52 => rfl
                    case hyn52 => (intro z hSw; (try dsimp only at hSw); go_simp; (try with_reducible rfl))
                    try simp only [Act.put, List.setIfInBounds_toArray, List.set_cons_zero, List.set_cons_succ]
                    refine wpAnyH_take (i := 16) (oi := ?on53) (v := ?vn53) ?hin53 ?an53 ?bn53 ?cn53 ?qn53 (Or.inl ⟨?dn53, ?hyn53⟩) hHeld ?restn53
                    case hin53 => (simp only [List.getElem?_toArray, List.getElem?_cons_succ, List.getElem?_cons_zero]; exact rfl)
                    case an53 => kernel_rfl
                    case bn53 => kernel_rfl
                    case cn53 => kernel_rfl
                    case qn53 => exact fun _ _ _ h => h
                    case dn53 => rfl
                    case hyn53 => (intro z hSw; (try dsimp only at hSw); go_simp; (try with_reducible rfl))
                    try simp only [Act.put, List.setIfInBounds_toArray, List.set_cons_zero, List.set_cons_succ]
                    refine wpAnyH_take (i := 17) (oi := ?on54) (v := ?vn54) ?hin54 ?an54 ?bn54 ?cn54 ?qn54 (Or.inl ⟨?dn54, ?hyn54⟩) hHeld ?restn54
                    case hin54 => (simp only [List.getElem?_toArray, List.getElem?_cons_succ, List.getElem?_cons_zero]; exact rfl)
                    case an54 => kernel_rfl
                    case bn54 => kernel_rfl
                    case cn54 => kernel_rfl
                    case qn54 => exact fun _ _ _ h => h
                    case dn54 => rfl
                    case hyn54 => (intro z hSw; (try dsimp only at hSw); go_simp; (try with_reducible rfl))
                    try simp only [Act.put, List.setIfInBounds_toArray, List.set_cons_zero, List.set_cons_succ]
                    refine wpAnyH_take (i := 18) (oi := ?on55) ?hin55 ?an55 ?bn55 ?cn55 ?qn55 (Or.inr ⟨?dn55, rfl⟩) hHeld ?restn55
                    case hin55 => (simp only [List.getElem?_toArray, List.getElem?_cons_succ, List.getElem?_cons_zero]; exact rfl)
                    case an55 => kernel_rfl
                    case bn55 => kernel_rfl
                    case cn55 => kernel_rfl
                    case qn55 => exact fun _ _ _ h => h
                    case dn55 => rfl
                    try simp only [Act.put, List.setIfInBounds_toArray, List.set_cons_zero, List.set_cons_succ]
                    refine wpAnyH_take (i := 19) (oi := ?on56) ?hin56 ?an56 ?bn56 ?cn56 ?qn56 (Or.inr ⟨?dn56, rfl⟩) hHeld ?restn56
                    case hin56 => (simp only [List.getElem?_toArray, List.getElem?_cons_succ, List.getElem?_cons_zero]; exact rfl)
                    case an56 => kernel_rfl
                    case bn56 => kernel_rfl
                    case cn56 => kernel_rfl
                    case qn56 => exact fun _ _ _ h => h
                    case dn56 => rfl
                    try simp only [Act.put, List.setIfInBounds_toArray, List.set_cons_zero, List.set_cons_succ]
                    refine wpAnyH_take (i := 20) (oi := ?on57) ?hin57 ?an57 ?bn57 ?cn57 ?qn57 (Or.inr ⟨?dn57, rfl⟩) hHeld ?restn57
                    case hin57 => (simp only [List.getElem?_toArray, List.getElem?_cons_succ, List.getElem?_cons_zero]; exact rfl)
                    case an57 => kernel_rfl
                    case bn57 => kernel_rfl
                    case cn57 => kernel_rfl
                    case qn57 => exact fun _ _ _ h => h
                    case dn57 => rfl
                    try simp only [Act.put, List.setIfInBounds_toArray, List.set_cons_zero, List.set_cons_succ]
                    refine wpAnyH_take (i := 21) (oi := ?on58) ?hin58 ?an58 ?bn58 ?cn58 ?qn58 (Or.inr ⟨?dn58, rfl⟩) hHeld ?restn58
                    case hin58 => (simp only [List.getElem?_toArray, List.getElem?_cons_succ, List.getElem?_cons_zero]; exact rfl)
                    case an58 => kernel_rfl
                    case bn58 => kernel_rfl
                    case cn58 => kernel_rfl
                    case qn58 => exact fun _ _ _ h => h
                    case dn58 => rfl
                    try simp only [Act.put, List.setIfInBounds_toArray, List.set_cons_zero, List.set_cons_succ]
                    refine wpAnyH_take (i := 22) (oi := ?on59) ?hin59 ?an59 ?bn59 ?cn59 ?qn59 (Or.inr ⟨?dn59, rfl⟩) hHeld ?restn59
                    case hin59 => (simp only [List.getElem?_toArray, List.getElem?_cons_succ, List.getElem?_cons_zero]; exact rfl)
                    case an59 => kernel_rfl
                    case bn59 => kernel_rfl
                    case cn59 => kernel_rfl
                    case qn59 => exact fun _ _ _ h => h
                    case dn59 => rfl
                    try simp only [Act.put, List.setIfInBounds_toArray, List.set_cons_zero, List.set_cons_succ]
                    refine wpAnyH_take (i := 23) (oi := ?on60) ?hin60 ?an60 ?bn60 ?cn60 ?qn60 (Or.inr ⟨?dn60, rfl⟩) hHeld ?restn60
                    case hin60 => (simp only [List.getElem?_toArray, List.getElem?_cons_succ, List.getElem?_cons_zero]; exact rfl)
                    case an60 => kernel_rfl
                    case bn60 => kernel_rfl
                    case cn60 => kernel_rfl
                    case qn60 => exact fun _ _ _ h => h
                    case dn60 => rfl
                    try simp only [Act.put, List.setIfInBounds_toArray, List.set_cons_zero, List.set_cons_succ]
                    refine wpAnyH_take (i := 24) (oi := ?on61) ?hin61 ?an61 ?bn61 ?cn61 ?qn61 (Or.inr ⟨?dn61, rfl⟩) hHeld ?restn61
                    case hin61 => (simp only [List.getElem?_toArray, List.getElem?_cons_succ, List.getElem?_cons_zero]; exact rfl)
                    case an61 => kernel_rfl
                    case bn61 => kernel_rfl
                    case cn61 => kernel_rfl
                    case qn61 => exact fun _ _ _ h => h
                    case dn61 => rfl
                    try simp only [Act.put, List.setIfInBounds_toArray, List.set_cons_zero, List.set_cons_succ]
                    refine wpAnyH_take (i := 25) (oi := ?on62) (v := ?vn62) ?hin62 ?an62 ?bn62 ?cn62 ?qn62 (Or.inl ⟨?dn62, ?hyn62⟩) hHeld ?restn62
                    case hin62 => (simp only [List.getElem?_toArray, List.getElem?_cons_succ, List.getElem?_cons_zero]; exact rfl)
                    case an62 => kernel_rfl
                    case bn62 => kernel_rfl
                    case cn62 => kernel_rfl
                    case qn62 => exact fun _ _ _ h => h
                    case dn62 => rfl
                    case hyn62 => (intro z hSw; (try dsimp only at hSw); go_simp; (try with_reducible rfl))
                    try simp only [Act.put, List.setIfInBounds_toArray, List.set_cons_zero, List.set_cons_succ]
                    refine wpAnyH_take (i := 26) (oi := ?on63) (v := ?vn63) ?hin63 ?an63 ?bn63 ?cn63 ?qn63 (Or.inl ⟨?dn63, ?hyn63⟩) hHeld ?restn63
                    case hin63 => (simp only [List.getElem?_toArray, List.getElem?_cons_succ, List.getElem?_cons_zero]; exact rfl)
                    case an63 => kernel_rfl
                    case bn63 => kernel_rfl
                    case cn63 => kernel_rfl
                    case qn63 => exact fun _ _ _ h => h
                    case dn63 => rfl
                    case hyn63 => (intro z hSw; (try dsimp only at hSw); go_simp; (try with_reducible rfl))
                    try simp only [Act.put, List.setIfInBounds_toArray, List.set_cons_zero, List.set_cons_succ]
                    refine wpAnyH_take (i := 27) (oi := ?on64) ?hin64 ?an64 ?bn64 ?cn64 ?qn64 (Or.inr ⟨?dn64, rfl⟩) hHeld ?restn64
                    case hin64 => (simp only [List.getElem?_toArray, List.getElem?_cons_succ, List.getElem?_cons_zero]; exact rfl)
                    case an64 => kernel_rfl
                    case bn64 => kernel_rfl
                    case cn64 => kernel_rfl
                    case qn64 => exact fun _ _ _ h => h
                    case dn64 => rfl
                    try simp only [Act.put, List.setIfInBounds_toArray, List.set_cons_zero, List.set_cons_succ]
                    refine wpAnyH_take (i := 28) (oi := ?on65) ?hin65 ?an65 ?bn65 ?cn65 ?qn65 (Or.inr ⟨?dn65, rfl⟩) hHeld ?restn65
                    case hin65 => (simp only [List.getElem?_toArray, List.getElem?_cons_succ, List.getElem?_cons_zero]; exact rfl)
                    case an65 => kernel_rfl
                    case bn65 => kernel_rfl
                    case cn65 => kernel_rfl
                    case qn65 => exact fun _ _ _ h => h
                    case dn65 => rfl
                    try simp only [Act.put, List.setIfInBounds_toArray, List.set_cons_zero, List.set_cons_succ]
                    refine wpAnyH_take (i := 29) (oi := ?on66) ?hin66 ?an66 ?bn66 ?cn66 ?qn66 (Or.inr ⟨?dn66, rfl⟩) hHeld ?restn66
                    case hin66 => (simp only [List.getElem?_toArray, List.getElem?_cons_succ, List.getElem?_cons_zero]; exact rfl)
                    case an66 => kernel_rfl
                    case bn66 => kernel_rfl
                    case cn66 => kernel_rfl
                    case qn66 => exact fun _ _ _ h => h
                    case dn66 => rfl
                    try simp only [Act.put, List.setIfInBounds_toArray, List.set_cons_zero, List.set_cons_succ]
                    refine wpAnyH_take (i := 30) (oi := ?on67) ?hin67 ?an67 ?bn67 ?cn67 ?qn67 (Or.inr ⟨?dn67, rfl⟩) hHeld ?restn67
                    case hin67 => (simp only [List.getElem?_toArray, List.getElem?_cons_succ, List.getElem?_cons_zero]; exact rfl)
                    case an67 => kernel_rfl
                    case bn67 => kernel_rfl
                    case cn67 => kernel_rfl
                    case qn67 => exact fun _ _ _ h => h
                    case dn67 => rfl
                    try simp only [Act.put, List.setIfInBounds_toArray, List.set_cons_zero, List.set_cons_succ]
                    refine wpAnyH_take (i := 31) (oi := ?on68) ?hin68 ?an68 ?bn68 ?cn68 ?qn68 (Or.inr ⟨?dn68, rfl⟩) hHeld ?restn68
                    case hin68 => (simp only [List.getElem?_toArray, List.getElem?_cons_succ, List.getElem?_cons_zero]; exact rfl)
                    case an68 => kernel_rfl
                    case bn68 => kernel_rfl
                    case cn68 => kernel_rfl
                    case qn68 => exact fun _ _ _ h => h
                    case dn68 => rfl
                    try simp only [Act.put, List.setIfInBounds_toArray, List.set_cons_zero, List.set_cons_succ]
                    refine wpAnyH_take (i := 32) (oi := ?on69) ?hin69 ?an69 ?bn69 ?cn69 ?qn69 (Or.inr ⟨?dn69, rfl⟩) hHeld ?restn69
                    case hin69 => (simp only [List.getElem?_toArray, List.getElem?_cons_succ, List.getElem?_cons_zero]; exact rfl)
                    case an69 => kernel_rfl
                    case bn69 => kernel_rfl
                    case cn69 => kernel_rfl
                    case qn69 => exact fun _ _ _ h => h
                    case dn69 => rfl
                    try simp only [Act.put, List.setIfInBounds_toArray, List.set_cons_zero, List.set_cons_succ]
                    refine wpAnyH_take (i := 33) (oi := ?on70) ?hin70 ?an70 ?bn70 ?cn70 ?qn70 (Or.inr ⟨?dn70, rfl⟩) hHeld ?restn70
                    case hin70 => (simp only [List.getElem?_toArray, List.getElem?_cons_succ, List.getElem?_cons_zero]; exact rfl)
                    case an70 => kernel_rfl
                    case bn70 => kernel_rfl
                    case cn70 => kernel_rfl
                    case qn70 => exact fun _ _ _ h => h
                    case dn70 => rfl
                    try simp only [Act.put, List.setIfInBounds_toArray, List.set_cons_zero, List.set_cons_succ]
                    refine wpAnyH_take (i := 34) (oi := ?on71) (v := ?vn71) ?hin71 ?an71 ?bn71 ?cn71 ?qn71 (Or.inl ⟨?dn71, ?hyn71⟩) hHeld ?restn71
                    case hin71 => (simp only [List.getElem?_toArray, List.getElem?_cons_succ, List.getElem?_cons_zero]; exact rfl)
                    case an71 => kernel_rfl
                    case bn71 => kernel_rfl
                    case cn71 => kernel_rfl
                    case qn71 => exact fun _ _ _ h => h
                    case dn71 => rfl
                    case hyn71 => (intro z hSw; (try dsimp only at hSw); go_simp; (try with_reducible rfl))
                    try simp only [Act.put, List.setIfInBounds_toArray, List.set_cons_zero, List.set_cons_succ]
                    refine wpAnyH_take (i := 35) (oi := ?on72) (v := ?vn72) ?hin72 ?an72 ?bn72 ?cn72 ?qn72 (Or.inl ⟨?dn72, ?hyn72⟩) hHeld ?restn72
                    case hin72 => (simp only [List.getElem?_toArray, List.getElem?_cons_succ, List.getElem?_cons_zero]; exact rfl)
                    case an72 => kernel_rfl
                    case bn72 => kernel_rfl
                    case cn72 => kernel_rfl
                    case qn72 => exact fun _ _ _ h => h
                    case dn72 => rfl
                    case hyn72 => (intro z hSw; (try dsimp only at hSw); go_simp; (try with_reducible rfl))
                    try simp only [Act.put, List.setIfInBounds_toArray, List.set_cons_zero, List.set_cons_succ]
                    refine wpAnyH_done (by kernel_rfl) ?_ _
                    go_wp2_with fail
                    go_roundw
                    case rel => exact ⟨q + 1, by omega, by go_num, hZd⟩
                    case measure => simp [intOf]; omega
                · obtain rfl : q = n := by omega
                  go_wp2_with fail
                  go_roundw
                  case rel => exact ⟨k + 1, by omega, by go_num, hZ⟩
                  case measure => simp [intOf]; omega
          · obtain rfl : k = n := by omega
            go_wp2_with fail
            go_roundw
            case rel => exact ⟨j + 1, by omega, by go_num, hY, hs⟩
            case measure => simp [intOf]; omega
      · have hv := Lib.hid (hA.out (decide_eq_false hd))
        have hne : (((dif (img A (nt A j)) (nt A j) : Nat) : Int) != 0) = true := by
          rw [bne_iff_ne]
          omega
        clear hA hS hd
        generalize hdd : dif (img A (nt A j)) (nt A j) = dd at *
        clear hdd
        generalize hmg : img A (nt A j) = mg at *
        clear hmg
        generalize nt A j = m at *
        go_wp2_with fail
        go_quiet (first | (go_at_call 129; exact Calls.quiet_of_same (hi.out _ (by first | exact hgwr.out | exact hgwr.out.drew | exact hgwr.out.drewN _))))
        go_wp2_with fail
        go_ret
        exact ⟨by rw [hv.out]; rfl, HG.out.trans (hB.drewN _)⟩
    · obtain rfl : j = n := by omega
      have hv := Lib.hid (HZ.out HJ.out)
      go_wp2_with fail
      go_ret
      exact ⟨by rw [hv.out]; rfl, HG.out.trans hB⟩
set_option maxHeartbeats 4000000 in
set_option maxRecDepth 100000 in
theorem l05Flag8_c (v : Value) (A : List Nat) (w : World) (h : Ints w v (zs A)) (hA : Rl A) :
    Calls Tryz.prog 75 #[.agg #[.int .i64 (A.length : Int), v], .int .i64 8] w fun e w' => e = .returned (.bool (antiB A)) ∧ Grew w w' := by
  obtain ⟨R, hR⟩ : ∃ R, R = antiB A := ⟨_, rfl⟩
  rw [← hR]
  unfold antiB at hR
  have HA := Lib.hid (fun k hk h => hR.trans (@allB_no A.length (fun x => allB A.length (antiX A x)) k hk h))
  have HZ := Lib.hid (fun h => hR.trans (@allB_of A.length (fun x => allB A.length (antiX A x)) h))
  have hn30 := hA.1
  have HB := Lib.hid (fun i (hi : i < A.length) k (hk : k < 64) => l01Bit_q (nt A i) k (by have := hA.sm.at_ hi; omega) hk)
  have hal := (Grew.refl w).alloc (.cells #[.int .i64 (A.length : Int), v] 83)
  have y0 : ∀ W, Grew (w.alloc (.cells #[.int .i64 (A.length : Int), v] 83)) W → W.cell? ⟨w.heap.size, 0, none⟩ = some (.int .i64 (A.length : Int)) := fun W hW => (hW.cell (p := ⟨w.heap.size, 0, none⟩) (by simp)).trans (by simp)
  have y1 : ∀ W, Grew (w.alloc (.cells #[.int .i64 (A.length : Int), v] 83)) W → W.cell? ⟨w.heap.size, 1, none⟩ = some v := fun W hW => (hW.cell (p := ⟨w.heap.size, 1, none⟩) (by simp)).trans (by simp)
  obtain ⟨w1, hw1⟩ : ∃ w1, w1 = w.alloc (.cells #[.int .i64 (A.length : Int), v] 83) := ⟨_, rfl⟩
  rw [← hw1] at y0 y1 hal
  have HG := Lib.hid hal
  have r1 := Grew.refl w1
  have r1d := r1.drew
  obtain ⟨A', c, rfl⟩ := ints_sliceN h
  have HC := Lib.hid (fun h0 => cellsN h h0)
  clear h hA hR hal
  generalize hN : A.length = n at *
  clear hN
  go_enter Tryz.func75, Tryz.ntmps75
  go_wp2_with fail
  simp only [← hw1]
  clear hw1
  go_quiet (fail)
  go_wp2_with fail
  go_loopw [7] (fun i wr => ∃ j : Nat, j ≤ n ∧ i = .int .i64 j ∧ Grew w1 wr ∧ Hid (AllK (fun x => allB n (antiX A x)) j)) (fun i _ => n - (intOf i).toNat)
  case atStart => exact ⟨0, Nat.zero_le _, rfl, (Grew.refl _).drewN _, AllK.zero _⟩
  case round =>
    obtain ⟨j, hj, rfl, hB, HJ⟩ := hrel
    by_cases hlt : j < n
    · obtain ⟨b, o, rfl, hcell⟩ := HC.out (by omega)
      have hgw := HG.out
      have HX := Lib.hid (fun i hi W (hW : Grew w1 W) => hcell i hi W (hgw.trans hW))
      have hcx := fun W (hW : Grew wr W) => HX.out j hlt W (hB.trans hW)
      have rx := Grew.refl wr
      have hA := Lib.hid (HA.out j hlt)
      have hS := Lib.hid (fun h => HJ.out.succ (k := j) h)
      have hBx := Lib.hid (HB.out j hlt)
      clear hcell
      go_wp2_with fail
      go_loopw [8] (fun i wy => ∃ k : Nat, k ≤ n ∧ i = .int .i64 k ∧ Grew w1 wy ∧ Hid (AllK (antiX A j) k)) (fun i _ => n - (intOf i).toNat)
      case atStart => exact ⟨0, Nat.zero_le _, rfl, hB, AllK.zero _⟩
      case round =>
        obtain ⟨k, hk, rfl, hY, HK⟩ := hrel
        by_cases hlk : k < n
        · have hcy := fun W (hW : Grew wr W) => HX.out j hlt W (hY.trans hW)
          have ry := Grew.refl wr
          have hb2 := Lib.hid (hBx.out k (by omega))
          have hKS := Lib.hid (fun h => HK.out.succ (k := k) h)
          have hKN := Lib.hid (fun h => @allB_no n (antiX A j) k hlk h)
          have hcz := fun W (hW : Grew wr W) => HX.out k hlk W (hY.trans hW)
          have hb4 := Lib.hid (HB.out k hlk j (by omega))
          have hax : antiX A j k = !((nt A j).testBit k && (!(j == k) && (nt A k).testBit j)) := rfl
          cases ht : (nt A j).testBit k with
          | false =>
            rw [ht] at hb2 hax
            have hks := Lib.hid (hKS.out (by rw [hax]; simp))
            clear hax hKS hKN ht
            generalize nt A j = m at *
            clear hcx hcz hb4
            go_wp2_with fail
            refine (hb2.out _).mono ?_
            rintro e w3 ⟨rfl, rfl⟩
            go_wp2_with fail
            go_roundw
            case rel => exact ⟨k + 1, by omega, by go_num, hY, hks⟩
            case measure => simp [intOf]; omega
          | true =>
            rw [ht] at hb2 hax
            rw [Bool.true_and] at hax
            by_cases hjk : j = k
            · have hj1 : ((j : Int) != (k : Int)) = false := by rw [hjk]; simp
              have hks := Lib.hid (hKS.out (by rw [hax, hjk]; simp))
              clear hax hKS hKN ht hjk hb4 hcz
              go_wp2_with fail
              refine (hb2.out _).mono ?_
              rintro e w3 ⟨rfl, rfl⟩
              go_wp2_with fail
              go_loopw [9] (fun i wz => ∃ q : Nat, q ≤ n ∧ i = .int .i64 q ∧ Grew w1 wz) (fun i _ => n - (intOf i).toNat)
              case atStart => exact ⟨0, Nat.zero_le _, rfl, hY⟩
              case round =>
                obtain ⟨q, hq, rfl, hZ⟩ := hrel
                by_cases hlq : q < n
                · have hcw := fun W (hW : Grew wr W) => HX.out j hlt W (hZ.trans hW)
                  have rz := Grew.refl wr
                  have hZd := hZ.drew
                  have hb3 := Lib.hid (hBx.out q (by omega))
                  cases ht3 : (nt A j).testBit q with
                  | false =>
                    rw [ht3] at hb3
                    clear ht3
                    generalize nt A j = m at *
                    clear hcx hcy
                    go_wp2_with fail
                    refine (hb3.out _).mono ?_
                    rintro e w4 ⟨rfl, rfl⟩
                    go_wp2_with fail
                    go_roundw
                    case rel => exact ⟨q + 1, by omega, by go_num, hZ⟩
                    case measure => simp [intOf]; omega
                  | true =>
                    rw [ht3] at hb3
                    clear ht3
                    generalize nt A j = m at *
                    clear hcx hcy
                    go_wp2_with fail
                    refine (hb3.out _).mono ?_
                    rintro e w4 ⟨rfl, rfl⟩
                    go_wp2_with fail
                    refine wp_region_held_drew (S := fun w' => Grew w1 w') (by kernel_rfl) hZd (fun hHeld => ?_)
                    refine wpAnyH_take (i := 0) (oi := ?on73) (v := ?vn73) ?hin73 ?an73 ?bn73 ?cn73 ?qn73 (Or.inl ⟨?dn73, ?hyn73⟩) hHeld ?restn73
                    case hin73 => (simp only [List.getElem?_toArray, List.getElem?_cons_zero]; exact rfl)
                    case an73 => kernel_rfl
                    case bn73 => kernel_rfl
                    case cn73 => kernel_rfl
                    case qn73 => exact fun _ _ _ h => h
                    case dn73 => rfl
                    case hyn73 => (intro z hSw; (try dsimp only at hSw); go_simp; (try with_reducible rfl))
                    try simp only [Act.put, List.setIfInBounds_toArray, List.set_cons_zero, List.set_cons_succ]
                    refine wpAnyH_take (i := 1) (oi := ?on74) (v := ?vn74) ?hin74 ?an74 ?bn74 ?cn74 ?qn74 (Or.inl ⟨?dn74, ?hyn74⟩) hHeld ?restn74
                    case hin74 => (simp only [List.getElem?_toArray, List.getElem?_cons_succ, List.getElem?_cons_zero]; exact rfl)
                    case an74 => kernel_rfl
                    case bn74 => kernel_rfl
                    case cn74 => kernel_rfl
                    case qn74 => exact fun _ _ _ h => h
                    case dn74 => rfl
                    case hyn74 => (intro z hSw; (try dsimp only at hSw); go_simp; (try with_reducible rfl))
                    try simp only [Act.put, List.setIfInBounds_toArray, List.set_cons_zero, List.set_cons_succ]
                    refine wpAnyH_take (i := 2) (oi := ?on75) (v := ?vn75) ?hin75 ?an75 ?bn75 ?cn75 ?qn75 (Or.inl ⟨?dn75, ?hyn75⟩) hHeld ?restn75
                    case hin75 => (simp only [List.getElem?_toArray, List.getElem?_cons_succ, List.getElem?_cons_zero]; exact rfl)
                    case an75 => kernel_rfl
                    case bn75 => kernel_rfl
                    case cn75 => kernel_rfl
                    case qn75 => exact fun _ _ _ h => h
                    case dn75 => rfl
                    case hyn75 => (intro z hSw; (try dsimp only at hSw); go_simp; (try with_reducible rfl))
                    try simp only [Act.put, List.setIfInBounds_toArray, List.set_cons_zero, List.set_cons_succ]
                    refine wpAnyH_take (i := 3) (oi := ?on76) ?hin76 ?an76 ?bn76 ?cn76 ?qn76 (Or.inr ⟨?dn76, rfl⟩) hHeld ?restn76
                    case hin76 => (simp only [List.getElem?_toArray, List.getElem?_cons_succ, List.getElem?_cons_zero]; exact rfl)
                    case an76 => kernel_rfl
                    case bn76 => kernel_rfl
                    case cn76 => kernel_rfl
                    case qn76 => exact fun _ _ _ h => h
                    case dn76 => rfl
                    try simp only [Act.put, List.setIfInBounds_toArray, List.set_cons_zero, List.set_cons_succ]
                    refine wpAnyH_take (i := 4) (oi := ?on77) ?hin77 ?an77 ?bn77 ?cn77 ?qn77 (Or.inr ⟨?dn77, rfl⟩) hHeld ?restn77
                    case hin77 => (simp only [List.getElem?_toArray, List.getElem?_cons_succ, List.getElem?_cons_zero]; exact rfl)
                    case an77 => kernel_rfl
                    case bn77 => kernel_rfl
                    case cn77 => kernel_rfl
                    case qn77 => exact fun _ _ _ h => h
                    case dn77 => rfl
                    try simp only [Act.put, List.setIfInBounds_toArray, List.set_cons_zero, List.set_cons_succ]
                    refine wpAnyH_take (i := 5) (oi := ?on78) ?hin78 ?an78 ?bn78 ?cn78 ?qn78 (Or.inr ⟨?dn78, rfl⟩) hHeld ?restn78
                    case hin78 => (simp only [List.getElem?_toArray, List.getElem?_cons_succ, List.getElem?_cons_zero]; exact rfl)
                    case an78 => kernel_rfl
                    case bn78 => kernel_rfl
                    case cn78 => kernel_rfl
                    case qn78 => exact fun _ _ _ h => h
                    case dn78 => rfl
                    try simp only [Act.put, List.setIfInBounds_toArray, List.set_cons_zero, List.set_cons_succ]
                    refine wpAnyH_take (i := 6) (oi := ?on79) ?hin79 ?an79 ?bn79 ?cn79 ?qn79 (Or.inr ⟨?dn79, rfl⟩) hHeld ?restn79
                    case hin79 => (simp only [List.getElem?_toArray, List.getElem?_cons_succ, List.getElem?_cons_zero]; exact rfl)
                    case an79 => kernel_rfl
                    case bn79 => kernel_rfl
                    case cn79 => kernel_rfl
                    case qn79 => exact fun _ _ _ h => h
                    case dn79 => rfl
                    try simp only [Act.put, List.setIfInBounds_toArray, List.set_cons_zero, List.set_cons_succ]
                    refine wpAnyH_take (i := 7) (oi := ?on80) ?hin80 ?an80 ?bn80 ?cn80 ?qn80 (Or.inr ⟨?dn80, rfl⟩) hHeld ?restn80
                    case hin80 => (simp only [List.getElem?_toArray, List.getElem?_cons_succ, List.getElem?_cons_zero]; exact rfl)
                    case an80 => kernel_rfl
                    case bn80 => kernel_rfl
                    case cn80 => kernel_rfl
                    case qn80 => exact fun _ _ _ h => h
                    case dn80 => rfl
                    try simp only [Act.put, List.setIfInBounds_toArray, List.set_cons_zero, List.set_cons_succ]
                    refine wpAnyH_take (i := 8) (oi := ?on81) ?hin81 ?an81 ?bn81 ?cn81 ?qn81 (Or.inr ⟨?dn81, rfl⟩) hHeld ?restn81
                    case hin81 => (simp only [List.getElem?_toArray, List.getElem?_cons_succ, List.getElem?_cons_zero]; exact rfl)
                    case an81 => kernel_rfl
                    case bn81 => kernel_rfl
                    case cn81 => kernel_rfl
                    case qn81 => exact fun _ _ _ h => h
                    case dn81 => rfl
                    try simp only [Act.put, List.setIfInBounds_toArray, List.set_cons_zero, List.set_cons_succ]
                    refine wpAnyH_take (i := 9) (oi := ?on82) ?hin82 ?an82 ?bn82 ?cn82 ?qn82 (Or.inr ⟨?dn82, rfl⟩) hHeld ?restn82
                    case hin82 => (simp only [List.getElem?_toArray, List.getElem?_cons_succ, List.getElem?_cons_zero]; exact rfl)
                    case an82 => kernel_rfl
                    case bn82 => kernel_rfl
                    case cn82 => kernel_rfl
                    case qn82 => exact fun _ _ _ h => h
                    case dn82 => rfl
                    try simp only [Act.put, List.setIfInBounds_toArray, List.set_cons_zero, List.set_cons_succ]
                    refine wpAnyH_take (i := 10) (oi := ?on83) ?hin83 ?an83 ?bn83 ?cn83 ?qn83 (Or.inr ⟨?dn83, rfl⟩) hHeld ?restn83
                    case hin83 => (simp only [List.getElem?_toArray, List.getElem?_cons_succ, List.getElem?_cons_zero]; exact rfl)
                    case an83 => kernel_rfl
                    case bn83 => kernel_rfl
                    case cn83 => kernel_rfl
                    case qn83 => exact fun _ _ _ h => h
                    case dn83 => rfl
                    try simp only [Act.put, List.setIfInBounds_toArray, List.set_cons_zero, List.set_cons_succ]
                    refine wpAnyH_take (i := 11) (oi := ?on84) ?hin84 ?an84 ?bn84 ?cn84 ?qn84 (Or.inr ⟨?dn84, rfl⟩) hHeld ?restn84
                    case hin84 => (simp only [List.getElem?_toArray, List.getElem?_cons_succ, List.getElem?_cons_zero]; exact rfl)
                    case an84 => kernel_rfl
                    case bn84 => kernel_rfl
                    case cn84 => kernel_rfl
                    case qn84 => exact fun _ _ _ h => h
                    case dn84 => rfl
                    try simp only [Act.put, List.setIfInBounds_toArray, List.set_cons_zero, List.set_cons_succ]
                    refine wpAnyH_take (i := 12) (oi := ?on85) ?hin85 ?an85 ?bn85 ?cn85 ?qn85 (Or.inr ⟨?dn85, rfl⟩) hHeld ?restn85
                    case hin85 => (simp only [List.getElem?_toArray, List.getElem?_cons_succ, List.getElem?_cons_zero]; exact rfl)
                    case an85 => kernel_rfl
                    case bn85 => kernel_rfl
                    case cn85 => kernel_rfl
                    case qn85 => exact fun _ _ _ h => h
                    case dn85 => rfl
                    try simp only [Act.put, List.setIfInBounds_toArray, List.set_cons_zero, List.set_cons_succ]
                    refine wpAnyH_take (i := 13) (oi := ?on86) (v := ?vn86) ?hin86 ?an86 ?bn86 ?cn86 ?qn86 (Or.inl ⟨?dn86, ?hyn86⟩) hHeld ?restn86
                    case hin86 => (simp only [List.getElem?_toArray, List.getElem?_cons_succ, List.getElem?_cons_zero]; exact rfl)
                    case an86 => kernel_rfl
                    case bn86 => kernel_rfl
                    case cn86 => kernel_rfl
                    case qn86 => exact fun _ _ _ h => h
                    case dn86 => rfl
                    case hyn86 => (intro z hSw; (try dsimp only at hSw); go_simp; (try with_reducible rfl))
                    try simp only [Act.put, List.setIfInBounds_toArray, List.set_cons_zero, List.set_cons_succ]
                    refine wpAnyH_take (i := 14) (oi := ?on87) (v := ?vn87) ?hin87 ?an87 ?bn87 ?cn87 ?qn87 (Or.inl ⟨?dn87, ?hyn87⟩) hHeld ?restn87
                    case hin87 => (simp only [List.getElem?_toArray, List.getElem?_cons_succ, List.getElem?_cons_zero]; exact rfl)
                    case an87 => kernel_rfl
                    case bn87 => kernel_rfl
                    case cn87 => kernel_rfl
                    case qn87 => exact fun _ _ _ h => h
                    case dn87 => rfl
                    case hyn87 => (intro z hSw; (try dsimp only at hSw); go_simp; (try with_reducible rfl))
                    try simp only [Act.put, List.setIfInBounds_toArray, List.set_cons_zero, List.set_cons_succ]
                    refine wpAnyH_take (i := 15) (oi := ?on88) (v := ?vn88) ?hin88 ?an88 ?bn88 ?cn88 ?qn88 (Or.inl ⟨?dn88, ?hyn88⟩) hHeld ?restn88
                    case hin88 => (simp only [List.getElem?_toArray, List.getElem?_cons_succ, List.getElem?_cons_zero]; exact rfl)
                    case an88 => kernel_rfl
                    case bn88 => kernel_rfl
                    case cn88 => kernel_rfl
                    case qn88 => exact fun _ _ _ h => h
                    case dn88 => rfl
                    case hyn88 => (intro z hSw; (try dsimp only at hSw); go_simp; (try with_reducible rfl))
                    try simp only [Act.put, List.setIfInBounds_toArray, List.set_cons_zero, List.set_cons_succ]
                    refine wpAnyH_take (i := 16) (oi := ?on89) (v := ?vn89) ?hin89 ?an89 ?bn89 ?cn89 ?qn89 (Or.inl ⟨?dn89, ?hyn89⟩) hHeld ?restn89
                    case hin89 => (simp only [List.getElem?_toArray, List.getElem?_cons_succ, List.getElem?_cons_zero]; exact rfl)
                    case an89 => kernel_rfl
                    case bn89 => kernel_rfl
                    case cn89 => kernel_rfl
                    case qn89 => exact fun _ _ _ h => h
                    case dn89 => rfl
                    case hyn89 => (intro z hSw; (try dsimp only at hSw); go_simp; (try with_reducible rfl))
                    try simp only [Act.put, List.setIfInBounds_toArray, List.set_cons_zero, List.set_cons_succ]
                    refine wpAnyH_take (i := 17) (oi := ?on90) (v := ?vn90) ?hin90 ?an90 ?bn90 ?cn90 ?qn90 (Or.inl ⟨?dn90, ?hyn90⟩) hHeld ?restn90
                    case hin90 => (simp only [List.getElem?_toArray, List.getElem?_cons_succ, List.getElem?_cons_zero]; exact rfl)
                    case an90 => kernel_rfl
                    case bn90 => kernel_rfl
                    case cn90 => kernel_rfl
                    case qn90 => exact fun _ _ _ h => h
                    case dn90 => rfl
                    case hyn90 => (intro z hSw; (try dsimp only at hSw); go_simp; (try with_reducible rfl))
                    try simp only [Act.put, List.setIfInBounds_toArray, List.set_cons_zero, List.set_cons_succ]
                    refine wpAnyH_take (i := 18) (oi := ?on91) ?hin91 ?an91 ?bn91 ?cn91 ?qn91 (Or.inr ⟨?dn91, rfl⟩) hHeld ?restn91
                    case hin91 => (simp only [List.getElem?_toArray, List.getElem?_cons_succ, List.getElem?_cons_zero]; exact rfl)
                    case an91 => kernel_rfl
                    case bn91 => kernel_rfl
                    case cn91 => kernel_rfl
                    case qn91 => exact fun _ _ _ h => h
                    case dn91 => rfl
                    try simp only [Act.put, List.setIfInBounds_toArray, List.set_cons_zero, List.set_cons_succ]
                    refine wpAnyH_take (i := 19) (oi := ?on92) ?hin92 ?an92 ?bn92 ?cn92 ?qn92 (Or.inr ⟨?dn92, rfl⟩) hHeld ?restn92
                    case hin92 => (simp only [List.getElem?_toArray, List.getElem?_cons_succ, List.getElem?_cons_zero]; exact rfl)
                    case an92 => kernel_rfl
                    case bn92 => kernel_rfl
                    case cn92 => kernel_rfl
                    case qn92 => exact fun _ _ _ h => h
                    case dn92 => rfl
                    try simp only [Act.put, List.setIfInBounds_toArray, List.set_cons_zero, List.set_cons_succ]
                    refine wpAnyH_take (i := 20) (oi := ?on93) ?hin93 ?an93 ?bn93 ?cn93 ?qn93 (Or.inr ⟨?dn93, rfl⟩) hHeld ?restn93
                    case hin93 => (simp only [List.getElem?_toArray, List.getElem?_cons_succ, List.getElem?_cons_zero]; exact rfl)
                    case an93 => kernel_rfl
                    case bn93 => kernel_rfl
                    case cn93 => kernel_rfl
                    case qn93 => exact fun _ _ _ h => h
                    case dn93 => rfl
                    try simp only [Act.put, List.setIfInBounds_toArray, List.set_cons_zero, List.set_cons_succ]
                    refine wpAnyH_take (i := 21) (oi := ?on94) ?hin94 ?an94 ?bn94 ?cn94 ?qn94 (Or.inr ⟨?dn94, rfl⟩) hHeld ?restn94
                    case hin94 => (simp only [List.getElem?_toArray, List.getElem?_cons_succ, List.getElem?_cons_zero]; exact rfl)
                    case an94 => kernel_rfl
                    case bn94 => kernel_rfl
                    case cn94 => kernel_rfl
                    case qn94 => exact fun _ _ _ h => h
                    case dn94 => rfl
                    try simp only [Act.put, List.setIfInBounds_toArray, List.set_cons_zero, List.set_cons_succ]
                    refine wpAnyH_take (i := 22) (oi := ?on95) ?hin95 ?an95 ?bn95 ?cn95 ?qn95 (Or.inr ⟨?dn95, rfl⟩) hHeld ?restn95
                    case hin95 => (simp only [List.getElem?_toArray, List.getElem?_cons_succ, List.getElem?_cons_zero]; exact rfl)
                    case an95 => kernel_rfl
                    case bn95 => kernel_rfl
                    case cn95 => kernel_rfl
                    case qn95 => exact fun _ _ _ h => h
                    case dn95 => rfl
                    try simp only [Act.put, List.setIfInBounds_toArray, List.set_cons_zero, List.set_cons_succ]
                    refine wpAnyH_take (i := 23) (oi := ?on96) ?hin96 ?an96 ?bn96 ?cn96 ?qn96 (Or.inr ⟨?dn96, rfl⟩) hHeld ?restn96
                    case hin96 => (simp only [List.getElem?_toArray, List.getElem?_cons_succ, List.getElem?_cons_zero]; exact rfl)
                    case an96 => kernel_rfl
                    case bn96 => kernel_rfl
                    case cn96 => kernel_rfl
                    case qn96 => exact fun _ _ _ h => h
                    case dn96 => rfl
                    try simp only [Act.put, List.setIfInBounds_toArray, List.set_cons_zero, List.set_cons_succ]
                    refine wpAnyH_take (i := 24) (oi := ?on97) ?hin97 ?an97 ?bn97 ?cn97 ?qn97 (Or.inr ⟨?dn97, rfl⟩) hHeld ?restn97
                    case hin97 => (simp only [List.getElem?_toArray, List.getElem?_cons_succ, List.getElem?_cons_zero]; exact rfl)
                    case an97 => kernel_rfl
                    case bn97 => kernel_rfl
                    case cn97 => kernel_rfl
                    case qn97 => exact fun _ _ _ h => h
                    case dn97 => rfl
                    try simp only [Act.put, List.setIfInBounds_toArray, List.set_cons_zero, List.set_cons_succ]
                    refine wpAnyH_take (i := 25) (oi := ?on98) (v := ?vn98) ?hin98 ?an98 ?bn98 ?cn98 ?qn98 (Or.inl ⟨?dn98, ?hyn98⟩) hHeld ?restn98
                    case hin98 => (simp only [List.getElem?_toArray, List.getElem?_cons_succ, List.getElem?_cons_zero]; exact rfl)
                    case an98 => kernel_rfl
                    case bn98 => kernel_rfl
                    case cn98 => kernel_rfl
                    case qn98 => exact fun _ _ _ h => h
                    case dn98 => rfl
                    case hyn98 => (intro z hSw; (try dsimp only at hSw); go_simp; (try with_reducible rfl))
                    try simp only [Act.put, List.setIfInBounds_toArray, List.set_cons_zero, List.set_cons_succ]
                    refine wpAnyH_take (i := 26) (oi := ?on99) (v := ?vn99) ?hin99 ?an99 ?bn99 ?cn99 ?qn99 (Or.inl ⟨?dn99, ?hyn99⟩) hHeld ?restn99
                    case hin99 => (simp only [List.getElem?_toArray, List.getElem?_cons_succ, List.getElem?_cons_zero]; exact rfl)
                    case an99 => kernel_rfl
                    case bn99 => kernel_rfl
                    case cn99 => kernel_rfl
                    case qn99 => exact fun _ _ _ h => h
                    case dn99 => rfl
                    case hyn99 => (intro z hSw; (try dsimp only at hSw); go_simp; (try with_reducible rfl))
                    try simp only [Act.put, List.setIfInBounds_toArray, List.set_cons_zero, List.set_cons_succ]
                    refine wpAnyH_take (i := 27) (oi := ?on100) ?hin100 ?an100 ?bn100 ?cn100 ?qn100 (Or.inr ⟨?dn100, rfl⟩) hHeld ?restn100
                    case hin100 => (simp only [List.getElem?_toArray, List.getElem?_cons_succ, List.getElem?_cons_zero]; exact rfl)
                    case an100 => kernel_rfl
                    case bn100 => kernel_rfl
                    case cn100 => kernel_rfl
                    case qn100 => exact fun _ _ _ h => h
                    case dn100 => rfl
                    try simp only [Act.put, List.setIfInBounds_toArray, List.set_cons_zero, List.set_cons_succ]
                    refine wpAnyH_take (i := 28) (oi := ?on101) ?hin101 ?an101 ?bn101 ?cn101 ?qn101 (Or.inr ⟨?dn101, rfl⟩) hHeld ?restn101
                    case hin101 => (simp only [List.getElem?_toArray, List.getElem?_cons_succ, List.getElem?_cons_zero]; exact rfl)
                    case an101 => kernel_rfl
                    case bn101 => kernel_rfl
                    case cn101 => kernel_rfl
                    case qn101 => exact fun _ _ _ h => h
                    case dn101 => rfl
                    try simp only [Act.put, List.setIfInBounds_toArray, List.set_cons_zero, List.set_cons_succ]
                    refine wpAnyH_take (i := 29) (oi := ?on102) ?hin102 ?an102 ?bn102 ?cn102 ?qn102 (Or.inr ⟨?dn102, rfl⟩) hHeld ?restn102
                    case hin102 => (simp only [List.getElem?_toArray, List.getElem?_cons_succ, List.getElem?_cons_zero]; exact rfl)
                    case an102 => kernel_rfl
                    case bn102 => kernel_rfl
                    case cn102 => kernel_rfl
                    case qn102 => exact fun _ _ _ h => h
                    case dn102 => rfl
                    try simp only [Act.put, List.setIfInBounds_toArray, List.set_cons_zero, List.set_cons_succ]
                    refine wpAnyH_take (i := 30) (oi := ?on103) ?hin103 ?an103 ?bn103 ?cn103 ?qn103 (Or.inr ⟨?dn103, rfl⟩) hHeld ?restn103
                    case hin103 => (simp only [List.getElem?_toArray, List.getElem?_cons_succ, List.getElem?_cons_zero]; exact rfl)
                    case an103 => kernel_rfl
                    case bn103 => kernel_rfl
                    case cn103 => kernel_rfl
                    case qn103 => exact fun _ _ _ h => h
                    case dn103 => rfl
                    try simp only [Act.put, List.setIfInBounds_toArray, List.set_cons_zero, List.set_cons_succ]
                    refine wpAnyH_take (i := 31) (oi := ?on104) ?hin104 ?an104 ?bn104 ?cn104 ?qn104 (Or.inr ⟨?dn104, rfl⟩) hHeld ?restn104
                    case hin104 => (simp only [List.getElem?_toArray, List.getElem?_cons_succ, List.getElem?_cons_zero]; exact rfl)
                    case an104 => kernel_rfl
                    case bn104 => kernel_rfl
                    case cn104 => kernel_rfl
                    case qn104 => exact fun _ _ _ h => h
                    case dn104 => rfl
                    try simp only [Act.put, List.setIfInBounds_toArray, List.set_cons_zero, List.set_cons_succ]
                    refine wpAnyH_take (i := 32) (oi := ?on105) ?hin105 ?an105 ?bn105 ?cn105 ?qn105 (Or.inr ⟨?dn105, rfl⟩) hHeld ?restn105
                    case hin105 => (simp only [List.getElem?_toArray, List.getElem?_cons_succ, List.getElem?_cons_zero]; exact rfl)
                    case an105 => kernel_rfl
                    case bn105 => kernel_rfl
                    case cn105 => kernel_rfl
                    case qn105 => exact fun _ _ _ h => h
                    case dn105 => rfl
                    try simp only [Act.put, List.setIfInBounds_toArray, List.set_cons_zero, List.set_cons_succ]
                    refine wpAnyH_take (i := 33) (oi := ?on106) ?hin106 ?an106 ?bn106 ?cn106 ?qn106 (Or.inr ⟨?dn106, rfl⟩) hHeld ?restn106
                    case hin106 => (simp only [List.getElem?_toArray, List.getElem?_cons_succ, List.getElem?_cons_zero]; exact rfl)
                    case an106 => kernel_rfl
                    case bn106 => kernel_rfl
                    case cn106 => kernel_rfl
                    case qn106 => exact fun _ _ _ h => h
                    case dn106 => rfl
                    try simp only [Act.put, List.setIfInBounds_toArray, List.set_cons_zero, List.set_cons_succ]
                    refine wpAnyH_take (i := 34) (oi := ?on107) (v := ?vn107) ?hin107 ?an107 ?bn107 ?cn107 ?qn107 (Or.inl ⟨?dn107, ?hyn107⟩) hHeld ?restn107
                    case hin107 => (simp only [List.getElem?_toArray, List.getElem?_cons_succ, List.getElem?_cons_zero]; exact rfl)
                    case an107 => kernel_rfl
                    case bn107 => kernel_rfl
                    case cn107 => kernel_rfl
                    case qn107 => exact fun _ _ _ h => h
                    case dn107 => rfl
                    case hyn107 => (intro z hSw; (try dsimp only at hSw); go_simp; (try with_reducible rfl))
                    try simp only [Act.put, List.setIfInBounds_toArray, List.set_cons_zero, List.set_cons_succ]
                    refine wpAnyH_take (i := 35) (oi := ?on108) (v := ?vn108) ?hin108 ?an108 ?bn108 ?cn108 ?qn108 (Or.inl ⟨?dn108, ?hyn108⟩) hHeld ?restn108
                    case hin108 => (simp only [List.getElem?_toArray, List.getElem?_cons_succ, List.getElem?_cons_zero]; exact rfl)
                    case an108 => kernel_rfl
                    case bn108 => kernel_rfl
                    case cn108 => kernel_rfl
                    case qn108 => exact fun _ _ _ h => h
                    case dn108 => rfl
                    case hyn108 => (intro z hSw; (try dsimp only at hSw); go_simp; (try with_reducible rfl))
                    try simp only [Act.put, List.setIfInBounds_toArray, List.set_cons_zero, List.set_cons_succ]
                    refine wpAnyH_done (by kernel_rfl) ?_ _
                    go_wp2_with fail
                    go_roundw
                    case rel => exact ⟨q + 1, by omega, by go_num, hZd⟩
                    case measure => simp [intOf]; omega
                · obtain rfl : q = n := by omega
                  go_wp2_with fail
                  go_roundw
                  case rel => exact ⟨k + 1, by omega, by go_num, hZ, hks⟩
                  case measure => simp [intOf]; omega
            · have hj1 : ((j : Int) != (k : Int)) = true := by
                rw [bne_iff_ne]
                omega
              have hj2 : (j == k) = false := by rw [beq_eq_false_iff_ne]; exact hjk
              rw [hj2, Bool.not_false, Bool.true_and] at hax
              cases ht2 : (nt A k).testBit j with
              | true =>
                rw [ht2] at hb4 hax
                have hv := Lib.hid (hA.out (hKN.out (by rw [hax]; rfl)))
                clear hax hKS hKN ht hjk hj2 ht2
                generalize nt A j = m at *
                generalize nt A k = m2 at *
                go_wp2_with fail
                refine (hb2.out _).mono ?_
                rintro e w3 ⟨rfl, rfl⟩
                go_wp2_with fail
                refine (hb4.out _).mono ?_
                rintro e w4 ⟨rfl, rfl⟩
                go_wp2_with fail
                go_ret
                exact ⟨by rw [hv.out]; rfl, HG.out.trans hY⟩
              | false =>
                rw [ht2] at hb4 hax
                have hks := Lib.hid (hKS.out (by rw [hax]; rfl))
                clear hax hKS hKN ht hjk hj2 ht2
                go_wp2_with fail
                refine (hb2.out _).mono ?_
                rintro e w3 ⟨rfl, rfl⟩
                go_wp2_with fail
                refine (hb4.out _).mono ?_
                rintro e w4 ⟨rfl, rfl⟩
                go_wp2_with fail
                go_loopw [9] (fun i wz => ∃ q : Nat, q ≤ n ∧ i = .int .i64 q ∧ Grew w1 wz) (fun i _ => n - (intOf i).toNat)
                case atStart => exact ⟨0, Nat.zero_le _, rfl, hY⟩
                case round =>
                  obtain ⟨q, hq, rfl, hZ⟩ := hrel
                  by_cases hlq : q < n
                  · have hcw := fun W (hW : Grew wr W) => HX.out j hlt W (hZ.trans hW)
                    have rz := Grew.refl wr
                    have hZd := hZ.drew
                    have hb3 := Lib.hid (hBx.out q (by omega))
                    cases ht3 : (nt A j).testBit q with
                    | false =>
                      rw [ht3] at hb3
                      clear ht3
                      generalize nt A j = m at *
                      clear hcx hcy
                      go_wp2_with fail
                      refine (hb3.out _).mono ?_
                      rintro e w4 ⟨rfl, rfl⟩
                      go_wp2_with fail
                      go_roundw
                      case rel => exact ⟨q + 1, by omega, by go_num, hZ⟩
                      case measure => simp [intOf]; omega
                    | true =>
                      rw [ht3] at hb3
                      clear ht3
                      generalize nt A j = m at *
                      clear hcx hcy
                      go_wp2_with fail
                      refine (hb3.out _).mono ?_
                      rintro e w4 ⟨rfl, rfl⟩
                      go_wp2_with fail
                      refine wp_region_held_drew (S := fun w' => Grew w1 w') (by kernel_rfl) hZd (fun hHeld => ?_)
                      refine wpAnyH_take (i := 0) (oi := ?on109) (v := ?vn109) ?hin109 ?an109 ?bn109 ?cn109 ?qn109 (Or.inl ⟨?dn109, ?hyn109⟩) hHeld ?restn109
                      case hin109 => (simp only [List.getElem?_toArray, List.getElem?_cons_zero]; exact rfl)
                      case an109 => kernel_rfl
                      case bn109 => kernel_rfl
                      case cn109 => kernel_rfl
                      case qn109 => exact fun _ _ _ h => h
                      case dn109 => rfl
                      case hyn109 => (intro z hSw; (try dsimp only at hSw); go_simp; (try with_reducible rfl))
                      try simp only [Act.put, List.setIfInBounds_toArray, List.set_cons_zero, List.set_cons_succ]
                      refine wpAnyH_take (i := 1) (oi := ?on110) (v := ?vn110) ?hin110 ?an110 ?bn110 ?cn110 ?qn110 (Or.inl ⟨?dn110, ?hyn110⟩) hHeld ?restn110
                      case hin110 => (simp only [List.getElem?_toArray, List.getElem?_cons_succ, List.getElem?_cons_zero]; exact rfl)
                      case an110 => kernel_rfl
                      case bn110 => kernel_rfl
                      case cn110 => kernel_rfl
                      case qn110 => exact fun _ _ _ h => h
                      case dn110 => rfl
                      case hyn110 => (intro z hSw; (try dsimp only at hSw); go_simp; (try with_reducible rfl))
                      try simp only [Act.put, List.setIfInBounds_toArray, List.set_cons_zero, List.set_cons_succ]
                      refine wpAnyH_take (i := 2) (oi := ?on111) (v := ?vn111) ?hin111 ?an111 ?bn111 ?cn111 ?qn111 (Or.inl ⟨?dn111, ?hyn111⟩) hHeld ?restn111
                      case hin111 => (simp only [List.getElem?_toArray, List.getElem?_cons_succ, List.getElem?_cons_zero]; exact rfl)
                      case an111 => kernel_rfl
                      case bn111 => kernel_rfl
                      case cn111 => kernel_rfl
                      case qn111 => exact fun _ _ _ h => h
                      case dn111 => rfl
                      case hyn111 => (intro z hSw; (try dsimp only at hSw); go_simp; (try with_reducible rfl))
                      try simp only [Act.put, List.setIfInBounds_toArray, List.set_cons_zero, List.set_cons_succ]
                      refine wpAnyH_take (i := 3) (oi := ?on112) ?hin112 ?an112 ?bn112 ?cn112 ?qn112 (Or.inr ⟨?dn112, rfl⟩) hHeld ?restn112
                      case hin112 => (simp only [List.getElem?_toArray, List.getElem?_cons_succ, List.getElem?_cons_zero]; exact rfl)
                      case an112 => kernel_rfl
                      case bn112 => kernel_rfl
                      case cn112 => kernel_rfl
                      case qn112 => exact fun _ _ _ h => h
                      case dn112 => rfl
                      try simp only [Act.put, List.setIfInBounds_toArray, List.set_cons_zero, List.set_cons_succ]
                      refine wpAnyH_take (i := 4) (oi := ?on113) ?hin113 ?an113 ?bn113 ?cn113 ?qn113 (Or.inr ⟨?dn113, rfl⟩) hHeld ?restn113
                      case hin113 => (simp only [List.getElem?_toArray, List.getElem?_cons_succ, List.getElem?_cons_zero]; exact rfl)
                      case an113 => kernel_rfl
                      case bn113 => kernel_rfl
                      case cn113 => kernel_rfl
                      case qn113 => exact fun _ _ _ h => h
                      case dn113 => rfl
                      try simp only [Act.put, List.setIfInBounds_toArray, List.set_cons_zero, List.set_cons_succ]
                      refine wpAnyH_take (i := 5) (oi := ?on114) ?hin114 ?an114 ?bn114 ?cn114 ?qn114 (Or.inr ⟨?dn114, rfl⟩) hHeld ?restn114
                      case hin114 => (simp only [List.getElem?_toArray, List.getElem?_cons_succ, List.getElem?_cons_zero]; exact rfl)
                      case an114 => kernel_rfl
                      case bn114 => kernel_rfl
                      case cn114 => kernel_rfl
                      case qn114 => exact fun _ _ _ h => h
                      case dn114 => rfl
                      try simp only [Act.put, List.setIfInBounds_toArray, List.set_cons_zero, List.set_cons_succ]
                      refine wpAnyH_take (i := 6) (oi := ?on115) ?hin115 ?an115 ?bn115 ?cn115 ?qn115 (Or.inr ⟨?dn115, rfl⟩) hHeld ?restn115
                      case hin115 => (simp only [List.getElem?_toArray, List.getElem?_cons_succ, List.getElem?_cons_zero]; exact rfl)
                      case an115 => kernel_rfl
                      case bn115 => kernel_rfl
                      case cn115 => kernel_rfl
                      case qn115 => exact fun _ _ _ h => h
                      case dn115 => rfl
                      try simp only [Act.put, List.setIfInBounds_toArray, List.set_cons_zero, List.set_cons_succ]
                      refine wpAnyH_take (i := 7) (oi := ?on116) ?hin116 ?an116 ?bn116 ?cn116 ?qn116 (Or.inr ⟨?dn116, rfl⟩) hHeld ?restn116
                      case hin116 => (simp only [List.getElem?_toArray, List.getElem?_cons_succ, List.getElem?_cons_zero]; exact rfl)
                      case an116 => kernel_rfl
                      case bn116 => kernel_rfl
                      case cn116 => kernel_rfl
                      case qn116 => exact fun _ _ _ h => h
                      case dn116 => rfl
                      try simp only [Act.put, List.setIfInBounds_toArray, List.set_cons_zero, List.set_cons_succ]
                      refine wpAnyH_take (i := 8) (oi := ?on117) ?hin117 ?an117 ?bn117 ?cn117 ?qn117 (Or.inr ⟨?dn117, rfl⟩) hHeld ?restn117
                      case hin117 => (simp only [List.getElem?_toArray, List.getElem?_cons_succ, List.getElem?_cons_zero]; exact rfl)
                      case an117 => kernel_rfl
                      case bn117 => kernel_rfl
                      case cn117 => kernel_rfl
                      case qn117 => exact fun _ _ _ h => h
                      case dn117 => rfl
                      try simp only [Act.put, List.setIfInBounds_toArray, List.set_cons_zero, List.set_cons_succ]
                      refine wpAnyH_take (i := 9) (oi := ?on118) ?hin118 ?an118 ?bn118 ?cn118 ?qn118 (Or.inr ⟨?dn118, rfl⟩) hHeld ?restn118
                      case hin118 => (simp only [List.getElem?_toArray, List.getElem?_cons_succ, List.getElem?_cons_zero]; exact rfl)
                      case an118 => kernel_rfl
                      case bn118 => kernel_rfl
                      case cn118 => kernel_rfl
                      case qn118 => exact fun _ _ _ h => h
                      case dn118 => rfl
                      try simp only [Act.put, List.setIfInBounds_toArray, List.set_cons_zero, List.set_cons_succ]
                      refine wpAnyH_take (i := 10) (oi := ?on119) ?hin119 ?an119 ?bn119 ?cn119 ?qn119 (Or.inr ⟨?dn119, rfl⟩) hHeld ?restn119
                      case hin119 => (simp only [List.getElem?_toArray, List.getElem?_cons_succ, List.getElem?_cons_zero]; exact rfl)
                      case an119 => kernel_rfl
                      case bn119 => kernel_rfl
                      case cn119 => kernel_rfl
                      case qn119 => exact fun _ _ _ h => h
                      case dn119 => rfl
                      try simp only [Act.put, List.setIfInBounds_toArray, List.set_cons_zero, List.set_cons_succ]
                      refine wpAnyH_take (i := 11) (oi := ?on120) ?hin120 ?an120 ?bn120 ?cn120 ?qn120 (Or.inr ⟨?dn120, rfl⟩) hHeld ?restn120
                      case hin120 => (simp only [List.getElem?_toArray, List.getElem?_cons_succ, List.getElem?_cons_zero]; exact rfl)
                      case an120 => kernel_rfl
                      case bn120 => kernel_rfl
                      case cn120 => kernel_rfl
                      case qn120 => exact fun _ _ _ h => h
                      case dn120 => rfl
                      try simp only [Act.put, List.setIfInBounds_toArray, List.set_cons_zero, List.set_cons_succ]
                      refine wpAnyH_take (i := 12) (oi := ?on121) ?hin121 ?an121 ?bn121 ?cn121 ?qn121 (Or.inr ⟨?dn121, rfl⟩) hHeld ?restn121
                      case hin121 => (simp only [List.getElem?_toArray, List.getElem?_cons_succ, List.getElem?_cons_zero]; exact rfl)
                      case an121 => kernel_rfl
                      case bn121 => kernel_rfl
                      case cn121 => kernel_rfl
                      case qn121 => exact fun _ _ _ h => h
                      case dn121 => rfl
                      try simp only [Act.put, List.setIfInBounds_toArray, List.set_cons_zero, List.set_cons_succ]
                      refine wpAnyH_take (i := 13) (oi := ?on122) (v := ?vn122) ?hin122 ?an122 ?bn122 ?cn122 ?qn122 (Or.inl ⟨?dn122, ?hyn122⟩) hHeld ?restn122
                      case hin122 => (simp only [List.getElem?_toArray, List.getElem?_cons_succ, List.getElem?_cons_zero]; exact rfl)
                      case an122 => kernel_rfl
                      case bn122 => kernel_rfl
                      case cn122 => kernel_rfl
                      case qn122 => exact fun _ _ _ h => h
                      case dn122 => rfl
                      case hyn122 => (intro z hSw; (try dsimp only at hSw); go_simp; (try with_reducible rfl))
                      try simp only [Act.put, List.setIfInBounds_toArray, List.set_cons_zero, List.set_cons_succ]
                      refine wpAnyH_take (i := 14) (oi := ?on123) (v := ?vn123) ?hin123 ?an123 ?bn123 ?cn123 ?qn123 (Or.inl ⟨?dn123, ?hyn123⟩) hHeld ?restn123
                      case hin123 => (simp only [List.getElem?_toArray, List.getElem?_cons_succ, List.getElem?_cons_zero]; exact rfl)
                      case an123 => kernel_rfl
                      case bn123 => kernel_rfl
                      case cn123 => kernel_rfl
                      case qn123 => exact fun _ _ _ h => h
                      case dn123 => rfl
                      case hyn123 => (intro z hSw; (try dsimp only at hSw); go_simp; (try with_reducible rfl))
                      try simp only [Act.put, List.setIfInBounds_toArray, List.set_cons_zero, List.set_cons_succ]
                      refine wpAnyH_take (i := 15) (oi := ?on124) (v := ?vn124) ?hin124 ?an124 ?bn124 ?cn124 ?qn124 (Or.inl ⟨?dn124, ?hyn124⟩) hHeld ?restn124
                      case hin124 => (simp only [List.getElem?_toArray, List.getElem?_cons_succ, List.getElem?_cons_zero]; exact rfl)
                      case an124 => kernel_rfl
                      case bn124 => kernel_rfl
                      case cn124 => kernel_rfl
                      case qn124 => exact fun _ _ _ h => h
                      case dn124 => rfl
                      case hyn124 => (intro z hSw; (try dsimp only at hSw); go_simp; (try with_reducible rfl))
                      try simp only [Act.put, List.setIfInBounds_toArray, List.set_cons_zero, List.set_cons_succ]
                      refine wpAnyH_take (i := 16) (oi := ?on125) (v := ?vn125) ?hin125 ?an125 ?bn125 ?cn125 ?qn125 (Or.inl ⟨?dn125, ?hyn125⟩) hHeld ?restn125
                      case hin125 => (simp only [List.getElem?_toArray, List.getElem?_cons_succ, List.getElem?_cons_zero]; exact rfl)
                      case an125 => kernel_rfl
                      case bn125 => kernel_rfl
                      case cn125 => kernel_rfl
                      case qn125 => exact fun _ _ _ h => h
                      case dn125 => rfl
                      case hyn125 => (intro z hSw; (try dsimp only at hSw); go_simp; (try with_reducible rfl))
                      try simp only [Act.put, List.setIfInBounds_toArray, List.set_cons_zero, List.set_cons_succ]
                      refine wpAnyH_take (i := 17) (oi := ?on126) (v := ?vn126) ?hin126 ?an126 ?bn126 ?cn126 ?qn126 (Or.inl ⟨?dn126, ?hyn126⟩) hHeld ?restn126
                      case hin126 => (simp only [List.getElem?_toArray, List.getElem?_cons_succ, List.getElem?_cons_zero]; exact rfl)
                      case an126 => kernel_rfl
                      case bn126 => kernel_rfl
                      case cn126 => kernel_rfl
                      case qn126 => exact fun _ _ _ h => h
                      case dn126 => rfl
                      case hyn126 => (intro z hSw; (try dsimp only at hSw); go_simp; (try with_reducible rfl))
                      try simp only [Act.put, List.setIfInBounds_toArray, List.set_cons_zero, List.set_cons_succ]
                      refine wpAnyH_take (i := 18) (oi := ?on127) ?hin127 ?an127 ?bn127 ?cn127 ?qn127 (Or.inr ⟨?dn127, rfl⟩) hHeld ?restn127
                      case hin127 => (simp only [List.getElem?_toArray, List.getElem?_cons_succ, List.getElem?_cons_zero]; exact rfl)
                      case an127 => kernel_rfl
                      case bn127 => kernel_rfl
                      case cn127 => kernel_rfl
                      case qn127 => exact fun _ _ _ h => h
                      case dn127 => rfl
                      try simp only [Act.put, List.setIfInBounds_toArray, List.set_cons_zero, List.set_cons_succ]
                      refine wpAnyH_take (i := 19) (oi := ?on128) ?hin128 ?an128 ?bn128 ?cn128 ?qn128 (Or.inr ⟨?dn128, rfl⟩) hHeld ?restn128
                      case hin128 => (simp only [List.getElem?_toArray, List.getElem?_cons_succ, List.getElem?_cons_zero]; exact rfl)
                      case an128 => kernel_rfl
                      case bn128 => kernel_rfl
                      case cn128 => kernel_rfl
                      case qn128 => exact fun _ _ _ h => h
                      case dn128 => rfl
                      try simp only [Act.put, List.setIfInBounds_toArray, List.set_cons_zero, List.set_cons_succ]
                      refine wpAnyH_take (i := 20) (oi := ?on129) ?hin129 ?an129 ?bn129 ?cn129 ?qn129 (Or.inr ⟨?dn129, rfl⟩) hHeld ?restn129
                      case hin129 => (simp only [List.getElem?_toArray, List.getElem?_cons_succ, List.getElem?_cons_zero]; exact rfl)
                      case an129 => kernel_rfl
                      case bn129 => kernel_rfl
                      case cn129 => kernel_rfl
                      case qn129 => exact fun _ _ _ h => h
                      case dn129 => rfl
                      try simp only [Act.put, List.setIfInBounds_toArray, List.set_cons_zero, List.set_cons_succ]
                      refine wpAnyH_take (i := 21) (oi := ?on130) ?hin130 ?an130 ?bn130 ?cn130 ?qn130 (Or.inr ⟨?dn130, rfl⟩) hHeld ?restn130
                      case hin130 => (simp only [List.getElem?_toArray, List.getElem?_cons_succ, List.getElem?_cons_zero]; exact rfl)
                      case an130 => kernel_rfl
                      case bn130 => kernel_rfl
                      case cn130 => kernel_rfl
                      case qn130 => exact fun _ _ _ h => h
                      case dn130 => rfl
                      try simp only [Act.put, List.setIfInBounds_toArray, List.set_cons_zero, List.set_cons_succ]
                      refine wpAnyH_take (i := 22) (oi := ?on131) ?hin131 ?an131 ?bn131 ?cn131 ?qn131 (Or.inr ⟨?dn131, rfl⟩) hHeld ?restn131
                      case hin131 => (simp only [List.getElem?_toArray, List.getElem?_cons_succ, List.getElem?_cons_zero]; exact rfl)
                      case an131 => kernel_rfl
                      case bn131 => kernel_rfl
                      case cn131 => kernel_rfl
                      case qn131 => exact fun _ _ _ h => h
                      case dn131 => rfl
                      try simp only [Act.put, List.setIfInBounds_toArray, List.set_cons_zero, List.set_cons_succ]
                      refine wpAnyH_take (i := 23) (oi := ?on132) ?hin132 ?an132 ?bn132 ?cn132 ?qn132 (Or.inr ⟨?dn132, rfl⟩) hHeld ?restn132
                      case hin132 => (simp only [List.getElem?_toArray, List.getElem?_cons_succ, List.getElem?_cons_zero]; exact rfl)
                      case an132 => kernel_rfl
                      case bn132 => kernel_rfl
                      case cn132 => kernel_rfl
                      case qn132 => exact fun _ _ _ h => h
                      case dn132 => rfl
                      try simp only [Act.put, List.setIfInBounds_toArray, List.set_cons_zero, List.set_cons_succ]
                      refine wpAnyH_take (i := 24) (oi := ?on133) ?hin133 ?an133 ?bn133 ?cn133 ?qn133 (Or.inr ⟨?dn133, rfl⟩) hHeld ?restn133
                      case hin133 => (simp only [List.getElem?_toArray, List.getElem?_cons_succ, List.getElem?_cons_zero]; exact rfl)
                      case an133 => kernel_rfl
                      case bn133 => kernel_rfl
                      case cn133 => kernel_rfl
                      case qn133 => exact fun _ _ _ h => h
                      case dn133 => rfl
                      try simp only [Act.put, List.setIfInBounds_toArray, List.set_cons_zero, List.set_cons_succ]
                      refine wpAnyH_take (i := 25) (oi := ?on134) (v := ?vn134) ?hin134 ?an134 ?bn134 ?cn134 ?qn134 (Or.inl ⟨?dn134, ?hyn134⟩) hHeld ?restn134
                      case hin134 => (simp only [List.getElem?_toArray, List.getElem?_cons_succ, List.getElem?_cons_zero]; exact rfl)
                      case an134 => kernel_rfl
                      case bn134 => kernel_rfl
                      case cn134 => kernel_rfl
                      case qn134 => exact fun _ _ _ h => h
                      case dn134 => rfl
                      case hyn134 => (intro z hSw; (try dsimp only at hSw); go_simp; (try with_reducible rfl))
                      try simp only [Act.put, List.setIfInBounds_toArray, List.set_cons_zero, List.set_cons_succ]
                      refine wpAnyH_take (i := 26) (oi := ?on135) (v := ?vn135) ?hin135 ?an135 ?bn135 ?cn135 ?qn135 (Or.inl ⟨?dn135, ?hyn135⟩) hHeld ?restn135
                      case hin135 => (simp only [List.getElem?_toArray, List.getElem?_cons_succ, List.getElem?_cons_zero]; exact rfl)
                      case an135 => kernel_rfl
                      case bn135 => kernel_rfl
                      case cn135 => kernel_rfl
                      case qn135 => exact fun _ _ _ h => h
                      case dn135 => rfl
                      case hyn135 => (intro z hSw; (try dsimp only at hSw); go_simp; (try with_reducible rfl))
                      try simp only [Act.put, List.setIfInBounds_toArray, List.set_cons_zero, List.set_cons_succ]
                      refine wpAnyH_take (i := 27) (oi := ?on136) ?hin136 ?an136 ?bn136 ?cn136 ?qn136 (Or.inr ⟨?dn136, rfl⟩) hHeld ?restn136
                      case hin136 => (simp only [List.getElem?_toArray, List.getElem?_cons_succ, List.getElem?_cons_zero]; exact rfl)
                      case an136 => kernel_rfl
                      case bn136 => kernel_rfl
                      case cn136 => kernel_rfl
                      case qn136 => exact fun _ _ _ h => h
                      case dn136 => rfl
                      try simp only [Act.put, List.setIfInBounds_toArray, List.set_cons_zero, List.set_cons_succ]
                      refine wpAnyH_take (i := 28) (oi := ?on137) ?hin137 ?an137 ?bn137 ?cn137 ?qn137 (Or.inr ⟨?dn137, rfl⟩) hHeld ?restn137
                      case hin137 => (simp only [List.getElem?_toArray, List.getElem?_cons_succ, List.getElem?_cons_zero]; exact rfl)
                      case an137 => kernel_rfl
                      case bn137 => kernel_rfl
                      case cn137 => kernel_rfl
                      case qn137 => exact fun _ _ _ h => h
                      case dn137 => rfl
                      try simp only [Act.put, List.setIfInBounds_toArray, List.set_cons_zero, List.set_cons_succ]
                      refine wpAnyH_take (i := 29) (oi := ?on138) ?hin138 ?an138 ?bn138 ?cn138 ?qn138 (Or.inr ⟨?dn138, rfl⟩) hHeld ?restn138
                      case hin138 => (simp only [List.getElem?_toArray, List.getElem?_cons_succ, List.getElem?_cons_zero]; exact rfl)
                      case an138 => kernel_rfl
                      case bn138 => kernel_rfl
                      case cn138 => kernel_rfl
                      case qn138 => exact fun _ _ _ h => h
                      case dn138 => rfl
                      try simp only [Act.put, List.setIfInBounds_toArray, List.set_cons_zero, List.set_cons_succ]
                      refine wpAnyH_take (i := 30) (oi := ?on139) ?hin139 ?an139 ?bn139 ?cn139 ?qn139 (Or.inr ⟨?dn139, rfl⟩) hHeld ?restn139
                      case hin139 => (simp only [List.getElem?_toArray, List.getElem?_cons_succ, List.getElem?_cons_zero]; exact rfl)
                      case an139 => kernel_rfl
                      case bn139 => kernel_rfl
                      case cn139 => kernel_rfl
                      case qn139 => exact fun _ _ _ h => h
                      case dn139 => rfl
                      try simp only [Act.put, List.setIfInBounds_toArray, List.set_cons_zero, List.set_cons_succ]
                      refine wpAnyH_take (i := 31) (oi := ?on140) ?hin140 ?an140 ?bn140 ?cn140 ?qn140 (Or.inr ⟨?dn140, rfl⟩) hHeld ?restn140
                      case hin140 => (simp only [List.getElem?_toArray, List.getElem?_cons_succ, List.getElem?_cons_zero]; exact rfl)
                      case an140 => kernel_rfl
                      case bn140 => kernel_rfl
                      case cn140 => kernel_rfl
                      case qn140 => exact fun _ _ _ h => h
                      case dn140 => rfl
                      try simp only [Act.put, List.setIfInBounds_toArray, List.set_cons_zero, List.set_cons_succ]
                      refine wpAnyH_take (i := 32) (oi := ?on141) ?hin141 ?an141 ?bn141 ?cn141 ?qn141 (Or.inr ⟨?dn141, rfl⟩) hHeld ?restn141
                      case hin141 => (simp only [List.getElem?_toArray, List.getElem?_cons_succ, List.getElem?_cons_zero]; exact rfl)
                      case an141 => kernel_rfl
                      case bn141 => kernel_rfl
                      case cn141 => kernel_rfl
                      case qn141 => exact fun _ _ _ h => h
                      case dn141 => rfl
                      try simp only [Act.put, List.setIfInBounds_toArray, List.set_cons_zero, List.set_cons_succ]
                      refine wpAnyH_take (i := 33) (oi := ?on142) ?hin142 ?an142 ?bn142 ?cn142 ?qn142 (Or.inr ⟨?dn142, rfl⟩) hHeld ?restn142
                      case hin142 => (simp only [List.getElem?_toArray, List.getElem?_cons_succ, List.getElem?_cons_zero]; exact rfl)
                      case an142 => kernel_rfl
                      case bn142 => kernel_rfl
                      case cn142 => kernel_rfl
                      case qn142 => exact fun _ _ _ h => h
                      case dn142 => rfl
                      try simp only [Act.put, List.setIfInBounds_toArray, List.set_cons_zero, List.set_cons_succ]
                      refine wpAnyH_take (i := 34) (oi := ?on143) (v := ?vn143) ?hin143 ?an143 ?bn143 ?cn143 ?qn143 (Or.inl ⟨?dn143, ?hyn143⟩) hHeld ?restn143
                      case hin143 => (simp only [List.getElem?_toArray, List.getElem?_cons_succ, List.getElem?_cons_zero]; exact rfl)
                      case an143 => kernel_rfl
                      case bn143 => kernel_rfl
                      case cn143 => kernel_rfl
                      case qn143 => exact fun _ _ _ h => h
                      case dn143 => rfl
                      case hyn143 => (intro z hSw; (try dsimp only at hSw); go_simp; (try with_reducible rfl))
                      try simp only [Act.put, List.setIfInBounds_toArray, List.set_cons_zero, List.set_cons_succ]
                      refine wpAnyH_take (i := 35) (oi := ?on144) (v := ?vn144) ?hin144 ?an144 ?bn144 ?cn144 ?qn144 (Or.inl ⟨?dn144, ?hyn144⟩) hHeld ?restn144
                      case hin144 => (simp only [List.getElem?_toArray, List.getElem?_cons_succ, List.getElem?_cons_zero]; exact rfl)
                      case an144 => kernel_rfl
                      case bn144 => kernel_rfl
                      case cn144 => kernel_rfl
                      case qn144 => exact fun _ _ _ h => h
                      case dn144 => rfl
                      case hyn144 => (intro z hSw; (try dsimp only at hSw); go_simp; (try with_reducible rfl))
                      try simp only [Act.put, List.setIfInBounds_toArray, List.set_cons_zero, List.set_cons_succ]
                      refine wpAnyH_done (by kernel_rfl) ?_ _
                      go_wp2_with fail
                      go_roundw
                      case rel => exact ⟨q + 1, by omega, by go_num, hZd⟩
                      case measure => simp [intOf]; omega
                  · obtain rfl : q = n := by omega
                    go_wp2_with fail
                    go_roundw
                    case rel => exact ⟨k + 1, by omega, by go_num, hZ, hks⟩
                    case measure => simp [intOf]; omega
        · obtain rfl : k = n := by omega
          have hs := Lib.hid (hS.out (allB_of HK.out))
          go_wp2_with fail
          go_roundw
          case rel => exact ⟨j + 1, by omega, by go_num, hY, hs⟩
          case measure => simp [intOf]; omega
    · obtain rfl : j = n := by omega
      have hv := Lib.hid (HZ.out HJ.out)
      go_wp2_with fail
      go_ret
      exact ⟨by rw [hv.out]; rfl, HG.out.trans hB⟩
end Go.Proofs.YtphljdhacbpkbaaGreat

/- Posets and valuations of the reference: l16Is, l17Is, IsValuation. -/
namespace Go.Proofs.YtphljdhacbpkbaaGreat
open Go.RowKit
set_option maxHeartbeats 2000000 in
theorem l16Is_c (sz : Int) (v : Value) (L : List Int) (w : World) (h : Ints w v L) :
    Calls Tryz.prog 39 #[.agg #[.int .i64 sz, v]] w fun e w' => e = .returned (.bool (posB sz L)) ∧ Grew w w' := by
  have HI := Lib.hid (l01In_c sz 0 8)
  have hal := (Grew.refl w).alloc (.cells #[.int .i64 sz, v] 26)
  have HG := Lib.hid hal
  have HM := Lib.hid (fun W hW hn => l01Masks_c L.length v L W (h.grew hW) hn)
  have hmx : L.length ≤ 9223372036854775807 := h.2.1
  have hn30 : ¬ (0 ≤ sz ∧ sz ≤ 8) ∨ (L.length : Int) ≠ sz ∨ L.length ≤ 30 := by omega
  have y0 : ∀ W, Grew (w.alloc (.cells #[.int .i64 sz, v] 26)) W → W.cell? ⟨w.heap.size, 0, none⟩ = some (.int .i64 sz) := fun W hW => (hW.cell (p := ⟨w.heap.size, 0, none⟩) (by simp)).trans (by simp)
  have y1 : ∀ W, Grew (w.alloc (.cells #[.int .i64 sz, v] 26)) W → W.cell? ⟨w.heap.size, 1, none⟩ = some v := fun W hW => (hW.cell (p := ⟨w.heap.size, 1, none⟩) (by simp)).trans (by simp)
  obtain ⟨w1, hw1⟩ : ∃ w1, w1 = w.alloc (.cells #[.int .i64 sz, v] 26) := ⟨_, rfl⟩
  rw [← hw1] at y0 y1 HG
  clear hal
  have r1 := Grew.refl w1
  have r1d := r1.drew
  unfold posB
  by_cases h1 : 0 ≤ sz ∧ sz ≤ 8
  · rw [decide_eq_true h1] at HI ⊢
    rw [Bool.true_and]
    by_cases h2 : (L.length : Int) = sz
    · rw [decide_eq_true h2, Bool.true_and]
      obtain rfl := h2
      have hn : L.length ≤ 30 := by omega
      have HM := Lib.hid (fun W hW => HM.out W hW hn)
      cases h3 : mks L.length L with
      | true =>
        rw [Bool.true_and]
        have hA := pos_rl hn h3
        have hz := (nats_ok h3).1
        have hr := fun W (hW : Grew w W) => (show Ints W v (zs (nats L)) by rw [hz]; exact h.grew hW)
        have H0 := Lib.hid (fun W hW => l05Flag0_c v (nats L) W (hr W hW) hA)
        have H2 := Lib.hid (fun W hW => l05Flag2_c v (nats L) W (hr W hW) hA)
        have H8 := Lib.hid (fun W hW => l05Flag8_c v (nats L) W (hr W hW) hA)
        rw [nats_len] at H0 H2 H8
        rw [h3] at HM
        obtain ⟨A, c, rfl⟩ := ints_slice h
        clear h hA hz hr h3 hn hn30 h1
        generalize reflB (nats L) = r0 at *
        generalize transB (nats L) = r2 at *
        generalize antiB (nats L) = r8 at *
        generalize L.length = n at *
        have hq : ((n : Int) != (n : Int)) = false := by simp
        have hq2 : ((n : Int) == (n : Int)) = true := by simp
        go_enter Tryz.func39, Tryz.ntmps39
        go_wp2_with fail
        simp only [← hw1]
        refine (HI.out _).mono ?_
        rintro e w2 ⟨rfl, h2⟩
        clear hw1
        go_wp2_with fail
        refine (HM.out _ (HG.out.trans h2)).mono ?_
        rintro e w4 ⟨rfl, hgm⟩
        have h4 := h2.trans hgm
        have hw4 := HG.out.trans h4
        have z0 := fun W (hW : Grew w4 W) => y0 W (h4.trans hW)
        have z1 := fun W (hW : Grew w4 W) => y1 W (h4.trans hW)
        have r4 := Grew.refl w4
        have h6 := hw4.alloc (.cells #[.int .i64 (n : Int), .slice A n c] 83)
        have x0 : ∀ W, Grew (w4.alloc (.cells #[.int .i64 (n : Int), .slice A n c] 83)) W → W.cell? ⟨w4.heap.size, 0, none⟩ = some (.int .i64 (n : Int)) := fun W hW => (hW.cell (p := ⟨w4.heap.size, 0, none⟩) (by simp)).trans (by simp)
        have x1 : ∀ W, Grew (w4.alloc (.cells #[.int .i64 (n : Int), .slice A n c] 83)) W → W.cell? ⟨w4.heap.size, 1, none⟩ = some (.slice A n c) := fun W hW => (hW.cell (p := ⟨w4.heap.size, 1, none⟩) (by simp)).trans (by simp)
        have r6 := Grew.refl (w4.alloc (.cells #[.int .i64 (n : Int), .slice A n c] 83))
        have a6 := (Grew.refl w4).alloc (.cells #[.int .i64 (n : Int), .slice A n c] 83)
        cases r0 with
        | false =>
          go_wp2_with fail
          refine (H0.out _ h6).mono ?_
          rintro e w7 ⟨rfl, hg7⟩
          have h7 := h6.trans hg7
          go_wp2_with fail
          go_ret
          exact ⟨rfl, h7⟩
        | true =>
          go_wp2_with fail
          refine (H0.out _ h6).mono ?_
          rintro e w7 ⟨rfl, hg7⟩
          have h7 := h6.trans hg7
          cases r2 with
          | false =>
            go_wp2_with fail
            refine (H2.out _ h7).mono ?_
            rintro e w8 ⟨rfl, hg8⟩
            have h8 := h7.trans hg8
            go_wp2_with fail
            go_ret
            exact ⟨rfl, h8⟩
          | true =>
            go_wp2_with fail
            refine (H2.out _ h7).mono ?_
            rintro e w8 ⟨rfl, hg8⟩
            have h8 := h7.trans hg8
            have hg78 := hg7.trans hg8
            go_wp2_with fail
            refine (H8.out _ h8).mono ?_
            rintro e w9 ⟨rfl, hg9⟩
            have h9 := h8.trans hg9
            go_wp2_with fail
            go_ret
            exact ⟨rfl, h9⟩
      | false =>
        rw [h3] at HM
        rw [Bool.false_and]
        obtain ⟨A, c, rfl⟩ := ints_slice h
        clear h h3 hn hn30 h1
        generalize L.length = n at *
        have hq : ((n : Int) != (n : Int)) = false := by simp
        have hq2 : ((n : Int) == (n : Int)) = true := by simp
        go_enter Tryz.func39, Tryz.ntmps39
        go_wp2_with fail
        simp only [← hw1]
        refine (HI.out _).mono ?_
        rintro e w2 ⟨rfl, h2⟩
        clear hw1
        go_wp2_with fail
        refine (HM.out _ (HG.out.trans h2)).mono ?_
        rintro e w4 ⟨rfl, hgm⟩
        have h4 := h2.trans hgm
        go_wp2_with fail
        go_ret
        exact ⟨rfl, HG.out.trans h4⟩
    · rw [decide_eq_false h2, Bool.false_and]
      have hq : ((L.length : Int) == sz) = false := by simpa using h2
      have hq2 : ((L.length : Int) != sz) = true := by simpa using h2
      obtain ⟨A, c, rfl⟩ := ints_slice h
      clear h h2 hn30 h1 HM
      generalize L.length = n at *
      go_enter Tryz.func39, Tryz.ntmps39
      go_wp2_with fail
      simp only [← hw1]
      refine (HI.out _).mono ?_
      rintro e w2 ⟨rfl, h2⟩
      clear hw1
      go_wp2_with fail
      go_ret
      exact ⟨rfl, HG.out.trans h2⟩
  · rw [decide_eq_false h1] at HI ⊢
    rw [Bool.false_and]
    obtain ⟨A, c, rfl⟩ := ints_slice h
    clear h hn30 h1 HM
    generalize L.length = n at *
    go_enter Tryz.func39, Tryz.ntmps39
    go_wp2_with fail
    simp only [← hw1]
    refine (HI.out _).mono ?_
    rintro e w2 ⟨rfl, h2⟩
    clear hw1
    go_wp2_with fail
    go_ret
    exact ⟨rfl, HG.out.trans h2⟩
set_option maxHeartbeats 2000000 in
theorem all_up {A : List Nat} {V : List Int} (h : V.all (upB A) = true) : mks A.length V = true := by
  unfold mks
  rw [List.all_eq_true] at h ⊢
  intro x hx
  have := h x hx
  unfold upB at this
  rw [Bool.and_eq_true] at this
  exact this.1
theorem l17Is_c (v u : Value) (A : List Nat) (V : List Int) (w : World) (h : Ints w v (zs A)) (hu : Ints w u V) (hA : Rl A) :
    Calls Tryz.prog 87 #[.agg #[.int .i64 (A.length : Int), v], u] w fun e w' => e = .returned (.bool (decide (V.length = 6) && V.all (upB A))) ∧ Grew w w' := by
  have HM := Lib.hid (fun W (hW : Grew w W) => l01Masks_c A.length u V W (hu.grew hW) hA.1)
  have hal := (Grew.refl w).alloc (.cells #[.int .i64 (A.length : Int), v] 26)
  have y0 : ∀ W, Grew (w.alloc (.cells #[.int .i64 (A.length : Int), v] 26)) W → W.cell? ⟨w.heap.size, 0, none⟩ = some (.int .i64 (A.length : Int)) := fun W hW => (hW.cell (p := ⟨w.heap.size, 0, none⟩) (by simp)).trans (by simp)
  have y1 : ∀ W, Grew (w.alloc (.cells #[.int .i64 (A.length : Int), v] 26)) W → W.cell? ⟨w.heap.size, 1, none⟩ = some v := fun W hW => (hW.cell (p := ⟨w.heap.size, 1, none⟩) (by simp)).trans (by simp)
  obtain ⟨w1, hw1⟩ : ∃ w1, w1 = w.alloc (.cells #[.int .i64 (A.length : Int), v] 26) := ⟨_, rfl⟩
  rw [← hw1] at y0 y1 hal
  have HG := Lib.hid hal
  have r1 := Grew.refl w1
  have hmx : V.length ≤ 9223372036854775807 := hu.2.1
  by_cases h6 : V.length = 6
  · rw [decide_eq_true h6, Bool.true_and]
    have hq : ((V.length : Int) != 6) = false := by
      rw [h6]; rfl
    cases hm : mks A.length V with
    | false =>
      have hv : V.all (upB A) = false := by
        cases hx : V.all (upB A) with
        | false => rfl
        | true => rw [all_up hx] at hm; cases hm
      rw [hv]
      rw [hm] at HM
      obtain ⟨A', c, rfl⟩ := ints_sliceN h
      obtain ⟨A2, c2, rfl⟩ := ints_slice hu
      rw [h6] at *
      clear h hu hA hal hv hm h6
      generalize A.length = n at *
      go_enter Tryz.func87, Tryz.ntmps87
      go_wp2_with fail
      simp only [← hw1]
      refine (HM.out _ HG.out).mono ?_
      rintro e w2 ⟨rfl, hg2⟩
      clear hw1
      go_wp2_with fail
      go_ret
      exact ⟨rfl, HG.out.trans hg2⟩
    | true =>
      obtain ⟨hz, hlt⟩ := nats_ok hm
      obtain ⟨R, hR⟩ : ∃ R, R = V.all (upB A) := ⟨_, rfl⟩
      rw [← hR]
      have hR2 : R = !V.any fun x => !upB A x := hR.trans (not_any (upB A) V).symm
      have HAN := Lib.hid (fun k hk h => hR2.trans (congrArg (!·) (@anyI_at (fun x => !upB A x) V k hk h)))
      have HZN := Lib.hid (fun h => hR2.trans (congrArg (!·) (@noneI_any (fun x => !upB A x) V h)))
      have HU := Lib.hid (fun j (hj : j < V.length) => (show upB A (it V j) = decide (img A (nt (nats V) j) = nt (nats V) j) by
        have e : it V j = ((nt (nats V) j : Nat) : Int) := by
          rw [← zs_it (by rw [nats_len]; exact hj), hz]
        have hmk : mk A.length (it V j) = true := by
          unfold mks at hm
          rw [List.all_eq_true] at hm
          exact hm _ (it_memI hj)
        unfold upB
        rw [hmk, Bool.true_and, e]
        rfl))
      have hu2 : Ints w u (zs (nats V)) := by rw [hz]; exact hu
      have hl2 := nats_len V
      have HI := Lib.hid (fun j (hj : j < V.length) W (hW : Grew w W) => l01Image_q v A (nt (nats V) j) W (h.grew hW) hA.sm hA.1 (hlt _ (nt_mem (by rw [nats_len]; exact hj))))
      rw [hm] at HM
      obtain ⟨A', c, rfl⟩ := ints_sliceN h
      obtain ⟨A2, c2, rfl⟩ := ints_sliceN hu2
      have HC := Lib.hid (fun h0 => cellsN hu2 h0)
      rw [hl2] at HC HM ⊢
      clear h hu hu2 hA hal hm hR hR2 hz hlt hl2
      generalize nats V = M at *
      generalize A.length = n at *
      rw [h6] at *
      clear h6
      go_enter Tryz.func87, Tryz.ntmps87
      go_wp2_with fail
      simp only [← hw1]
      refine (HM.out _ HG.out).mono ?_
      rintro e w2 ⟨rfl, hg2⟩
      clear hw1
      go_wp2_with fail
      go_loopw [5] (fun i wr => ∃ j : Nat, j ≤ 6 ∧ i = .int .i64 j ∧ Grew w1 wr ∧ Hid (NoneI (fun x => !upB A x) V j)) (fun i _ => 6 - (intOf i).toNat)
      case atStart => exact ⟨0, Nat.zero_le _, rfl, hg2, NoneI.zero _ _⟩
      case round =>
        obtain ⟨j, hj, rfl, hB, HJ⟩ := hrel
        by_cases hlt : j < 6
        · obtain ⟨b, o, rfl, hcell⟩ := HC.out (by omega)
          have hgw := HG.out
          have hcx := fun W (hW : Grew wr W) => hcell j hlt W ((hgw.trans hB).trans hW)
          have hi := Lib.hid (HI.out j hlt)
          have hgwr := Lib.hid (hgw.trans hB)
          have rx := Grew.refl wr
          have rxd := rx.drew
          have hup := HU.out j hlt
          have hA1 := Lib.hid (HAN.out j hlt)
          have hS := Lib.hid (fun h => HJ.out.succ (k := j) h)
          clear hcell
          generalize nt M j = m at *
          generalize img A m = mi at *
          generalize it V j = x at *
          by_cases hd : mi = m
          · have hs := Lib.hid (hS.out (by rw [hup, decide_eq_true hd]; rfl))
            have hq2 : ((mi : Int) != (m : Int)) = false := by rw [hd]; simp
            clear hA1 hS hd hup
            go_wp2_with fail
            go_quiet (first | (go_at_call 129; exact Calls.quiet_of_same (hi.out _ (by first | exact hgwr.out | exact hgwr.out.drew | exact hgwr.out.drewN _))))
            go_wp2_with fail
            go_roundw
            case rel => exact ⟨j + 1, by omega, by go_num, hB.drewN _, hs⟩
            case measure => simp [intOf]; omega
          · have hv := Lib.hid (hA1.out (by rw [hup, decide_eq_false hd]; rfl))
            have hq2 : ((mi : Int) != (m : Int)) = true := by
              rw [bne_iff_ne]
              omega
            clear hA1 hS hd hup
            go_wp2_with fail
            go_quiet (first | (go_at_call 129; exact Calls.quiet_of_same (hi.out _ (by first | exact hgwr.out | exact hgwr.out.drew | exact hgwr.out.drewN _))))
            go_wp2_with fail
            go_ret
            exact ⟨by rw [hv.out]; rfl, HG.out.trans (hB.drewN _)⟩
        · obtain rfl : j = 6 := by omega
          have hv := Lib.hid (HZN.out HJ.out)
          go_wp2_with fail
          go_ret
          exact ⟨by rw [hv.out]; rfl, HG.out.trans hB⟩
  · rw [decide_eq_false h6, Bool.false_and]
    have hq : ((V.length : Int) != 6) = true := by
      rw [bne_iff_ne]
      omega
    obtain ⟨A', c, rfl⟩ := ints_sliceN h
    obtain ⟨A2, c2, rfl⟩ := ints_slice hu
    clear h hu hA hal h6 HM
    generalize A.length = n at *
    generalize V.length = n2 at *
    go_enter Tryz.func87, Tryz.ntmps87
    go_wp2_with fail
    simp only [← hw1]
    go_ret
    exact ⟨rfl, HG.out⟩
theorem isVal_c (sz : Int) (v u : Value) (L V : List Int) (w : World) (h : Ints w v L) (hu : Ints w u V) :
    Calls Tryz.prog 47 #[.agg #[.int .i64 sz, v], u] w fun e w' => e = .returned (.bool (valB sz L V)) ∧ Grew w w' := by
  have hal := (Grew.refl w).alloc (.cells #[.int .i64 sz, v] 26)
  have HP := Lib.hid (fun W hW => l16Is_c sz v L W (h.grew hW))
  have y0 : ∀ W, Grew (w.alloc (.cells #[.int .i64 sz, v] 26)) W → W.cell? ⟨w.heap.size, 0, none⟩ = some (.int .i64 sz) := fun W hW => (hW.cell (p := ⟨w.heap.size, 0, none⟩) (by simp)).trans (by simp)
  have y1 : ∀ W, Grew (w.alloc (.cells #[.int .i64 sz, v] 26)) W → W.cell? ⟨w.heap.size, 1, none⟩ = some v := fun W hW => (hW.cell (p := ⟨w.heap.size, 1, none⟩) (by simp)).trans (by simp)
  have HG := Lib.hid hal
  unfold valB
  cases hp : posB sz L with
  | false =>
    rw [hp] at HP
    rw [Bool.false_and]
    obtain ⟨A, c, rfl⟩ := ints_slice h
    obtain ⟨A2, c2, rfl⟩ := ints_slice hu
    clear h hu hal hp
    generalize L.length = n at *
    generalize V.length = n2 at *
    go_enter Tryz.func47, Tryz.ntmps47
    go_wp2_with fail
    refine (HP.out _ HG.out).mono ?_
    rintro e w1 ⟨rfl, hg1⟩
    go_wp2_with fail
    go_ret
    exact ⟨rfl, HG.out.trans hg1⟩
  | true =>
    rw [hp] at HP
    rw [Bool.true_and]
    obtain ⟨rfl, hl, hA, hz, _⟩ := posB_ok hp
    have hr := fun W (hW : Grew w W) => (show Ints W v (zs (nats L)) by rw [hz]; exact h.grew hW)
    have KV := Lib.hid (fun W (hW : Grew w W) => l17Is_c v u (nats L) V W (hr W hW) (hu.grew hW) hA)
    rw [nats_len] at KV
    obtain ⟨A, c, rfl⟩ := ints_slice h
    obtain ⟨A2, c2, rfl⟩ := ints_slice hu
    clear h hu hal hp hr hz hA
    generalize (decide (V.length = 6) && V.all (upB (nats L))) = r at *
    generalize L.length = n at *
    generalize V.length = n2 at *
    go_enter Tryz.func47, Tryz.ntmps47
    go_wp2_with fail
    refine (HP.out _ HG.out).mono ?_
    rintro e w1 ⟨rfl, hg1⟩
    go_wp2_with fail
    refine (KV.out _ (HG.out.trans hg1)).mono ?_
    rintro e w2 ⟨rfl, hg2⟩
    go_wp2_with fail
    go_ret
    exact ⟨rfl, (HG.out.trans hg1).trans hg2⟩
end Go.Proofs.YtphljdhacbpkbaaGreat

/- FnMonotone: the draws l16Upsets, l17Some; only their shape is told. -/
namespace Go.Proofs.YtphljdhacbpkbaaGreat
open Go.RowKit

/-- The call returns a row of its own of at least a and at most b numbers. -/
def GivesML (a b : Nat) (w : World) (e : Ending) (w' : World) : Prop := ∃ v L, e = .returned v ∧ OwnI w' w.heap.size v L ∧ a ≤ L.length ∧ L.length ≤ b ∧ Grew w w'
theorem mbs_zero : mbs 0 = [] := by
  rw [List.eq_nil_iff_forall_not_mem]
  intro x hx
  have := (mbs_mem (m := 0) (by omega)).1 hx
  rw [Nat.zero_testBit] at this
  cases this
theorem img_zero (A : List Nat) : img A 0 = 0 := by
  unfold img
  rw [mbs_zero]
  rfl

theorem l16Upsets_c (v : Value) (A : List Nat) (w : World) (h : Ints w v (zs A)) (hA : Rl A) (h8 : A.length ≤ 8) :
    Calls Tryz.prog 76 #[.agg #[.int .i64 (A.length : Int), v]] w (GivesML 1 256 w) := by
  have hal := (Grew.refl w).alloc (.cells #[.int .i64 (A.length : Int), v] 26)
  have y0 : ∀ W, Grew (w.alloc (.cells #[.int .i64 (A.length : Int), v] 26)) W → W.cell? ⟨w.heap.size, 0, none⟩ = some (.int .i64 (A.length : Int)) := fun W hW => (hW.cell (p := ⟨w.heap.size, 0, none⟩) (by simp)).trans (by simp)
  have y1 : ∀ W, Grew (w.alloc (.cells #[.int .i64 (A.length : Int), v] 26)) W → W.cell? ⟨w.heap.size, 1, none⟩ = some v := fun W hW => (hW.cell (p := ⟨w.heap.size, 1, none⟩) (by simp)).trans (by simp)
  have HG := Lib.hid hal
  have KF := Lib.hid (fun W => l01Full_q A.length (by omega) W)
  have KI := Lib.hid (fun m (hm : m < 2 ^ A.length) W (hW : Grew w W) => l01Image_c v A m W (h.grew hW) hA.sm hA.1 hm)
  have KZ := Lib.hid (img_zero A)
  have hp : 0 < 2 ^ A.length := Nat.pow_pos (by omega)
  have hp2 : 2 ^ A.length ≤ 256 := Nat.le_trans (Nat.pow_le_pow_right (by omega) h8) (by decide)
  obtain ⟨A', c, rfl⟩ := ints_sliceN h
  have r1 := Grew.refl (w.alloc (.cells #[.int .i64 (A.length : Int), .slice A' A.length c] 26))
  clear h hA hal
  generalize A.length = n at *
  generalize (2 ^ n : Nat) = P at *
  obtain ⟨w0, hw0⟩ : ∃ w0, w0 = w.alloc (.cells #[.int .i64 (n : Int), .slice A' n c] 26) := ⟨_, rfl⟩
  rw [← hw0] at y0 y1 HG r1
  go_enter Tryz.func76, Tryz.ntmps76
  go_wp2_with fail
  have hs0 : w0.heap.size = w.heap.size + 1 := by rw [hw0]; simp
  have HS0 := Lib.hid hs0
  clear hs0
  simp only [← hw0]
  clear hw0
  go_loopw [3, 4] (fun s i wr => ∃ (j : Nat) (K : List Int), j ≤ P ∧ i = .int .i64 j ∧ Grew w0 wr ∧ Hid (OwnI wr w0.heap.size s K) ∧ Hid (K.length ≤ j ∧ (0 < j → 1 ≤ K.length))) (fun _ i _ => P - (intOf i).toNat)
  case atStart => exact ⟨0, [], by omega, rfl, (Grew.refl _).alloc _, Lib.hid (by rw [show w.heap.size + 1 = w0.heap.size by have := HS0.out; omega]; exact own_emptyI w0), Lib.hid ⟨by simp, fun h => absurd h (by omega)⟩⟩
  case round =>
    obtain ⟨j, K, hj, rfl, hB, hO, hK⟩ := hrel
    have hBw := HG.out.trans hB
    have z0 := fun W (hW : Grew wr W) => y0 W (hB.trans hW)
    have z1 := fun W (hW : Grew wr W) => y1 W (hB.trans hW)
    have hr0 := Grew.refl wr
    by_cases hlt : j < P
    · have hle : (j : Int) ≤ (P : Int) - 1 := by omega
      go_wp2_with fail
      refine (KF.out _).mono ?_
      rintro e w2 ⟨rfl, rfl⟩
      have hI := Lib.hid (KI.out j hlt)
      have hz : Hid (j = 0 → img A j = j) := Lib.hid (fun h => by rw [h]; exact KZ.out)
      generalize img A j = q at *
      go_wp2_with fail
      refine (hI.out _ hBw).mono ?_
      rintro e w3 ⟨rfl, hg3⟩
      have hB3 := hB.trans hg3
      have hO3 := hO.out.grew hg3
      by_cases hq : q = j
      · have hqb : ((q : Int) == (j : Int)) = true := by simp [hq]
        have hl : K.length ≤ 1048576 := by have := hK.out; omega
        clear hq
        go_wp2_with (first | (at_builtin; refine wpList_appI (w0 := w0) _ _ rfl rfl _ K rfl (hO3.grew (Grew.alloc (Grew.refl _) _)) (hB3.alloc _) _ (j : Int) rfl (rd_litI _ _ _) hl ?_; intro v4 w4 hO4 hg4 _))
        go_roundw
        case rel => exact ⟨j + 1, _, by omega, by go_num, hg4, Lib.hid hO4, Lib.hid (by rw [List.length_append]; show K.length + 1 ≤ j + 1 ∧ (0 < j + 1 → 1 ≤ K.length + 1); have := hK.out; omega)⟩
        case measure => simp [intOf]; omega
      · have hqb : ((q : Int) == (j : Int)) = false := by simp; omega
        have hK2 : Hid (K.length ≤ j + 1 ∧ (0 < j + 1 → 1 ≤ K.length)) := Lib.hid (by
          have := hK.out
          refine ⟨by omega, fun _ => ?_⟩
          by_cases hj0 : j = 0
          · exact absurd (hz.out hj0) hq
          · exact this.2 (by omega))
        clear hq
        go_wp2_with fail
        go_roundw
        case rel => exact ⟨j + 1, K, by omega, by go_num, hB3, Lib.hid hO3, hK2⟩
        case measure => simp [intOf]; omega
    · obtain rfl : j = P := by omega
      have hle : ¬ (j : Int) ≤ (j : Int) - 1 := by omega
      go_wp2_with fail
      refine (KF.out _).mono ?_
      rintro e w2 ⟨rfl, rfl⟩
      go_wp2_with fail
      go_ret
      exact ⟨_, K, rfl, hO.out.base HG.out.size, hK.out.2 hp, by have := hK.out.1; omega, hBw⟩

/-- A drawn row of n numbers. -/
def GivesMS (g : Nat) (cv : Value) (N : Nat) (n : Nat) (w : World) (e : Ending) (w' : World) : Prop := ∃ v L, e = .returned v ∧ OwnI w' w.heap.size v L ∧ L.length = n ∧ Src w' g cv N ∧ Only g w w'

theorem l17Some_c (g : Nat) (cv : Value) (N : Nat) (v : Value) (A : List Nat) (w : World) (hS : Src w g cv N) (h : Ints w v (zs A)) (hA : Rl A) (h8 : A.length ≤ 8) :
    Calls Tryz.prog 40 #[.pointer (some ⟨g, 0, none⟩), .agg #[.int .i64 (A.length : Int), v]] w (GivesMS g cv N 6 w) := by
  have hgl := hS.lt
  have hal := (Grew.refl w).alloc (.cells #[.int .i64 (A.length : Int), v] 26)
  have hU := Lib.hid (fun W (hW : Grew w W) => l16Upsets_c v A W (h.grew hW) hA h8)
  obtain ⟨A', c, rfl⟩ := ints_sliceN h
  have hSG := Lib.hid hS
  clear h hA hS
  generalize A.length = n at *
  have HG := Lib.hid hal
  clear hal
  go_enter Tryz.func40, Tryz.ntmps40
  go_wp2_with fail
  refine (hU.out _ HG.out).mono ?_
  rintro e w1 ⟨v1, L1, rfl, hO1, hl1, hl2, hg1⟩
  have hB1 := HG.out.trans hg1
  obtain ⟨A1, c1, rfl⟩ := ints_slice hO1.ints
  obtain ⟨gr, cur, rfl, hgr, hcur, hcs, hall⟩ := own_irow hO1 (by omega)
  have HS1 := Lib.hid (hSG.out.grew hB1)
  have hgw : gr < w1.heap.size := blk_lt hcur
  have hgr0 : w.heap.size ≤ gr := Nat.le_trans HG.out.size hgr
  have HC := Lib.hid (fun k (hk : k < L1.length) => (show w1.cell? ⟨gr, k, none⟩ = some (.int .i64 (it L1 k)) by rw [blk_cell hcur]; exact hall k hk))
  clear hO1 hcur hall hSG hU
  generalize L1.length = m at *
  go_wp2_with fail
  go_loopw [6, 7] (fun s i wr => ∃ (j : Nat) (K : List Int), j ≤ 6 ∧ i = .int .i64 j ∧ Hid (K.length = j) ∧ Hid (Src wr g cv N) ∧ Only g w1 wr ∧ Hid (OwnI wr w1.heap.size s K)) (fun _ i _ => 6 - (intOf i).toNat)
  case atStart => exact ⟨0, [], by omega, rfl, Lib.hid rfl, Lib.hid (HS1.out.grew ((Grew.refl _).alloc _)), ((Grew.refl _).alloc _).only, Lib.hid (own_emptyI w1)⟩
  case round =>
    obtain ⟨j, K, hj, rfl, hK, hS, hB, hO⟩ := hrel
    by_cases hlt : j < 6
    · go_wp2_with fail
      refine (l01Next_c g cv N (m : Int) _ hS.out (by omega)).mono ?_
      rintro e w2 ⟨r, rfl, hr0, hr1, _, hS2, ho2⟩
      obtain ⟨k, rfl⟩ : ∃ k : Nat, r = k := ⟨r.toNat, by omega⟩
      have hr2 := hr1 (by omega)
      have hB2 := hB.trans ho2
      have k1 := (hB2.cell (p := ⟨gr, k, none⟩) hgw (by show gr ≠ g; omega)).trans (HC.out k (by omega))
      have hO2 := own_srcI hO.out (by omega) ho2
      have HS2 := Lib.hid hS2
      have hl : K.length ≤ 1048576 := by have := hK.out; omega
      generalize it L1 k = x at *
      clear hS2 hr1
      have hga := (Grew.refl w2).alloc (.cells #[.int .i64 x] 2)
      have hsz := hB2.size
      go_wp2_with (first | (at_builtin; refine wpList_appIB w1.heap.size _ _ rfl rfl _ K rfl (hO2.grew hga) (Nat.le_trans hsz hga.size) _ x rfl (rd_litI _ _ _) hl ?_; intro v8 w8 hO8 hg8))
      have hge := fun k hk => own_of_ge (hO2.grew hga) (g := k) hk
      go_roundw
      case rel => exact ⟨j + 1, _, by omega, by go_num, Lib.hid (by rw [List.length_append, hK.out]; rfl), Lib.hid ((HS2.out.grew hga).other2 hg8 (fun k hk => by have := hge k hk; omega)), (hB2.grew hga).newer2 hg8 hge, Lib.hid hO8⟩
      case measure => simp [intOf]; omega
    · obtain rfl : j = 6 := by omega
      have hKl := hK.out
      have HKl := Lib.hid hKl
      clear hKl
      go_wp2_with fail
      go_ret
      exact ⟨_, K, rfl, hO.out.base hB1.size, HKl.out, hS.out, hB1.only.trans hB⟩
end Go.Proofs.YtphljdhacbpkbaaGreat

/- The drawn plain formula: l02Draw, l02Any without boxes; l17Plain. -/
namespace Go.Proofs.YtphljdhacbpkbaaGreat
open Go.RowKit
open Fm (Nd)

theorem l02Draw_f (g : Nat) (cv : Value) (N : Nat) (vs : Int) (hv0 : 1 ≤ vs) (hv1 : vs ≤ 6) : ∀ (m : Nat) (size : Int) (w : World), 1 ≤ size → size ≤ m → m ≤ 1000 → Src w g cv N →
    Calls Tryz.prog 78 #[.pointer (some ⟨g, 0, none⟩), .int .i64 size, .int .i64 vs, .bool false] w (Drawn w g cv N size) := by
  intro m
  induction m with
  | zero => intro size w h1 h2; omega
  | succ m ih =>
    intro size w h1 h2 hm hS
    have IH := Lib.hid (fun size w a b c => ih size w a b (by omega) c)
    clear ih
    have hgs := hS.lt
    by_cases hsz : size ≤ 2
    · have HSa := Lib.hid hS
      have hoa := Only.refl g w
      clear hS
      go_enter Tryz.func78, Tryz.ntmps78
      go_wp2_with fail
      refine (l01Next_c g cv N 8 _ HSa.out (by omega)).mono ?_
      rintro e wb ⟨r2, rfl, _, _, _, hSb, hob⟩
      have HSb := Lib.hid hSb
      have hab := hoa.trans hob
      clear hSb hob
      cases hr2 : (r2 == 0) with
      | true =>
        go_wp2_with fail
        refine (l02False_c _).mono ?_
        rintro e wc ⟨v, rfl, ho, hg⟩
        go_wp2_with fail
        go_ret
        exact ⟨_, _, rfl, ho.base hab.size, Fm.isEnc_falsum, by simp [Fm.falsum]; omega, HSb.out.grew hg, hab.grew hg⟩
      | false =>
        go_wp2_with fail
        refine (l01Next_c g cv N vs _ HSb.out (by omega)).mono ?_
        rintro e wc ⟨r3, rfl, hr30, hr31, _, hSc, hoc⟩
        have HSc := Lib.hid hSc
        have hac := hab.trans hoc
        clear hSc hoc
        go_wp2_with fail
        refine (l02Var_c r3 _).mono ?_
        rintro e wd ⟨v, rfl, ho, hg⟩
        go_wp2_with fail
        go_ret
        exact ⟨_, _, rfl, ho.base hac.size, isEnc_vari hr30 (by have := hr31 hv0; omega), by simp [Fm.vari]; omega, HSc.out.grew hg, hac.grew hg⟩
    have HS := Lib.hid hS
    clear hS
    go_enter Tryz.func78, Tryz.ntmps78
    go_wp2_with fail
    refine (l01Next_c g cv N 9 _ HS.out (by omega)).mono ?_
    rintro e wa ⟨r1, rfl, _, _, _, hSa, hoa⟩
    have HSa := Lib.hid hSa
    clear hSa HS
    cases hr1 : (r1 == 0) with
    | true =>
      go_wp2_with fail
      refine (l01Next_c g cv N 8 _ HSa.out (by omega)).mono ?_
      rintro e wb ⟨r2, rfl, _, _, _, hSb, hob⟩
      have HSb := Lib.hid hSb
      have hab := hoa.trans hob
      clear hSb hob
      cases hr2 : (r2 == 0) with
      | true =>
        go_wp2_with fail
        refine (l02False_c _).mono ?_
        rintro e wc ⟨v, rfl, ho, hg⟩
        go_wp2_with fail
        go_ret
        exact ⟨_, _, rfl, ho.base hab.size, Fm.isEnc_falsum, by simp [Fm.falsum]; omega, HSb.out.grew hg, hab.grew hg⟩
      | false =>
        go_wp2_with fail
        refine (l01Next_c g cv N vs _ HSb.out (by omega)).mono ?_
        rintro e wc ⟨r3, rfl, hr30, hr31, _, hSc, hoc⟩
        have HSc := Lib.hid hSc
        have hac := hab.trans hoc
        clear hSc hoc
        go_wp2_with fail
        refine (l02Var_c r3 _).mono ?_
        rintro e wd ⟨v, rfl, ho, hg⟩
        go_wp2_with fail
        go_ret
        exact ⟨_, _, rfl, ho.base hac.size, isEnc_vari hr30 (by have := hr31 hv0; omega), by simp [Fm.vari]; omega, HSc.out.grew hg, hac.grew hg⟩
    | false =>
    go_wp2_with fail
    refine (l01Next_c g cv N 6 _ HSa.out (by omega)).mono ?_
    rintro e wc ⟨r3, rfl, _, _, _, hSc, hoc⟩
    have HSc := Lib.hid hSc
    have hac := hoa.trans hoc
    clear hSc hoc hoa HSa
    cases hr3 : (r3 == 0) with
    | true =>
      go_wp2_with fail
      refine (IH.out (size - 2) _ (by omega) (by omega) HSc.out).mono ?_
      rintro e wd ⟨v, xs, rfl, ho, he, hl, hSd, hod⟩
      have HSd := Lib.hid hSd
      clear hSd
      have HE := Lib.hid he
      clear he
      go_wp2_with fail
      refine (l02Not_c v xs _ ho.nodes (by omega)).mono ?_
      rintro e we ⟨v2, rfl, ho2, hg2⟩
      go_wp2_with fail
      go_ret
      exact ⟨_, _, rfl, ho2.base (hac.trans hod).size, Fm.isEnc_join (.inr (.inr rfl)) HE.out Fm.isEnc_falsum, by simp [Fm.neg, Fm.join, Fm.falsum]; omega, HSd.out.grew hg2, (hac.trans hod).grew hg2⟩
    | false =>
    go_wp2_with fail
    refine (l01Next_c g cv N (size - 2) _ HSc.out (by omega)).mono ?_
    rintro e wd ⟨r4, rfl, hr40, hr41, _, hSd, hod⟩
    have HSd := Lib.hid hSd
    have had := hac.trans hod
    have hr42 := hr41 (by omega)
    clear hSd hod hac HSc hr41
    go_wp2_with fail
    refine (IH.out (1 + r4) _ (by omega) (by omega) HSd.out).mono ?_
    rintro e we ⟨v1, xs, rfl, ho1, he1, hl1, hSe, hoe⟩
    have HSe := Lib.hid hSe
    have HE1 := Lib.hid he1
    have hsize := had.size
    have hae := had.trans hoe
    have HO1 := Lib.hid ho1
    clear hSe he1 hoe ho1
    go_wp2_with fail
    refine (l01Next_c g cv N 3 _ HSe.out (by omega)).mono ?_
    rintro e wf ⟨r5, rfl, hr50, hr51, _, hSf, hof⟩
    have HSf := Lib.hid hSf
    have HO2 := Lib.hid (own_src HO1.out (by omega) hof)
    have haf := hae.trans hof
    have hr52 := hr51 (by omega)
    clear hSf hof HO1 HSe hr51
    go_wp2_with fail
    refine (IH.out (size - 1 - (1 + r4)) _ (by omega) (by omega) HSf.out).mono ?_
    rintro e wg ⟨v2, ys, rfl, ho2, he2, hl2, hSg, hog⟩
    have HSg := Lib.hid hSg
    have HE2 := Lib.hid he2
    have hO3 := own_src HO2.out (by omega) hog
    have hag := haf.trans hog
    clear hSg he2 hog HSf HO2
    go_wp2_with fail
    refine (l02Pair_c _ v1 v2 xs ys _ hO3.nodes ho2.nodes (by omega)).mono ?_
    rintro e wh ⟨v3, rfl, ho3, hg3⟩
    go_wp2_with fail
    go_ret
    exact ⟨_, _, rfl, ho3.base hag.size, Fm.isEnc_join (by omega) HE1.out HE2.out, by simp [Fm.join]; omega, HSg.out.grew hg3, hag.grew hg3⟩
theorem l02Any_f (g : Nat) (cv : Value) (N : Nat) (sz vs : Int) (hz0 : 1 ≤ sz) (hz1 : sz ≤ 20) (hv0 : 1 ≤ vs) (hv1 : vs ≤ 6) (w : World) (h : Src w g cv N) :
    Calls Tryz.prog 43 #[.pointer (some ⟨g, 0, none⟩), .int .i64 sz, .int .i64 vs, .bool false] w (Bent w g cv N 47) := by
  have HS := Lib.hid h
  have hgl := h.lt
  clear h
  go_enter Tryz.func43, Tryz.ntmps43
  go_wp2_with fail
  refine (l02Draw_f g cv N vs hv0 hv1 20 sz _ (by omega) (by omega) (by omega) HS.out).mono ?_
  rintro e w1 ⟨v1, xs, rfl, ho1, he1, hl1, hS1, hw1⟩
  have HO1 := Lib.hid ho1
  have HS1 := Lib.hid hS1
  have hp1 := isEnc_pos he1
  clear ho1 hS1 he1
  go_wp2_with fail
  refine (l01Next_c g cv N 40 _ HS1.out (by omega)).mono ?_
  rintro e w2 ⟨r, rfl, hr0, hr1, _, hS2, ho2⟩
  have HO2 := Lib.hid (own_src HO1.out hgl ho2)
  have HS2 := Lib.hid hS2
  have hw2 := hw1.trans ho2
  clear hS2 ho2 HO1 HS1 hr1
  cases b0 : (r == 0) with
  | true =>
    go_wp2_with fail
    refine (l02Bend_c g cv N v1 xs _ HS2.out HO2.out.nodes hp1 (by omega)).mono ?_
    rintro e w3 ⟨v3, ys, rfl, ho3, hl3, hS3, hw3⟩
    go_wp2_with fail
    go_ret
    exact ⟨_, _, rfl, ho3.base hw2.size, by omega, hS3, hw2.trans hw3⟩
  | false =>
  cases b1 : (r == 1) with
  | false =>
    go_wp2_with fail
    go_ret
    exact ⟨_, _, rfl, HO2.out, by omega, HS2.out, hw2⟩
  | true =>
    go_wp2_with fail
    go_loopw [9] (fun vv wr => ∃ ys, Own wr w.heap.size vv ys ∧ ys.length ≤ 47 ∧ Src wr g cv N ∧ Only g w wr) (fun vv _ => 48 - slen vv)
    case atStart => exact ⟨xs, HO2.out, by omega, HS2.out, hw2⟩
    case round =>
      obtain ⟨ys, hO, hl, hS, hB⟩ := hrel
      obtain ⟨A, c, rfl⟩ := nodes_slice hO.nodes
      have HS := Lib.hid hS
      have HO := Lib.hid hO
      clear hS hO
      cases h40 : decide ((ys.length : Int) ≤ 40) with
      | false =>
        go_wp2_with fail
        go_ret
        exact ⟨_, _, rfl, HO.out, hl, HS.out, hB⟩
      | true =>
        simp only [decide_eq_true_eq] at h40
        go_wp2_with fail
        refine (l01Next_c g cv N 60 _ HS.out (by omega)).mono ?_
        rintro e w3 ⟨r3, rfl, _, _, _, hS3, ho3⟩
        have HO3 := Lib.hid (own_src HO.out hgl ho3)
        have HS3 := Lib.hid hS3
        have hw3 := hB.trans ho3
        clear hS3 ho3 HO HS hB
        by_cases h3 : 0 < r3
        · go_wp2_with fail
          refine (l01Next_c g cv N 3 _ HS3.out (by omega)).mono ?_
          rintro e w4 ⟨r4, rfl, hr40, hr41, _, hS4, ho4⟩
          have HO4 := Lib.hid (own_src HO3.out hgl ho4)
          have HS4 := Lib.hid hS4
          have hw4 := hw3.trans ho4
          have hr42 := hr41 (by omega)
          clear hS4 ho4 HO3 HS3 hw3 hr41
          go_wp2_with fail
          refine (l02Draw_f g cv N vs hv0 hv1 6 6 _ (by omega) (by omega) (by omega) HS4.out).mono ?_
          rintro e w5 ⟨v5, zs, rfl, ho5, he5, hl5, hS5, hw5⟩
          have HO5 := Lib.hid (own_src HO4.out hgl hw5)
          have HS5 := Lib.hid hS5
          have hw6 := hw4.trans hw5
          have hp5 := isEnc_pos he5
          clear hS5 HO4 HS4 hw4 he5
          go_wp2_with fail
          refine (l02Pair_c _ _ v5 ys zs _ HO5.out.nodes ho5.nodes (by omega)).mono ?_
          rintro e w7 ⟨v7, rfl, ho7, hg7⟩
          obtain ⟨A7, c7, rfl⟩ := nodes_slice ho7.nodes
          have HL7 := Lib.hid (show (Fm.join (2 + r4) ys zs).length = 1 + ys.length + zs.length by simp [Fm.join]; omega)
          go_wp2_with fail
          go_roundw
          case rel => exact ⟨_, ho7.base hw6.size, by rw [HL7.out]; omega, HS5.out.grew hg7, hw6.grew hg7⟩
          case measure => simp only [slen]; rw [HL7.out]; omega
        · go_wp2_with fail
          go_ret
          exact ⟨_, _, rfl, HO3.out, hl, HS3.out, hw3⟩

theorem l17Plain_c (g : Nat) (cv : Value) (N : Nat) (w : World) (h : Src w g cv N) :
    Calls Tryz.prog 20 #[.pointer (some ⟨g, 0, none⟩), .int .i64 20, .int .i64 6] w (Bent w g cv N 47) := by
  have HS := Lib.hid h
  clear h
  go_enter Tryz.func20, Tryz.ntmps20
  go_wp2_with fail
  refine (l01Next_c g cv N 30 _ HS.out (by omega)).mono ?_
  rintro e w1 ⟨r, rfl, _, _, _, hS1, ho1⟩
  have HS1 := Lib.hid hS1
  have HU := Lib.hid ho1
  clear hS1 HS ho1
  cases b0 : (r == 0) with
  | true =>
    go_wp2_with fail
    refine (l02Any_g g cv N 20 6 (by omega) (by omega) (by omega) (by omega) w1 HS1.out).mono ?_
    rintro e w2 ⟨v, xs, rfl, hO, hl, hS2, ho2⟩
    go_wp2_with fail
    go_ret
    exact ⟨_, xs, rfl, hO.base HU.out.size, hl, hS2, HU.out.trans ho2⟩
  | false =>
    go_wp2_with fail
    refine (l02Any_f g cv N 20 6 (by omega) (by omega) (by omega) (by omega) w1 HS1.out).mono ?_
    rintro e w2 ⟨v, xs, rfl, hO, hl, hS2, ho2⟩
    go_wp2_with fail
    go_ret
    exact ⟨_, xs, rfl, hO.base HU.out.size, hl, hS2, HU.out.trans ho2⟩
end Go.Proofs.YtphljdhacbpkbaaGreat

/- The value of a plain formula on a poset. No program is in sight. -/
namespace Go.Proofs.YtphljdhacbpkbaaGreat
open Go.RowKit
open Fm (Nd Tree)

/-- The value of a plain formula. -/
def fv (A V : List Nat) : Tree → Nat
  | .var v => nt V v.val
  | .fls => 0
  | .and a b => fv A V a &&& fv A V b
  | .or a b => fv A V a ||| fv A V b
  | .imp a b => ar A (fv A V a) (fv A V b)
  | .box _ => 0
  | .dia _ => 0
theorem fv_lt {A V : List Nat} (hV : ∀ m ∈ V, m < 2 ^ A.length) : ∀ t : Tree, fv A V t < 2 ^ A.length
  | .var v => by
    show nt V v.val < _
    by_cases h : v.val < V.length
    · exact hV _ (nt_mem h)
    · unfold nt; rw [List.getD_eq_getElem?_getD, List.getElem?_eq_none (by omega)]; exact Nat.pow_pos (by omega)
  | .fls => Nat.pow_pos (by omega)
  | .and a b => Nat.and_lt_two_pow _ (fv_lt hV b)
  | .or a b => Nat.or_lt_two_pow (fv_lt hV a) (fv_lt hV b)
  | .imp a b => bx_lt _ _
  | .box _ => Nat.pow_pos (by omega)
  | .dia _ => Nat.pow_pos (by omega)
end Go.Proofs.YtphljdhacbpkbaaGreat

/- A list of nodes is that of one formula at most. No program is in sight. -/
namespace Go.Proofs.YtphljdhacbpkbaaGreat
open Fm (Nd)

theorem enc_pre (t : Fm.Tree) : ∀ (u : Fm.Tree) (a b : List Nd), Fm.enc t ++ a = Fm.enc u ++ b → t = u ∧ a = b := by
  induction t with
  | var v =>
    intro u a b h
    cases u <;> simp [Fm.enc] at h
    exact ⟨congrArg Fm.Tree.var (Fin.ext (by have := h.1; omega)), h.2⟩
  | fls =>
    intro u a b h
    cases u <;> simp [Fm.enc] at h
    exact ⟨rfl, h⟩
  | and x y hx hy =>
    intro u a b h
    cases u <;> simp [Fm.enc] at h
    obtain ⟨e1, h1⟩ := hx _ _ _ h
    obtain ⟨e2, h2⟩ := hy _ _ _ h1
    exact ⟨by rw [e1, e2], h2⟩
  | or x y hx hy =>
    intro u a b h
    cases u <;> simp [Fm.enc] at h
    obtain ⟨e1, h1⟩ := hx _ _ _ h
    obtain ⟨e2, h2⟩ := hy _ _ _ h1
    exact ⟨by rw [e1, e2], h2⟩
  | imp x y hx hy =>
    intro u a b h
    cases u <;> simp [Fm.enc] at h
    obtain ⟨e1, h1⟩ := hx _ _ _ h
    obtain ⟨e2, h2⟩ := hy _ _ _ h1
    exact ⟨by rw [e1, e2], h2⟩
  | box x hx =>
    intro u a b h
    cases u <;> simp [Fm.enc] at h
    obtain ⟨e1, h1⟩ := hx _ _ _ h
    exact ⟨by rw [e1], h1⟩
  | dia x hx =>
    intro u a b h
    cases u <;> simp [Fm.enc] at h
    obtain ⟨e1, h1⟩ := hx _ _ _ h
    exact ⟨by rw [e1], h1⟩
theorem enc_inj {t u : Fm.Tree} (h : Fm.enc t = Fm.enc u) : t = u := (enc_pre t u [] [] (by simpa using h)).1

end Go.Proofs.YtphljdhacbpkbaaGreat

/- The program's makers over slices.Concat. -/
namespace Go.Proofs.YtphljdhacbpkbaaGreat
open Go.RowKit
open Fm (Nd)

/-- A block that has just been made and holds slices of nodes. -/
theorem lists_new (w : World) (t : TypeId) (us : List Value) (L : List (List Nd)) (hm : L.length ≤ 9223372036854775807)
    (h : ∀ i, i < L.length → ∃ u, us[i]? = some u ∧ Nodes w u (L.getD i [])) : Lists (w.alloc (.cells us.toArray t)) (.slice (some ⟨w.heap.size, 0, none⟩) L.length L.length) L := by
  refine .inr ⟨w.heap.size, 0, L.length, rfl, Nat.le_refl _, hm, by simp, fun i hi => ?_⟩
  obtain ⟨u, h1, h2⟩ := h i hi
  refine ⟨u, ?_, h2.grew ((Grew.refl w).alloc _)⟩
  rw [Nat.zero_add, blk_cell (blk_new w _)]
  simpa using h1

end Go.Proofs.YtphljdhacbpkbaaGreat

/- The readers' first steps: take, need, l02Take, l02Need. -/
namespace Go.Proofs.YtphljdhacbpkbaaGreat
open Go.RowKit

/-- Block g holds a reader: its text, its position, whether it is bad. -/
def Rdr (w : World) (g : Nat) (T : TypeId) (s : ByteArray) (st : Fm.St) : Prop := w.heap[g]? = some (.cells #[.string s, .int .i64 st.1, .bool st.2] T (0, 0))
theorem Rdr.text {w : World} {g T : Nat} {s : ByteArray} {st : Fm.St} (h : Rdr w g T s st) : w.cell? ⟨g, 0, none⟩ = some (.string s) := by rw [blk_cell h]; rfl
theorem Rdr.at_ {w : World} {g T : Nat} {s : ByteArray} {st : Fm.St} (h : Rdr w g T s st) : w.cell? ⟨g, 1, none⟩ = some (.int .i64 st.1) := by rw [blk_cell h]; rfl
theorem Rdr.bad {w : World} {g T : Nat} {s : ByteArray} {st : Fm.St} (h : Rdr w g T s st) : w.cell? ⟨g, 2, none⟩ = some (.bool st.2) := by rw [blk_cell h]; rfl
theorem Rdr.free {w : World} {g T : Nat} {s : ByteArray} {st : Fm.St} (h : Rdr w g T s st) (i : Nat) : w.frozen? ⟨g, i, none⟩ = false := blk_frozen h i
theorem Rdr.lt {w : World} {g T : Nat} {s : ByteArray} {st : Fm.St} (h : Rdr w g T s st) : g < w.heap.size := blk_lt h
theorem Rdr.grew {w w' : World} {g T : Nat} {s : ByteArray} {st : Fm.St} (h : Rdr w g T s st) (hg : Grew w w') : Rdr w' g T s st := (hg.block h.lt).trans h
theorem Rdr.move {w : World} {g T : Nat} {s : ByteArray} {st : Fm.St} (h : Rdr w g T s st) (n : Nat) : Rdr (w.setCell ⟨g, 1, none⟩ (.int .i64 n)) g T s (n, st.2) := blk_set h 1 _
theorem Rdr.spoil {w : World} {g T : Nat} {s : ByteArray} {st : Fm.St} (h : Rdr w g T s st) : Rdr (w.setCell ⟨g, 2, none⟩ (.bool true)) g T s (st.1, true) := blk_set h 2 _

/-- What 'take' leaves. -/
def Took (w : World) (g : Nat) (T : TypeId) (s : ByteArray) (st : Fm.St) (c : UInt8) (e : Ending) (w' : World) : Prop :=
  e = .returned (.bool (Fm.sees s.data.toList st c)) ∧ Rdr w' g T s (if Fm.sees s.data.toList st c then Fm.step st else st) ∧ Only g w w'

theorem sees_bad (s : List UInt8) (p : Nat) (c : UInt8) : Fm.sees s (p, true) c = false := rfl
theorem sees_end (s : ByteArray) (p : Nat) (c : UInt8) (h : s.size ≤ p) : Fm.sees s.data.toList (p, false) c = false := by
  have : s.data.toList[p]? = none := by rw [Array.getElem?_toList, Array.getElem?_eq_none]; exact h
  simp [Fm.sees, this]
theorem sees_in (s : ByteArray) (p : Nat) (c : UInt8) (h : p < s.size) : Fm.sees s.data.toList (p, false) c = (s[p] == c) := by
  have : s.data.toList[p]? = some s[p] := by rw [Array.getElem?_toList]; exact Array.getElem?_eq_getElem h
  simp [Fm.sees, this]
theorem byte_eq (a b : UInt8) : ((a.toNat : Int) == b.toNat) = (a == b) := by
  rw [Bool.eq_iff_iff]; simp only [beq_iff_eq, ← UInt8.toNat_inj]; omega
theorem byte_ne (a b : UInt8) : ((a.toNat : Int) != b.toNat) = !(a == b) := by
  rw [bne, byte_eq]

theorem Took.no {w w' : World} {g T : Nat} {s : ByteArray} {st : Fm.St} {c : UInt8} (h : Rdr w g T s st) (hs : Fm.sees s.data.toList st c = false) (hw : Grew w w') : Took w g T s st c (.returned (.bool false)) w' := by
  unfold Took; rw [hs]; exact ⟨rfl, h.grew hw, hw.only⟩
theorem Took.yes {w w' : World} {g T : Nat} {s : ByteArray} {p : Nat} {b : Bool} {c : UInt8} (h : Rdr w g T s (p, b)) (hs : Fm.sees s.data.toList (p, b) c = true) (hw : Grew w w') : Took w g T s (p, b) c (.returned (.bool true)) (w'.setCell ⟨g, 1, none⟩ (.int .i64 ((p : Int) + 1))) := by
  unfold Took; rw [hs]; exact ⟨rfl, (h.grew hw).move (p + 1), hw.only.setCell _⟩

end Go.Proofs.YtphljdhacbpkbaaGreat

/- The program's reader: what its functions read is what the plain parser gives. -/
namespace Go.Proofs.YtphljdhacbpkbaaGreat
open Go.RowKit
open Fm (Nd)

/-- The call returns the list r.1 in new memory, and the reader stands at r.2. -/
def Reads (w : World) (g : Nat) (T : TypeId) (s : ByteArray) (r : Fm.Res) (e : Ending) (w' : World) : Prop :=
  ∃ v, e = .returned v ∧ Own w' w.heap.size v r.1 ∧ Rdr w' g T s r.2 ∧ Only g w w'

theorem own_rdr_ne {w : World} {B g : Nat} {v : Value} {xs : List Nd} {T : TypeId} {s : ByteArray} {st : Fm.St} (h : Own w B v xs) (hr : Rdr w g T s st) (hne : 76 ≠ T) : v.ownBlock ≠ some g := own_ne h hr hne

theorem size_toList (s : ByteArray) : s.data.toList.length = s.size := by simp

/-- One 'join' in a loop of 'and' or 'or'. -/
theorem Reads.ok_len {s : ByteArray} {st : Fm.St} {r : Fm.Res} (h : Fm.Ok s.data.toList st r) (hs : s.size ≤ 1048576) : r.1.length ≤ 3145729 := by
  obtain ⟨h1, h2, h3⟩ := h
  rw [size_toList] at h2
  omega

/-- The contract of a function that reads, for a plain function sub and all states from which less than f bytes are left. -/
def Sub (F : FuncId) (T : TypeId) (s : ByteArray) (f : Nat) (sub : Fm.St → Fm.Res) : Prop :=
  ∀ (g : Nat) (st : Fm.St) (w : World), Rdr w g T s st → st.1 ≤ s.size → s.size - st.1 < f → Calls Tryz.prog F #[.pointer (some ⟨g, 0, none⟩)] w (Reads w g T s (sub st))

end Go.Proofs.YtphljdhacbpkbaaGreat

/- The program's reader: the two lowest levels. -/
namespace Go.Proofs.YtphljdhacbpkbaaGreat
open Go.RowKit
open Fm (Nd)

/-- The range over the letters, at a block of the call's own. -/
def letters : ByteArray := ⟨#[112, 113, 114, 115, 116, 117]⟩
theorem only_iterAt {g k : Nat} {a b : World} (h : Only g a b) (hk : a.heap.size ≤ k) (s : ByteArray) (p : Nat) : Only g a (b.iterAt k s p) :=
  ⟨h.os, h.tape, h.output, by rw [Lib.iterAt_size]; exact h.size, fun i hi hne => (Lib.iterAt_other b k i s p (by omega)).trans (World.grownBy.block h i hi hne)⟩
theorem Rdr.iterAt {w : World} {g T k : Nat} {s : ByteArray} {st : Fm.St} (h : Rdr w g T s st) (hk : g ≠ k) (x : ByteArray) (p : Nat) : Rdr (w.iterAt k x p) g T s st := (Lib.iterAt_other w k g x p hk).trans h

theorem next_letter {P : Program} (w : World) (k i : Nat) (ty : TypeId) (hk : w.heap[k]? = some (.stringIter letters i)) (hi : i < 6) :
    (Instr.next (.pointer (some ⟨k, 0, none⟩)) true ty).run P w = .ok (.tuple #[.bool true, .int .i64 i, .int .i32 (112 + (i : Int))]) (w.iterAt k letters (i + 1)) := by
  have h6 : i = 0 ∨ i = 1 ∨ i = 2 ∨ i = 3 ∨ i = 4 ∨ i = 5 := by omega
  rcases h6 with rfl | rfl | rfl | rfl | rfl | rfl <;> exact Lib.run_next_ascii_at w k letters _ ty hk (by decide) (by decide)
theorem letter_byte {i : Nat} (hi : i < 6) : 112 + (i : Int) = ((UInt8.ofNat (112 + i)).toNat : Int) := by
  rw [UInt8.toNat_ofNat']; omega

end Go.Proofs.YtphljdhacbpkbaaGreat

/- The text of a formula is parsed to the formula. No program is in sight. -/
namespace Go.Proofs.YtphljdhacbpkbaaGreat
namespace Fm

theorem sees_drop {s : List UInt8} {i : Nat} {c : UInt8} {r : List UInt8} (h : s.drop i = c :: r) (d : UInt8) : sees s (i, false) d = (c == d) := by
  have h1 : s[i]? = some c := by
    have := congrArg List.head? h
    simpa using this
  unfold sees
  rw [h1]
  rw [Bool.eq_iff_iff]
  simp
theorem sees_none {s : List UInt8} {i : Nat} {r : List UInt8} {d : UInt8} (h : s.drop i = r) (hd : r.head? ≠ some d) : sees s (i, false) d = false := by
  have h1 : s[i]? = r.head? := by rw [← h]; simp
  unfold sees
  rw [h1]
  cases hr : r.head? with
  | none => rfl
  | some c =>
    rw [hr] at hd
    have : c ≠ d := fun e => hd (by rw [e])
    simp [this]
theorem drop_tail {s : List UInt8} {i : Nat} {x r : List UInt8} (h : s.drop i = x ++ r) : s.drop (i + x.length) = r := by
  rw [← List.drop_drop, h, List.drop_left]
theorem drop_len {s : List UInt8} {i : Nat} {x r : List UInt8} (h : s.drop i = x ++ r) (hx : 1 ≤ x.length) : i + x.length ≤ s.length := by
  have := congrArg List.length h
  simp only [List.length_drop, List.length_append] at this
  omega
theorem txt_pos (t : Tree) (l : Nat) : 1 ≤ (txt t l).length := by
  cases t with
  | var v => simp [txt]
  | fls => simp [txt]
  | and a b => simp only [txt, wrap]; split <;> simp <;> omega
  | or a b => simp only [txt, wrap]; split <;> simp <;> omega
  | imp a b => simp only [txt, wrap]; split <;> split <;> simp <;> omega
  | box a => simp only [txt, List.length_append, List.length_cons]; omega
  | dia a => simp only [txt, List.length_append, List.length_cons]; omega

section
variable (s : List UInt8) (m : Nat)
/-- The text at level 3 is read by the lowest level of the parser. -/
def P3 (t : Tree) : Prop := ∀ (f i : Nat) (r : List UInt8), s.drop i = txt t 3 ++ r → s.length - i < f → preF s m f (i, false) = (enc t, (i + (txt t 3).length, false))
def P2 (t : Tree) : Prop := ∀ (f i : Nat) (r : List UInt8), s.drop i = txt t 2 ++ r → s.length - i < f →
  ∃ k, s.length - (i + (txt t 2).length) < k ∧ andF s m (preF s m f) (i, false) = loop s 2 38 (preF s m f) k (enc t) (i + (txt t 2).length, false)
def P1 (t : Tree) : Prop := ∀ (f i : Nat) (r : List UInt8), s.drop i = txt t 1 ++ r → s.length - i < f → r.head? ≠ some 38 →
  ∃ k, s.length - (i + (txt t 1).length) < k ∧ orF s m (preF s m f) (i, false) = loop s 3 124 (andF s m (preF s m f)) k (enc t) (i + (txt t 1).length, false)
def P0 (t : Tree) : Prop := ∀ (f n i : Nat) (r : List UInt8), s.drop i = txt t 0 ++ r → s.length - i < f → s.length - i < n → r.head? ≠ some 38 → r.head? ≠ some 124 → r.head? ≠ some 62 →
  impF s m (preF s m f) n (i, false) = (enc t, (i + (txt t 0).length, false))
end

section
variable {s : List UInt8} {m : Nat}

theorem loop_stop {k : Int} {c : UInt8} {sub : St → Res} {n : Nat} {a : List Nd} {st : St} (h : sees s st c = false) : loop s k c sub n a st = (a, st) := by
  cases n with
  | zero => rfl
  | succ n => rw [loop, if_neg (by rw [h]; decide)]

/-- From the lowest level to the next one, where the text is the same. -/
theorem up2 (hm : s.length < m) {t : Tree} (ht : txt t 2 = txt t 3) (h : P3 s m t) : P2 s m t := by
  intro f i r hd hf
  rw [ht] at hd ⊢
  refine ⟨m, by omega, ?_⟩
  have := h f i r hd hf
  rw [andF, this]
theorem up1 (hm : s.length < m) {t : Tree} (ht : txt t 1 = txt t 2) (h : P2 s m t) : P1 s m t := by
  intro f i r hd hf hr
  rw [ht] at hd ⊢
  obtain ⟨k, hk, he⟩ := h f i r hd hf
  have hs := sees_none (drop_tail hd) hr
  rw [loop_stop hs] at he
  refine ⟨m, by omega, ?_⟩
  rw [orF, he]
theorem up0 {t : Tree} (ht : txt t 0 = txt t 1) (h : P1 s m t) : P0 s m t := by
  intro f n i r hd hf hn h1 h2 h3
  rw [ht] at hd ⊢
  obtain ⟨k, hk, he⟩ := h f i r hd hf h1
  rw [loop_stop (sees_none (drop_tail hd) h2)] at he
  cases n with
  | zero => omega
  | succ n =>
    rw [impF_no (by rw [he]; exact sees_none (drop_tail hd) h3), he]
/-- Brackets. -/
theorem down3 (hm : s.length < m) {t : Tree} (ht : txt t 3 = [40] ++ txt t 0 ++ [41]) (h : P0 s m t) : P3 s m t := by
  intro f i r hd hf
  have hp := txt_pos t 0
  rw [ht] at hd ⊢
  have hlen := drop_len hd (by simp)
  simp only [List.length_append, List.length_cons, List.length_nil] at hlen
  simp only [List.append_assoc, List.cons_append, List.nil_append] at hd
  have h1 : s.drop (i + 1) = txt t 0 ++ (41 :: r) := drop_tail (x := [40]) (r := txt t 0 ++ (41 :: r)) hd
  have h2 : s.drop (i + 1 + (txt t 0).length) = 41 :: r := drop_tail h1
  cases f with
  | zero => omega
  | succ f =>
    have h40 : sees s (i, false) 40 = true := by rw [sees_drop hd]; rfl
    rw [preF_par h40, show step (i, false) = (i + 1, false) from rfl]
    rw [h f m (i + 1) (41 :: r) h1 (by omega) (by omega) (by simp) (by simp) (by simp)]
    have h41 : sees s (i + 1 + (txt t 0).length, false) 41 = true := by rw [sees_drop h2]; rfl
    simp only [need, h41, if_true, step, List.length_append, List.length_cons, List.length_nil]
    congr 2
    omega

theorem all_fls (hm : s.length < m) : P3 s m .fls ∧ P2 s m .fls ∧ P1 s m .fls ∧ P0 s m .fls := by
  have h3 : P3 s m .fls := by
    intro f i r hd hf
    have hd' : s.drop i = 70 :: r := hd
    have hlen := drop_len hd (by simp [txt])
    simp only [txt, List.length_cons, List.length_nil] at hlen
    cases f with
    | zero => omega
    | succ f => rw [preF_fls (by rw [sees_drop hd']; rfl)]; rfl
  have h2 := up2 hm rfl h3
  have h1 := up1 hm rfl h2
  exact ⟨h3, h2, h1, up0 rfl h1⟩
theorem all_tru (hm : s.length < m) : P3 s m (.imp .fls .fls) ∧ P2 s m (.imp .fls .fls) ∧ P1 s m (.imp .fls .fls) ∧ P0 s m (.imp .fls .fls) := by
  have h3 : P3 s m (.imp .fls .fls) := by
    intro f i r hd hf
    have hd' : s.drop i = 84 :: r := hd
    have hlen := drop_len hd (by simp [txt, isF])
    simp only [txt, isF, if_true, List.length_cons, List.length_nil] at hlen
    cases f with
    | zero => omega
    | succ f => rw [preF_tru (by rw [sees_drop hd']; rfl)]; rfl
  have h2 := up2 hm rfl h3
  have h1 := up1 hm rfl h2
  exact ⟨h3, h2, h1, up0 rfl h1⟩
theorem all_var (hm : s.length < m) (v : Fin 6) : P3 s m (.var v) ∧ P2 s m (.var v) ∧ P1 s m (.var v) ∧ P0 s m (.var v) := by
  have h3 : P3 s m (.var v) := by
    intro f i r hd hf
    have hd' : s.drop i = UInt8.ofNat (112 + v.val) :: r := hd
    have hlen := drop_len hd (by simp [txt])
    simp only [txt, List.length_cons, List.length_nil] at hlen
    cases f with
    | zero => omega
    | succ f =>
      have hl : letter s (i, false) = some v.val := letter_of_sees v.isLt (by rw [sees_drop hd']; simp)
      rw [preF_var hl]; rfl
  have h2 := up2 hm rfl h3
  have h1 := up1 hm rfl h2
  exact ⟨h3, h2, h1, up0 rfl h1⟩
theorem all_not (hm : s.length < m) {x : Tree} (hx : isF x = false) (h : P3 s m x) : P3 s m (.imp x .fls) ∧ P2 s m (.imp x .fls) ∧ P1 s m (.imp x .fls) ∧ P0 s m (.imp x .fls) := by
  have ht : ∀ l, txt (.imp x .fls) l = [126] ++ txt x 3 := by intro l; rw [txt, if_pos (show isF .fls = true from rfl), if_neg (by rw [hx]; decide)]
  have h3 : P3 s m (.imp x .fls) := by
    intro f i r hd hf
    rw [ht] at hd ⊢
    have hlen := drop_len hd (by simp)
    simp only [List.length_append, List.length_cons, List.length_nil] at hlen
    have hd' : s.drop i = 126 :: (txt x 3 ++ r) := by simpa using hd
    have h1 : s.drop (i + 1) = txt x 3 ++ r := drop_tail (x := [126]) (r := txt x 3 ++ r) hd'
    cases f with
    | zero => omega
    | succ f =>
      rw [preF_not (by rw [sees_drop hd']; rfl), show step (i, false) = (i + 1, false) from rfl, h f (i + 1) r h1 (by omega)]
      simp only [List.length_append, List.length_cons, List.length_nil]
      refine Prod.ext rfl (Prod.ext (by simp only; omega) rfl)
  have h2 := up2 hm (by rw [ht, ht]) h3
  have h1 := up1 hm (by rw [ht, ht]) h2
  exact ⟨h3, h2, h1, up0 (by rw [ht, ht]) h1⟩
theorem all_box (hm : s.length < m) {x : Tree} (h : P3 s m x) : P3 s m (.box x) ∧ P2 s m (.box x) ∧ P1 s m (.box x) ∧ P0 s m (.box x) := by
  have h3 : P3 s m (.box x) := by
    intro f i r hd hf
    have hd' : s.drop i = 91 :: (93 :: (txt x 3 ++ r)) := by simpa [txt] using hd
    have hlen := drop_len hd (by simp [txt])
    simp only [txt, List.length_append, List.length_cons, List.length_nil] at hlen
    have h1 : s.drop (i + 1) = 93 :: (txt x 3 ++ r) := drop_tail (x := [91]) (r := 93 :: (txt x 3 ++ r)) hd'
    have h2 : s.drop (i + 2) = txt x 3 ++ r := drop_tail (x := [91, 93]) (r := txt x 3 ++ r) hd'
    cases f with
    | zero => omega
    | succ f =>
      have h93 : sees s (i + 1, false) 93 = true := by rw [sees_drop h1]; rfl
      rw [preF_box (by rw [sees_drop hd']; rfl), show step (i, false) = (i + 1, false) from rfl, show need s (i + 1, false) 93 = (i + 2, false) by simp [need, h93, step], h f (i + 2) r h2 (by omega)]
      simp only [txt, List.length_append, List.length_cons, List.length_nil]
      refine Prod.ext rfl (Prod.ext (by simp only; omega) rfl)
  have h2 := up2 hm rfl h3
  have h1 := up1 hm rfl h2
  exact ⟨h3, h2, h1, up0 rfl h1⟩
theorem all_dia (hm : s.length < m) {x : Tree} (h : P3 s m x) : P3 s m (.dia x) ∧ P2 s m (.dia x) ∧ P1 s m (.dia x) ∧ P0 s m (.dia x) := by
  have h3 : P3 s m (.dia x) := by
    intro f i r hd hf
    have hd' : s.drop i = 60 :: (62 :: (txt x 3 ++ r)) := by simpa [txt] using hd
    have hlen := drop_len hd (by simp [txt])
    simp only [txt, List.length_append, List.length_cons, List.length_nil] at hlen
    have h1 : s.drop (i + 1) = 62 :: (txt x 3 ++ r) := drop_tail (x := [60]) (r := 62 :: (txt x 3 ++ r)) hd'
    have h2 : s.drop (i + 2) = txt x 3 ++ r := drop_tail (x := [60, 62]) (r := txt x 3 ++ r) hd'
    cases f with
    | zero => omega
    | succ f =>
      have h93 : sees s (i + 1, false) 62 = true := by rw [sees_drop h1]; rfl
      rw [preF_dia (by rw [sees_drop hd']; rfl), show step (i, false) = (i + 1, false) from rfl, show need s (i + 1, false) 62 = (i + 2, false) by simp [need, h93, step], h f (i + 2) r h2 (by omega)]
      simp only [txt, List.length_append, List.length_cons, List.length_nil]
      refine Prod.ext rfl (Prod.ext (by simp only; omega) rfl)
  have h2 := up2 hm rfl h3
  have h1 := up1 hm rfl h2
  exact ⟨h3, h2, h1, up0 rfl h1⟩

theorem all_and (hm : s.length < m) {x y : Tree} (hx : P2 s m x) (hy : P3 s m y) : P3 s m (.and x y) ∧ P2 s m (.and x y) ∧ P1 s m (.and x y) ∧ P0 s m (.and x y) := by
  have ht : ∀ l, l ≤ 2 → txt (.and x y) l = txt x 2 ++ [38] ++ txt y 3 := by intro l hl; rw [txt, wrap, if_neg (by omega)]
  have h2 : P2 s m (.and x y) := by
    intro f i r hd hf
    rw [ht 2 (by omega)] at hd ⊢
    simp only [List.append_assoc, List.cons_append, List.nil_append] at hd
    obtain ⟨k, hk, he⟩ := hx f i _ hd hf
    have d1 := drop_tail hd
    have d2 : s.drop (i + (txt x 2).length + 1) = txt y 3 ++ r := drop_tail (x := [38]) (r := txt y 3 ++ r) d1
    have hp := txt_pos y 3
    have hlen := drop_len d2 hp
    obtain ⟨q, rfl⟩ : ∃ q, k = q + 1 := ⟨k - 1, by omega⟩
    refine ⟨q, ?_, ?_⟩
    · simp only [List.length_append, List.length_cons, List.length_nil]; omega
    · rw [he, loop, if_pos (by rw [sees_drop d1]; rfl), show step (i + (txt x 2).length, false) = (i + (txt x 2).length + 1, false) from rfl, hy f _ r d2 (by omega)]
      simp only [List.length_append, List.length_cons, List.length_nil]
      rw [show i + (txt x 2).length + 1 + (txt y 3).length = i + ((txt x 2).length + (0 + 1) + (txt y 3).length) by omega]
      rfl
  have h1 := up1 hm (by rw [ht 1 (by omega), ht 2 (by omega)]) h2
  have h0 := up0 (by rw [ht 0 (by omega), ht 1 (by omega)]) h1
  exact ⟨down3 hm (by rw [ht 0 (by omega), txt, wrap, if_pos (by omega)]) h0, h2, h1, h0⟩
theorem all_or (hm : s.length < m) {x y : Tree} (hx : P1 s m x) (hy : P2 s m y) : P3 s m (.or x y) ∧ P2 s m (.or x y) ∧ P1 s m (.or x y) ∧ P0 s m (.or x y) := by
  have ht : ∀ l, l ≤ 1 → txt (.or x y) l = txt x 1 ++ [124] ++ txt y 2 := by intro l hl; rw [txt, wrap, if_neg (by omega)]
  have hw : ∀ l, 2 ≤ l → txt (.or x y) l = [40] ++ txt (.or x y) 0 ++ [41] := by intro l hl; rw [ht 0 (by omega), txt, wrap, if_pos (by omega)]
  have h1 : P1 s m (.or x y) := by
    intro f i r hd hf hr
    rw [ht 1 (by omega)] at hd ⊢
    simp only [List.append_assoc, List.cons_append, List.nil_append] at hd
    obtain ⟨k, hk, he⟩ := hx f i _ hd hf (by simp)
    have d1 := drop_tail hd
    have d2 : s.drop (i + (txt x 1).length + 1) = txt y 2 ++ r := drop_tail (x := [124]) (r := txt y 2 ++ r) d1
    have hp := txt_pos y 2
    have hlen := drop_len d2 hp
    obtain ⟨q, rfl⟩ : ∃ q, k = q + 1 := ⟨k - 1, by omega⟩
    refine ⟨q, ?_, ?_⟩
    · simp only [List.length_append, List.length_cons, List.length_nil]; omega
    · obtain ⟨k2, hk2, he2⟩ := hy f _ r d2 (by omega)
      rw [loop_stop (sees_none (drop_tail d2) hr)] at he2
      rw [he, loop, if_pos (by rw [sees_drop d1]; rfl), show step (i + (txt x 1).length, false) = (i + (txt x 1).length + 1, false) from rfl, he2]
      simp only [List.length_append, List.length_cons, List.length_nil]
      rw [show i + (txt x 1).length + 1 + (txt y 2).length = i + ((txt x 1).length + (0 + 1) + (txt y 2).length) by omega]
      rfl
  have h0 := up0 (by rw [ht 0 (by omega), ht 1 (by omega)]) h1
  have h3 := down3 hm (hw 3 (by omega)) h0
  exact ⟨h3, up2 hm (by rw [hw 2 (by omega), hw 3 (by omega)]) h3, h1, h0⟩
theorem all_imp (hm : s.length < m) {x y : Tree} (hf : isF y = false) (hx : P1 s m x) (hy : P0 s m y) : P3 s m (.imp x y) ∧ P2 s m (.imp x y) ∧ P1 s m (.imp x y) ∧ P0 s m (.imp x y) := by
  have ht : txt (.imp x y) 0 = txt x 1 ++ [62] ++ txt y 0 := by rw [txt, if_neg (by rw [hf]; decide), wrap, if_neg (by omega)]
  have hw : ∀ l, 1 ≤ l → txt (.imp x y) l = [40] ++ txt (.imp x y) 0 ++ [41] := by intro l hl; rw [ht, txt, if_neg (by rw [hf]; decide), wrap, if_pos (by omega)]
  have h0 : P0 s m (.imp x y) := by
    intro f n i r hd hf hn q1 q2 q3
    rw [ht] at hd ⊢
    simp only [List.append_assoc, List.cons_append, List.nil_append] at hd
    obtain ⟨k, hk, he⟩ := hx f i _ hd hf (by simp)
    have d1 := drop_tail hd
    have d2 : s.drop (i + (txt x 1).length + 1) = txt y 0 ++ r := drop_tail (x := [62]) (r := txt y 0 ++ r) d1
    have hp := txt_pos y 0
    have hlen := drop_len d2 hp
    rw [loop_stop (by rw [sees_drop d1]; rfl)] at he
    cases n with
    | zero => omega
    | succ n =>
      have hsee : sees s (orF s m (preF s m f) (i, false)).2 62 = true := by rw [he, sees_drop d1]; rfl
      rw [impF_yes hsee, he]
      dsimp only
      rw [show step (i + (txt x 1).length, false) = (i + (txt x 1).length + 1, false) from rfl, hy f n _ r d2 (by omega) (by omega) q1 q2 q3]
      simp only [List.length_append, List.length_cons, List.length_nil]
      refine Prod.ext rfl (Prod.ext (by simp only; omega) rfl)
  have h3 := down3 hm (hw 3 (by omega)) h0
  have h2 := up2 hm (by rw [hw 2 (by omega), hw 3 (by omega)]) h3
  exact ⟨h3, h2, up1 hm (by rw [hw 1 (by omega), hw 2 (by omega)]) h2, h0⟩

theorem all_levels (hm : s.length < m) (t : Tree) : P3 s m t ∧ P2 s m t ∧ P1 s m t ∧ P0 s m t := by
  induction t with
  | var v => exact all_var hm v
  | fls => exact all_fls hm
  | and x y hx hy => exact all_and hm hx.2.1 hy.1
  | or x y hx hy => exact all_or hm hx.2.2.1 hy.2.1
  | imp x y hx hy =>
    cases hf : isF y with
    | true =>
      obtain rfl := isF_eq hf
      cases hg : isF x with
      | true => obtain rfl := isF_eq hg; exact all_tru hm
      | false => exact all_not hm hg hx.1
    | false => exact all_imp hm hf hx.2.2.1 hy.2.2.2
  | box x hx => exact all_box hm hx.1
  | dia x hx => exact all_dia hm hx.1
end

/-- The text of a formula reads as it. -/
theorem parse_txt (t : Tree) (m : Nat) (hm : (txt t 0).length < m) : parse (txt t 0) m = (enc t, ((txt t 0).length, false)) := by
  have h := (all_levels (s := txt t 0) hm t).2.2.2 m m 0 [] (by simp) (by omega) (by omega) (by simp) (by simp) (by simp)
  rw [parse, h]
  simp

end Fm

/-- A string of bytes. -/
def bs (l : List UInt8) : ByteArray := ⟨l.toArray⟩
theorem bs_append (a b : List UInt8) : bs a ++ bs b = bs (a ++ b) := by
  apply ByteArray.ext
  simp [bs]
theorem bs_size (a : List UInt8) : (bs a).size = a.length := by simp [bs, ByteArray.size]
theorem bs_list (a : List UInt8) : (bs a).data.toList = a := by simp [bs]
theorem bs_eq (s : ByteArray) : bs s.data.toList = s := by
  apply ByteArray.ext
  simp [bs]

namespace Fm
def fuel : Nat := 1048577
/-- What a text reads as. -/
def read (s : ByteArray) : Res := parse s.data.toList fuel
/-- The whole text is a formula of whatever size. -/
def whole (s : ByteArray) : Bool := !(read s).2.2 && decide (s.size ≤ (read s).2.1)
/-- The results of ParseFormula. -/
def pf (s : ByteArray) : List Nd × Nat × Int :=
  if 200 < s.size then ([], 0, 3) else if whole s = false then ([], (read s).2.1, 6) else if 40 < (read s).1.length then ([], 0, 3) else ((read s).1, 0, 0)
theorem read_ok (s : ByteArray) : (read s).2.1 ≤ s.size ∧ (read s).1.length ≤ 3 * s.size + 1 := by
  obtain ⟨h1, h2, h3⟩ := parse_ok s.data.toList fuel
  rw [show s.data.toList.length = s.size from by simp] at h2
  exact ⟨h2, by unfold read; omega⟩
theorem read_ne (s : ByteArray) : (read s).1 ≠ [] := by
  obtain ⟨t, h⟩ := parse_enc s.data.toList fuel
  have := enc_pos t
  unfold read
  rw [h]
  intro h0
  rw [h0] at this
  simp at this
theorem pf_len (s : ByteArray) : (pf s).1.length ≤ 40 := by
  unfold pf
  split
  · simp
  split
  · simp
  split
  · simp
  · simp only; omega
end Fm

/-- What l02Read gives. -/
def Fm.rd (s : ByteArray) : List Nd × Int := if Fm.whole s = false then ([], ((Fm.read s).2.1 : Int)) else ((Fm.read s).1, -1)


namespace Fm
theorem read_txt (t : Tree) (h : (txt t 0).length < fuel) : read (bs (txt t 0)) = (enc t, ((txt t 0).length, false)) := by
  rw [read, bs_list, parse_txt t fuel h]
theorem whole_txt (t : Tree) (h : (txt t 0).length < fuel) : whole (bs (txt t 0)) = true := by
  rw [whole, read_txt t h, bs_size]
  simp
theorem pf_txt (t : Tree) (h : (txt t 0).length ≤ 200) (hn : (enc t).length ≤ 40) : pf (bs (txt t 0)) = (enc t, 0, 0) := by
  have hf : (txt t 0).length < fuel := by unfold fuel; omega
  rw [pf, if_neg (by rw [bs_size]; omega), if_neg (by rw [whole_txt t hf]; decide), read_txt t hf, if_neg (by simp only; omega)]
theorem rd_txt (t : Tree) (h : (txt t 0).length < fuel) : rd (bs (txt t 0)) = (enc t, -1) := by
  rw [rd, if_neg (by rw [whole_txt t h]; decide), read_txt t h]
end Fm
end Go.Proofs.YtphljdhacbpkbaaGreat

/- ParseFormula, of the program and of the reference: both give what the plain parser gives. -/
namespace Go.Proofs.YtphljdhacbpkbaaGreat
open Go.RowKit
open Fm (Nd)

/-- The call returns a new list and two numbers. -/
def Gives3 (w : World) (r : List Nd × Nat × Int) (e : Ending) (w' : World) : Prop := ∃ v, e = .returned (.tuple #[v, .int .i64 r.2.1, .int .i64 r.2.2]) ∧ Own w' w.heap.size v r.1 ∧ Grew w w' ∧ (r.1 = [] → v = .slice none 0 0)

theorem Rdr.new (w : World) (T : TypeId) (s : ByteArray) : Rdr (w.alloc (.cells #[.string s, .int .i64 0, .bool false] T)) w.heap.size T s (0, false) := blk_new w _

/-- A new list and one number: what l02Read returns. -/
def Gives2 (w : World) (xs : List Nd) (n : Int) (e : Ending) (w' : World) : Prop := ∃ v, e = .returned (.tuple #[v, .int .i64 n]) ∧ Own w' w.heap.size v xs ∧ Grew w w'

end Go.Proofs.YtphljdhacbpkbaaGreat

/- The reference's reader: l02Take, l02Need. -/
namespace Go.Proofs.YtphljdhacbpkbaaGreat
open Go.RowKit

end Go.Proofs.YtphljdhacbpkbaaGreat

/- The reference's reader: what l02Imply, l02Or, l02And read is what the plain parser gives. -/
namespace Go.Proofs.YtphljdhacbpkbaaGreat
open Go.RowKit
open Fm (Nd)

end Go.Proofs.YtphljdhacbpkbaaGreat

/- The reference's reader: l02Prefix and l02Imply. -/
namespace Go.Proofs.YtphljdhacbpkbaaGreat
open Go.RowKit
open Fm (Nd)

theorem index_letter (w : World) (i : Nat) (hi : i < 6) :
    (Instr.index 9 (.string ⟨#[112, 113, 114, 115, 116, 117]⟩) (.int .i64 i)).run Tryz.prog w = .ok (.int .u8 (112 + (i : Int))) w := by
  have h6 : i = 0 ∨ i = 1 ∨ i = 2 ∨ i = 3 ∨ i = 4 ∨ i = 5 := by omega
  rcases h6 with rfl | rfl | rfl | rfl | rfl | rfl <;> (simp [Instr.index, run_underlying Tryz.underlying9, go_sem]; rfl)
theorem letter_byte2 {i : Nat} (hi : i < 6) : 112 + (i : Int) = ((UInt8.ofNat (112 + i)).toNat : Int) := by
  rw [UInt8.toNat_ofNat']; omega

end Go.Proofs.YtphljdhacbpkbaaGreat

/- The readers of whole texts: ParseFormula of the reference. -/
namespace Go.Proofs.YtphljdhacbpkbaaGreat
open Go.RowKit
open Fm (Nd)

end Go.Proofs.YtphljdhacbpkbaaGreat

/- Where the part at an index ends; the parts of a formula. -/
namespace Go.Proofs.YtphljdhacbpkbaaGreat
open Go.RowKit
open Fm (Nd Tree)

theorem partsOf_c (k : Int) (w : World) :
    Calls Tryz.prog 139 #[.int .i64 k] w fun e w' => e = .returned (.int .i64 (Fm.arity k)) ∧ Grew w w' := by
  by_cases h2 : k = 2 ∨ k = 3 ∨ k = 4
  · have ha : Fm.arity k = 2 := by unfold Fm.arity; rw [if_pos h2]
    rw [ha]
    rcases h2 with rfl | rfl | rfl
    all_goals
      go_enter Tryz.func139, Tryz.ntmps139
      go_wp2_with fail
      go_ret
      exact ⟨rfl, Grew.refl _⟩
  by_cases h1 : k = 5 ∨ k = 6
  · have ha : Fm.arity k = 1 := by unfold Fm.arity; rw [if_neg h2, if_pos h1]
    rw [ha]
    rcases h1 with rfl | rfl
    all_goals
      go_enter Tryz.func139, Tryz.ntmps139
      go_wp2_with fail
      go_ret
      exact ⟨rfl, Grew.refl _⟩
  · have ha : Fm.arity k = 0 := by unfold Fm.arity; rw [if_neg h2, if_neg h1]
    rw [ha]
    have n2 : (k == 2) = false := by simp; omega
    have n3 : (k == 3) = false := by simp; omega
    have n4 : (k == 4) = false := by simp; omega
    have n5 : (k == 5) = false := by simp; omega
    have n6 : (k == 6) = false := by simp; omega
    clear h1 h2 ha
    go_enter Tryz.func139, Tryz.ntmps139
    go_wp2_with fail
    go_ret
    exact ⟨rfl, Grew.refl _⟩

/-- What 'partEnd' gives. -/
def pval (j : Nat) : Option Nat → Int
  | some n => (j : Int) + n
  | none => -1
theorem pval_succ (j : Nat) (o : Option Nat) : pval j (o.map (· + 1)) = pval (j + 1) o := by
  cases o with
  | none => rfl
  | some n => show (j : Int) + ((n + 1 : Nat) : Int) = ((j + 1 : Nat) : Int) + n; omega
def pend (xs : List Nd) (i : Nat) : Int := pval i (Fm.scan (xs.drop i) 1)

theorem scan_step {xs : List Nd} {j o : Nat} (hj : j < xs.length) : Fm.scan (xs.drop j) (o + 1) = (Fm.scan (xs.drop (j + 1)) (o + Fm.arity (kd xs j))).map (· + 1) := by
  rw [List.drop_eq_getElem_cons hj, Fm.scan_cons, kd_lt hj]

theorem partEnd_c (v : Value) (xs : List Nd) (i : Nat) (w : World) (h : Nodes w v xs) (hn : xs.length ≤ 1099511627776) (hi : i ≤ 1099511627776) :
    Calls Tryz.prog 84 #[v, .int .i64 i] w fun e w' => e = .returned (.int .i64 (pend xs i)) ∧ Grew w w' := by
  rcases h.open_ with ⟨rfl, rfl⟩ | ⟨b, o, c, rfl, hc, hm, hb, hf⟩
  · have hp : pend [] i = -1 := by simp [pend, Fm.scan_nil, pval]
    rw [hp]
    clear hp
    go_enter Tryz.func84, Tryz.ntmps84
    go_wp2_with fail
    refine wp_loop_rounds 1 ?_; rw [rounds_succ]
    go_wp2_with fail
    go_ret
    exact ⟨rfl, Grew.refl _⟩
  · clear h
    obtain ⟨P, hP⟩ : ∃ P, P = pend xs i := ⟨_, rfl⟩
    rw [← hP]
    -- the rest of the scan decides the result
    have hstart : Hid (P = pval i (Fm.scan (xs.drop i) 1)) := hP
    have hstep := fun j o hj => @scan_step xs j o hj
    have HS := Lib.hid hstep
    have HL : Hid (∀ j, xs.length ≤ j → xs.drop j = []) := Lib.hid fun j hj => List.drop_eq_nil_of_le hj
    clear hP hstep
    have HF := Lib.hid hf
    clear hf
    generalize hN : xs.length = n at *
    clear hN
    go_enter Tryz.func84, Tryz.ntmps84
    go_wp2_with fail
    go_loopg [1, 5] (n + 1 - i) (fun k x y wr => ∃ j op : Nat, x = .int .i64 j ∧ y = .int .i64 op ∧ Grew w wr ∧ i ≤ j ∧ op ≤ j - i + 1 ∧ k = n + 1 - j ∧ j ≤ i + n ∧ Hid (P = pval j (Fm.scan (xs.drop j) op)))
    case atStart => exact ⟨i, 1, rfl, rfl, Grew.refl _, Nat.le_refl _, by omega, rfl, by omega, hstart⟩
    case round =>
      obtain ⟨j, op, rfl, rfl, hB, hij, hop, rfl, hjn, HP⟩ := hrel
      by_cases hz : op = 0
      · subst hz
        have hv : Hid (P = (j : Int)) := Lib.hid (by rw [HP.out, Fm.scan_zero]; simp [pval])
        clear HP
        go_wp2_with fail
        go_ret
        rw [hv.out]
        exact ⟨rfl, hB⟩
      · obtain ⟨q, rfl⟩ : ∃ q, op = q + 1 := ⟨op - 1, by omega⟩
        by_cases hlt : j < n
        · have k1 : ∀ W, Grew w W → W.cell? ⟨b, o + j * 2, none⟩ = some (.int .i64 (kd xs j)) := fun W hW => (HF.out j hlt W hW).1
          have hv : Hid (P = pval (j + 1) (Fm.scan (xs.drop (j + 1)) (q + Fm.arity (kd xs j)))) := Lib.hid (by rw [HP.out, HS.out j q hlt, pval_succ])
          have har := Fm.arity_le (kd xs j)
          clear HP hz
          go_wp2_with fail
          refine (partsOf_c _ _).mono ?_
          rintro e w1 ⟨rfl, hg1⟩
          generalize Fm.arity (kd xs j) = ar at *
          go_wp2_with fail
          go_roundg (n + 1 - (j + 1))
          case measure => omega
          case rel => exact ⟨j + 1, q + ar, by go_num, by go_num, hB.trans hg1, by omega, by omega, rfl, by omega, hv⟩
        · have hv : Hid (P = -1) := Lib.hid (by rw [HP.out, HL.out j (by omega), Fm.scan_nil]; rfl)
          clear HP
          go_wp2_with fail
          go_ret
          rw [hv.out]
          exact ⟨rfl, hB⟩
theorem l02Parts_c (k : Int) (w : World) :
    Calls Tryz.prog 140 #[.int .i64 k] w fun e w' => e = .returned (.int .i64 (Fm.arity k)) ∧ Grew w w' := by
  by_cases h2 : k = 2 ∨ k = 3 ∨ k = 4
  · have ha : Fm.arity k = 2 := by unfold Fm.arity; rw [if_pos h2]
    rw [ha]
    rcases h2 with rfl | rfl | rfl
    all_goals
      go_enter Tryz.func140, Tryz.ntmps140
      go_wp2_with fail
      go_ret
      exact ⟨rfl, Grew.refl _⟩
  by_cases h1 : k = 5 ∨ k = 6
  · have ha : Fm.arity k = 1 := by unfold Fm.arity; rw [if_neg h2, if_pos h1]
    rw [ha]
    rcases h1 with rfl | rfl
    all_goals
      go_enter Tryz.func140, Tryz.ntmps140
      go_wp2_with fail
      go_ret
      exact ⟨rfl, Grew.refl _⟩
  · have ha : Fm.arity k = 0 := by unfold Fm.arity; rw [if_neg h2, if_neg h1]
    rw [ha]
    have n2 : (k == 2) = false := by simp; omega
    have n3 : (k == 3) = false := by simp; omega
    have n4 : (k == 4) = false := by simp; omega
    have n5 : (k == 5) = false := by simp; omega
    have n6 : (k == 6) = false := by simp; omega
    clear h1 h2 ha
    go_enter Tryz.func140, Tryz.ntmps140
    go_wp2_with fail
    go_ret
    exact ⟨rfl, Grew.refl _⟩

theorem l02Part_c (v : Value) (xs : List Nd) (i : Nat) (w : World) (h : Nodes w v xs) (hn : xs.length ≤ 1099511627776) (hi : i ≤ 1099511627776) :
    Calls Tryz.prog 89 #[v, .int .i64 i] w fun e w' => e = .returned (.int .i64 (pend xs i)) ∧ Grew w w' := by
  rcases h.open_ with ⟨rfl, rfl⟩ | ⟨b, o, c, rfl, hc, hm, hb, hf⟩
  · have hp : pend [] i = -1 := by simp [pend, Fm.scan_nil, pval]
    rw [hp]
    clear hp
    go_enter Tryz.func89, Tryz.ntmps89
    go_wp2_with fail
    refine wp_loop_rounds 1 ?_; rw [rounds_succ]
    go_wp2_with fail
    go_ret
    exact ⟨rfl, Grew.refl _⟩
  · clear h
    obtain ⟨P, hP⟩ : ∃ P, P = pend xs i := ⟨_, rfl⟩
    rw [← hP]
    -- the rest of the scan decides the result
    have hstart : Hid (P = pval i (Fm.scan (xs.drop i) 1)) := hP
    have hstep := fun j o hj => @scan_step xs j o hj
    have HS := Lib.hid hstep
    have HL : Hid (∀ j, xs.length ≤ j → xs.drop j = []) := Lib.hid fun j hj => List.drop_eq_nil_of_le hj
    clear hP hstep
    have HF := Lib.hid hf
    clear hf
    generalize hN : xs.length = n at *
    clear hN
    go_enter Tryz.func89, Tryz.ntmps89
    go_wp2_with fail
    go_loopg [1, 5] (n + 1 - i) (fun k x y wr => ∃ j op : Nat, x = .int .i64 j ∧ y = .int .i64 op ∧ Grew w wr ∧ i ≤ j ∧ op ≤ j - i + 1 ∧ k = n + 1 - j ∧ j ≤ i + n ∧ Hid (P = pval j (Fm.scan (xs.drop j) op)))
    case atStart => exact ⟨i, 1, rfl, rfl, Grew.refl _, Nat.le_refl _, by omega, rfl, by omega, hstart⟩
    case round =>
      obtain ⟨j, op, rfl, rfl, hB, hij, hop, rfl, hjn, HP⟩ := hrel
      by_cases hz : op = 0
      · subst hz
        have hv : Hid (P = (j : Int)) := Lib.hid (by rw [HP.out, Fm.scan_zero]; simp [pval])
        clear HP
        go_wp2_with fail
        go_ret
        rw [hv.out]
        exact ⟨rfl, hB⟩
      · obtain ⟨q, rfl⟩ : ∃ q, op = q + 1 := ⟨op - 1, by omega⟩
        by_cases hlt : j < n
        · have k1 : ∀ W, Grew w W → W.cell? ⟨b, o + j * 2, none⟩ = some (.int .i64 (kd xs j)) := fun W hW => (HF.out j hlt W hW).1
          have hv : Hid (P = pval (j + 1) (Fm.scan (xs.drop (j + 1)) (q + Fm.arity (kd xs j)))) := Lib.hid (by rw [HP.out, HS.out j q hlt, pval_succ])
          have har := Fm.arity_le (kd xs j)
          clear HP hz
          go_wp2_with fail
          refine (l02Parts_c _ _).mono ?_
          rintro e w1 ⟨rfl, hg1⟩
          generalize Fm.arity (kd xs j) = ar at *
          go_wp2_with fail
          go_roundg (n + 1 - (j + 1))
          case measure => omega
          case rel => exact ⟨j + 1, q + ar, by go_num, by go_num, hB.trans hg1, by omega, by omega, rfl, by omega, hv⟩
        · have hv : Hid (P = -1) := Lib.hid (by rw [HP.out, HL.out j (by omega), Fm.scan_nil]; rfl)
          clear HP
          go_wp2_with fail
          go_ret
          rw [hv.out]
          exact ⟨rfl, hB⟩

theorem cells_drop (xs : List Nd) : ∀ i, cells (xs.drop i) = (cells xs).drop (i * 2) := by
  induction xs with
  | nil => intro i; simp [cells]
  | cons x xs ih =>
    intro i
    cases i with
    | zero => simp
    | succ i =>
      rw [List.drop_succ_cons, ih, cells_cons, show (i + 1) * 2 = i * 2 + 1 + 1 by omega]
      rfl
theorem cells_take (xs : List Nd) : ∀ i, cells (xs.take i) = (cells xs).take (i * 2) := by
  induction xs with
  | nil => intro i; simp [cells]
  | cons x xs ih =>
    intro i
    cases i with
    | zero => simp [cells]
    | succ i =>
      rw [List.take_succ_cons, cells_cons, ih, cells_cons, show (i + 1) * 2 = i * 2 + 1 + 1 by omega]
      rfl
/-- A cut of a slice of nodes. -/
theorem Nodes.sub {w : World} {b o n c : Nat} {xs : List Nd} (h : Nodes w (.slice (some ⟨b, o, none⟩) n c) xs) (i m c' : Nat) (him : i + m ≤ xs.length) (hc : m ≤ c') (hc' : c' ≤ 9223372036854775807) :
    Nodes w (.slice (some ⟨b, o + i * 2, none⟩) m c') ((xs.drop i).take m) := by
  obtain ⟨h1, h2, h3⟩ := h
  have hl : ((xs.drop i).take m).length = m := by simp; omega
  refine ⟨cells_length _, by omega, .inr ?_⟩
  rcases h3 with ⟨h4, _⟩ | ⟨b', o', c0, h4, h5, h6, h7, h8⟩
  · cases h4
  · simp only [Value.slice.injEq, Option.some.injEq, Addr.mk.injEq, and_true] at h4
    obtain ⟨⟨rfl, rfl⟩, rfl, rfl⟩ := h4
    refine ⟨b, o + i * 2, c', by rw [hl], by omega, hc', h7, fun j u hu => ?_⟩
    rw [cells_take, List.getElem?_take] at hu
    split at hu
    · rw [cells_drop, List.getElem?_drop] at hu
      have := h8 _ _ hu
      rw [show o + i * 2 + j = o + (i * 2 + j) by omega]
      exact this
    · cases hu

/-- A list that stands in another one from i on. -/
def At (xs : List Nd) (i : Nat) (t : Tree) : Prop := ∃ rest, xs.drop i = Fm.enc t ++ rest
theorem At.pend {xs : List Nd} {i : Nat} {t : Tree} (h : At xs i t) : pend xs i = (i : Int) + (Fm.enc t).length := by
  obtain ⟨rest, h⟩ := h
  rw [Go.Proofs.YtphljdhacbpkbaaGreat.pend, h, Fm.scan_one]; rfl
theorem At.take {xs : List Nd} {i : Nat} {t : Tree} (h : At xs i t) : (xs.drop i).take (Fm.enc t).length = Fm.enc t := by
  obtain ⟨rest, h⟩ := h
  rw [h, List.take_left']; rfl
theorem At.le {xs : List Nd} {i : Nat} {t : Tree} (h : At xs i t) : i + (Fm.enc t).length ≤ xs.length := by
  obtain ⟨rest, h⟩ := h
  have h1 := congrArg List.length h
  have h2 := Fm.enc_pos t
  simp only [List.length_drop, List.length_append] at h1
  omega

/-- The call returns a slice that reads as the list, and changes nothing. -/
def Cuts (w : World) (xs : List Nd) (e : Ending) (w' : World) : Prop := ∃ v, e = .returned v ∧ Nodes w' v xs ∧ Grew w w'

theorem partEnd_at (v : Value) (xs : List Nd) (i : Nat) (t : Tree) (w : World) (h : Nodes w v xs) (hn : xs.length ≤ 1099511627776) (ht : At xs i t) :
    Calls Tryz.prog 84 #[v, .int .i64 i] w fun e w' => e = .returned (.int .i64 ((i : Int) + (Fm.enc t).length)) ∧ Grew w w' := by
  have := partEnd_c v xs i w h hn (by have := ht.le; omega)
  rw [ht.pend] at this
  exact this
theorem l02Part_at (v : Value) (xs : List Nd) (i : Nat) (t : Tree) (w : World) (h : Nodes w v xs) (hn : xs.length ≤ 1099511627776) (ht : At xs i t) :
    Calls Tryz.prog 89 #[v, .int .i64 i] w fun e w' => e = .returned (.int .i64 ((i : Int) + (Fm.enc t).length)) ∧ Grew w w' := by
  have := l02Part_c v xs i w h hn (by have := ht.le; omega)
  rw [ht.pend] at this
  exact this

/-- The kind of the first node. -/
def kindOf : Tree → Int
  | .var _ => 0
  | .fls => 1
  | .and _ _ => 2
  | .or _ _ => 3
  | .imp _ _ => 4
  | .box _ => 5
  | .dia _ => 6

theorem kd_enc (t : Tree) : kd (Fm.enc t) 0 = kindOf t := by cases t <;> rfl
theorem isF_kind (t : Tree) : Fm.isF t = (kindOf t == 1) := by cases t <;> rfl

/-- Is the formula a negation? -/
def isNeg : Tree → Bool
  | .imp _ b => Fm.isF b
  | _ => false

theorem at_first {xs : List Nd} {k : Nd} {a : Tree} {rest : List Nd} (h : xs = k :: (Fm.enc a ++ rest)) : At xs 1 a := ⟨rest, by rw [h]; rfl⟩
theorem at_second {xs : List Nd} {k : Nd} {a b : Tree} (h : xs = k :: (Fm.enc a ++ Fm.enc b)) : At xs (1 + (Fm.enc a).length) b :=
  ⟨[], by rw [h, Nat.add_comm, List.drop_succ_cons, List.drop_left', List.append_nil]; rfl⟩

/-- The call returns the text and changes nothing. -/
def Says (w : World) (s : List UInt8) (e : Ending) (w' : World) : Prop := e = .returned (.string (bs s)) ∧ Grew w w'

theorem nodes_head {w : World} {v : Value} {t : Tree} (h : Nodes w v (Fm.enc t)) : ∃ b o c, v = .slice (some ⟨b, o, none⟩) (Fm.enc t).length c ∧ (Fm.enc t).length ≤ c ∧ c ≤ 9223372036854775807 ∧ ∀ W, Grew w W → W.cell? ⟨b, o, none⟩ = some (.int .i64 (kindOf t)) := by
  have hpos := Fm.enc_pos t
  rcases h.open_ with ⟨rfl, h0⟩ | ⟨b, o, c, rfl, hc, hm, hb, hf⟩
  · rw [h0] at hpos; simp at hpos
  · refine ⟨b, o, c, rfl, hc, hm, fun W hW => ?_⟩
    have := (hf 0 (by omega) W hW).1
    rw [kd_enc] at this
    simpa using this

theorem letter_cut {q : Nat} (h : q < 6) : ByteArray.extract ⟨#[112, 113, 114, 115, 116, 117]⟩ q (q + 1) = bs [UInt8.ofNat (112 + q)] := by
  have h6 : q = 0 ∨ q = 1 ∨ q = 2 ∨ q = 3 ∨ q = 4 ∨ q = 5 := by omega
  rcases h6 with rfl | rfl | rfl | rfl | rfl | rfl <;> decide
end Go.Proofs.YtphljdhacbpkbaaGreat

/- Two lists of nodes that agree as far as k. -/
namespace Go.Proofs.YtphljdhacbpkbaaGreat
open Go.RowKit
open Fm (Nd)

/-- Two lists that agree as far as k. -/
def Agree (xs ys : List Nd) (k : Nat) : Prop := ∀ i, i < k → kd xs i = kd ys i ∧ sy xs i = sy ys i
theorem Agree.zero (xs ys : List Nd) : Agree xs ys 0 := fun i hi => absurd hi (by omega)
theorem Agree.succ {xs ys : List Nd} {k : Nat} (h : Agree xs ys k) (h1 : kd xs k = kd ys k) (h2 : sy xs k = sy ys k) : Agree xs ys (k + 1) := by
  intro i hi
  rcases Nat.lt_or_ge i k with hk | hk
  · exact h i hk
  · obtain rfl : i = k := by omega
    exact ⟨h1, h2⟩
end Go.Proofs.YtphljdhacbpkbaaGreat

/- The reference's l02Equal on lists of nodes. -/
namespace Go.Proofs.YtphljdhacbpkbaaGreat
open Go.RowKit
open Fm (Nd)

theorem agree_all {xs ys : List Nd} (hl : xs.length = ys.length) (h : Agree xs ys xs.length) : xs = ys := nd_ext hl h

end Go.Proofs.YtphljdhacbpkbaaGreat

/- The text of a formula: the reference's l02Write. -/
namespace Go.Proofs.YtphljdhacbpkbaaGreat
open Go.RowKit
open Fm (Nd Tree)

theorem l02Left_c (v : Value) (xs : List Nd) (a : Tree) (w : World) (h : Nodes w v xs) (hn : xs.length ≤ 1099511627776) (ha : At xs 1 a) :
    Calls Tryz.prog 50 #[v] w (Cuts w (Fm.enc a)) := by
  have hle := ha.le
  have hpos := Fm.enc_pos a
  rcases h.open_ with ⟨rfl, rfl⟩ | ⟨b, o, c, rfl, hc, hm, hb, hf⟩
  · simp only [List.length_nil] at hle; omega
  · have hsub := h.sub 1 (Fm.enc a).length (c - 1) hle (by omega) (by omega)
    rw [ha.take] at hsub
    have HH := Lib.hid h
    have HS := Lib.hid hsub
    have HT := Lib.hid ha
    clear h hf hsub ha
    go_enter Tryz.func50, Tryz.ntmps50
    go_wp2_with fail
    refine (l02Part_at _ xs 1 a _ HH.out hn HT.out).mono ?_
    rintro e w1 ⟨rfl, hg1⟩
    go_wp2_with fail
    go_ret
    refine ⟨_, rfl, ?_, hg1⟩
    rw [Nat.add_sub_cancel_left]
    exact HS.out.grew hg1

theorem l02Right_c (v : Value) (xs : List Nd) (a t : Tree) (w : World) (h : Nodes w v xs) (hn : xs.length ≤ 1099511627776) (ha : At xs 1 a) (ht : At xs (1 + (Fm.enc a).length) t) (hl : xs.length = 1 + (Fm.enc a).length + (Fm.enc t).length) :
    Calls Tryz.prog 51 #[v] w (Cuts w (Fm.enc t)) := by
  have hle := ha.le
  have hpos := Fm.enc_pos t
  rcases h.open_ with ⟨rfl, rfl⟩ | ⟨b, o, c, rfl, hc, hm, hb, hf⟩
  · simp only [List.length_nil] at hle; omega
  · have hsub := h.sub (1 + (Fm.enc a).length) (Fm.enc t).length (c - (1 + (Fm.enc a).length)) (by omega) (by omega) (by omega)
    rw [ht.take] at hsub
    have HH := Lib.hid h
    have HS := Lib.hid hsub
    have HA := Lib.hid ha
    have hk : (Fm.enc t).length = xs.length - (1 + (Fm.enc a).length) := by omega
    rw [hk] at HS
    have hlt : 1 + (Fm.enc a).length < xs.length := by omega
    clear h hf hsub ha ht hl hk hpos
    go_enter Tryz.func51, Tryz.ntmps51
    go_wp2_with fail
    refine (l02Part_at _ xs 1 a _ HH.out hn HA.out).mono ?_
    rintro e w1 ⟨rfl, hg1⟩
    go_wp2_with fail
    go_ret
    exact ⟨_, rfl, HS.out.grew hg1, hg1⟩

theorem enc_fls {t : Tree} (h : Fm.enc t = [(1, 0)]) : t = .fls := by
  cases t <;> simp_all [Fm.enc]
theorem enc_truth {x y : Tree} (h : Fm.enc (.imp x y) = Fm.truth) : x = .fls ∧ y = .fls := by
  have hx := Fm.enc_pos x
  have hy := Fm.enc_pos y
  have h1 : Fm.enc x ++ Fm.enc y = [(1, 0), (1, 0)] := by
    have : (4, 0) :: (Fm.enc x ++ Fm.enc y) = ((4, 0) : Nd) :: [(1, 0), (1, 0)] := h
    injection this
  have hl := congrArg List.length h1
  simp only [List.length_append, List.length_cons, List.length_nil] at hl
  have h2 : Fm.enc x = [(1, 0)] := by
    have := congrArg (List.take 1) h1
    rw [List.take_append_of_le_length hx, List.take_of_length_le (by omega)] at this
    exact this
  have h3 : Fm.enc y = [(1, 0)] := by
    rw [h2] at h1
    simpa using h1
  exact ⟨enc_fls h2, enc_fls h3⟩

end Go.Proofs.YtphljdhacbpkbaaGreat

/- A text that reads to a tree whose text it is. -/
namespace Go.Proofs.YtphljdhacbpkbaaGreat
open Go.RowKit
open Fm (Nd)

/-- The text is the text of a formula. -/
def IsGood (s : ByteArray) : Prop := ∃ t, Fm.pf s = (Fm.enc t, 0, 0) ∧ bs (Fm.txt t 0) = s
noncomputable def gd (s : ByteArray) : Bool := @decide (IsGood s) (Classical.propDecidable _)
theorem gd_true {s : ByteArray} (h : IsGood s) : gd s = true := by
  unfold gd
  exact @decide_eq_true _ (Classical.propDecidable _) h
theorem gd_false {s : ByteArray} (h : ¬ IsGood s) : gd s = false := by
  unfold gd
  exact @decide_eq_false _ (Classical.propDecidable _) h

theorem pf_cases (s : ByteArray) : (∃ t, Fm.pf s = (Fm.enc t, 0, 0)) ∨ ∃ p c, Fm.pf s = ([], p, c) ∧ (c == 0) = false := by
  unfold Fm.pf
  split
  · exact .inr ⟨_, _, rfl, by decide⟩
  · split
    · exact .inr ⟨_, _, rfl, by decide⟩
    · split
      · exact .inr ⟨_, _, rfl, by decide⟩
      · obtain ⟨t, ht⟩ := Fm.parse_enc s.data.toList Fm.fuel
        refine .inl ⟨t, ?_⟩
        rw [← ht]
        rfl
theorem gd_bad {s : ByteArray} {p : Nat} {c : Int} (h : Fm.pf s = ([], p, c)) (hc : (c == 0) = false) : gd s = false := by
  apply gd_false
  rintro ⟨t, ht, _⟩
  rw [h] at ht
  simp only [Prod.mk.injEq] at ht
  rw [ht.2.2] at hc
  cases hc
theorem gd_tree {s : ByteArray} {t : Fm.Tree} (h : Fm.pf s = (Fm.enc t, 0, 0)) : gd s = ((bs (Fm.txt t 0)).toList == s.toList) := by
  have e : ((bs (Fm.txt t 0)).toList == s.toList) = true ↔ bs (Fm.txt t 0) = s := by
    exact Lib.bytes_beq_iff _ _
  cases hb : ((bs (Fm.txt t 0)).toList == s.toList) with
  | true => exact gd_true ⟨t, h, e.1 hb⟩
  | false =>
    apply gd_false
    rintro ⟨u, hu, hs⟩
    rw [h] at hu
    simp only [Prod.mk.injEq, and_true] at hu
    have := enc_inj hu
    subst this
    rw [e.2 hs] at hb
    cases hb

/-- What the reference's test of a text gives. -/
def GivesG (w : World) (s : ByteArray) (e : Ending) (w' : World) : Prop := ∃ v, e = .returned (.tuple #[v, .bool (gd s)]) ∧ Own w' w.heap.size v (Fm.pf s).1 ∧ Grew w w'

end Go.Proofs.YtphljdhacbpkbaaGreat

/- The parts of a formula, as the program's text needs them. -/
namespace Go.Proofs.YtphljdhacbpkbaaGreat
open Go.RowKit
open Fm (Nd Tree)

end Go.Proofs.YtphljdhacbpkbaaGreat

/- The text of a formula: the program's textAt. -/
namespace Go.Proofs.YtphljdhacbpkbaaGreat
open Go.RowKit
open Fm (Nd Tree)

end Go.Proofs.YtphljdhacbpkbaaGreat

/- The program's 'parsed'. -/
namespace Go.Proofs.YtphljdhacbpkbaaGreat
open Go.RowKit
open Fm (Nd)

/-- A new list, nil where it is empty. -/
def GivesN (w : World) (xs : List Nd) (e : Ending) (w' : World) : Prop := ∃ v, e = .returned v ∧ Own w' w.heap.size v xs ∧ Grew w w' ∧ (xs = [] → v = .slice none 0 0)

end Go.Proofs.YtphljdhacbpkbaaGreat

/- Slices of strings. -/
namespace Go.Proofs.YtphljdhacbpkbaaGreat
open Go.RowKit

def st (L : List ByteArray) (i : Nat) : ByteArray := L.getD i ByteArray.empty
def scells (L : List ByteArray) : List Value := L.map Value.string
theorem scells_length (L : List ByteArray) : (scells L).length = L.length * 1 := by simp [scells]
theorem scells_one (L : List ByteArray) : ∀ u ∈ scells L, u.oneCell' = true := by
  intro u hu
  simp only [scells, List.mem_map] at hu
  obtain ⟨x, _, rfl⟩ := hu
  rfl
theorem scells_at {L : List ByteArray} {i : Nat} (h : i < L.length) : (scells L)[i]? = some (.string (st L i)) := by simp [scells, st, List.getD, h]
theorem scells_append (K L : List ByteArray) : scells (K ++ L) = scells K ++ scells L := by simp [scells]
theorem st_get {L : List ByteArray} {i : Nat} (h : i < L.length) : L[i] = st L i := by simp [st, List.getD, h]

/-- The value reads as the list of strings. -/
def Strs (w : World) (v : Value) (L : List ByteArray) : Prop := Rd w 1 v L.length (scells L)
/-- A row of the call's own that holds the strings. -/
def OwnS (w : World) (B : Nat) (v : Value) (L : List ByteArray) : Prop := w.ownsRow B 9 1 v L.length (scells L)
theorem Strs.grew {w w' : World} {v : Value} {L : List ByteArray} (h : Strs w v L) (hb : Grew w w') : Strs w' v L := Rd.grew h hb
theorem Strs.nil_ (w : World) : Strs w (.slice none 0 0) [] := Rd.nil_ w 1
theorem OwnS.strs {w : World} {B : Nat} {v : Value} {L : List ByteArray} (h : OwnS w B v L) : Strs w v L := Rd.of_own h
theorem OwnS.nil_ (w : World) (B : Nat) : OwnS w B (.slice none 0 0) [] := World.ownsRow_nil w B _ 1
theorem OwnS.grew {w w' : World} {B : Nat} {v : Value} {L : List ByteArray} (h : OwnS w B v L) (hb : Grew w w') : OwnS w' B v L := own_grew h hb
theorem OwnS.base {w : World} {B B' : Nat} {v : Value} {L : List ByteArray} (h : OwnS w B v L) (hb : B' ≤ B) : OwnS w B' v L := own_base h hb

theorem Strs.open_ {w : World} {v : Value} {L : List ByteArray} (h : Strs w v L) :
    (v = .slice none 0 0 ∧ L = []) ∨ ∃ b o c, v = .slice (some ⟨b, o, none⟩) L.length c ∧ L.length ≤ c ∧ c ≤ 9223372036854775807 ∧ b < w.heap.size ∧
      ∀ i, i < L.length → ∀ W, Grew w W → W.cell? ⟨b, o + i, none⟩ = some (.string (st L i)) := by
  obtain ⟨_, _, h3⟩ := h
  rcases h3 with ⟨h4, h5⟩ | ⟨b, o, c, h4, h5, h6, h7, h8⟩
  · exact .inl ⟨h4, List.eq_nil_of_length_eq_zero h5⟩
  · exact .inr ⟨b, o, c, h4, h5, h6, h7, fun i hi W hW => (hW.cell (p := ⟨b, o + i, none⟩) h7).trans (h8 _ _ (scells_at hi))⟩
theorem strs_slice {w : World} {v : Value} {L : List ByteArray} (h : Strs w v L) : ∃ A c, v = .slice A L.length c := by
  rcases h.open_ with ⟨rfl, rfl⟩ | ⟨b, o, c, rfl, _⟩
  · exact ⟨_, _, rfl⟩
  · exact ⟨_, _, rfl⟩
/-- A literal of strings in a new block. -/
theorem OwnS.lit (w : World) (B : Nat) (L : List ByteArray) (cs : Array Value) (hB : B ≤ w.heap.size) (hn : L.length ≤ 9223372036854775807) (hc : cs.toList = scells L) :
    OwnS (w.alloc (.cells cs 9)) B (.slice (some ⟨w.heap.size, 0, none⟩) L.length L.length) L := by
  have hl : cs.size = L.length * 1 := by rw [← Array.length_toList, hc, scells_length]
  have h := World.ownsRow_lit (e := 9) (size := 1) w cs L.length hB hn hl
  rw [hc] at h
  exact h
theorem OwnS.mk_ {w : World} {B : Nat} {L : List ByteArray} {g c : Nat} {cur : Array Value} (hB : B ≤ g) (hg : w.heap[g]? = some (.cells cur 9 (0, 0))) (hnc : L.length ≤ c) (hcm : c ≤ 9223372036854775807) (hcs : cur.size = c)
    (hc : ∀ i, i < L.length → cur[i]? = some (.string (st L i))) : OwnS w B (.slice (some ⟨g, 0, none⟩) L.length c) L := by
  refine ⟨scells_length L, .inr ⟨g, c, cur, rfl, hB, hg, hnc, hcm, by omega, ?_⟩⟩
  apply List.ext_getElem?
  intro j
  rw [List.getElem?_take]
  by_cases hj : j < L.length
  · rw [if_pos (by omega), scells_at hj]
    simpa using hc j hj
  · rw [if_neg (by omega), List.getElem?_eq_none (by rw [scells_length]; omega)]

theorem Tryz.infoStr : (Tryz.prog.info? 9).map (fun i => (i.zero, i.size, i.bytes)) = some (some (.string ByteArray.empty), 1, 16) := by kernel_rfl

/-- The call returns a new list of strings. -/
def GivesS (w : World) (L : List ByteArray) (e : Ending) (w' : World) : Prop := ∃ v, e = .returned v ∧ OwnS w' w.heap.size v L ∧ Grew w w'

end Go.Proofs.YtphljdhacbpkbaaGreat

/- isText of the program. -/
namespace Go.Proofs.YtphljdhacbpkbaaGreat
open Go.RowKit
open Fm (Nd)

end Go.Proofs.YtphljdhacbpkbaaGreat

/- A predicate on nodes: IndexFunc, ContainsFunc. -/
namespace Go.Proofs.YtphljdhacbpkbaaGreat
open Go.RowKit
open Fm (Nd)

/-- None of the first k nodes meets the predicate. -/
def NoneP (p : Int → Int → Bool) (xs : List Nd) (k : Nat) : Prop := ∀ i, i < k → p (kd xs i) (sy xs i) = false
theorem NoneP.zero (p : Int → Int → Bool) (xs : List Nd) : NoneP p xs 0 := fun i hi => absurd hi (by omega)
theorem NoneP.succ {p : Int → Int → Bool} {xs : List Nd} {k : Nat} (h : NoneP p xs k) (h1 : p (kd xs k) (sy xs k) = false) : NoneP p xs (k + 1) := by
  intro i hi
  rcases Nat.lt_or_ge i k with hk | hk
  · exact h i hk
  · obtain rfl : i = k := by omega
    exact h1
/-- Some node meets the predicate. -/
noncomputable def anyP (p : Int → Int → Bool) (xs : List Nd) : Bool := !@decide (NoneP p xs xs.length) (Classical.propDecidable _)
theorem anyP_no {p : Int → Int → Bool} {xs : List Nd} (h : NoneP p xs xs.length) : anyP p xs = false := by
  unfold anyP
  rw [@decide_eq_true _ (Classical.propDecidable _) h]
  rfl
theorem anyP_at {p : Int → Int → Bool} {xs : List Nd} {k : Nat} (hk : k < xs.length) (h : p (kd xs k) (sy xs k) = true) : anyP p xs = true := by
  unfold anyP
  rw [@decide_eq_false _ (Classical.propDecidable _) fun H => by rw [H k hk] at h; cases h]
  rfl

/-- What the function value gives at a node. -/
def PredOk (f : Nat) (p : Int → Int → Bool) : Prop := ∀ a b W, Calls Tryz.prog f #[.agg #[.int .i64 a, .int .i64 b]] W fun e w' => e = .returned (.bool (p a b)) ∧ Grew W w'

theorem indexFunc_c (v : Value) (xs : List Nd) (f : Nat) (p : Int → Int → Bool) (w : World) (h : Nodes w v xs) (hn : xs.length ≤ 1099511627776) (hf : PredOk f p) (eg : ∀ args w, (callFunc f args).run Tryz.prog w = .ok (.enter f args) w) :
    Calls Tryz.prog 137 #[v, .func (.func f) #[] #[]] w fun e w' => ∃ r : Int, e = .returned (.int .i64 r) ∧ Grew w w' ∧ decide (0 ≤ r) = anyP p xs := by
  rcases h.open_ with ⟨rfl, rfl⟩ | ⟨b, o, c, rfl, hc, hm, hb, hcell⟩
  · rw [anyP_no (NoneP.zero _ _)]
    clear h hf
    go_enter Tryz.func137, Tryz.ntmps137
    go_wp2_with fail
    refine wp_loop_rounds 1 ?_; rw [rounds_succ]
    go_wp2_with fail
    go_ret
    exact ⟨_, rfl, Grew.refl _, rfl⟩
  obtain ⟨R, hR⟩ : ∃ R, R = anyP p xs := ⟨_, rfl⟩
  rw [← hR]
  have HA := Lib.hid (fun k hk h => hR.trans (@anyP_at p xs k hk h))
  have HZ := Lib.hid (fun h => hR.trans (@anyP_no p xs h))
  have HC := Lib.hid hcell
  have HF := Lib.hid hf
  clear hcell h hf hR
  generalize hN : xs.length = n at *
  clear hN
  go_enter Tryz.func137, Tryz.ntmps137
  go_wp2_with fail
  go_loopw [5, 8] (fun _ i wr => ∃ j : Nat, j ≤ n ∧ i = .int .i64 j ∧ Grew w wr ∧ Hid (NoneP p xs j)) (fun _ i _ => n - (intOf i).toNat)
  case atStart => exact ⟨0, Nat.zero_le _, rfl, Grew.refl _, NoneP.zero _ _⟩
  case round =>
    obtain ⟨j, hj, rfl, hB, HJ⟩ := hrel
    by_cases hlt : j < n
    · have k1 := (HC.out j hlt _ hB).1
      have k2 := (HC.out j hlt _ hB).2
      have hA := Lib.hid (HA.out j hlt)
      have hS := Lib.hid (fun h => HJ.out.succ (k := j) h)
      generalize kd xs j = x at *
      generalize sy xs j = y at *
      go_wp2_with fail
      go_at_fn f
      refine (HF.out x y _).mono ?_
      rintro e w1 ⟨rfl, hg1⟩
      have hB1 := hB.trans hg1
      cases hp : p x y with
      | true =>
        have hv := hA.out hp
        go_wp2_with fail
        go_ret
        exact ⟨_, rfl, hB1, by rw [hv]; simp⟩
      | false =>
        have hs := Lib.hid (hS.out hp)
        go_wp2_with fail
        go_roundw
        case rel => exact ⟨j + 1, by omega, by go_num, hB1, hs⟩
        case measure => simp [intOf]; omega
    · obtain rfl : j = n := by omega
      have hv := Lib.hid (HZ.out HJ.out)
      go_wp2_with fail
      go_ret
      exact ⟨_, rfl, hB, by rw [hv.out]; rfl⟩

theorem containsFunc_c (v : Value) (xs : List Nd) (f : Nat) (p : Int → Int → Bool) (w : World) (h : Nodes w v xs) (hn : xs.length ≤ 1099511627776) (hf : PredOk f p) (eg : ∀ args w, (callFunc f args).run Tryz.prog w = .ok (.enter f args) w) :
    Calls Tryz.prog 81 #[v, .func (.func f) #[] #[]] w fun e w' => e = .returned (.bool (anyP p xs)) ∧ Grew w w' := by
  have HI := Lib.hid (indexFunc_c v xs f p w h hn hf eg)
  clear h hf eg
  generalize anyP p xs = R at *
  go_enter Tryz.func81, Tryz.ntmps81
  go_wp2_with fail
  refine HI.out.mono ?_
  rintro e w1 ⟨r, rfl, hg1, hr⟩
  go_wp2_with fail
  go_ret
  exact ⟨by rw [← hr]; rfl, hg1⟩

end Go.Proofs.YtphljdhacbpkbaaGreat

/- isPlain of the program, l02Plain of the reference. -/
namespace Go.Proofs.YtphljdhacbpkbaaGreat
open Go.RowKit
open Fm (Nd)

def isBD (a _b : Int) : Bool := a == 5 || a == 6
theorem isModal_c (a : Int) (w : World) : Calls Tryz.prog 86 #[.int .i64 a] w fun e w' => e = .returned (.bool (a == 5 || a == 6)) ∧ Grew w w' := by
  cases h : (a == 5) with
  | true =>
    go_enter Tryz.func86, Tryz.ntmps86
    go_wp2_with fail
    go_ret
    exact ⟨rfl, Grew.refl _⟩
  | false =>
    go_enter Tryz.func86, Tryz.ntmps86
    go_wp2_with fail
    go_ret
    exact ⟨by simp, Grew.refl _⟩
theorem isPlain1_ok : PredOk 85 isBD := by
  intro a b w
  go_enter Tryz.func85, Tryz.ntmps85
  go_wp2_with fail
  refine (isModal_c _ _).mono ?_
  rintro e w1 ⟨rfl, hg1⟩
  go_wp2_with fail
  go_ret
  exact ⟨rfl, Grew.of_alloc hg1⟩
theorem isPlain_c (v : Value) (xs : List Nd) (w : World) (h : Nodes w v xs) (hn : xs.length ≤ 1099511627776) :
    Calls Tryz.prog 45 #[v] w fun e w' => e = .returned (.bool (!anyP isBD xs)) ∧ Grew w w' := by
  have HI := Lib.hid (containsFunc_c v xs _ _ w h hn isPlain1_ok (enters_of Tryz.func85 (by kernel_rfl) rfl))
  clear h
  generalize anyP isBD xs = R at *
  go_enter Tryz.func45, Tryz.ntmps45
  go_wp2_with fail
  refine HI.out.mono ?_
  rintro e w1 ⟨rfl, hg1⟩
  go_wp2_with fail
  go_ret
  exact ⟨rfl, hg1⟩

theorem l02Plain_c (v : Value) (xs : List Nd) (w : World) (h : Nodes w v xs) (hn : xs.length ≤ 1099511627776) :
    Calls Tryz.prog 49 #[v] w fun e w' => e = .returned (.bool (!anyP isBD xs)) ∧ Grew w w' := by
  rcases h.open_ with ⟨rfl, rfl⟩ | ⟨b, o, c, rfl, hc, hm, hb, hcell⟩
  · rw [anyP_no (NoneP.zero _ _)]
    clear h
    go_enter Tryz.func49, Tryz.ntmps49
    go_wp2_with fail
    refine wp_loop_rounds 1 ?_; rw [rounds_succ]
    go_wp2_with fail
    go_ret
    exact ⟨rfl, Grew.refl _⟩
  obtain ⟨R, hR⟩ : ∃ R, R = anyP isBD xs := ⟨_, rfl⟩
  rw [← hR]
  have HA := Lib.hid (fun k hk h => hR.trans (@anyP_at isBD xs k hk h))
  have HZ := Lib.hid (fun h => hR.trans (@anyP_no isBD xs h))
  have HC := Lib.hid hcell
  clear hcell h hR
  generalize hN : xs.length = n at *
  clear hN
  go_enter Tryz.func49, Tryz.ntmps49
  go_wp2_with fail
  go_loopw [3] (fun i wr => ∃ j : Nat, j ≤ n ∧ i = .int .i64 j ∧ Grew w wr ∧ Hid (NoneP isBD xs j)) (fun i _ => n - (intOf i).toNat)
  case atStart => exact ⟨0, Nat.zero_le _, rfl, Grew.refl _, NoneP.zero _ _⟩
  case round =>
    obtain ⟨j, hj, rfl, hB, HJ⟩ := hrel
    by_cases hlt : j < n
    · have k1 := (HC.out j hlt _ hB).1
      have hA := Lib.hid (HA.out j hlt)
      have hS := Lib.hid (fun h => HJ.out.succ (k := j) h)
      generalize kd xs j = x at *
      generalize sy xs j = y at *
      cases h5 : (x == 5) with
      | true =>
        have hv := Lib.hid (hA.out (by simp [isBD, h5]))
        go_wp2_with fail
        go_ret
        rw [hv.out]
        exact ⟨rfl, hB⟩
      | false =>
        cases h6 : (x == 6) with
        | true =>
          have hv := Lib.hid (hA.out (by simp [isBD, h6]))
          go_wp2_with fail
          go_ret
          rw [hv.out]
          exact ⟨rfl, hB⟩
        | false =>
          have hs := Lib.hid (hS.out (by simp [isBD, h5, h6]))
          go_wp2_with fail
          go_roundw
          case rel => exact ⟨j + 1, by omega, by go_num, hB, hs⟩
          case measure => simp [intOf]; omega
    · obtain rfl : j = n := by omega
      have hv := Lib.hid (HZ.out HJ.out)
      go_wp2_with fail
      go_ret
      rw [hv.out]
      exact ⟨rfl, hB⟩
end Go.Proofs.YtphljdhacbpkbaaGreat

/- Is a text that of a plain formula? -/
namespace Go.Proofs.YtphljdhacbpkbaaGreat
open Go.RowKit
open Fm (Nd)

/-- The text is the text of a plain formula. -/
noncomputable def gp (s : ByteArray) : Bool := gd s && !anyP isBD (Fm.pf s).1

def GivesP (w : World) (s : ByteArray) (e : Ending) (w' : World) : Prop := ∃ v, e = .returned (.tuple #[v, .bool (gp s)]) ∧ Own w' w.heap.size v (Fm.pf s).1 ∧ Grew w w'

end Go.Proofs.YtphljdhacbpkbaaGreat

/- The texts of formulas. No program is in sight. -/
namespace Go.Proofs.YtphljdhacbpkbaaGreat
open Go.RowKit

/-- The text of a formula. -/
def tx (A : Fm.Tree) : ByteArray := bs (Fm.txt A 0)
theorem tx_pf {A : Fm.Tree} (h : (Fm.enc A).length ≤ 40) : Fm.pf (tx A) = (Fm.enc A, 0, 0) := Fm.pf_txt A (by have := Fm.txt_len A 0; omega) h
theorem tx_size {A : Fm.Tree} (h : (Fm.enc A).length ≤ 40) : (tx A).size ≤ 160 := by
  unfold tx
  rw [bs_size]
  have := Fm.txt_len A 0
  omega
theorem tx_inj {A B : Fm.Tree} (ha : (Fm.enc A).length ≤ 40) (hb : (Fm.enc B).length ≤ 40) (h : tx A = tx B) : A = B := by
  have h1 := tx_pf ha
  rw [h, tx_pf hb] at h1
  simp only [Prod.mk.injEq, and_true] at h1
  exact (enc_inj h1).symm
theorem tx_ne (A : Fm.Tree) : (tx A).toList.isEmpty = false := by
  have h1 := Fm.txt_pos A 0
  unfold tx
  cases he : Fm.txt A 0 with
  | nil => rw [he] at h1; simp at h1
  | cons x xs =>
    have := Lib.bytes_beq_iff (bs (x :: xs)) ByteArray.empty
    cases hq : (bs (x :: xs)).toList.isEmpty with
    | false => rfl
    | true =>
      exfalso
      have h2 : (bs (x :: xs)).toList = ByteArray.empty.toList := by
        rw [List.isEmpty_iff] at hq
        rw [hq]; exact (by unfold ByteArray.toList ByteArray.toList.loop; rfl : ([] : List UInt8) = ByteArray.empty.toList)
      have h3 := this.1 (by rw [h2]; simp)
      have h4 := congrArg ByteArray.size h3
      rw [bs_size] at h4
      simp at h4

end Go.Proofs.YtphljdhacbpkbaaGreat

/- Plain formulas of the size of a text, and their texts. No program is in sight. -/
namespace Go.Proofs.YtphljdhacbpkbaaGreat
open Go.RowKit

/-- A formula of the size of a text. -/
def FmOk (A : Fm.Tree) : Prop := (Fm.enc A).length ≤ 40 ∧ anyP isBD (Fm.enc A) = false
theorem gp_tx {A : Fm.Tree} (h : FmOk A) : gp (tx A) = true := by
  unfold gp
  rw [gd_true ⟨A, tx_pf h.1, rfl⟩, tx_pf h.1]
  simp [h.2]
theorem gp_tree {s : ByteArray} (h : gp s = true) : ∃ A, FmOk A ∧ tx A = s := by
  unfold gp at h
  simp only [Bool.and_eq_true, Bool.not_eq_true'] at h
  have hg : IsGood s := by
    by_cases hg : IsGood s
    · exact hg
    · rw [gd_false hg] at h; exact absurd h.1 (by simp)
  obtain ⟨A, h1, h2⟩ := hg
  have hl := Fm.pf_len s
  rw [h1] at hl h
  exact ⟨A, ⟨hl, h.2⟩, h2⟩
/-- The formula that a text is the text of. -/
noncomputable def fo (s : ByteArray) : Fm.Tree := @dite _ (gp s = true) (Classical.propDecidable _) (fun h => Classical.choose (gp_tree h)) (fun _ => .fls)
theorem fo_ok {s : ByteArray} (h : gp s = true) : FmOk (fo s) ∧ tx (fo s) = s := by
  unfold fo
  rw [dif_pos h]
  exact Classical.choose_spec (gp_tree h)

/-- The formula, if it has not too many nodes. -/
def smallF (A : Fm.Tree) : Option Fm.Tree := if (Fm.enc A).length ≤ 40 then some A else none
theorem anyP_mem {p : Int → Int → Bool} {xs : List Fm.Nd} : anyP p xs = false ↔ ∀ x ∈ xs, p x.1 x.2 = false := by
  constructor
  · intro h x hx
    obtain ⟨i, hi, rfl⟩ := List.getElem_of_mem hx
    cases hq : p xs[i].1 xs[i].2 with
    | false => rfl
    | true =>
      have := anyP_at (p := p) hi (by simpa [kd, sy, List.getD, hi] using hq)
      rw [this] at h; cases h
  · intro h
    apply anyP_no
    intro i hi
    have := h xs[i] (List.getElem_mem hi)
    simpa [kd, sy, List.getD, hi] using this
theorem FmOk.bin {k : Int} {A B : Fm.Tree} {C : Fm.Tree} (he : Fm.enc C = (k, 0) :: (Fm.enc A ++ Fm.enc B)) (h : FmOk C) : FmOk A ∧ FmOk B := by
  obtain ⟨h1, h2⟩ := h
  rw [he] at h1 h2
  rw [anyP_mem] at h2
  simp only [List.length_cons, List.length_append] at h1
  exact ⟨⟨by omega, anyP_mem.2 fun x hx => h2 x (by simp [hx])⟩, ⟨by omega, anyP_mem.2 fun x hx => h2 x (by simp [hx])⟩⟩
theorem FmOk.join {k : Int} {A B : Fm.Tree} {C : Fm.Tree} (he : Fm.enc C = (k, 0) :: (Fm.enc A ++ Fm.enc B)) (hk : k ≠ 5 ∧ k ≠ 6) (hA : FmOk A) (hB : FmOk B) (hl : (Fm.enc C).length ≤ 40) : FmOk C := by
  refine ⟨hl, anyP_mem.2 ?_⟩
  rw [he]
  intro x hx
  simp only [List.mem_cons, List.mem_append] at hx
  rcases hx with rfl | hx | hx
  · unfold isBD
    have h5 : (k == 5) = false := by simpa using hk.1
    have h6 : (k == 6) = false := by simpa using hk.2
    show (k == 5 || k == 6) = false
    rw [h5, h6]; rfl
  · exact anyP_mem.1 hA.2 x hx
  · exact anyP_mem.1 hB.2 x hx
theorem smallF_ok {A B : Fm.Tree} (h : smallF A = some B) : A = B ∧ (Fm.enc B).length ≤ 40 := by
  unfold smallF at h
  split at h
  · simp at h; subst h; exact ⟨rfl, ‹_›⟩
  · cases h
theorem fmOk_and {p q : Fm.Tree} (h : FmOk (.and p q)) : FmOk p ∧ FmOk q := FmOk.bin (k := 2) rfl h
theorem fmOk_or {p q : Fm.Tree} (h : FmOk (.or p q)) : FmOk p ∧ FmOk q := FmOk.bin (k := 3) rfl h
theorem fmOk_imp {p q : Fm.Tree} (h : FmOk (.imp p q)) : FmOk p ∧ FmOk q := FmOk.bin (k := 4) rfl h
theorem small_and {p q B : Fm.Tree} (hp : FmOk p) (hq : FmOk q) (h : smallF (.and p q) = some B) : FmOk B := by
  obtain ⟨rfl, hl⟩ := smallF_ok h
  exact FmOk.join (k := 2) rfl (by decide) hp hq hl
theorem small_or {p q B : Fm.Tree} (hp : FmOk p) (hq : FmOk q) (h : smallF (.or p q) = some B) : FmOk B := by
  obtain ⟨rfl, hl⟩ := smallF_ok h
  exact FmOk.join (k := 3) rfl (by decide) hp hq hl
theorem small_imp {p q B : Fm.Tree} (hp : FmOk p) (hq : FmOk q) (h : smallF (.imp p q) = some B) : FmOk B := by
  obtain ⟨rfl, hl⟩ := smallF_ok h
  exact FmOk.join (k := 4) rfl (by decide) hp hq hl
/-- A formula without modalities is of one of five kinds. -/
theorem fm_five {A : Fm.Tree} (h : FmOk A) : (∃ v, A = .var v) ∨ A = .fls ∨ (∃ x y, A = .and x y) ∨ (∃ x y, A = .or x y) ∨ ∃ x y, A = .imp x y := by
  cases A with
  | var v => exact .inl ⟨v, rfl⟩
  | fls => exact .inr (.inl rfl)
  | and x y => exact .inr (.inr (.inl ⟨x, y, rfl⟩))
  | or x y => exact .inr (.inr (.inr (.inl ⟨x, y, rfl⟩)))
  | imp x y => exact .inr (.inr (.inr (.inr ⟨x, y, rfl⟩)))
  | box x => exact absurd (anyP_mem.1 h.2 (5, 0) (by simp [Fm.enc])) (by simp [isBD])
  | dia x => exact absurd (anyP_mem.1 h.2 (6, 0) (by simp [Fm.enc])) (by simp [isBD])
end Go.Proofs.YtphljdhacbpkbaaGreat

/- Forcing, plain: boxes, implications, the values of plain formulas; the values reckoned over a list of nodes from its end. No program is in sight. -/
namespace Go.Proofs.YtphljdhacbpkbaaGreat
open Go.RowKit
open Fm (Nd Tree)

/-- One node more, ahead of the values: what it does to the stack (the top stands first). -/
def evs (A V : List Nat) (k s : Int) (st : List Nat) : List Nat :=
  if k = 0 then nt V s.toNat :: st
  else if k = 2 then (st.getD 0 0 &&& st.getD 1 0) :: st.drop 2
  else if k = 3 then (st.getD 0 0 ||| st.getD 1 0) :: st.drop 2
  else if k = 4 then ar A (st.getD 0 0) (st.getD 1 0) :: st.drop 2
  else 0 :: st
/-- The stack behind a list of nodes, reckoned from the end. -/
def ev (A V : List Nat) : List Nd → List Nat
  | [] => []
  | x :: xs => evs A V x.1 x.2 (ev A V xs)
theorem ev_enc (A V : List Nat) : ∀ (t : Tree) (r : List Nd), anyP isBD (Fm.enc t) = false → ev A V (Fm.enc t ++ r) = fv A V t :: ev A V r := by
  intro t
  have bin : ∀ {k : Int} {a b : Tree} {r : List Nd} {f : Nat → Nat → Nat}, (∀ r : List Nd, anyP isBD (Fm.enc a) = false → ev A V (Fm.enc a ++ r) = fv A V a :: ev A V r) → (∀ r : List Nd, anyP isBD (Fm.enc b) = false → ev A V (Fm.enc b ++ r) = fv A V b :: ev A V r) →
      anyP isBD ((k, 0) :: (Fm.enc a ++ Fm.enc b)) = false → (∀ x y st, evs A V k 0 (x :: y :: st) = f x y :: st) → ev A V ((k, 0) :: (Fm.enc a ++ Fm.enc b) ++ r) = f (fv A V a) (fv A V b) :: ev A V r := by
    intro k a b r f ha hb h hf
    rw [anyP_mem] at h
    show evs A V k 0 (ev A V (Fm.enc a ++ Fm.enc b ++ r)) = _
    rw [List.append_assoc, ha _ (anyP_mem.2 fun x hx => h x (by simp [hx])), hb _ (anyP_mem.2 fun x hx => h x (by simp [hx])), hf]
  induction t with
  | var v => intro r _; show evs A V 0 (v.val : Int) _ = _; unfold evs; rw [if_pos rfl]; rfl
  | fls => intro r _; rfl
  | and a b iha ihb => intro r h; exact bin (f := fun x y => x &&& y) iha ihb h (fun _ _ _ => rfl)
  | or a b iha ihb => intro r h; exact bin (f := fun x y => x ||| y) iha ihb h (fun _ _ _ => rfl)
  | imp a b iha ihb => intro r h; exact bin (f := ar A) iha ihb h (fun _ _ _ => rfl)
  | box a => intro r h; exact absurd (anyP_mem.1 h (5, 0) (by simp [Fm.enc])) (by simp [isBD])
  | dia a => intro r h; exact absurd (anyP_mem.1 h (6, 0) (by simp [Fm.enc])) (by simp [isBD])
/-- Each node finds its parts on the stack. -/
def Fed (A V : List Nat) (xs : List Nd) : Prop := ∀ i, i < xs.length → (kd xs i = 2 ∨ kd xs i = 3 ∨ kd xs i = 4) → 2 ≤ (ev A V (xs.drop (i + 1))).length
theorem Fed.nil_ (A V : List Nat) : Fed A V [] := fun i hi => absurd hi (by simp)
theorem Fed.cons {A V : List Nat} {x : Nd} {xs : List Nd} (h : Fed A V xs) (h1 : (x.1 = 2 ∨ x.1 = 3 ∨ x.1 = 4) → 2 ≤ (ev A V xs).length) : Fed A V (x :: xs) := by
  intro i hi hk
  cases i with
  | zero => exact h1 hk
  | succ i => exact h i (by simpa using hi) hk
theorem fed_enc (A V : List Nat) : ∀ (t : Tree) (r : List Nd), anyP isBD (Fm.enc t) = false → Fed A V r → Fed A V (Fm.enc t ++ r) := by
  intro t
  have bin : ∀ {k : Int} {a b : Tree} {r : List Nd}, (∀ r : List Nd, anyP isBD (Fm.enc a) = false → Fed A V r → Fed A V (Fm.enc a ++ r)) → (∀ r : List Nd, anyP isBD (Fm.enc b) = false → Fed A V r → Fed A V (Fm.enc b ++ r)) →
      anyP isBD ((k, 0) :: (Fm.enc a ++ Fm.enc b)) = false → Fed A V r → Fed A V ((k, 0) :: (Fm.enc a ++ Fm.enc b) ++ r) := by
    intro k a b r ha hb h hr
    rw [anyP_mem] at h
    have h1 : anyP isBD (Fm.enc a) = false := anyP_mem.2 fun x hx => h x (by simp [hx])
    have h2 : anyP isBD (Fm.enc b) = false := anyP_mem.2 fun x hx => h x (by simp [hx])
    rw [List.cons_append, List.append_assoc]
    refine (ha _ h1 (hb _ h2 hr)).cons fun _ => ?_
    rw [ev_enc A V a _ h1, ev_enc A V b _ h2]
    simp
  have zero : ∀ {x : Nd} {r : List Nd}, ¬ (x.1 = 2 ∨ x.1 = 3 ∨ x.1 = 4) → Fed A V r → Fed A V ([x] ++ r) := fun hx hr => hr.cons fun h => absurd h hx
  induction t with
  | var v => intro r _ hr; exact zero (by show ¬ ((0 : Int) = 2 ∨ (0 : Int) = 3 ∨ (0 : Int) = 4); decide) hr
  | fls => intro r _ hr; exact zero (by decide) hr
  | and a b iha ihb => intro r h hr; exact bin iha ihb h hr
  | or a b iha ihb => intro r h hr; exact bin iha ihb h hr
  | imp a b iha ihb => intro r h hr; exact bin iha ihb h hr
  | box a => intro r h; exact absurd (anyP_mem.1 h (5, 0) (by simp [Fm.enc])) (by simp [isBD])
  | dia a => intro r h; exact absurd (anyP_mem.1 h (6, 0) (by simp [Fm.enc])) (by simp [isBD])
theorem fed_of {A V : List Nat} {t : Tree} (h : anyP isBD (Fm.enc t) = false) : Fed A V (Fm.enc t) := by
  have := fed_enc A V t [] h (Fed.nil_ A V)
  rwa [List.append_nil] at this
theorem ev_of {A V : List Nat} {t : Tree} (h : anyP isBD (Fm.enc t) = false) : ev A V (Fm.enc t) = [fv A V t] := by
  have := ev_enc A V t [] h
  rwa [List.append_nil] at this
theorem ev_drop {A V : List Nat} {xs : List Nd} {i : Nat} (h : i < xs.length) : ev A V (xs.drop i) = evs A V (kd xs i) (sy xs i) (ev A V (xs.drop (i + 1))) := by
  rw [List.drop_eq_getElem_cons h]
  show evs A V (xs[i]).1 (xs[i]).2 _ = _
  simp [kd, sy, List.getD, h]
/-- All values on the stack are sets of elements. -/
theorem ev_sm {A V : List Nat} (hV : ∀ m ∈ V, m < 2 ^ A.length) : ∀ xs : List Nd, ∀ m ∈ ev A V xs, m < 2 ^ A.length
  | [] => fun m h => absurd h (by simp [ev])
  | x :: xs => by
    have ih := ev_sm hV xs
    have hp : 0 < 2 ^ A.length := Nat.pow_pos (by omega)
    have hg : ∀ i, (ev A V xs).getD i 0 < 2 ^ A.length := by
      intro i
      by_cases h : i < (ev A V xs).length
      · simp only [List.getD_eq_getElem?_getD, List.getElem?_eq_getElem h, Option.getD_some]; exact ih _ (List.getElem_mem h)
      · rw [List.getD_eq_getElem?_getD, List.getElem?_eq_none (by omega)]; exact hp
    intro m hm
    have hm : m ∈ evs A V x.1 x.2 (ev A V xs) := hm
    unfold evs at hm
    repeat' split at hm
    all_goals rcases List.mem_cons.1 hm with rfl | hm
    · unfold nt
      by_cases h : x.2.toNat < V.length
      · simp only [List.getD_eq_getElem?_getD, List.getElem?_eq_getElem h, Option.getD_some]; exact hV _ (List.getElem_mem h)
      · rw [List.getD_eq_getElem?_getD, List.getElem?_eq_none (by omega)]; exact hp
    · exact ih _ hm
    · exact Nat.and_lt_two_pow _ (hg 1)
    · exact ih _ (List.mem_of_mem_drop hm)
    · exact Nat.or_lt_two_pow (hg 0) (hg 1)
    · exact ih _ (List.mem_of_mem_drop hm)
    · exact bx_lt _ _
    · exact ih _ (List.mem_of_mem_drop hm)
    · exact hp
    · exact ih _ hm
theorem enc_nd : ∀ (t : Tree), ∀ x ∈ Fm.enc t, (x.1 = 0 ∧ ∃ v : Nat, x.2 = (v : Int) ∧ v < 6) ∨ x.1 = 1 ∨ x.1 = 2 ∨ x.1 = 3 ∨ x.1 = 4 ∨ x.1 = 5 ∨ x.1 = 6 := by
  intro t
  induction t with
  | var v => intro x hx; simp [Fm.enc] at hx; subst hx; exact .inl ⟨rfl, v.val, rfl, v.isLt⟩
  | fls => intro x hx; simp [Fm.enc] at hx; subst hx; exact .inr (.inl rfl)
  | and a b iha ihb =>
    intro x hx; simp [Fm.enc] at hx; rcases hx with rfl | hx | hx
    · exact .inr (.inr (.inl rfl))
    · exact iha x hx
    · exact ihb x hx
  | or a b iha ihb =>
    intro x hx; simp [Fm.enc] at hx; rcases hx with rfl | hx | hx
    · exact .inr (.inr (.inr (.inl rfl)))
    · exact iha x hx
    · exact ihb x hx
  | imp a b iha ihb =>
    intro x hx; simp [Fm.enc] at hx; rcases hx with rfl | hx | hx
    · exact .inr (.inr (.inr (.inr (.inl rfl))))
    · exact iha x hx
    · exact ihb x hx
  | box a iha =>
    intro x hx; simp [Fm.enc] at hx; rcases hx with rfl | hx
    · exact .inr (.inr (.inr (.inr (.inr (.inl rfl)))))
    · exact iha x hx
  | dia a iha =>
    intro x hx; simp [Fm.enc] at hx; rcases hx with rfl | hx
    · exact .inr (.inr (.inr (.inr (.inr (.inr rfl)))))
    · exact iha x hx
theorem enc_kinds {t : Tree} (h : anyP isBD (Fm.enc t) = false) {i : Nat} (hi : i < (Fm.enc t).length) :
    (kd (Fm.enc t) i = 0 ∧ ∃ v : Nat, sy (Fm.enc t) i = (v : Int) ∧ v < 6) ∨ kd (Fm.enc t) i = 1 ∨ kd (Fm.enc t) i = 2 ∨ kd (Fm.enc t) i = 3 ∨ kd (Fm.enc t) i = 4 := by
  have h1 : kd (Fm.enc t) i = ((Fm.enc t)[i]).1 := by simp [kd, List.getD, hi]
  have h2 : sy (Fm.enc t) i = ((Fm.enc t)[i]).2 := by simp [sy, List.getD, hi]
  rw [h1, h2]
  have hb := anyP_mem.1 h _ (List.getElem_mem hi)
  rcases enc_nd t _ (List.getElem_mem hi) with h3 | h3 | h3 | h3 | h3 | h3 | h3
  · exact .inl h3
  · exact .inr (.inl h3)
  · exact .inr (.inr (.inl h3))
  · exact .inr (.inr (.inr (.inl h3)))
  · exact .inr (.inr (.inr (.inr h3)))
  · rw [h3] at hb; simp [isBD] at hb
  · rw [h3] at hb; simp [isBD] at hb
end Go.Proofs.YtphljdhacbpkbaaGreat

/- Boxes: box of the program, l01Box of the reference. -/
namespace Go.Proofs.YtphljdhacbpkbaaGreat
open Go.RowKit

theorem box_q (v : Value) (A : List Nat) (m : Nat) (w : World) (h : Ints w v (zs A)) (hA : Sm A) (hn30 : A.length ≤ 30) (hm : m < 9223372036854775808) :
    Calls Tryz.prog 62 #[v, .int .i64 (m : Int)] w fun e w' => e = .returned (.int .i64 ((bx A m : Nat) : Int)) ∧ w' = w := by
  have HW := Lib.hid (fun a (ha : a < 1073741824) W => within_q a m (by omega) hm W)
  have HR := Lib.hid (show bxK A m A.length = bx A m from rfl)
  have HY := Lib.hid (fun k => @bxK_yes A m k)
  have HN := Lib.hid (fun k => @bxK_no A m k)
  have HS := Lib.hid (fun k (hk : k ≤ 30) => bxK_sm (A := A) (m := m) hk)
  have HT := Lib.hid (fun i (hi : i < A.length) => hA.at_ hi)
  have HO := Lib.hid (fun a b (ha : a < 1073741824) (hb : b < 1073741824) => or_i64 a b (by omega) (by omega))
  have HP := Lib.hid (fun k (hk : k ≤ 30) => wrap_pow hk)
  have HP2 := Lib.hid (fun k (hk : k < 30) => pow30 hk)
  obtain ⟨A', c, rfl⟩ := ints_sliceN h
  have HC := Lib.hid (fun h0 => cellsN h h0)
  clear hm h hA
  generalize bx A m = R at *
  generalize hNA : A.length = n at *
  clear hNA
  go_enter Tryz.func62, Tryz.ntmps62
  go_wp2_with fail
  go_loopw [5, 6, 7, 10] (fun q _ _ i wr => ∃ j : Nat, j ≤ n ∧ i = .int .i64 j ∧ q = .int .i64 ((bxK A m j : Nat) : Int) ∧ wr = w) (fun _ _ _ i _ => n - (intOf i).toNat)
  case atStart => exact ⟨0, by omega, rfl, rfl, rfl⟩
  case round =>
    obtain ⟨j, hj, rfl, rfl, rfl⟩ := hrel
    by_cases hlt : j < n
    · obtain ⟨b2, o2, rfl, hcell2⟩ := HC.out (by omega)
      have hH := Lib.hid (HW.out _ (HT.out j hlt))
      have ho := HO.out _ _ (HS.out j (by omega)) (HP2.out j (by omega))
      have hp := HP.out j (by omega)
      have hY := Lib.hid (HY.out j)
      have hN := Lib.hid (HN.out j)
      have k1 := hcell2 j hlt _ (Grew.refl _)
      clear hcell2
      generalize nt A j = y at *
      generalize decide (dif y m = 0) = t at *
      generalize hsj : bxK A m j = sj at *
      clear hsj
      generalize hpj : (2 ^ j : Nat) = pj at *
      clear hpj
      go_wp2_with fail
      refine (hH.out _).mono ?_
      rintro e w2 ⟨rfl, rfl⟩
      cases t with
      | true =>
        have hy := Lib.hid (hY.out rfl)
        go_wp2_with fail
        go_roundw
        case rel => exact ⟨j + 1, by omega, by go_num, by rw [hy.out], by trivial⟩
        case measure => simp [intOf]; omega
      | false =>
        have hn := Lib.hid (hN.out rfl)
        go_wp2_with fail
        go_roundw
        case rel => exact ⟨j + 1, by omega, by go_num, by rw [hn.out], by trivial⟩
        case measure => simp [intOf]; omega
    · obtain rfl : j = n := by omega
      have hr := Lib.hid HR.out
      go_wp2_with fail
      go_ret
      exact ⟨by rw [hr.out]; rfl, rfl⟩
theorem l01Box_q (v : Value) (A : List Nat) (m : Nat) (w : World) (h : Ints w v (zs A)) (hA : Sm A) (hn30 : A.length ≤ 30) (hm : m < 9223372036854775808) :
    Calls Tryz.prog 90 #[v, .int .i64 (m : Int)] w fun e w' => e = .returned (.int .i64 ((bx A m : Nat) : Int)) ∧ ∃ d, w' = w.drewN d := by
  have HR := Lib.hid (show bxK A m A.length = bx A m from rfl)
  have HY := Lib.hid (fun k => @bxK_yes A m k)
  have HN := Lib.hid (fun k => @bxK_no A m k)
  have HS := Lib.hid (fun k (hk : k ≤ 30) => bxK_sm (A := A) (m := m) hk)
  have HT := Lib.hid (fun i (hi : i < A.length) => hA.at_ hi)
  have HO := Lib.hid (fun a b (ha : a < 1073741824) (hb : b < 1073741824) => or_i64 a b (by omega) (by omega))
  have HA := Lib.hid (fun a (ha : a < 1073741824) => and_i64 a m (by omega) hm)
  have HE := Lib.hid (fun a : Nat => show (((a &&& m : Nat) : Int) == (a : Int)) = decide (dif a m = 0) from by
    rw [Bool.eq_iff_iff, decide_eq_true_eq, ← and_dif, beq_iff_eq]
    omega)
  have HOne := Lib.hid (fun i (hi : i ≤ 30) W => l01One_q i hi W)
  have HP2 := Lib.hid (fun k (hk : k < 30) => pow30 hk)
  obtain ⟨A', c, rfl⟩ := ints_sliceN h
  have HC := Lib.hid (fun h0 => cellsN h h0)
  clear hm h hA
  generalize bx A m = R at *
  generalize hNA : A.length = n at *
  clear hNA
  go_enter Tryz.func90, Tryz.ntmps90
  go_wp2_with fail
  go_loopw [5, 6] (fun q i wr => ∃ j d : Nat, j ≤ n ∧ i = .int .i64 j ∧ q = .int .i64 ((bxK A m j : Nat) : Int) ∧ wr = w.drewN d) (fun _ i _ => n - (intOf i).toNat)
  case atStart => exact ⟨0, 0, by omega, rfl, rfl, rfl⟩
  case round =>
    obtain ⟨j, d, hj, rfl, rfl, rfl⟩ := hrel
    by_cases hlt : j < n
    · obtain ⟨b2, o2, rfl, hcell2⟩ := HC.out (by omega)
      have hH := Lib.hid (HOne.out j (by omega))
      have ho := HO.out _ _ (HS.out j (by omega)) (HP2.out j (by omega))
      have ha := HA.out _ (HT.out j hlt)
      have he := HE.out (nt A j)
      have hY := Lib.hid (HY.out j)
      have hN := Lib.hid (HN.out j)
      have k1 := hcell2 j hlt _ (Grew.refl _)
      have hgd : Grew w (w.drewN d) := (Grew.refl w).drewN d
      clear hcell2
      generalize nt A j = y at *
      generalize y &&& m = ym at *
      generalize decide (dif y m = 0) = t at *
      generalize hsj : bxK A m j = sj at *
      clear hsj
      generalize hpj : (2 ^ j : Nat) = pj at *
      clear hpj
      go_wp2_with fail
      go_region
      cases t with
      | true =>
        have hy := Lib.hid (hY.out rfl)
        go_wp2_with fail
        refine (hH.out _).mono ?_
        rintro e w2 ⟨rfl, rfl⟩
        go_wp2_with fail
        go_roundw
        case rel => exact ⟨j + 1, _, by omega, by go_num, by rw [hy.out], by trivial⟩
        case measure => simp [intOf]; omega
      | false =>
        have hn := Lib.hid (hN.out rfl)
        go_wp2_with fail
        go_roundw
        case rel => exact ⟨j + 1, _, by omega, by go_num, by rw [hn.out], by trivial⟩
        case measure => simp [intOf]; omega
    · obtain rfl : j = n := by omega
      have hr := Lib.hid HR.out
      go_wp2_with fail
      go_ret
      exact ⟨by rw [hr.out]; rfl, d, rfl⟩
end Go.Proofs.YtphljdhacbpkbaaGreat

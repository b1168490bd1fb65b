/- PutTerm of both. -/
import Derived.Test.YthofkdpmgjkgkaaGreatTmPut
import Derived.Test.YthofkdpmgjkgkaaGreatTmPutS
import Derived.Test.YthofkdpmgjkgkaaGreatTmLim
namespace Go.Proofs.YthofkdpmgjkgkaaGreat
open Go.RowKit
open Tr (Tm)

/-- What PutTerm gives. -/
noncomputable def putF (xs : List Tn) (n : Int) (us : List Tn) : List Tn × Int := if tmB xs then (if tmB us then (if 0 ≤ n ∧ n ≤ 11 then (if Tr.evN ltP (tmT xs) (n + 1) then (if Tr.evN ltP (tmT us) n then limT (Tr.mapN (putN n us) (tmT xs) (n + 1)) else ([], 5)) else ([], 5)) else ([], 2)) else ([], 1)) else ([], 1)
theorem putF_len (xs : List Tn) (n : Int) (us : List Tn) : (putF xs n us).1.length ≤ 1048576 := by
  unfold putF
  split
  · split
    · split
      · split
        · split
          · have := limT_len (xs := Tr.mapN (putN n us) (tmT xs) (n + 1)); omega
          · simp
        · simp
      · simp
    · simp
  · simp

theorem implPut_c (va : Value) (xs : List Tn) (n : Int) (vu : Value) (us : List Tn) (w : World) (h1 : Tms w va xs) (h2 : Tms w vu us) (hf1 : FitsT xs) (hn1 : xs.length ≤ 1048576) (hf2 : FitsT us) (hn2 : us.length ≤ 1048576) :
    Calls Tryz.prog 14 #[va, .int .i64 n, vu] w (GivesT2 w (putF xs n us)) := by
  unfold GivesT2 putF
  have HI1 := fun W (hW : Grew w W) => isTerm_c va xs W (h1.grew hW) hf1 hn1
  have HI2 := fun W (hW : Grew w W) => isTerm_c vu us W (h2.grew hW) hf2 hn2
  have HR := fun w => inRange_c n 0 11 w
  cases hb1 : tmB xs with
  | false =>
    rw [hb1] at HI1
    rw [if_neg (by simp)]
    replace HI1 := Lib.hid HI1
    clear h1 h2 hf1 hf2 hb1 HI2 HR
    go_enter Tryz.func14, Tryz.ntmps14
    go_wp2_with fail
    refine (HI1.out _ (Grew.refl _)).mono ?_
    rintro e w1 ⟨rfl, hg1⟩
    have k1 : Grew w w1 := hg1
    go_wp2_with fail
    go_ret2
    exact ⟨.slice none 0 0, rfl, OwnT.nil_ _ _, k1⟩
  | true =>
    rw [hb1] at HI1
    rw [if_pos rfl]
    replace HI1 := Lib.hid HI1
    cases hb2 : tmB us with
    | false =>
      rw [hb2] at HI2
      rw [if_neg (by simp)]
      replace HI2 := Lib.hid HI2
      clear h1 h2 hf1 hf2 hb1 hb2 HR
      go_enter Tryz.func14, Tryz.ntmps14
      go_wp2_with fail
      refine (HI1.out _ (Grew.refl _)).mono ?_
      rintro e w1 ⟨rfl, hg1⟩
      have k1 : Grew w w1 := hg1
      go_wp2_with fail
      refine (HI2.out _ k1).mono ?_
      rintro e w2 ⟨rfl, hg2⟩
      have k2 : Grew w w2 := k1.trans hg2
      go_wp2_with fail
      go_ret2
      exact ⟨.slice none 0 0, rfl, OwnT.nil_ _ _, k2⟩
    | true =>
      rw [hb2] at HI2
      rw [if_pos rfl]
      replace HI2 := Lib.hid HI2
      by_cases hr : 0 ≤ n ∧ n ≤ 11
      · rw [decide_eq_true hr] at HR
        replace HR := Lib.hid HR
        rw [if_pos hr]
        obtain ⟨a1, a2, a3⟩ := tmT_ok hb1
        obtain ⟨b1, b2, b3⟩ := tmT_ok hb2
        have HF1 := fun W (hW : Grew w W) => fitsContext_c va (tmT xs) (n + 1) W (by rw [a2]; exact h1.grew hW) a1 (by rw [a2]; omega) (by omega) (by rw [a2]; omega)
        have HF2 := fun W (hW : Grew w W) => fitsContext_c vu (tmT us) (n) W (by rw [b2]; exact h2.grew hW) b1 (by rw [b2]; omega) (by omega) (by rw [b2]; omega)
        have HP0 := fun W (hW : Grew w W) => putTerm_c va vu (tmT xs) us n W (by rw [a2]; exact h1.grew hW) a1 (by rw [a2]; omega) (h2.grew hW) (by omega) (tm_numOk hb2) hr.1 (by omega)
        have HP := Lib.hid HP0
        have hml := Tr.mapN_len (f := putN n us) (M := us.length + 1) (by omega) (fun x m => putN_len n us x m) (tmT xs) (n + 1)
        have hml2 : (Tr.enc (tmT xs)).length * (us.length + 1) ≤ 60 * 61 := Nat.mul_le_mul (by rw [a2]; omega) (by omega)
        have hfm := put_fits (n := n) (t := tmT xs) (m := n + 1) hf2 (by rw [a2]; exact hf1)
        have HL := Lib.hid (fun u W B (ho : OwnT W B u (Tr.mapN (putN n us) (tmT xs) (n + 1))) => by
          have hl := limitedTerm_c u (Tr.mapN (putN n us) (tmT xs) (n + 1)) W B ho hfm (by omega)
          unfold LimG at hl
          exact hl)
        obtain ⟨hr0, hr1⟩ := hr
        clear HP0 hb1 hb2 a1 a2 a3 b1 b2 b3 h1 h2 hf1 hf2 hfm hml hml2
        cases he1 : Tr.evN ltP (tmT xs) (n + 1) with
        | false =>
          rw [he1] at HF1
          rw [if_neg (by simp)]
          replace HF1 := Lib.hid HF1
          replace HF2 := Lib.hid HF2
          clear he1 HP HL HF2
          go_enter Tryz.func14, Tryz.ntmps14
          go_wp2_with fail
          refine (HI1.out _ (Grew.refl _)).mono ?_
          rintro e w1 ⟨rfl, hg1⟩
          have k1 : Grew w w1 := hg1
          go_wp2_with fail
          refine (HI2.out _ k1).mono ?_
          rintro e w2 ⟨rfl, hg2⟩
          have k2 : Grew w w2 := k1.trans hg2
          go_wp2_with fail
          refine (HR.out _).mono ?_
          rintro e w3 ⟨rfl, hg3⟩
          have k3 : Grew w w3 := k2.trans hg3
          go_wp2_with fail
          refine (HF1.out _ k3).mono ?_
          rintro e w4 ⟨rfl, hg4⟩
          have k4 : Grew w w4 := k3.trans hg4
          go_wp2_with fail
          go_ret2
          exact ⟨.slice none 0 0, rfl, OwnT.nil_ _ _, k4⟩
        | true =>
          rw [he1] at HF1
          rw [if_pos rfl]
          replace HF1 := Lib.hid HF1
          cases he2 : Tr.evN ltP (tmT us) n with
          | false =>
            rw [he2] at HF2
            rw [if_neg (by simp)]
            replace HF2 := Lib.hid HF2
            clear he1 he2 HP HL
            go_enter Tryz.func14, Tryz.ntmps14
            go_wp2_with fail
            refine (HI1.out _ (Grew.refl _)).mono ?_
            rintro e w1 ⟨rfl, hg1⟩
            have k1 : Grew w w1 := hg1
            go_wp2_with fail
            refine (HI2.out _ k1).mono ?_
            rintro e w2 ⟨rfl, hg2⟩
            have k2 : Grew w w2 := k1.trans hg2
            go_wp2_with fail
            refine (HR.out _).mono ?_
            rintro e w3 ⟨rfl, hg3⟩
            have k3 : Grew w w3 := k2.trans hg3
            go_wp2_with fail
            refine (HF1.out _ k3).mono ?_
            rintro e w4 ⟨rfl, hg4⟩
            have k4 : Grew w w4 := k3.trans hg4
            go_wp2_with fail
            refine (HF2.out _ k4).mono ?_
            rintro e w5 ⟨rfl, hg5⟩
            have k5 : Grew w w5 := k4.trans hg5
            go_wp2_with fail
            go_ret2
            exact ⟨.slice none 0 0, rfl, OwnT.nil_ _ _, k5⟩
          | true =>
            rw [he2] at HF2
            rw [if_pos rfl]
            replace HF2 := Lib.hid HF2
            clear he1 he2
            generalize limT (Tr.mapN (putN n us) (tmT xs) (n + 1)) = rr at *
            generalize Tr.mapN (putN n us) (tmT xs) (n + 1) = X at *
            go_enter Tryz.func14, Tryz.ntmps14
            go_wp2_with fail
            refine (HI1.out _ (Grew.refl _)).mono ?_
            rintro e w1 ⟨rfl, hg1⟩
            have k1 : Grew w w1 := hg1
            go_wp2_with fail
            refine (HI2.out _ k1).mono ?_
            rintro e w2 ⟨rfl, hg2⟩
            have k2 : Grew w w2 := k1.trans hg2
            go_wp2_with fail
            refine (HR.out _).mono ?_
            rintro e w3 ⟨rfl, hg3⟩
            have k3 : Grew w w3 := k2.trans hg3
            go_wp2_with fail
            refine (HF1.out _ k3).mono ?_
            rintro e w4 ⟨rfl, hg4⟩
            have k4 : Grew w w4 := k3.trans hg4
            go_wp2_with fail
            refine (HF2.out _ k4).mono ?_
            rintro e w5 ⟨rfl, hg5⟩
            have k5 : Grew w w5 := k4.trans hg5
            go_wp2_with fail
            refine (HP.out _ k5).mono ?_
            rintro e w6 ⟨u6, rfl, ho, hg6⟩
            have k6 : Grew w w6 := k5.trans hg6
            go_wp2_with fail
            refine (HL.out _ _ _ ho).mono ?_
            rintro e w7 ⟨u7, rfl, hoq, hg7⟩
            have k7 : Grew w w7 := k6.trans hg7
            go_wp2_with fail
            go_ret2
            exact ⟨_, rfl, hoq.base k5.size, k7⟩
      · rw [decide_eq_false hr] at HR
        replace HR := Lib.hid HR
        rw [if_neg hr]
        clear h1 h2 hf1 hf2 hb1 hb2 hr
        go_enter Tryz.func14, Tryz.ntmps14
        go_wp2_with fail
        refine (HI1.out _ (Grew.refl _)).mono ?_
        rintro e w1 ⟨rfl, hg1⟩
        have k1 : Grew w w1 := hg1
        go_wp2_with fail
        refine (HI2.out _ k1).mono ?_
        rintro e w2 ⟨rfl, hg2⟩
        have k2 : Grew w w2 := k1.trans hg2
        go_wp2_with fail
        refine (HR.out _).mono ?_
        rintro e w3 ⟨rfl, hg3⟩
        have k3 : Grew w w3 := k2.trans hg3
        go_wp2_with fail
        go_ret2
        exact ⟨.slice none 0 0, rfl, OwnT.nil_ _ _, k3⟩

theorem specPut_c (va : Value) (xs : List Tn) (n : Int) (vu : Value) (us : List Tn) (w : World) (h1 : Tms w va xs) (h2 : Tms w vu us) (hf1 : FitsT xs) (hn1 : xs.length ≤ 1048576) (hf2 : FitsT us) (hn2 : us.length ≤ 1048576) :
    Calls Tryz.prog 12 #[va, .int .i64 n, vu] w (GivesT2 w (putF xs n us)) := by
  unfold GivesT2 putF
  have HI1 := fun W (hW : Grew w W) => l26Is_c va xs W (h1.grew hW) hf1 hn1
  have HI2 := fun W (hW : Grew w W) => l26Is_c vu us W (h2.grew hW) hf2 hn2
  have HR := fun w => l01In_c n 0 11 w
  cases hb1 : tmB xs with
  | false =>
    rw [hb1] at HI1
    rw [if_neg (by simp)]
    replace HI1 := Lib.hid HI1
    clear h1 h2 hf1 hf2 hb1 HI2 HR
    go_enter Tryz.func12, Tryz.ntmps12
    go_wp2_with fail
    refine (HI1.out _ (Grew.refl _)).mono ?_
    rintro e w1 ⟨rfl, hg1⟩
    have k1 : Grew w w1 := hg1
    go_wp2_with fail
    go_ret2
    exact ⟨.slice none 0 0, rfl, OwnT.nil_ _ _, k1⟩
  | true =>
    rw [hb1] at HI1
    rw [if_pos rfl]
    replace HI1 := Lib.hid HI1
    cases hb2 : tmB us with
    | false =>
      rw [hb2] at HI2
      rw [if_neg (by simp)]
      replace HI2 := Lib.hid HI2
      clear h1 h2 hf1 hf2 hb1 hb2 HR
      go_enter Tryz.func12, Tryz.ntmps12
      go_wp2_with fail
      refine (HI1.out _ (Grew.refl _)).mono ?_
      rintro e w1 ⟨rfl, hg1⟩
      have k1 : Grew w w1 := hg1
      go_wp2_with fail
      refine (HI2.out _ k1).mono ?_
      rintro e w2 ⟨rfl, hg2⟩
      have k2 : Grew w w2 := k1.trans hg2
      go_wp2_with fail
      go_ret2
      exact ⟨.slice none 0 0, rfl, OwnT.nil_ _ _, k2⟩
    | true =>
      rw [hb2] at HI2
      rw [if_pos rfl]
      replace HI2 := Lib.hid HI2
      by_cases hr : 0 ≤ n ∧ n ≤ 11
      · rw [decide_eq_true hr] at HR
        replace HR := Lib.hid HR
        rw [if_pos hr]
        obtain ⟨a1, a2, a3⟩ := tmT_ok hb1
        obtain ⟨b1, b2, b3⟩ := tmT_ok hb2
        have HF1 := fun W (hW : Grew w W) => l26Fits_c (tmT xs) a1 va (n + 1) W (by rw [a2]; exact h1.grew hW) (by rw [a2]; omega) (by omega) (by rw [a2]; omega)
        have HF2 := fun W (hW : Grew w W) => l26Fits_c (tmT us) b1 vu (n) W (by rw [b2]; exact h2.grew hW) (by rw [b2]; omega) (by omega) (by rw [b2]; omega)
        have HP0 := fun W (hW : Grew w W) => l26Put_c n us (by omega) (tm_numOk hb2) hr.1 (by omega) (tmT xs) a1 va vu 0 W (by rw [a2]; exact h1.grew hW) (by rw [a2]; omega) (h2.grew hW) (by omega) (by rw [a2]; omega)
        simp only [Int.add_zero] at HP0
        have HP := Lib.hid HP0
        have hml := Tr.mapN_len (f := putN n us) (M := us.length + 1) (by omega) (fun x m => putN_len n us x m) (tmT xs) (n + 1)
        have hml2 : (Tr.enc (tmT xs)).length * (us.length + 1) ≤ 60 * 61 := Nat.mul_le_mul (by rw [a2]; omega) (by omega)
        have hfm := put_fits (n := n) (t := tmT xs) (m := n + 1) hf2 (by rw [a2]; exact hf1)
        have HL := Lib.hid (fun u W B (ho : OwnT W B u (Tr.mapN (putN n us) (tmT xs) (n + 1))) => by
          have hl := l26Made_c u (Tr.mapN (putN n us) (tmT xs) (n + 1)) W B ho (by omega)
          unfold LimG at hl
          exact hl)
        obtain ⟨hr0, hr1⟩ := hr
        clear HP0 hb1 hb2 a1 a2 a3 b1 b2 b3 h1 h2 hf1 hf2 hfm hml hml2
        cases he1 : Tr.evN ltP (tmT xs) (n + 1) with
        | false =>
          rw [he1] at HF1
          rw [if_neg (by simp)]
          replace HF1 := Lib.hid HF1
          replace HF2 := Lib.hid HF2
          clear he1 HP HL HF2
          go_enter Tryz.func12, Tryz.ntmps12
          go_wp2_with fail
          refine (HI1.out _ (Grew.refl _)).mono ?_
          rintro e w1 ⟨rfl, hg1⟩
          have k1 : Grew w w1 := hg1
          go_wp2_with fail
          refine (HI2.out _ k1).mono ?_
          rintro e w2 ⟨rfl, hg2⟩
          have k2 : Grew w w2 := k1.trans hg2
          go_wp2_with fail
          refine (HR.out _).mono ?_
          rintro e w3 ⟨rfl, hg3⟩
          have k3 : Grew w w3 := k2.trans hg3
          go_wp2_with fail
          refine (HF1.out _ k3).mono ?_
          rintro e w4 ⟨rfl, hg4⟩
          have k4 : Grew w w4 := k3.trans hg4
          go_wp2_with fail
          go_ret2
          exact ⟨.slice none 0 0, rfl, OwnT.nil_ _ _, k4⟩
        | true =>
          rw [he1] at HF1
          rw [if_pos rfl]
          replace HF1 := Lib.hid HF1
          cases he2 : Tr.evN ltP (tmT us) n with
          | false =>
            rw [he2] at HF2
            rw [if_neg (by simp)]
            replace HF2 := Lib.hid HF2
            clear he1 he2 HP HL
            go_enter Tryz.func12, Tryz.ntmps12
            go_wp2_with fail
            refine (HI1.out _ (Grew.refl _)).mono ?_
            rintro e w1 ⟨rfl, hg1⟩
            have k1 : Grew w w1 := hg1
            go_wp2_with fail
            refine (HI2.out _ k1).mono ?_
            rintro e w2 ⟨rfl, hg2⟩
            have k2 : Grew w w2 := k1.trans hg2
            go_wp2_with fail
            refine (HR.out _).mono ?_
            rintro e w3 ⟨rfl, hg3⟩
            have k3 : Grew w w3 := k2.trans hg3
            go_wp2_with fail
            refine (HF1.out _ k3).mono ?_
            rintro e w4 ⟨rfl, hg4⟩
            have k4 : Grew w w4 := k3.trans hg4
            go_wp2_with fail
            refine (HF2.out _ k4).mono ?_
            rintro e w5 ⟨rfl, hg5⟩
            have k5 : Grew w w5 := k4.trans hg5
            go_wp2_with fail
            go_ret2
            exact ⟨.slice none 0 0, rfl, OwnT.nil_ _ _, k5⟩
          | true =>
            rw [he2] at HF2
            rw [if_pos rfl]
            replace HF2 := Lib.hid HF2
            clear he1 he2
            generalize limT (Tr.mapN (putN n us) (tmT xs) (n + 1)) = rr at *
            generalize Tr.mapN (putN n us) (tmT xs) (n + 1) = X at *
            go_enter Tryz.func12, Tryz.ntmps12
            go_wp2_with fail
            refine (HI1.out _ (Grew.refl _)).mono ?_
            rintro e w1 ⟨rfl, hg1⟩
            have k1 : Grew w w1 := hg1
            go_wp2_with fail
            refine (HI2.out _ k1).mono ?_
            rintro e w2 ⟨rfl, hg2⟩
            have k2 : Grew w w2 := k1.trans hg2
            go_wp2_with fail
            refine (HR.out _).mono ?_
            rintro e w3 ⟨rfl, hg3⟩
            have k3 : Grew w w3 := k2.trans hg3
            go_wp2_with fail
            refine (HF1.out _ k3).mono ?_
            rintro e w4 ⟨rfl, hg4⟩
            have k4 : Grew w w4 := k3.trans hg4
            go_wp2_with fail
            refine (HF2.out _ k4).mono ?_
            rintro e w5 ⟨rfl, hg5⟩
            have k5 : Grew w w5 := k4.trans hg5
            go_wp2_with fail
            refine (HP.out _ k5).mono ?_
            rintro e w6 ⟨u6, rfl, ho, hg6⟩
            have k6 : Grew w w6 := k5.trans hg6
            go_wp2_with fail
            refine (HL.out _ _ _ ho).mono ?_
            rintro e w7 ⟨u7, rfl, hoq, hg7⟩
            have k7 : Grew w w7 := k6.trans hg7
            go_wp2_with fail
            go_ret2
            exact ⟨_, rfl, hoq.base k5.size, k7⟩
      · rw [decide_eq_false hr] at HR
        replace HR := Lib.hid HR
        rw [if_neg hr]
        clear h1 h2 hf1 hf2 hb1 hb2 hr
        go_enter Tryz.func12, Tryz.ntmps12
        go_wp2_with fail
        refine (HI1.out _ (Grew.refl _)).mono ?_
        rintro e w1 ⟨rfl, hg1⟩
        have k1 : Grew w w1 := hg1
        go_wp2_with fail
        refine (HI2.out _ k1).mono ?_
        rintro e w2 ⟨rfl, hg2⟩
        have k2 : Grew w w2 := k1.trans hg2
        go_wp2_with fail
        refine (HR.out _).mono ?_
        rintro e w3 ⟨rfl, hg3⟩
        have k3 : Grew w w3 := k2.trans hg3
        go_wp2_with fail
        go_ret2
        exact ⟨.slice none 0 0, rfl, OwnT.nil_ _ _, k3⟩
end Go.Proofs.YthofkdpmgjkgkaaGreat

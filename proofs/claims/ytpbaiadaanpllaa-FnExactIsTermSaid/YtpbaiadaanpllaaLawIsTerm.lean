/- IsTerm of both, and the law FnExactIsTerm, walked. -/
import Derived.Test.YtpbaiadaanpllaaTmIs2
namespace Go.Proofs.Ytpbaiadaanpllaa
open Go.RowKit

theorem specIsTerm_c (v : Value) (xs : List Tn) (w : World) (h : Tms w v xs) (hfit : FitsT xs) (hn : xs.length ≤ 1048576) :
    Calls Try.prog 44 #[v] w fun e w' => e = .returned (.bool (tmB xs)) ∧ Grew w w' := by
  have HI := Lib.hid (l26Is_c v xs w h hfit hn)
  clear h hfit
  generalize tmB xs = R at *
  go_enter Try.func44, Try.ntmps44
  go_wp2_with fail
  refine HI.out.mono ?_
  rintro e w1 ⟨rfl, hg1⟩
  go_wp2_with fail
  go_ret
  exact ⟨rfl, hg1⟩
theorem implIsTerm_c (v : Value) (xs : List Tn) (w : World) (h : Tms w v xs) (hfit : FitsT xs) (hn : xs.length ≤ 1048576) :
    Calls Try.prog 46 #[v] w fun e w' => e = .returned (.bool (tmB xs)) ∧ Grew w w' := by
  have HI := Lib.hid (isTerm_c v xs w h hfit hn)
  clear h hfit
  generalize tmB xs = R at *
  go_enter Try.func46, Try.ntmps46
  go_wp2_with fail
  refine HI.out.mono ?_
  rintro e w1 ⟨rfl, hg1⟩
  go_wp2_with fail
  go_ret
  exact ⟨rfl, hg1⟩

theorem lawIsTerm_c (v : Value) (xs : List Tn) (w : World) (h : ArgT w v xs) :
    Calls Try.prog 8 #[v] w fun e w' => e = .returned (.bool true) ∧ Grew w w' := by
  have K0 := Lib.hid (szTermNodeS_c v xs 1048576 w h (by omega) (by omega))
  have K1 := Lib.hid (fun W (hW : Grew w W) => toTermNodeS_c v xs W (h.grew hW))
  clear h
  go_enter Try.func8, Try.ntmps8
  go_wp2_with fail
  refine K0.out.mono ?_
  rintro e w1 ⟨r, rfl, ⟨_, hs⟩, hg1⟩
  by_cases hr : r < 0
  · clear hs
    go_wp2_with fail
    go_ret
    exact ⟨rfl, hg1⟩
  obtain ⟨hn, hf⟩ := hs (by omega)
  have F : FitsT xs := hf
  clear hs hf
  have KS := Lib.hid (fun v W h => specIsTerm_c v xs W h F hn)
  have KI := Lib.hid (fun v W h => implIsTerm_c v xs W h F hn)
  clear F
  generalize tmB xs = R at *
  have hRR : (R != R) = false := by simp
  go_wp2_with fail
  refine (K1.out _ hg1 hn).mono ?_
  rintro e w2 ⟨a1, rfl, ho1, hg2⟩
  go_wp2_with fail
  refine (KS.out _ _ ho1.tms).mono ?_
  rintro e w3 ⟨rfl, hg3⟩
  have hg13 := (hg1.trans hg2).trans hg3
  clear ho1 hg1 hg2 hg3
  go_wp2_with fail
  refine (K1.out _ hg13 hn).mono ?_
  rintro e w4 ⟨a3, rfl, ho3, hg4⟩
  go_wp2_with fail
  refine (KI.out _ _ ho3.tms).mono ?_
  rintro e w5 ⟨rfl, hg5⟩
  have hs5 := ho3.tms.grew hg5
  have hg15 := (hg13.trans hg4).trans hg5
  clear ho3 hg4 hg5 hg13 KS KI
  go_wp2_with fail
  refine (K1.out _ hg15 hn).mono ?_
  rintro e w6 ⟨a6, rfl, ho6, hg6⟩
  go_wp2_with fail
  refine (eqTermNodeS_yes _ _ xs _ (hs5.grew hg6) ho6.tms (by omega)).mono ?_
  rintro e w7 ⟨rfl, hg7⟩
  go_wp2_with fail
  go_ret
  exact ⟨rfl, (hg15.trans hg6).trans hg7⟩
end Go.Proofs.Ytpbaiadaanpllaa

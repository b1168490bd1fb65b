/- FitsContext of both, and the law FnExactFitsContext, walked. -/
import Derived.Test.YtpbaiadaanpllaaCtx
namespace Go.Proofs.Ytpbaiadaanpllaa
open Go.RowKit
open Tr (Tm)

/-- What FitsContext gives. -/
noncomputable def fitF (xs : List Tn) (n : Int) : Bool × Int := if tmB xs then (if 0 ≤ n ∧ n ≤ 12 then (Tr.evN ltP (tmT xs) n, 0) else (false, 2)) else (false, 1)
def GivesBI (r : Bool × Int) (w : World) (e : Ending) (w' : World) : Prop := e = .returned (.tuple #[.bool r.1, .int .i64 r.2]) ∧ Grew w w'
theorem fit_ctx (xs : List Tn) (n : Int) : fitF xs n = if ctxC xs n = 5 then (false, 0) else (ctxC xs n == 0, ctxC xs n) := by
  unfold fitF ctxC
  split
  · split
    · cases Tr.evN ltP (tmT xs) n <;> rfl
    · rfl
  · rfl

theorem implFits_c (v : Value) (xs : List Tn) (n : Int) (w : World) (h : Tms w v xs) (hfit : FitsT xs) (hn : xs.length ≤ 1048576) :
    Calls Try.prog 55 #[v, .int .i64 n] w (GivesBI (fitF xs n) w) := by
  have HC := fun W (hW : Grew w W) => contextCode_c v xs n W (h.grew hW) hfit hn
  unfold GivesBI
  rw [fit_ctx]
  have hany := ctx_any xs n
  generalize ctxC xs n = c at *
  clear h hfit
  replace HC := Lib.hid HC
  rcases hany with rfl | rfl | rfl | rfl
  all_goals
    go_enter Try.func55, Try.ntmps55
    go_wp2_with fail
    refine (HC.out _ (Grew.refl _)).mono ?_
    rintro e w1 ⟨rfl, hg1⟩
    go_wp2_with fail
    go_ret2
    exact ⟨rfl, hg1⟩

theorem specFits_c (v : Value) (xs : List Tn) (n : Int) (w : World) (h : Tms w v xs) (hfit : FitsT xs) (hn : xs.length ≤ 1048576) :
    Calls Try.prog 54 #[v, .int .i64 n] w (GivesBI (fitF xs n) w) := by
  unfold GivesBI fitF
  have HI := fun W (hW : Grew w W) => l26Is_c v xs W (h.grew hW) hfit hn
  cases hb : tmB xs with
  | false =>
    rw [hb] at HI
    rw [if_neg (by simp)]
    replace HI := Lib.hid HI
    clear h hfit hb
    go_enter Try.func54, Try.ntmps54
    go_wp2_with fail
    refine (HI.out _ (Grew.refl _)).mono ?_
    rintro e w1 ⟨rfl, hg1⟩
    go_wp2_with fail
    go_ret2
    exact ⟨rfl, hg1⟩
  | true =>
    rw [hb] at HI
    rw [if_pos rfl]
    replace HI := Lib.hid HI
    have HR := fun w => l01In_c n 0 12 w
    by_cases hr : 0 ≤ n ∧ n ≤ 12
    · rw [decide_eq_true hr] at HR
      replace HR := Lib.hid HR
      rw [if_pos hr]
      obtain ⟨t1, t2, t3⟩ := tmT_ok hb
      have HF := fun W (hW : Grew w W) => l26Fits_c (tmT xs) t1 v n W (by rw [t2]; exact h.grew hW) (by rw [t2]; omega) hr.1 (by rw [t2]; omega)
      generalize Tr.evN ltP (tmT xs) n = q at *
      replace HF := Lib.hid HF
      clear h hfit hb t1 t2 t3
      go_enter Try.func54, Try.ntmps54
      go_wp2_with fail
      refine (HI.out _ (Grew.refl _)).mono ?_
      rintro e w1 ⟨rfl, hg1⟩
      go_wp2_with fail
      refine (HR.out _).mono ?_
      rintro e w2 ⟨rfl, hg2⟩
      go_wp2_with fail
      refine (HF.out _ (hg1.trans hg2)).mono ?_
      rintro e w3 ⟨rfl, hg3⟩
      go_wp2_with fail
      go_ret2
      exact ⟨rfl, (hg1.trans hg2).trans hg3⟩
    · rw [decide_eq_false hr] at HR
      replace HR := Lib.hid HR
      rw [if_neg hr]
      clear h hfit hb hr
      go_enter Try.func54, Try.ntmps54
      go_wp2_with fail
      refine (HI.out _ (Grew.refl _)).mono ?_
      rintro e w1 ⟨rfl, hg1⟩
      go_wp2_with fail
      refine (HR.out _).mono ?_
      rintro e w2 ⟨rfl, hg2⟩
      go_wp2_with fail
      go_ret2
      exact ⟨rfl, hg1.trans hg2⟩

theorem lawFits_c (v : Value) (xs : List Tn) (n : Int) (w : World) (h : ArgT w v xs) :
    Calls Try.prog 11 #[v, .int .i64 n] w fun e w' => e = .returned (.bool true) ∧ Grew w w' := by
  have K0 := Lib.hid (szTermNodeS_c v xs 1048576 w h (by omega) (by omega))
  have K1 := Lib.hid (fun W (hW : Grew w W) => toTermNodeS_c v xs W (h.grew hW))
  clear h
  go_enter Try.func11, Try.ntmps11
  go_wp2_with fail
  refine K0.out.mono ?_
  rintro e w1 ⟨r, rfl, ⟨_, hs⟩, hg1⟩
  by_cases hr : r < 0
  · clear hs
    go_wp2_with fail
    go_ret
    exact ⟨rfl, hg1⟩
  obtain ⟨hn, hf⟩ := hs (by omega)
  have F : FitsT xs := hf
  clear hs hf
  have KS := Lib.hid (fun v W h => specFits_c v xs n W h F hn)
  have KI := Lib.hid (fun v W h => implFits_c v xs n W h F hn)
  clear F
  unfold GivesBI at KS KI
  generalize fitF xs n = rr at *
  obtain ⟨rb, rc⟩ := rr
  simp only at KS KI
  have hb1 : (rb != rb) = false := by simp
  have hc1 : (rc != rc) = false := by simp
  go_wp2_with fail
  refine (K1.out _ hg1 hn).mono ?_
  rintro e w2 ⟨a1, rfl, ho1, hg2⟩
  go_wp2_with fail
  refine (KS.out _ _ ho1.tms).mono ?_
  rintro e w3 ⟨rfl, hg3⟩
  have hg13 := (hg1.trans hg2).trans hg3
  clear ho1 hg1 hg2 hg3
  go_wp2_with fail
  refine (K1.out _ hg13 hn).mono ?_
  rintro e w4 ⟨a3, rfl, ho3, hg4⟩
  go_wp2_with fail
  refine (KI.out _ _ ho3.tms).mono ?_
  rintro e w5 ⟨rfl, hg5⟩
  have hs5 := ho3.tms.grew hg5
  have hg15 := (hg13.trans hg4).trans hg5
  clear ho3 hg4 hg5 hg13 KS KI
  go_wp2_with fail
  refine (K1.out _ hg15 hn).mono ?_
  rintro e w6 ⟨a6, rfl, ho6, hg6⟩
  go_wp2_with fail
  refine (eqTermNodeS_yes _ _ xs _ (hs5.grew hg6) ho6.tms (by omega)).mono ?_
  rintro e w7 ⟨rfl, hg7⟩
  go_wp2_with fail
  go_ret
  exact ⟨rfl, (hg15.trans hg6).trans hg7⟩
end Go.Proofs.Ytpbaiadaanpllaa

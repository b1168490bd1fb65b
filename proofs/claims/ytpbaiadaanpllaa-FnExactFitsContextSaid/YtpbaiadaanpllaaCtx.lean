/- contextCode of the program. -/
import Derived.Test.YtpbaiadaanpllaaTmFits2
namespace Go.Proofs.Ytpbaiadaanpllaa
open Go.RowKit
open Tr (Tm)

/-- The error of a term that has to fit n. -/
noncomputable def ctxC (xs : List Tn) (n : Int) : Int := if tmB xs then (if 0 ≤ n ∧ n ≤ 12 then (if Tr.evN ltP (tmT xs) n then 0 else 5) else 2) else 1
theorem ctx_bad {xs : List Tn} {n : Int} (h : tmB xs = false) : ctxC xs n = 1 := by unfold ctxC; rw [h]; rfl
theorem ctx_range {xs : List Tn} {n : Int} (h : tmB xs = true) (hn : ¬ (0 ≤ n ∧ n ≤ 12)) : ctxC xs n = 2 := by unfold ctxC; rw [h, if_pos rfl, if_neg hn]
theorem ctx_in {xs : List Tn} {n : Int} (h : tmB xs = true) (hn : 0 ≤ n ∧ n ≤ 12) : ctxC xs n = if Tr.evN ltP (tmT xs) n then 0 else 5 := by unfold ctxC; rw [h, if_pos rfl, if_pos hn]
theorem ctx_any (xs : List Tn) (n : Int) : ctxC xs n = 0 ∨ ctxC xs n = 1 ∨ ctxC xs n = 2 ∨ ctxC xs n = 5 := by
  unfold ctxC
  split
  · split
    · split
      · exact .inl rfl
      · exact .inr (.inr (.inr rfl))
    · exact .inr (.inr (.inl rfl))
  · exact .inr (.inl rfl)

theorem contextCode_c (v : Value) (xs : List Tn) (n : Int) (w : World) (h : Tms w v xs) (hfit : FitsT xs) (hn : xs.length ≤ 1048576) :
    Calls Try.prog 99 #[v, .int .i64 n] w fun e w' => e = .returned (.int .i64 (ctxC xs n)) ∧ Grew w w' := by
  have HI := fun W (hW : Grew w W) => isTerm_c v xs W (h.grew hW) hfit hn
  cases hb : tmB xs with
  | false =>
    rw [hb] at HI
    rw [ctx_bad hb]
    replace HI := Lib.hid HI
    clear h hfit hb
    go_enter Try.func99, Try.ntmps99
    go_wp2_with fail
    refine (HI.out _ (Grew.refl _)).mono ?_
    rintro e w1 ⟨rfl, hg1⟩
    go_wp2_with fail
    go_ret
    exact ⟨rfl, hg1⟩
  | true =>
    rw [hb] at HI
    replace HI := Lib.hid HI
    have HR := fun w => inRange_c n 0 12 w
    by_cases hr : 0 ≤ n ∧ n ≤ 12
    · rw [decide_eq_true hr] at HR
      replace HR := Lib.hid HR
      rw [ctx_in hb hr]
      obtain ⟨t1, t2, t3⟩ := tmT_ok hb
      have HF := fun W (hW : Grew w W) => fitsContext_c v (tmT xs) n W (by rw [t2]; exact h.grew hW) t1 (by rw [t2]; omega) hr.1 (by rw [t2]; omega)
      generalize Tr.evN ltP (tmT xs) n = q at *
      replace HF := Lib.hid HF
      clear h hfit hb t1 t2 t3
      cases q with
      | true =>
        go_enter Try.func99, Try.ntmps99
        go_wp2_with fail
        refine (HI.out _ (Grew.refl _)).mono ?_
        rintro e w1 ⟨rfl, hg1⟩
        go_wp2_with fail
        refine (HR.out _).mono ?_
        rintro e w2 ⟨rfl, hg2⟩
        go_wp2_with fail
        refine (HF.out _ (hg1.trans hg2)).mono ?_
        rintro e w3 ⟨rfl, hg3⟩
        go_wp2_with fail
        go_ret
        exact ⟨rfl, (hg1.trans hg2).trans hg3⟩
      | false =>
        go_enter Try.func99, Try.ntmps99
        go_wp2_with fail
        refine (HI.out _ (Grew.refl _)).mono ?_
        rintro e w1 ⟨rfl, hg1⟩
        go_wp2_with fail
        refine (HR.out _).mono ?_
        rintro e w2 ⟨rfl, hg2⟩
        go_wp2_with fail
        refine (HF.out _ (hg1.trans hg2)).mono ?_
        rintro e w3 ⟨rfl, hg3⟩
        go_wp2_with fail
        go_ret
        exact ⟨rfl, (hg1.trans hg2).trans hg3⟩
    · rw [decide_eq_false hr] at HR
      replace HR := Lib.hid HR
      rw [ctx_range hb hr]
      clear h hfit hb hr
      go_enter Try.func99, Try.ntmps99
      go_wp2_with fail
      refine (HI.out _ (Grew.refl _)).mono ?_
      rintro e w1 ⟨rfl, hg1⟩
      go_wp2_with fail
      refine (HR.out _).mono ?_
      rintro e w2 ⟨rfl, hg2⟩
      go_wp2_with fail
      go_ret
      exact ⟨rfl, hg1.trans hg2⟩
end Go.Proofs.Ytpbaiadaanpllaa

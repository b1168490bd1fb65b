/- The law FnExactSchemeFormula, walked. -/
import Derived.Test.YtpbaiadaanpllaaDoorScheme
import Derived.Test.YtpbaiadaanpllaaDoorEq
namespace Go.Proofs.YtpbaiadaanpllaaDoor
open Go.RowKit
open Fm (Nd)

/-- A new list and a code, the list nil where it is empty. -/
def GivesC (w : World) (r : List Nd × Int) (e : Ending) (w' : World) : Prop := ∃ v, e = .returned (.tuple #[v, .int .i64 r.2]) ∧ Own w' w.heap.size v r.1 ∧ Grew w w'

theorem specScheme_c (k : Int) (w : World) :
    Calls Tryd.prog 11 #[.int .i64 k] w (GivesC w (schF k)) := by
  by_cases hin : 0 ≤ k ∧ k ≤ 18
  · obtain ⟨j, rfl⟩ : ∃ j : Nat, k = (j : Int) := ⟨k.toNat, by omega⟩
    have hj : j < 19 := by omega
    rw [schF_in hj]
    have HS := Lib.hid (fun w => l13Scheme_c j w hj)
    have HR := fun w => l01In_c (j : Int) 0 18 w
    rw [show decide ((0 : Int) ≤ j ∧ (j : Int) ≤ 18) = true from by simp; omega] at HR
    replace HR := Lib.hid HR
    clear hin
    go_enter Tryd.func11, Tryd.ntmps11
    go_wp2_with fail
    refine (HR.out _).mono ?_
    rintro e w1 ⟨rfl, hg1⟩
    go_wp2_with fail
    refine (HS.out _).mono ?_
    rintro e w3 ⟨v3, rfl, ho3, hg3⟩
    go_wp2_with fail
    go_ret2
    exact ⟨_, rfl, ho3.base hg1.size, hg1.trans hg3⟩
  · rw [schF_out hin]
    have HR := fun w => l01In_c k 0 18 w
    rw [decide_eq_false hin] at HR
    replace HR := Lib.hid HR
    clear hin
    go_enter Tryd.func11, Tryd.ntmps11
    go_wp2_with fail
    refine (HR.out _).mono ?_
    rintro e w1 ⟨rfl, hg1⟩
    go_wp2_with fail
    go_ret2
    exact ⟨_, rfl, Own.nil_ _ _, hg1⟩

theorem implScheme_c (k : Int) (w : World) (hX : TabAt w 2 schTexts) :
    Calls Tryd.prog 12 #[.int .i64 k] w (GivesC w (schF k)) := by
  by_cases hin : 0 ≤ k ∧ k ≤ 18
  · obtain ⟨j, rfl⟩ : ∃ j : Nat, k = (j : Int) := ⟨k.toNat, by omega⟩
    have hj : j < 19 := by omega
    rw [schF_in hj]
    have HS := Lib.hid (fun W (hW : Grew w W) => scheme_c j W hj (hX.grew hW))
    have HR := fun w => inRange_c (j : Int) 0 18 w
    rw [show decide ((0 : Int) ≤ j ∧ (j : Int) ≤ 18) = true from by simp; omega] at HR
    replace HR := Lib.hid HR
    clear hin hX
    go_enter Tryd.func12, Tryd.ntmps12
    go_wp2_with fail
    refine (HR.out _).mono ?_
    rintro e w1 ⟨rfl, hg1⟩
    go_wp2_with fail
    refine (HS.out _ hg1).mono ?_
    rintro e w3 ⟨v3, rfl, ho3, hg3⟩
    go_wp2_with fail
    go_ret2
    exact ⟨_, rfl, ho3.base hg1.size, hg1.trans hg3⟩
  · rw [schF_out hin]
    have HR := fun w => inRange_c k 0 18 w
    rw [decide_eq_false hin] at HR
    replace HR := Lib.hid HR
    clear hin hX
    go_enter Tryd.func12, Tryd.ntmps12
    go_wp2_with fail
    refine (HR.out _).mono ?_
    rintro e w1 ⟨rfl, hg1⟩
    go_wp2_with fail
    go_ret2
    exact ⟨_, rfl, Own.nil_ _ _, hg1⟩

theorem lawScheme_c (k : Int) (w : World) (hX : TabAt w 2 schTexts) :
    Calls Tryd.prog 4 #[.int .i64 k] w fun e w' => e = .returned (.bool true) ∧ Grew w w' := by
  have hl := schF_len k
  have HS := Lib.hid (fun w => specScheme_c k w)
  have HI := Lib.hid (fun W (hW : Grew w W) => implScheme_c k W (hX.grew hW))
  clear hX
  generalize schF k = r at *
  obtain ⟨xs, c⟩ := r
  simp only at hl
  go_enter Tryd.func4, Tryd.ntmps4
  go_wp2_with fail
  refine (HS.out _).mono ?_
  rintro e w1 ⟨v1, rfl, ho1, hg1⟩
  go_wp2_with fail
  refine (HI.out _ hg1).mono ?_
  rintro e w2 ⟨v2, rfl, ho2, hg2⟩
  go_wp2_with fail
  refine (eqNodeS_yes _ _ xs _ ho2.nodes (ho1.grew hg2).nodes (by omega)).mono ?_
  rintro e w3 ⟨rfl, hg3⟩
  go_wp2_with fail
  refine (markNodeS_g v2 xs w1.heap.size 1 _ (ho2.grew hg3) (by omega) (by omega) (by omega)).mono ?_
  rintro e w4 ⟨rfl, ho4, hm4⟩
  have hg4 := hm4 w1 (Nat.le_refl _) (hg2.trans hg3)
  clear hm4 ho2
  go_wp2_with fail
  refine (heldNodeS_c v2 xs.length 1 _ ho4.nodes (by omega) (by omega) (by omega)).mono ?_
  rintro e w5 ⟨rfl, hg5⟩
  go_wp2_with fail
  refine (HI.out _ ((hg1.trans hg4).trans hg5)).mono ?_
  rintro e w6 ⟨v6, rfl, ho6, hg6⟩
  go_wp2_with fail
  refine (eqNodeS_yes _ _ xs _ ho6.nodes (ho1.grew ((hg4.trans hg5).trans hg6)).nodes (by omega)).mono ?_
  rintro e w7 ⟨rfl, hg7⟩
  go_wp2_with fail
  refine (heldNodeS_c v2 xs.length 1 _ (ho4.grew ((hg5.trans hg6).trans hg7)).nodes (by omega) (by omega) (by omega)).mono ?_
  rintro e w8 ⟨rfl, hg8⟩
  go_wp2_with fail
  go_ret
  exact ⟨rfl, hg1.trans ((((hg4.trans hg5).trans hg6).trans hg7).trans hg8)⟩
end Go.Proofs.YtpbaiadaanpllaaDoor

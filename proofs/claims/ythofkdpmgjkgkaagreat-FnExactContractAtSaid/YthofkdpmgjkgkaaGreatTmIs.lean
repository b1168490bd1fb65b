/- What a term is: termParts, termEnd, isTerm of the program; l26Parts, l26End, l26Is of the reference. -/
import Derived.Test.YthofkdpmgjkgkaaGreatTmLaw
import Derived.Test.YthofkdpmgjkgkaaGreatTmTree
import Derived.Test.YthofkdpmgjkgkaaGreatGp
import Derived.Test.YthofkdpmgjkgkaaGreatRange
import Derived.Shelf.Abstract
namespace Go.Proofs.YthofkdpmgjkgkaaGreat
open Go.RowKit

theorem kind_cases (k : Int) : (k = 0 ∨ k = 1 ∨ k = 2 ∨ k = 3 ∨ k = 4 ∨ k = 5 ∨ k = 6 ∨ k = 7 ∨ k = 8 ∨ k = 9) ∨ ¬ (0 ≤ k ∧ k ≤ 9) := by omega

theorem termParts_c (k : Int) (w : World) :
    Calls Tryz.prog 122 #[.int .i64 k] w fun e w' => e = .returned (.int .i64 ((Tr.ar k : Int))) ∧ Grew w w' := by
  rcases kind_cases k with h | h
  · rcases h with rfl | rfl | rfl | rfl | rfl | rfl | rfl | rfl | rfl | rfl
    all_goals
      go_enter Tryz.func122, Tryz.ntmps122
      go_wp2_with fail
      go_ret
      exact ⟨rfl, Grew.refl _⟩
  · have ha : ((Tr.ar k : Int)) = (0 : Int) := by unfold Tr.ar; rw [if_neg (by omega), if_neg (by omega), if_neg (by omega)]; rfl
    rw [ha]
    have n0 : (k == 0) = false := by simp; omega
    have n1 : (k == 1) = false := by simp; omega
    have n2 : (k == 2) = false := by simp; omega
    have n3 : (k == 3) = false := by simp; omega
    have n4 : (k == 4) = false := by simp; omega
    have n5 : (k == 5) = false := by simp; omega
    have n6 : (k == 6) = false := by simp; omega
    have n7 : (k == 7) = false := by simp; omega
    have n8 : (k == 8) = false := by simp; omega
    have n9 : (k == 9) = false := by simp; omega
    clear h ha
    go_enter Tryz.func122, Tryz.ntmps122
    go_wp2_with fail
    go_ret
    exact ⟨rfl, Grew.refl _⟩

theorem l26Parts_c (k : Int) (w : World) :
    Calls Tryz.prog 87 #[.int .i64 k] w fun e w' => e = .returned (.int .i64 (if 0 ≤ k ∧ k ≤ 9 then (Tr.ar k : Int) else -1)) ∧ Grew w w' := by
  rcases kind_cases k with h | h
  · rcases h with rfl | rfl | rfl | rfl | rfl | rfl | rfl | rfl | rfl | rfl
    all_goals
      go_enter Tryz.func87, Tryz.ntmps87
      go_wp2_with fail
      go_ret
      exact ⟨rfl, Grew.refl _⟩
  · have ha : (if 0 ≤ k ∧ k ≤ 9 then (Tr.ar k : Int) else -1) = (-1 : Int) := by rw [if_neg h]
    rw [ha]
    have n0 : (k == 0) = false := by simp; omega
    have n1 : (k == 1) = false := by simp; omega
    have n2 : (k == 2) = false := by simp; omega
    have n3 : (k == 3) = false := by simp; omega
    have n4 : (k == 4) = false := by simp; omega
    have n5 : (k == 5) = false := by simp; omega
    have n6 : (k == 6) = false := by simp; omega
    have n7 : (k == 7) = false := by simp; omega
    have n8 : (k == 8) = false := by simp; omega
    have n9 : (k == 9) = false := by simp; omega
    clear h ha
    go_enter Tryz.func87, Tryz.ntmps87
    go_wp2_with fail
    go_ret
    exact ⟨rfl, Grew.refl _⟩

/-- Have the nodes of a kind a type? -/
def typedB (k : Int) : Bool := k == 1 || k == 6 || k == 7 || k == 9

theorem hasType_c (k : Int) (w : World) :
    Calls Tryz.prog 121 #[.int .i64 k] w fun e w' => e = .returned (.bool (typedB k)) ∧ Grew w w' := by
  rcases kind_cases k with h | h
  · rcases h with rfl | rfl | rfl | rfl | rfl | rfl | rfl | rfl | rfl | rfl
    all_goals
      go_enter Tryz.func121, Tryz.ntmps121
      go_wp2_with fail
      go_ret
      exact ⟨rfl, Grew.refl _⟩
  · have ha : typedB k = false := by unfold typedB; simp; omega
    rw [ha]
    have n0 : (k == 0) = false := by simp; omega
    have n1 : (k == 1) = false := by simp; omega
    have n2 : (k == 2) = false := by simp; omega
    have n3 : (k == 3) = false := by simp; omega
    have n4 : (k == 4) = false := by simp; omega
    have n5 : (k == 5) = false := by simp; omega
    have n6 : (k == 6) = false := by simp; omega
    have n7 : (k == 7) = false := by simp; omega
    have n8 : (k == 8) = false := by simp; omega
    have n9 : (k == 9) = false := by simp; omega
    clear h ha
    go_enter Tryz.func121, Tryz.ntmps121
    go_wp2_with fail
    go_ret
    exact ⟨by simp, Grew.refl _⟩

theorem l26Typed_c (k : Int) (w : World) :
    Calls Tryz.prog 119 #[.int .i64 k] w fun e w' => e = .returned (.bool (typedB k)) ∧ Grew w w' := by
  rcases kind_cases k with h | h
  · rcases h with rfl | rfl | rfl | rfl | rfl | rfl | rfl | rfl | rfl | rfl
    all_goals
      go_enter Tryz.func119, Tryz.ntmps119
      go_wp2_with fail
      go_ret
      exact ⟨rfl, Grew.refl _⟩
  · have ha : typedB k = false := by unfold typedB; simp; omega
    rw [ha]
    have n0 : (k == 0) = false := by simp; omega
    have n1 : (k == 1) = false := by simp; omega
    have n2 : (k == 2) = false := by simp; omega
    have n3 : (k == 3) = false := by simp; omega
    have n4 : (k == 4) = false := by simp; omega
    have n5 : (k == 5) = false := by simp; omega
    have n6 : (k == 6) = false := by simp; omega
    have n7 : (k == 7) = false := by simp; omega
    have n8 : (k == 8) = false := by simp; omega
    have n9 : (k == 9) = false := by simp; omega
    clear h ha
    go_enter Tryz.func119, Tryz.ntmps119
    go_wp2_with fail
    go_ret
    exact ⟨by simp, Grew.refl _⟩

/-- Is it a node of a term? -/
noncomputable def tnB (k n : Int) (s : ByteArray) : Bool := if k == 0 then (decide (0 ≤ n ∧ n ≤ 99) && s.toList.isEmpty) else if typedB k then (n == 0 && gp s) else (decide (1 ≤ k ∧ k ≤ 9) && n == 0 && s.toList.isEmpty)

theorem isTermNode_c (k n : Int) (s : ByteArray) (w : World) (hs : s.size ≤ 140737488355328) :
    Calls Tryz.prog 90 #[.agg #[.int .i64 k, .int .i64 n, .string s]] w fun e w' => e = .returned (.bool (tnB k n s)) ∧ Grew w w' := by
  unfold tnB
  cases h0 : (k == 0) with
  | true =>
    rw [if_pos rfl]
    have HR := fun w => inRange_c n 0 99 w
    generalize decide (0 ≤ n ∧ n ≤ 99) = R at *
    cases R with
    | true =>
      replace HR := Lib.hid HR
      go_enter Tryz.func90, Tryz.ntmps90
      go_wp2_with fail
      refine (HR.out _).mono ?_
      rintro e w1 ⟨rfl, hg1⟩
      have k1 : w1.cell? ⟨w.heap.size, 2, none⟩ = some (.string s) := (hg1.cell (by simp)).trans (by simp)
      go_wp2_with fail
      go_ret
      exact ⟨by simp, Grew.of_alloc hg1⟩
    | false =>
      replace HR := Lib.hid HR
      go_enter Tryz.func90, Tryz.ntmps90
      go_wp2_with fail
      refine (HR.out _).mono ?_
      rintro e w1 ⟨rfl, hg1⟩
      go_wp2_with fail
      go_ret
      exact ⟨by simp, Grew.of_alloc hg1⟩
  | false =>
    rw [if_neg (by simp)]
    have HT := fun w => hasType_c k w
    generalize typedB k = T at *
    cases T with
    | true =>
      rw [if_pos rfl]
      replace HT := Lib.hid HT
      have HP := Lib.hid (fun w => isPlainText_c s w hs)
      cases hn : (n == 0) with
      | true =>
        go_enter Tryz.func90, Tryz.ntmps90
        go_wp2_with fail
        refine (HT.out _).mono ?_
        rintro e w1 ⟨rfl, hg1⟩
        have k1 : w1.cell? ⟨w.heap.size, 1, none⟩ = some (.int .i64 n) := (hg1.cell (by simp)).trans (by simp)
        have k2 : w1.cell? ⟨w.heap.size, 2, none⟩ = some (.string s) := (hg1.cell (by simp)).trans (by simp)
        go_wp2_with fail
        refine (HP.out _).mono ?_
        rintro e w2 ⟨rfl, hg2⟩
        go_wp2_with fail
        go_ret
        exact ⟨by simp, Grew.of_alloc (hg1.trans hg2)⟩
      | false =>
        go_enter Tryz.func90, Tryz.ntmps90
        go_wp2_with fail
        refine (HT.out _).mono ?_
        rintro e w1 ⟨rfl, hg1⟩
        have k1 : w1.cell? ⟨w.heap.size, 1, none⟩ = some (.int .i64 n) := (hg1.cell (by simp)).trans (by simp)
        go_wp2_with fail
        go_ret
        exact ⟨by simp, Grew.of_alloc hg1⟩
    | false =>
      rw [if_neg (by simp)]
      replace HT := Lib.hid HT
      have HR := fun w => inRange_c k 1 9 w
      generalize decide (1 ≤ k ∧ k ≤ 9) = R at *
      cases R with
      | true =>
        replace HR := Lib.hid HR
        cases hn : (n == 0) with
        | true =>
          go_enter Tryz.func90, Tryz.ntmps90
          go_wp2_with fail
          refine (HT.out _).mono ?_
          rintro e w1 ⟨rfl, hg1⟩
          have k0 : ∀ W, Grew w1 W → W.cell? ⟨w.heap.size, 0, none⟩ = some (.int .i64 k) := fun W hW => ((hg1.trans hW).cell (by simp)).trans (by simp)
          have k1 : ∀ W, Grew w1 W → W.cell? ⟨w.heap.size, 1, none⟩ = some (.int .i64 n) := fun W hW => ((hg1.trans hW).cell (by simp)).trans (by simp)
          have k2 : ∀ W, Grew w1 W → W.cell? ⟨w.heap.size, 2, none⟩ = some (.string s) := fun W hW => ((hg1.trans hW).cell (by simp)).trans (by simp)
          have hr1 := Grew.refl w1
          go_wp2_with fail
          refine (HR.out _).mono ?_
          rintro e w2 ⟨rfl, hg2⟩
          go_wp2_with fail
          go_ret
          exact ⟨by simp, Grew.of_alloc (hg1.trans hg2)⟩
        | false =>
          go_enter Tryz.func90, Tryz.ntmps90
          go_wp2_with fail
          refine (HT.out _).mono ?_
          rintro e w1 ⟨rfl, hg1⟩
          have k0 : ∀ W, Grew w1 W → W.cell? ⟨w.heap.size, 0, none⟩ = some (.int .i64 k) := fun W hW => ((hg1.trans hW).cell (by simp)).trans (by simp)
          have k1 : ∀ W, Grew w1 W → W.cell? ⟨w.heap.size, 1, none⟩ = some (.int .i64 n) := fun W hW => ((hg1.trans hW).cell (by simp)).trans (by simp)
          have hr1 := Grew.refl w1
          go_wp2_with fail
          refine (HR.out _).mono ?_
          rintro e w2 ⟨rfl, hg2⟩
          go_wp2_with fail
          go_ret
          exact ⟨by simp, Grew.of_alloc (hg1.trans hg2)⟩
      | false =>
        replace HR := Lib.hid HR
        go_enter Tryz.func90, Tryz.ntmps90
        go_wp2_with fail
        refine (HT.out _).mono ?_
        rintro e w1 ⟨rfl, hg1⟩
        have k0 : w1.cell? ⟨w.heap.size, 0, none⟩ = some (.int .i64 k) := (hg1.cell (by simp)).trans (by simp)
        go_wp2_with fail
        refine (HR.out _).mono ?_
        rintro e w2 ⟨rfl, hg2⟩
        go_wp2_with fail
        go_ret
        exact ⟨by simp, Grew.of_alloc (hg1.trans hg2)⟩

theorem l25Formula_c (s : ByteArray) (w : World) (hs : s.size ≤ 140737488355328) :
    Calls Tryz.prog 98 #[.string s] w (GivesP w s) := by
  have HG := fun w => l02Good_c s w hs
  have hn := Fm.pf_len s
  unfold GivesP gp
  unfold GivesG at HG
  generalize (Fm.pf s).1 = xs at *
  have HP := Lib.hid (fun v w h => l02Plain_c v xs w h (by omega))
  generalize anyP isBD xs = q at *
  cases hg : gd s with
  | true =>
    rw [hg] at HG
    replace HG := Lib.hid HG
    clear hg
    go_enter Tryz.func98, Tryz.ntmps98
    go_wp2_with fail
    refine (HG.out _).mono ?_
    rintro e w1 ⟨v1, rfl, ho1, hg1⟩
    go_wp2_with fail
    refine (HP.out _ _ ho1.nodes).mono ?_
    rintro e w2 ⟨rfl, hg2⟩
    go_wp2_with fail
    go_ret2
    exact ⟨_, rfl, ho1.grew hg2, hg1.trans hg2⟩
  | false =>
    rw [hg] at HG
    replace HG := Lib.hid HG
    clear hg
    go_enter Tryz.func98, Tryz.ntmps98
    go_wp2_with fail
    refine (HG.out _).mono ?_
    rintro e w1 ⟨v1, rfl, ho1, hg1⟩
    go_wp2_with fail
    go_ret2
    exact ⟨_, rfl, ho1, hg1⟩
end Go.Proofs.YthofkdpmgjkgkaaGreat

/- isFormula, FormulaText and PartEnd of the program at a tree. -/
import Derived.Test.YtpbaiadaanpllaaPlain
import Derived.Test.YtpbaiadaanpllaaPartP
import Derived.Test.YtpbaiadaanpllaaText
namespace Go.Proofs.Ytpbaiadaanpllaa
open Go.RowKit
open Fm (Nd Tree)

theorem inRange_c (k lo hi : Int) (w : World) : Calls Try.prog 70 #[.int .i64 k, .int .i64 lo, .int .i64 hi] w fun e w' => e = .returned (.bool (decide (lo ≤ k ∧ k ≤ hi))) ∧ Grew w w' := by
  by_cases h : lo ≤ k
  · have hd : decide (lo ≤ k ∧ k ≤ hi) = decide (k ≤ hi) := by simp [h]
    rw [hd]
    go_enter Try.func70, Try.ntmps70
    go_wp2_with fail
    go_ret
    exact ⟨rfl, Grew.refl _⟩
  · have hd : decide (lo ≤ k ∧ k ≤ hi) = false := by simp [h]
    rw [hd]
    go_enter Try.func70, Try.ntmps70
    go_wp2_with fail
    go_ret
    exact ⟨rfl, Grew.refl _⟩

theorem isVariable_c (k : Int) (w : World) : Calls Try.prog 156 #[.int .i64 k] w fun e w' => e = .returned (.bool (decide (0 ≤ k ∧ k ≤ 5))) ∧ Grew w w' := by
  have HR := Lib.hid (inRange_c k 0 5 w)
  generalize decide (0 ≤ k ∧ k ≤ 5) = R at *
  go_enter Try.func156, Try.ntmps156
  go_wp2_with fail
  refine HR.out.mono ?_
  rintro e w1 ⟨rfl, hg1⟩
  go_wp2_with fail
  go_ret
  exact ⟨rfl, hg1⟩

/-- Is it a node? -/
def nodeB (a b : Int) : Bool := if a == 0 then decide (0 ≤ b ∧ b ≤ 5) else decide (1 ≤ a ∧ a ≤ 6) && b == 0

theorem isNode_c (a b : Int) (w : World) : Calls Try.prog 115 #[.agg #[.int .i64 a, .int .i64 b]] w fun e w' => e = .returned (.bool (nodeB a b)) ∧ Grew w w' := by
  unfold nodeB
  cases h0 : (a == 0) with
  | true =>
    rw [if_pos rfl]
    go_enter Try.func115, Try.ntmps115
    go_wp2_with fail
    refine (isVariable_c _ _).mono ?_
    rintro e w1 ⟨rfl, hg1⟩
    go_wp2_with fail
    go_ret
    exact ⟨by simp, Grew.of_alloc hg1⟩
  | false =>
    rw [if_neg (by simp)]
    have HR := fun w => inRange_c a 1 6 w
    generalize decide (1 ≤ a ∧ a ≤ 6) = R at *
    cases R with
    | true =>
      replace HR := Lib.hid HR
      go_enter Try.func115, Try.ntmps115
      go_wp2_with fail
      refine (HR.out _).mono ?_
      rintro e w1 ⟨rfl, hg1⟩
      have k1 : w1.cell? ⟨w.heap.size, 1, none⟩ = some (.int .i64 b) := (hg1.cell (by simp)).trans (by simp)
      go_wp2_with fail
      go_ret
      exact ⟨by simp, Grew.of_alloc hg1⟩
    | false =>
      replace HR := Lib.hid HR
      go_enter Try.func115, Try.ntmps115
      go_wp2_with fail
      refine (HR.out _).mono ?_
      rintro e w1 ⟨rfl, hg1⟩
      go_wp2_with fail
      go_ret
      exact ⟨by simp, Grew.of_alloc hg1⟩

def noNode (a b : Int) : Bool := !nodeB a b
theorem isFormula1_ok : PredOk 114 noNode := by
  intro a b w
  unfold noNode
  have HR := Lib.hid (fun w => isNode_c a b w)
  generalize nodeB a b = R at *
  go_enter Try.func114, Try.ntmps114
  go_wp2_with fail
  refine (HR.out _).mono ?_
  rintro e w1 ⟨rfl, hg1⟩
  go_wp2_with fail
  go_ret
  exact ⟨rfl, Grew.of_alloc hg1⟩

theorem enc_nodes (t : Tree) : ∀ n ∈ Fm.enc t, nodeB n.1 n.2 = true := by
  induction t with
  | var v =>
    intro n hn
    simp only [Fm.enc, List.mem_singleton] at hn
    subst hn
    have := v.isLt
    simp [nodeB]
    omega
  | fls =>
    intro n hn
    simp only [Fm.enc, List.mem_singleton] at hn
    subst hn
    rfl
  | and x y hx hy =>
    intro n hn
    simp only [Fm.enc, List.mem_cons, List.mem_append] at hn
    rcases hn with rfl | hn | hn
    · rfl
    · exact hx n hn
    · exact hy n hn
  | or x y hx hy =>
    intro n hn
    simp only [Fm.enc, List.mem_cons, List.mem_append] at hn
    rcases hn with rfl | hn | hn
    · rfl
    · exact hx n hn
    · exact hy n hn
  | imp x y hx hy =>
    intro n hn
    simp only [Fm.enc, List.mem_cons, List.mem_append] at hn
    rcases hn with rfl | hn | hn
    · rfl
    · exact hx n hn
    · exact hy n hn
  | box x hx =>
    intro n hn
    simp only [Fm.enc, List.mem_cons] at hn
    rcases hn with rfl | hn
    · rfl
    · exact hx n hn
  | dia x hx =>
    intro n hn
    simp only [Fm.enc, List.mem_cons] at hn
    rcases hn with rfl | hn
    · rfl
    · exact hx n hn
theorem enc_noNode (t : Tree) : anyP noNode (Fm.enc t) = false := by
  apply anyP_no
  intro i hi
  have h := enc_nodes t (Fm.enc t)[i] (List.getElem_mem hi)
  have h1 : kd (Fm.enc t) i = (Fm.enc t)[i].1 := by simp [kd, List.getD, hi]
  have h2 : sy (Fm.enc t) i = (Fm.enc t)[i].2 := by simp [sy, List.getD, hi]
  rw [noNode, h1, h2, h]
  rfl
theorem at_all (t : Tree) : At (Fm.enc t) 0 t := ⟨[], by simp⟩

theorem isFormula_c (v : Value) (t : Tree) (w : World) (h : Nodes w v (Fm.enc t)) (hn : (Fm.enc t).length ≤ 40) :
    Calls Try.prog 68 #[v] w fun e w' => e = .returned (.bool true) ∧ Grew w w' := by
  have hpos := Fm.enc_pos t
  have HC := fun w h => containsFunc_c v (Fm.enc t) _ _ w h (by omega) isFormula1_ok (enters_of Try.func114 (by kernel_rfl) rfl)
  rw [enc_noNode] at HC
  replace HC := Lib.hid HC
  have HP := Lib.hid (fun w h => partEnd_at v (Fm.enc t) 0 t w h (by omega) (at_all t))
  obtain ⟨A, c, rfl⟩ := nodes_slice h
  have HN := Lib.hid h
  clear h
  generalize Fm.enc t = xs at *
  generalize hL : xs.length = n at *
  clear hL
  go_enter Try.func68, Try.ntmps68
  go_wp2_with fail
  refine (HC.out _ HN.out).mono ?_
  rintro e w1 ⟨rfl, hg1⟩
  go_wp2_with fail
  refine (HP.out _ (HN.out.grew hg1)).mono ?_
  rintro e w2 ⟨rfl, hg2⟩
  go_wp2_with fail
  go_ret
  exact ⟨by simp, hg1.trans hg2⟩

theorem formulaText_c (v : Value) (t : Tree) (w : World) (h : Nodes w v (Fm.enc t)) (hn : (Fm.enc t).length ≤ 40) :
    Calls Try.prog 30 #[v] w fun e w' => e = .returned (.tuple #[.string (bs (Fm.txt t 0)), .int .i64 0]) ∧ Grew w w' := by
  have HF := Lib.hid (isFormula_c v t w h hn)
  have HT := Lib.hid (fun W (hW : Grew w W) => text_c t v W (h.grew hW) (by omega))
  clear h
  go_enter Try.func30, Try.ntmps30
  go_wp2_with fail
  refine HF.out.mono ?_
  rintro e w1 ⟨rfl, hg1⟩
  go_wp2_with fail
  refine (HT.out _ hg1).mono ?_
  rintro e w2 ⟨rfl, hg2⟩
  go_wp2_with fail
  go_ret2
  exact ⟨rfl, hg1.trans hg2⟩

theorem size_c (v : Value) (xs : List Nd) (w : World) (h : Nodes w v xs) :
    Calls Try.prog 71 #[v] w fun e w' => e = .returned (.int .i64 xs.length) ∧ Grew w w' := by
  obtain ⟨A, c, rfl⟩ := nodes_slice h
  clear h
  go_enter Try.func71, Try.ntmps71
  go_wp2_with fail
  go_ret
  exact ⟨rfl, Grew.refl _⟩

theorem partEnd0_c (v : Value) (t : Tree) (w : World) (h : Nodes w v (Fm.enc t)) (hn : (Fm.enc t).length ≤ 40) :
    Calls Try.prog 31 #[v, .int .i64 0] w fun e w' => e = .returned (.tuple #[.int .i64 (Fm.enc t).length, .int .i64 0]) ∧ Grew w w' := by
  have hpos := Fm.enc_pos t
  have HF := Lib.hid (isFormula_c v t w h hn)
  have HS := Lib.hid (fun W (hW : Grew w W) => size_c v (Fm.enc t) W (h.grew hW))
  have HP := Lib.hid (fun W (hW : Grew w W) => partEnd_at v (Fm.enc t) 0 t W (h.grew hW) (by omega) (at_all t))
  have HR := fun w => inRange_c 0 0 ((Fm.enc t).length - 1 : Int) w
  rw [decide_eq_true (by omega : (0 : Int) ≤ 0 ∧ (0 : Int) ≤ ((Fm.enc t).length - 1 : Int))] at HR
  replace HR := Lib.hid HR
  clear h
  generalize (Fm.enc t).length = n at *
  go_enter Try.func31, Try.ntmps31
  go_wp2_with fail
  refine HF.out.mono ?_
  rintro e w1 ⟨rfl, hg1⟩
  go_wp2_with fail
  refine (HS.out _ hg1).mono ?_
  rintro e w2 ⟨rfl, hg2⟩
  have hg12 := hg1.trans hg2
  go_wp2_with fail
  refine (HR.out _).mono ?_
  rintro e w3 ⟨rfl, hg3⟩
  have hg13 := hg12.trans hg3
  go_wp2_with fail
  refine (HP.out _ hg13).mono ?_
  rintro e w4 ⟨rfl, hg4⟩
  go_wp2_with fail
  go_ret2
  exact ⟨by simp, hg13.trans hg4⟩
end Go.Proofs.Ytpbaiadaanpllaa

/- slices.Equal and slices.Clone on lists of nodes. -/
import Derived.Test.YtpbaiadaanpllaaDoorEqual
import Derived.Lib.SliceRun
import Derived.Deep.QuietTactic
import Derived.BigQuiet
import Derived.Deep.LoopGhost
import Derived.Outline
import Derived.Test.YtpbaiadaanpllaaDoorLit
namespace Go.Proofs.YtpbaiadaanpllaaDoor
open Go.RowKit
open Fm (Nd)

theorem equalN_c (v1 v2 : Value) (xs ys : List Nd) (w : World) (h1 : Nodes w v1 xs) (h2 : Nodes w v2 ys) (hn : xs.length ≤ 1099511627776) :
    Calls Tryd.prog 68 #[v1, v2] w fun e w' => e = .returned (.bool (decide (xs = ys))) ∧ Grew w w' := by
  by_cases hl : xs.length = ys.length
  · rcases h1.open_ with ⟨rfl, rfl⟩ | ⟨b1, o1, c1, rfl, hc1, hm1, hb1, hf⟩
    · obtain rfl : ys = [] := List.eq_nil_of_length_eq_zero (by simpa using hl.symm)
      obtain ⟨A, c, rfl⟩ := nodes_slice h2
      simp only [List.length_nil]
      clear hl
      go_enter Tryd.func68, Tryd.ntmps68
      go_wp2_with fail
      refine wp_loop_rounds 1 ?_; rw [rounds_succ]
      go_wp2_with fail
      go_ret
      exact ⟨by simp, Grew.refl _⟩
    · rcases h2.open_ with ⟨rfl, rfl⟩ | ⟨b2, o2, c2, rfl, hc2, hm2, hb2, hh⟩
      · obtain rfl : xs = [] := List.eq_nil_of_length_eq_zero (by simpa using hl)
        simp only [List.length_nil]
        clear hl
        go_enter Tryd.func68, Tryd.ntmps68
        go_wp2_with fail
        refine wp_loop_rounds 1 ?_; rw [rounds_succ]
        go_wp2_with fail
        go_ret
        exact ⟨by simp, Grew.refl _⟩
      · clear h1 h2
        have HE := Lib.hid (fun h => agree_all hl h)
        rw [← hl] at hc2 hh ⊢
        have HF := Lib.hid hf
        have HH := Lib.hid hh
        have HX := Lib.hid (fun (h : xs = ys) (i : Nat) => (⟨by rw [h], by rw [h]⟩ : kd xs i = kd ys i ∧ sy xs i = sy ys i))
        obtain ⟨D, hD⟩ : ∃ D, D = decide (xs = ys) := ⟨_, rfl⟩
        rw [← hD]
        have HD := Lib.hid hD
        clear hl hf hh hD
        generalize hN : xs.length = n at *
        clear hN
        go_enter Tryd.func68, Tryd.ntmps68
        go_wp2_with fail
        go_loopg [4, 13] n (fun k _ i wr => ∃ j : Nat, j ≤ n ∧ k = n - j ∧ i = .int .i64 j ∧ Grew w wr ∧ Hid (Agree xs ys j))
        case atStart => exact ⟨0, Nat.zero_le _, by omega, rfl, Grew.refl _, Agree.zero _ _⟩
        case round =>
          obtain ⟨j, hj, rfl, rfl, hB, HA⟩ := hrel
          by_cases hlt : j < n
          · have k1 : ∀ W, Grew w W → W.cell? ⟨b1, o1 + j * 2, none⟩ = some (.int .i64 (kd xs j)) := fun W hW => (HF.out j hlt W hW).1
            have k2 : ∀ W, Grew w W → W.cell? ⟨b1, o1 + j * 2 + 1, none⟩ = some (.int .i64 (sy xs j)) := fun W hW => (HF.out j hlt W hW).2
            have k3 : ∀ W, Grew w W → W.cell? ⟨b2, o2 + j * 2, none⟩ = some (.int .i64 (kd ys j)) := fun W hW => (HH.out j hlt W hW).1
            have k4 : ∀ W, Grew w W → W.cell? ⟨b2, o2 + j * 2 + 1, none⟩ = some (.int .i64 (sy ys j)) := fun W hW => (HH.out j hlt W hW).2
            have hgd := Tryd.ndGuard
            by_cases he : kd xs j = kd ys j ∧ sy xs j = sy ys j
            · have hq : ∀ W, (binOp .neq 44 (.agg #[.int .i64 (kd xs j), .int .i64 (sy xs j)]) (.agg #[.int .i64 (kd ys j), .int .i64 (sy ys j)])).run Tryd.prog W = .ok (.bool false) W := fun W => by
                rw [Tryd.ndNeq, he.1, he.2]; simp
              have HB := Lib.hid (HA.out.succ he.1 he.2)
              clear he HA
              go_wp2_with fail
              go_quiet (fail)
              go_wp2_with fail
              go_roundg (n - (j + 1))
              case measure => omega
              case rel => exact ⟨j + 1, by omega, rfl, by go_num, hB.drewN _, HB⟩
            · have hq : ∀ W, (binOp .neq 44 (.agg #[.int .i64 (kd xs j), .int .i64 (sy xs j)]) (.agg #[.int .i64 (kd ys j), .int .i64 (sy ys j)])).run Tryd.prog W = .ok (.bool true) W := fun W => by
                have hz : (kd xs j == kd ys j && sy xs j == sy ys j) = false := by
                  cases hz : (kd xs j == kd ys j && sy xs j == sy ys j) with
                  | false => rfl
                  | true => simp at hz; exact absurd hz he
                rw [Tryd.ndNeq, hz]
                simp
              have hv : Hid (D = false) := Lib.hid (by rw [HD.out]; exact decide_eq_false fun h => he (HX.out h j))
              clear he HA
              go_wp2_with fail
              go_quiet (fail)
              go_wp2_with fail
              go_ret
              rw [hv.out]
              exact ⟨rfl, hB.drewN _⟩
          · have hjn : j = n := by omega
            subst hjn
            have hv : Hid (D = true) := Lib.hid (by rw [HD.out]; exact decide_eq_true (HE.out HA.out))
            go_wp2_with fail
            go_ret
            rw [hv.out]
            exact ⟨rfl, hB⟩
  · have hne : xs ≠ ys := fun h => hl (by rw [h])
    rw [decide_eq_false hne]
    obtain ⟨A, c, rfl⟩ := nodes_slice h1
    obtain ⟨B, d, rfl⟩ := nodes_slice h2
    have hl' : (((xs.length : Nat) : Int) != ((ys.length : Nat) : Int)) = true := by simp; omega
    clear hl h1 h2 hne
    go_enter Tryd.func68, Tryd.ntmps68
    go_wp2_with fail
    go_ret
    exact ⟨rfl, Grew.refl _⟩

/-- slices.Clone: the same nodes in a row of the call's own; nil where it was nil. -/
theorem cloneN_c (v : Value) (xs : List Nd) (w : World) (h : Nodes w v xs) (hn : xs.length ≤ 1099511627775) :
    Calls Tryd.prog 69 #[v] w (Gives w xs) := by
  have q : ∀ (w : World) (a : Option Addr) (n c n' c' : Nat), (binOp .eql 22 (.slice a n c) (.slice none n' c')).run Tryd.prog w = .ok (.bool a.isNone) w := fun w a n c n' c' => Lib.run_eql_slice_nil w _ _ a n c n' c' Tryd.underlying22
  have he : Own (w.alloc (.cells #[] 44)) w.heap.size (.slice (some ⟨w.heap.size, 0, none⟩) 0 0) [] :=
    World.ownsRow_lit (e := 44) (size := 2) w #[] 0 (Nat.le_refl _) (by omega) rfl
  rcases h.open_ with ⟨rfl, rfl⟩ | ⟨b, o, c, rfl, hc, hm, hb, hf⟩
  · clear he h
    go_enter Tryd.func69, Tryd.ntmps69
    go_wp2_with fail
    go_ret
    exact ⟨_, rfl, Own.nil_ _ _, Grew.refl _⟩
  · clear hf
    go_enter Tryd.func69, Tryd.ntmps69
    go_wp2_with (first
      | (at_builtin; refine wpList_app (w0 := w) _ _ rfl rfl _ [] rfl he ((Grew.refl w).alloc _) _ xs rfl (h.grew ((Grew.refl w).alloc _)) (by simp; omega) ?_; intro v1 w1 hown1 hg1 _))
    go_ret
    exact ⟨_, rfl, by simpa using hown1, hg1⟩
theorem clone_c (v : Value) (xs : List Nd) (w : World) (h : Nodes w v xs) (hn : xs.length ≤ 1099511627775) :
    Calls Tryd.prog 57 #[v] w (Gives w xs) := by
  have HC := Lib.hid (cloneN_c v xs w h hn)
  clear h
  go_enter Tryd.func57, Tryd.ntmps57
  go_wp2_with fail
  refine HC.out.mono ?_
  rintro e w1 ⟨u, rfl, ho1, hg1⟩
  go_wp2_with fail
  go_ret
  exact ⟨_, rfl, ho1, hg1⟩
theorem same_c (v1 v2 : Value) (xs ys : List Nd) (w : World) (h1 : Nodes w v1 xs) (h2 : Nodes w v2 ys) (hn : xs.length ≤ 1099511627776) :
    Calls Tryd.prog 56 #[v1, v2] w fun e w' => e = .returned (.bool (decide (xs = ys))) ∧ Grew w w' := by
  have HC := Lib.hid (equalN_c v1 v2 xs ys w h1 h2 hn)
  clear h1 h2
  generalize decide (xs = ys) = R at *
  go_enter Tryd.func56, Tryd.ntmps56
  go_wp2_with fail
  refine HC.out.mono ?_
  rintro e w1 ⟨rfl, hg1⟩
  go_wp2_with fail
  go_ret
  exact ⟨rfl, hg1⟩
end Go.Proofs.YtpbaiadaanpllaaDoor

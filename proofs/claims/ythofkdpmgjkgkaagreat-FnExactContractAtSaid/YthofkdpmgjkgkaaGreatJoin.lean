/- The program's makers over slices.Concat. -/
import Derived.Test.YthofkdpmgjkgkaaGreatLit
namespace Go.Proofs.YthofkdpmgjkgkaaGreat
open Go.RowKit
open Fm (Nd)

/-- A block that has just been made and holds slices of nodes. -/
theorem lists_new (w : World) (t : TypeId) (us : List Value) (L : List (List Nd)) (hm : L.length ≤ 9223372036854775807)
    (h : ∀ i, i < L.length → ∃ u, us[i]? = some u ∧ Nodes w u (L.getD i [])) : Lists (w.alloc (.cells us.toArray t)) (.slice (some ⟨w.heap.size, 0, none⟩) L.length L.length) L := by
  refine .inr ⟨w.heap.size, 0, L.length, rfl, Nat.le_refl _, hm, by simp, fun i hi => ?_⟩
  obtain ⟨u, h1, h2⟩ := h i hi
  refine ⟨u, ?_, h2.grew ((Grew.refl w).alloc _)⟩
  rw [Nat.zero_add, blk_cell (blk_new w _)]
  simpa using h1

theorem join_c (k : Int) (va vb : Value) (xs ys : List Nd) (w : World) (ha : Nodes w va xs) (hb : Nodes w vb ys) (hn : xs.length + ys.length ≤ 1099511627775) :
    Calls Tryz.prog 163 #[.int .i64 k, va, vb] w (Gives w (Fm.join k xs ys)) := by
  have o1 := Own.one w w.heap.size k 0 (Nat.le_refl _)
  have g1 := (Grew.refl w).alloc (.cells #[.int .i64 k, .int .i64 0] 135)
  have hl := lists_new (w.alloc (.cells #[.int .i64 k, .int .i64 0] 135)) 101 [.slice (some ⟨w.heap.size, 0, none⟩) 1 1, va, vb] [[(k, 0)], xs, ys] (by simp) (fun i hi => by
    match i, hi with
    | 0, _ => exact ⟨_, rfl, o1.nodes⟩
    | 1, _ => exact ⟨_, rfl, ha.grew g1⟩
    | 2, _ => exact ⟨_, rfl, hb.grew g1⟩)
  obtain ⟨A, ca, rfl⟩ := nodes_slice ha
  obtain ⟨B, cb, rfl⟩ := nodes_slice hb
  simp only [List.length_cons, List.length_nil, World.size_alloc] at hl
  go_enter Tryz.func163, Tryz.ntmps163
  go_wp2_with fail
  refine (concat_c _ _ _ hl (by simp) (by simp; omega)).mono ?_
  rintro e w1 ⟨v1, rfl, ho1, hg1⟩
  go_wp2_with fail
  go_ret
  exact ⟨_, rfl, by simpa [Fm.join] using ho1.base (by simp; omega), hg1.of_alloc.of_alloc⟩

theorem prefix_c (k : Int) (va : Value) (xs : List Nd) (w : World) (ha : Nodes w va xs) (hn : xs.length ≤ 1099511627775) :
    Calls Tryz.prog 202 #[.int .i64 k, va] w (Gives w (Fm.pre k xs)) := by
  have o1 := Own.one w w.heap.size k 0 (Nat.le_refl _)
  have g1 := (Grew.refl w).alloc (.cells #[.int .i64 k, .int .i64 0] 135)
  have hl := lists_new (w.alloc (.cells #[.int .i64 k, .int .i64 0] 135)) 101 [.slice (some ⟨w.heap.size, 0, none⟩) 1 1, va] [[(k, 0)], xs] (by simp) (fun i hi => by
    match i, hi with
    | 0, _ => exact ⟨_, rfl, o1.nodes⟩
    | 1, _ => exact ⟨_, rfl, ha.grew g1⟩)
  obtain ⟨A, ca, rfl⟩ := nodes_slice ha
  simp only [List.length_cons, List.length_nil, World.size_alloc] at hl
  go_enter Tryz.func202, Tryz.ntmps202
  go_wp2_with fail
  refine (concat_c _ _ _ hl (by simp) (by simp; omega)).mono ?_
  rintro e w1 ⟨v1, rfl, ho1, hg1⟩
  go_wp2_with fail
  go_ret
  exact ⟨_, rfl, by simpa [Fm.pre] using ho1.base (by simp; omega), hg1.of_alloc.of_alloc⟩

theorem negation_c (va : Value) (xs : List Nd) (w : World) (ha : Nodes w va xs) (hn : xs.length ≤ 1099511627774) :
    Calls Tryz.prog 200 #[va] w (Gives w (Fm.neg xs)) := by
  go_enter Tryz.func200, Tryz.ntmps200
  go_wp2_with fail
  refine (falsum_c _).mono ?_
  rintro e w1 ⟨v1, rfl, ho1, hg1⟩
  go_wp2_with fail
  refine (join_c _ _ _ xs Fm.falsum _ (ha.grew hg1) ho1.nodes (by simp [Fm.falsum]; omega)).mono ?_
  rintro e w2 ⟨v2, rfl, ho2, hg2⟩
  go_wp2_with fail
  go_ret
  exact ⟨_, rfl, ho2.base hg1.size, hg1.trans hg2⟩
end Go.Proofs.YthofkdpmgjkgkaaGreat

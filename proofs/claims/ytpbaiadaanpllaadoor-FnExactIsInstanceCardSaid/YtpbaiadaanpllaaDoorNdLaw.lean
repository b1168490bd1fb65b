/- The laws' own helpers on slices of nodes that came in: szNodeS, toNodeS. -/
import Derived.Test.YtpbaiadaanpllaaDoorEq
import Derived.Test.YtpbaiadaanpllaaDoorMake
import Derived.Deep.LoopGhost
import Derived.Deep.OwnRows
import Derived.Test.YtpbaiadaanpllaaDoorLit
namespace Go.Proofs.YtpbaiadaanpllaaDoor
open Go.RowKit
open Fm (Nd)

/-- A list of nodes that came in. -/
def ArgN (w : World) (v : Value) (xs : List Nd) : Prop := (∃ A c, v = .slice A xs.length c ∧ xs.length ≤ 9223372036854775807) ∧ (0 < xs.length → Nodes w v xs)
theorem ArgN.grew {w w' : World} {v : Value} {xs : List Nd} (h : ArgN w v xs) (hg : Grew w w') : ArgN w' v xs := ⟨h.1, fun hp => (h.2 hp).grew hg⟩

theorem szNodeS_c (v : Value) (xs : List Nd) (left : Int) (w : World) (h : ArgN w v xs) (h0 : 0 ≤ left) (h1 : left ≤ 1048576) :
    Calls Tryd.prog 13 #[v, .int .i64 left] w fun e w' => ∃ r : Int, e = .returned (.int .i64 r) ∧ (r ≤ 1048576 ∧ (0 ≤ r → xs.length ≤ 1048576)) ∧ Grew w w' := by
  obtain ⟨⟨A, c, rfl, hmax⟩, _⟩ := h
  by_cases hlong : left < xs.length
  · go_enter Tryd.func13, Tryd.ntmps13
    go_wp2_with fail
    go_ret
    exact ⟨_, rfl, ⟨by omega, fun h => absurd h (by omega)⟩, Grew.refl _⟩
  · go_enter Tryd.func13, Tryd.ntmps13
    go_wp2_with fail
    go_ret
    exact ⟨_, rfl, ⟨by omega, fun h => by omega⟩, Grew.refl _⟩

theorem toNode_c (a b : Int) (w : World) :
    Calls Tryd.prog 29 #[.agg #[.int .i64 a, .int .i64 b]] w fun e w' => e = .returned (.agg #[.int .i64 a, .int .i64 b]) ∧ Grew w w' := by
  go_enter Tryd.func29, Tryd.ntmps29
  go_wp2_with fail
  (try simp only [Exit.inBlock, Exit.then])
  have hinfo : (Tryd.prog.info? 44).map (·.size) = some 2 := by kernel_rfl
  refine bodyPost_ret (results_cell_row rfl _ _ (w.heap.size + 1) _ _ _ _ rfl (blk3_mid w _ _ _) Tryd.underlying44 rfl hinfo) rfl ?_
  exact ⟨rfl, (((Grew.refl w).alloc _).alloc _).alloc _⟩

theorem toNodeS_c (v : Value) (xs : List Nd) (w : World) (h : ArgN w v xs) (hn : xs.length ≤ 1048576) :
    Calls Tryd.prog 15 #[v] w (Gives w xs) := by
  obtain ⟨⟨A, c, rfl, hmax⟩, hS⟩ := h
  have hmk := fun W => run_make_rows (P := Tryd.prog) 22 44 (.agg #[.int .i64 0, .int .i64 0]) 2 16 #[.int .i64 0, .int .i64 0] Tryd.underlying22 Tryd.infoNd rfl .i64 .i64 xs.length (by omega) (by omega) W
  have hend : ∀ cur w', w'.heap[w.heap.size]? = some (.cells cur 44 (0, 0)) → cur.size = xs.length * 2 → (∀ i, i < xs.length → cur[i * 2]? = some (.int .i64 (kd xs i)) ∧ cur[i * 2 + 1]? = some (.int .i64 (sy xs i))) → Own w' w.heap.size (.slice (some ⟨w.heap.size, 0, none⟩) xs.length xs.length) xs :=
    fun cur w' h1 h2 h3 => Own.mk_ (Nat.le_refl _) h1 (Nat.le_refl _) (by omega) h2 h3
  have HE := Lib.hid hend
  clear hend
  have hsz : (madeCells #[Value.int .i64 0, .int .i64 0] (xs.length * 2)).size = xs.length * 2 := size_madeCells _ _
  have hnew := blk_new w (.cells (madeCells #[Value.int .i64 0, .int .i64 0] (xs.length * 2)) 44)
  have hal := (Grew.refl w).alloc (.cells (madeCells #[Value.int .i64 0, .int .i64 0] (xs.length * 2)) 44)
  generalize madeCells #[Value.int .i64 0, .int .i64 0] (xs.length * 2) = cur0 at *
  by_cases hp : 0 < xs.length
  · rcases (hS hp).open_ with ⟨_, h2⟩ | ⟨b, o, c', hv, hc, hm, hb, hcell⟩
    · rw [h2] at hp; cases hp
    obtain ⟨rfl, rfl⟩ : A = some ⟨b, o, none⟩ ∧ c = c' := by simpa using hv
    clear hS hv
    have HC := Lib.hid hcell
    clear hcell
    generalize hN : xs.length = n at *
    clear hN
    have HNEW := Lib.hid hnew
    clear hnew
    have HAL := Lib.hid hal
    clear hal
    go_enter Tryd.func15, Tryd.ntmps15
    go_wp2_with fail
    go_loopw [4] (fun i wr => ∃ (j : Nat) (cur : Array Value), j ≤ n ∧ i = .int .i64 j ∧ wr.heap[w.heap.size]? = some (.cells cur 44 (0, 0)) ∧ cur.size = n * 2 ∧ Grew w wr ∧ Hid (∀ i, i < j → cur[i * 2]? = some (.int .i64 (kd xs i)) ∧ cur[i * 2 + 1]? = some (.int .i64 (sy xs i)))) (fun i _ => n - (intOf i).toNat)
    case atStart => exact ⟨0, cur0, Nat.zero_le _, rfl, HNEW.out, hsz, HAL.out, fun i hi => absurd hi (by omega)⟩
    case round =>
      obtain ⟨j, cur, hj, rfl, hh, hcs, hB, HD⟩ := hrel
      by_cases hlt : j < n
      · have k1 := (HC.out j hlt _ hB).1
        have k2 := (HC.out j hlt _ hB).2
        have HS := Lib.hid (pair_step (F := fun i => .int .i64 (kd xs i)) (G := fun i => .int .i64 (sy xs i)) (j := j) (by omega) HD.out)
        have HH := Lib.hid hh
        clear hh
        generalize kd xs j = x at *
        generalize sy xs j = y at *
        go_wp2_with fail
        refine (toNode_c x y _).mono ?_
        rintro e w1 ⟨rfl, hg1⟩
        have hh := (hg1.block (blk_lt HH.out)).trans HH.out
        have f1 : ∀ i, w1.frozen? ⟨w.heap.size, i, none⟩ = false := fun i => blk_frozen hh i
        have f2 : ∀ i k u, (w1.setCell ⟨w.heap.size, k, none⟩ u).frozen? ⟨w.heap.size, i, none⟩ = false := fun i k u => blk_frozen (blk_set hh k u) i
        obtain ⟨u1, hu1⟩ : ∃ u, w1.cell? ⟨w.heap.size, j * 2, none⟩ = some u := by
          rw [blk_cell hh]
          exact ⟨_, Array.getElem?_eq_getElem (by omega)⟩
        obtain ⟨u2, hu2⟩ : ∃ u, w1.cell? ⟨w.heap.size, j * 2 + 1, none⟩ = some u := by
          rw [blk_cell hh]
          exact ⟨_, Array.getElem?_eq_getElem (by omega)⟩
        have HH1 := Lib.hid hh
        clear hh
        go_wp2_with fail
        go_roundw
        case rel => exact ⟨j + 1, _, by omega, by go_num, blk_set (blk_set HH1.out _ _) _ _, by simp [hcs], ((hB.trans hg1).setCell (Nat.le_refl _) _).setCell (Nat.le_refl _) _, HS.out⟩
        case measure => simp [intOf]; omega
      · obtain rfl : j = n := by omega
        have HH := Lib.hid hh
        clear hh
        go_wp2_with fail
        go_ret
        exact ⟨_, rfl, HE.out _ _ HH.out hcs HD.out, hB⟩
  · have hp0 : xs.length ≤ 0 := by omega
    have HNEW := Lib.hid hnew
    clear hnew hS hp
    have HAL := Lib.hid hal
    clear hal
    generalize hN : xs.length = n at *
    clear hN
    go_enter Tryd.func15, Tryd.ntmps15
    go_wp2_with fail
    refine wp_loop_rounds 1 ?_; rw [rounds_succ]
    go_wp2_with fail
    go_ret
    exact ⟨_, rfl, HE.out _ _ HNEW.out hsz (fun i hi => absurd hi (by omega)), HAL.out⟩
end Go.Proofs.YtpbaiadaanpllaaDoor

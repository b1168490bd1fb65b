/- The laws' marks on slices of int64. -/
import Derived.Test.YthofkdpmgjkgkaaInts
import Derived.Test.YthofkdpmgjkgkaaRowLem
namespace Go.Proofs.Ythofkdpmgjkgkaa
open Go.RowKit

def imarks (k : Int) (n : Nat) : List Int := (List.range n).map fun i : Nat => k + (i : Int)
theorem imarks_length (k : Int) (n : Nat) : (imarks k n).length = n := by simp [imarks]
theorem imarks_at {k : Int} {n i : Nat} (h : i < n) : it (imarks k n) i = k + i := by simp [imarks, it, List.getD, h]

theorem markInt64S_c (v : Value) (L : List Int) (B : Nat) (k : Int) (w : World) (h : OwnI w B v L) (hk0 : 0 ≤ k) (hk : k ≤ 4611686018427387904) (hn : L.length ≤ 1099511627776) :
    Calls Try.prog 13 #[v, .int .i64 k] w fun e w' => e = .returned (.int .i64 (k + L.length)) ∧ OwnI w' B v (imarks k L.length) ∧ w.grownBy w' v.ownBlock := by
  rcases h.2 with ⟨rfl, h0⟩ | ⟨g, c, cur0, rfl, hB, hh0, hnc, hcm, hcs0, _⟩
  · have hL : L.length = 0 := by simpa using h0
    rw [hL]
    clear h h0
    go_enter Try.func13, Try.ntmps13
    go_wp2_with fail
    refine wp_loop_rounds 1 ?_; rw [rounds_succ]
    go_wp2_with fail
    go_ret
    exact ⟨by simp, by simpa [imarks] using OwnI.nil_ _ _, World.grownBy.refl _ _⟩
  · have hend : ∀ cur w', w'.heap[g]? = some (.cells cur 2 (0, 0)) → cur.size = c → (∀ i, i < L.length → cur[i]? = some (.int .i64 (k + (i : Int)))) → OwnI w' B (.slice (some ⟨g, 0, none⟩) L.length c) (imarks k L.length) := by
      intro cur w' h1 h2 h3
      have := OwnI.mk_ (w := w') (B := B) (L := imarks k L.length) (g := g) (c := c) (cur := cur) hB h1 (by rw [imarks_length]; exact hnc) hcm h2 (fun i hi => by
        rw [imarks_length] at hi
        rw [imarks_at hi]
        exact h3 i hi)
      rw [imarks_length] at this
      exact this
    generalize hN : L.length = n at *
    clear hN h
    have HE := Lib.hid hend
    clear hend
    go_enter Try.func13, Try.ntmps13
    go_wp2_with fail
    go_loopw [1, 5] (fun kk i wr => ∃ (j : Nat) (cur : Array Value), j ≤ n ∧ i = .int .i64 j ∧ kk = .int .i64 (k + (j : Int)) ∧ wr.heap[g]? = some (.cells cur 2 (0, 0)) ∧ cur.size = c ∧ Only g w wr ∧ (∀ i, i < j → cur[i]? = some (.int .i64 (k + (i : Int))))) (fun _ i _ => n - (intOf i).toNat)
    case atStart => exact ⟨0, cur0, Nat.zero_le _, rfl, by simp, hh0, by omega, Only.refl _ _, fun i hi => absurd hi (by omega)⟩
    case round =>
      obtain ⟨j, cur, hj, rfl, rfl, hh, hcs, ho, hc⟩ := hrel
      have HC := Lib.hid hc
      clear hc
      by_cases hlt : j < n
      · have f1 : wr.frozen? ⟨g, j, none⟩ = false := blk_frozen hh j
        obtain ⟨u1, hu1⟩ : ∃ u, wr.cell? ⟨g, j, none⟩ = some u := by
          rw [blk_cell hh]
          exact ⟨_, Array.getElem?_eq_getElem (by omega)⟩
        have HH := Lib.hid hh
        clear hh
        go_wp2_with fail
        go_roundw
        case rel => exact ⟨j + 1, _, by omega, by go_num, by go_num, blk_set HH.out _ _, by simp [hcs], ho.setCell _, one_stepI (F := fun i => .int .i64 (k + (i : Int))) (by omega) HC.out⟩
        case measure => simp [intOf]; omega
      · obtain rfl : j = n := by omega
        have HH := Lib.hid hh
        clear hh
        go_wp2_with fail
        go_ret
        exact ⟨rfl, HE.out _ _ HH.out hcs HC.out, ho⟩

theorem heldInt64S_c (v : Value) (n : Nat) (k : Int) (w : World) (h : Ints w v (imarks k n)) (hk0 : 0 ≤ k) (hk : k ≤ 4611686018427387904) (hn : n ≤ 1099511627776) :
    Calls Try.prog 14 #[v, .int .i64 k] w fun e w' => e = .returned (.int .i64 (k + n)) ∧ Grew w w' := by
  have hat := fun i => @imarks_at k n i
  rcases h.open_ with ⟨rfl, h0⟩ | ⟨b, o, c, rfl, hc, hm, hb, hcell⟩
  · have hn0 : n = 0 := by have := congrArg List.length h0; rw [imarks_length] at this; simpa using this
    subst hn0
    clear h h0 hat
    go_enter Try.func14, Try.ntmps14
    go_wp2_with fail
    refine wp_loop_rounds 1 ?_; rw [rounds_succ]
    go_wp2_with fail
    go_ret
    exact ⟨by simp, Grew.refl _⟩
  · rw [imarks_length] at hc hcell ⊢
    have HC : Hid (∀ i, i < n → ∀ W, Grew w W → W.cell? ⟨b, o + i, none⟩ = some (.int .i64 (k + (i : Int)))) := Lib.hid (fun i hi W hW => by rw [← hat i hi]; exact hcell i hi W hW)
    clear h hcell hat
    go_enter Try.func14, Try.ntmps14
    go_wp2_with fail
    go_loopw [1, 5] (fun kk i wr => ∃ j : Nat, j ≤ n ∧ i = .int .i64 j ∧ kk = .int .i64 (k + (j : Int)) ∧ Grew w wr) (fun _ i _ => n - (intOf i).toNat)
    case atStart => exact ⟨0, Nat.zero_le _, rfl, by simp, Grew.refl _⟩
    case round =>
      obtain ⟨j, hj, rfl, rfl, hB⟩ := hrel
      by_cases hlt : j < n
      · have k1 := HC.out j hlt _ hB
        have hq : (k + (j : Int) != k + (j : Int)) = false := by simp
        go_wp2_with fail
        go_roundw
        case rel => exact ⟨j + 1, by omega, by go_num, by go_num, hB⟩
        case measure => simp [intOf]; omega
      · obtain rfl : j = n := by omega
        go_wp2_with fail
        go_ret
        exact ⟨rfl, hB⟩
/-- The forms that the laws' walks use. -/
theorem markInt64S_w (v : Value) (L : List Int) (B : Nat) (k : Int) (w : World) (h : OwnI w B v L) (hk0 : 0 ≤ k) (hk : k ≤ 1099511627776) (hn : L.length ≤ 1048576) :
    Calls Try.prog 13 #[v, .int .i64 k] w fun e w' => e = .returned (.int .i64 (k + L.length)) ∧ w.grownBy w' v.ownBlock :=
  (markInt64S_c v L B k w h hk0 (by omega) (by omega)).mono fun _ _ ⟨h1, _, h3⟩ => ⟨h1, h3⟩
theorem markInt64S_m (v : Value) (L : List Int) (B : Nat) (k : Int) (w : World) (h : OwnI w B v L) (hk0 : 0 ≤ k) (hk : k ≤ 1099511627776) (hn : L.length ≤ 1048576) :
    Calls Try.prog 13 #[v, .int .i64 k] w fun e w' => e = .returned (.int .i64 (k + L.length)) ∧ OwnI w' B v (imarks k L.length) ∧ w.grownBy w' v.ownBlock :=
  markInt64S_c v L B k w h hk0 (by omega) (by omega)
end Go.Proofs.Ythofkdpmgjkgkaa

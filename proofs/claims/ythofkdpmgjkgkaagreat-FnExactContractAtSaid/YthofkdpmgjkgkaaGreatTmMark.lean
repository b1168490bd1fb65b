/- The laws' marks on slices of the nodes of terms. -/
import Derived.Test.YthofkdpmgjkgkaaGreatTmLaw
import Derived.Test.YthofkdpmgjkgkaaGreatMarkText
import Derived.Test.YthofkdpmgjkgkaaGreatRowLem
namespace Go.Proofs.YthofkdpmgjkgkaaGreat
open Go.RowKit

def tmarks (k : Int) (n : Nat) : List Tn := (List.range n).map fun i : Nat => ((k + (i : Int) * 3, k + (i : Int) * 3 + 1, mtx (k + (i : Int) * 3 + 1 + 1)) : Tn)
theorem tmarks_length (k : Int) (n : Nat) : (tmarks k n).length = n := by simp [tmarks]
theorem tmarks_tk {k : Int} {n i : Nat} (h : i < n) : tk (tmarks k n) i = k + i * 3 := by simp [tmarks, tk, List.getD, h]
theorem tmarks_tn {k : Int} {n i : Nat} (h : i < n) : tn (tmarks k n) i = k + i * 3 + 1 := by simp [tmarks, tn, List.getD, h]
theorem tmarks_tt {k : Int} {n i : Nat} (h : i < n) : tt (tmarks k n) i = mtx (k + i * 3 + 1 + 1) := by simp [tmarks, tt, List.getD, h]

theorem markTermNodeS_m (v : Value) (xs : List Tn) (B : Nat) (k : Int) (w : World) (h : OwnT w B v xs) (hk0 : 0 ≤ k) (hk : k ≤ 1099511627776) (hn : xs.length ≤ 1048576) :
    Calls Tryz.prog 16 #[v, .int .i64 k] w fun e w' => e = .returned (.int .i64 (k + xs.length * 3)) ∧ OwnT w' B v (tmarks k xs.length) ∧ w.grownBy w' v.ownBlock := by
  rcases h.open_ with ⟨rfl, rfl⟩ | ⟨g, c, cur0, rfl, hB, hg, hh0, hnc, hcm, hcs0, hc0⟩
  · go_enter Tryz.func16, Tryz.ntmps16
    go_wp2_with fail
    refine wp_loop_rounds 1 ?_; rw [rounds_succ]
    go_wp2_with fail
    go_ret
    exact ⟨by simp, by simpa [tmarks] using OwnT.nil_ _ _, World.grownBy.refl _ _⟩
  · have hend : ∀ cur w', w'.heap[g]? = some (.cells cur 66 (0, 0)) → cur.size = c * 3 → (∀ i, i < xs.length → cur[i * 3]? = some (.int .i64 (k + (i : Int) * 3)) ∧ cur[i * 3 + 1]? = some (.int .i64 (k + (i : Int) * 3 + 1)) ∧ cur[i * 3 + 2]? = some (.string (mtx (k + (i : Int) * 3 + 1 + 1)))) → OwnT w' B (.slice (some ⟨g, 0, none⟩) xs.length c) (tmarks k xs.length) := by
      intro cur w' h1 h2 h3
      have := OwnT.mk_ (w := w') (B := B) (xs := tmarks k xs.length) (g := g) (c := c) (cur := cur) hB h1 (by rw [tmarks_length]; exact hnc) hcm h2 (fun i hi => by
        rw [tmarks_length] at hi
        rw [tmarks_tk hi, tmarks_tn hi, tmarks_tt hi]
        exact h3 i hi)
      rw [tmarks_length] at this
      exact this
    generalize hN : xs.length = n at *
    clear hN hc0 h
    have HE := Lib.hid hend
    clear hend
    go_enter Tryz.func16, Tryz.ntmps16
    go_wp2_with fail
    go_loopw [1, 5] (fun kk i wr => ∃ (j : Nat) (cur : Array Value), j ≤ n ∧ i = .int .i64 j ∧ kk = .int .i64 (k + (j : Int) * 3) ∧ wr.heap[g]? = some (.cells cur 66 (0, 0)) ∧ cur.size = c * 3 ∧ Only g w wr ∧ Hid (∀ i, i < j → cur[i * 3]? = some (.int .i64 (k + (i : Int) * 3)) ∧ cur[i * 3 + 1]? = some (.int .i64 (k + (i : Int) * 3 + 1)) ∧ cur[i * 3 + 2]? = some (.string (mtx (k + (i : Int) * 3 + 1 + 1))))) (fun _ i _ => n - (intOf i).toNat)
    case atStart => exact ⟨0, cur0, Nat.zero_le _, rfl, by simp, hh0, hcs0, Only.refl _ _, fun i hi => absurd hi (by omega)⟩
    case round =>
      obtain ⟨j, cur, hj, rfl, rfl, hh, hcs, ho, HC⟩ := hrel
      by_cases hlt : j < n
      · have f1 : ∀ i, wr.frozen? ⟨g, i, none⟩ = false := fun i => blk_frozen hh i
        have f2 : ∀ i u, (wr.setCell ⟨g, i, none⟩ u).frozen? ⟨g, i + 1, none⟩ = false := fun i u => blk_frozen (blk_set hh i u) _
        obtain ⟨u1, hu1⟩ : ∃ u, wr.cell? ⟨g, j * 3, none⟩ = some u := by
          rw [blk_cell hh]
          exact ⟨_, Array.getElem?_eq_getElem (by omega)⟩
        obtain ⟨u2, hu2⟩ : ∃ u, wr.cell? ⟨g, j * 3 + 1, none⟩ = some u := by
          rw [blk_cell hh]
          exact ⟨_, Array.getElem?_eq_getElem (by omega)⟩
        have HH1 := Lib.hid (blk_set (blk_set hh (j * 3) (.int .i64 (k + (j : Int) * 3))) (j * 3 + 1) (.int .i64 (k + (j : Int) * 3 + 1)))
        have HS := Lib.hid (trip_step (F := fun i => .int .i64 (k + (i : Int) * 3)) (G := fun i => .int .i64 (k + (i : Int) * 3 + 1)) (H := fun i => .string (mtx (k + (i : Int) * 3 + 1 + 1))) (j := j) (by omega) HC.out)
        have hO1 : Only g w ((wr.setCell ⟨g, j * 3, none⟩ (.int .i64 (k + (j : Int) * 3))).setCell ⟨g, j * 3 + 1, none⟩ (.int .i64 (k + (j : Int) * 3 + 1))) := (ho.setCell _).setCell _
        clear hh
        go_wp2_with fail
        refine (markTextD_c (k + (j : Int) * 3 + 1 + 1) _ (by omega) (by omega)).mono ?_
        rintro e w1 ⟨rfl, hg1⟩
        have hh1 := (hg1.block (blk_lt HH1.out)).trans HH1.out
        have f3 : w1.frozen? ⟨g, j * 3 + 2, none⟩ = false := blk_frozen hh1 _
        obtain ⟨u3, hu3⟩ : ∃ u, w1.cell? ⟨g, j * 3 + 2, none⟩ = some u := by
          rw [blk_cell hh1]
          exact ⟨_, Array.getElem?_eq_getElem (by simp; omega)⟩
        have HH2 := Lib.hid hh1
        clear hh1
        go_wp2_with fail
        go_roundw
        case rel => exact ⟨j + 1, _, by omega, by go_num, by go_num, blk_set HH2.out _ _, by simp [hcs], (hO1.grew hg1).setCell _, HS.out⟩
        case measure => simp [intOf]; omega
      · obtain rfl : j = n := by omega
        have HH := Lib.hid hh
        clear hh
        go_wp2_with fail
        go_ret
        exact ⟨rfl, HE.out _ _ HH.out hcs HC.out, ho⟩
theorem markTermNodeS_w (v : Value) (xs : List Tn) (B : Nat) (k : Int) (w : World) (h : OwnT w B v xs) (hk0 : 0 ≤ k) (hk : k ≤ 1099511627776) (hn : xs.length ≤ 1048576) :
    Calls Tryz.prog 16 #[v, .int .i64 k] w fun e w' => e = .returned (.int .i64 (k + xs.length * 3)) ∧ w.grownBy w' v.ownBlock :=
  (markTermNodeS_m v xs B k w h hk0 hk hn).mono fun _ _ ⟨h1, _, h3⟩ => ⟨h1, h3⟩

/-- heldTermNodeS finds the marks that stand there. -/
theorem heldTermNodeS_c (v : Value) (n : Nat) (k : Int) (w : World) (h : Tms w v (tmarks k n)) (hk0 : 0 ≤ k) (hk : k ≤ 1099511627776) (hn : n ≤ 1048576) :
    Calls Tryz.prog 17 #[v, .int .i64 k] w fun e w' => e = .returned (.int .i64 (k + n * 3)) ∧ Grew w w' := by
  have hl := tmarks_length k n
  rcases h.open_ with ⟨rfl, h0⟩ | ⟨b, o, c, rfl, hc, hm, hb, hf⟩
  · obtain rfl : n = 0 := by rw [h0] at hl; simpa using hl.symm
    go_enter Tryz.func17, Tryz.ntmps17
    go_wp2_with fail
    refine wp_loop_rounds 1 ?_; rw [rounds_succ]
    go_wp2_with fail
    go_ret
    exact ⟨by simp, Grew.refl _⟩
  · rw [hl] at hc hf ⊢
    clear hl h
    have HF : Hid (∀ i, i < n → ∀ W, Grew w W → W.cell? ⟨b, o + i * 3, none⟩ = some (.int .i64 (k + (i : Int) * 3)) ∧ W.cell? ⟨b, o + i * 3 + 1, none⟩ = some (.int .i64 (k + (i : Int) * 3 + 1)) ∧ W.cell? ⟨b, o + i * 3 + 2, none⟩ = some (.string (mtx (k + (i : Int) * 3 + 1 + 1)))) := Lib.hid fun i hi W hW => by
      have := hf i hi W hW
      rwa [tmarks_tk hi, tmarks_tn hi, tmarks_tt hi] at this
    clear hf
    go_enter Tryz.func17, Tryz.ntmps17
    go_wp2_with fail
    go_loopw [1, 5] (fun kk i wr => ∃ (j : Nat), j ≤ n ∧ i = .int .i64 j ∧ kk = .int .i64 (k + (j : Int) * 3) ∧ Grew w wr) (fun _ i _ => n - (intOf i).toNat)
    case atStart => exact ⟨0, Nat.zero_le _, rfl, by simp, Grew.refl _⟩
    case round =>
      obtain ⟨j, hj, rfl, rfl, hB⟩ := hrel
      by_cases hlt : j < n
      · have k1 : ∀ W, Grew w W → W.cell? ⟨b, o + j * 3, none⟩ = some (.int .i64 (k + (j : Int) * 3)) := fun W hW => (HF.out j hlt W hW).1
        have k2 : ∀ W, Grew w W → W.cell? ⟨b, o + j * 3 + 1, none⟩ = some (.int .i64 (k + (j : Int) * 3 + 1)) := fun W hW => (HF.out j hlt W hW).2.1
        have k3 : ∀ W, Grew w W → W.cell? ⟨b, o + j * 3 + 2, none⟩ = some (.string (mtx (k + (j : Int) * 3 + 1 + 1))) := fun W hW => (HF.out j hlt W hW).2.2
        have HMT := Lib.hid (fun W => markTextD_c (k + (j : Int) * 3 + 1 + 1) W (by omega) (by omega))
        generalize mtx (k + (j : Int) * 3 + 1 + 1) = z at *
        have hz : (z.toList != z.toList) = false := by simp
        have hrr := hB
        have hdr := hB.drew
        go_wp2_with fail
        go_region_held3 (fun w' => Grew w w') (with_reducible assumption)
          (first | (go_at_call 57; refine (HMT.out _).mono ?_; rintro e w1 ⟨rfl, hg1⟩; have hk1 : Grew w w1 := hdr.trans hg1))
        go_wp2_with fail
        go_roundw
        case rel => exact ⟨j + 1, by omega, by go_num, by go_num, hk1⟩
        case measure => simp [intOf]; omega
      · obtain rfl : j = n := by omega
        go_wp2_with fail
        go_ret
        exact ⟨rfl, by assumption⟩
end Go.Proofs.YthofkdpmgjkgkaaGreat

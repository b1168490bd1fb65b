/- The laws' own helpers on slices of nodes: eqNode, eqNodeS, markNodeS, heldNodeS. -/
import Derived.Test.YtpbaiadaanpllaaNodes
import Derived.Deep.RegionHeld3
namespace Go.Proofs.Ytpbaiadaanpllaa
open Go.RowKit
open Fm (Nd)

theorem eqNode_c (a b c d : Int) (w : World) :
    Calls Try.prog 58 #[.agg #[.int .i64 a, .int .i64 b], .agg #[.int .i64 c, .int .i64 d]] w fun e w' => e = .returned (.bool (a == c && b == d)) ∧ Grew w w' := by
  have hz : ∀ o1 o2, Grew w ((w.alloc o1).alloc o2) := fun o1 o2 => ((Grew.refl _).alloc _).alloc _
  go_enter Try.func58, Try.ntmps58
  go_wp2
  · have h1 : (a != c) = true := by assumption
    go_ret
    exact ⟨by have : (a == c) = false := by simpa using h1
              simp [this], hz _ _⟩
  · have h1 : (a != c) = false := by assumption
    have h2 : (b != d) = true := by assumption
    go_ret
    exact ⟨by have : (b == d) = false := by simpa using h2
              simp [this], hz _ _⟩
  · have h1 : (a != c) = false := by assumption
    have h2 : (b != d) = false := by assumption
    go_ret
    exact ⟨by simp at h1 h2; simp [h1, h2], hz _ _⟩

/-- Two lists that agree as far as k. -/
def Agree (xs ys : List Nd) (k : Nat) : Prop := ∀ i, i < k → kd xs i = kd ys i ∧ sy xs i = sy ys i
theorem Agree.zero (xs ys : List Nd) : Agree xs ys 0 := fun i hi => absurd hi (by omega)
theorem Agree.succ {xs ys : List Nd} {k : Nat} (h : Agree xs ys k) (h1 : kd xs k = kd ys k) (h2 : sy xs k = sy ys k) : Agree xs ys (k + 1) := by
  intro i hi
  rcases Nat.lt_or_ge i k with hk | hk
  · exact h i hk
  · obtain rfl : i = k := by omega
    exact ⟨h1, h2⟩

/-- Two lists that are equal, at any two values. -/
theorem eqNodeS_yes (v1 v2 : Value) (xs : List Nd) (w : World) (h1 : Nodes w v1 xs) (h2 : Nodes w v2 xs) (hn : xs.length ≤ 4611686018427387904) :
    Calls Try.prog 14 #[v1, v2] w fun e w' => e = .returned (.bool true) ∧ Grew w w' := by
  rcases h1.open_ with ⟨rfl, rfl⟩ | ⟨b1, o1, c1, rfl, hc1, hm1, hb1, hf⟩
  · rcases h2.open_ with ⟨rfl, _⟩ | ⟨b2, o2, c2, rfl, _⟩
    all_goals
      go_enter Try.func14, Try.ntmps14
      go_wp2_with fail
      refine wp_loop_rounds 1 ?_; rw [rounds_succ]
      go_wp2_with fail
      go_ret
      exact ⟨rfl, Grew.refl _⟩
  · rcases h2.open_ with ⟨rfl, rfl⟩ | ⟨b2, o2, c2, rfl, hc2, hm2, hb2, hh⟩
    · go_enter Try.func14, Try.ntmps14
      go_wp2_with fail
      refine wp_loop_rounds 1 ?_; rw [rounds_succ]
      go_wp2_with fail
      go_ret
      exact ⟨rfl, Grew.refl _⟩
    · clear h1 h2
      generalize hN : xs.length = n at *
      clear hN
      go_enter Try.func14, Try.ntmps14
      go_wp2_with fail
      go_loopw [5] (fun i wr => ∃ j : Nat, j ≤ n ∧ i = .int .i64 j ∧ Grew w wr) (fun i _ => n - (intOf i).toNat)
      case atStart => exact ⟨0, Nat.zero_le _, rfl, Grew.refl _⟩
      case round =>
        obtain ⟨j, hj, rfl, hB⟩ := hrel
        by_cases hlt : j < n
        · have k1 : ∀ W, Grew w W → W.cell? ⟨b1, o1 + j * 2, none⟩ = some (.int .i64 (kd xs j)) := fun W hW => (hf j hlt W hW).1
          have k2 : ∀ W, Grew w W → W.cell? ⟨b1, o1 + j * 2 + 1, none⟩ = some (.int .i64 (sy xs j)) := fun W hW => (hf j hlt W hW).2
          have k3 : ∀ W, Grew w W → W.cell? ⟨b2, o2 + j * 2, none⟩ = some (.int .i64 (kd xs j)) := fun W hW => (hh j hlt W hW).1
          have k4 : ∀ W, Grew w W → W.cell? ⟨b2, o2 + j * 2 + 1, none⟩ = some (.int .i64 (sy xs j)) := fun W hW => (hh j hlt W hW).2
          clear hf hh
          go_wp2_with fail
          go_region_held3 (fun w' => Grew w w') (first | assumption | exact Grew.drew ‹_› | exact Grew.trans ‹_› ‹_›)
            (first | (go_at_call 58; refine (eqNode_c _ _ _ _ _).mono ?_; rintro e w' ⟨rfl, hB1⟩))
          go_wp2_with fail
          go_roundw
          case rel => exact ⟨j + 1, by omega, by go_num, by assumption⟩
          case measure => simp [intOf]; omega
        · go_wp2_with fail
          go_ret
          exact ⟨rfl, by assumption⟩

/-- The numbers that markNodeS lays. -/
def marks (k : Int) (n : Nat) : List Nd := (List.range n).map fun i : Nat => ((k + (i : Int) * 2, k + (i : Int) * 2 + 1) : Nd)
theorem marks_length (k : Int) (n : Nat) : (marks k n).length = n := by simp [marks]
theorem marks_kd {k : Int} {n i : Nat} (h : i < n) : kd (marks k n) i = k + i * 2 := by simp [marks, kd, List.getD, h]
theorem marks_sy {k : Int} {n i : Nat} (h : i < n) : sy (marks k n) i = k + i * 2 + 1 := by simp [marks, sy, List.getD, h]

/-- markNodeS lays its numbers into a row of the call's own. -/
theorem markNodeS_c (v : Value) (xs : List Nd) (B : Nat) (k : Int) (w : World) (h : Own w B v xs) (hk0 : 0 ≤ k) (hk : k ≤ 4611686018427387904) (hn : xs.length ≤ 1099511627776) :
    Calls Try.prog 15 #[v, .int .i64 k] w fun e w' => e = .returned (.int .i64 (k + xs.length * 2)) ∧ Own w' B v (marks k xs.length) ∧ (∀ g, v.ownBlock = some g → Only g w w') ∧ (v.ownBlock = none → Grew w w') := by
  rcases h.open_ with ⟨rfl, rfl⟩ | ⟨g, c, cur0, rfl, hB, hg, hh0, hnc, hcm, hcs0, hc0⟩
  · go_enter Try.func15, Try.ntmps15
    go_wp2_with fail
    refine wp_loop_rounds 1 ?_; rw [rounds_succ]
    go_wp2_with fail
    go_ret
    exact ⟨by simp, by simpa [marks] using Own.nil_ _ _, fun _ _ => Only.refl _ _, fun _ => Grew.refl _⟩
  · have hend : ∀ cur w', w'.heap[g]? = some (.cells cur 83 (0, 0)) → cur.size = c * 2 → (∀ i, i < xs.length → cur[i * 2]? = some (.int .i64 (k + (i : Int) * 2)) ∧ cur[i * 2 + 1]? = some (.int .i64 (k + (i : Int) * 2 + 1))) → Own w' B (.slice (some ⟨g, 0, none⟩) xs.length c) (marks k xs.length) := by
      intro cur w' h1 h2 h3
      have := Own.mk_ (w := w') (B := B) (xs := marks k xs.length) (g := g) (c := c) (cur := cur) hB h1 (by rw [marks_length]; exact hnc) hcm h2 (fun i hi => by
        rw [marks_length] at hi
        rw [marks_kd hi, marks_sy hi]
        exact h3 i hi)
      rw [marks_length] at this
      exact this
    generalize hN : xs.length = n at *
    clear hN hc0 h
    have HE := Lib.hid hend
    clear hend
    go_enter Try.func15, Try.ntmps15
    go_wp2_with fail
    go_loopw [1, 5] (fun kk i wr => ∃ (j : Nat) (cur : Array Value), j ≤ n ∧ i = .int .i64 j ∧ kk = .int .i64 (k + (j : Int) * 2) ∧ wr.heap[g]? = some (.cells cur 83 (0, 0)) ∧ cur.size = c * 2 ∧ Only g w wr ∧ (∀ i, i < j → cur[i * 2]? = some (.int .i64 (k + (i : Int) * 2)) ∧ cur[i * 2 + 1]? = some (.int .i64 (k + (i : Int) * 2 + 1)))) (fun _ i _ => n - (intOf i).toNat)
    case atStart => exact ⟨0, cur0, Nat.zero_le _, rfl, by simp, hh0, hcs0, Only.refl _ _, fun i hi => absurd hi (by omega)⟩
    case round =>
      obtain ⟨j, cur, hj, rfl, rfl, hh, hcs, ho, hc⟩ := hrel
      have HC := Lib.hid hc
      clear hc
      by_cases hlt : j < n
      · have f1 : ∀ i, wr.frozen? ⟨g, i, none⟩ = false := fun i => by simp [World.frozen?, hh]
        have f2 : ∀ i u, (wr.setCell ⟨g, i, none⟩ u).frozen? ⟨g, i + 1, none⟩ = false := fun i u => by simp [World.frozen?, World.setCell, Array.getElem?_modify, hh]
        obtain ⟨u1, hu1⟩ : ∃ u, wr.cell? ⟨g, 0 + j * 2, none⟩ = some u := by
          rw [cell_of_row wr g _ cur _ (0, 0) hh]
          exact ⟨_, Array.getElem?_eq_getElem (by omega)⟩
        obtain ⟨u2, hu2⟩ : ∃ u, wr.cell? ⟨g, 0 + j * 2 + 1, none⟩ = some u := by
          rw [cell_of_row wr g _ cur _ (0, 0) hh]
          exact ⟨_, Array.getElem?_eq_getElem (by omega)⟩
        simp only [Nat.zero_add] at hu1 hu2
        have HH := Lib.hid hh
        clear hh
        go_wp2_with fail
        go_roundw
        case rel =>
          exact ⟨j + 1, _, by omega, by go_num, by go_num, blk_set (blk_set HH.out _ _) _ _, by simp [hcs], (ho.setCell _).setCell _, pair_step (F := fun i => .int .i64 (k + (i : Int) * 2)) (G := fun i => .int .i64 (k + (i : Int) * 2 + 1)) (by omega) HC.out⟩
        case measure => simp [intOf]; omega
      · obtain rfl : j = n := by omega
        have HH := Lib.hid hh
        clear hh
        go_wp2_with fail
        go_ret
        exact ⟨rfl, HE.out _ _ HH.out hcs HC.out, fun g' hg' => by simp [Value.ownBlock] at hg'; subst hg'; exact ho, fun hg' => by simp [Value.ownBlock] at hg'⟩

/-- heldNodeS finds the numbers that stand there. -/
theorem heldNodeS_c (v : Value) (n : Nat) (k : Int) (w : World) (h : Nodes w v (marks k n)) (hk0 : 0 ≤ k) (hk : k ≤ 4611686018427387904) (hn : n ≤ 1099511627776) :
    Calls Try.prog 16 #[v, .int .i64 k] w fun e w' => e = .returned (.int .i64 (k + n * 2)) ∧ Grew w w' := by
  have hl := marks_length k n
  rcases h.open_ with ⟨rfl, h0⟩ | ⟨b, o, c, rfl, hc, hm, hb, hf⟩
  · obtain rfl : n = 0 := by rw [h0] at hl; simpa using hl.symm
    go_enter Try.func16, Try.ntmps16
    go_wp2_with fail
    refine wp_loop_rounds 1 ?_; rw [rounds_succ]
    go_wp2_with fail
    go_ret
    exact ⟨by simp, Grew.refl _⟩
  · rw [hl] at hc hf ⊢
    clear hl h
    have HF : Hid (∀ i, i < n → ∀ W, Grew w W → W.cell? ⟨b, o + i * 2, none⟩ = some (.int .i64 (k + (i : Int) * 2)) ∧ W.cell? ⟨b, o + i * 2 + 1, none⟩ = some (.int .i64 (k + (i : Int) * 2 + 1))) := Lib.hid fun i hi W hW => by
      have := hf i hi W hW
      rwa [marks_kd hi, marks_sy hi] at this
    clear hf
    go_enter Try.func16, Try.ntmps16
    go_wp2_with fail
    go_loopw [1, 5] (fun kk i wr => ∃ (j : Nat), j ≤ n ∧ i = .int .i64 j ∧ kk = .int .i64 (k + (j : Int) * 2) ∧ Grew w wr) (fun _ i _ => n - (intOf i).toNat)
    case atStart => exact ⟨0, Nat.zero_le _, rfl, by simp, Grew.refl _⟩
    case round =>
      obtain ⟨j, hj, rfl, rfl, hB⟩ := hrel
      by_cases hlt : j < n
      · have k1 : ∀ W, Grew w W → W.cell? ⟨b, o + j * 2, none⟩ = some (.int .i64 (k + (j : Int) * 2)) := fun W hW => (HF.out j hlt W hW).1
        have k2 : ∀ W, Grew w W → W.cell? ⟨b, o + j * 2 + 1, none⟩ = some (.int .i64 (k + (j : Int) * 2 + 1)) := fun W hW => (HF.out j hlt W hW).2
        have hd : ∀ W, Grew w W → Grew w W.drew := fun W h => h.drew
        go_wp2_with fail
        go_roundw
        case rel => exact ⟨j + 1, by omega, by go_num, by go_num, by assumption⟩
        case measure => simp [intOf]; omega
      · obtain rfl : j = n := by omega
        go_wp2_with fail
        go_ret
        exact ⟨rfl, by assumption⟩
/-- What markNodeS leaves: every world that was there before the row was made has not changed. -/
def Marks (w : World) (B : Nat) (v : Value) (k : Int) (n : Nat) (e : Ending) (w' : World) : Prop :=
  e = .returned (.int .i64 (k + n * 2)) ∧ Own w' B v (marks k n) ∧ ∀ w0 : World, w0.heap.size ≤ B → Grew w0 w → Grew w0 w'
theorem markNodeS_g (v : Value) (xs : List Nd) (B : Nat) (k : Int) (w : World) (h : Own w B v xs) (hk0 : 0 ≤ k) (hk : k ≤ 4611686018427387904) (hn : xs.length ≤ 1099511627776) :
    Calls Try.prog 15 #[v, .int .i64 k] w (Marks w B v k xs.length) :=
  (markNodeS_c v xs B k w h hk0 hk hn).mono fun e w' ⟨h1, h2, h3, h4⟩ => ⟨h1, h2, fun w0 hB hg => by
    cases hv : v.ownBlock with
    | none => exact hg.trans (h4 hv)
    | some g => exact (h3 g hv).grew_of hg (Nat.le_trans hB (h.lt g hv).1)⟩

end Go.Proofs.Ytpbaiadaanpllaa

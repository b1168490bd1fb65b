/- The smallest formulas, and the formulas of a kind: the program's and the reference's makers. -/
import Derived.Test.YthofkdpmgjkgkaaGreatNodes
import Derived.Outline
namespace Go.Proofs.YthofkdpmgjkgkaaGreat
open Go.RowKit
open Fm (Nd)

/-- The call returns a new list of nodes and changes nothing that was there. -/
def Gives (w : World) (xs : List Nd) (e : Ending) (w' : World) : Prop := ∃ v, e = .returned v ∧ Own w' w.heap.size v xs ∧ Grew w w'

/-- A new block that holds one node. -/
theorem Own.one (w : World) (B : Nat) (k s : Int) (hB : B ≤ w.heap.size) : Own (w.alloc (.cells #[.int .i64 k, .int .i64 s] 135)) B (.slice (some ⟨w.heap.size, 0, none⟩) 1 1) [(k, s)] :=
  Own.lit w B [(k, s)] #[.int .i64 k, .int .i64 s] hB (by simp) rfl

theorem l02Pair_c (k : Int) (va vb : Value) (xs ys : List Nd) (w : World) (ha : Nodes w va xs) (hb : Nodes w vb ys) (hn : xs.length + ys.length ≤ 1099511627775) :
    Calls Tryz.prog 126 #[.int .i64 k, va, vb] w (Gives w (Fm.join k xs ys)) := by
  go_enter Tryz.func126, Tryz.ntmps126
  go_wp2_with (first
    | (at_builtin; refine wpList_app (w0 := w) (.tmp 9) (.tmp 10) rfl rfl _ [(k, 0)] rfl (Own.one w _ k 0 (Nat.le_refl _)) ((Grew.refl w).alloc _) va xs rfl (ha.grew ((Grew.refl w).alloc _)) (by simp; omega) ?_; intro v1 w1 hown1 hg1 _)
    | (at_builtin; refine wpList_app (w0 := w) (.tmp 11) (.tmp 12) rfl rfl _ _ rfl hown1 hg1 vb ys rfl (hb.grew hg1) (by simp; omega) ?_; intro v2 w2 hown2 hg2 _))
  go_ret
  exact ⟨_, rfl, by simpa [Fm.join] using hown2, hg2⟩
theorem l02Pre_c (k : Int) (va : Value) (xs : List Nd) (w : World) (ha : Nodes w va xs) (hn : xs.length ≤ 1099511627775) :
    Calls Tryz.prog 206 #[.int .i64 k, va] w (Gives w (Fm.pre k xs)) := by
  go_enter Tryz.func206, Tryz.ntmps206
  go_wp2_with (first
    | (at_builtin; refine wpList_app (w0 := w) _ _ rfl rfl _ [(k, 0)] rfl (Own.one w _ k 0 (Nat.le_refl _)) ((Grew.refl w).alloc _) va xs rfl (ha.grew ((Grew.refl w).alloc _)) (by simp; omega) ?_; intro v1 w1 hown1 hg1 _))
  go_ret
  exact ⟨_, rfl, by simpa [Fm.pre] using hown1, hg1⟩

theorem l02False_c (w : World) : Calls Tryz.prog 182 #[] w (Gives w Fm.falsum) := by
  have h := Own.one w _ 1 0 (Nat.le_refl _)
  go_enter Tryz.func182, Tryz.ntmps182
  go_wp2_with fail
  go_ret
  exact ⟨_, rfl, h, (Grew.refl w).alloc _⟩

theorem l02Var_c (v : Int) (w : World) : Calls Tryz.prog 204 #[.int .i64 v] w (Gives w (Fm.vari v)) := by
  have h := Own.one w _ 0 v (Nat.le_refl _)
  go_enter Tryz.func204, Tryz.ntmps204
  go_wp2_with fail
  go_ret
  exact ⟨_, rfl, h, (Grew.refl w).alloc _⟩

theorem l02Not_c (va : Value) (xs : List Nd) (w : World) (ha : Nodes w va xs) (hn : xs.length ≤ 1099511627774) :
    Calls Tryz.prog 181 #[va] w (Gives w (Fm.neg xs)) := by
  go_enter Tryz.func181, Tryz.ntmps181
  go_wp2_with fail
  refine (l02False_c _).mono ?_
  rintro e w1 ⟨v1, rfl, ho1, hg1⟩
  go_wp2_with fail
  refine (l02Pair_c _ _ _ xs Fm.falsum _ (ha.grew hg1) ho1.nodes (by simp [Fm.falsum]; omega)).mono ?_
  rintro e w2 ⟨v2, rfl, ho2, hg2⟩
  go_wp2_with fail
  go_ret
  exact ⟨_, rfl, ho2.base hg1.size, hg1.trans hg2⟩

theorem l02True_c (w : World) : Calls Tryz.prog 172 #[] w (Gives w Fm.truth) := by
  go_enter Tryz.func172, Tryz.ntmps172
  go_wp2_with fail
  refine (l02False_c _).mono ?_
  rintro e w1 ⟨v1, rfl, ho1, hg1⟩
  go_wp2_with fail
  refine (l02Not_c _ Fm.falsum _ ho1.nodes (by simp [Fm.falsum])).mono ?_
  rintro e w2 ⟨v2, rfl, ho2, hg2⟩
  go_wp2_with fail
  go_ret
  exact ⟨_, rfl, ho2.base hg1.size, hg1.trans hg2⟩

theorem falsum_c (w : World) : Calls Tryz.prog 207 #[] w (Gives w Fm.falsum) := by
  have h := Own.one w _ 1 0 (Nat.le_refl _)
  go_enter Tryz.func207, Tryz.ntmps207
  go_wp2_with fail
  go_ret
  exact ⟨_, rfl, h, (Grew.refl w).alloc _⟩

theorem truth_c (w : World) : Calls Tryz.prog 208 #[] w (Gives w Fm.truth) := by
  have h := Own.lit w w.heap.size Fm.truth #[.int .i64 4, .int .i64 0, .int .i64 1, .int .i64 0, .int .i64 1, .int .i64 0] (Nat.le_refl _) (by simp [Fm.truth]) rfl
  go_enter Tryz.func208, Tryz.ntmps208
  go_wp2_with fail
  go_ret
  exact ⟨_, rfl, h, (Grew.refl w).alloc _⟩

theorem variable_c (v : Int) (w : World) : Calls Tryz.prog 209 #[.int .i64 v] w (Gives w (Fm.vari v)) := by
  have h := Own.one w _ 0 v (Nat.le_refl _)
  go_enter Tryz.func209, Tryz.ntmps209
  go_wp2_with fail
  go_ret
  exact ⟨_, rfl, h, (Grew.refl w).alloc _⟩

theorem grow_c (n : Nat) (w : World) (hn : n ≤ 1099511627776) :
    Calls Tryz.prog 191 #[.slice none 0 0, .int .i64 n] w (Gives w []) := by
  obtain ⟨i0, hi0, hz0, hz1, hz2⟩ := info_parts Tryz.infoNd
  rcases Nat.eq_zero_or_pos n with rfl | h0
  · go_enter Tryz.func191, Tryz.ntmps191
    go_wp2_with fail
    go_ret
    exact ⟨_, rfl, Own.nil_ _ _, Grew.refl _⟩
  · have hr := fun ty => run_grow_nil (P := Tryz.prog) w 101 3 ty 135 i0 _ 2 Tryz.underlying101 Tryz.underlying3 hi0 hz0 hz1 rfl (by omega) n h0 (by rw [hz2]; omega) (by omega)
    have HR := Lib.hid hr
    clear hr hz0 hz1 hz2 hi0
    go_enter Tryz.func191, Tryz.ntmps191
    go_wp2_with (at_builtin; obtain ⟨G, cs, hG1, hG2, hcs, hrun⟩ := HR.out _; refine Lib.wpList_append_run _ rfl _ _ _ _ rfl _ _ rfl rfl _ _ hrun ?_; have HC := Lib.hid hcs; clear hcs hrun)
    go_ret
    refine ⟨_, rfl, ?_, ((Grew.refl w).alloc _).drew⟩
    exact Own.mk_ (xs := []) (Nat.le_refl _) (blk_new w _) (by simp) hG2 HC.out (by simp)

/-- A slice of k slices of nodes that lies in memory: the j-th reads as L[j]. -/
def Lists (w : World) (v : Value) (L : List (List Nd)) : Prop :=
  (v = .slice none 0 0 ∧ L = []) ∨ ∃ b o c, v = .slice (some ⟨b, o, none⟩) L.length c ∧ L.length ≤ c ∧ c ≤ 9223372036854775807 ∧ b < w.heap.size ∧
    ∀ i, i < L.length → ∃ u, w.cell? ⟨b, o + i, none⟩ = some u ∧ Nodes w u (L.getD i [])
theorem Lists.grew {w w' : World} {v : Value} {L : List (List Nd)} (h : Lists w v L) (hb : Grew w w') : Lists w' v L := by
  rcases h with h | ⟨b, o, c, h1, h2, h3, h4, h5⟩
  · exact .inl h
  · refine .inr ⟨b, o, c, h1, h2, h3, Nat.lt_of_lt_of_le h4 hb.size, fun i hi => ?_⟩
    obtain ⟨u, h6, h7⟩ := h5 i hi
    exact ⟨u, (hb.cell (p := ⟨b, o + i, none⟩) h4).trans h6, h7.grew hb⟩
/-- How many nodes the first k lists have. -/
def total (L : List (List Nd)) (k : Nat) : Nat := ((L.take k).flatten).length
theorem total_zero (L : List (List Nd)) : total L 0 = 0 := by unfold total; rw [List.take_zero]; rfl
theorem total_succ {L : List (List Nd)} {k : Nat} (h : k < L.length) : total L (k + 1) = total L k + (L.getD k []).length := by
  unfold total
  rw [List.take_succ_eq_append_getElem h, List.flatten_append, List.length_append]
  simp [List.getD, h]
theorem total_mono {L : List (List Nd)} {k : Nat} : total L k ≤ L.flatten.length := by
  rw [total]
  have : L.flatten = (L.take k).flatten ++ (L.drop k).flatten := by rw [← List.flatten_append, List.take_append_drop]
  rw [this, List.length_append]
  omega
theorem concat_c (v : Value) (L : List (List Nd)) (w : World) (hL : Lists w v L) (hk : L.length ≤ 1099511627776) (hn : L.flatten.length ≤ 1099511627776) :
    Calls Tryz.prog 178 #[v] w (Gives w L.flatten) := by
  have hfull : total L L.length = L.flatten.length := by unfold total; rw [List.take_length]
  rcases hL with ⟨rfl, rfl⟩ | ⟨b, o, c, rfl, hc, hm, hb, hcell⟩
  · go_enter Tryz.func178, Tryz.ntmps178
    go_wp2_with fail
    refine wp_loop_rounds 1 ?_; rw [rounds_succ]
    go_wp2_with fail
    refine (grow_c 0 _ (by omega)).mono ?_
    rintro e w1 ⟨v1, rfl, ho1, hg1⟩
    go_wp2_with fail
    refine wp_loop_rounds 1 ?_; rw [rounds_succ]
    go_wp2_with fail
    go_ret
    exact ⟨_, rfl, ho1, hg1⟩
  · have HF := Lib.hid hfull
    have HC := Lib.hid hcell
    have HN := Lib.hid hn
    clear hfull hcell hn
    generalize hK : L.length = K at *
    have HK := Lib.hid hK
    clear hK
    go_enter Tryz.func178, Tryz.ntmps178
    go_wp2_with fail
    go_loopw [3, 5, 11] (fun n _ i wr => ∃ j : Nat, j ≤ K ∧ i = .int .i64 j ∧ n = .int .i64 (total L j) ∧ Grew w wr) (fun _ _ i _ => K - (intOf i).toNat)
    case atStart => exact ⟨0, Nat.zero_le _, rfl, by simp [total_zero], Grew.refl _⟩
    case round =>
      obtain ⟨j, hj, rfl, rfl, hB⟩ := hrel
      by_cases hlt : j < K
      · have hltL : j < L.length := by rw [HK.out]; exact hlt
        obtain ⟨u, hu1, hu2⟩ := HC.out j hlt
        have hs : total L (j + 1) = total L j + (L.getD j []).length := total_succ hltL
        have hle : total L (j + 1) ≤ 1099511627776 := Nat.le_trans total_mono HN.out
        generalize L.getD j [] = X at *
        obtain ⟨A, cc, rfl⟩ := nodes_slice hu2
        have k1 : ∀ W, Grew w W → W.cell? ⟨b, o + j, none⟩ = some (.slice A X.length cc) := fun W hW => (hW.cell (p := ⟨b, o + j, none⟩) hb).trans hu1
        rw [hs] at hle
        have HS := Lib.hid hs
        clear hs hu1 hu2
        go_wp2_with fail
        go_roundw
        case rel => exact ⟨j + 1, by omega, by go_num, by rw [HS.out]; go_num, by assumption⟩
        case measure => simp [intOf]; omega
      · have hjK : j = K := by omega
        subst hjK
        go_wp2_with fail
        refine (grow_c (total L j) _ (by rw [HF.out]; exact HN.out)).mono ?_
        rintro e w1 ⟨v1, rfl, ho1, hg1⟩
        have hg1' := hB.trans hg1
        have ho1' := ho1.base hB.size
        clear ho1 hg1 hlt
        go_wp2_with fail
        go_loopw [6, 8, 27] (fun v _ i wx => ∃ n : Nat, n ≤ j ∧ i = .int .i64 n ∧ Own wx w.heap.size v (L.take n).flatten ∧ Grew w wx) (fun _ _ i _ => j - (intOf i).toNat)
        case atStart => exact ⟨0, Nat.zero_le _, rfl, by simpa using ho1', hg1'⟩
        case round =>
          obtain ⟨n, hn, rfl, hown, hG⟩ := hrel
          by_cases hlt : n < j
          · have hltL : n < L.length := by rw [HK.out]; exact hlt
            obtain ⟨u, hu1, hu2⟩ := HC.out n hlt
            have hs : total L (n + 1) = total L n + (L.getD n []).length := total_succ hltL
            have hle : total L (n + 1) ≤ 1099511627776 := Nat.le_trans total_mono HN.out
            have hfl : (L.take (n + 1)).flatten = (L.take n).flatten ++ L.getD n [] := by
              rw [List.take_succ_eq_append_getElem hltL, List.flatten_append]
              simp [List.getD, hltL]
            have htl : (L.take n).flatten.length = total L n := rfl
            generalize L.getD n [] = X at *
            have k1 : ∀ W, Grew w W → W.cell? ⟨b, o + n, none⟩ = some u := fun W hW => (hW.cell (p := ⟨b, o + n, none⟩) hb).trans hu1
            have hbd : (L.take n).flatten.length + X.length ≤ 1099511627776 := by rw [htl, ← hs]; exact hle
            have HFL := Lib.hid hfl
            generalize (L.take n).flatten = Y at *
            clear hs hu1 htl hle hfl
            obtain ⟨A, cc, rfl⟩ := nodes_slice hu2
            go_wp2_with (first
              | (at_builtin; refine wpList_app (w0 := w) _ _ rfl rfl _ Y rfl hown hG _ X rfl (hu2.grew hG) hbd ?_; intro v2 w2 hown2 hg2 _))
            go_roundw
            case rel => exact ⟨n + 1, by omega, by go_num, by rw [HFL.out]; assumption, by assumption⟩
            case measure => simp [intOf]; omega
          · have hnj : n = j := by omega
            subst hnj
            have hfl : (L.take n).flatten = L.flatten := by rw [← HK.out, List.take_length]
            rw [hfl] at hown
            clear hfl
            go_wp2_with fail
            go_ret
            exact ⟨_, rfl, hown, hG⟩
end Go.Proofs.YthofkdpmgjkgkaaGreat

/- joinAll of the program. -/
import Derived.Test.YtpbaiadaanpllaaAll
namespace Go.Proofs.Ytpbaiadaanpllaa
open Go.RowKit
open Fm (Nd)

theorem joinAll_c (k : Int) (v : Value) (L : List (List Nd)) (w : World) (h : Lists w v L) (hn : L.length ≤ 1048576) (hf : L.flatten.length ≤ 1073741824) :
    Calls Try.prog 92 #[.int .i64 k, v] w (Gives w (allF k L)) := by
  unfold allF
  rcases Nat.eq_zero_or_pos L.length with h0 | hpos
  · rw [if_pos h0]
    obtain ⟨A, c, rfl⟩ : ∃ A c, v = .slice A 0 c := by
      rcases h with ⟨rfl, _⟩ | ⟨b, o, c, rfl, _⟩
      · exact ⟨_, _, rfl⟩
      · rw [h0]; exact ⟨_, _, rfl⟩
    clear h
    cases hk : (k == 2) with
    | true =>
      rw [if_pos rfl]
      go_enter Try.func92, Try.ntmps92
      go_wp2_with fail
      refine (truth_c _).mono ?_
      rintro e w1 ⟨v1, rfl, ho1, hg1⟩
      go_wp2_with fail
      go_ret
      exact ⟨_, rfl, ho1, hg1⟩
    | false =>
      rw [if_neg (by simp)]
      go_enter Try.func92, Try.ntmps92
      go_wp2_with fail
      refine (falsum_c _).mono ?_
      rintro e w1 ⟨v1, rfl, ho1, hg1⟩
      go_wp2_with fail
      go_ret
      exact ⟨_, rfl, ho1, hg1⟩
  · rw [if_neg (by omega)]
    rcases h with ⟨_, rfl⟩ | ⟨b, o, c, rfl, hc, hm, hb, hcell⟩
    · simp at hpos
    have HC := Lib.hid hcell
    have HS := Lib.hid (fun j (h : j < L.length) => (⟨total_succ h, Nat.le_trans (total_mono (L := L) (k := j + 1)) hf⟩ : total L (j + 1) = total L j + (L.getD j []).length ∧ total L (j + 1) ≤ 1073741824))
    have HT := Lib.hid (fun j => Nat.le_trans (total_mono (L := L) (k := j)) hf)
    have HFS := Lib.hid (fun j (h : j < L.length) => @flatten_succ L j h)
    have HZ := Lib.hid (total_zero L)
    clear hcell hf
    generalize hN : L.length = n at *
    clear hN
    go_enter Try.func92, Try.ntmps92
    go_wp2_with fail
    go_loopw [5, 7, 23] (fun s _ i wr => ∃ j : Nat, j ≤ n ∧ i = .int .i64 j ∧ s = .int .i64 ((n : Int) - 1 + total L j) ∧ Grew w wr) (fun _ _ i _ => n - (intOf i).toNat)
    case atStart => exact ⟨0, Nat.zero_le _, rfl, by rw [HZ.out]; simp, Grew.refl _⟩
    case round =>
      obtain ⟨j, hj, rfl, rfl, hB⟩ := hrel
      have hT := HT.out j
      by_cases hlt : j < n
      · obtain ⟨u, hu1, hu2⟩ := HC.out j hlt
        obtain ⟨hs, hle⟩ := HS.out j hlt
        generalize L.getD j [] = X at *
        obtain ⟨A, cc, rfl⟩ := nodes_slice hu2
        have k1 := (hB.cell (p := ⟨b, o + j, none⟩) hb).trans hu1
        rw [hs] at hle
        have HSS := Lib.hid hs
        clear hs hu1 hu2
        go_wp2_with fail
        go_roundw
        case rel => exact ⟨j + 1, by omega, by go_num, by rw [HSS.out]; go_num, by assumption⟩
        case measure => simp [intOf]; omega
      · obtain rfl : j = n := by omega
        obtain ⟨i0, hi0, hz0, hz1, hz2⟩ := info_parts Try.infoNd
        have hm1 : ((j : Int) - 1 + total L j) = ((j - 1 + total L j : Nat) : Int) := by omega
        go_wp2_with (first | (refine wpList_make_own _ rfl _ _ 22 rfl w.heap.size 83 i0 _ 2 Try.underlying22 hi0 hz0 hz1 .i64 .i64 _ (j - 1 + total L j) rfl rfl hm1 (by rw [hz2]; omega) (by unfold maxLen; omega) hB.size ?_; intro w1 how1 hgr1))
        have hB1 : Grew w w1 := hB.trans ⟨hgr1.os, hgr1.tape, hgr1.output, hgr1.size, fun i hi => hgr1.block i hi (by simp)⟩
        clear hi0 hz0 hz1 hz2 hm1 hgr1 hB hT
        go_loopw [8, 37] (fun vv i wx => ∃ m : Nat, m ≤ j - 1 ∧ i = .int .i64 m ∧ Own wx w.heap.size vv (List.replicate m (k, 0)) ∧ Grew w wx) (fun _ i _ => j - 1 - (intOf i).toNat)
        case atStart => exact ⟨0, Nat.zero_le _, rfl, how1, hB1⟩
        case round =>
          clear how1 hB1
          obtain ⟨m, hm2, rfl, hO, hB⟩ := hrel
          by_cases hlt2 : m < j - 1
          · have hlt3 : (m : Int) < (j : Int) - 1 := by omega
            have hO1 := hO.grew ((Grew.refl _).alloc (.cells #[.int .i64 k, .int .i64 0] 83))
            have h1 := (Own.one wr _ k 0 (Nat.le_refl _)).nodes
            go_wp2_with (first | (at_builtin; refine wpList_app (w0 := w) _ _ rfl rfl _ (List.replicate m (k, 0)) rfl hO1 (hB.alloc _) _ [(k, 0)] rfl h1 (by simp; omega) ?_; intro v2 w2 hown2 hg2 _))
            go_roundw
            case rel => exact ⟨m + 1, by omega, by go_num, by rw [List.replicate_succ']; exact hown2, hg2⟩
            case measure => simp [intOf]; omega
          · obtain rfl : m = j - 1 := by omega
            have hge : ¬ ((j - 1 : Nat) : Int) < (j : Int) - 1 := by omega
            have hlr : (List.replicate (j - 1) ((k, 0) : Nd)).length = j - 1 := by simp
            have HG := Lib.hid (show List.replicate (j - 1) ((k, 0) : Nd) ++ (L.take j).flatten = upto k L j from rfl)
            clear hm2 hlt2 hlt
            have h00 : List.replicate (j - 1) ((k, 0) : Nd) ++ (L.take 0).flatten = List.replicate (j - 1) ((k, 0) : Nd) := by simp
            have H00 := Lib.hid h00
            clear h00
            generalize List.replicate (j - 1) ((k, 0) : Nd) = R at *
            go_wp2_with fail
            go_loopw [8, 10, 47] (fun vv _ i wy => ∃ m : Nat, m ≤ j ∧ i = .int .i64 m ∧ Own wy w.heap.size vv (R ++ (L.take m).flatten) ∧ Grew w wy) (fun _ _ i _ => j - (intOf i).toNat)
            case atStart => exact ⟨0, Nat.zero_le _, rfl, by rw [H00.out]; exact hO, hB⟩
            case round =>
              clear hO hB
              obtain ⟨m, hm2, rfl, hO, hB⟩ := hrel
              by_cases hlt : m < j
              · obtain ⟨u, hu1, hu2⟩ := HC.out m hlt
                obtain ⟨hs, hle⟩ := HS.out m hlt
                have hfl := HFS.out m hlt
                have htl : (L.take m).flatten.length = total L m := rfl
                rw [hs, ← htl] at hle
                clear hs htl
                generalize L.getD m [] = X at *
                obtain ⟨A, cc, rfl⟩ := nodes_slice hu2
                have k1 := (hB.cell (p := ⟨b, o + m, none⟩) hb).trans hu1
                have HFL := Lib.hid hfl
                clear hfl hu1
                generalize (L.take m).flatten = Y at *
                have hbd : (R ++ Y).length + X.length ≤ 1099511627776 := by rw [List.length_append, hlr]; omega
                go_wp2_with (first | (at_builtin; refine wpList_app (w0 := w) _ _ rfl rfl _ (R ++ Y) rfl hO hB _ X rfl (hu2.grew hB) hbd ?_; intro v2 w2 hown2 hg2 _))
                go_roundw
                case rel => exact ⟨m + 1, by omega, by go_num, by rw [HFL.out, ← List.append_assoc]; exact hown2, hg2⟩
                case measure => simp [intOf]; omega
              · obtain rfl : m = j := by omega
                rw [HG.out] at hO
                go_wp2_with fail
                go_ret
                exact ⟨_, rfl, hO, hB⟩
end Go.Proofs.Ytpbaiadaanpllaa

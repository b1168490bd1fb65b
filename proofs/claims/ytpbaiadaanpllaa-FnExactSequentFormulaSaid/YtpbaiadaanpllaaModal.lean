/- A sequent of texts: the laws' own helpers and IsModalSequent of both. -/
import Derived.Test.YtpbaiadaanpllaaSide
import Derived.Test.YtpbaiadaanpllaaStrLaw
namespace Go.Proofs.Ytpbaiadaanpllaa
open Go.RowKit
open Fm (Nd)

theorem isSide_c (v : Value) (L : List ByteArray) (w : World) (h : Strs w v L) (hs : Fits L) (hn : L.length ≤ 1048576) :
    Calls Try.prog 104 #[v] w fun e w' => e = .returned (.bool (asc L)) ∧ Grew w w' := by
  rcases h.open_ with ⟨rfl, rfl⟩ | ⟨b, o, c, rfl, hc, hm, hb, hcell⟩
  · rw [asc_true (Asc.zero _)]
    clear h hs
    go_enter Try.func104, Try.ntmps104
    go_wp2_with fail
    refine wp_loop_rounds 1 ?_; rw [rounds_succ]
    go_wp2_with fail
    go_ret
    exact ⟨rfl, Grew.refl _⟩
  obtain ⟨R, hR⟩ : ∃ R, R = asc L := ⟨_, rfl⟩
  rw [← hR]
  have HT := Lib.hid (fun h => hR.trans (@asc_true L h))
  have HB := Lib.hid (fun k hk h => hR.trans (@asc_bad L k hk h))
  have HL := Lib.hid (fun k hk h => hR.trans (@asc_low L k hk h))
  have HC := Lib.hid hcell
  have HS := Lib.hid hs
  clear hcell h hs hR
  unfold Fits at HS
  generalize hN : L.length = n at *
  clear hN
  go_enter Try.func104, Try.ntmps104
  go_wp2_with fail
  go_loopw [3, 4, 7] (fun _ _ i wr => ∃ j : Nat, j ≤ n ∧ i = .int .i64 j ∧ Grew w wr ∧ Hid (Asc L j)) (fun _ _ i _ => n - (intOf i).toNat)
  case atStart => exact ⟨0, Nat.zero_le _, rfl, Grew.refl _, Asc.zero _⟩
  case round =>
    obtain ⟨j, hj, rfl, hB, HJ⟩ := hrel
    by_cases hlt : j < n
    · have k1 : ∀ W, Grew w W → W.cell? ⟨b, o + j, none⟩ = some (.string (st L j)) := fun W hW => HC.out j hlt W hW
      have hsz := HS.out j hlt
      have hG := Lib.hid (fun w => isText_c (st L j) w (by omega))
      have k2 := k1 _ hB
      go_wp2_with fail
      refine (hG.out _).mono ?_
      rintro e w1 ⟨rfl, hg1⟩
      have hB1 := hB.trans hg1
      cases hgd : gd (st L j) with
      | false =>
        have hv := Lib.hid (HB.out j hlt hgd)
        generalize st L j = x at *
        go_wp2_with fail
        go_ret
        rw [hv.out]
        exact ⟨rfl, hB1⟩
      | true =>
        cases j with
        | zero =>
          have HS1 := Lib.hid (HJ.out.succ hgd (fun h => absurd h (by omega)))
          generalize st L 0 = x at *
          go_wp2_with fail
          go_roundw
          case rel => exact ⟨1, by omega, by go_num, hB1, HS1⟩
          case measure => simp [intOf]; omega
        | succ m =>
          have k3 := HC.out m (by omega) _ hB1
          have k4 := k1 _ hB1
          cases hlo : Op.bytesLess (st L m).toList (st L (m + 1)).toList with
          | false =>
            have hv := Lib.hid (HL.out m hlt hlo)
            generalize st L m = y at *
            generalize st L (m + 1) = x at *
            go_wp2_with fail
            go_ret
            rw [hv.out]
            exact ⟨rfl, hB1⟩
          | true =>
            have HS1 := Lib.hid (HJ.out.succ hgd (fun _ => hlo))
            generalize st L m = y at *
            generalize st L (m + 1) = x at *
            go_wp2_with fail
            go_roundw
            case rel => exact ⟨m + 1 + 1, by omega, by go_num, hB1, HS1⟩
            case measure => simp [intOf]; omega
    · obtain rfl : j = n := by omega
      have hv := Lib.hid (HT.out HJ.out)
      go_wp2_with fail
      go_ret
      rw [hv.out]
      exact ⟨rfl, hB⟩

theorem szModalSequent_c (v1 v2 : Value) (L1 L2 : List ByteArray) (w : World) (h1 : ArgS w v1 L1) (h2 : ArgS w v2 L2) :
    Calls Try.prog 17 #[.agg #[v1, v2], .int .i64 1048576] w fun e w' => ∃ r : Int, e = .returned (.int .i64 r) ∧ Grew w w' ∧ (0 ≤ r → (L1.length ≤ 1048576 ∧ Small L1 L1.length) ∧ L2.length ≤ 1048576 ∧ Small L2 L2.length) := by
  have H1 := Lib.hid h1
  have H2 := Lib.hid h2
  clear h1 h2
  go_enter Try.func17, Try.ntmps17
  go_wp2_with fail
  refine (szStringS_c _ L1 _ _ (H1.out.grew ((Grew.refl w).alloc _)) (by omega) (by omega)).mono ?_
  rintro e w1 ⟨r1, rfl, ⟨hr1, hs1⟩, hg1⟩
  have HS1 := Lib.hid hs1
  clear hs1
  by_cases hr : r1 < 0
  · go_wp2_with fail
    go_ret
    exact ⟨_, rfl, Grew.of_alloc hg1, fun h => absurd h (by omega)⟩
  have hc1 : w1.cell? ⟨w.heap.size, 1, none⟩ = some v2 := (hg1.cell (by simp)).trans (by simp)
  go_wp2_with fail
  refine (szStringS_c _ L2 _ _ (H2.out.grew (Grew.of_alloc hg1)) (by omega) (by omega)).mono ?_
  rintro e w2 ⟨r2, rfl, ⟨hr2, hs2⟩, hg2⟩
  have HS2 := Lib.hid hs2
  clear hs2
  by_cases hrr : r2 < 0
  · go_wp2_with fail
    go_ret
    exact ⟨_, rfl, Grew.of_alloc (hg1.trans hg2), fun h => absurd h (by omega)⟩
  · go_wp2_with fail
    go_ret
    exact ⟨_, rfl, Grew.of_alloc (hg1.trans hg2), fun h => ⟨HS1.out (by omega), HS2.out h⟩⟩
end Go.Proofs.Ytpbaiadaanpllaa

/- The law FnExactIsModalSequent, walked. -/
import Derived.Test.YtpbaiadaanpllaaModalB
namespace Go.Proofs.Ytpbaiadaanpllaa
open Go.RowKit
open Fm (Nd)

theorem lawModal_c (v1 v2 : Value) (L1 L2 : List ByteArray) (w : World) (h1 : ArgS w v1 L1) (h2 : ArgS w v2 L2) :
    Calls Try.prog 4 #[.agg #[v1, v2]] w fun e w' => e = .returned (.bool true) ∧ Grew w w' := by
  have K0 := Lib.hid (fun W (hW : Grew w W) => szModalSequent_c v1 v2 L1 L2 W (h1.grew hW) (h2.grew hW))
  have K1 := Lib.hid (fun W (hW : Grew w W) => toModalSequent_c v1 v2 L1 L2 W (h1.grew hW) (h2.grew hW))
  clear h1 h2
  go_enter Try.func4, Try.ntmps4
  go_wp2_with fail
  refine (K0.out _ ((Grew.refl w).alloc _)).mono ?_
  rintro e w1 ⟨r, rfl, hg1, hs⟩
  have hgw := Grew.of_alloc hg1
  by_cases hr : r < 0
  · clear hs
    go_wp2_with fail
    go_ret
    exact ⟨rfl, hgw⟩
  obtain ⟨⟨hn1, hf1⟩, hn2, hf2⟩ := hs (by omega)
  have b0 : ∀ W, Grew w1 W → W.cell? ⟨w.heap.size, 0, none⟩ = some v1 := fun W hW => ((hg1.trans hW).cell (by simp)).trans (by simp)
  have b1 : ∀ W, Grew w1 W → W.cell? ⟨w.heap.size, 1, none⟩ = some v2 := fun W hW => ((hg1.trans hW).cell (by simp)).trans (by simp)
  clear hs
  have F1 := Lib.hid hf1
  have F2 := Lib.hid hf2
  clear hf1 hf2
  have hr1 := Grew.refl w1
  generalize hRR : ((decide (L1.length ≤ 16) && asc L1) && (decide (L2.length ≤ 16) && asc L2)) = RR
  have KS : Hid (∀ a b W, Strs W a L1 → Strs W b L2 → Calls Try.prog 18 #[.agg #[a, b]] W fun e w' => e = .returned (.bool RR) ∧ Grew W w') := Lib.hid (fun a b W h1 h2 => by rw [← hRR]; exact specIs_c a b L1 L2 W h1 h2 F1.out F2.out hn1 hn2)
  have KI : Hid (∀ a b W, Strs W a L1 → Strs W b L2 → Calls Try.prog 20 #[.agg #[a, b]] W fun e w' => e = .returned (.bool RR) ∧ Grew W w') := Lib.hid (fun a b W h1 h2 => by rw [← hRR]; exact implIs_c a b L1 L2 W h1 h2 F1.out F2.out hn1 hn2)
  clear hRR
  go_wp2_with fail
  refine (K1.out _ hgw hn1 hn2).mono ?_
  rintro e w2 ⟨a1, a2, rfl, hs1, hs2, hg2⟩
  go_wp2_with fail
  refine (KS.out _ _ _ hs1 hs2).mono ?_
  rintro e w3 ⟨rfl, hg3⟩
  have hg13 := hg2.trans hg3
  clear hs1 hs2
  go_wp2_with fail
  refine (K1.out _ (hgw.trans hg13) hn1 hn2).mono ?_
  rintro e w4 ⟨a3, a4, rfl, hs3, hs4, hg4⟩
  have hg14 := hg13.trans hg4
  obtain ⟨A3, k3, rfl⟩ := strs_slice hs3
  obtain ⟨A4, k4, rfl⟩ := strs_slice hs4
  go_wp2_with fail
  have hal := (Grew.refl w4).alloc (.cells #[.slice A3 L1.length k3, .slice A4 L2.length k4] 33)
  refine (KI.out _ _ _ (hs3.grew hal) (hs4.grew hal)).mono ?_
  rintro e w5 ⟨rfl, hg5⟩
  have d0 : ∀ W, Grew w5 W → W.cell? ⟨w4.heap.size, 0, none⟩ = some (.slice A3 L1.length k3) := fun W hW => ((hg5.trans hW).cell (by simp)).trans (by simp)
  have d1 : ∀ W, Grew w5 W → W.cell? ⟨w4.heap.size, 1, none⟩ = some (.slice A4 L2.length k4) := fun W hW => ((hg5.trans hW).cell (by simp)).trans (by simp)
  have hg45 := hal.trans hg5
  have hg15 := hg14.trans hg45
  have c0 : ∀ W, Grew w5 W → W.cell? ⟨w.heap.size, 0, none⟩ = some v1 := fun W hW => b0 _ (hg15.trans hW)
  have c1 : ∀ W, Grew w5 W → W.cell? ⟨w.heap.size, 1, none⟩ = some v2 := fun W hW => b1 _ (hg15.trans hW)
  have hr5 := Grew.refl w5
  have hs5 := hs3.grew hg45
  have hs6 := hs4.grew hg45
  have hgw5 := hgw.trans hg15
  clear b0 b1 hs3 hs4 hr1 hal hg5 hg45 hg15 hg14 hg4 hg13 hg3 hg2 hg1 K0 KS KI F1 F2
  cases hB : (RR != RR) with
  | true => simp at hB
  | false =>
  go_wp2_with fail
  go_region_held3 (fun w' => Grew w5 w') (first | assumption | exact Grew.drew ‹_› | exact Grew.trans ‹_› ‹_›)
    (first | (go_at_call 19; refine (K1.out _ (hgw5.trans (by first | assumption | exact Grew.refl _ | exact Grew.of_drew (by assumption) | exact (Grew.refl _).drew)) hn1 hn2).mono ?_; rintro e w6 ⟨a5, a6, rfl, hs7, hs8, hg6⟩) | (go_at_call 21; refine (eqModalSequent_yes _ _ _ _ L1 L2 _ (hs5.grew (by first | assumption | exact Grew.refl _ | exact Grew.of_drew (by assumption) | exact (Grew.refl _).drew)) (hs6.grew (by first | assumption | exact Grew.refl _ | exact Grew.of_drew (by assumption) | exact (Grew.refl _).drew)) (Strs.grew ‹_› (by first | assumption | exact Grew.refl _ | exact Grew.of_drew (by assumption) | exact (Grew.refl _).drew)) (Strs.grew ‹_› (by first | assumption | exact Grew.refl _ | exact Grew.of_drew (by assumption) | exact (Grew.refl _).drew)) hn1 hn2).mono ?_; rintro e w' ⟨rfl, hB1⟩))
  go_wp2_with fail
  go_ret
  exact ⟨rfl, hgw5.trans ((Grew.of_drew hg6).trans hB1)⟩
end Go.Proofs.Ytpbaiadaanpllaa

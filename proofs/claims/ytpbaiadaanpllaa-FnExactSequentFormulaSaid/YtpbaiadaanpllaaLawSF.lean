/- The law FnExactSequentFormula, walked. -/
import Derived.Test.YtpbaiadaanpllaaSF
import Derived.Test.YtpbaiadaanpllaaMarkM
import Derived.Test.YtpbaiadaanpllaaEq
namespace Go.Proofs.Ytpbaiadaanpllaa
open Go.RowKit
open Fm (Nd)

theorem lim_len (xs : List Nd) : (lim xs).1.length ≤ 40 := by
  unfold lim
  split
  · assumption
  · simp
theorem sfF_len (L1 L2 : List ByteArray) : (sfF L1 L2).1.length ≤ 40 := by
  unfold sfF
  split
  · exact lim_len _
  · simp

theorem lawSF_c (v1 v2 : Value) (L1 L2 : List ByteArray) (w : World) (h1 : ArgS w v1 L1) (h2 : ArgS w v2 L2) :
    Calls Try.prog 9 #[.agg #[v1, v2]] w fun e w' => e = .returned (.bool true) ∧ Grew w w' := by
  have K0 := Lib.hid (fun W (hW : Grew w W) => szModalSequent_c v1 v2 L1 L2 W (h1.grew hW) (h2.grew hW))
  have K1 := Lib.hid (fun W (hW : Grew w W) => toModalSequent_o v1 v2 L1 L2 W (h1.grew hW) (h2.grew hW))
  clear h1 h2
  go_enter Try.func9, Try.ntmps9
  go_wp2_with fail
  refine (K0.out _ ((Grew.refl w).alloc _)).mono ?_
  rintro e w1 ⟨r, rfl, hg1, hs⟩
  have hgw := Grew.of_alloc hg1
  by_cases hr : r < 0
  · clear hs
    go_wp2_with fail
    go_ret
    exact ⟨rfl, hgw⟩
  obtain ⟨⟨hn1, hf1⟩, hn2, hf2⟩ := hs (by omega)
  have b0 : ∀ W, Grew w1 W → W.cell? ⟨w.heap.size, 0, none⟩ = some v1 := fun W hW => ((hg1.trans hW).cell (by simp)).trans (by simp)
  have b1 : ∀ W, Grew w1 W → W.cell? ⟨w.heap.size, 1, none⟩ = some v2 := fun W hW => ((hg1.trans hW).cell (by simp)).trans (by simp)
  clear hs
  have F1 := Lib.hid hf1
  have F2 := Lib.hid hf2
  clear hf1 hf2
  have hr1 := Grew.refl w1
  have hlen := sfF_len L1 L2
  have KS := Lib.hid (fun a b W h1 h2 => specSF_c a b L1 L2 W h1 h2 F1.out F2.out hn1 hn2)
  have KI := Lib.hid (fun a b W h1 h2 => implSF_c a b L1 L2 W h1 h2 F1.out F2.out hn1 hn2)
  generalize sfF L1 L2 = rr at *
  obtain ⟨xs, c⟩ := rr
  simp only at hlen
  unfold GivesC2 at KS KI
  simp only at KS KI
  go_wp2_with fail
  refine (K1.out _ hgw hn1 hn2).mono ?_
  rintro e w2 ⟨a1, a2, rfl, hs1, hs2, _, hg2⟩
  go_wp2_with fail
  refine (KS.out _ _ _ hs1.strs hs2.strs).mono ?_
  rintro e w3 ⟨q0, rfl, ho0, hg3⟩
  have ho0 := ho0.base hg2.size
  have hg13 := hg2.trans hg3
  clear hs1 hs2 hg2 hg3
  go_wp2_with fail
  refine (K1.out _ (hgw.trans hg13) hn1 hn2).mono ?_
  rintro e w4 ⟨a3, a4, rfl, hs3, hs4, hab, hg4⟩
  have hg14 := hg13.trans hg4
  obtain ⟨A3, k3, rfl⟩ := strs_slice hs3.strs
  obtain ⟨A4, k4, rfl⟩ := strs_slice hs4.strs
  have ho03 := ho0
  have ho0 := ho0.grew hg4
  go_wp2_with fail
  have hal := (Grew.refl w4).alloc (.cells #[.slice A3 L1.length k3, .slice A4 L2.length k4] 33)
  refine (KI.out _ _ _ (hs3.strs.grew hal) (hs4.strs.grew hal)).mono ?_
  rintro e w5 ⟨g0, rfl, hog, hg5⟩
  have d0 : ∀ W, Grew w5 W → W.cell? ⟨w4.heap.size, 0, none⟩ = some (.slice A3 L1.length k3) := fun W hW => ((hg5.trans hW).cell (by simp)).trans (by simp)
  have d1 : ∀ W, Grew w5 W → W.cell? ⟨w4.heap.size, 1, none⟩ = some (.slice A4 L2.length k4) := fun W hW => ((hg5.trans hW).cell (by simp)).trans (by simp)
  have hg45 := hal.trans hg5
  have hg15 := hg14.trans hg45
  have c0 : ∀ W, Grew w5 W → W.cell? ⟨w.heap.size, 0, none⟩ = some v1 := fun W hW => b0 _ (hg15.trans hW)
  have c1 : ∀ W, Grew w5 W → W.cell? ⟨w.heap.size, 1, none⟩ = some v2 := fun W hW => b1 _ (hg15.trans hW)
  have hr5 := Grew.refl w5
  have hd5 := (Grew.refl w5).drew
  have hs5 := hs3.grew hg45
  have hs6 := hs4.grew hg45
  have hgw5 := hgw.trans hg15
  have ho05 := ho0.grew hg45
  have hsz14 : w1.heap.size ≤ w4.heap.size := hg14.size
  have hog' := hog.base (show w4.heap.size ≤ _ by simp)
  have hsz3 : w1.heap.size ≤ w3.heap.size := hg13.size
  have hw15 := hg15
  have hw35 := hg4.trans hg45
  have hsz34 := hg4.size
  have HO0 := Lib.hid ho03
  have B0 := Lib.hid b0
  have B1 := Lib.hid b1
  clear b0 b1 hs3 hs4 hr1 hal hg5 hg45 hg15 hg14 hg4 hg13 hg1 K0 KS F1 F2 ho0 hog
  go_wp2_with fail
  refine (eqNodeS_yes _ _ xs _ hog'.nodes ho05.nodes (by omega)).mono ?_
  rintro e w6 ⟨rfl, hg6⟩
  have e0 : ∀ W, Grew w6 W → W.cell? ⟨w4.heap.size, 0, none⟩ = some (.slice A3 L1.length k3) := fun W hW => d0 _ (hg6.trans hW)
  have e1 : ∀ W, Grew w6 W → W.cell? ⟨w4.heap.size, 1, none⟩ = some (.slice A4 L2.length k4) := fun W hW => d1 _ (hg6.trans hW)
  have e2 : ∀ W, Grew w6 W → W.cell? ⟨w.heap.size, 0, none⟩ = some v1 := fun W hW => c0 _ (hg6.trans hW)
  have e3 : ∀ W, Grew w6 W → W.cell? ⟨w.heap.size, 1, none⟩ = some v2 := fun W hW => c1 _ (hg6.trans hW)
  have hr6 := Grew.refl w6
  have hd6 := (Grew.refl w6).drew
  have hs7 := hs5.grew hg6
  have hs8 := hs6.grew hg6
  have hgw6 := hgw5.trans hg6
  clear hr5 hd5
  go_wp2_with fail
  go_region_held3 (fun w' => Grew w6 w') (with_reducible assumption)
    (first | (go_at_call 21; refine (eqModalSequent_yes _ _ _ _ L1 L2 _ (hs7.strs.grew (hd6.trans hg7)) (hs8.strs.grew (hd6.trans hg7)) hs9.strs hs10.strs hn1 hn2).mono ?_; rintro e w8 ⟨rfl, hg8⟩; have hk8 := (hd6.trans hg7).trans hg8) | (go_at_call 19; refine (K1.out _ (hgw6.trans hd6) hn1 hn2).mono ?_; rintro e w7 ⟨a5, a6, rfl, hs9, hs10, _, hg7⟩; have hk7 := hd6.trans hg7))
  have hk8 := (hd6.trans hg7).trans hg8
  have x0 := e0 _ hk8
  have x1 := e1 _ hk8
  have hs11 := hs7.grew hk8
  have hs12 := hs8.grew hk8
  have hog8 := (hog'.grew hg6).grew hk8
  have ho08 := (ho05.grew hg6).grew hk8
  have hw18 := (hw15.trans hg6).trans hk8
  have hw38 := (hw35.trans hg6).trans hk8
  clear d0 d1 c0 c1 e0 e1 e2 e3 hs5 hs6 hs7 hs8 hs9 hs10 hg7 hg8 hr6 hd6 hog' ho05 hg6 hw15
  go_wp2_with fail
  refine (markModal_c _ _ L1 L2 w3.heap.size _ hs11 hs12 hn1 hn2 hab).mono ?_
  rintro e w9 ⟨rfl, _, hrow, hgr⟩
  have hog9 : Own w9 w4.heap.size g0 xs := hrow _ _ _ _ _ _ hog8 (by decide)
  have ho09 : Own w9 w1.heap.size q0 xs := hrow _ _ _ _ _ _ ho08 (by decide)
  have hw19 := hgr w1 hsz3 hw18
  have hw39 := hgr w3 (Nat.le_refl _) hw38
  clear hrow hgr hs11 hs12 hog8 ho08 hw18 hab x0 x1 hk8
  go_wp2_with fail
  refine (eqNodeS_yes _ _ xs _ hog9.nodes ho09.nodes (by omega)).mono ?_
  rintro e w10 ⟨rfl, hg10⟩
  have hog10 := hog9.grew hg10
  have hw110 := hw19.trans hg10
  have hw310 := hw39.trans hg10
  clear hog9 ho09 hw19 hw39 hg10 hw38 hw35
  go_wp2_with fail
  refine (markNodeS_g g0 xs w4.heap.size 1 _ hog10 (by omega) (by omega) (by omega)).mono ?_
  rintro e w11 ⟨rfl, ho11, hm11⟩
  have hw111 := hm11 w1 hsz14 hw110
  have hw311 := hm11 w3 hsz34 hw310
  clear hm11 hog10 hw110 hw310
  go_wp2_with fail
  refine (heldNodeS_c g0 xs.length 1 _ ho11.nodes (by omega) (by omega) (by omega)).mono ?_
  rintro e w12 ⟨rfl, hg12⟩
  have hw112 := hw111.trans hg12
  have hw312 := hw311.trans hg12
  have ho12 := ho11.grew hg12
  have y0 := B0.out _ hw112
  have y1 := B1.out _ hw112
  clear ho11 hw111 hw311 hg12
  go_wp2_with fail
  refine (K1.out _ (hgw.trans hw112) hn1 hn2).mono ?_
  rintro e w13 ⟨a7, a8, rfl, hs13, hs14, _, hg13⟩
  go_wp2_with fail
  refine (KI.out _ _ _ hs13.strs hs14.strs).mono ?_
  rintro e w14 ⟨h0, rfl, hoh, hg14⟩
  have hg1214 := hg13.trans hg14
  have hq0 := HO0.out.grew (hw312.trans hg1214)
  go_wp2_with fail
  refine (eqNodeS_yes _ _ xs _ hoh.nodes hq0.nodes (by omega)).mono ?_
  rintro e w15 ⟨rfl, hg15⟩
  go_wp2_with fail
  refine (heldNodeS_c g0 xs.length 1 _ (ho12.grew (hg1214.trans hg15)).nodes (by omega) (by omega) (by omega)).mono ?_
  rintro e w16 ⟨rfl, hg16⟩
  go_wp2_with fail
  go_ret
  exact ⟨rfl, ((hgw.trans hw112).trans hg1214).trans (hg15.trans hg16)⟩
end Go.Proofs.Ytpbaiadaanpllaa

/- The law FnExactMeaningOf, walked. -/
import Derived.Test.YtpbaiadaanpllaaMean
import Derived.Test.YtpbaiadaanpllaaMarkG
import Derived.Test.YtpbaiadaanpllaaEq
namespace Go.Proofs.Ytpbaiadaanpllaa
open Go.RowKit
open Fm (Nd)

theorem lim_len (xs : List Nd) : (lim xs).1.length ≤ 40 := by
  unfold lim
  split
  · assumption
  · simp
theorem mnF_len (L : List ByteArray) (s : ByteArray) : (mnF L s).1.length ≤ 40 := by
  have h := Fm.pf_len s
  unfold mnF
  split
  · split
    · exact h
    · exact lim_len _
  · simp

theorem lawMean_c (v : Value) (L : List ByteArray) (s : ByteArray) (w : World) (h : ArgS w v L) :
    Calls Try.prog 10 #[v, .string s] w fun e w' => e = .returned (.bool true) ∧ Grew w w' := by
  by_cases hbig : 1048576 < s.size
  · clear h
    go_enter Try.func10, Try.ntmps10
    go_wp2_with fail
    go_ret
    exact ⟨rfl, Grew.refl _⟩
  have K0 := Lib.hid (szStringS_c v L 1048576 w h (by omega) (by omega))
  have K1 := Lib.hid (fun W (hW : Grew w W) => toStringS_c v L W (h.grew hW))
  clear h
  go_enter Try.func10, Try.ntmps10
  go_wp2_with fail
  refine K0.out.mono ?_
  rintro e w1 ⟨r, rfl, ⟨_, hs⟩, hg1⟩
  by_cases hr : r < 0
  · clear hs
    go_wp2_with fail
    go_ret
    exact ⟨rfl, hg1⟩
  obtain ⟨hn, hf⟩ := hs (by omega)
  clear hs
  have F := Lib.hid hf
  clear hf
  have hlen := mnF_len L s
  have KS := Lib.hid (fun v W h => specMean_c v L s W h F.out hn (by omega))
  have KI := Lib.hid (fun v W h => implMean_c v L s W h F.out hn (by omega))
  generalize mnF L s = rr at *
  obtain ⟨xs, c⟩ := rr
  simp only at hlen
  unfold GivesC2 at KS KI
  simp only at KS KI
  have hcc : (c != c) = false := by simp
  go_wp2_with fail
  refine (K1.out _ hg1 hn).mono ?_
  rintro e w2 ⟨a1, rfl, ho1, hg2⟩
  go_wp2_with fail
  refine (KS.out _ _ ho1.strs).mono ?_
  rintro e w3 ⟨q0, rfl, hq0, hg3⟩
  have hg13 := hg2.trans hg3
  have hgw3 := hg1.trans hg13
  clear ho1 hg1 hg2 hg3
  go_wp2_with fail
  refine (K1.out _ hgw3 hn).mono ?_
  rintro e w4 ⟨a3, rfl, hs4, hg4⟩
  go_wp2_with fail
  refine (KI.out _ _ hs4.strs).mono ?_
  rintro e w5 ⟨g0, rfl, hog5, hg5⟩
  have hg35 := hg4.trans hg5
  have hgw5 := hgw3.trans hg35
  have hs5 := hs4.grew hg5
  have hq5 := hq0.grew hg35
  have hsz34 := hg4.size
  have HQ0 := Lib.hid hq0
  clear hs4 hq0 hg5
  go_wp2_with fail
  refine (eqNodeS_yes _ _ xs _ hog5.nodes hq5.nodes (by omega)).mono ?_
  rintro e w6 ⟨rfl, hg6⟩
  go_wp2_with fail
  refine (K1.out _ (hgw5.trans hg6) hn).mono ?_
  rintro e w7 ⟨a7, rfl, hs7, hg7⟩
  have hg57 := hg6.trans hg7
  go_wp2_with fail
  refine (eqStringS_yes _ _ L _ (hs5.strs.grew hg57) hs7.strs (by omega)).mono ?_
  rintro e w8 ⟨rfl, hg8⟩
  have hg58 := hg57.trans hg8
  have hs8 := hs5.grew hg58
  have hog8 := hog5.grew hg58
  have hq8 := hq5.grew hg58
  have hg38 := hg35.trans hg58
  have hgw8 := hgw5.trans hg58
  clear hs5 hog5 hq5 hg35 hg57 hg58 hg6 hg7 hg8 hs7 hgw5
  go_wp2_with fail
  refine (markStringS_g _ L w3.heap.size 1 _ hs8 (by omega) (by omega) hn).mono ?_
  rintro e w9 ⟨rfl, hrow, hgr⟩
  have hog9 : Own w9 w4.heap.size g0 xs := hrow _ _ _ _ _ _ hog8 (by decide)
  have hq9 : Own w9 w2.heap.size q0 xs := hrow _ _ _ _ _ _ hq8 (by decide)
  have hgw9 := hgr w hgw3.size hgw8
  have hg39 := hgr w3 (Nat.le_refl _) hg38
  clear hrow hgr hs8 hog8 hq8 hgw8 hg38
  go_wp2_with fail
  refine (eqNodeS_yes _ _ xs _ hog9.nodes hq9.nodes (by omega)).mono ?_
  rintro e w10 ⟨rfl, hg10⟩
  have hog10 := hog9.grew hg10
  have hgw10 := hgw9.trans hg10
  have hg310 := hg39.trans hg10
  clear hog9 hq9 hgw9 hg39 hg10
  go_wp2_with fail
  refine (markNodeS_g g0 xs w4.heap.size 1 _ hog10 (by omega) (by omega) (by omega)).mono ?_
  rintro e w11 ⟨rfl, ho11, hm11⟩
  have hgw11 := hm11 w (Nat.le_trans hgw3.size hsz34) hgw10
  have hg311 := hm11 w3 hsz34 hg310
  clear hm11 hog10 hgw10 hg310
  go_wp2_with fail
  refine (heldNodeS_c g0 xs.length 1 _ ho11.nodes (by omega) (by omega) (by omega)).mono ?_
  rintro e w12 ⟨rfl, hg12⟩
  have hgw12 := hgw11.trans hg12
  have hg312 := hg311.trans hg12
  have ho12 := ho11.grew hg12
  clear ho11 hgw11 hg311 hg12
  go_wp2_with fail
  refine (K1.out _ hgw12 hn).mono ?_
  rintro e w13 ⟨a13, rfl, hs13, hg13⟩
  go_wp2_with fail
  refine (KI.out _ _ hs13.strs).mono ?_
  rintro e w14 ⟨h0, rfl, hoh, hg14⟩
  have hg1214 := hg13.trans hg14
  have hq14 := HQ0.out.grew (hg312.trans hg1214)
  go_wp2_with fail
  refine (eqNodeS_yes _ _ xs _ hoh.nodes hq14.nodes (by omega)).mono ?_
  rintro e w15 ⟨rfl, hg15⟩
  go_wp2_with fail
  refine (heldNodeS_c g0 xs.length 1 _ (ho12.grew (hg1214.trans hg15)).nodes (by omega) (by omega) (by omega)).mono ?_
  rintro e w16 ⟨rfl, hg16⟩
  go_wp2_with fail
  go_ret
  exact ⟨rfl, (hgw12.trans hg1214).trans (hg15.trans hg16)⟩
end Go.Proofs.Ytpbaiadaanpllaa

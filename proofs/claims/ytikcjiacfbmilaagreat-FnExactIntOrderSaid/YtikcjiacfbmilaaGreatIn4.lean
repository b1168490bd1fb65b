/- Texts in one file: LawOrd. -/
import Derived.Test.YtikcjiacfbmilaaGreatIn1
import Derived.Test.YtikcjiacfbmilaaGreatIn2
import Derived.Test.YtikcjiacfbmilaaGreatIn3
set_option linter.all false

/- The law FnExactIntOrder, walked. -/
namespace Go.Proofs.YtikcjiacfbmilaaGreat
open Go.RowKit

theorem lawOrd_c (v0 : Value) (L0 : List Fm.Nd) (v1 : Value) (L1 : List Fm.Nd) (w : World) (h0 : ArgN w v0 L0) (h1 : ArgN w v1 L1) :
    Calls Tryz.prog 5 #[v0, v1] w fun e w' => e = .returned (.bool true) ∧ Grew w w' := by
  have Z0 := Lib.hid (fun W l (hW : Grew w W) (a0 : 0 ≤ l) (a1 : l ≤ 1048576) => szNodeS_c v0 L0 l W (h0.grew hW) a0 a1)
  have T0 := Lib.hid (fun W (hW : Grew w W) => toNodeS_c v0 L0 W (h0.grew hW))
  have Z1 := Lib.hid (fun W l (hW : Grew w W) (a0 : 0 ≤ l) (a1 : l ≤ 1048576) => szNodeS_c v1 L1 l W (h1.grew hW) a0 a1)
  have T1 := Lib.hid (fun W (hW : Grew w W) => toNodeS_c v1 L1 W (h1.grew hW))
  clear h0 h1
  go_enter Tryz.func5, Tryz.ntmps5
  go_wp2_with fail
  refine (Z0.out _ _ (Grew.refl w) (by omega) (by omega)).mono ?_
  rintro e w1 ⟨r0, rfl, ⟨hm0, hs0⟩, hg1⟩
  have z1 := Lib.hid hg1.size
  have g1 : Grew w w1 := (Grew.refl w).trans hg1
  clear hg1
  by_cases hr0 : r0 < 0
  · clear hs0
    go_wp2_with fail
    go_ret
    exact ⟨rfl, g1⟩
  have hn0 := hs0 (by omega)
  clear hs0
  go_wp2_with fail
  refine (Z1.out _ _ g1 (by omega) (by omega)).mono ?_
  rintro e w2 ⟨r1, rfl, ⟨hm1, hs1⟩, hg2⟩
  have z2 := Lib.hid hg2.size
  have g2 : Grew w w2 := g1.trans hg2
  clear hg2
  by_cases hr1 : r1 < 0
  · clear hs1
    go_wp2_with fail
    go_ret
    exact ⟨rfl, g2⟩
  have hn1 := hs1 (by omega)
  clear hs1
  have KS := Lib.hid (fun u0 u1 W x0 x1 => specOrd_c u0 L0 u1 L1 W x0 x1 (by omega) (by omega))
  have KI := Lib.hid (fun u0 u1 W x0 x1 => implOrd_c u0 L0 u1 L1 W x0 x1 (by omega) (by omega))
  unfold GivesII at KS KI
  generalize ordF L0 L1 = rr at *
  obtain ⟨ra, rc⟩ := rr
  simp only at KS KI
  have hc1 : (rc != rc) = false := by simp
  have ha1 : (ra != ra) = false := by simp
  go_wp2_with fail
  refine (T0.out _ g2 hn0).mono ?_
  rintro e w3 ⟨a0, rfl, oa0, hg3⟩
  have z3 := Lib.hid hg3.size
  have g3 : Grew w w3 := g2.trans hg3
  clear hg3
  go_wp2_with fail
  refine (T1.out _ g3 hn1).mono ?_
  rintro e w4 ⟨a1, rfl, oa1, hg4⟩
  have z4 := Lib.hid hg4.size
  have g4 : Grew w w4 := g3.trans hg4
  replace oa0 := oa0.grew hg4
  clear hg4
  go_wp2_with fail
  refine (KS.out _ _ _ oa0.nodes oa1.nodes).mono ?_
  rintro e w5 ⟨rfl, hg5⟩
  have z5 := Lib.hid hg5.size
  have g5 : Grew w w5 := g4.trans hg5
  clear hg5 oa0 oa1
  go_wp2_with fail
  refine (T0.out _ g5 hn0).mono ?_
  rintro e w6 ⟨x0, rfl, ox0, hg6⟩
  have z6 := Lib.hid hg6.size
  have g6 : Grew w w6 := g5.trans hg6
  clear hg6
  go_wp2_with fail
  refine (T1.out _ g6 hn1).mono ?_
  rintro e w7 ⟨x1, rfl, ox1, hg7⟩
  have z7 := Lib.hid hg7.size
  have g7 : Grew w w7 := g6.trans hg7
  replace ox0 := ox0.grew hg7
  clear hg7
  go_wp2_with fail
  refine (KI.out _ _ _ ox0.nodes ox1.nodes).mono ?_
  rintro e w8 ⟨rfl, hg8⟩
  have z8 := Lib.hid hg8.size
  have g8 : Grew w w8 := g7.trans hg8
  replace ox0 := ox0.grew hg8
  replace ox1 := ox1.grew hg8
  clear hg8
  go_wp2_with fail
  refine (T0.out _ g8 hn0).mono ?_
  rintro e w9 ⟨y0, rfl, oy0, hg9⟩
  have z9 := Lib.hid hg9.size
  have g9 : Grew w w9 := g8.trans hg9
  replace ox0 := ox0.grew hg9
  replace ox1 := ox1.grew hg9
  clear hg9
  go_wp2_with fail
  refine (eqNodeS_yes _ _ L0 _ ox0.nodes oy0.nodes (by omega)).mono ?_
  rintro e w10 ⟨rfl, hg10⟩
  have z10 := Lib.hid hg10.size
  have g10 : Grew w w10 := g9.trans hg10
  replace ox0 := ox0.grew hg10
  replace ox1 := ox1.grew hg10
  clear hg10 oy0
  go_wp2_with fail
  refine (T1.out _ g10 hn1).mono ?_
  rintro e w11 ⟨y1, rfl, oy1, hg11⟩
  have z11 := Lib.hid hg11.size
  have g11 : Grew w w11 := g10.trans hg11
  replace ox0 := ox0.grew hg11
  replace ox1 := ox1.grew hg11
  clear hg11
  go_wp2_with fail
  refine (eqNodeS_yes _ _ L1 _ ox1.nodes oy1.nodes (by omega)).mono ?_
  rintro e w12 ⟨rfl, hg12⟩
  have z12 := Lib.hid hg12.size
  have g12 : Grew w w12 := g11.trans hg12
  replace ox0 := ox0.grew hg12
  replace ox1 := ox1.grew hg12
  clear hg12 oy1
  go_wp2_with fail
  go_ret
  exact ⟨rfl, g12⟩
end Go.Proofs.YtikcjiacfbmilaaGreat

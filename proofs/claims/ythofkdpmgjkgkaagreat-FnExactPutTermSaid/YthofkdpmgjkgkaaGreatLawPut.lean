/- The law FnExactPutTerm, walked. -/
import Derived.Test.YthofkdpmgjkgkaaGreatTmPutF
import Derived.Test.YthofkdpmgjkgkaaGreatTmMark
namespace Go.Proofs.YthofkdpmgjkgkaaGreat
open Go.RowKit

theorem lawPut_c (v0 : Value) (L0 : List Tn) (n1 : Int) (v2 : Value) (L2 : List Tn) (w : World) (h0 : ArgT w v0 L0) (h2 : ArgT w v2 L2) :
    Calls Tryz.prog 3 #[v0, .int .i64 n1, v2] w fun e w' => e = .returned (.bool true) ∧ Grew w w' := by
  have Z0 := Lib.hid (fun W l (hW : Grew w W) (a0 : 0 ≤ l) (a1 : l ≤ 1048576) => szTermNodeS_c v0 L0 l W (h0.grew hW) a0 a1)
  have T0 := Lib.hid (fun W (hW : Grew w W) => toTermNodeS_c v0 L0 W (h0.grew hW))
  have Z2 := Lib.hid (fun W l (hW : Grew w W) (a0 : 0 ≤ l) (a1 : l ≤ 1048576) => szTermNodeS_c v2 L2 l W (h2.grew hW) a0 a1)
  have T2 := Lib.hid (fun W (hW : Grew w W) => toTermNodeS_c v2 L2 W (h2.grew hW))
  clear h0 h2
  go_enter Tryz.func3, Tryz.ntmps3
  go_wp2_with fail
  refine (Z0.out _ _ (Grew.refl w) (by omega) (by omega)).mono ?_
  rintro e w1 ⟨r0, rfl, ⟨hm0, hs0⟩, hg1⟩
  have z1 := Lib.hid hg1.size
  have g1 : Grew w w1 := (Grew.refl w).trans hg1
  clear hg1
  by_cases hr0 : r0 < 0
  · clear hs0
    go_wp2_with fail
    go_ret
    exact ⟨rfl, g1⟩
  obtain ⟨hn0, hf0⟩ := hs0 (by omega)
  have F0 : Hid (FitsT L0) := Lib.hid hf0
  clear hs0 hf0
  go_wp2_with fail
  refine (Z2.out _ _ g1 (by omega) (by omega)).mono ?_
  rintro e w2 ⟨r2, rfl, ⟨hm2, hs2⟩, hg2⟩
  have z2 := Lib.hid hg2.size
  have g2 : Grew w w2 := g1.trans hg2
  clear hg2
  by_cases hr2 : r2 < 0
  · clear hs2
    go_wp2_with fail
    go_ret
    exact ⟨rfl, g2⟩
  obtain ⟨hn2, hf2⟩ := hs2 (by omega)
  have F2 : Hid (FitsT L2) := Lib.hid hf2
  clear hs2 hf2
  have KS := Lib.hid (fun u0 u2 W x0 x2 => specPut_c u0 L0 n1 u2 L2 W x0 x2 F0.out (by omega) F2.out (by omega))
  have KI := Lib.hid (fun u0 u2 W x0 x2 => implPut_c u0 L0 n1 u2 L2 W x0 x2 F0.out (by omega) F2.out (by omega))
  have hlen := putF_len L0 n1 L2
  generalize putF L0 n1 L2 = rr at *
  obtain ⟨xs, c⟩ := rr
  simp only at hlen
  unfold GivesT2 at KS KI
  simp only at KS KI
  have hcc : (c != c) = false := by simp
  go_wp2_with fail
  refine (T0.out _ g2 hn0).mono ?_
  rintro e w3 ⟨a0, rfl, oa0, hg3⟩
  have z3 := Lib.hid hg3.size
  have g3 : Grew w w3 := g2.trans hg3
  clear hg3
  go_wp2_with fail
  refine (T2.out _ g3 hn2).mono ?_
  rintro e w4 ⟨a2, rfl, oa2, hg4⟩
  have z4 := Lib.hid hg4.size
  have g4 : Grew w w4 := g3.trans hg4
  replace oa0 := oa0.grew hg4
  clear hg4
  go_wp2_with fail
  refine (KS.out _ _ _ oa0.tms oa2.tms).mono ?_
  rintro e w5 ⟨q0, rfl, hq, hg5⟩
  have HQB := Lib.hid (fun g (hg : q0.ownBlock = some g) => (hq.lt g hg).2)
  have z5 := Lib.hid hg5.size
  have g5 : Grew w w5 := g4.trans hg5
  clear hg5 oa0 oa2
  go_wp2_with fail
  refine (T0.out _ g5 hn0).mono ?_
  rintro e w6 ⟨x0, rfl, ox0, hg6⟩
  have HB0 := Lib.hid (fun g (hg : x0.ownBlock = some g) => ox0.lt g hg)
  have z6 := Lib.hid hg6.size
  have g6 : Grew w w6 := g5.trans hg6
  replace hq := hq.grew hg6
  clear hg6
  go_wp2_with fail
  refine (T2.out _ g6 hn2).mono ?_
  rintro e w7 ⟨x2, rfl, ox2, hg7⟩
  have HB2 := Lib.hid (fun g (hg : x2.ownBlock = some g) => ox2.lt g hg)
  have z7 := Lib.hid hg7.size
  have g7 : Grew w w7 := g6.trans hg7
  replace ox0 := ox0.grew hg7
  replace hq := hq.grew hg7
  clear hg7
  go_wp2_with fail
  refine (KI.out _ _ _ ox0.tms ox2.tms).mono ?_
  rintro e w8 ⟨g0, rfl, hog, hg8⟩
  have HGB := Lib.hid (fun g (hg : g0.ownBlock = some g) => (hog.lt g hg).1)
  have z8 := Lib.hid hg8.size
  have g8 : Grew w w8 := g7.trans hg8
  replace hq := hq.grew hg8
  replace ox0 := ox0.grew hg8
  replace ox2 := ox2.grew hg8
  clear hg8
  go_wp2_with fail
  refine (eqTermNodeS_yes _ _ xs _ hog.tms hq.tms (by omega)).mono ?_
  rintro e w9 ⟨rfl, hg9⟩
  have z9 := Lib.hid hg9.size
  have g9 : Grew w w9 := g8.trans hg9
  replace hq := hq.grew hg9
  replace ox0 := ox0.grew hg9
  replace ox2 := ox2.grew hg9
  replace hog := hog.grew hg9
  clear hg9
  go_wp2_with fail
  refine (T0.out _ g9 hn0).mono ?_
  rintro e w10 ⟨y0, rfl, oy0, hg10⟩
  have z10 := Lib.hid hg10.size
  have g10 : Grew w w10 := g9.trans hg10
  replace hq := hq.grew hg10
  replace ox0 := ox0.grew hg10
  replace ox2 := ox2.grew hg10
  replace hog := hog.grew hg10
  clear hg10
  go_wp2_with fail
  refine (eqTermNodeS_yes _ _ L0 _ ox0.tms oy0.tms (by omega)).mono ?_
  rintro e w11 ⟨rfl, hg11⟩
  have z11 := Lib.hid hg11.size
  have g11 : Grew w w11 := g10.trans hg11
  replace hq := hq.grew hg11
  replace ox0 := ox0.grew hg11
  replace ox2 := ox2.grew hg11
  replace hog := hog.grew hg11
  clear hg11 oy0
  go_wp2_with fail
  refine (T2.out _ g11 hn2).mono ?_
  rintro e w12 ⟨y2, rfl, oy2, hg12⟩
  have z12 := Lib.hid hg12.size
  have g12 : Grew w w12 := g11.trans hg12
  replace hq := hq.grew hg12
  replace ox0 := ox0.grew hg12
  replace ox2 := ox2.grew hg12
  replace hog := hog.grew hg12
  clear hg12
  go_wp2_with fail
  refine (eqTermNodeS_yes _ _ L2 _ ox2.tms oy2.tms (by omega)).mono ?_
  rintro e w13 ⟨rfl, hg13⟩
  have z13 := Lib.hid hg13.size
  have g13 : Grew w w13 := g12.trans hg13
  replace hq := hq.grew hg13
  replace ox0 := ox0.grew hg13
  replace ox2 := ox2.grew hg13
  replace hog := hog.grew hg13
  clear hg13 oy2
  go_wp2_with fail
  refine (markTermNodeS_w _ L0 _ (1) _ ox0 (by omega) (by omega) (by omega)).mono ?_
  rintro e w14 ⟨rfl, hrow⟩
  replace hq : OwnT w14 _ q0 xs := own_row hq hrow (fun g hg hg2 => by have h1 := HQB.out g hg2; have h2 := (HB0.out g hg).1; have y1 := z1.out; have y2 := z2.out; have y3 := z3.out; have y4 := z4.out; have y5 := z5.out; have y6 := z6.out; have y7 := z7.out; omega)
  replace hog : OwnT w14 _ g0 xs := own_row hog hrow (fun g hg hg2 => by have h1 := HGB.out g hg2; have h2 := (HB0.out g hg).2; have y1 := z1.out; have y2 := z2.out; have y3 := z3.out; have y4 := z4.out; have y5 := z5.out; have y6 := z6.out; have y7 := z7.out; omega)
  replace ox2 := own_row ox2 hrow (fun g hg hg2 => by have h1 := (HB2.out g hg2).1; have h2 := (HB0.out g hg).2; have y1 := z1.out; have y2 := z2.out; have y3 := z3.out; have y4 := z4.out; have y5 := z5.out; have y6 := z6.out; have y7 := z7.out; omega)
  have g14 : Grew w w14 := grew_row g13 hrow (fun g hg => by have h2 := (HB0.out g hg).1; have y1 := z1.out; have y2 := z2.out; have y3 := z3.out; have y4 := z4.out; have y5 := z5.out; have y6 := z6.out; have y7 := z7.out; omega)
  clear hrow ox0
  go_wp2_with fail
  refine (markTermNodeS_w _ L2 _ (1 + L0.length * 3) _ ox2 (by omega) (by omega) (by omega)).mono ?_
  rintro e w15 ⟨rfl, hrow⟩
  replace hq : OwnT w15 _ q0 xs := own_row hq hrow (fun g hg hg2 => by have h1 := HQB.out g hg2; have h2 := (HB2.out g hg).1; have y1 := z1.out; have y2 := z2.out; have y3 := z3.out; have y4 := z4.out; have y5 := z5.out; have y6 := z6.out; have y7 := z7.out; omega)
  replace hog : OwnT w15 _ g0 xs := own_row hog hrow (fun g hg hg2 => by have h1 := HGB.out g hg2; have h2 := (HB2.out g hg).2; have y1 := z1.out; have y2 := z2.out; have y3 := z3.out; have y4 := z4.out; have y5 := z5.out; have y6 := z6.out; have y7 := z7.out; omega)
  have g15 : Grew w w15 := grew_row g14 hrow (fun g hg => by have h2 := (HB2.out g hg).1; have y1 := z1.out; have y2 := z2.out; have y3 := z3.out; have y4 := z4.out; have y5 := z5.out; have y6 := z6.out; have y7 := z7.out; omega)
  clear hrow ox2
  go_wp2_with fail
  refine (eqTermNodeS_yes _ _ xs _ hog.tms hq.tms (by omega)).mono ?_
  rintro e w16 ⟨rfl, hg16⟩
  have z16 := Lib.hid hg16.size
  have g16 : Grew w w16 := g15.trans hg16
  replace hq := hq.grew hg16
  replace hog := hog.grew hg16
  clear hg16
  go_wp2_with fail
  refine (markTermNodeS_m _ xs _ 1 _ hog (by omega) (by omega) (by omega)).mono ?_
  rintro e w17 ⟨rfl, hog, hrow⟩
  replace hq : OwnT w17 _ q0 xs := own_row hq hrow (fun g hg hg2 => by have h1 := HQB.out g hg2; have h2 := HGB.out g hg; have y1 := z1.out; have y2 := z2.out; have y3 := z3.out; have y4 := z4.out; have y5 := z5.out; have y6 := z6.out; have y7 := z7.out; omega)
  have g17 : Grew w w17 := grew_row g16 hrow (fun g hg => by have h2 := HGB.out g hg; have y1 := z1.out; have y2 := z2.out; have y3 := z3.out; have y4 := z4.out; have y5 := z5.out; have y6 := z6.out; have y7 := z7.out; omega)
  clear hrow
  go_wp2_with fail
  refine (heldTermNodeS_c _ xs.length 1 _ hog.tms (by omega) (by omega) (by omega)).mono ?_
  rintro e w18 ⟨rfl, hg18⟩
  have z18 := Lib.hid hg18.size
  have g18 : Grew w w18 := g17.trans hg18
  replace hq := hq.grew hg18
  replace hog := hog.grew hg18
  clear hg18
  go_wp2_with fail
  refine (T0.out _ g18 hn0).mono ?_
  rintro e w19 ⟨b0, rfl, ob0, hg19⟩
  have z19 := Lib.hid hg19.size
  have g19 : Grew w w19 := g18.trans hg19
  replace hq := hq.grew hg19
  replace hog := hog.grew hg19
  clear hg19
  go_wp2_with fail
  refine (T2.out _ g19 hn2).mono ?_
  rintro e w20 ⟨b2, rfl, ob2, hg20⟩
  have z20 := Lib.hid hg20.size
  have g20 : Grew w w20 := g19.trans hg20
  replace ob0 := ob0.grew hg20
  replace hq := hq.grew hg20
  replace hog := hog.grew hg20
  clear hg20
  go_wp2_with fail
  refine (KI.out _ _ _ ob0.tms ob2.tms).mono ?_
  rintro e w21 ⟨h0, rfl, hoh, hg21⟩
  have z21 := Lib.hid hg21.size
  have g21 : Grew w w21 := g20.trans hg21
  replace hq := hq.grew hg21
  replace hog := hog.grew hg21
  clear hg21
  go_wp2_with fail
  refine (eqTermNodeS_yes _ _ xs _ hoh.tms hq.tms (by omega)).mono ?_
  rintro e w22 ⟨rfl, hg22⟩
  have z22 := Lib.hid hg22.size
  have g22 : Grew w w22 := g21.trans hg22
  replace hq := hq.grew hg22
  replace hog := hog.grew hg22
  replace hoh := hoh.grew hg22
  clear hg22
  go_wp2_with fail
  refine (heldTermNodeS_c _ xs.length 1 _ hog.tms (by omega) (by omega) (by omega)).mono ?_
  rintro e w23 ⟨rfl, hg23⟩
  go_wp2_with fail
  go_ret
  exact ⟨rfl, g22.trans hg23⟩
end Go.Proofs.YthofkdpmgjkgkaaGreat

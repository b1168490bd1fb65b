/- The law FnExactContractAt, walked. -/
import Derived.Test.YthofkdpmgjkgkaaGreatCtZ
import Derived.Test.YthofkdpmgjkgkaaGreatTmMark
namespace Go.Proofs.YthofkdpmgjkgkaaGreat
open Go.RowKit

theorem lawCt_c (v0 : Value) (L0 : List Tn) (n1 : Int) (n2 : Int) (w : World) (h0 : ArgT w v0 L0) :
    Calls Tryz.prog 5 #[v0, .int .i64 n1, .int .i64 n2] w fun e w' => e = .returned (.bool true) ∧ Grew w w' := by
  have Z0 := Lib.hid (fun W l (hW : Grew w W) (a0 : 0 ≤ l) (a1 : l ≤ 1048576) => szTermNodeS_c v0 L0 l W (h0.grew hW) a0 a1)
  have T0 := Lib.hid (fun W (hW : Grew w W) => toTermNodeS_c v0 L0 W (h0.grew hW))
  clear h0
  go_enter Tryz.func5, Tryz.ntmps5
  go_wp2_with fail
  refine (Z0.out _ _ (Grew.refl w) (by omega) (by omega)).mono ?_
  rintro e w1 ⟨r0, rfl, ⟨hm0, hs0⟩, hg1⟩
  have z1 := Lib.hid hg1.size
  have g1 : Grew w w1 := (Grew.refl w).trans hg1
  clear hg1
  by_cases hr0 : r0 < 0
  · clear hs0
    go_wp2_with fail
    go_ret
    exact ⟨rfl, g1⟩
  obtain ⟨hn0, hf0⟩ := hs0 (by omega)
  have F0 : Hid (FitsT L0) := Lib.hid hf0
  clear hs0 hf0
  have KS := Lib.hid (fun u0 W x0 => specCt_c u0 L0 n1 n2 W x0 F0.out (by omega))
  have KI := Lib.hid (fun u0 W x0 => implCt_c u0 L0 n1 n2 W x0 F0.out (by omega))
  have hlen := ctF_len L0 n1 n2
  generalize ctF L0 n1 n2 = rr at *
  obtain ⟨xs, c⟩ := rr
  simp only at hlen
  unfold GivesT2 at KS KI
  simp only at KS KI
  have hcc : (c != c) = false := by simp
  go_wp2_with fail
  refine (T0.out _ g1 hn0).mono ?_
  rintro e w2 ⟨a0, rfl, oa0, hg2⟩
  have z2 := Lib.hid hg2.size
  have g2 : Grew w w2 := g1.trans hg2
  clear hg2
  go_wp2_with fail
  refine (KS.out _ _ oa0.tms).mono ?_
  rintro e w3 ⟨q0, rfl, hq, hg3⟩
  have HQB := Lib.hid (fun g (hg : q0.ownBlock = some g) => (hq.lt g hg).2)
  have z3 := Lib.hid hg3.size
  have g3 : Grew w w3 := g2.trans hg3
  clear hg3 oa0
  go_wp2_with fail
  refine (T0.out _ g3 hn0).mono ?_
  rintro e w4 ⟨x0, rfl, ox0, hg4⟩
  have HB0 := Lib.hid (fun g (hg : x0.ownBlock = some g) => ox0.lt g hg)
  have z4 := Lib.hid hg4.size
  have g4 : Grew w w4 := g3.trans hg4
  replace hq := hq.grew hg4
  clear hg4
  go_wp2_with fail
  refine (KI.out _ _ ox0.tms).mono ?_
  rintro e w5 ⟨g0, rfl, hog, hg5⟩
  have HGB := Lib.hid (fun g (hg : g0.ownBlock = some g) => (hog.lt g hg).1)
  have z5 := Lib.hid hg5.size
  have g5 : Grew w w5 := g4.trans hg5
  replace hq := hq.grew hg5
  replace ox0 := ox0.grew hg5
  clear hg5
  go_wp2_with fail
  refine (eqTermNodeS_yes _ _ xs _ hog.tms hq.tms (by omega)).mono ?_
  rintro e w6 ⟨rfl, hg6⟩
  have z6 := Lib.hid hg6.size
  have g6 : Grew w w6 := g5.trans hg6
  replace hq := hq.grew hg6
  replace ox0 := ox0.grew hg6
  replace hog := hog.grew hg6
  clear hg6
  go_wp2_with fail
  refine (T0.out _ g6 hn0).mono ?_
  rintro e w7 ⟨y0, rfl, oy0, hg7⟩
  have z7 := Lib.hid hg7.size
  have g7 : Grew w w7 := g6.trans hg7
  replace hq := hq.grew hg7
  replace ox0 := ox0.grew hg7
  replace hog := hog.grew hg7
  clear hg7
  go_wp2_with fail
  refine (eqTermNodeS_yes _ _ L0 _ ox0.tms oy0.tms (by omega)).mono ?_
  rintro e w8 ⟨rfl, hg8⟩
  have z8 := Lib.hid hg8.size
  have g8 : Grew w w8 := g7.trans hg8
  replace hq := hq.grew hg8
  replace ox0 := ox0.grew hg8
  replace hog := hog.grew hg8
  clear hg8 oy0
  go_wp2_with fail
  refine (markTermNodeS_w _ L0 _ (1) _ ox0 (by omega) (by omega) (by omega)).mono ?_
  rintro e w9 ⟨rfl, hrow⟩
  replace hq : OwnT w9 _ q0 xs := own_row hq hrow (fun g hg hg2 => by have h1 := HQB.out g hg2; have h2 := (HB0.out g hg).1; have y1 := z1.out; have y2 := z2.out; have y3 := z3.out; have y4 := z4.out; omega)
  replace hog : OwnT w9 _ g0 xs := own_row hog hrow (fun g hg hg2 => by have h1 := HGB.out g hg2; have h2 := (HB0.out g hg).2; have y1 := z1.out; have y2 := z2.out; have y3 := z3.out; have y4 := z4.out; omega)
  have g9 : Grew w w9 := grew_row g8 hrow (fun g hg => by have h2 := (HB0.out g hg).1; have y1 := z1.out; have y2 := z2.out; have y3 := z3.out; have y4 := z4.out; omega)
  clear hrow ox0
  go_wp2_with fail
  refine (eqTermNodeS_yes _ _ xs _ hog.tms hq.tms (by omega)).mono ?_
  rintro e w10 ⟨rfl, hg10⟩
  have z10 := Lib.hid hg10.size
  have g10 : Grew w w10 := g9.trans hg10
  replace hq := hq.grew hg10
  replace hog := hog.grew hg10
  clear hg10
  go_wp2_with fail
  refine (markTermNodeS_m _ xs _ 1 _ hog (by omega) (by omega) (by omega)).mono ?_
  rintro e w11 ⟨rfl, hog, hrow⟩
  replace hq : OwnT w11 _ q0 xs := own_row hq hrow (fun g hg hg2 => by have h1 := HQB.out g hg2; have h2 := HGB.out g hg; have y1 := z1.out; have y2 := z2.out; have y3 := z3.out; have y4 := z4.out; omega)
  have g11 : Grew w w11 := grew_row g10 hrow (fun g hg => by have h2 := HGB.out g hg; have y1 := z1.out; have y2 := z2.out; have y3 := z3.out; have y4 := z4.out; omega)
  clear hrow
  go_wp2_with fail
  refine (heldTermNodeS_c _ xs.length 1 _ hog.tms (by omega) (by omega) (by omega)).mono ?_
  rintro e w12 ⟨rfl, hg12⟩
  have z12 := Lib.hid hg12.size
  have g12 : Grew w w12 := g11.trans hg12
  replace hq := hq.grew hg12
  replace hog := hog.grew hg12
  clear hg12
  go_wp2_with fail
  refine (T0.out _ g12 hn0).mono ?_
  rintro e w13 ⟨b0, rfl, ob0, hg13⟩
  have z13 := Lib.hid hg13.size
  have g13 : Grew w w13 := g12.trans hg13
  replace hq := hq.grew hg13
  replace hog := hog.grew hg13
  clear hg13
  go_wp2_with fail
  refine (KI.out _ _ ob0.tms).mono ?_
  rintro e w14 ⟨h0, rfl, hoh, hg14⟩
  have z14 := Lib.hid hg14.size
  have g14 : Grew w w14 := g13.trans hg14
  replace hq := hq.grew hg14
  replace hog := hog.grew hg14
  clear hg14
  go_wp2_with fail
  refine (eqTermNodeS_yes _ _ xs _ hoh.tms hq.tms (by omega)).mono ?_
  rintro e w15 ⟨rfl, hg15⟩
  have z15 := Lib.hid hg15.size
  have g15 : Grew w w15 := g14.trans hg15
  replace hq := hq.grew hg15
  replace hog := hog.grew hg15
  replace hoh := hoh.grew hg15
  clear hg15
  go_wp2_with fail
  refine (heldTermNodeS_c _ xs.length 1 _ hog.tms (by omega) (by omega) (by omega)).mono ?_
  rintro e w16 ⟨rfl, hg16⟩
  go_wp2_with fail
  go_ret
  exact ⟨rfl, g15.trans hg16⟩
end Go.Proofs.YthofkdpmgjkgkaaGreat

/- Texts in one file: RqV RqX RqF LawRp Args. -/
import Derived.Deep.Strs
import Derived.Lib.SmallJoins
import Derived.Carry
import Derived.ProofKit
import Derived.Test.YtjcehejnolbkgaaGreatPa1
import Derived.Test.YtjcehejnolbkgaaGreatPa2
import Derived.Test.YtjcehejnolbkgaaGreatPa3
import Derived.Test.YtjcehejnolbkgaaGreatPa4
import Derived.Test.YtjcehejnolbkgaaGreatPa5
import Derived.Test.YtjcehejnolbkgaaGreatPa6
set_option linter.all false

/- l11Premises of the reference. -/
namespace Go.Proofs.YtjcehejnolbkgaaGreat
open Go.RowKit
open Fm (Nd Tree)

theorem gd_memV {L : List ByteArray} {m : ByteArray} (hg : ∀ i, i < L.length → gd (st L i) = true) (h : dc (m ∈ L) = true) : gd m = true := by
  obtain ⟨i, hi, he⟩ := List.getElem_of_mem (of_dc h)
  have := hg i hi
  rw [← st_get hi, he] at this
  exact this

set_option maxHeartbeats 8000000 in
set_option maxRecDepth 8192 in
theorem l11Prem_9 (lg m : ByteArray) (va vb : Value) (L R : List ByteArray) (w : World) (ha : Strs w va L) (hb : Strs w vb R) (hgL : ∀ i, i < L.length → gd (st L i) = true) (hgR : ∀ i, i < R.length → gd (st R i) = true) (hFL : Fits L) (hFR : Fits R) (hnL : L.length ≤ 16) (hnR : R.length ≤ 16) (hUL : Up L) (hUR : Up R) (hmz : m.size ≤ 1048576) :
    Calls Tryz.prog 16 #[.string lg, .int .i64 9, .agg #[va, vb], .string m] w (GivesPm w ([((insA L (onF L m 5).1), R)], (onF L m 5).2.2 && rfx lg)) := by
  have KO := Lib.hid (fun W (hW : Grew w W) => l11On_c va L m 5 W (ha.grew hW) hgL (by omega) hmz (by omega))
  obtain ⟨A1, c1, rfl⟩ := strs_slice ha
  obtain ⟨A2, c2, rfl⟩ := strs_slice hb
  obtain ⟨w1, hw1⟩ : ∃ w1, w1 = w.alloc (.cells #[.slice A1 L.length c1, .slice A2 R.length c2] 29) := ⟨_, rfl⟩
  have hg1 : Grew w w1 := by rw [hw1]; exact (Grew.refl w).alloc _
  have hb0 : w1.heap[w.heap.size]? = some (.cells #[.slice A1 L.length c1, .slice A2 R.length c2] 29 (0, 0)) := by rw [hw1]; exact blk_new w _
  have p0 : ∀ W, Grew w1 W → W.cell? ⟨w.heap.size, 0, none⟩ = some (.slice A1 L.length c1) := fun W hW => by rw [blk_cell ((hW.block (blk_lt hb0)).trans hb0)]; rfl
  have p1 : ∀ W, Grew w1 W → W.cell? ⟨w.heap.size, 1, none⟩ = some (.slice A2 R.length c2) := fun W hW => by rw [blk_cell ((hW.block (blk_lt hb0)).trans hb0)]; rfl
  have hL := ha.grew hg1
  have hR := hb.grew hg1
  have HG1 := Lib.hid hg1
  have r1 := Grew.refl w1
  have d1 := r1.drew
  clear ha hb hgL hgR hb0 hg1 hFL hFR hUL hUR
  have HnL := Lib.hid hnL
  have HnR := Lib.hid hnR
  generalize hX : onF L m 5 = X at *
  clear hX
  obtain ⟨XA, XB, XC⟩ := X
  generalize hn1 : L.length = n1 at p0 hL hw1 KO ⊢
  generalize hn2 : R.length = n2 at p1 hR hw1 ⊢
  have HN1 := Lib.hid hn1
  have HN2 := Lib.hid hn2
  clear hn1 hn2 hnL hnR
  cases h1 : (lg.toList == [84]) with
  | true =>
    have hrf : rfx lg = true := by unfold rfx isLg; simp [h1]
    rw [hrf]
    clear hrf
    cases XC with
    | false =>
      go_enter Tryz.func16, Tryz.ntmps16
      go_wp2_with fail
      simp only [← hw1]
      clear hw1
      refine (KO.out _ HG1.out).mono ?_
      rintro e x0 ⟨rfl, hg0⟩
      replace hL := hL.grew hg0
      replace hR := hR.grew hg0
      go_wp2_with fail
      have hd0 := hg0.drew
      replace hL := hL.grew (Grew.refl _).drew
      replace hR := hR.grew (Grew.refl _).drew
      refine wp_region_held_drew (S := fun w' => Grew w1 w') (by kernel_rfl) hd0 (fun hHeld => ?_)
      refine wpAnyH_take (i := 0) (oi := ?on1001) (v := ?vn1001) ?hin1001 ?an1001 ?bn1001 ?cn1001 ?qn1001 (Or.inl ⟨?dn1001, ?hyn1001⟩) hHeld ?restn1001
      case hin1001 => (simp only [List.getElem?_toArray, List.getElem?_cons_zero]; exact rfl)
      case an1001 => kernel_rfl
      case bn1001 => kernel_rfl
      case cn1001 => kernel_rfl
      case qn1001 => exact fun _ _ _ h => h
      case dn1001 => rfl
      case hyn1001 => (intro z hSw; (try dsimp only at hSw); go_simp; (try with_reducible rfl))
      try simp only [Act.put, List.setIfInBounds_toArray, List.set_cons_zero, List.set_cons_succ]
      refine wpAnyH_take (i := 1) (oi := ?on1002) (v := ?vn1002) ?hin1002 ?an1002 ?bn1002 ?cn1002 ?qn1002 (Or.inl ⟨?dn1002, ?hyn1002⟩) hHeld ?restn1002
      case hin1002 => (simp only [List.getElem?_toArray, List.getElem?_cons_succ, List.getElem?_cons_zero]; exact rfl)
      case an1002 => kernel_rfl
      case bn1002 => kernel_rfl
      case cn1002 => kernel_rfl
      case qn1002 => exact fun _ _ _ h => h
      case dn1002 => rfl
      case hyn1002 => (intro z hSw; (try dsimp only at hSw); go_simp; (try with_reducible rfl))
      try simp only [Act.put, List.setIfInBounds_toArray, List.set_cons_zero, List.set_cons_succ]
      refine wpAnyH_take (i := 2) (oi := ?on1003) (v := ?vn1003) ?hin1003 ?an1003 ?bn1003 ?cn1003 ?qn1003 (Or.inl ⟨?dn1003, ?hyn1003⟩) hHeld ?restn1003
      case hin1003 => (simp only [List.getElem?_toArray, List.getElem?_cons_succ, List.getElem?_cons_zero]; exact rfl)
      case an1003 => kernel_rfl
      case bn1003 => kernel_rfl
      case cn1003 => kernel_rfl
      case qn1003 => exact fun _ _ _ h => h
      case dn1003 => rfl
      case hyn1003 => (intro z hSw; (try dsimp only at hSw); go_simp; (try with_reducible rfl))
      try simp only [Act.put, List.setIfInBounds_toArray, List.set_cons_zero, List.set_cons_succ]
      refine wpAnyH_take (i := 4) (oi := ?on1004) (v := ?vn1004) ?hin1004 ?an1004 ?bn1004 ?cn1004 ?qn1004 (Or.inl ⟨?dn1004, ?hyn1004⟩) hHeld ?restn1004
      case hin1004 => (simp only [List.getElem?_toArray, List.getElem?_cons_succ, List.getElem?_cons_zero]; exact rfl)
      case an1004 => kernel_rfl
      case bn1004 => kernel_rfl
      case cn1004 => kernel_rfl
      case qn1004 => exact fun _ _ _ h => h
      case dn1004 => rfl
      case hyn1004 => (intro z hSw; (try dsimp only at hSw); go_simp; (try with_reducible rfl))
      try simp only [Act.put, List.setIfInBounds_toArray, List.set_cons_zero, List.set_cons_succ]
      refine wpAnyH_take (i := 5) (oi := ?on1005) (v := ?vn1005) ?hin1005 ?an1005 ?bn1005 ?cn1005 ?qn1005 (Or.inl ⟨?dn1005, ?hyn1005⟩) hHeld ?restn1005
      case hin1005 => (simp only [List.getElem?_toArray, List.getElem?_cons_succ, List.getElem?_cons_zero]; exact rfl)
      case an1005 => kernel_rfl
      case bn1005 => kernel_rfl
      case cn1005 => kernel_rfl
      case qn1005 => exact fun _ _ _ h => h
      case dn1005 => rfl
      case hyn1005 => (intro z hSw; (try dsimp only at hSw); go_simp; (try with_reducible rfl))
      try simp only [Act.put, List.setIfInBounds_toArray, List.set_cons_zero, List.set_cons_succ]
      refine wpAnyH_take (i := 8) (oi := ?on1006) (v := ?vn1006) ?hin1006 ?an1006 ?bn1006 ?cn1006 ?qn1006 (Or.inl ⟨?dn1006, ?hyn1006⟩) hHeld ?restn1006
      case hin1006 => (simp only [List.getElem?_toArray, List.getElem?_cons_succ, List.getElem?_cons_zero]; exact rfl)
      case an1006 => kernel_rfl
      case bn1006 => kernel_rfl
      case cn1006 => kernel_rfl
      case qn1006 => exact fun _ _ _ h => h
      case dn1006 => rfl
      case hyn1006 => (intro z hSw; (try dsimp only at hSw); go_simp; (try with_reducible rfl))
      try simp only [Act.put, List.setIfInBounds_toArray, List.set_cons_zero, List.set_cons_succ]
      refine wpAnyH_ready (rs := [3]) (by kernel_rfl) (by simp) ?_
      refine AllReadyH.cons (o := ?on1007) ?hin1007 ?restn1007 AllReadyH.nil
      case hin1007 => (simp only [List.getElem?_toArray, List.getElem?_cons_succ, List.getElem?_cons_zero]; exact rfl)
      intro K hK
      go_simp
      go_at_call 32
      refine (ins_sl _ _ _ L XA _ hL (by have := HnL.out; omega)).mono ?_
      rintro e x1 ⟨Bs1, ms1, ds1, rfl, hs1, hgx1⟩
      have hx1 : Grew w1 x1 := hd0.trans hgx1
      replace hL := hL.grew hgx1
      replace hR := hR.grew hgx1
      refine hK.out _ _ ?_ (fun hHeld => ?_)
      · (try dsimp only); first | with_reducible assumption | exact hx1
      clear hK K
      try simp only [Act.put, List.setIfInBounds_toArray, List.set_cons_zero, List.set_cons_succ]
      refine wpAnyH_ready (rs := [6]) (by kernel_rfl) (by simp) ?_
      refine AllReadyH.cons (o := ?on1008) ?hin1008 ?restn1008 AllReadyH.nil
      case hin1008 => (simp only [List.getElem?_toArray, List.getElem?_cons_succ, List.getElem?_cons_zero]; exact rfl)
      intro K hK
      go_simp
      obtain ⟨x2, hwx2⟩ : ∃ W, W = x1.alloc (.cells #[.slice Bs1 ms1 ds1, .slice A2 n2 c2] 22) := ⟨_, rfl⟩
      have hgx2 : Grew x1 x2 := by rw [hwx2]; exact (Grew.refl _).alloc _
      have hx2 : Grew w1 x2 := hx1.trans hgx2
      have hlit : x2.heap[x1.heap.size]? = some (.cells #[.slice Bs1 ms1 ds1, .slice A2 n2 c2] 22 (0, 0)) := by rw [hwx2]; exact blk_new _ _
      try simp only [← hwx2]
      clear hwx2
      replace hL := hL.grew hgx2
      replace hR := hR.grew hgx2
      replace hs1 := hs1.grew hgx2
      refine hK.out _ _ ?_ (fun hHeld => ?_)
      · (try dsimp only); first | with_reducible assumption | exact hx2
      clear hK K
      try simp only [Act.put, List.setIfInBounds_toArray, List.set_cons_zero, List.set_cons_succ]
      refine wpAnyH_ready (rs := [7]) (by kernel_rfl) (by simp) ?_
      refine AllReadyH.cons (o := ?on1009) ?hin1009 ?restn1009 AllReadyH.nil
      case hin1009 => (simp only [List.getElem?_toArray, List.getElem?_cons_succ, List.getElem?_cons_zero]; exact rfl)
      intro K hK
      go_simp
      have hsd := sdR_one hlit hs1 hR
      have hll : ∀ x ∈ ([((insA L XA), R)] : List Ms), x.1.length ≤ 1048576 ∧ x.2.length ≤ 1048576 := by
        intro x hx; simp only [List.mem_cons, List.not_mem_nil, or_false] at hx; rcases hx with rfl; refine ⟨?_, ?_⟩ <;> dsimp only
        · exact (by have := insA_len L XA; have := HnL.out; omega)
        · exact (by have := HnR.out; omega)
      go_at_call 31
      refine (sq_sl _ 2 [((insA L XA), R)] _ rfl hsd (by simp) hll).mono ?_
      rintro e x3 ⟨Bq, mq, dq, rfl, hq, hgx3⟩
      have hx3 : Grew w1 x3 := hx2.trans hgx3
      replace hL := hL.grew hgx3
      replace hR := hR.grew hgx3
      replace hs1 := hs1.grew hgx3
      refine hK.out _ _ ?_ (fun hHeld => ?_)
      · (try dsimp only); first | with_reducible assumption | exact hx3
      clear hK K
      try simp only [Act.put, List.setIfInBounds_toArray, List.set_cons_zero, List.set_cons_succ]
      refine wpAnyH_take (i := 9) (oi := ?on1010) (v := ?vn1010) ?hin1010 ?an1010 ?bn1010 ?cn1010 ?qn1010 (Or.inl ⟨?dn1010, ?hyn1010⟩) hHeld ?restn1010
      case hin1010 => (simp only [List.getElem?_toArray, List.getElem?_cons_succ, List.getElem?_cons_zero]; exact rfl)
      case an1010 => kernel_rfl
      case bn1010 => kernel_rfl
      case cn1010 => kernel_rfl
      case qn1010 => exact fun _ _ _ h => h
      case dn1010 => rfl
      case hyn1010 => (intro z hSw; (try dsimp only at hSw); go_simp; (try with_reducible rfl))
      try simp only [Act.put, List.setIfInBounds_toArray, List.set_cons_zero, List.set_cons_succ]
      refine wpAnyH_take (i := 10) (oi := ?on1011) ?hin1011 ?an1011 ?bn1011 ?cn1011 ?qn1011 (Or.inr ⟨?dn1011, rfl⟩) hHeld ?restn1011
      case hin1011 => (simp only [List.getElem?_toArray, List.getElem?_cons_succ, List.getElem?_cons_zero]; exact rfl)
      case an1011 => kernel_rfl
      case bn1011 => kernel_rfl
      case cn1011 => kernel_rfl
      case qn1011 => exact fun _ _ _ h => h
      case dn1011 => rfl
      try simp only [Act.put, List.setIfInBounds_toArray, List.set_cons_zero, List.set_cons_succ]
      refine wpAnyH_take (i := 11) (oi := ?on1012) (v := ?vn1012) ?hin1012 ?an1012 ?bn1012 ?cn1012 ?qn1012 (Or.inl ⟨?dn1012, ?hyn1012⟩) hHeld ?restn1012
      case hin1012 => (simp only [List.getElem?_toArray, List.getElem?_cons_succ, List.getElem?_cons_zero]; exact rfl)
      case an1012 => kernel_rfl
      case bn1012 => kernel_rfl
      case cn1012 => kernel_rfl
      case qn1012 => exact fun _ _ _ h => h
      case dn1012 => rfl
      case hyn1012 => (intro z hSw; (try dsimp only at hSw); go_simp; (try with_reducible rfl))
      try simp only [Act.put, List.setIfInBounds_toArray, List.set_cons_zero, List.set_cons_succ]
      refine wpAnyH_take (i := 12) (oi := ?on1013) (v := ?vn1013) ?hin1013 ?an1013 ?bn1013 ?cn1013 ?qn1013 (Or.inl ⟨?dn1013, ?hyn1013⟩) hHeld ?restn1013
      case hin1013 => (simp only [List.getElem?_toArray, List.getElem?_cons_succ, List.getElem?_cons_zero]; exact rfl)
      case an1013 => kernel_rfl
      case bn1013 => kernel_rfl
      case cn1013 => kernel_rfl
      case qn1013 => exact fun _ _ _ h => h
      case dn1013 => rfl
      case hyn1013 => (intro z hSw; (try dsimp only at hSw); go_simp; (try with_reducible rfl))
      try simp only [Act.put, List.setIfInBounds_toArray, List.set_cons_zero, List.set_cons_succ]
      refine wpAnyH_take (i := 13) (oi := ?on1014) (v := ?vn1014) ?hin1014 ?an1014 ?bn1014 ?cn1014 ?qn1014 (Or.inl ⟨?dn1014, ?hyn1014⟩) hHeld ?restn1014
      case hin1014 => (simp only [List.getElem?_toArray, List.getElem?_cons_succ, List.getElem?_cons_zero]; exact rfl)
      case an1014 => kernel_rfl
      case bn1014 => kernel_rfl
      case cn1014 => kernel_rfl
      case qn1014 => exact fun _ _ _ h => h
      case dn1014 => rfl
      case hyn1014 => (intro z hSw; (try dsimp only at hSw); go_simp; (try with_reducible rfl))
      try simp only [Act.put, List.setIfInBounds_toArray, List.set_cons_zero, List.set_cons_succ]
      refine wpAnyH_done (by kernel_rfl) ?_ _
      go_wp2_with fail
      go_ret2
      exact ⟨_, _, _, rfl, fun _ => hq, HG1.out.trans hx3⟩
    | true =>
      go_enter Tryz.func16, Tryz.ntmps16
      go_wp2_with fail
      simp only [← hw1]
      clear hw1
      refine (KO.out _ HG1.out).mono ?_
      rintro e x0 ⟨rfl, hg0⟩
      replace hL := hL.grew hg0
      replace hR := hR.grew hg0
      go_wp2_with fail
      have hd0 := hg0.drew
      replace hL := hL.grew (Grew.refl _).drew
      replace hR := hR.grew (Grew.refl _).drew
      refine wp_region_held_drew (S := fun w' => Grew w1 w') (by kernel_rfl) hd0 (fun hHeld => ?_)
      refine wpAnyH_take (i := 0) (oi := ?on2015) (v := ?vn2015) ?hin2015 ?an2015 ?bn2015 ?cn2015 ?qn2015 (Or.inl ⟨?dn2015, ?hyn2015⟩) hHeld ?restn2015
      case hin2015 => (simp only [List.getElem?_toArray, List.getElem?_cons_zero]; exact rfl)
      case an2015 => kernel_rfl
      case bn2015 => kernel_rfl
      case cn2015 => kernel_rfl
      case qn2015 => exact fun _ _ _ h => h
      case dn2015 => rfl
      case hyn2015 => (intro z hSw; (try dsimp only at hSw); go_simp; (try with_reducible rfl))
      try simp only [Act.put, List.setIfInBounds_toArray, List.set_cons_zero, List.set_cons_succ]
      refine wpAnyH_take (i := 1) (oi := ?on2016) (v := ?vn2016) ?hin2016 ?an2016 ?bn2016 ?cn2016 ?qn2016 (Or.inl ⟨?dn2016, ?hyn2016⟩) hHeld ?restn2016
      case hin2016 => (simp only [List.getElem?_toArray, List.getElem?_cons_succ, List.getElem?_cons_zero]; exact rfl)
      case an2016 => kernel_rfl
      case bn2016 => kernel_rfl
      case cn2016 => kernel_rfl
      case qn2016 => exact fun _ _ _ h => h
      case dn2016 => rfl
      case hyn2016 => (intro z hSw; (try dsimp only at hSw); go_simp; (try with_reducible rfl))
      try simp only [Act.put, List.setIfInBounds_toArray, List.set_cons_zero, List.set_cons_succ]
      refine wpAnyH_take (i := 2) (oi := ?on2017) (v := ?vn2017) ?hin2017 ?an2017 ?bn2017 ?cn2017 ?qn2017 (Or.inl ⟨?dn2017, ?hyn2017⟩) hHeld ?restn2017
      case hin2017 => (simp only [List.getElem?_toArray, List.getElem?_cons_succ, List.getElem?_cons_zero]; exact rfl)
      case an2017 => kernel_rfl
      case bn2017 => kernel_rfl
      case cn2017 => kernel_rfl
      case qn2017 => exact fun _ _ _ h => h
      case dn2017 => rfl
      case hyn2017 => (intro z hSw; (try dsimp only at hSw); go_simp; (try with_reducible rfl))
      try simp only [Act.put, List.setIfInBounds_toArray, List.set_cons_zero, List.set_cons_succ]
      refine wpAnyH_take (i := 4) (oi := ?on2018) (v := ?vn2018) ?hin2018 ?an2018 ?bn2018 ?cn2018 ?qn2018 (Or.inl ⟨?dn2018, ?hyn2018⟩) hHeld ?restn2018
      case hin2018 => (simp only [List.getElem?_toArray, List.getElem?_cons_succ, List.getElem?_cons_zero]; exact rfl)
      case an2018 => kernel_rfl
      case bn2018 => kernel_rfl
      case cn2018 => kernel_rfl
      case qn2018 => exact fun _ _ _ h => h
      case dn2018 => rfl
      case hyn2018 => (intro z hSw; (try dsimp only at hSw); go_simp; (try with_reducible rfl))
      try simp only [Act.put, List.setIfInBounds_toArray, List.set_cons_zero, List.set_cons_succ]
      refine wpAnyH_take (i := 5) (oi := ?on2019) (v := ?vn2019) ?hin2019 ?an2019 ?bn2019 ?cn2019 ?qn2019 (Or.inl ⟨?dn2019, ?hyn2019⟩) hHeld ?restn2019
      case hin2019 => (simp only [List.getElem?_toArray, List.getElem?_cons_succ, List.getElem?_cons_zero]; exact rfl)
      case an2019 => kernel_rfl
      case bn2019 => kernel_rfl
      case cn2019 => kernel_rfl
      case qn2019 => exact fun _ _ _ h => h
      case dn2019 => rfl
      case hyn2019 => (intro z hSw; (try dsimp only at hSw); go_simp; (try with_reducible rfl))
      try simp only [Act.put, List.setIfInBounds_toArray, List.set_cons_zero, List.set_cons_succ]
      refine wpAnyH_take (i := 8) (oi := ?on2020) (v := ?vn2020) ?hin2020 ?an2020 ?bn2020 ?cn2020 ?qn2020 (Or.inl ⟨?dn2020, ?hyn2020⟩) hHeld ?restn2020
      case hin2020 => (simp only [List.getElem?_toArray, List.getElem?_cons_succ, List.getElem?_cons_zero]; exact rfl)
      case an2020 => kernel_rfl
      case bn2020 => kernel_rfl
      case cn2020 => kernel_rfl
      case qn2020 => exact fun _ _ _ h => h
      case dn2020 => rfl
      case hyn2020 => (intro z hSw; (try dsimp only at hSw); go_simp; (try with_reducible rfl))
      try simp only [Act.put, List.setIfInBounds_toArray, List.set_cons_zero, List.set_cons_succ]
      refine wpAnyH_ready (rs := [3]) (by kernel_rfl) (by simp) ?_
      refine AllReadyH.cons (o := ?on2021) ?hin2021 ?restn2021 AllReadyH.nil
      case hin2021 => (simp only [List.getElem?_toArray, List.getElem?_cons_succ, List.getElem?_cons_zero]; exact rfl)
      intro K hK
      go_simp
      go_at_call 32
      refine (ins_sl _ _ _ L XA _ hL (by have := HnL.out; omega)).mono ?_
      rintro e x1 ⟨Bs1, ms1, ds1, rfl, hs1, hgx1⟩
      have hx1 : Grew w1 x1 := hd0.trans hgx1
      replace hL := hL.grew hgx1
      replace hR := hR.grew hgx1
      refine hK.out _ _ ?_ (fun hHeld => ?_)
      · (try dsimp only); first | with_reducible assumption | exact hx1
      clear hK K
      try simp only [Act.put, List.setIfInBounds_toArray, List.set_cons_zero, List.set_cons_succ]
      refine wpAnyH_ready (rs := [6]) (by kernel_rfl) (by simp) ?_
      refine AllReadyH.cons (o := ?on2022) ?hin2022 ?restn2022 AllReadyH.nil
      case hin2022 => (simp only [List.getElem?_toArray, List.getElem?_cons_succ, List.getElem?_cons_zero]; exact rfl)
      intro K hK
      go_simp
      obtain ⟨x2, hwx2⟩ : ∃ W, W = x1.alloc (.cells #[.slice Bs1 ms1 ds1, .slice A2 n2 c2] 22) := ⟨_, rfl⟩
      have hgx2 : Grew x1 x2 := by rw [hwx2]; exact (Grew.refl _).alloc _
      have hx2 : Grew w1 x2 := hx1.trans hgx2
      have hlit : x2.heap[x1.heap.size]? = some (.cells #[.slice Bs1 ms1 ds1, .slice A2 n2 c2] 22 (0, 0)) := by rw [hwx2]; exact blk_new _ _
      try simp only [← hwx2]
      clear hwx2
      replace hL := hL.grew hgx2
      replace hR := hR.grew hgx2
      replace hs1 := hs1.grew hgx2
      refine hK.out _ _ ?_ (fun hHeld => ?_)
      · (try dsimp only); first | with_reducible assumption | exact hx2
      clear hK K
      try simp only [Act.put, List.setIfInBounds_toArray, List.set_cons_zero, List.set_cons_succ]
      refine wpAnyH_ready (rs := [7]) (by kernel_rfl) (by simp) ?_
      refine AllReadyH.cons (o := ?on2023) ?hin2023 ?restn2023 AllReadyH.nil
      case hin2023 => (simp only [List.getElem?_toArray, List.getElem?_cons_succ, List.getElem?_cons_zero]; exact rfl)
      intro K hK
      go_simp
      have hsd := sdR_one hlit hs1 hR
      have hll : ∀ x ∈ ([((insA L XA), R)] : List Ms), x.1.length ≤ 1048576 ∧ x.2.length ≤ 1048576 := by
        intro x hx; simp only [List.mem_cons, List.not_mem_nil, or_false] at hx; rcases hx with rfl; refine ⟨?_, ?_⟩ <;> dsimp only
        · exact (by have := insA_len L XA; have := HnL.out; omega)
        · exact (by have := HnR.out; omega)
      go_at_call 31
      refine (sq_sl _ 2 [((insA L XA), R)] _ rfl hsd (by simp) hll).mono ?_
      rintro e x3 ⟨Bq, mq, dq, rfl, hq, hgx3⟩
      have hx3 : Grew w1 x3 := hx2.trans hgx3
      replace hL := hL.grew hgx3
      replace hR := hR.grew hgx3
      replace hs1 := hs1.grew hgx3
      refine hK.out _ _ ?_ (fun hHeld => ?_)
      · (try dsimp only); first | with_reducible assumption | exact hx3
      clear hK K
      try simp only [Act.put, List.setIfInBounds_toArray, List.set_cons_zero, List.set_cons_succ]
      refine wpAnyH_take (i := 9) (oi := ?on2024) (v := ?vn2024) ?hin2024 ?an2024 ?bn2024 ?cn2024 ?qn2024 (Or.inl ⟨?dn2024, ?hyn2024⟩) hHeld ?restn2024
      case hin2024 => (simp only [List.getElem?_toArray, List.getElem?_cons_succ, List.getElem?_cons_zero]; exact rfl)
      case an2024 => kernel_rfl
      case bn2024 => kernel_rfl
      case cn2024 => kernel_rfl
      case qn2024 => exact fun _ _ _ h => h
      case dn2024 => rfl
      case hyn2024 => (intro z hSw; (try dsimp only at hSw); go_simp; (try with_reducible rfl))
      try simp only [Act.put, List.setIfInBounds_toArray, List.set_cons_zero, List.set_cons_succ]
      refine wpAnyH_take (i := 10) (oi := ?on2025) (v := ?vn2025) ?hin2025 ?an2025 ?bn2025 ?cn2025 ?qn2025 (Or.inl ⟨?dn2025, ?hyn2025⟩) hHeld ?restn2025
      case hin2025 => (simp only [List.getElem?_toArray, List.getElem?_cons_succ, List.getElem?_cons_zero]; exact rfl)
      case an2025 => kernel_rfl
      case bn2025 => kernel_rfl
      case cn2025 => kernel_rfl
      case qn2025 => exact fun _ _ _ h => h
      case dn2025 => rfl
      case hyn2025 => (intro z hSw; (try dsimp only at hSw); go_simp; (try with_reducible rfl))
      try simp only [Act.put, List.setIfInBounds_toArray, List.set_cons_zero, List.set_cons_succ]
      refine wpAnyH_take (i := 11) (oi := ?on2026) (v := ?vn2026) ?hin2026 ?an2026 ?bn2026 ?cn2026 ?qn2026 (Or.inl ⟨?dn2026, ?hyn2026⟩) hHeld ?restn2026
      case hin2026 => (simp only [List.getElem?_toArray, List.getElem?_cons_succ, List.getElem?_cons_zero]; exact rfl)
      case an2026 => kernel_rfl
      case bn2026 => kernel_rfl
      case cn2026 => kernel_rfl
      case qn2026 => exact fun _ _ _ h => h
      case dn2026 => rfl
      case hyn2026 => (intro z hSw; (try dsimp only at hSw); go_simp; (try with_reducible rfl))
      try simp only [Act.put, List.setIfInBounds_toArray, List.set_cons_zero, List.set_cons_succ]
      refine wpAnyH_take (i := 12) (oi := ?on2027) (v := ?vn2027) ?hin2027 ?an2027 ?bn2027 ?cn2027 ?qn2027 (Or.inl ⟨?dn2027, ?hyn2027⟩) hHeld ?restn2027
      case hin2027 => (simp only [List.getElem?_toArray, List.getElem?_cons_succ, List.getElem?_cons_zero]; exact rfl)
      case an2027 => kernel_rfl
      case bn2027 => kernel_rfl
      case cn2027 => kernel_rfl
      case qn2027 => exact fun _ _ _ h => h
      case dn2027 => rfl
      case hyn2027 => (intro z hSw; (try dsimp only at hSw); go_simp; (try with_reducible rfl))
      try simp only [Act.put, List.setIfInBounds_toArray, List.set_cons_zero, List.set_cons_succ]
      refine wpAnyH_take (i := 13) (oi := ?on2028) (v := ?vn2028) ?hin2028 ?an2028 ?bn2028 ?cn2028 ?qn2028 (Or.inl ⟨?dn2028, ?hyn2028⟩) hHeld ?restn2028
      case hin2028 => (simp only [List.getElem?_toArray, List.getElem?_cons_succ, List.getElem?_cons_zero]; exact rfl)
      case an2028 => kernel_rfl
      case bn2028 => kernel_rfl
      case cn2028 => kernel_rfl
      case qn2028 => exact fun _ _ _ h => h
      case dn2028 => rfl
      case hyn2028 => (intro z hSw; (try dsimp only at hSw); go_simp; (try with_reducible rfl))
      try simp only [Act.put, List.setIfInBounds_toArray, List.set_cons_zero, List.set_cons_succ]
      refine wpAnyH_done (by kernel_rfl) ?_ _
      go_wp2_with fail
      go_ret2
      exact ⟨_, _, _, rfl, fun _ => hq, HG1.out.trans hx3⟩
  | false =>
  cases h2 : (lg.toList == [83, 52]) with
  | true =>
    have hrf : rfx lg = true := by unfold rfx isLg; simp [h1, h2]
    rw [hrf]
    clear hrf
    cases XC with
    | false =>
      go_enter Tryz.func16, Tryz.ntmps16
      go_wp2_with fail
      simp only [← hw1]
      clear hw1
      refine (KO.out _ HG1.out).mono ?_
      rintro e x0 ⟨rfl, hg0⟩
      replace hL := hL.grew hg0
      replace hR := hR.grew hg0
      go_wp2_with fail
      have hd0 := hg0.drew
      replace hL := hL.grew (Grew.refl _).drew
      replace hR := hR.grew (Grew.refl _).drew
      refine wp_region_held_drew (S := fun w' => Grew w1 w') (by kernel_rfl) hd0 (fun hHeld => ?_)
      refine wpAnyH_take (i := 0) (oi := ?on3029) (v := ?vn3029) ?hin3029 ?an3029 ?bn3029 ?cn3029 ?qn3029 (Or.inl ⟨?dn3029, ?hyn3029⟩) hHeld ?restn3029
      case hin3029 => (simp only [List.getElem?_toArray, List.getElem?_cons_zero]; exact rfl)
      case an3029 => kernel_rfl
      case bn3029 => kernel_rfl
      case cn3029 => kernel_rfl
      case qn3029 => exact fun _ _ _ h => h
      case dn3029 => rfl
      case hyn3029 => (intro z hSw; (try dsimp only at hSw); go_simp; (try with_reducible rfl))
      try simp only [Act.put, List.setIfInBounds_toArray, List.set_cons_zero, List.set_cons_succ]
      refine wpAnyH_take (i := 1) (oi := ?on3030) (v := ?vn3030) ?hin3030 ?an3030 ?bn3030 ?cn3030 ?qn3030 (Or.inl ⟨?dn3030, ?hyn3030⟩) hHeld ?restn3030
      case hin3030 => (simp only [List.getElem?_toArray, List.getElem?_cons_succ, List.getElem?_cons_zero]; exact rfl)
      case an3030 => kernel_rfl
      case bn3030 => kernel_rfl
      case cn3030 => kernel_rfl
      case qn3030 => exact fun _ _ _ h => h
      case dn3030 => rfl
      case hyn3030 => (intro z hSw; (try dsimp only at hSw); go_simp; (try with_reducible rfl))
      try simp only [Act.put, List.setIfInBounds_toArray, List.set_cons_zero, List.set_cons_succ]
      refine wpAnyH_take (i := 2) (oi := ?on3031) (v := ?vn3031) ?hin3031 ?an3031 ?bn3031 ?cn3031 ?qn3031 (Or.inl ⟨?dn3031, ?hyn3031⟩) hHeld ?restn3031
      case hin3031 => (simp only [List.getElem?_toArray, List.getElem?_cons_succ, List.getElem?_cons_zero]; exact rfl)
      case an3031 => kernel_rfl
      case bn3031 => kernel_rfl
      case cn3031 => kernel_rfl
      case qn3031 => exact fun _ _ _ h => h
      case dn3031 => rfl
      case hyn3031 => (intro z hSw; (try dsimp only at hSw); go_simp; (try with_reducible rfl))
      try simp only [Act.put, List.setIfInBounds_toArray, List.set_cons_zero, List.set_cons_succ]
      refine wpAnyH_take (i := 4) (oi := ?on3032) (v := ?vn3032) ?hin3032 ?an3032 ?bn3032 ?cn3032 ?qn3032 (Or.inl ⟨?dn3032, ?hyn3032⟩) hHeld ?restn3032
      case hin3032 => (simp only [List.getElem?_toArray, List.getElem?_cons_succ, List.getElem?_cons_zero]; exact rfl)
      case an3032 => kernel_rfl
      case bn3032 => kernel_rfl
      case cn3032 => kernel_rfl
      case qn3032 => exact fun _ _ _ h => h
      case dn3032 => rfl
      case hyn3032 => (intro z hSw; (try dsimp only at hSw); go_simp; (try with_reducible rfl))
      try simp only [Act.put, List.setIfInBounds_toArray, List.set_cons_zero, List.set_cons_succ]
      refine wpAnyH_take (i := 5) (oi := ?on3033) (v := ?vn3033) ?hin3033 ?an3033 ?bn3033 ?cn3033 ?qn3033 (Or.inl ⟨?dn3033, ?hyn3033⟩) hHeld ?restn3033
      case hin3033 => (simp only [List.getElem?_toArray, List.getElem?_cons_succ, List.getElem?_cons_zero]; exact rfl)
      case an3033 => kernel_rfl
      case bn3033 => kernel_rfl
      case cn3033 => kernel_rfl
      case qn3033 => exact fun _ _ _ h => h
      case dn3033 => rfl
      case hyn3033 => (intro z hSw; (try dsimp only at hSw); go_simp; (try with_reducible rfl))
      try simp only [Act.put, List.setIfInBounds_toArray, List.set_cons_zero, List.set_cons_succ]
      refine wpAnyH_take (i := 8) (oi := ?on3034) (v := ?vn3034) ?hin3034 ?an3034 ?bn3034 ?cn3034 ?qn3034 (Or.inl ⟨?dn3034, ?hyn3034⟩) hHeld ?restn3034
      case hin3034 => (simp only [List.getElem?_toArray, List.getElem?_cons_succ, List.getElem?_cons_zero]; exact rfl)
      case an3034 => kernel_rfl
      case bn3034 => kernel_rfl
      case cn3034 => kernel_rfl
      case qn3034 => exact fun _ _ _ h => h
      case dn3034 => rfl
      case hyn3034 => (intro z hSw; (try dsimp only at hSw); go_simp; (try with_reducible rfl))
      try simp only [Act.put, List.setIfInBounds_toArray, List.set_cons_zero, List.set_cons_succ]
      refine wpAnyH_ready (rs := [3]) (by kernel_rfl) (by simp) ?_
      refine AllReadyH.cons (o := ?on3035) ?hin3035 ?restn3035 AllReadyH.nil
      case hin3035 => (simp only [List.getElem?_toArray, List.getElem?_cons_succ, List.getElem?_cons_zero]; exact rfl)
      intro K hK
      go_simp
      go_at_call 32
      refine (ins_sl _ _ _ L XA _ hL (by have := HnL.out; omega)).mono ?_
      rintro e x1 ⟨Bs1, ms1, ds1, rfl, hs1, hgx1⟩
      have hx1 : Grew w1 x1 := hd0.trans hgx1
      replace hL := hL.grew hgx1
      replace hR := hR.grew hgx1
      refine hK.out _ _ ?_ (fun hHeld => ?_)
      · (try dsimp only); first | with_reducible assumption | exact hx1
      clear hK K
      try simp only [Act.put, List.setIfInBounds_toArray, List.set_cons_zero, List.set_cons_succ]
      refine wpAnyH_ready (rs := [6]) (by kernel_rfl) (by simp) ?_
      refine AllReadyH.cons (o := ?on3036) ?hin3036 ?restn3036 AllReadyH.nil
      case hin3036 => (simp only [List.getElem?_toArray, List.getElem?_cons_succ, List.getElem?_cons_zero]; exact rfl)
      intro K hK
      go_simp
      obtain ⟨x2, hwx2⟩ : ∃ W, W = x1.alloc (.cells #[.slice Bs1 ms1 ds1, .slice A2 n2 c2] 22) := ⟨_, rfl⟩
      have hgx2 : Grew x1 x2 := by rw [hwx2]; exact (Grew.refl _).alloc _
      have hx2 : Grew w1 x2 := hx1.trans hgx2
      have hlit : x2.heap[x1.heap.size]? = some (.cells #[.slice Bs1 ms1 ds1, .slice A2 n2 c2] 22 (0, 0)) := by rw [hwx2]; exact blk_new _ _
      try simp only [← hwx2]
      clear hwx2
      replace hL := hL.grew hgx2
      replace hR := hR.grew hgx2
      replace hs1 := hs1.grew hgx2
      refine hK.out _ _ ?_ (fun hHeld => ?_)
      · (try dsimp only); first | with_reducible assumption | exact hx2
      clear hK K
      try simp only [Act.put, List.setIfInBounds_toArray, List.set_cons_zero, List.set_cons_succ]
      refine wpAnyH_ready (rs := [7]) (by kernel_rfl) (by simp) ?_
      refine AllReadyH.cons (o := ?on3037) ?hin3037 ?restn3037 AllReadyH.nil
      case hin3037 => (simp only [List.getElem?_toArray, List.getElem?_cons_succ, List.getElem?_cons_zero]; exact rfl)
      intro K hK
      go_simp
      have hsd := sdR_one hlit hs1 hR
      have hll : ∀ x ∈ ([((insA L XA), R)] : List Ms), x.1.length ≤ 1048576 ∧ x.2.length ≤ 1048576 := by
        intro x hx; simp only [List.mem_cons, List.not_mem_nil, or_false] at hx; rcases hx with rfl; refine ⟨?_, ?_⟩ <;> dsimp only
        · exact (by have := insA_len L XA; have := HnL.out; omega)
        · exact (by have := HnR.out; omega)
      go_at_call 31
      refine (sq_sl _ 2 [((insA L XA), R)] _ rfl hsd (by simp) hll).mono ?_
      rintro e x3 ⟨Bq, mq, dq, rfl, hq, hgx3⟩
      have hx3 : Grew w1 x3 := hx2.trans hgx3
      replace hL := hL.grew hgx3
      replace hR := hR.grew hgx3
      replace hs1 := hs1.grew hgx3
      refine hK.out _ _ ?_ (fun hHeld => ?_)
      · (try dsimp only); first | with_reducible assumption | exact hx3
      clear hK K
      try simp only [Act.put, List.setIfInBounds_toArray, List.set_cons_zero, List.set_cons_succ]
      refine wpAnyH_take (i := 9) (oi := ?on3038) (v := ?vn3038) ?hin3038 ?an3038 ?bn3038 ?cn3038 ?qn3038 (Or.inl ⟨?dn3038, ?hyn3038⟩) hHeld ?restn3038
      case hin3038 => (simp only [List.getElem?_toArray, List.getElem?_cons_succ, List.getElem?_cons_zero]; exact rfl)
      case an3038 => kernel_rfl
      case bn3038 => kernel_rfl
      case cn3038 => kernel_rfl
      case qn3038 => exact fun _ _ _ h => h
      case dn3038 => rfl
      case hyn3038 => (intro z hSw; (try dsimp only at hSw); go_simp; (try with_reducible rfl))
      try simp only [Act.put, List.setIfInBounds_toArray, List.set_cons_zero, List.set_cons_succ]
      refine wpAnyH_take (i := 10) (oi := ?on3039) ?hin3039 ?an3039 ?bn3039 ?cn3039 ?qn3039 (Or.inr ⟨?dn3039, rfl⟩) hHeld ?restn3039
      case hin3039 => (simp only [List.getElem?_toArray, List.getElem?_cons_succ, List.getElem?_cons_zero]; exact rfl)
      case an3039 => kernel_rfl
      case bn3039 => kernel_rfl
      case cn3039 => kernel_rfl
      case qn3039 => exact fun _ _ _ h => h
      case dn3039 => rfl
      try simp only [Act.put, List.setIfInBounds_toArray, List.set_cons_zero, List.set_cons_succ]
      refine wpAnyH_take (i := 11) (oi := ?on3040) (v := ?vn3040) ?hin3040 ?an3040 ?bn3040 ?cn3040 ?qn3040 (Or.inl ⟨?dn3040, ?hyn3040⟩) hHeld ?restn3040
      case hin3040 => (simp only [List.getElem?_toArray, List.getElem?_cons_succ, List.getElem?_cons_zero]; exact rfl)
      case an3040 => kernel_rfl
      case bn3040 => kernel_rfl
      case cn3040 => kernel_rfl
      case qn3040 => exact fun _ _ _ h => h
      case dn3040 => rfl
      case hyn3040 => (intro z hSw; (try dsimp only at hSw); go_simp; (try with_reducible rfl))
      try simp only [Act.put, List.setIfInBounds_toArray, List.set_cons_zero, List.set_cons_succ]
      refine wpAnyH_take (i := 12) (oi := ?on3041) (v := ?vn3041) ?hin3041 ?an3041 ?bn3041 ?cn3041 ?qn3041 (Or.inl ⟨?dn3041, ?hyn3041⟩) hHeld ?restn3041
      case hin3041 => (simp only [List.getElem?_toArray, List.getElem?_cons_succ, List.getElem?_cons_zero]; exact rfl)
      case an3041 => kernel_rfl
      case bn3041 => kernel_rfl
      case cn3041 => kernel_rfl
      case qn3041 => exact fun _ _ _ h => h
      case dn3041 => rfl
      case hyn3041 => (intro z hSw; (try dsimp only at hSw); go_simp; (try with_reducible rfl))
      try simp only [Act.put, List.setIfInBounds_toArray, List.set_cons_zero, List.set_cons_succ]
      refine wpAnyH_take (i := 13) (oi := ?on3042) (v := ?vn3042) ?hin3042 ?an3042 ?bn3042 ?cn3042 ?qn3042 (Or.inl ⟨?dn3042, ?hyn3042⟩) hHeld ?restn3042
      case hin3042 => (simp only [List.getElem?_toArray, List.getElem?_cons_succ, List.getElem?_cons_zero]; exact rfl)
      case an3042 => kernel_rfl
      case bn3042 => kernel_rfl
      case cn3042 => kernel_rfl
      case qn3042 => exact fun _ _ _ h => h
      case dn3042 => rfl
      case hyn3042 => (intro z hSw; (try dsimp only at hSw); go_simp; (try with_reducible rfl))
      try simp only [Act.put, List.setIfInBounds_toArray, List.set_cons_zero, List.set_cons_succ]
      refine wpAnyH_done (by kernel_rfl) ?_ _
      go_wp2_with fail
      go_ret2
      exact ⟨_, _, _, rfl, fun _ => hq, HG1.out.trans hx3⟩
    | true =>
      go_enter Tryz.func16, Tryz.ntmps16
      go_wp2_with fail
      simp only [← hw1]
      clear hw1
      refine (KO.out _ HG1.out).mono ?_
      rintro e x0 ⟨rfl, hg0⟩
      replace hL := hL.grew hg0
      replace hR := hR.grew hg0
      go_wp2_with fail
      have hd0 := hg0.drew
      replace hL := hL.grew (Grew.refl _).drew
      replace hR := hR.grew (Grew.refl _).drew
      refine wp_region_held_drew (S := fun w' => Grew w1 w') (by kernel_rfl) hd0 (fun hHeld => ?_)
      refine wpAnyH_take (i := 0) (oi := ?on4043) (v := ?vn4043) ?hin4043 ?an4043 ?bn4043 ?cn4043 ?qn4043 (Or.inl ⟨?dn4043, ?hyn4043⟩) hHeld ?restn4043
      case hin4043 => (simp only [List.getElem?_toArray, List.getElem?_cons_zero]; exact rfl)
      case an4043 => kernel_rfl
      case bn4043 => kernel_rfl
      case cn4043 => kernel_rfl
      case qn4043 => exact fun _ _ _ h => h
      case dn4043 => rfl
      case hyn4043 => (intro z hSw; (try dsimp only at hSw); go_simp; (try with_reducible rfl))
      try simp only [Act.put, List.setIfInBounds_toArray, List.set_cons_zero, List.set_cons_succ]
      refine wpAnyH_take (i := 1) (oi := ?on4044) (v := ?vn4044) ?hin4044 ?an4044 ?bn4044 ?cn4044 ?qn4044 (Or.inl ⟨?dn4044, ?hyn4044⟩) hHeld ?restn4044
      case hin4044 => (simp only [List.getElem?_toArray, List.getElem?_cons_succ, List.getElem?_cons_zero]; exact rfl)
      case an4044 => kernel_rfl
      case bn4044 => kernel_rfl
      case cn4044 => kernel_rfl
      case qn4044 => exact fun _ _ _ h => h
      case dn4044 => rfl
      case hyn4044 => (intro z hSw; (try dsimp only at hSw); go_simp; (try with_reducible rfl))
      try simp only [Act.put, List.setIfInBounds_toArray, List.set_cons_zero, List.set_cons_succ]
      refine wpAnyH_take (i := 2) (oi := ?on4045) (v := ?vn4045) ?hin4045 ?an4045 ?bn4045 ?cn4045 ?qn4045 (Or.inl ⟨?dn4045, ?hyn4045⟩) hHeld ?restn4045
      case hin4045 => (simp only [List.getElem?_toArray, List.getElem?_cons_succ, List.getElem?_cons_zero]; exact rfl)
      case an4045 => kernel_rfl
      case bn4045 => kernel_rfl
      case cn4045 => kernel_rfl
      case qn4045 => exact fun _ _ _ h => h
      case dn4045 => rfl
      case hyn4045 => (intro z hSw; (try dsimp only at hSw); go_simp; (try with_reducible rfl))
      try simp only [Act.put, List.setIfInBounds_toArray, List.set_cons_zero, List.set_cons_succ]
      refine wpAnyH_take (i := 4) (oi := ?on4046) (v := ?vn4046) ?hin4046 ?an4046 ?bn4046 ?cn4046 ?qn4046 (Or.inl ⟨?dn4046, ?hyn4046⟩) hHeld ?restn4046
      case hin4046 => (simp only [List.getElem?_toArray, List.getElem?_cons_succ, List.getElem?_cons_zero]; exact rfl)
      case an4046 => kernel_rfl
      case bn4046 => kernel_rfl
      case cn4046 => kernel_rfl
      case qn4046 => exact fun _ _ _ h => h
      case dn4046 => rfl
      case hyn4046 => (intro z hSw; (try dsimp only at hSw); go_simp; (try with_reducible rfl))
      try simp only [Act.put, List.setIfInBounds_toArray, List.set_cons_zero, List.set_cons_succ]
      refine wpAnyH_take (i := 5) (oi := ?on4047) (v := ?vn4047) ?hin4047 ?an4047 ?bn4047 ?cn4047 ?qn4047 (Or.inl ⟨?dn4047, ?hyn4047⟩) hHeld ?restn4047
      case hin4047 => (simp only [List.getElem?_toArray, List.getElem?_cons_succ, List.getElem?_cons_zero]; exact rfl)
      case an4047 => kernel_rfl
      case bn4047 => kernel_rfl
      case cn4047 => kernel_rfl
      case qn4047 => exact fun _ _ _ h => h
      case dn4047 => rfl
      case hyn4047 => (intro z hSw; (try dsimp only at hSw); go_simp; (try with_reducible rfl))
      try simp only [Act.put, List.setIfInBounds_toArray, List.set_cons_zero, List.set_cons_succ]
      refine wpAnyH_take (i := 8) (oi := ?on4048) (v := ?vn4048) ?hin4048 ?an4048 ?bn4048 ?cn4048 ?qn4048 (Or.inl ⟨?dn4048, ?hyn4048⟩) hHeld ?restn4048
      case hin4048 => (simp only [List.getElem?_toArray, List.getElem?_cons_succ, List.getElem?_cons_zero]; exact rfl)
      case an4048 => kernel_rfl
      case bn4048 => kernel_rfl
      case cn4048 => kernel_rfl
      case qn4048 => exact fun _ _ _ h => h
      case dn4048 => rfl
      case hyn4048 => (intro z hSw; (try dsimp only at hSw); go_simp; (try with_reducible rfl))
      try simp only [Act.put, List.setIfInBounds_toArray, List.set_cons_zero, List.set_cons_succ]
      refine wpAnyH_ready (rs := [3]) (by kernel_rfl) (by simp) ?_
      refine AllReadyH.cons (o := ?on4049) ?hin4049 ?restn4049 AllReadyH.nil
      case hin4049 => (simp only [List.getElem?_toArray, List.getElem?_cons_succ, List.getElem?_cons_zero]; exact rfl)
      intro K hK
      go_simp
      go_at_call 32
      refine (ins_sl _ _ _ L XA _ hL (by have := HnL.out; omega)).mono ?_
      rintro e x1 ⟨Bs1, ms1, ds1, rfl, hs1, hgx1⟩
      have hx1 : Grew w1 x1 := hd0.trans hgx1
      replace hL := hL.grew hgx1
      replace hR := hR.grew hgx1
      refine hK.out _ _ ?_ (fun hHeld => ?_)
      · (try dsimp only); first | with_reducible assumption | exact hx1
      clear hK K
      try simp only [Act.put, List.setIfInBounds_toArray, List.set_cons_zero, List.set_cons_succ]
      refine wpAnyH_ready (rs := [6]) (by kernel_rfl) (by simp) ?_
      refine AllReadyH.cons (o := ?on4050) ?hin4050 ?restn4050 AllReadyH.nil
      case hin4050 => (simp only [List.getElem?_toArray, List.getElem?_cons_succ, List.getElem?_cons_zero]; exact rfl)
      intro K hK
      go_simp
      obtain ⟨x2, hwx2⟩ : ∃ W, W = x1.alloc (.cells #[.slice Bs1 ms1 ds1, .slice A2 n2 c2] 22) := ⟨_, rfl⟩
      have hgx2 : Grew x1 x2 := by rw [hwx2]; exact (Grew.refl _).alloc _
      have hx2 : Grew w1 x2 := hx1.trans hgx2
      have hlit : x2.heap[x1.heap.size]? = some (.cells #[.slice Bs1 ms1 ds1, .slice A2 n2 c2] 22 (0, 0)) := by rw [hwx2]; exact blk_new _ _
      try simp only [← hwx2]
      clear hwx2
      replace hL := hL.grew hgx2
      replace hR := hR.grew hgx2
      replace hs1 := hs1.grew hgx2
      refine hK.out _ _ ?_ (fun hHeld => ?_)
      · (try dsimp only); first | with_reducible assumption | exact hx2
      clear hK K
      try simp only [Act.put, List.setIfInBounds_toArray, List.set_cons_zero, List.set_cons_succ]
      refine wpAnyH_ready (rs := [7]) (by kernel_rfl) (by simp) ?_
      refine AllReadyH.cons (o := ?on4051) ?hin4051 ?restn4051 AllReadyH.nil
      case hin4051 => (simp only [List.getElem?_toArray, List.getElem?_cons_succ, List.getElem?_cons_zero]; exact rfl)
      intro K hK
      go_simp
      have hsd := sdR_one hlit hs1 hR
      have hll : ∀ x ∈ ([((insA L XA), R)] : List Ms), x.1.length ≤ 1048576 ∧ x.2.length ≤ 1048576 := by
        intro x hx; simp only [List.mem_cons, List.not_mem_nil, or_false] at hx; rcases hx with rfl; refine ⟨?_, ?_⟩ <;> dsimp only
        · exact (by have := insA_len L XA; have := HnL.out; omega)
        · exact (by have := HnR.out; omega)
      go_at_call 31
      refine (sq_sl _ 2 [((insA L XA), R)] _ rfl hsd (by simp) hll).mono ?_
      rintro e x3 ⟨Bq, mq, dq, rfl, hq, hgx3⟩
      have hx3 : Grew w1 x3 := hx2.trans hgx3
      replace hL := hL.grew hgx3
      replace hR := hR.grew hgx3
      replace hs1 := hs1.grew hgx3
      refine hK.out _ _ ?_ (fun hHeld => ?_)
      · (try dsimp only); first | with_reducible assumption | exact hx3
      clear hK K
      try simp only [Act.put, List.setIfInBounds_toArray, List.set_cons_zero, List.set_cons_succ]
      refine wpAnyH_take (i := 9) (oi := ?on4052) (v := ?vn4052) ?hin4052 ?an4052 ?bn4052 ?cn4052 ?qn4052 (Or.inl ⟨?dn4052, ?hyn4052⟩) hHeld ?restn4052
      case hin4052 => (simp only [List.getElem?_toArray, List.getElem?_cons_succ, List.getElem?_cons_zero]; exact rfl)
      case an4052 => kernel_rfl
      case bn4052 => kernel_rfl
      case cn4052 => kernel_rfl
      case qn4052 => exact fun _ _ _ h => h
      case dn4052 => rfl
      case hyn4052 => (intro z hSw; (try dsimp only at hSw); go_simp; (try with_reducible rfl))
      try simp only [Act.put, List.setIfInBounds_toArray, List.set_cons_zero, List.set_cons_succ]
      refine wpAnyH_take (i := 10) (oi := ?on4053) (v := ?vn4053) ?hin4053 ?an4053 ?bn4053 ?cn4053 ?qn4053 (Or.inl ⟨?dn4053, ?hyn4053⟩) hHeld ?restn4053
      case hin4053 => (simp only [List.getElem?_toArray, List.getElem?_cons_succ, List.getElem?_cons_zero]; exact rfl)
      case an4053 => kernel_rfl
      case bn4053 => kernel_rfl
      case cn4053 => kernel_rfl
      case qn4053 => exact fun _ _ _ h => h
      case dn4053 => rfl
      case hyn4053 => (intro z hSw; (try dsimp only at hSw); go_simp; (try with_reducible rfl))
      try simp only [Act.put, List.setIfInBounds_toArray, List.set_cons_zero, List.set_cons_succ]
      refine wpAnyH_take (i := 11) (oi := ?on4054) (v := ?vn4054) ?hin4054 ?an4054 ?bn4054 ?cn4054 ?qn4054 (Or.inl ⟨?dn4054, ?hyn4054⟩) hHeld ?restn4054
      case hin4054 => (simp only [List.getElem?_toArray, List.getElem?_cons_succ, List.getElem?_cons_zero]; exact rfl)
      case an4054 => kernel_rfl
      case bn4054 => kernel_rfl
      case cn4054 => kernel_rfl
      case qn4054 => exact fun _ _ _ h => h
      case dn4054 => rfl
      case hyn4054 => (intro z hSw; (try dsimp only at hSw); go_simp; (try with_reducible rfl))
      try simp only [Act.put, List.setIfInBounds_toArray, List.set_cons_zero, List.set_cons_succ]
      refine wpAnyH_take (i := 12) (oi := ?on4055) (v := ?vn4055) ?hin4055 ?an4055 ?bn4055 ?cn4055 ?qn4055 (Or.inl ⟨?dn4055, ?hyn4055⟩) hHeld ?restn4055
      case hin4055 => (simp only [List.getElem?_toArray, List.getElem?_cons_succ, List.getElem?_cons_zero]; exact rfl)
      case an4055 => kernel_rfl
      case bn4055 => kernel_rfl
      case cn4055 => kernel_rfl
      case qn4055 => exact fun _ _ _ h => h
      case dn4055 => rfl
      case hyn4055 => (intro z hSw; (try dsimp only at hSw); go_simp; (try with_reducible rfl))
      try simp only [Act.put, List.setIfInBounds_toArray, List.set_cons_zero, List.set_cons_succ]
      refine wpAnyH_take (i := 13) (oi := ?on4056) (v := ?vn4056) ?hin4056 ?an4056 ?bn4056 ?cn4056 ?qn4056 (Or.inl ⟨?dn4056, ?hyn4056⟩) hHeld ?restn4056
      case hin4056 => (simp only [List.getElem?_toArray, List.getElem?_cons_succ, List.getElem?_cons_zero]; exact rfl)
      case an4056 => kernel_rfl
      case bn4056 => kernel_rfl
      case cn4056 => kernel_rfl
      case qn4056 => exact fun _ _ _ h => h
      case dn4056 => rfl
      case hyn4056 => (intro z hSw; (try dsimp only at hSw); go_simp; (try with_reducible rfl))
      try simp only [Act.put, List.setIfInBounds_toArray, List.set_cons_zero, List.set_cons_succ]
      refine wpAnyH_done (by kernel_rfl) ?_ _
      go_wp2_with fail
      go_ret2
      exact ⟨_, _, _, rfl, fun _ => hq, HG1.out.trans hx3⟩
  | false =>
  cases h3 : (lg.toList == [83, 53]) with
  | true =>
    have hrf : rfx lg = true := by unfold rfx isLg; simp [h1, h2, h3]
    rw [hrf]
    clear hrf
    cases XC with
    | false =>
      go_enter Tryz.func16, Tryz.ntmps16
      go_wp2_with fail
      simp only [← hw1]
      clear hw1
      refine (KO.out _ HG1.out).mono ?_
      rintro e x0 ⟨rfl, hg0⟩
      replace hL := hL.grew hg0
      replace hR := hR.grew hg0
      go_wp2_with fail
      have hd0 := hg0.drew
      replace hL := hL.grew (Grew.refl _).drew
      replace hR := hR.grew (Grew.refl _).drew
      refine wp_region_held_drew (S := fun w' => Grew w1 w') (by kernel_rfl) hd0 (fun hHeld => ?_)
      refine wpAnyH_take (i := 0) (oi := ?on5057) (v := ?vn5057) ?hin5057 ?an5057 ?bn5057 ?cn5057 ?qn5057 (Or.inl ⟨?dn5057, ?hyn5057⟩) hHeld ?restn5057
      case hin5057 => (simp only [List.getElem?_toArray, List.getElem?_cons_zero]; exact rfl)
      case an5057 => kernel_rfl
      case bn5057 => kernel_rfl
      case cn5057 => kernel_rfl
      case qn5057 => exact fun _ _ _ h => h
      case dn5057 => rfl
      case hyn5057 => (intro z hSw; (try dsimp only at hSw); go_simp; (try with_reducible rfl))
      try simp only [Act.put, List.setIfInBounds_toArray, List.set_cons_zero, List.set_cons_succ]
      refine wpAnyH_take (i := 1) (oi := ?on5058) (v := ?vn5058) ?hin5058 ?an5058 ?bn5058 ?cn5058 ?qn5058 (Or.inl ⟨?dn5058, ?hyn5058⟩) hHeld ?restn5058
      case hin5058 => (simp only [List.getElem?_toArray, List.getElem?_cons_succ, List.getElem?_cons_zero]; exact rfl)
      case an5058 => kernel_rfl
      case bn5058 => kernel_rfl
      case cn5058 => kernel_rfl
      case qn5058 => exact fun _ _ _ h => h
      case dn5058 => rfl
      case hyn5058 => (intro z hSw; (try dsimp only at hSw); go_simp; (try with_reducible rfl))
      try simp only [Act.put, List.setIfInBounds_toArray, List.set_cons_zero, List.set_cons_succ]
      refine wpAnyH_take (i := 2) (oi := ?on5059) (v := ?vn5059) ?hin5059 ?an5059 ?bn5059 ?cn5059 ?qn5059 (Or.inl ⟨?dn5059, ?hyn5059⟩) hHeld ?restn5059
      case hin5059 => (simp only [List.getElem?_toArray, List.getElem?_cons_succ, List.getElem?_cons_zero]; exact rfl)
      case an5059 => kernel_rfl
      case bn5059 => kernel_rfl
      case cn5059 => kernel_rfl
      case qn5059 => exact fun _ _ _ h => h
      case dn5059 => rfl
      case hyn5059 => (intro z hSw; (try dsimp only at hSw); go_simp; (try with_reducible rfl))
      try simp only [Act.put, List.setIfInBounds_toArray, List.set_cons_zero, List.set_cons_succ]
      refine wpAnyH_take (i := 4) (oi := ?on5060) (v := ?vn5060) ?hin5060 ?an5060 ?bn5060 ?cn5060 ?qn5060 (Or.inl ⟨?dn5060, ?hyn5060⟩) hHeld ?restn5060
      case hin5060 => (simp only [List.getElem?_toArray, List.getElem?_cons_succ, List.getElem?_cons_zero]; exact rfl)
      case an5060 => kernel_rfl
      case bn5060 => kernel_rfl
      case cn5060 => kernel_rfl
      case qn5060 => exact fun _ _ _ h => h
      case dn5060 => rfl
      case hyn5060 => (intro z hSw; (try dsimp only at hSw); go_simp; (try with_reducible rfl))
      try simp only [Act.put, List.setIfInBounds_toArray, List.set_cons_zero, List.set_cons_succ]
      refine wpAnyH_take (i := 5) (oi := ?on5061) (v := ?vn5061) ?hin5061 ?an5061 ?bn5061 ?cn5061 ?qn5061 (Or.inl ⟨?dn5061, ?hyn5061⟩) hHeld ?restn5061
      case hin5061 => (simp only [List.getElem?_toArray, List.getElem?_cons_succ, List.getElem?_cons_zero]; exact rfl)
      case an5061 => kernel_rfl
      case bn5061 => kernel_rfl
      case cn5061 => kernel_rfl
      case qn5061 => exact fun _ _ _ h => h
      case dn5061 => rfl
      case hyn5061 => (intro z hSw; (try dsimp only at hSw); go_simp; (try with_reducible rfl))
      try simp only [Act.put, List.setIfInBounds_toArray, List.set_cons_zero, List.set_cons_succ]
      refine wpAnyH_take (i := 8) (oi := ?on5062) (v := ?vn5062) ?hin5062 ?an5062 ?bn5062 ?cn5062 ?qn5062 (Or.inl ⟨?dn5062, ?hyn5062⟩) hHeld ?restn5062
      case hin5062 => (simp only [List.getElem?_toArray, List.getElem?_cons_succ, List.getElem?_cons_zero]; exact rfl)
      case an5062 => kernel_rfl
      case bn5062 => kernel_rfl
      case cn5062 => kernel_rfl
      case qn5062 => exact fun _ _ _ h => h
      case dn5062 => rfl
      case hyn5062 => (intro z hSw; (try dsimp only at hSw); go_simp; (try with_reducible rfl))
      try simp only [Act.put, List.setIfInBounds_toArray, List.set_cons_zero, List.set_cons_succ]
      refine wpAnyH_ready (rs := [3]) (by kernel_rfl) (by simp) ?_
      refine AllReadyH.cons (o := ?on5063) ?hin5063 ?restn5063 AllReadyH.nil
      case hin5063 => (simp only [List.getElem?_toArray, List.getElem?_cons_succ, List.getElem?_cons_zero]; exact rfl)
      intro K hK
      go_simp
      go_at_call 32
      refine (ins_sl _ _ _ L XA _ hL (by have := HnL.out; omega)).mono ?_
      rintro e x1 ⟨Bs1, ms1, ds1, rfl, hs1, hgx1⟩
      have hx1 : Grew w1 x1 := hd0.trans hgx1
      replace hL := hL.grew hgx1
      replace hR := hR.grew hgx1
      refine hK.out _ _ ?_ (fun hHeld => ?_)
      · (try dsimp only); first | with_reducible assumption | exact hx1
      clear hK K
      try simp only [Act.put, List.setIfInBounds_toArray, List.set_cons_zero, List.set_cons_succ]
      refine wpAnyH_ready (rs := [6]) (by kernel_rfl) (by simp) ?_
      refine AllReadyH.cons (o := ?on5064) ?hin5064 ?restn5064 AllReadyH.nil
      case hin5064 => (simp only [List.getElem?_toArray, List.getElem?_cons_succ, List.getElem?_cons_zero]; exact rfl)
      intro K hK
      go_simp
      obtain ⟨x2, hwx2⟩ : ∃ W, W = x1.alloc (.cells #[.slice Bs1 ms1 ds1, .slice A2 n2 c2] 22) := ⟨_, rfl⟩
      have hgx2 : Grew x1 x2 := by rw [hwx2]; exact (Grew.refl _).alloc _
      have hx2 : Grew w1 x2 := hx1.trans hgx2
      have hlit : x2.heap[x1.heap.size]? = some (.cells #[.slice Bs1 ms1 ds1, .slice A2 n2 c2] 22 (0, 0)) := by rw [hwx2]; exact blk_new _ _
      try simp only [← hwx2]
      clear hwx2
      replace hL := hL.grew hgx2
      replace hR := hR.grew hgx2
      replace hs1 := hs1.grew hgx2
      refine hK.out _ _ ?_ (fun hHeld => ?_)
      · (try dsimp only); first | with_reducible assumption | exact hx2
      clear hK K
      try simp only [Act.put, List.setIfInBounds_toArray, List.set_cons_zero, List.set_cons_succ]
      refine wpAnyH_ready (rs := [7]) (by kernel_rfl) (by simp) ?_
      refine AllReadyH.cons (o := ?on5065) ?hin5065 ?restn5065 AllReadyH.nil
      case hin5065 => (simp only [List.getElem?_toArray, List.getElem?_cons_succ, List.getElem?_cons_zero]; exact rfl)
      intro K hK
      go_simp
      have hsd := sdR_one hlit hs1 hR
      have hll : ∀ x ∈ ([((insA L XA), R)] : List Ms), x.1.length ≤ 1048576 ∧ x.2.length ≤ 1048576 := by
        intro x hx; simp only [List.mem_cons, List.not_mem_nil, or_false] at hx; rcases hx with rfl; refine ⟨?_, ?_⟩ <;> dsimp only
        · exact (by have := insA_len L XA; have := HnL.out; omega)
        · exact (by have := HnR.out; omega)
      go_at_call 31
      refine (sq_sl _ 2 [((insA L XA), R)] _ rfl hsd (by simp) hll).mono ?_
      rintro e x3 ⟨Bq, mq, dq, rfl, hq, hgx3⟩
      have hx3 : Grew w1 x3 := hx2.trans hgx3
      replace hL := hL.grew hgx3
      replace hR := hR.grew hgx3
      replace hs1 := hs1.grew hgx3
      refine hK.out _ _ ?_ (fun hHeld => ?_)
      · (try dsimp only); first | with_reducible assumption | exact hx3
      clear hK K
      try simp only [Act.put, List.setIfInBounds_toArray, List.set_cons_zero, List.set_cons_succ]
      refine wpAnyH_take (i := 9) (oi := ?on5066) (v := ?vn5066) ?hin5066 ?an5066 ?bn5066 ?cn5066 ?qn5066 (Or.inl ⟨?dn5066, ?hyn5066⟩) hHeld ?restn5066
      case hin5066 => (simp only [List.getElem?_toArray, List.getElem?_cons_succ, List.getElem?_cons_zero]; exact rfl)
      case an5066 => kernel_rfl
      case bn5066 => kernel_rfl
      case cn5066 => kernel_rfl
      case qn5066 => exact fun _ _ _ h => h
      case dn5066 => rfl
      case hyn5066 => (intro z hSw; (try dsimp only at hSw); go_simp; (try with_reducible rfl))
      try simp only [Act.put, List.setIfInBounds_toArray, List.set_cons_zero, List.set_cons_succ]
      refine wpAnyH_take (i := 10) (oi := ?on5067) ?hin5067 ?an5067 ?bn5067 ?cn5067 ?qn5067 (Or.inr ⟨?dn5067, rfl⟩) hHeld ?restn5067
      case hin5067 => (simp only [List.getElem?_toArray, List.getElem?_cons_succ, List.getElem?_cons_zero]; exact rfl)
      case an5067 => kernel_rfl
      case bn5067 => kernel_rfl
      case cn5067 => kernel_rfl
      case qn5067 => exact fun _ _ _ h => h
      case dn5067 => rfl
      try simp only [Act.put, List.setIfInBounds_toArray, List.set_cons_zero, List.set_cons_succ]
      refine wpAnyH_take (i := 11) (oi := ?on5068) (v := ?vn5068) ?hin5068 ?an5068 ?bn5068 ?cn5068 ?qn5068 (Or.inl ⟨?dn5068, ?hyn5068⟩) hHeld ?restn5068
      case hin5068 => (simp only [List.getElem?_toArray, List.getElem?_cons_succ, List.getElem?_cons_zero]; exact rfl)
      case an5068 => kernel_rfl
      case bn5068 => kernel_rfl
      case cn5068 => kernel_rfl
      case qn5068 => exact fun _ _ _ h => h
      case dn5068 => rfl
      case hyn5068 => (intro z hSw; (try dsimp only at hSw); go_simp; (try with_reducible rfl))
      try simp only [Act.put, List.setIfInBounds_toArray, List.set_cons_zero, List.set_cons_succ]
      refine wpAnyH_take (i := 12) (oi := ?on5069) (v := ?vn5069) ?hin5069 ?an5069 ?bn5069 ?cn5069 ?qn5069 (Or.inl ⟨?dn5069, ?hyn5069⟩) hHeld ?restn5069
      case hin5069 => (simp only [List.getElem?_toArray, List.getElem?_cons_succ, List.getElem?_cons_zero]; exact rfl)
      case an5069 => kernel_rfl
      case bn5069 => kernel_rfl
      case cn5069 => kernel_rfl
      case qn5069 => exact fun _ _ _ h => h
      case dn5069 => rfl
      case hyn5069 => (intro z hSw; (try dsimp only at hSw); go_simp; (try with_reducible rfl))
      try simp only [Act.put, List.setIfInBounds_toArray, List.set_cons_zero, List.set_cons_succ]
      refine wpAnyH_take (i := 13) (oi := ?on5070) (v := ?vn5070) ?hin5070 ?an5070 ?bn5070 ?cn5070 ?qn5070 (Or.inl ⟨?dn5070, ?hyn5070⟩) hHeld ?restn5070
      case hin5070 => (simp only [List.getElem?_toArray, List.getElem?_cons_succ, List.getElem?_cons_zero]; exact rfl)
      case an5070 => kernel_rfl
      case bn5070 => kernel_rfl
      case cn5070 => kernel_rfl
      case qn5070 => exact fun _ _ _ h => h
      case dn5070 => rfl
      case hyn5070 => (intro z hSw; (try dsimp only at hSw); go_simp; (try with_reducible rfl))
      try simp only [Act.put, List.setIfInBounds_toArray, List.set_cons_zero, List.set_cons_succ]
      refine wpAnyH_done (by kernel_rfl) ?_ _
      go_wp2_with fail
      go_ret2
      exact ⟨_, _, _, rfl, fun _ => hq, HG1.out.trans hx3⟩
    | true =>
      go_enter Tryz.func16, Tryz.ntmps16
      go_wp2_with fail
      simp only [← hw1]
      clear hw1
      refine (KO.out _ HG1.out).mono ?_
      rintro e x0 ⟨rfl, hg0⟩
      replace hL := hL.grew hg0
      replace hR := hR.grew hg0
      go_wp2_with fail
      have hd0 := hg0.drew
      replace hL := hL.grew (Grew.refl _).drew
      replace hR := hR.grew (Grew.refl _).drew
      refine wp_region_held_drew (S := fun w' => Grew w1 w') (by kernel_rfl) hd0 (fun hHeld => ?_)
      refine wpAnyH_take (i := 0) (oi := ?on6071) (v := ?vn6071) ?hin6071 ?an6071 ?bn6071 ?cn6071 ?qn6071 (Or.inl ⟨?dn6071, ?hyn6071⟩) hHeld ?restn6071
      case hin6071 => (simp only [List.getElem?_toArray, List.getElem?_cons_zero]; exact rfl)
      case an6071 => kernel_rfl
      case bn6071 => kernel_rfl
      case cn6071 => kernel_rfl
      case qn6071 => exact fun _ _ _ h => h
      case dn6071 => rfl
      case hyn6071 => (intro z hSw; (try dsimp only at hSw); go_simp; (try with_reducible rfl))
      try simp only [Act.put, List.setIfInBounds_toArray, List.set_cons_zero, List.set_cons_succ]
      refine wpAnyH_take (i := 1) (oi := ?on6072) (v := ?vn6072) ?hin6072 ?an6072 ?bn6072 ?cn6072 ?qn6072 (Or.inl ⟨?dn6072, ?hyn6072⟩) hHeld ?restn6072
      case hin6072 => (simp only [List.getElem?_toArray, List.getElem?_cons_succ, List.getElem?_cons_zero]; exact rfl)
      case an6072 => kernel_rfl
      case bn6072 => kernel_rfl
      case cn6072 => kernel_rfl
      case qn6072 => exact fun _ _ _ h => h
      case dn6072 => rfl
      case hyn6072 => (intro z hSw; (try dsimp only at hSw); go_simp; (try with_reducible rfl))
      try simp only [Act.put, List.setIfInBounds_toArray, List.set_cons_zero, List.set_cons_succ]
      refine wpAnyH_take (i := 2) (oi := ?on6073) (v := ?vn6073) ?hin6073 ?an6073 ?bn6073 ?cn6073 ?qn6073 (Or.inl ⟨?dn6073, ?hyn6073⟩) hHeld ?restn6073
      case hin6073 => (simp only [List.getElem?_toArray, List.getElem?_cons_succ, List.getElem?_cons_zero]; exact rfl)
      case an6073 => kernel_rfl
      case bn6073 => kernel_rfl
      case cn6073 => kernel_rfl
      case qn6073 => exact fun _ _ _ h => h
      case dn6073 => rfl
      case hyn6073 => (intro z hSw; (try dsimp only at hSw); go_simp; (try with_reducible rfl))
      try simp only [Act.put, List.setIfInBounds_toArray, List.set_cons_zero, List.set_cons_succ]
      refine wpAnyH_take (i := 4) (oi := ?on6074) (v := ?vn6074) ?hin6074 ?an6074 ?bn6074 ?cn6074 ?qn6074 (Or.inl ⟨?dn6074, ?hyn6074⟩) hHeld ?restn6074
      case hin6074 => (simp only [List.getElem?_toArray, List.getElem?_cons_succ, List.getElem?_cons_zero]; exact rfl)
      case an6074 => kernel_rfl
      case bn6074 => kernel_rfl
      case cn6074 => kernel_rfl
      case qn6074 => exact fun _ _ _ h => h
      case dn6074 => rfl
      case hyn6074 => (intro z hSw; (try dsimp only at hSw); go_simp; (try with_reducible rfl))
      try simp only [Act.put, List.setIfInBounds_toArray, List.set_cons_zero, List.set_cons_succ]
      refine wpAnyH_take (i := 5) (oi := ?on6075) (v := ?vn6075) ?hin6075 ?an6075 ?bn6075 ?cn6075 ?qn6075 (Or.inl ⟨?dn6075, ?hyn6075⟩) hHeld ?restn6075
      case hin6075 => (simp only [List.getElem?_toArray, List.getElem?_cons_succ, List.getElem?_cons_zero]; exact rfl)
      case an6075 => kernel_rfl
      case bn6075 => kernel_rfl
      case cn6075 => kernel_rfl
      case qn6075 => exact fun _ _ _ h => h
      case dn6075 => rfl
      case hyn6075 => (intro z hSw; (try dsimp only at hSw); go_simp; (try with_reducible rfl))
      try simp only [Act.put, List.setIfInBounds_toArray, List.set_cons_zero, List.set_cons_succ]
      refine wpAnyH_take (i := 8) (oi := ?on6076) (v := ?vn6076) ?hin6076 ?an6076 ?bn6076 ?cn6076 ?qn6076 (Or.inl ⟨?dn6076, ?hyn6076⟩) hHeld ?restn6076
      case hin6076 => (simp only [List.getElem?_toArray, List.getElem?_cons_succ, List.getElem?_cons_zero]; exact rfl)
      case an6076 => kernel_rfl
      case bn6076 => kernel_rfl
      case cn6076 => kernel_rfl
      case qn6076 => exact fun _ _ _ h => h
      case dn6076 => rfl
      case hyn6076 => (intro z hSw; (try dsimp only at hSw); go_simp; (try with_reducible rfl))
      try simp only [Act.put, List.setIfInBounds_toArray, List.set_cons_zero, List.set_cons_succ]
      refine wpAnyH_ready (rs := [3]) (by kernel_rfl) (by simp) ?_
      refine AllReadyH.cons (o := ?on6077) ?hin6077 ?restn6077 AllReadyH.nil
      case hin6077 => (simp only [List.getElem?_toArray, List.getElem?_cons_succ, List.getElem?_cons_zero]; exact rfl)
      intro K hK
      go_simp
      go_at_call 32
      refine (ins_sl _ _ _ L XA _ hL (by have := HnL.out; omega)).mono ?_
      rintro e x1 ⟨Bs1, ms1, ds1, rfl, hs1, hgx1⟩
      have hx1 : Grew w1 x1 := hd0.trans hgx1
      replace hL := hL.grew hgx1
      replace hR := hR.grew hgx1
      refine hK.out _ _ ?_ (fun hHeld => ?_)
      · (try dsimp only); first | with_reducible assumption | exact hx1
      clear hK K
      try simp only [Act.put, List.setIfInBounds_toArray, List.set_cons_zero, List.set_cons_succ]
      refine wpAnyH_ready (rs := [6]) (by kernel_rfl) (by simp) ?_
      refine AllReadyH.cons (o := ?on6078) ?hin6078 ?restn6078 AllReadyH.nil
      case hin6078 => (simp only [List.getElem?_toArray, List.getElem?_cons_succ, List.getElem?_cons_zero]; exact rfl)
      intro K hK
      go_simp
      obtain ⟨x2, hwx2⟩ : ∃ W, W = x1.alloc (.cells #[.slice Bs1 ms1 ds1, .slice A2 n2 c2] 22) := ⟨_, rfl⟩
      have hgx2 : Grew x1 x2 := by rw [hwx2]; exact (Grew.refl _).alloc _
      have hx2 : Grew w1 x2 := hx1.trans hgx2
      have hlit : x2.heap[x1.heap.size]? = some (.cells #[.slice Bs1 ms1 ds1, .slice A2 n2 c2] 22 (0, 0)) := by rw [hwx2]; exact blk_new _ _
      try simp only [← hwx2]
      clear hwx2
      replace hL := hL.grew hgx2
      replace hR := hR.grew hgx2
      replace hs1 := hs1.grew hgx2
      refine hK.out _ _ ?_ (fun hHeld => ?_)
      · (try dsimp only); first | with_reducible assumption | exact hx2
      clear hK K
      try simp only [Act.put, List.setIfInBounds_toArray, List.set_cons_zero, List.set_cons_succ]
      refine wpAnyH_ready (rs := [7]) (by kernel_rfl) (by simp) ?_
      refine AllReadyH.cons (o := ?on6079) ?hin6079 ?restn6079 AllReadyH.nil
      case hin6079 => (simp only [List.getElem?_toArray, List.getElem?_cons_succ, List.getElem?_cons_zero]; exact rfl)
      intro K hK
      go_simp
      have hsd := sdR_one hlit hs1 hR
      have hll : ∀ x ∈ ([((insA L XA), R)] : List Ms), x.1.length ≤ 1048576 ∧ x.2.length ≤ 1048576 := by
        intro x hx; simp only [List.mem_cons, List.not_mem_nil, or_false] at hx; rcases hx with rfl; refine ⟨?_, ?_⟩ <;> dsimp only
        · exact (by have := insA_len L XA; have := HnL.out; omega)
        · exact (by have := HnR.out; omega)
      go_at_call 31
      refine (sq_sl _ 2 [((insA L XA), R)] _ rfl hsd (by simp) hll).mono ?_
      rintro e x3 ⟨Bq, mq, dq, rfl, hq, hgx3⟩
      have hx3 : Grew w1 x3 := hx2.trans hgx3
      replace hL := hL.grew hgx3
      replace hR := hR.grew hgx3
      replace hs1 := hs1.grew hgx3
      refine hK.out _ _ ?_ (fun hHeld => ?_)
      · (try dsimp only); first | with_reducible assumption | exact hx3
      clear hK K
      try simp only [Act.put, List.setIfInBounds_toArray, List.set_cons_zero, List.set_cons_succ]
      refine wpAnyH_take (i := 9) (oi := ?on6080) (v := ?vn6080) ?hin6080 ?an6080 ?bn6080 ?cn6080 ?qn6080 (Or.inl ⟨?dn6080, ?hyn6080⟩) hHeld ?restn6080
      case hin6080 => (simp only [List.getElem?_toArray, List.getElem?_cons_succ, List.getElem?_cons_zero]; exact rfl)
      case an6080 => kernel_rfl
      case bn6080 => kernel_rfl
      case cn6080 => kernel_rfl
      case qn6080 => exact fun _ _ _ h => h
      case dn6080 => rfl
      case hyn6080 => (intro z hSw; (try dsimp only at hSw); go_simp; (try with_reducible rfl))
      try simp only [Act.put, List.setIfInBounds_toArray, List.set_cons_zero, List.set_cons_succ]
      refine wpAnyH_take (i := 10) (oi := ?on6081) (v := ?vn6081) ?hin6081 ?an6081 ?bn6081 ?cn6081 ?qn6081 (Or.inl ⟨?dn6081, ?hyn6081⟩) hHeld ?restn6081
      case hin6081 => (simp only [List.getElem?_toArray, List.getElem?_cons_succ, List.getElem?_cons_zero]; exact rfl)
      case an6081 => kernel_rfl
      case bn6081 => kernel_rfl
      case cn6081 => kernel_rfl
      case qn6081 => exact fun _ _ _ h => h
      case dn6081 => rfl
      case hyn6081 => (intro z hSw; (try dsimp only at hSw); go_simp; (try with_reducible rfl))
      try simp only [Act.put, List.setIfInBounds_toArray, List.set_cons_zero, List.set_cons_succ]
      refine wpAnyH_take (i := 11) (oi := ?on6082) (v := ?vn6082) ?hin6082 ?an6082 ?bn6082 ?cn6082 ?qn6082 (Or.inl ⟨?dn6082, ?hyn6082⟩) hHeld ?restn6082
      case hin6082 => (simp only [List.getElem?_toArray, List.getElem?_cons_succ, List.getElem?_cons_zero]; exact rfl)
      case an6082 => kernel_rfl
      case bn6082 => kernel_rfl
      case cn6082 => kernel_rfl
      case qn6082 => exact fun _ _ _ h => h
      case dn6082 => rfl
      case hyn6082 => (intro z hSw; (try dsimp only at hSw); go_simp; (try with_reducible rfl))
      try simp only [Act.put, List.setIfInBounds_toArray, List.set_cons_zero, List.set_cons_succ]
      refine wpAnyH_take (i := 12) (oi := ?on6083) (v := ?vn6083) ?hin6083 ?an6083 ?bn6083 ?cn6083 ?qn6083 (Or.inl ⟨?dn6083, ?hyn6083⟩) hHeld ?restn6083
      case hin6083 => (simp only [List.getElem?_toArray, List.getElem?_cons_succ, List.getElem?_cons_zero]; exact rfl)
      case an6083 => kernel_rfl
      case bn6083 => kernel_rfl
      case cn6083 => kernel_rfl
      case qn6083 => exact fun _ _ _ h => h
      case dn6083 => rfl
      case hyn6083 => (intro z hSw; (try dsimp only at hSw); go_simp; (try with_reducible rfl))
      try simp only [Act.put, List.setIfInBounds_toArray, List.set_cons_zero, List.set_cons_succ]
      refine wpAnyH_take (i := 13) (oi := ?on6084) (v := ?vn6084) ?hin6084 ?an6084 ?bn6084 ?cn6084 ?qn6084 (Or.inl ⟨?dn6084, ?hyn6084⟩) hHeld ?restn6084
      case hin6084 => (simp only [List.getElem?_toArray, List.getElem?_cons_succ, List.getElem?_cons_zero]; exact rfl)
      case an6084 => kernel_rfl
      case bn6084 => kernel_rfl
      case cn6084 => kernel_rfl
      case qn6084 => exact fun _ _ _ h => h
      case dn6084 => rfl
      case hyn6084 => (intro z hSw; (try dsimp only at hSw); go_simp; (try with_reducible rfl))
      try simp only [Act.put, List.setIfInBounds_toArray, List.set_cons_zero, List.set_cons_succ]
      refine wpAnyH_done (by kernel_rfl) ?_ _
      go_wp2_with fail
      go_ret2
      exact ⟨_, _, _, rfl, fun _ => hq, HG1.out.trans hx3⟩
  | false =>
  have hrf : rfx lg = false := by unfold rfx isLg; simp [h1, h2, h3]
  rw [hrf]
  clear hrf
  cases XC with
  | false =>
    go_enter Tryz.func16, Tryz.ntmps16
    go_wp2_with fail
    simp only [← hw1]
    clear hw1
    refine (KO.out _ HG1.out).mono ?_
    rintro e x0 ⟨rfl, hg0⟩
    replace hL := hL.grew hg0
    replace hR := hR.grew hg0
    go_wp2_with fail
    have hd0 := hg0.drew
    replace hL := hL.grew (Grew.refl _).drew
    replace hR := hR.grew (Grew.refl _).drew
    refine wp_region_held_drew (S := fun w' => Grew w1 w') (by kernel_rfl) hd0 (fun hHeld => ?_)
    refine wpAnyH_take (i := 0) (oi := ?on7085) (v := ?vn7085) ?hin7085 ?an7085 ?bn7085 ?cn7085 ?qn7085 (Or.inl ⟨?dn7085, ?hyn7085⟩) hHeld ?restn7085
    case hin7085 => (simp only [List.getElem?_toArray, List.getElem?_cons_zero]; exact rfl)
    case an7085 => kernel_rfl
    case bn7085 => kernel_rfl
    case cn7085 => kernel_rfl
    case qn7085 => exact fun _ _ _ h => h
    case dn7085 => rfl
    case hyn7085 => (intro z hSw; (try dsimp only at hSw); go_simp; (try with_reducible rfl))
    try simp only [Act.put, List.setIfInBounds_toArray, List.set_cons_zero, List.set_cons_succ]
    refine wpAnyH_take (i := 1) (oi := ?on7086) (v := ?vn7086) ?hin7086 ?an7086 ?bn7086 ?cn7086 ?qn7086 (Or.inl ⟨?dn7086, ?hyn7086⟩) hHeld ?restn7086
    case hin7086 => (simp only [List.getElem?_toArray, List.getElem?_cons_succ, List.getElem?_cons_zero]; exact rfl)
    case an7086 => kernel_rfl
    case bn7086 => kernel_rfl
    case cn7086 => kernel_rfl
    case qn7086 => exact fun _ _ _ h => h
    case dn7086 => rfl
    case hyn7086 => (intro z hSw; (try dsimp only at hSw); go_simp; (try with_reducible rfl))
    try simp only [Act.put, List.setIfInBounds_toArray, List.set_cons_zero, List.set_cons_succ]
    refine wpAnyH_take (i := 2) (oi := ?on7087) (v := ?vn7087) ?hin7087 ?an7087 ?bn7087 ?cn7087 ?qn7087 (Or.inl ⟨?dn7087, ?hyn7087⟩) hHeld ?restn7087
    case hin7087 => (simp only [List.getElem?_toArray, List.getElem?_cons_succ, List.getElem?_cons_zero]; exact rfl)
    case an7087 => kernel_rfl
    case bn7087 => kernel_rfl
    case cn7087 => kernel_rfl
    case qn7087 => exact fun _ _ _ h => h
    case dn7087 => rfl
    case hyn7087 => (intro z hSw; (try dsimp only at hSw); go_simp; (try with_reducible rfl))
    try simp only [Act.put, List.setIfInBounds_toArray, List.set_cons_zero, List.set_cons_succ]
    refine wpAnyH_take (i := 4) (oi := ?on7088) (v := ?vn7088) ?hin7088 ?an7088 ?bn7088 ?cn7088 ?qn7088 (Or.inl ⟨?dn7088, ?hyn7088⟩) hHeld ?restn7088
    case hin7088 => (simp only [List.getElem?_toArray, List.getElem?_cons_succ, List.getElem?_cons_zero]; exact rfl)
    case an7088 => kernel_rfl
    case bn7088 => kernel_rfl
    case cn7088 => kernel_rfl
    case qn7088 => exact fun _ _ _ h => h
    case dn7088 => rfl
    case hyn7088 => (intro z hSw; (try dsimp only at hSw); go_simp; (try with_reducible rfl))
    try simp only [Act.put, List.setIfInBounds_toArray, List.set_cons_zero, List.set_cons_succ]
    refine wpAnyH_take (i := 5) (oi := ?on7089) (v := ?vn7089) ?hin7089 ?an7089 ?bn7089 ?cn7089 ?qn7089 (Or.inl ⟨?dn7089, ?hyn7089⟩) hHeld ?restn7089
    case hin7089 => (simp only [List.getElem?_toArray, List.getElem?_cons_succ, List.getElem?_cons_zero]; exact rfl)
    case an7089 => kernel_rfl
    case bn7089 => kernel_rfl
    case cn7089 => kernel_rfl
    case qn7089 => exact fun _ _ _ h => h
    case dn7089 => rfl
    case hyn7089 => (intro z hSw; (try dsimp only at hSw); go_simp; (try with_reducible rfl))
    try simp only [Act.put, List.setIfInBounds_toArray, List.set_cons_zero, List.set_cons_succ]
    refine wpAnyH_take (i := 8) (oi := ?on7090) (v := ?vn7090) ?hin7090 ?an7090 ?bn7090 ?cn7090 ?qn7090 (Or.inl ⟨?dn7090, ?hyn7090⟩) hHeld ?restn7090
    case hin7090 => (simp only [List.getElem?_toArray, List.getElem?_cons_succ, List.getElem?_cons_zero]; exact rfl)
    case an7090 => kernel_rfl
    case bn7090 => kernel_rfl
    case cn7090 => kernel_rfl
    case qn7090 => exact fun _ _ _ h => h
    case dn7090 => rfl
    case hyn7090 => (intro z hSw; (try dsimp only at hSw); go_simp; (try with_reducible rfl))
    try simp only [Act.put, List.setIfInBounds_toArray, List.set_cons_zero, List.set_cons_succ]
    refine wpAnyH_ready (rs := [3]) (by kernel_rfl) (by simp) ?_
    refine AllReadyH.cons (o := ?on7091) ?hin7091 ?restn7091 AllReadyH.nil
    case hin7091 => (simp only [List.getElem?_toArray, List.getElem?_cons_succ, List.getElem?_cons_zero]; exact rfl)
    intro K hK
    go_simp
    go_at_call 32
    refine (ins_sl _ _ _ L XA _ hL (by have := HnL.out; omega)).mono ?_
    rintro e x1 ⟨Bs1, ms1, ds1, rfl, hs1, hgx1⟩
    have hx1 : Grew w1 x1 := hd0.trans hgx1
    replace hL := hL.grew hgx1
    replace hR := hR.grew hgx1
    refine hK.out _ _ ?_ (fun hHeld => ?_)
    · (try dsimp only); first | with_reducible assumption | exact hx1
    clear hK K
    try simp only [Act.put, List.setIfInBounds_toArray, List.set_cons_zero, List.set_cons_succ]
    refine wpAnyH_ready (rs := [6]) (by kernel_rfl) (by simp) ?_
    refine AllReadyH.cons (o := ?on7092) ?hin7092 ?restn7092 AllReadyH.nil
    case hin7092 => (simp only [List.getElem?_toArray, List.getElem?_cons_succ, List.getElem?_cons_zero]; exact rfl)
    intro K hK
    go_simp
    obtain ⟨x2, hwx2⟩ : ∃ W, W = x1.alloc (.cells #[.slice Bs1 ms1 ds1, .slice A2 n2 c2] 22) := ⟨_, rfl⟩
    have hgx2 : Grew x1 x2 := by rw [hwx2]; exact (Grew.refl _).alloc _
    have hx2 : Grew w1 x2 := hx1.trans hgx2
    have hlit : x2.heap[x1.heap.size]? = some (.cells #[.slice Bs1 ms1 ds1, .slice A2 n2 c2] 22 (0, 0)) := by rw [hwx2]; exact blk_new _ _
    try simp only [← hwx2]
    clear hwx2
    replace hL := hL.grew hgx2
    replace hR := hR.grew hgx2
    replace hs1 := hs1.grew hgx2
    refine hK.out _ _ ?_ (fun hHeld => ?_)
    · (try dsimp only); first | with_reducible assumption | exact hx2
    clear hK K
    try simp only [Act.put, List.setIfInBounds_toArray, List.set_cons_zero, List.set_cons_succ]
    refine wpAnyH_ready (rs := [7]) (by kernel_rfl) (by simp) ?_
    refine AllReadyH.cons (o := ?on7093) ?hin7093 ?restn7093 AllReadyH.nil
    case hin7093 => (simp only [List.getElem?_toArray, List.getElem?_cons_succ, List.getElem?_cons_zero]; exact rfl)
    intro K hK
    go_simp
    have hsd := sdR_one hlit hs1 hR
    have hll : ∀ x ∈ ([((insA L XA), R)] : List Ms), x.1.length ≤ 1048576 ∧ x.2.length ≤ 1048576 := by
      intro x hx; simp only [List.mem_cons, List.not_mem_nil, or_false] at hx; rcases hx with rfl; refine ⟨?_, ?_⟩ <;> dsimp only
      · exact (by have := insA_len L XA; have := HnL.out; omega)
      · exact (by have := HnR.out; omega)
    go_at_call 31
    refine (sq_sl _ 2 [((insA L XA), R)] _ rfl hsd (by simp) hll).mono ?_
    rintro e x3 ⟨Bq, mq, dq, rfl, hq, hgx3⟩
    have hx3 : Grew w1 x3 := hx2.trans hgx3
    replace hL := hL.grew hgx3
    replace hR := hR.grew hgx3
    replace hs1 := hs1.grew hgx3
    refine hK.out _ _ ?_ (fun hHeld => ?_)
    · (try dsimp only); first | with_reducible assumption | exact hx3
    clear hK K
    try simp only [Act.put, List.setIfInBounds_toArray, List.set_cons_zero, List.set_cons_succ]
    refine wpAnyH_take (i := 9) (oi := ?on7094) (v := ?vn7094) ?hin7094 ?an7094 ?bn7094 ?cn7094 ?qn7094 (Or.inl ⟨?dn7094, ?hyn7094⟩) hHeld ?restn7094
    case hin7094 => (simp only [List.getElem?_toArray, List.getElem?_cons_succ, List.getElem?_cons_zero]; exact rfl)
    case an7094 => kernel_rfl
    case bn7094 => kernel_rfl
    case cn7094 => kernel_rfl
    case qn7094 => exact fun _ _ _ h => h
    case dn7094 => rfl
    case hyn7094 => (intro z hSw; (try dsimp only at hSw); go_simp; (try with_reducible rfl))
    try simp only [Act.put, List.setIfInBounds_toArray, List.set_cons_zero, List.set_cons_succ]
    refine wpAnyH_take (i := 10) (oi := ?on7095) ?hin7095 ?an7095 ?bn7095 ?cn7095 ?qn7095 (Or.inr ⟨?dn7095, rfl⟩) hHeld ?restn7095
    case hin7095 => (simp only [List.getElem?_toArray, List.getElem?_cons_succ, List.getElem?_cons_zero]; exact rfl)
    case an7095 => kernel_rfl
    case bn7095 => kernel_rfl
    case cn7095 => kernel_rfl
    case qn7095 => exact fun _ _ _ h => h
    case dn7095 => rfl
    try simp only [Act.put, List.setIfInBounds_toArray, List.set_cons_zero, List.set_cons_succ]
    refine wpAnyH_take (i := 11) (oi := ?on7096) (v := ?vn7096) ?hin7096 ?an7096 ?bn7096 ?cn7096 ?qn7096 (Or.inl ⟨?dn7096, ?hyn7096⟩) hHeld ?restn7096
    case hin7096 => (simp only [List.getElem?_toArray, List.getElem?_cons_succ, List.getElem?_cons_zero]; exact rfl)
    case an7096 => kernel_rfl
    case bn7096 => kernel_rfl
    case cn7096 => kernel_rfl
    case qn7096 => exact fun _ _ _ h => h
    case dn7096 => rfl
    case hyn7096 => (intro z hSw; (try dsimp only at hSw); go_simp; (try with_reducible rfl))
    try simp only [Act.put, List.setIfInBounds_toArray, List.set_cons_zero, List.set_cons_succ]
    refine wpAnyH_take (i := 12) (oi := ?on7097) (v := ?vn7097) ?hin7097 ?an7097 ?bn7097 ?cn7097 ?qn7097 (Or.inl ⟨?dn7097, ?hyn7097⟩) hHeld ?restn7097
    case hin7097 => (simp only [List.getElem?_toArray, List.getElem?_cons_succ, List.getElem?_cons_zero]; exact rfl)
    case an7097 => kernel_rfl
    case bn7097 => kernel_rfl
    case cn7097 => kernel_rfl
    case qn7097 => exact fun _ _ _ h => h
    case dn7097 => rfl
    case hyn7097 => (intro z hSw; (try dsimp only at hSw); go_simp; (try with_reducible rfl))
    try simp only [Act.put, List.setIfInBounds_toArray, List.set_cons_zero, List.set_cons_succ]
    refine wpAnyH_take (i := 13) (oi := ?on7098) (v := ?vn7098) ?hin7098 ?an7098 ?bn7098 ?cn7098 ?qn7098 (Or.inl ⟨?dn7098, ?hyn7098⟩) hHeld ?restn7098
    case hin7098 => (simp only [List.getElem?_toArray, List.getElem?_cons_succ, List.getElem?_cons_zero]; exact rfl)
    case an7098 => kernel_rfl
    case bn7098 => kernel_rfl
    case cn7098 => kernel_rfl
    case qn7098 => exact fun _ _ _ h => h
    case dn7098 => rfl
    case hyn7098 => (intro z hSw; (try dsimp only at hSw); go_simp; (try with_reducible rfl))
    try simp only [Act.put, List.setIfInBounds_toArray, List.set_cons_zero, List.set_cons_succ]
    refine wpAnyH_done (by kernel_rfl) ?_ _
    go_wp2_with fail
    go_ret2
    exact ⟨_, _, _, rfl, fun _ => hq, HG1.out.trans hx3⟩
  | true =>
    go_enter Tryz.func16, Tryz.ntmps16
    go_wp2_with fail
    simp only [← hw1]
    clear hw1
    refine (KO.out _ HG1.out).mono ?_
    rintro e x0 ⟨rfl, hg0⟩
    replace hL := hL.grew hg0
    replace hR := hR.grew hg0
    go_wp2_with fail
    have hd0 := hg0.drew
    replace hL := hL.grew (Grew.refl _).drew
    replace hR := hR.grew (Grew.refl _).drew
    refine wp_region_held_drew (S := fun w' => Grew w1 w') (by kernel_rfl) hd0 (fun hHeld => ?_)
    refine wpAnyH_take (i := 0) (oi := ?on8099) (v := ?vn8099) ?hin8099 ?an8099 ?bn8099 ?cn8099 ?qn8099 (Or.inl ⟨?dn8099, ?hyn8099⟩) hHeld ?restn8099
    case hin8099 => (simp only [List.getElem?_toArray, List.getElem?_cons_zero]; exact rfl)
    case an8099 => kernel_rfl
    case bn8099 => kernel_rfl
    case cn8099 => kernel_rfl
    case qn8099 => exact fun _ _ _ h => h
    case dn8099 => rfl
    case hyn8099 => (intro z hSw; (try dsimp only at hSw); go_simp; (try with_reducible rfl))
    try simp only [Act.put, List.setIfInBounds_toArray, List.set_cons_zero, List.set_cons_succ]
    refine wpAnyH_take (i := 1) (oi := ?on8100) (v := ?vn8100) ?hin8100 ?an8100 ?bn8100 ?cn8100 ?qn8100 (Or.inl ⟨?dn8100, ?hyn8100⟩) hHeld ?restn8100
    case hin8100 => (simp only [List.getElem?_toArray, List.getElem?_cons_succ, List.getElem?_cons_zero]; exact rfl)
    case an8100 => kernel_rfl
    case bn8100 => kernel_rfl
    case cn8100 => kernel_rfl
    case qn8100 => exact fun _ _ _ h => h
    case dn8100 => rfl
    case hyn8100 => (intro z hSw; (try dsimp only at hSw); go_simp; (try with_reducible rfl))
    try simp only [Act.put, List.setIfInBounds_toArray, List.set_cons_zero, List.set_cons_succ]
    refine wpAnyH_take (i := 2) (oi := ?on8101) (v := ?vn8101) ?hin8101 ?an8101 ?bn8101 ?cn8101 ?qn8101 (Or.inl ⟨?dn8101, ?hyn8101⟩) hHeld ?restn8101
    case hin8101 => (simp only [List.getElem?_toArray, List.getElem?_cons_succ, List.getElem?_cons_zero]; exact rfl)
    case an8101 => kernel_rfl
    case bn8101 => kernel_rfl
    case cn8101 => kernel_rfl
    case qn8101 => exact fun _ _ _ h => h
    case dn8101 => rfl
    case hyn8101 => (intro z hSw; (try dsimp only at hSw); go_simp; (try with_reducible rfl))
    try simp only [Act.put, List.setIfInBounds_toArray, List.set_cons_zero, List.set_cons_succ]
    refine wpAnyH_take (i := 4) (oi := ?on8102) (v := ?vn8102) ?hin8102 ?an8102 ?bn8102 ?cn8102 ?qn8102 (Or.inl ⟨?dn8102, ?hyn8102⟩) hHeld ?restn8102
    case hin8102 => (simp only [List.getElem?_toArray, List.getElem?_cons_succ, List.getElem?_cons_zero]; exact rfl)
    case an8102 => kernel_rfl
    case bn8102 => kernel_rfl
    case cn8102 => kernel_rfl
    case qn8102 => exact fun _ _ _ h => h
    case dn8102 => rfl
    case hyn8102 => (intro z hSw; (try dsimp only at hSw); go_simp; (try with_reducible rfl))
    try simp only [Act.put, List.setIfInBounds_toArray, List.set_cons_zero, List.set_cons_succ]
    refine wpAnyH_take (i := 5) (oi := ?on8103) (v := ?vn8103) ?hin8103 ?an8103 ?bn8103 ?cn8103 ?qn8103 (Or.inl ⟨?dn8103, ?hyn8103⟩) hHeld ?restn8103
    case hin8103 => (simp only [List.getElem?_toArray, List.getElem?_cons_succ, List.getElem?_cons_zero]; exact rfl)
    case an8103 => kernel_rfl
    case bn8103 => kernel_rfl
    case cn8103 => kernel_rfl
    case qn8103 => exact fun _ _ _ h => h
    case dn8103 => rfl
    case hyn8103 => (intro z hSw; (try dsimp only at hSw); go_simp; (try with_reducible rfl))
    try simp only [Act.put, List.setIfInBounds_toArray, List.set_cons_zero, List.set_cons_succ]
    refine wpAnyH_take (i := 8) (oi := ?on8104) (v := ?vn8104) ?hin8104 ?an8104 ?bn8104 ?cn8104 ?qn8104 (Or.inl ⟨?dn8104, ?hyn8104⟩) hHeld ?restn8104
    case hin8104 => (simp only [List.getElem?_toArray, List.getElem?_cons_succ, List.getElem?_cons_zero]; exact rfl)
    case an8104 => kernel_rfl
    case bn8104 => kernel_rfl
    case cn8104 => kernel_rfl
    case qn8104 => exact fun _ _ _ h => h
    case dn8104 => rfl
    case hyn8104 => (intro z hSw; (try dsimp only at hSw); go_simp; (try with_reducible rfl))
    try simp only [Act.put, List.setIfInBounds_toArray, List.set_cons_zero, List.set_cons_succ]
    refine wpAnyH_ready (rs := [3]) (by kernel_rfl) (by simp) ?_
    refine AllReadyH.cons (o := ?on8105) ?hin8105 ?restn8105 AllReadyH.nil
    case hin8105 => (simp only [List.getElem?_toArray, List.getElem?_cons_succ, List.getElem?_cons_zero]; exact rfl)
    intro K hK
    go_simp
    go_at_call 32
    refine (ins_sl _ _ _ L XA _ hL (by have := HnL.out; omega)).mono ?_
    rintro e x1 ⟨Bs1, ms1, ds1, rfl, hs1, hgx1⟩
    have hx1 : Grew w1 x1 := hd0.trans hgx1
    replace hL := hL.grew hgx1
    replace hR := hR.grew hgx1
    refine hK.out _ _ ?_ (fun hHeld => ?_)
    · (try dsimp only); first | with_reducible assumption | exact hx1
    clear hK K
    try simp only [Act.put, List.setIfInBounds_toArray, List.set_cons_zero, List.set_cons_succ]
    refine wpAnyH_ready (rs := [6]) (by kernel_rfl) (by simp) ?_
    refine AllReadyH.cons (o := ?on8106) ?hin8106 ?restn8106 AllReadyH.nil
    case hin8106 => (simp only [List.getElem?_toArray, List.getElem?_cons_succ, List.getElem?_cons_zero]; exact rfl)
    intro K hK
    go_simp
    obtain ⟨x2, hwx2⟩ : ∃ W, W = x1.alloc (.cells #[.slice Bs1 ms1 ds1, .slice A2 n2 c2] 22) := ⟨_, rfl⟩
    have hgx2 : Grew x1 x2 := by rw [hwx2]; exact (Grew.refl _).alloc _
    have hx2 : Grew w1 x2 := hx1.trans hgx2
    have hlit : x2.heap[x1.heap.size]? = some (.cells #[.slice Bs1 ms1 ds1, .slice A2 n2 c2] 22 (0, 0)) := by rw [hwx2]; exact blk_new _ _
    try simp only [← hwx2]
    clear hwx2
    replace hL := hL.grew hgx2
    replace hR := hR.grew hgx2
    replace hs1 := hs1.grew hgx2
    refine hK.out _ _ ?_ (fun hHeld => ?_)
    · (try dsimp only); first | with_reducible assumption | exact hx2
    clear hK K
    try simp only [Act.put, List.setIfInBounds_toArray, List.set_cons_zero, List.set_cons_succ]
    refine wpAnyH_ready (rs := [7]) (by kernel_rfl) (by simp) ?_
    refine AllReadyH.cons (o := ?on8107) ?hin8107 ?restn8107 AllReadyH.nil
    case hin8107 => (simp only [List.getElem?_toArray, List.getElem?_cons_succ, List.getElem?_cons_zero]; exact rfl)
    intro K hK
    go_simp
    have hsd := sdR_one hlit hs1 hR
    have hll : ∀ x ∈ ([((insA L XA), R)] : List Ms), x.1.length ≤ 1048576 ∧ x.2.length ≤ 1048576 := by
      intro x hx; simp only [List.mem_cons, List.not_mem_nil, or_false] at hx; rcases hx with rfl; refine ⟨?_, ?_⟩ <;> dsimp only
      · exact (by have := insA_len L XA; have := HnL.out; omega)
      · exact (by have := HnR.out; omega)
    go_at_call 31
    refine (sq_sl _ 2 [((insA L XA), R)] _ rfl hsd (by simp) hll).mono ?_
    rintro e x3 ⟨Bq, mq, dq, rfl, hq, hgx3⟩
    have hx3 : Grew w1 x3 := hx2.trans hgx3
    replace hL := hL.grew hgx3
    replace hR := hR.grew hgx3
    replace hs1 := hs1.grew hgx3
    refine hK.out _ _ ?_ (fun hHeld => ?_)
    · (try dsimp only); first | with_reducible assumption | exact hx3
    clear hK K
    try simp only [Act.put, List.setIfInBounds_toArray, List.set_cons_zero, List.set_cons_succ]
    refine wpAnyH_take (i := 9) (oi := ?on8108) (v := ?vn8108) ?hin8108 ?an8108 ?bn8108 ?cn8108 ?qn8108 (Or.inl ⟨?dn8108, ?hyn8108⟩) hHeld ?restn8108
    case hin8108 => (simp only [List.getElem?_toArray, List.getElem?_cons_succ, List.getElem?_cons_zero]; exact rfl)
    case an8108 => kernel_rfl
    case bn8108 => kernel_rfl
    case cn8108 => kernel_rfl
    case qn8108 => exact fun _ _ _ h => h
    case dn8108 => rfl
    case hyn8108 => (intro z hSw; (try dsimp only at hSw); go_simp; (try with_reducible rfl))
    try simp only [Act.put, List.setIfInBounds_toArray, List.set_cons_zero, List.set_cons_succ]
    refine wpAnyH_take (i := 10) (oi := ?on8109) (v := ?vn8109) ?hin8109 ?an8109 ?bn8109 ?cn8109 ?qn8109 (Or.inl ⟨?dn8109, ?hyn8109⟩) hHeld ?restn8109
    case hin8109 => (simp only [List.getElem?_toArray, List.getElem?_cons_succ, List.getElem?_cons_zero]; exact rfl)
    case an8109 => kernel_rfl
    case bn8109 => kernel_rfl
    case cn8109 => kernel_rfl
    case qn8109 => exact fun _ _ _ h => h
    case dn8109 => rfl
    case hyn8109 => (intro z hSw; (try dsimp only at hSw); go_simp; (try with_reducible rfl))
    try simp only [Act.put, List.setIfInBounds_toArray, List.set_cons_zero, List.set_cons_succ]
    refine wpAnyH_take (i := 11) (oi := ?on8110) (v := ?vn8110) ?hin8110 ?an8110 ?bn8110 ?cn8110 ?qn8110 (Or.inl ⟨?dn8110, ?hyn8110⟩) hHeld ?restn8110
    case hin8110 => (simp only [List.getElem?_toArray, List.getElem?_cons_succ, List.getElem?_cons_zero]; exact rfl)
    case an8110 => kernel_rfl
    case bn8110 => kernel_rfl
    case cn8110 => kernel_rfl
    case qn8110 => exact fun _ _ _ h => h
    case dn8110 => rfl
    case hyn8110 => (intro z hSw; (try dsimp only at hSw); go_simp; (try with_reducible rfl))
    try simp only [Act.put, List.setIfInBounds_toArray, List.set_cons_zero, List.set_cons_succ]
    refine wpAnyH_take (i := 12) (oi := ?on8111) (v := ?vn8111) ?hin8111 ?an8111 ?bn8111 ?cn8111 ?qn8111 (Or.inl ⟨?dn8111, ?hyn8111⟩) hHeld ?restn8111
    case hin8111 => (simp only [List.getElem?_toArray, List.getElem?_cons_succ, List.getElem?_cons_zero]; exact rfl)
    case an8111 => kernel_rfl
    case bn8111 => kernel_rfl
    case cn8111 => kernel_rfl
    case qn8111 => exact fun _ _ _ h => h
    case dn8111 => rfl
    case hyn8111 => (intro z hSw; (try dsimp only at hSw); go_simp; (try with_reducible rfl))
    try simp only [Act.put, List.setIfInBounds_toArray, List.set_cons_zero, List.set_cons_succ]
    refine wpAnyH_take (i := 13) (oi := ?on8112) (v := ?vn8112) ?hin8112 ?an8112 ?bn8112 ?cn8112 ?qn8112 (Or.inl ⟨?dn8112, ?hyn8112⟩) hHeld ?restn8112
    case hin8112 => (simp only [List.getElem?_toArray, List.getElem?_cons_succ, List.getElem?_cons_zero]; exact rfl)
    case an8112 => kernel_rfl
    case bn8112 => kernel_rfl
    case cn8112 => kernel_rfl
    case qn8112 => exact fun _ _ _ h => h
    case dn8112 => rfl
    case hyn8112 => (intro z hSw; (try dsimp only at hSw); go_simp; (try with_reducible rfl))
    try simp only [Act.put, List.setIfInBounds_toArray, List.set_cons_zero, List.set_cons_succ]
    refine wpAnyH_done (by kernel_rfl) ?_ _
    go_wp2_with fail
    go_ret2
    exact ⟨_, _, _, rfl, fun _ => hq, HG1.out.trans hx3⟩

set_option maxHeartbeats 8000000 in
set_option maxRecDepth 8192 in
theorem l11Prem_10 (lg m : ByteArray) (va vb : Value) (L R : List ByteArray) (w : World) (ha : Strs w va L) (hb : Strs w vb R) (hgL : ∀ i, i < L.length → gd (st L i) = true) (hgR : ∀ i, i < R.length → gd (st R i) = true) (hFL : Fits L) (hFR : Fits R) (hnL : L.length ≤ 16) (hnR : R.length ≤ 16) (hUL : Up L) (hUR : Up R) (hmz : m.size ≤ 1048576) :
    Calls Tryz.prog 16 #[.string lg, .int .i64 10, .agg #[va, vb], .string m] w (GivesPm w ([(L, (insA R (onF R m 6).1))], (onF R m 6).2.2 && rfx lg)) := by
  have KO := Lib.hid (fun W (hW : Grew w W) => l11On_c vb R m 6 W (hb.grew hW) hgR (by omega) hmz (by omega))
  obtain ⟨A1, c1, rfl⟩ := strs_slice ha
  obtain ⟨A2, c2, rfl⟩ := strs_slice hb
  obtain ⟨w1, hw1⟩ : ∃ w1, w1 = w.alloc (.cells #[.slice A1 L.length c1, .slice A2 R.length c2] 29) := ⟨_, rfl⟩
  have hg1 : Grew w w1 := by rw [hw1]; exact (Grew.refl w).alloc _
  have hb0 : w1.heap[w.heap.size]? = some (.cells #[.slice A1 L.length c1, .slice A2 R.length c2] 29 (0, 0)) := by rw [hw1]; exact blk_new w _
  have p0 : ∀ W, Grew w1 W → W.cell? ⟨w.heap.size, 0, none⟩ = some (.slice A1 L.length c1) := fun W hW => by rw [blk_cell ((hW.block (blk_lt hb0)).trans hb0)]; rfl
  have p1 : ∀ W, Grew w1 W → W.cell? ⟨w.heap.size, 1, none⟩ = some (.slice A2 R.length c2) := fun W hW => by rw [blk_cell ((hW.block (blk_lt hb0)).trans hb0)]; rfl
  have hL := ha.grew hg1
  have hR := hb.grew hg1
  have HG1 := Lib.hid hg1
  have r1 := Grew.refl w1
  have d1 := r1.drew
  clear ha hb hgL hgR hb0 hg1 hFL hFR hUL hUR
  have HnL := Lib.hid hnL
  have HnR := Lib.hid hnR
  generalize hX : onF R m 6 = X at *
  clear hX
  obtain ⟨XA, XB, XC⟩ := X
  generalize hn1 : L.length = n1 at p0 hL hw1 ⊢
  generalize hn2 : R.length = n2 at p1 hR hw1 KO ⊢
  have HN1 := Lib.hid hn1
  have HN2 := Lib.hid hn2
  clear hn1 hn2 hnL hnR
  cases h1 : (lg.toList == [84]) with
  | true =>
    have hrf : rfx lg = true := by unfold rfx isLg; simp [h1]
    rw [hrf]
    clear hrf
    cases XC with
    | false =>
      go_enter Tryz.func16, Tryz.ntmps16
      go_wp2_with fail
      simp only [← hw1]
      clear hw1
      refine (KO.out _ HG1.out).mono ?_
      rintro e x0 ⟨rfl, hg0⟩
      replace hL := hL.grew hg0
      replace hR := hR.grew hg0
      go_wp2_with fail
      have hd0 := hg0.drew
      replace hL := hL.grew (Grew.refl _).drew
      replace hR := hR.grew (Grew.refl _).drew
      refine wp_region_held_drew (S := fun w' => Grew w1 w') (by kernel_rfl) hd0 (fun hHeld => ?_)
      refine wpAnyH_take (i := 0) (oi := ?on9113) (v := ?vn9113) ?hin9113 ?an9113 ?bn9113 ?cn9113 ?qn9113 (Or.inl ⟨?dn9113, ?hyn9113⟩) hHeld ?restn9113
      case hin9113 => (simp only [List.getElem?_toArray, List.getElem?_cons_zero]; exact rfl)
      case an9113 => kernel_rfl
      case bn9113 => kernel_rfl
      case cn9113 => kernel_rfl
      case qn9113 => exact fun _ _ _ h => h
      case dn9113 => rfl
      case hyn9113 => (intro z hSw; (try dsimp only at hSw); go_simp; (try with_reducible rfl))
      try simp only [Act.put, List.setIfInBounds_toArray, List.set_cons_zero, List.set_cons_succ]
      refine wpAnyH_take (i := 1) (oi := ?on9114) (v := ?vn9114) ?hin9114 ?an9114 ?bn9114 ?cn9114 ?qn9114 (Or.inl ⟨?dn9114, ?hyn9114⟩) hHeld ?restn9114
      case hin9114 => (simp only [List.getElem?_toArray, List.getElem?_cons_succ, List.getElem?_cons_zero]; exact rfl)
      case an9114 => kernel_rfl
      case bn9114 => kernel_rfl
      case cn9114 => kernel_rfl
      case qn9114 => exact fun _ _ _ h => h
      case dn9114 => rfl
      case hyn9114 => (intro z hSw; (try dsimp only at hSw); go_simp; (try with_reducible rfl))
      try simp only [Act.put, List.setIfInBounds_toArray, List.set_cons_zero, List.set_cons_succ]
      refine wpAnyH_take (i := 2) (oi := ?on9115) (v := ?vn9115) ?hin9115 ?an9115 ?bn9115 ?cn9115 ?qn9115 (Or.inl ⟨?dn9115, ?hyn9115⟩) hHeld ?restn9115
      case hin9115 => (simp only [List.getElem?_toArray, List.getElem?_cons_succ, List.getElem?_cons_zero]; exact rfl)
      case an9115 => kernel_rfl
      case bn9115 => kernel_rfl
      case cn9115 => kernel_rfl
      case qn9115 => exact fun _ _ _ h => h
      case dn9115 => rfl
      case hyn9115 => (intro z hSw; (try dsimp only at hSw); go_simp; (try with_reducible rfl))
      try simp only [Act.put, List.setIfInBounds_toArray, List.set_cons_zero, List.set_cons_succ]
      refine wpAnyH_take (i := 3) (oi := ?on9116) (v := ?vn9116) ?hin9116 ?an9116 ?bn9116 ?cn9116 ?qn9116 (Or.inl ⟨?dn9116, ?hyn9116⟩) hHeld ?restn9116
      case hin9116 => (simp only [List.getElem?_toArray, List.getElem?_cons_succ, List.getElem?_cons_zero]; exact rfl)
      case an9116 => kernel_rfl
      case bn9116 => kernel_rfl
      case cn9116 => kernel_rfl
      case qn9116 => exact fun _ _ _ h => h
      case dn9116 => rfl
      case hyn9116 => (intro z hSw; (try dsimp only at hSw); go_simp; (try with_reducible rfl))
      try simp only [Act.put, List.setIfInBounds_toArray, List.set_cons_zero, List.set_cons_succ]
      refine wpAnyH_take (i := 4) (oi := ?on9117) (v := ?vn9117) ?hin9117 ?an9117 ?bn9117 ?cn9117 ?qn9117 (Or.inl ⟨?dn9117, ?hyn9117⟩) hHeld ?restn9117
      case hin9117 => (simp only [List.getElem?_toArray, List.getElem?_cons_succ, List.getElem?_cons_zero]; exact rfl)
      case an9117 => kernel_rfl
      case bn9117 => kernel_rfl
      case cn9117 => kernel_rfl
      case qn9117 => exact fun _ _ _ h => h
      case dn9117 => rfl
      case hyn9117 => (intro z hSw; (try dsimp only at hSw); go_simp; (try with_reducible rfl))
      try simp only [Act.put, List.setIfInBounds_toArray, List.set_cons_zero, List.set_cons_succ]
      refine wpAnyH_take (i := 8) (oi := ?on9118) (v := ?vn9118) ?hin9118 ?an9118 ?bn9118 ?cn9118 ?qn9118 (Or.inl ⟨?dn9118, ?hyn9118⟩) hHeld ?restn9118
      case hin9118 => (simp only [List.getElem?_toArray, List.getElem?_cons_succ, List.getElem?_cons_zero]; exact rfl)
      case an9118 => kernel_rfl
      case bn9118 => kernel_rfl
      case cn9118 => kernel_rfl
      case qn9118 => exact fun _ _ _ h => h
      case dn9118 => rfl
      case hyn9118 => (intro z hSw; (try dsimp only at hSw); go_simp; (try with_reducible rfl))
      try simp only [Act.put, List.setIfInBounds_toArray, List.set_cons_zero, List.set_cons_succ]
      refine wpAnyH_ready (rs := [5]) (by kernel_rfl) (by simp) ?_
      refine AllReadyH.cons (o := ?on9119) ?hin9119 ?restn9119 AllReadyH.nil
      case hin9119 => (simp only [List.getElem?_toArray, List.getElem?_cons_succ, List.getElem?_cons_zero]; exact rfl)
      intro K hK
      go_simp
      go_at_call 32
      refine (ins_sl _ _ _ R XA _ hR (by have := HnR.out; omega)).mono ?_
      rintro e x1 ⟨Bs1, ms1, ds1, rfl, hs1, hgx1⟩
      have hx1 : Grew w1 x1 := hd0.trans hgx1
      replace hL := hL.grew hgx1
      replace hR := hR.grew hgx1
      refine hK.out _ _ ?_ (fun hHeld => ?_)
      · (try dsimp only); first | with_reducible assumption | exact hx1
      clear hK K
      try simp only [Act.put, List.setIfInBounds_toArray, List.set_cons_zero, List.set_cons_succ]
      refine wpAnyH_ready (rs := [6]) (by kernel_rfl) (by simp) ?_
      refine AllReadyH.cons (o := ?on9120) ?hin9120 ?restn9120 AllReadyH.nil
      case hin9120 => (simp only [List.getElem?_toArray, List.getElem?_cons_succ, List.getElem?_cons_zero]; exact rfl)
      intro K hK
      go_simp
      obtain ⟨x2, hwx2⟩ : ∃ W, W = x1.alloc (.cells #[.slice A1 n1 c1, .slice Bs1 ms1 ds1] 22) := ⟨_, rfl⟩
      have hgx2 : Grew x1 x2 := by rw [hwx2]; exact (Grew.refl _).alloc _
      have hx2 : Grew w1 x2 := hx1.trans hgx2
      have hlit : x2.heap[x1.heap.size]? = some (.cells #[.slice A1 n1 c1, .slice Bs1 ms1 ds1] 22 (0, 0)) := by rw [hwx2]; exact blk_new _ _
      try simp only [← hwx2]
      clear hwx2
      replace hL := hL.grew hgx2
      replace hR := hR.grew hgx2
      replace hs1 := hs1.grew hgx2
      refine hK.out _ _ ?_ (fun hHeld => ?_)
      · (try dsimp only); first | with_reducible assumption | exact hx2
      clear hK K
      try simp only [Act.put, List.setIfInBounds_toArray, List.set_cons_zero, List.set_cons_succ]
      refine wpAnyH_ready (rs := [7]) (by kernel_rfl) (by simp) ?_
      refine AllReadyH.cons (o := ?on9121) ?hin9121 ?restn9121 AllReadyH.nil
      case hin9121 => (simp only [List.getElem?_toArray, List.getElem?_cons_succ, List.getElem?_cons_zero]; exact rfl)
      intro K hK
      go_simp
      have hsd := sdR_one hlit hL hs1
      have hll : ∀ x ∈ ([(L, (insA R XA))] : List Ms), x.1.length ≤ 1048576 ∧ x.2.length ≤ 1048576 := by
        intro x hx; simp only [List.mem_cons, List.not_mem_nil, or_false] at hx; rcases hx with rfl; refine ⟨?_, ?_⟩ <;> dsimp only
        · exact (by have := HnL.out; omega)
        · exact (by have := insA_len R XA; have := HnR.out; omega)
      go_at_call 31
      refine (sq_sl _ 2 [(L, (insA R XA))] _ rfl hsd (by simp) hll).mono ?_
      rintro e x3 ⟨Bq, mq, dq, rfl, hq, hgx3⟩
      have hx3 : Grew w1 x3 := hx2.trans hgx3
      replace hL := hL.grew hgx3
      replace hR := hR.grew hgx3
      replace hs1 := hs1.grew hgx3
      refine hK.out _ _ ?_ (fun hHeld => ?_)
      · (try dsimp only); first | with_reducible assumption | exact hx3
      clear hK K
      try simp only [Act.put, List.setIfInBounds_toArray, List.set_cons_zero, List.set_cons_succ]
      refine wpAnyH_take (i := 9) (oi := ?on9122) (v := ?vn9122) ?hin9122 ?an9122 ?bn9122 ?cn9122 ?qn9122 (Or.inl ⟨?dn9122, ?hyn9122⟩) hHeld ?restn9122
      case hin9122 => (simp only [List.getElem?_toArray, List.getElem?_cons_succ, List.getElem?_cons_zero]; exact rfl)
      case an9122 => kernel_rfl
      case bn9122 => kernel_rfl
      case cn9122 => kernel_rfl
      case qn9122 => exact fun _ _ _ h => h
      case dn9122 => rfl
      case hyn9122 => (intro z hSw; (try dsimp only at hSw); go_simp; (try with_reducible rfl))
      try simp only [Act.put, List.setIfInBounds_toArray, List.set_cons_zero, List.set_cons_succ]
      refine wpAnyH_take (i := 10) (oi := ?on9123) ?hin9123 ?an9123 ?bn9123 ?cn9123 ?qn9123 (Or.inr ⟨?dn9123, rfl⟩) hHeld ?restn9123
      case hin9123 => (simp only [List.getElem?_toArray, List.getElem?_cons_succ, List.getElem?_cons_zero]; exact rfl)
      case an9123 => kernel_rfl
      case bn9123 => kernel_rfl
      case cn9123 => kernel_rfl
      case qn9123 => exact fun _ _ _ h => h
      case dn9123 => rfl
      try simp only [Act.put, List.setIfInBounds_toArray, List.set_cons_zero, List.set_cons_succ]
      refine wpAnyH_take (i := 11) (oi := ?on9124) (v := ?vn9124) ?hin9124 ?an9124 ?bn9124 ?cn9124 ?qn9124 (Or.inl ⟨?dn9124, ?hyn9124⟩) hHeld ?restn9124
      case hin9124 => (simp only [List.getElem?_toArray, List.getElem?_cons_succ, List.getElem?_cons_zero]; exact rfl)
      case an9124 => kernel_rfl
      case bn9124 => kernel_rfl
      case cn9124 => kernel_rfl
      case qn9124 => exact fun _ _ _ h => h
      case dn9124 => rfl
      case hyn9124 => (intro z hSw; (try dsimp only at hSw); go_simp; (try with_reducible rfl))
      try simp only [Act.put, List.setIfInBounds_toArray, List.set_cons_zero, List.set_cons_succ]
      refine wpAnyH_take (i := 12) (oi := ?on9125) (v := ?vn9125) ?hin9125 ?an9125 ?bn9125 ?cn9125 ?qn9125 (Or.inl ⟨?dn9125, ?hyn9125⟩) hHeld ?restn9125
      case hin9125 => (simp only [List.getElem?_toArray, List.getElem?_cons_succ, List.getElem?_cons_zero]; exact rfl)
      case an9125 => kernel_rfl
      case bn9125 => kernel_rfl
      case cn9125 => kernel_rfl
      case qn9125 => exact fun _ _ _ h => h
      case dn9125 => rfl
      case hyn9125 => (intro z hSw; (try dsimp only at hSw); go_simp; (try with_reducible rfl))
      try simp only [Act.put, List.setIfInBounds_toArray, List.set_cons_zero, List.set_cons_succ]
      refine wpAnyH_take (i := 13) (oi := ?on9126) (v := ?vn9126) ?hin9126 ?an9126 ?bn9126 ?cn9126 ?qn9126 (Or.inl ⟨?dn9126, ?hyn9126⟩) hHeld ?restn9126
      case hin9126 => (simp only [List.getElem?_toArray, List.getElem?_cons_succ, List.getElem?_cons_zero]; exact rfl)
      case an9126 => kernel_rfl
      case bn9126 => kernel_rfl
      case cn9126 => kernel_rfl
      case qn9126 => exact fun _ _ _ h => h
      case dn9126 => rfl
      case hyn9126 => (intro z hSw; (try dsimp only at hSw); go_simp; (try with_reducible rfl))
      try simp only [Act.put, List.setIfInBounds_toArray, List.set_cons_zero, List.set_cons_succ]
      refine wpAnyH_done (by kernel_rfl) ?_ _
      go_wp2_with fail
      go_ret2
      exact ⟨_, _, _, rfl, fun _ => hq, HG1.out.trans hx3⟩
    | true =>
      go_enter Tryz.func16, Tryz.ntmps16
      go_wp2_with fail
      simp only [← hw1]
      clear hw1
      refine (KO.out _ HG1.out).mono ?_
      rintro e x0 ⟨rfl, hg0⟩
      replace hL := hL.grew hg0
      replace hR := hR.grew hg0
      go_wp2_with fail
      have hd0 := hg0.drew
      replace hL := hL.grew (Grew.refl _).drew
      replace hR := hR.grew (Grew.refl _).drew
      refine wp_region_held_drew (S := fun w' => Grew w1 w') (by kernel_rfl) hd0 (fun hHeld => ?_)
      refine wpAnyH_take (i := 0) (oi := ?on10127) (v := ?vn10127) ?hin10127 ?an10127 ?bn10127 ?cn10127 ?qn10127 (Or.inl ⟨?dn10127, ?hyn10127⟩) hHeld ?restn10127
      case hin10127 => (simp only [List.getElem?_toArray, List.getElem?_cons_zero]; exact rfl)
      case an10127 => kernel_rfl
      case bn10127 => kernel_rfl
      case cn10127 => kernel_rfl
      case qn10127 => exact fun _ _ _ h => h
      case dn10127 => rfl
      case hyn10127 => (intro z hSw; (try dsimp only at hSw); go_simp; (try with_reducible rfl))
      try simp only [Act.put, List.setIfInBounds_toArray, List.set_cons_zero, List.set_cons_succ]
      refine wpAnyH_take (i := 1) (oi := ?on10128) (v := ?vn10128) ?hin10128 ?an10128 ?bn10128 ?cn10128 ?qn10128 (Or.inl ⟨?dn10128, ?hyn10128⟩) hHeld ?restn10128
      case hin10128 => (simp only [List.getElem?_toArray, List.getElem?_cons_succ, List.getElem?_cons_zero]; exact rfl)
      case an10128 => kernel_rfl
      case bn10128 => kernel_rfl
      case cn10128 => kernel_rfl
      case qn10128 => exact fun _ _ _ h => h
      case dn10128 => rfl
      case hyn10128 => (intro z hSw; (try dsimp only at hSw); go_simp; (try with_reducible rfl))
      try simp only [Act.put, List.setIfInBounds_toArray, List.set_cons_zero, List.set_cons_succ]
      refine wpAnyH_take (i := 2) (oi := ?on10129) (v := ?vn10129) ?hin10129 ?an10129 ?bn10129 ?cn10129 ?qn10129 (Or.inl ⟨?dn10129, ?hyn10129⟩) hHeld ?restn10129
      case hin10129 => (simp only [List.getElem?_toArray, List.getElem?_cons_succ, List.getElem?_cons_zero]; exact rfl)
      case an10129 => kernel_rfl
      case bn10129 => kernel_rfl
      case cn10129 => kernel_rfl
      case qn10129 => exact fun _ _ _ h => h
      case dn10129 => rfl
      case hyn10129 => (intro z hSw; (try dsimp only at hSw); go_simp; (try with_reducible rfl))
      try simp only [Act.put, List.setIfInBounds_toArray, List.set_cons_zero, List.set_cons_succ]
      refine wpAnyH_take (i := 3) (oi := ?on10130) (v := ?vn10130) ?hin10130 ?an10130 ?bn10130 ?cn10130 ?qn10130 (Or.inl ⟨?dn10130, ?hyn10130⟩) hHeld ?restn10130
      case hin10130 => (simp only [List.getElem?_toArray, List.getElem?_cons_succ, List.getElem?_cons_zero]; exact rfl)
      case an10130 => kernel_rfl
      case bn10130 => kernel_rfl
      case cn10130 => kernel_rfl
      case qn10130 => exact fun _ _ _ h => h
      case dn10130 => rfl
      case hyn10130 => (intro z hSw; (try dsimp only at hSw); go_simp; (try with_reducible rfl))
      try simp only [Act.put, List.setIfInBounds_toArray, List.set_cons_zero, List.set_cons_succ]
      refine wpAnyH_take (i := 4) (oi := ?on10131) (v := ?vn10131) ?hin10131 ?an10131 ?bn10131 ?cn10131 ?qn10131 (Or.inl ⟨?dn10131, ?hyn10131⟩) hHeld ?restn10131
      case hin10131 => (simp only [List.getElem?_toArray, List.getElem?_cons_succ, List.getElem?_cons_zero]; exact rfl)
      case an10131 => kernel_rfl
      case bn10131 => kernel_rfl
      case cn10131 => kernel_rfl
      case qn10131 => exact fun _ _ _ h => h
      case dn10131 => rfl
      case hyn10131 => (intro z hSw; (try dsimp only at hSw); go_simp; (try with_reducible rfl))
      try simp only [Act.put, List.setIfInBounds_toArray, List.set_cons_zero, List.set_cons_succ]
      refine wpAnyH_take (i := 8) (oi := ?on10132) (v := ?vn10132) ?hin10132 ?an10132 ?bn10132 ?cn10132 ?qn10132 (Or.inl ⟨?dn10132, ?hyn10132⟩) hHeld ?restn10132
      case hin10132 => (simp only [List.getElem?_toArray, List.getElem?_cons_succ, List.getElem?_cons_zero]; exact rfl)
      case an10132 => kernel_rfl
      case bn10132 => kernel_rfl
      case cn10132 => kernel_rfl
      case qn10132 => exact fun _ _ _ h => h
      case dn10132 => rfl
      case hyn10132 => (intro z hSw; (try dsimp only at hSw); go_simp; (try with_reducible rfl))
      try simp only [Act.put, List.setIfInBounds_toArray, List.set_cons_zero, List.set_cons_succ]
      refine wpAnyH_ready (rs := [5]) (by kernel_rfl) (by simp) ?_
      refine AllReadyH.cons (o := ?on10133) ?hin10133 ?restn10133 AllReadyH.nil
      case hin10133 => (simp only [List.getElem?_toArray, List.getElem?_cons_succ, List.getElem?_cons_zero]; exact rfl)
      intro K hK
      go_simp
      go_at_call 32
      refine (ins_sl _ _ _ R XA _ hR (by have := HnR.out; omega)).mono ?_
      rintro e x1 ⟨Bs1, ms1, ds1, rfl, hs1, hgx1⟩
      have hx1 : Grew w1 x1 := hd0.trans hgx1
      replace hL := hL.grew hgx1
      replace hR := hR.grew hgx1
      refine hK.out _ _ ?_ (fun hHeld => ?_)
      · (try dsimp only); first | with_reducible assumption | exact hx1
      clear hK K
      try simp only [Act.put, List.setIfInBounds_toArray, List.set_cons_zero, List.set_cons_succ]
      refine wpAnyH_ready (rs := [6]) (by kernel_rfl) (by simp) ?_
      refine AllReadyH.cons (o := ?on10134) ?hin10134 ?restn10134 AllReadyH.nil
      case hin10134 => (simp only [List.getElem?_toArray, List.getElem?_cons_succ, List.getElem?_cons_zero]; exact rfl)
      intro K hK
      go_simp
      obtain ⟨x2, hwx2⟩ : ∃ W, W = x1.alloc (.cells #[.slice A1 n1 c1, .slice Bs1 ms1 ds1] 22) := ⟨_, rfl⟩
      have hgx2 : Grew x1 x2 := by rw [hwx2]; exact (Grew.refl _).alloc _
      have hx2 : Grew w1 x2 := hx1.trans hgx2
      have hlit : x2.heap[x1.heap.size]? = some (.cells #[.slice A1 n1 c1, .slice Bs1 ms1 ds1] 22 (0, 0)) := by rw [hwx2]; exact blk_new _ _
      try simp only [← hwx2]
      clear hwx2
      replace hL := hL.grew hgx2
      replace hR := hR.grew hgx2
      replace hs1 := hs1.grew hgx2
      refine hK.out _ _ ?_ (fun hHeld => ?_)
      · (try dsimp only); first | with_reducible assumption | exact hx2
      clear hK K
      try simp only [Act.put, List.setIfInBounds_toArray, List.set_cons_zero, List.set_cons_succ]
      refine wpAnyH_ready (rs := [7]) (by kernel_rfl) (by simp) ?_
      refine AllReadyH.cons (o := ?on10135) ?hin10135 ?restn10135 AllReadyH.nil
      case hin10135 => (simp only [List.getElem?_toArray, List.getElem?_cons_succ, List.getElem?_cons_zero]; exact rfl)
      intro K hK
      go_simp
      have hsd := sdR_one hlit hL hs1
      have hll : ∀ x ∈ ([(L, (insA R XA))] : List Ms), x.1.length ≤ 1048576 ∧ x.2.length ≤ 1048576 := by
        intro x hx; simp only [List.mem_cons, List.not_mem_nil, or_false] at hx; rcases hx with rfl; refine ⟨?_, ?_⟩ <;> dsimp only
        · exact (by have := HnL.out; omega)
        · exact (by have := insA_len R XA; have := HnR.out; omega)
      go_at_call 31
      refine (sq_sl _ 2 [(L, (insA R XA))] _ rfl hsd (by simp) hll).mono ?_
      rintro e x3 ⟨Bq, mq, dq, rfl, hq, hgx3⟩
      have hx3 : Grew w1 x3 := hx2.trans hgx3
      replace hL := hL.grew hgx3
      replace hR := hR.grew hgx3
      replace hs1 := hs1.grew hgx3
      refine hK.out _ _ ?_ (fun hHeld => ?_)
      · (try dsimp only); first | with_reducible assumption | exact hx3
      clear hK K
      try simp only [Act.put, List.setIfInBounds_toArray, List.set_cons_zero, List.set_cons_succ]
      refine wpAnyH_take (i := 9) (oi := ?on10136) (v := ?vn10136) ?hin10136 ?an10136 ?bn10136 ?cn10136 ?qn10136 (Or.inl ⟨?dn10136, ?hyn10136⟩) hHeld ?restn10136
      case hin10136 => (simp only [List.getElem?_toArray, List.getElem?_cons_succ, List.getElem?_cons_zero]; exact rfl)
      case an10136 => kernel_rfl
      case bn10136 => kernel_rfl
      case cn10136 => kernel_rfl
      case qn10136 => exact fun _ _ _ h => h
      case dn10136 => rfl
      case hyn10136 => (intro z hSw; (try dsimp only at hSw); go_simp; (try with_reducible rfl))
      try simp only [Act.put, List.setIfInBounds_toArray, List.set_cons_zero, List.set_cons_succ]
      refine wpAnyH_take (i := 10) (oi := ?on10137) (v := ?vn10137) ?hin10137 ?an10137 ?bn10137 ?cn10137 ?qn10137 (Or.inl ⟨?dn10137, ?hyn10137⟩) hHeld ?restn10137
      case hin10137 => (simp only [List.getElem?_toArray, List.getElem?_cons_succ, List.getElem?_cons_zero]; exact rfl)
      case an10137 => kernel_rfl
      case bn10137 => kernel_rfl
      case cn10137 => kernel_rfl
      case qn10137 => exact fun _ _ _ h => h
      case dn10137 => rfl
      case hyn10137 => (intro z hSw; (try dsimp only at hSw); go_simp; (try with_reducible rfl))
      try simp only [Act.put, List.setIfInBounds_toArray, List.set_cons_zero, List.set_cons_succ]
      refine wpAnyH_take (i := 11) (oi := ?on10138) (v := ?vn10138) ?hin10138 ?an10138 ?bn10138 ?cn10138 ?qn10138 (Or.inl ⟨?dn10138, ?hyn10138⟩) hHeld ?restn10138
      case hin10138 => (simp only [List.getElem?_toArray, List.getElem?_cons_succ, List.getElem?_cons_zero]; exact rfl)
      case an10138 => kernel_rfl
      case bn10138 => kernel_rfl
      case cn10138 => kernel_rfl
      case qn10138 => exact fun _ _ _ h => h
      case dn10138 => rfl
      case hyn10138 => (intro z hSw; (try dsimp only at hSw); go_simp; (try with_reducible rfl))
      try simp only [Act.put, List.setIfInBounds_toArray, List.set_cons_zero, List.set_cons_succ]
      refine wpAnyH_take (i := 12) (oi := ?on10139) (v := ?vn10139) ?hin10139 ?an10139 ?bn10139 ?cn10139 ?qn10139 (Or.inl ⟨?dn10139, ?hyn10139⟩) hHeld ?restn10139
      case hin10139 => (simp only [List.getElem?_toArray, List.getElem?_cons_succ, List.getElem?_cons_zero]; exact rfl)
      case an10139 => kernel_rfl
      case bn10139 => kernel_rfl
      case cn10139 => kernel_rfl
      case qn10139 => exact fun _ _ _ h => h
      case dn10139 => rfl
      case hyn10139 => (intro z hSw; (try dsimp only at hSw); go_simp; (try with_reducible rfl))
      try simp only [Act.put, List.setIfInBounds_toArray, List.set_cons_zero, List.set_cons_succ]
      refine wpAnyH_take (i := 13) (oi := ?on10140) (v := ?vn10140) ?hin10140 ?an10140 ?bn10140 ?cn10140 ?qn10140 (Or.inl ⟨?dn10140, ?hyn10140⟩) hHeld ?restn10140
      case hin10140 => (simp only [List.getElem?_toArray, List.getElem?_cons_succ, List.getElem?_cons_zero]; exact rfl)
      case an10140 => kernel_rfl
      case bn10140 => kernel_rfl
      case cn10140 => kernel_rfl
      case qn10140 => exact fun _ _ _ h => h
      case dn10140 => rfl
      case hyn10140 => (intro z hSw; (try dsimp only at hSw); go_simp; (try with_reducible rfl))
      try simp only [Act.put, List.setIfInBounds_toArray, List.set_cons_zero, List.set_cons_succ]
      refine wpAnyH_done (by kernel_rfl) ?_ _
      go_wp2_with fail
      go_ret2
      exact ⟨_, _, _, rfl, fun _ => hq, HG1.out.trans hx3⟩
  | false =>
  cases h2 : (lg.toList == [83, 52]) with
  | true =>
    have hrf : rfx lg = true := by unfold rfx isLg; simp [h1, h2]
    rw [hrf]
    clear hrf
    cases XC with
    | false =>
      go_enter Tryz.func16, Tryz.ntmps16
      go_wp2_with fail
      simp only [← hw1]
      clear hw1
      refine (KO.out _ HG1.out).mono ?_
      rintro e x0 ⟨rfl, hg0⟩
      replace hL := hL.grew hg0
      replace hR := hR.grew hg0
      go_wp2_with fail
      have hd0 := hg0.drew
      replace hL := hL.grew (Grew.refl _).drew
      replace hR := hR.grew (Grew.refl _).drew
      refine wp_region_held_drew (S := fun w' => Grew w1 w') (by kernel_rfl) hd0 (fun hHeld => ?_)
      refine wpAnyH_take (i := 0) (oi := ?on11141) (v := ?vn11141) ?hin11141 ?an11141 ?bn11141 ?cn11141 ?qn11141 (Or.inl ⟨?dn11141, ?hyn11141⟩) hHeld ?restn11141
      case hin11141 => (simp only [List.getElem?_toArray, List.getElem?_cons_zero]; exact rfl)
      case an11141 => kernel_rfl
      case bn11141 => kernel_rfl
      case cn11141 => kernel_rfl
      case qn11141 => exact fun _ _ _ h => h
      case dn11141 => rfl
      case hyn11141 => (intro z hSw; (try dsimp only at hSw); go_simp; (try with_reducible rfl))
      try simp only [Act.put, List.setIfInBounds_toArray, List.set_cons_zero, List.set_cons_succ]
      refine wpAnyH_take (i := 1) (oi := ?on11142) (v := ?vn11142) ?hin11142 ?an11142 ?bn11142 ?cn11142 ?qn11142 (Or.inl ⟨?dn11142, ?hyn11142⟩) hHeld ?restn11142
      case hin11142 => (simp only [List.getElem?_toArray, List.getElem?_cons_succ, List.getElem?_cons_zero]; exact rfl)
      case an11142 => kernel_rfl
      case bn11142 => kernel_rfl
      case cn11142 => kernel_rfl
      case qn11142 => exact fun _ _ _ h => h
      case dn11142 => rfl
      case hyn11142 => (intro z hSw; (try dsimp only at hSw); go_simp; (try with_reducible rfl))
      try simp only [Act.put, List.setIfInBounds_toArray, List.set_cons_zero, List.set_cons_succ]
      refine wpAnyH_take (i := 2) (oi := ?on11143) (v := ?vn11143) ?hin11143 ?an11143 ?bn11143 ?cn11143 ?qn11143 (Or.inl ⟨?dn11143, ?hyn11143⟩) hHeld ?restn11143
      case hin11143 => (simp only [List.getElem?_toArray, List.getElem?_cons_succ, List.getElem?_cons_zero]; exact rfl)
      case an11143 => kernel_rfl
      case bn11143 => kernel_rfl
      case cn11143 => kernel_rfl
      case qn11143 => exact fun _ _ _ h => h
      case dn11143 => rfl
      case hyn11143 => (intro z hSw; (try dsimp only at hSw); go_simp; (try with_reducible rfl))
      try simp only [Act.put, List.setIfInBounds_toArray, List.set_cons_zero, List.set_cons_succ]
      refine wpAnyH_take (i := 3) (oi := ?on11144) (v := ?vn11144) ?hin11144 ?an11144 ?bn11144 ?cn11144 ?qn11144 (Or.inl ⟨?dn11144, ?hyn11144⟩) hHeld ?restn11144
      case hin11144 => (simp only [List.getElem?_toArray, List.getElem?_cons_succ, List.getElem?_cons_zero]; exact rfl)
      case an11144 => kernel_rfl
      case bn11144 => kernel_rfl
      case cn11144 => kernel_rfl
      case qn11144 => exact fun _ _ _ h => h
      case dn11144 => rfl
      case hyn11144 => (intro z hSw; (try dsimp only at hSw); go_simp; (try with_reducible rfl))
      try simp only [Act.put, List.setIfInBounds_toArray, List.set_cons_zero, List.set_cons_succ]
      refine wpAnyH_take (i := 4) (oi := ?on11145) (v := ?vn11145) ?hin11145 ?an11145 ?bn11145 ?cn11145 ?qn11145 (Or.inl ⟨?dn11145, ?hyn11145⟩) hHeld ?restn11145
      case hin11145 => (simp only [List.getElem?_toArray, List.getElem?_cons_succ, List.getElem?_cons_zero]; exact rfl)
      case an11145 => kernel_rfl
      case bn11145 => kernel_rfl
      case cn11145 => kernel_rfl
      case qn11145 => exact fun _ _ _ h => h
      case dn11145 => rfl
      case hyn11145 => (intro z hSw; (try dsimp only at hSw); go_simp; (try with_reducible rfl))
      try simp only [Act.put, List.setIfInBounds_toArray, List.set_cons_zero, List.set_cons_succ]
      refine wpAnyH_take (i := 8) (oi := ?on11146) (v := ?vn11146) ?hin11146 ?an11146 ?bn11146 ?cn11146 ?qn11146 (Or.inl ⟨?dn11146, ?hyn11146⟩) hHeld ?restn11146
      case hin11146 => (simp only [List.getElem?_toArray, List.getElem?_cons_succ, List.getElem?_cons_zero]; exact rfl)
      case an11146 => kernel_rfl
      case bn11146 => kernel_rfl
      case cn11146 => kernel_rfl
      case qn11146 => exact fun _ _ _ h => h
      case dn11146 => rfl
      case hyn11146 => (intro z hSw; (try dsimp only at hSw); go_simp; (try with_reducible rfl))
      try simp only [Act.put, List.setIfInBounds_toArray, List.set_cons_zero, List.set_cons_succ]
      refine wpAnyH_ready (rs := [5]) (by kernel_rfl) (by simp) ?_
      refine AllReadyH.cons (o := ?on11147) ?hin11147 ?restn11147 AllReadyH.nil
      case hin11147 => (simp only [List.getElem?_toArray, List.getElem?_cons_succ, List.getElem?_cons_zero]; exact rfl)
      intro K hK
      go_simp
      go_at_call 32
      refine (ins_sl _ _ _ R XA _ hR (by have := HnR.out; omega)).mono ?_
      rintro e x1 ⟨Bs1, ms1, ds1, rfl, hs1, hgx1⟩
      have hx1 : Grew w1 x1 := hd0.trans hgx1
      replace hL := hL.grew hgx1
      replace hR := hR.grew hgx1
      refine hK.out _ _ ?_ (fun hHeld => ?_)
      · (try dsimp only); first | with_reducible assumption | exact hx1
      clear hK K
      try simp only [Act.put, List.setIfInBounds_toArray, List.set_cons_zero, List.set_cons_succ]
      refine wpAnyH_ready (rs := [6]) (by kernel_rfl) (by simp) ?_
      refine AllReadyH.cons (o := ?on11148) ?hin11148 ?restn11148 AllReadyH.nil
      case hin11148 => (simp only [List.getElem?_toArray, List.getElem?_cons_succ, List.getElem?_cons_zero]; exact rfl)
      intro K hK
      go_simp
      obtain ⟨x2, hwx2⟩ : ∃ W, W = x1.alloc (.cells #[.slice A1 n1 c1, .slice Bs1 ms1 ds1] 22) := ⟨_, rfl⟩
      have hgx2 : Grew x1 x2 := by rw [hwx2]; exact (Grew.refl _).alloc _
      have hx2 : Grew w1 x2 := hx1.trans hgx2
      have hlit : x2.heap[x1.heap.size]? = some (.cells #[.slice A1 n1 c1, .slice Bs1 ms1 ds1] 22 (0, 0)) := by rw [hwx2]; exact blk_new _ _
      try simp only [← hwx2]
      clear hwx2
      replace hL := hL.grew hgx2
      replace hR := hR.grew hgx2
      replace hs1 := hs1.grew hgx2
      refine hK.out _ _ ?_ (fun hHeld => ?_)
      · (try dsimp only); first | with_reducible assumption | exact hx2
      clear hK K
      try simp only [Act.put, List.setIfInBounds_toArray, List.set_cons_zero, List.set_cons_succ]
      refine wpAnyH_ready (rs := [7]) (by kernel_rfl) (by simp) ?_
      refine AllReadyH.cons (o := ?on11149) ?hin11149 ?restn11149 AllReadyH.nil
      case hin11149 => (simp only [List.getElem?_toArray, List.getElem?_cons_succ, List.getElem?_cons_zero]; exact rfl)
      intro K hK
      go_simp
      have hsd := sdR_one hlit hL hs1
      have hll : ∀ x ∈ ([(L, (insA R XA))] : List Ms), x.1.length ≤ 1048576 ∧ x.2.length ≤ 1048576 := by
        intro x hx; simp only [List.mem_cons, List.not_mem_nil, or_false] at hx; rcases hx with rfl; refine ⟨?_, ?_⟩ <;> dsimp only
        · exact (by have := HnL.out; omega)
        · exact (by have := insA_len R XA; have := HnR.out; omega)
      go_at_call 31
      refine (sq_sl _ 2 [(L, (insA R XA))] _ rfl hsd (by simp) hll).mono ?_
      rintro e x3 ⟨Bq, mq, dq, rfl, hq, hgx3⟩
      have hx3 : Grew w1 x3 := hx2.trans hgx3
      replace hL := hL.grew hgx3
      replace hR := hR.grew hgx3
      replace hs1 := hs1.grew hgx3
      refine hK.out _ _ ?_ (fun hHeld => ?_)
      · (try dsimp only); first | with_reducible assumption | exact hx3
      clear hK K
      try simp only [Act.put, List.setIfInBounds_toArray, List.set_cons_zero, List.set_cons_succ]
      refine wpAnyH_take (i := 9) (oi := ?on11150) (v := ?vn11150) ?hin11150 ?an11150 ?bn11150 ?cn11150 ?qn11150 (Or.inl ⟨?dn11150, ?hyn11150⟩) hHeld ?restn11150
      case hin11150 => (simp only [List.getElem?_toArray, List.getElem?_cons_succ, List.getElem?_cons_zero]; exact rfl)
      case an11150 => kernel_rfl
      case bn11150 => kernel_rfl
      case cn11150 => kernel_rfl
      case qn11150 => exact fun _ _ _ h => h
      case dn11150 => rfl
      case hyn11150 => (intro z hSw; (try dsimp only at hSw); go_simp; (try with_reducible rfl))
      try simp only [Act.put, List.setIfInBounds_toArray, List.set_cons_zero, List.set_cons_succ]
      refine wpAnyH_take (i := 10) (oi := ?on11151) ?hin11151 ?an11151 ?bn11151 ?cn11151 ?qn11151 (Or.inr ⟨?dn11151, rfl⟩) hHeld ?restn11151
      case hin11151 => (simp only [List.getElem?_toArray, List.getElem?_cons_succ, List.getElem?_cons_zero]; exact rfl)
      case an11151 => kernel_rfl
      case bn11151 => kernel_rfl
      case cn11151 => kernel_rfl
      case qn11151 => exact fun _ _ _ h => h
      case dn11151 => rfl
      try simp only [Act.put, List.setIfInBounds_toArray, List.set_cons_zero, List.set_cons_succ]
      refine wpAnyH_take (i := 11) (oi := ?on11152) (v := ?vn11152) ?hin11152 ?an11152 ?bn11152 ?cn11152 ?qn11152 (Or.inl ⟨?dn11152, ?hyn11152⟩) hHeld ?restn11152
      case hin11152 => (simp only [List.getElem?_toArray, List.getElem?_cons_succ, List.getElem?_cons_zero]; exact rfl)
      case an11152 => kernel_rfl
      case bn11152 => kernel_rfl
      case cn11152 => kernel_rfl
      case qn11152 => exact fun _ _ _ h => h
      case dn11152 => rfl
      case hyn11152 => (intro z hSw; (try dsimp only at hSw); go_simp; (try with_reducible rfl))
      try simp only [Act.put, List.setIfInBounds_toArray, List.set_cons_zero, List.set_cons_succ]
      refine wpAnyH_take (i := 12) (oi := ?on11153) (v := ?vn11153) ?hin11153 ?an11153 ?bn11153 ?cn11153 ?qn11153 (Or.inl ⟨?dn11153, ?hyn11153⟩) hHeld ?restn11153
      case hin11153 => (simp only [List.getElem?_toArray, List.getElem?_cons_succ, List.getElem?_cons_zero]; exact rfl)
      case an11153 => kernel_rfl
      case bn11153 => kernel_rfl
      case cn11153 => kernel_rfl
      case qn11153 => exact fun _ _ _ h => h
      case dn11153 => rfl
      case hyn11153 => (intro z hSw; (try dsimp only at hSw); go_simp; (try with_reducible rfl))
      try simp only [Act.put, List.setIfInBounds_toArray, List.set_cons_zero, List.set_cons_succ]
      refine wpAnyH_take (i := 13) (oi := ?on11154) (v := ?vn11154) ?hin11154 ?an11154 ?bn11154 ?cn11154 ?qn11154 (Or.inl ⟨?dn11154, ?hyn11154⟩) hHeld ?restn11154
      case hin11154 => (simp only [List.getElem?_toArray, List.getElem?_cons_succ, List.getElem?_cons_zero]; exact rfl)
      case an11154 => kernel_rfl
      case bn11154 => kernel_rfl
      case cn11154 => kernel_rfl
      case qn11154 => exact fun _ _ _ h => h
      case dn11154 => rfl
      case hyn11154 => (intro z hSw; (try dsimp only at hSw); go_simp; (try with_reducible rfl))
      try simp only [Act.put, List.setIfInBounds_toArray, List.set_cons_zero, List.set_cons_succ]
      refine wpAnyH_done (by kernel_rfl) ?_ _
      go_wp2_with fail
      go_ret2
      exact ⟨_, _, _, rfl, fun _ => hq, HG1.out.trans hx3⟩
    | true =>
      go_enter Tryz.func16, Tryz.ntmps16
      go_wp2_with fail
      simp only [← hw1]
      clear hw1
      refine (KO.out _ HG1.out).mono ?_
      rintro e x0 ⟨rfl, hg0⟩
      replace hL := hL.grew hg0
      replace hR := hR.grew hg0
      go_wp2_with fail
      have hd0 := hg0.drew
      replace hL := hL.grew (Grew.refl _).drew
      replace hR := hR.grew (Grew.refl _).drew
      refine wp_region_held_drew (S := fun w' => Grew w1 w') (by kernel_rfl) hd0 (fun hHeld => ?_)
      refine wpAnyH_take (i := 0) (oi := ?on12155) (v := ?vn12155) ?hin12155 ?an12155 ?bn12155 ?cn12155 ?qn12155 (Or.inl ⟨?dn12155, ?hyn12155⟩) hHeld ?restn12155
      case hin12155 => (simp only [List.getElem?_toArray, List.getElem?_cons_zero]; exact rfl)
      case an12155 => kernel_rfl
      case bn12155 => kernel_rfl
      case cn12155 => kernel_rfl
      case qn12155 => exact fun _ _ _ h => h
      case dn12155 => rfl
      case hyn12155 => (intro z hSw; (try dsimp only at hSw); go_simp; (try with_reducible rfl))
      try simp only [Act.put, List.setIfInBounds_toArray, List.set_cons_zero, List.set_cons_succ]
      refine wpAnyH_take (i := 1) (oi := ?on12156) (v := ?vn12156) ?hin12156 ?an12156 ?bn12156 ?cn12156 ?qn12156 (Or.inl ⟨?dn12156, ?hyn12156⟩) hHeld ?restn12156
      case hin12156 => (simp only [List.getElem?_toArray, List.getElem?_cons_succ, List.getElem?_cons_zero]; exact rfl)
      case an12156 => kernel_rfl
      case bn12156 => kernel_rfl
      case cn12156 => kernel_rfl
      case qn12156 => exact fun _ _ _ h => h
      case dn12156 => rfl
      case hyn12156 => (intro z hSw; (try dsimp only at hSw); go_simp; (try with_reducible rfl))
      try simp only [Act.put, List.setIfInBounds_toArray, List.set_cons_zero, List.set_cons_succ]
      refine wpAnyH_take (i := 2) (oi := ?on12157) (v := ?vn12157) ?hin12157 ?an12157 ?bn12157 ?cn12157 ?qn12157 (Or.inl ⟨?dn12157, ?hyn12157⟩) hHeld ?restn12157
      case hin12157 => (simp only [List.getElem?_toArray, List.getElem?_cons_succ, List.getElem?_cons_zero]; exact rfl)
      case an12157 => kernel_rfl
      case bn12157 => kernel_rfl
      case cn12157 => kernel_rfl
      case qn12157 => exact fun _ _ _ h => h
      case dn12157 => rfl
      case hyn12157 => (intro z hSw; (try dsimp only at hSw); go_simp; (try with_reducible rfl))
      try simp only [Act.put, List.setIfInBounds_toArray, List.set_cons_zero, List.set_cons_succ]
      refine wpAnyH_take (i := 3) (oi := ?on12158) (v := ?vn12158) ?hin12158 ?an12158 ?bn12158 ?cn12158 ?qn12158 (Or.inl ⟨?dn12158, ?hyn12158⟩) hHeld ?restn12158
      case hin12158 => (simp only [List.getElem?_toArray, List.getElem?_cons_succ, List.getElem?_cons_zero]; exact rfl)
      case an12158 => kernel_rfl
      case bn12158 => kernel_rfl
      case cn12158 => kernel_rfl
      case qn12158 => exact fun _ _ _ h => h
      case dn12158 => rfl
      case hyn12158 => (intro z hSw; (try dsimp only at hSw); go_simp; (try with_reducible rfl))
      try simp only [Act.put, List.setIfInBounds_toArray, List.set_cons_zero, List.set_cons_succ]
      refine wpAnyH_take (i := 4) (oi := ?on12159) (v := ?vn12159) ?hin12159 ?an12159 ?bn12159 ?cn12159 ?qn12159 (Or.inl ⟨?dn12159, ?hyn12159⟩) hHeld ?restn12159
      case hin12159 => (simp only [List.getElem?_toArray, List.getElem?_cons_succ, List.getElem?_cons_zero]; exact rfl)
      case an12159 => kernel_rfl
      case bn12159 => kernel_rfl
      case cn12159 => kernel_rfl
      case qn12159 => exact fun _ _ _ h => h
      case dn12159 => rfl
      case hyn12159 => (intro z hSw; (try dsimp only at hSw); go_simp; (try with_reducible rfl))
      try simp only [Act.put, List.setIfInBounds_toArray, List.set_cons_zero, List.set_cons_succ]
      refine wpAnyH_take (i := 8) (oi := ?on12160) (v := ?vn12160) ?hin12160 ?an12160 ?bn12160 ?cn12160 ?qn12160 (Or.inl ⟨?dn12160, ?hyn12160⟩) hHeld ?restn12160
      case hin12160 => (simp only [List.getElem?_toArray, List.getElem?_cons_succ, List.getElem?_cons_zero]; exact rfl)
      case an12160 => kernel_rfl
      case bn12160 => kernel_rfl
      case cn12160 => kernel_rfl
      case qn12160 => exact fun _ _ _ h => h
      case dn12160 => rfl
      case hyn12160 => (intro z hSw; (try dsimp only at hSw); go_simp; (try with_reducible rfl))
      try simp only [Act.put, List.setIfInBounds_toArray, List.set_cons_zero, List.set_cons_succ]
      refine wpAnyH_ready (rs := [5]) (by kernel_rfl) (by simp) ?_
      refine AllReadyH.cons (o := ?on12161) ?hin12161 ?restn12161 AllReadyH.nil
      case hin12161 => (simp only [List.getElem?_toArray, List.getElem?_cons_succ, List.getElem?_cons_zero]; exact rfl)
      intro K hK
      go_simp
      go_at_call 32
      refine (ins_sl _ _ _ R XA _ hR (by have := HnR.out; omega)).mono ?_
      rintro e x1 ⟨Bs1, ms1, ds1, rfl, hs1, hgx1⟩
      have hx1 : Grew w1 x1 := hd0.trans hgx1
      replace hL := hL.grew hgx1
      replace hR := hR.grew hgx1
      refine hK.out _ _ ?_ (fun hHeld => ?_)
      · (try dsimp only); first | with_reducible assumption | exact hx1
      clear hK K
      try simp only [Act.put, List.setIfInBounds_toArray, List.set_cons_zero, List.set_cons_succ]
      refine wpAnyH_ready (rs := [6]) (by kernel_rfl) (by simp) ?_
      refine AllReadyH.cons (o := ?on12162) ?hin12162 ?restn12162 AllReadyH.nil
      case hin12162 => (simp only [List.getElem?_toArray, List.getElem?_cons_succ, List.getElem?_cons_zero]; exact rfl)
      intro K hK
      go_simp
      obtain ⟨x2, hwx2⟩ : ∃ W, W = x1.alloc (.cells #[.slice A1 n1 c1, .slice Bs1 ms1 ds1] 22) := ⟨_, rfl⟩
      have hgx2 : Grew x1 x2 := by rw [hwx2]; exact (Grew.refl _).alloc _
      have hx2 : Grew w1 x2 := hx1.trans hgx2
      have hlit : x2.heap[x1.heap.size]? = some (.cells #[.slice A1 n1 c1, .slice Bs1 ms1 ds1] 22 (0, 0)) := by rw [hwx2]; exact blk_new _ _
      try simp only [← hwx2]
      clear hwx2
      replace hL := hL.grew hgx2
      replace hR := hR.grew hgx2
      replace hs1 := hs1.grew hgx2
      refine hK.out _ _ ?_ (fun hHeld => ?_)
      · (try dsimp only); first | with_reducible assumption | exact hx2
      clear hK K
      try simp only [Act.put, List.setIfInBounds_toArray, List.set_cons_zero, List.set_cons_succ]
      refine wpAnyH_ready (rs := [7]) (by kernel_rfl) (by simp) ?_
      refine AllReadyH.cons (o := ?on12163) ?hin12163 ?restn12163 AllReadyH.nil
      case hin12163 => (simp only [List.getElem?_toArray, List.getElem?_cons_succ, List.getElem?_cons_zero]; exact rfl)
      intro K hK
      go_simp
      have hsd := sdR_one hlit hL hs1
      have hll : ∀ x ∈ ([(L, (insA R XA))] : List Ms), x.1.length ≤ 1048576 ∧ x.2.length ≤ 1048576 := by
        intro x hx; simp only [List.mem_cons, List.not_mem_nil, or_false] at hx; rcases hx with rfl; refine ⟨?_, ?_⟩ <;> dsimp only
        · exact (by have := HnL.out; omega)
        · exact (by have := insA_len R XA; have := HnR.out; omega)
      go_at_call 31
      refine (sq_sl _ 2 [(L, (insA R XA))] _ rfl hsd (by simp) hll).mono ?_
      rintro e x3 ⟨Bq, mq, dq, rfl, hq, hgx3⟩
      have hx3 : Grew w1 x3 := hx2.trans hgx3
      replace hL := hL.grew hgx3
      replace hR := hR.grew hgx3
      replace hs1 := hs1.grew hgx3
      refine hK.out _ _ ?_ (fun hHeld => ?_)
      · (try dsimp only); first | with_reducible assumption | exact hx3
      clear hK K
      try simp only [Act.put, List.setIfInBounds_toArray, List.set_cons_zero, List.set_cons_succ]
      refine wpAnyH_take (i := 9) (oi := ?on12164) (v := ?vn12164) ?hin12164 ?an12164 ?bn12164 ?cn12164 ?qn12164 (Or.inl ⟨?dn12164, ?hyn12164⟩) hHeld ?restn12164
      case hin12164 => (simp only [List.getElem?_toArray, List.getElem?_cons_succ, List.getElem?_cons_zero]; exact rfl)
      case an12164 => kernel_rfl
      case bn12164 => kernel_rfl
      case cn12164 => kernel_rfl
      case qn12164 => exact fun _ _ _ h => h
      case dn12164 => rfl
      case hyn12164 => (intro z hSw; (try dsimp only at hSw); go_simp; (try with_reducible rfl))
      try simp only [Act.put, List.setIfInBounds_toArray, List.set_cons_zero, List.set_cons_succ]
      refine wpAnyH_take (i := 10) (oi := ?on12165) (v := ?vn12165) ?hin12165 ?an12165 ?bn12165 ?cn12165 ?qn12165 (Or.inl ⟨?dn12165, ?hyn12165⟩) hHeld ?restn12165
      case hin12165 => (simp only [List.getElem?_toArray, List.getElem?_cons_succ, List.getElem?_cons_zero]; exact rfl)
      case an12165 => kernel_rfl
      case bn12165 => kernel_rfl
      case cn12165 => kernel_rfl
      case qn12165 => exact fun _ _ _ h => h
      case dn12165 => rfl
      case hyn12165 => (intro z hSw; (try dsimp only at hSw); go_simp; (try with_reducible rfl))
      try simp only [Act.put, List.setIfInBounds_toArray, List.set_cons_zero, List.set_cons_succ]
      refine wpAnyH_take (i := 11) (oi := ?on12166) (v := ?vn12166) ?hin12166 ?an12166 ?bn12166 ?cn12166 ?qn12166 (Or.inl ⟨?dn12166, ?hyn12166⟩) hHeld ?restn12166
      case hin12166 => (simp only [List.getElem?_toArray, List.getElem?_cons_succ, List.getElem?_cons_zero]; exact rfl)
      case an12166 => kernel_rfl
      case bn12166 => kernel_rfl
      case cn12166 => kernel_rfl
      case qn12166 => exact fun _ _ _ h => h
      case dn12166 => rfl
      case hyn12166 => (intro z hSw; (try dsimp only at hSw); go_simp; (try with_reducible rfl))
      try simp only [Act.put, List.setIfInBounds_toArray, List.set_cons_zero, List.set_cons_succ]
      refine wpAnyH_take (i := 12) (oi := ?on12167) (v := ?vn12167) ?hin12167 ?an12167 ?bn12167 ?cn12167 ?qn12167 (Or.inl ⟨?dn12167, ?hyn12167⟩) hHeld ?restn12167
      case hin12167 => (simp only [List.getElem?_toArray, List.getElem?_cons_succ, List.getElem?_cons_zero]; exact rfl)
      case an12167 => kernel_rfl
      case bn12167 => kernel_rfl
      case cn12167 => kernel_rfl
      case qn12167 => exact fun _ _ _ h => h
      case dn12167 => rfl
      case hyn12167 => (intro z hSw; (try dsimp only at hSw); go_simp; (try with_reducible rfl))
      try simp only [Act.put, List.setIfInBounds_toArray, List.set_cons_zero, List.set_cons_succ]
      refine wpAnyH_take (i := 13) (oi := ?on12168) (v := ?vn12168) ?hin12168 ?an12168 ?bn12168 ?cn12168 ?qn12168 (Or.inl ⟨?dn12168, ?hyn12168⟩) hHeld ?restn12168
      case hin12168 => (simp only [List.getElem?_toArray, List.getElem?_cons_succ, List.getElem?_cons_zero]; exact rfl)
      case an12168 => kernel_rfl
      case bn12168 => kernel_rfl
      case cn12168 => kernel_rfl
      case qn12168 => exact fun _ _ _ h => h
      case dn12168 => rfl
      case hyn12168 => (intro z hSw; (try dsimp only at hSw); go_simp; (try with_reducible rfl))
      try simp only [Act.put, List.setIfInBounds_toArray, List.set_cons_zero, List.set_cons_succ]
      refine wpAnyH_done (by kernel_rfl) ?_ _
      go_wp2_with fail
      go_ret2
      exact ⟨_, _, _, rfl, fun _ => hq, HG1.out.trans hx3⟩
  | false =>
  cases h3 : (lg.toList == [83, 53]) with
  | true =>
    have hrf : rfx lg = true := by unfold rfx isLg; simp [h1, h2, h3]
    rw [hrf]
    clear hrf
    cases XC with
    | false =>
      go_enter Tryz.func16, Tryz.ntmps16
      go_wp2_with fail
      simp only [← hw1]
      clear hw1
      refine (KO.out _ HG1.out).mono ?_
      rintro e x0 ⟨rfl, hg0⟩
      replace hL := hL.grew hg0
      replace hR := hR.grew hg0
      go_wp2_with fail
      have hd0 := hg0.drew
      replace hL := hL.grew (Grew.refl _).drew
      replace hR := hR.grew (Grew.refl _).drew
      refine wp_region_held_drew (S := fun w' => Grew w1 w') (by kernel_rfl) hd0 (fun hHeld => ?_)
      refine wpAnyH_take (i := 0) (oi := ?on13169) (v := ?vn13169) ?hin13169 ?an13169 ?bn13169 ?cn13169 ?qn13169 (Or.inl ⟨?dn13169, ?hyn13169⟩) hHeld ?restn13169
      case hin13169 => (simp only [List.getElem?_toArray, List.getElem?_cons_zero]; exact rfl)
      case an13169 => kernel_rfl
      case bn13169 => kernel_rfl
      case cn13169 => kernel_rfl
      case qn13169 => exact fun _ _ _ h => h
      case dn13169 => rfl
      case hyn13169 => (intro z hSw; (try dsimp only at hSw); go_simp; (try with_reducible rfl))
      try simp only [Act.put, List.setIfInBounds_toArray, List.set_cons_zero, List.set_cons_succ]
      refine wpAnyH_take (i := 1) (oi := ?on13170) (v := ?vn13170) ?hin13170 ?an13170 ?bn13170 ?cn13170 ?qn13170 (Or.inl ⟨?dn13170, ?hyn13170⟩) hHeld ?restn13170
      case hin13170 => (simp only [List.getElem?_toArray, List.getElem?_cons_succ, List.getElem?_cons_zero]; exact rfl)
      case an13170 => kernel_rfl
      case bn13170 => kernel_rfl
      case cn13170 => kernel_rfl
      case qn13170 => exact fun _ _ _ h => h
      case dn13170 => rfl
      case hyn13170 => (intro z hSw; (try dsimp only at hSw); go_simp; (try with_reducible rfl))
      try simp only [Act.put, List.setIfInBounds_toArray, List.set_cons_zero, List.set_cons_succ]
      refine wpAnyH_take (i := 2) (oi := ?on13171) (v := ?vn13171) ?hin13171 ?an13171 ?bn13171 ?cn13171 ?qn13171 (Or.inl ⟨?dn13171, ?hyn13171⟩) hHeld ?restn13171
      case hin13171 => (simp only [List.getElem?_toArray, List.getElem?_cons_succ, List.getElem?_cons_zero]; exact rfl)
      case an13171 => kernel_rfl
      case bn13171 => kernel_rfl
      case cn13171 => kernel_rfl
      case qn13171 => exact fun _ _ _ h => h
      case dn13171 => rfl
      case hyn13171 => (intro z hSw; (try dsimp only at hSw); go_simp; (try with_reducible rfl))
      try simp only [Act.put, List.setIfInBounds_toArray, List.set_cons_zero, List.set_cons_succ]
      refine wpAnyH_take (i := 3) (oi := ?on13172) (v := ?vn13172) ?hin13172 ?an13172 ?bn13172 ?cn13172 ?qn13172 (Or.inl ⟨?dn13172, ?hyn13172⟩) hHeld ?restn13172
      case hin13172 => (simp only [List.getElem?_toArray, List.getElem?_cons_succ, List.getElem?_cons_zero]; exact rfl)
      case an13172 => kernel_rfl
      case bn13172 => kernel_rfl
      case cn13172 => kernel_rfl
      case qn13172 => exact fun _ _ _ h => h
      case dn13172 => rfl
      case hyn13172 => (intro z hSw; (try dsimp only at hSw); go_simp; (try with_reducible rfl))
      try simp only [Act.put, List.setIfInBounds_toArray, List.set_cons_zero, List.set_cons_succ]
      refine wpAnyH_take (i := 4) (oi := ?on13173) (v := ?vn13173) ?hin13173 ?an13173 ?bn13173 ?cn13173 ?qn13173 (Or.inl ⟨?dn13173, ?hyn13173⟩) hHeld ?restn13173
      case hin13173 => (simp only [List.getElem?_toArray, List.getElem?_cons_succ, List.getElem?_cons_zero]; exact rfl)
      case an13173 => kernel_rfl
      case bn13173 => kernel_rfl
      case cn13173 => kernel_rfl
      case qn13173 => exact fun _ _ _ h => h
      case dn13173 => rfl
      case hyn13173 => (intro z hSw; (try dsimp only at hSw); go_simp; (try with_reducible rfl))
      try simp only [Act.put, List.setIfInBounds_toArray, List.set_cons_zero, List.set_cons_succ]
      refine wpAnyH_take (i := 8) (oi := ?on13174) (v := ?vn13174) ?hin13174 ?an13174 ?bn13174 ?cn13174 ?qn13174 (Or.inl ⟨?dn13174, ?hyn13174⟩) hHeld ?restn13174
      case hin13174 => (simp only [List.getElem?_toArray, List.getElem?_cons_succ, List.getElem?_cons_zero]; exact rfl)
      case an13174 => kernel_rfl
      case bn13174 => kernel_rfl
      case cn13174 => kernel_rfl
      case qn13174 => exact fun _ _ _ h => h
      case dn13174 => rfl
      case hyn13174 => (intro z hSw; (try dsimp only at hSw); go_simp; (try with_reducible rfl))
      try simp only [Act.put, List.setIfInBounds_toArray, List.set_cons_zero, List.set_cons_succ]
      refine wpAnyH_ready (rs := [5]) (by kernel_rfl) (by simp) ?_
      refine AllReadyH.cons (o := ?on13175) ?hin13175 ?restn13175 AllReadyH.nil
      case hin13175 => (simp only [List.getElem?_toArray, List.getElem?_cons_succ, List.getElem?_cons_zero]; exact rfl)
      intro K hK
      go_simp
      go_at_call 32
      refine (ins_sl _ _ _ R XA _ hR (by have := HnR.out; omega)).mono ?_
      rintro e x1 ⟨Bs1, ms1, ds1, rfl, hs1, hgx1⟩
      have hx1 : Grew w1 x1 := hd0.trans hgx1
      replace hL := hL.grew hgx1
      replace hR := hR.grew hgx1
      refine hK.out _ _ ?_ (fun hHeld => ?_)
      · (try dsimp only); first | with_reducible assumption | exact hx1
      clear hK K
      try simp only [Act.put, List.setIfInBounds_toArray, List.set_cons_zero, List.set_cons_succ]
      refine wpAnyH_ready (rs := [6]) (by kernel_rfl) (by simp) ?_
      refine AllReadyH.cons (o := ?on13176) ?hin13176 ?restn13176 AllReadyH.nil
      case hin13176 => (simp only [List.getElem?_toArray, List.getElem?_cons_succ, List.getElem?_cons_zero]; exact rfl)
      intro K hK
      go_simp
      obtain ⟨x2, hwx2⟩ : ∃ W, W = x1.alloc (.cells #[.slice A1 n1 c1, .slice Bs1 ms1 ds1] 22) := ⟨_, rfl⟩
      have hgx2 : Grew x1 x2 := by rw [hwx2]; exact (Grew.refl _).alloc _
      have hx2 : Grew w1 x2 := hx1.trans hgx2
      have hlit : x2.heap[x1.heap.size]? = some (.cells #[.slice A1 n1 c1, .slice Bs1 ms1 ds1] 22 (0, 0)) := by rw [hwx2]; exact blk_new _ _
      try simp only [← hwx2]
      clear hwx2
      replace hL := hL.grew hgx2
      replace hR := hR.grew hgx2
      replace hs1 := hs1.grew hgx2
      refine hK.out _ _ ?_ (fun hHeld => ?_)
      · (try dsimp only); first | with_reducible assumption | exact hx2
      clear hK K
      try simp only [Act.put, List.setIfInBounds_toArray, List.set_cons_zero, List.set_cons_succ]
      refine wpAnyH_ready (rs := [7]) (by kernel_rfl) (by simp) ?_
      refine AllReadyH.cons (o := ?on13177) ?hin13177 ?restn13177 AllReadyH.nil
      case hin13177 => (simp only [List.getElem?_toArray, List.getElem?_cons_succ, List.getElem?_cons_zero]; exact rfl)
      intro K hK
      go_simp
      have hsd := sdR_one hlit hL hs1
      have hll : ∀ x ∈ ([(L, (insA R XA))] : List Ms), x.1.length ≤ 1048576 ∧ x.2.length ≤ 1048576 := by
        intro x hx; simp only [List.mem_cons, List.not_mem_nil, or_false] at hx; rcases hx with rfl; refine ⟨?_, ?_⟩ <;> dsimp only
        · exact (by have := HnL.out; omega)
        · exact (by have := insA_len R XA; have := HnR.out; omega)
      go_at_call 31
      refine (sq_sl _ 2 [(L, (insA R XA))] _ rfl hsd (by simp) hll).mono ?_
      rintro e x3 ⟨Bq, mq, dq, rfl, hq, hgx3⟩
      have hx3 : Grew w1 x3 := hx2.trans hgx3
      replace hL := hL.grew hgx3
      replace hR := hR.grew hgx3
      replace hs1 := hs1.grew hgx3
      refine hK.out _ _ ?_ (fun hHeld => ?_)
      · (try dsimp only); first | with_reducible assumption | exact hx3
      clear hK K
      try simp only [Act.put, List.setIfInBounds_toArray, List.set_cons_zero, List.set_cons_succ]
      refine wpAnyH_take (i := 9) (oi := ?on13178) (v := ?vn13178) ?hin13178 ?an13178 ?bn13178 ?cn13178 ?qn13178 (Or.inl ⟨?dn13178, ?hyn13178⟩) hHeld ?restn13178
      case hin13178 => (simp only [List.getElem?_toArray, List.getElem?_cons_succ, List.getElem?_cons_zero]; exact rfl)
      case an13178 => kernel_rfl
      case bn13178 => kernel_rfl
      case cn13178 => kernel_rfl
      case qn13178 => exact fun _ _ _ h => h
      case dn13178 => rfl
      case hyn13178 => (intro z hSw; (try dsimp only at hSw); go_simp; (try with_reducible rfl))
      try simp only [Act.put, List.setIfInBounds_toArray, List.set_cons_zero, List.set_cons_succ]
      refine wpAnyH_take (i := 10) (oi := ?on13179) ?hin13179 ?an13179 ?bn13179 ?cn13179 ?qn13179 (Or.inr ⟨?dn13179, rfl⟩) hHeld ?restn13179
      case hin13179 => (simp only [List.getElem?_toArray, List.getElem?_cons_succ, List.getElem?_cons_zero]; exact rfl)
      case an13179 => kernel_rfl
      case bn13179 => kernel_rfl
      case cn13179 => kernel_rfl
      case qn13179 => exact fun _ _ _ h => h
      case dn13179 => rfl
      try simp only [Act.put, List.setIfInBounds_toArray, List.set_cons_zero, List.set_cons_succ]
      refine wpAnyH_take (i := 11) (oi := ?on13180) (v := ?vn13180) ?hin13180 ?an13180 ?bn13180 ?cn13180 ?qn13180 (Or.inl ⟨?dn13180, ?hyn13180⟩) hHeld ?restn13180
      case hin13180 => (simp only [List.getElem?_toArray, List.getElem?_cons_succ, List.getElem?_cons_zero]; exact rfl)
      case an13180 => kernel_rfl
      case bn13180 => kernel_rfl
      case cn13180 => kernel_rfl
      case qn13180 => exact fun _ _ _ h => h
      case dn13180 => rfl
      case hyn13180 => (intro z hSw; (try dsimp only at hSw); go_simp; (try with_reducible rfl))
      try simp only [Act.put, List.setIfInBounds_toArray, List.set_cons_zero, List.set_cons_succ]
      refine wpAnyH_take (i := 12) (oi := ?on13181) (v := ?vn13181) ?hin13181 ?an13181 ?bn13181 ?cn13181 ?qn13181 (Or.inl ⟨?dn13181, ?hyn13181⟩) hHeld ?restn13181
      case hin13181 => (simp only [List.getElem?_toArray, List.getElem?_cons_succ, List.getElem?_cons_zero]; exact rfl)
      case an13181 => kernel_rfl
      case bn13181 => kernel_rfl
      case cn13181 => kernel_rfl
      case qn13181 => exact fun _ _ _ h => h
      case dn13181 => rfl
      case hyn13181 => (intro z hSw; (try dsimp only at hSw); go_simp; (try with_reducible rfl))
      try simp only [Act.put, List.setIfInBounds_toArray, List.set_cons_zero, List.set_cons_succ]
      refine wpAnyH_take (i := 13) (oi := ?on13182) (v := ?vn13182) ?hin13182 ?an13182 ?bn13182 ?cn13182 ?qn13182 (Or.inl ⟨?dn13182, ?hyn13182⟩) hHeld ?restn13182
      case hin13182 => (simp only [List.getElem?_toArray, List.getElem?_cons_succ, List.getElem?_cons_zero]; exact rfl)
      case an13182 => kernel_rfl
      case bn13182 => kernel_rfl
      case cn13182 => kernel_rfl
      case qn13182 => exact fun _ _ _ h => h
      case dn13182 => rfl
      case hyn13182 => (intro z hSw; (try dsimp only at hSw); go_simp; (try with_reducible rfl))
      try simp only [Act.put, List.setIfInBounds_toArray, List.set_cons_zero, List.set_cons_succ]
      refine wpAnyH_done (by kernel_rfl) ?_ _
      go_wp2_with fail
      go_ret2
      exact ⟨_, _, _, rfl, fun _ => hq, HG1.out.trans hx3⟩
    | true =>
      go_enter Tryz.func16, Tryz.ntmps16
      go_wp2_with fail
      simp only [← hw1]
      clear hw1
      refine (KO.out _ HG1.out).mono ?_
      rintro e x0 ⟨rfl, hg0⟩
      replace hL := hL.grew hg0
      replace hR := hR.grew hg0
      go_wp2_with fail
      have hd0 := hg0.drew
      replace hL := hL.grew (Grew.refl _).drew
      replace hR := hR.grew (Grew.refl _).drew
      refine wp_region_held_drew (S := fun w' => Grew w1 w') (by kernel_rfl) hd0 (fun hHeld => ?_)
      refine wpAnyH_take (i := 0) (oi := ?on14183) (v := ?vn14183) ?hin14183 ?an14183 ?bn14183 ?cn14183 ?qn14183 (Or.inl ⟨?dn14183, ?hyn14183⟩) hHeld ?restn14183
      case hin14183 => (simp only [List.getElem?_toArray, List.getElem?_cons_zero]; exact rfl)
      case an14183 => kernel_rfl
      case bn14183 => kernel_rfl
      case cn14183 => kernel_rfl
      case qn14183 => exact fun _ _ _ h => h
      case dn14183 => rfl
      case hyn14183 => (intro z hSw; (try dsimp only at hSw); go_simp; (try with_reducible rfl))
      try simp only [Act.put, List.setIfInBounds_toArray, List.set_cons_zero, List.set_cons_succ]
      refine wpAnyH_take (i := 1) (oi := ?on14184) (v := ?vn14184) ?hin14184 ?an14184 ?bn14184 ?cn14184 ?qn14184 (Or.inl ⟨?dn14184, ?hyn14184⟩) hHeld ?restn14184
      case hin14184 => (simp only [List.getElem?_toArray, List.getElem?_cons_succ, List.getElem?_cons_zero]; exact rfl)
      case an14184 => kernel_rfl
      case bn14184 => kernel_rfl
      case cn14184 => kernel_rfl
      case qn14184 => exact fun _ _ _ h => h
      case dn14184 => rfl
      case hyn14184 => (intro z hSw; (try dsimp only at hSw); go_simp; (try with_reducible rfl))
      try simp only [Act.put, List.setIfInBounds_toArray, List.set_cons_zero, List.set_cons_succ]
      refine wpAnyH_take (i := 2) (oi := ?on14185) (v := ?vn14185) ?hin14185 ?an14185 ?bn14185 ?cn14185 ?qn14185 (Or.inl ⟨?dn14185, ?hyn14185⟩) hHeld ?restn14185
      case hin14185 => (simp only [List.getElem?_toArray, List.getElem?_cons_succ, List.getElem?_cons_zero]; exact rfl)
      case an14185 => kernel_rfl
      case bn14185 => kernel_rfl
      case cn14185 => kernel_rfl
      case qn14185 => exact fun _ _ _ h => h
      case dn14185 => rfl
      case hyn14185 => (intro z hSw; (try dsimp only at hSw); go_simp; (try with_reducible rfl))
      try simp only [Act.put, List.setIfInBounds_toArray, List.set_cons_zero, List.set_cons_succ]
      refine wpAnyH_take (i := 3) (oi := ?on14186) (v := ?vn14186) ?hin14186 ?an14186 ?bn14186 ?cn14186 ?qn14186 (Or.inl ⟨?dn14186, ?hyn14186⟩) hHeld ?restn14186
      case hin14186 => (simp only [List.getElem?_toArray, List.getElem?_cons_succ, List.getElem?_cons_zero]; exact rfl)
      case an14186 => kernel_rfl
      case bn14186 => kernel_rfl
      case cn14186 => kernel_rfl
      case qn14186 => exact fun _ _ _ h => h
      case dn14186 => rfl
      case hyn14186 => (intro z hSw; (try dsimp only at hSw); go_simp; (try with_reducible rfl))
      try simp only [Act.put, List.setIfInBounds_toArray, List.set_cons_zero, List.set_cons_succ]
      refine wpAnyH_take (i := 4) (oi := ?on14187) (v := ?vn14187) ?hin14187 ?an14187 ?bn14187 ?cn14187 ?qn14187 (Or.inl ⟨?dn14187, ?hyn14187⟩) hHeld ?restn14187
      case hin14187 => (simp only [List.getElem?_toArray, List.getElem?_cons_succ, List.getElem?_cons_zero]; exact rfl)
      case an14187 => kernel_rfl
      case bn14187 => kernel_rfl
      case cn14187 => kernel_rfl
      case qn14187 => exact fun _ _ _ h => h
      case dn14187 => rfl
      case hyn14187 => (intro z hSw; (try dsimp only at hSw); go_simp; (try with_reducible rfl))
      try simp only [Act.put, List.setIfInBounds_toArray, List.set_cons_zero, List.set_cons_succ]
      refine wpAnyH_take (i := 8) (oi := ?on14188) (v := ?vn14188) ?hin14188 ?an14188 ?bn14188 ?cn14188 ?qn14188 (Or.inl ⟨?dn14188, ?hyn14188⟩) hHeld ?restn14188
      case hin14188 => (simp only [List.getElem?_toArray, List.getElem?_cons_succ, List.getElem?_cons_zero]; exact rfl)
      case an14188 => kernel_rfl
      case bn14188 => kernel_rfl
      case cn14188 => kernel_rfl
      case qn14188 => exact fun _ _ _ h => h
      case dn14188 => rfl
      case hyn14188 => (intro z hSw; (try dsimp only at hSw); go_simp; (try with_reducible rfl))
      try simp only [Act.put, List.setIfInBounds_toArray, List.set_cons_zero, List.set_cons_succ]
      refine wpAnyH_ready (rs := [5]) (by kernel_rfl) (by simp) ?_
      refine AllReadyH.cons (o := ?on14189) ?hin14189 ?restn14189 AllReadyH.nil
      case hin14189 => (simp only [List.getElem?_toArray, List.getElem?_cons_succ, List.getElem?_cons_zero]; exact rfl)
      intro K hK
      go_simp
      go_at_call 32
      refine (ins_sl _ _ _ R XA _ hR (by have := HnR.out; omega)).mono ?_
      rintro e x1 ⟨Bs1, ms1, ds1, rfl, hs1, hgx1⟩
      have hx1 : Grew w1 x1 := hd0.trans hgx1
      replace hL := hL.grew hgx1
      replace hR := hR.grew hgx1
      refine hK.out _ _ ?_ (fun hHeld => ?_)
      · (try dsimp only); first | with_reducible assumption | exact hx1
      clear hK K
      try simp only [Act.put, List.setIfInBounds_toArray, List.set_cons_zero, List.set_cons_succ]
      refine wpAnyH_ready (rs := [6]) (by kernel_rfl) (by simp) ?_
      refine AllReadyH.cons (o := ?on14190) ?hin14190 ?restn14190 AllReadyH.nil
      case hin14190 => (simp only [List.getElem?_toArray, List.getElem?_cons_succ, List.getElem?_cons_zero]; exact rfl)
      intro K hK
      go_simp
      obtain ⟨x2, hwx2⟩ : ∃ W, W = x1.alloc (.cells #[.slice A1 n1 c1, .slice Bs1 ms1 ds1] 22) := ⟨_, rfl⟩
      have hgx2 : Grew x1 x2 := by rw [hwx2]; exact (Grew.refl _).alloc _
      have hx2 : Grew w1 x2 := hx1.trans hgx2
      have hlit : x2.heap[x1.heap.size]? = some (.cells #[.slice A1 n1 c1, .slice Bs1 ms1 ds1] 22 (0, 0)) := by rw [hwx2]; exact blk_new _ _
      try simp only [← hwx2]
      clear hwx2
      replace hL := hL.grew hgx2
      replace hR := hR.grew hgx2
      replace hs1 := hs1.grew hgx2
      refine hK.out _ _ ?_ (fun hHeld => ?_)
      · (try dsimp only); first | with_reducible assumption | exact hx2
      clear hK K
      try simp only [Act.put, List.setIfInBounds_toArray, List.set_cons_zero, List.set_cons_succ]
      refine wpAnyH_ready (rs := [7]) (by kernel_rfl) (by simp) ?_
      refine AllReadyH.cons (o := ?on14191) ?hin14191 ?restn14191 AllReadyH.nil
      case hin14191 => (simp only [List.getElem?_toArray, List.getElem?_cons_succ, List.getElem?_cons_zero]; exact rfl)
      intro K hK
      go_simp
      have hsd := sdR_one hlit hL hs1
      have hll : ∀ x ∈ ([(L, (insA R XA))] : List Ms), x.1.length ≤ 1048576 ∧ x.2.length ≤ 1048576 := by
        intro x hx; simp only [List.mem_cons, List.not_mem_nil, or_false] at hx; rcases hx with rfl; refine ⟨?_, ?_⟩ <;> dsimp only
        · exact (by have := HnL.out; omega)
        · exact (by have := insA_len R XA; have := HnR.out; omega)
      go_at_call 31
      refine (sq_sl _ 2 [(L, (insA R XA))] _ rfl hsd (by simp) hll).mono ?_
      rintro e x3 ⟨Bq, mq, dq, rfl, hq, hgx3⟩
      have hx3 : Grew w1 x3 := hx2.trans hgx3
      replace hL := hL.grew hgx3
      replace hR := hR.grew hgx3
      replace hs1 := hs1.grew hgx3
      refine hK.out _ _ ?_ (fun hHeld => ?_)
      · (try dsimp only); first | with_reducible assumption | exact hx3
      clear hK K
      try simp only [Act.put, List.setIfInBounds_toArray, List.set_cons_zero, List.set_cons_succ]
      refine wpAnyH_take (i := 9) (oi := ?on14192) (v := ?vn14192) ?hin14192 ?an14192 ?bn14192 ?cn14192 ?qn14192 (Or.inl ⟨?dn14192, ?hyn14192⟩) hHeld ?restn14192
      case hin14192 => (simp only [List.getElem?_toArray, List.getElem?_cons_succ, List.getElem?_cons_zero]; exact rfl)
      case an14192 => kernel_rfl
      case bn14192 => kernel_rfl
      case cn14192 => kernel_rfl
      case qn14192 => exact fun _ _ _ h => h
      case dn14192 => rfl
      case hyn14192 => (intro z hSw; (try dsimp only at hSw); go_simp; (try with_reducible rfl))
      try simp only [Act.put, List.setIfInBounds_toArray, List.set_cons_zero, List.set_cons_succ]
      refine wpAnyH_take (i := 10) (oi := ?on14193) (v := ?vn14193) ?hin14193 ?an14193 ?bn14193 ?cn14193 ?qn14193 (Or.inl ⟨?dn14193, ?hyn14193⟩) hHeld ?restn14193
      case hin14193 => (simp only [List.getElem?_toArray, List.getElem?_cons_succ, List.getElem?_cons_zero]; exact rfl)
      case an14193 => kernel_rfl
      case bn14193 => kernel_rfl
      case cn14193 => kernel_rfl
      case qn14193 => exact fun _ _ _ h => h
      case dn14193 => rfl
      case hyn14193 => (intro z hSw; (try dsimp only at hSw); go_simp; (try with_reducible rfl))
      try simp only [Act.put, List.setIfInBounds_toArray, List.set_cons_zero, List.set_cons_succ]
      refine wpAnyH_take (i := 11) (oi := ?on14194) (v := ?vn14194) ?hin14194 ?an14194 ?bn14194 ?cn14194 ?qn14194 (Or.inl ⟨?dn14194, ?hyn14194⟩) hHeld ?restn14194
      case hin14194 => (simp only [List.getElem?_toArray, List.getElem?_cons_succ, List.getElem?_cons_zero]; exact rfl)
      case an14194 => kernel_rfl
      case bn14194 => kernel_rfl
      case cn14194 => kernel_rfl
      case qn14194 => exact fun _ _ _ h => h
      case dn14194 => rfl
      case hyn14194 => (intro z hSw; (try dsimp only at hSw); go_simp; (try with_reducible rfl))
      try simp only [Act.put, List.setIfInBounds_toArray, List.set_cons_zero, List.set_cons_succ]
      refine wpAnyH_take (i := 12) (oi := ?on14195) (v := ?vn14195) ?hin14195 ?an14195 ?bn14195 ?cn14195 ?qn14195 (Or.inl ⟨?dn14195, ?hyn14195⟩) hHeld ?restn14195
      case hin14195 => (simp only [List.getElem?_toArray, List.getElem?_cons_succ, List.getElem?_cons_zero]; exact rfl)
      case an14195 => kernel_rfl
      case bn14195 => kernel_rfl
      case cn14195 => kernel_rfl
      case qn14195 => exact fun _ _ _ h => h
      case dn14195 => rfl
      case hyn14195 => (intro z hSw; (try dsimp only at hSw); go_simp; (try with_reducible rfl))
      try simp only [Act.put, List.setIfInBounds_toArray, List.set_cons_zero, List.set_cons_succ]
      refine wpAnyH_take (i := 13) (oi := ?on14196) (v := ?vn14196) ?hin14196 ?an14196 ?bn14196 ?cn14196 ?qn14196 (Or.inl ⟨?dn14196, ?hyn14196⟩) hHeld ?restn14196
      case hin14196 => (simp only [List.getElem?_toArray, List.getElem?_cons_succ, List.getElem?_cons_zero]; exact rfl)
      case an14196 => kernel_rfl
      case bn14196 => kernel_rfl
      case cn14196 => kernel_rfl
      case qn14196 => exact fun _ _ _ h => h
      case dn14196 => rfl
      case hyn14196 => (intro z hSw; (try dsimp only at hSw); go_simp; (try with_reducible rfl))
      try simp only [Act.put, List.setIfInBounds_toArray, List.set_cons_zero, List.set_cons_succ]
      refine wpAnyH_done (by kernel_rfl) ?_ _
      go_wp2_with fail
      go_ret2
      exact ⟨_, _, _, rfl, fun _ => hq, HG1.out.trans hx3⟩
  | false =>
  have hrf : rfx lg = false := by unfold rfx isLg; simp [h1, h2, h3]
  rw [hrf]
  clear hrf
  cases XC with
  | false =>
    go_enter Tryz.func16, Tryz.ntmps16
    go_wp2_with fail
    simp only [← hw1]
    clear hw1
    refine (KO.out _ HG1.out).mono ?_
    rintro e x0 ⟨rfl, hg0⟩
    replace hL := hL.grew hg0
    replace hR := hR.grew hg0
    go_wp2_with fail
    have hd0 := hg0.drew
    replace hL := hL.grew (Grew.refl _).drew
    replace hR := hR.grew (Grew.refl _).drew
    refine wp_region_held_drew (S := fun w' => Grew w1 w') (by kernel_rfl) hd0 (fun hHeld => ?_)
    refine wpAnyH_take (i := 0) (oi := ?on15197) (v := ?vn15197) ?hin15197 ?an15197 ?bn15197 ?cn15197 ?qn15197 (Or.inl ⟨?dn15197, ?hyn15197⟩) hHeld ?restn15197
    case hin15197 => (simp only [List.getElem?_toArray, List.getElem?_cons_zero]; exact rfl)
    case an15197 => kernel_rfl
    case bn15197 => kernel_rfl
    case cn15197 => kernel_rfl
    case qn15197 => exact fun _ _ _ h => h
    case dn15197 => rfl
    case hyn15197 => (intro z hSw; (try dsimp only at hSw); go_simp; (try with_reducible rfl))
    try simp only [Act.put, List.setIfInBounds_toArray, List.set_cons_zero, List.set_cons_succ]
    refine wpAnyH_take (i := 1) (oi := ?on15198) (v := ?vn15198) ?hin15198 ?an15198 ?bn15198 ?cn15198 ?qn15198 (Or.inl ⟨?dn15198, ?hyn15198⟩) hHeld ?restn15198
    case hin15198 => (simp only [List.getElem?_toArray, List.getElem?_cons_succ, List.getElem?_cons_zero]; exact rfl)
    case an15198 => kernel_rfl
    case bn15198 => kernel_rfl
    case cn15198 => kernel_rfl
    case qn15198 => exact fun _ _ _ h => h
    case dn15198 => rfl
    case hyn15198 => (intro z hSw; (try dsimp only at hSw); go_simp; (try with_reducible rfl))
    try simp only [Act.put, List.setIfInBounds_toArray, List.set_cons_zero, List.set_cons_succ]
    refine wpAnyH_take (i := 2) (oi := ?on15199) (v := ?vn15199) ?hin15199 ?an15199 ?bn15199 ?cn15199 ?qn15199 (Or.inl ⟨?dn15199, ?hyn15199⟩) hHeld ?restn15199
    case hin15199 => (simp only [List.getElem?_toArray, List.getElem?_cons_succ, List.getElem?_cons_zero]; exact rfl)
    case an15199 => kernel_rfl
    case bn15199 => kernel_rfl
    case cn15199 => kernel_rfl
    case qn15199 => exact fun _ _ _ h => h
    case dn15199 => rfl
    case hyn15199 => (intro z hSw; (try dsimp only at hSw); go_simp; (try with_reducible rfl))
    try simp only [Act.put, List.setIfInBounds_toArray, List.set_cons_zero, List.set_cons_succ]
    refine wpAnyH_take (i := 3) (oi := ?on15200) (v := ?vn15200) ?hin15200 ?an15200 ?bn15200 ?cn15200 ?qn15200 (Or.inl ⟨?dn15200, ?hyn15200⟩) hHeld ?restn15200
    case hin15200 => (simp only [List.getElem?_toArray, List.getElem?_cons_succ, List.getElem?_cons_zero]; exact rfl)
    case an15200 => kernel_rfl
    case bn15200 => kernel_rfl
    case cn15200 => kernel_rfl
    case qn15200 => exact fun _ _ _ h => h
    case dn15200 => rfl
    case hyn15200 => (intro z hSw; (try dsimp only at hSw); go_simp; (try with_reducible rfl))
    try simp only [Act.put, List.setIfInBounds_toArray, List.set_cons_zero, List.set_cons_succ]
    refine wpAnyH_take (i := 4) (oi := ?on15201) (v := ?vn15201) ?hin15201 ?an15201 ?bn15201 ?cn15201 ?qn15201 (Or.inl ⟨?dn15201, ?hyn15201⟩) hHeld ?restn15201
    case hin15201 => (simp only [List.getElem?_toArray, List.getElem?_cons_succ, List.getElem?_cons_zero]; exact rfl)
    case an15201 => kernel_rfl
    case bn15201 => kernel_rfl
    case cn15201 => kernel_rfl
    case qn15201 => exact fun _ _ _ h => h
    case dn15201 => rfl
    case hyn15201 => (intro z hSw; (try dsimp only at hSw); go_simp; (try with_reducible rfl))
    try simp only [Act.put, List.setIfInBounds_toArray, List.set_cons_zero, List.set_cons_succ]
    refine wpAnyH_take (i := 8) (oi := ?on15202) (v := ?vn15202) ?hin15202 ?an15202 ?bn15202 ?cn15202 ?qn15202 (Or.inl ⟨?dn15202, ?hyn15202⟩) hHeld ?restn15202
    case hin15202 => (simp only [List.getElem?_toArray, List.getElem?_cons_succ, List.getElem?_cons_zero]; exact rfl)
    case an15202 => kernel_rfl
    case bn15202 => kernel_rfl
    case cn15202 => kernel_rfl
    case qn15202 => exact fun _ _ _ h => h
    case dn15202 => rfl
    case hyn15202 => (intro z hSw; (try dsimp only at hSw); go_simp; (try with_reducible rfl))
    try simp only [Act.put, List.setIfInBounds_toArray, List.set_cons_zero, List.set_cons_succ]
    refine wpAnyH_ready (rs := [5]) (by kernel_rfl) (by simp) ?_
    refine AllReadyH.cons (o := ?on15203) ?hin15203 ?restn15203 AllReadyH.nil
    case hin15203 => (simp only [List.getElem?_toArray, List.getElem?_cons_succ, List.getElem?_cons_zero]; exact rfl)
    intro K hK
    go_simp
    go_at_call 32
    refine (ins_sl _ _ _ R XA _ hR (by have := HnR.out; omega)).mono ?_
    rintro e x1 ⟨Bs1, ms1, ds1, rfl, hs1, hgx1⟩
    have hx1 : Grew w1 x1 := hd0.trans hgx1
    replace hL := hL.grew hgx1
    replace hR := hR.grew hgx1
    refine hK.out _ _ ?_ (fun hHeld => ?_)
    · (try dsimp only); first | with_reducible assumption | exact hx1
    clear hK K
    try simp only [Act.put, List.setIfInBounds_toArray, List.set_cons_zero, List.set_cons_succ]
    refine wpAnyH_ready (rs := [6]) (by kernel_rfl) (by simp) ?_
    refine AllReadyH.cons (o := ?on15204) ?hin15204 ?restn15204 AllReadyH.nil
    case hin15204 => (simp only [List.getElem?_toArray, List.getElem?_cons_succ, List.getElem?_cons_zero]; exact rfl)
    intro K hK
    go_simp
    obtain ⟨x2, hwx2⟩ : ∃ W, W = x1.alloc (.cells #[.slice A1 n1 c1, .slice Bs1 ms1 ds1] 22) := ⟨_, rfl⟩
    have hgx2 : Grew x1 x2 := by rw [hwx2]; exact (Grew.refl _).alloc _
    have hx2 : Grew w1 x2 := hx1.trans hgx2
    have hlit : x2.heap[x1.heap.size]? = some (.cells #[.slice A1 n1 c1, .slice Bs1 ms1 ds1] 22 (0, 0)) := by rw [hwx2]; exact blk_new _ _
    try simp only [← hwx2]
    clear hwx2
    replace hL := hL.grew hgx2
    replace hR := hR.grew hgx2
    replace hs1 := hs1.grew hgx2
    refine hK.out _ _ ?_ (fun hHeld => ?_)
    · (try dsimp only); first | with_reducible assumption | exact hx2
    clear hK K
    try simp only [Act.put, List.setIfInBounds_toArray, List.set_cons_zero, List.set_cons_succ]
    refine wpAnyH_ready (rs := [7]) (by kernel_rfl) (by simp) ?_
    refine AllReadyH.cons (o := ?on15205) ?hin15205 ?restn15205 AllReadyH.nil
    case hin15205 => (simp only [List.getElem?_toArray, List.getElem?_cons_succ, List.getElem?_cons_zero]; exact rfl)
    intro K hK
    go_simp
    have hsd := sdR_one hlit hL hs1
    have hll : ∀ x ∈ ([(L, (insA R XA))] : List Ms), x.1.length ≤ 1048576 ∧ x.2.length ≤ 1048576 := by
      intro x hx; simp only [List.mem_cons, List.not_mem_nil, or_false] at hx; rcases hx with rfl; refine ⟨?_, ?_⟩ <;> dsimp only
      · exact (by have := HnL.out; omega)
      · exact (by have := insA_len R XA; have := HnR.out; omega)
    go_at_call 31
    refine (sq_sl _ 2 [(L, (insA R XA))] _ rfl hsd (by simp) hll).mono ?_
    rintro e x3 ⟨Bq, mq, dq, rfl, hq, hgx3⟩
    have hx3 : Grew w1 x3 := hx2.trans hgx3
    replace hL := hL.grew hgx3
    replace hR := hR.grew hgx3
    replace hs1 := hs1.grew hgx3
    refine hK.out _ _ ?_ (fun hHeld => ?_)
    · (try dsimp only); first | with_reducible assumption | exact hx3
    clear hK K
    try simp only [Act.put, List.setIfInBounds_toArray, List.set_cons_zero, List.set_cons_succ]
    refine wpAnyH_take (i := 9) (oi := ?on15206) (v := ?vn15206) ?hin15206 ?an15206 ?bn15206 ?cn15206 ?qn15206 (Or.inl ⟨?dn15206, ?hyn15206⟩) hHeld ?restn15206
    case hin15206 => (simp only [List.getElem?_toArray, List.getElem?_cons_succ, List.getElem?_cons_zero]; exact rfl)
    case an15206 => kernel_rfl
    case bn15206 => kernel_rfl
    case cn15206 => kernel_rfl
    case qn15206 => exact fun _ _ _ h => h
    case dn15206 => rfl
    case hyn15206 => (intro z hSw; (try dsimp only at hSw); go_simp; (try with_reducible rfl))
    try simp only [Act.put, List.setIfInBounds_toArray, List.set_cons_zero, List.set_cons_succ]
    refine wpAnyH_take (i := 10) (oi := ?on15207) ?hin15207 ?an15207 ?bn15207 ?cn15207 ?qn15207 (Or.inr ⟨?dn15207, rfl⟩) hHeld ?restn15207
    case hin15207 => (simp only [List.getElem?_toArray, List.getElem?_cons_succ, List.getElem?_cons_zero]; exact rfl)
    case an15207 => kernel_rfl
    case bn15207 => kernel_rfl
    case cn15207 => kernel_rfl
    case qn15207 => exact fun _ _ _ h => h
    case dn15207 => rfl
    try simp only [Act.put, List.setIfInBounds_toArray, List.set_cons_zero, List.set_cons_succ]
    refine wpAnyH_take (i := 11) (oi := ?on15208) (v := ?vn15208) ?hin15208 ?an15208 ?bn15208 ?cn15208 ?qn15208 (Or.inl ⟨?dn15208, ?hyn15208⟩) hHeld ?restn15208
    case hin15208 => (simp only [List.getElem?_toArray, List.getElem?_cons_succ, List.getElem?_cons_zero]; exact rfl)
    case an15208 => kernel_rfl
    case bn15208 => kernel_rfl
    case cn15208 => kernel_rfl
    case qn15208 => exact fun _ _ _ h => h
    case dn15208 => rfl
    case hyn15208 => (intro z hSw; (try dsimp only at hSw); go_simp; (try with_reducible rfl))
    try simp only [Act.put, List.setIfInBounds_toArray, List.set_cons_zero, List.set_cons_succ]
    refine wpAnyH_take (i := 12) (oi := ?on15209) (v := ?vn15209) ?hin15209 ?an15209 ?bn15209 ?cn15209 ?qn15209 (Or.inl ⟨?dn15209, ?hyn15209⟩) hHeld ?restn15209
    case hin15209 => (simp only [List.getElem?_toArray, List.getElem?_cons_succ, List.getElem?_cons_zero]; exact rfl)
    case an15209 => kernel_rfl
    case bn15209 => kernel_rfl
    case cn15209 => kernel_rfl
    case qn15209 => exact fun _ _ _ h => h
    case dn15209 => rfl
    case hyn15209 => (intro z hSw; (try dsimp only at hSw); go_simp; (try with_reducible rfl))
    try simp only [Act.put, List.setIfInBounds_toArray, List.set_cons_zero, List.set_cons_succ]
    refine wpAnyH_take (i := 13) (oi := ?on15210) (v := ?vn15210) ?hin15210 ?an15210 ?bn15210 ?cn15210 ?qn15210 (Or.inl ⟨?dn15210, ?hyn15210⟩) hHeld ?restn15210
    case hin15210 => (simp only [List.getElem?_toArray, List.getElem?_cons_succ, List.getElem?_cons_zero]; exact rfl)
    case an15210 => kernel_rfl
    case bn15210 => kernel_rfl
    case cn15210 => kernel_rfl
    case qn15210 => exact fun _ _ _ h => h
    case dn15210 => rfl
    case hyn15210 => (intro z hSw; (try dsimp only at hSw); go_simp; (try with_reducible rfl))
    try simp only [Act.put, List.setIfInBounds_toArray, List.set_cons_zero, List.set_cons_succ]
    refine wpAnyH_done (by kernel_rfl) ?_ _
    go_wp2_with fail
    go_ret2
    exact ⟨_, _, _, rfl, fun _ => hq, HG1.out.trans hx3⟩
  | true =>
    go_enter Tryz.func16, Tryz.ntmps16
    go_wp2_with fail
    simp only [← hw1]
    clear hw1
    refine (KO.out _ HG1.out).mono ?_
    rintro e x0 ⟨rfl, hg0⟩
    replace hL := hL.grew hg0
    replace hR := hR.grew hg0
    go_wp2_with fail
    have hd0 := hg0.drew
    replace hL := hL.grew (Grew.refl _).drew
    replace hR := hR.grew (Grew.refl _).drew
    refine wp_region_held_drew (S := fun w' => Grew w1 w') (by kernel_rfl) hd0 (fun hHeld => ?_)
    refine wpAnyH_take (i := 0) (oi := ?on16211) (v := ?vn16211) ?hin16211 ?an16211 ?bn16211 ?cn16211 ?qn16211 (Or.inl ⟨?dn16211, ?hyn16211⟩) hHeld ?restn16211
    case hin16211 => (simp only [List.getElem?_toArray, List.getElem?_cons_zero]; exact rfl)
    case an16211 => kernel_rfl
    case bn16211 => kernel_rfl
    case cn16211 => kernel_rfl
    case qn16211 => exact fun _ _ _ h => h
    case dn16211 => rfl
    case hyn16211 => (intro z hSw; (try dsimp only at hSw); go_simp; (try with_reducible rfl))
    try simp only [Act.put, List.setIfInBounds_toArray, List.set_cons_zero, List.set_cons_succ]
    refine wpAnyH_take (i := 1) (oi := ?on16212) (v := ?vn16212) ?hin16212 ?an16212 ?bn16212 ?cn16212 ?qn16212 (Or.inl ⟨?dn16212, ?hyn16212⟩) hHeld ?restn16212
    case hin16212 => (simp only [List.getElem?_toArray, List.getElem?_cons_succ, List.getElem?_cons_zero]; exact rfl)
    case an16212 => kernel_rfl
    case bn16212 => kernel_rfl
    case cn16212 => kernel_rfl
    case qn16212 => exact fun _ _ _ h => h
    case dn16212 => rfl
    case hyn16212 => (intro z hSw; (try dsimp only at hSw); go_simp; (try with_reducible rfl))
    try simp only [Act.put, List.setIfInBounds_toArray, List.set_cons_zero, List.set_cons_succ]
    refine wpAnyH_take (i := 2) (oi := ?on16213) (v := ?vn16213) ?hin16213 ?an16213 ?bn16213 ?cn16213 ?qn16213 (Or.inl ⟨?dn16213, ?hyn16213⟩) hHeld ?restn16213
    case hin16213 => (simp only [List.getElem?_toArray, List.getElem?_cons_succ, List.getElem?_cons_zero]; exact rfl)
    case an16213 => kernel_rfl
    case bn16213 => kernel_rfl
    case cn16213 => kernel_rfl
    case qn16213 => exact fun _ _ _ h => h
    case dn16213 => rfl
    case hyn16213 => (intro z hSw; (try dsimp only at hSw); go_simp; (try with_reducible rfl))
    try simp only [Act.put, List.setIfInBounds_toArray, List.set_cons_zero, List.set_cons_succ]
    refine wpAnyH_take (i := 3) (oi := ?on16214) (v := ?vn16214) ?hin16214 ?an16214 ?bn16214 ?cn16214 ?qn16214 (Or.inl ⟨?dn16214, ?hyn16214⟩) hHeld ?restn16214
    case hin16214 => (simp only [List.getElem?_toArray, List.getElem?_cons_succ, List.getElem?_cons_zero]; exact rfl)
    case an16214 => kernel_rfl
    case bn16214 => kernel_rfl
    case cn16214 => kernel_rfl
    case qn16214 => exact fun _ _ _ h => h
    case dn16214 => rfl
    case hyn16214 => (intro z hSw; (try dsimp only at hSw); go_simp; (try with_reducible rfl))
    try simp only [Act.put, List.setIfInBounds_toArray, List.set_cons_zero, List.set_cons_succ]
    refine wpAnyH_take (i := 4) (oi := ?on16215) (v := ?vn16215) ?hin16215 ?an16215 ?bn16215 ?cn16215 ?qn16215 (Or.inl ⟨?dn16215, ?hyn16215⟩) hHeld ?restn16215
    case hin16215 => (simp only [List.getElem?_toArray, List.getElem?_cons_succ, List.getElem?_cons_zero]; exact rfl)
    case an16215 => kernel_rfl
    case bn16215 => kernel_rfl
    case cn16215 => kernel_rfl
    case qn16215 => exact fun _ _ _ h => h
    case dn16215 => rfl
    case hyn16215 => (intro z hSw; (try dsimp only at hSw); go_simp; (try with_reducible rfl))
    try simp only [Act.put, List.setIfInBounds_toArray, List.set_cons_zero, List.set_cons_succ]
    refine wpAnyH_take (i := 8) (oi := ?on16216) (v := ?vn16216) ?hin16216 ?an16216 ?bn16216 ?cn16216 ?qn16216 (Or.inl ⟨?dn16216, ?hyn16216⟩) hHeld ?restn16216
    case hin16216 => (simp only [List.getElem?_toArray, List.getElem?_cons_succ, List.getElem?_cons_zero]; exact rfl)
    case an16216 => kernel_rfl
    case bn16216 => kernel_rfl
    case cn16216 => kernel_rfl
    case qn16216 => exact fun _ _ _ h => h
    case dn16216 => rfl
    case hyn16216 => (intro z hSw; (try dsimp only at hSw); go_simp; (try with_reducible rfl))
    try simp only [Act.put, List.setIfInBounds_toArray, List.set_cons_zero, List.set_cons_succ]
    refine wpAnyH_ready (rs := [5]) (by kernel_rfl) (by simp) ?_
    refine AllReadyH.cons (o := ?on16217) ?hin16217 ?restn16217 AllReadyH.nil
    case hin16217 => (simp only [List.getElem?_toArray, List.getElem?_cons_succ, List.getElem?_cons_zero]; exact rfl)
    intro K hK
    go_simp
    go_at_call 32
    refine (ins_sl _ _ _ R XA _ hR (by have := HnR.out; omega)).mono ?_
    rintro e x1 ⟨Bs1, ms1, ds1, rfl, hs1, hgx1⟩
    have hx1 : Grew w1 x1 := hd0.trans hgx1
    replace hL := hL.grew hgx1
    replace hR := hR.grew hgx1
    refine hK.out _ _ ?_ (fun hHeld => ?_)
    · (try dsimp only); first | with_reducible assumption | exact hx1
    clear hK K
    try simp only [Act.put, List.setIfInBounds_toArray, List.set_cons_zero, List.set_cons_succ]
    refine wpAnyH_ready (rs := [6]) (by kernel_rfl) (by simp) ?_
    refine AllReadyH.cons (o := ?on16218) ?hin16218 ?restn16218 AllReadyH.nil
    case hin16218 => (simp only [List.getElem?_toArray, List.getElem?_cons_succ, List.getElem?_cons_zero]; exact rfl)
    intro K hK
    go_simp
    obtain ⟨x2, hwx2⟩ : ∃ W, W = x1.alloc (.cells #[.slice A1 n1 c1, .slice Bs1 ms1 ds1] 22) := ⟨_, rfl⟩
    have hgx2 : Grew x1 x2 := by rw [hwx2]; exact (Grew.refl _).alloc _
    have hx2 : Grew w1 x2 := hx1.trans hgx2
    have hlit : x2.heap[x1.heap.size]? = some (.cells #[.slice A1 n1 c1, .slice Bs1 ms1 ds1] 22 (0, 0)) := by rw [hwx2]; exact blk_new _ _
    try simp only [← hwx2]
    clear hwx2
    replace hL := hL.grew hgx2
    replace hR := hR.grew hgx2
    replace hs1 := hs1.grew hgx2
    refine hK.out _ _ ?_ (fun hHeld => ?_)
    · (try dsimp only); first | with_reducible assumption | exact hx2
    clear hK K
    try simp only [Act.put, List.setIfInBounds_toArray, List.set_cons_zero, List.set_cons_succ]
    refine wpAnyH_ready (rs := [7]) (by kernel_rfl) (by simp) ?_
    refine AllReadyH.cons (o := ?on16219) ?hin16219 ?restn16219 AllReadyH.nil
    case hin16219 => (simp only [List.getElem?_toArray, List.getElem?_cons_succ, List.getElem?_cons_zero]; exact rfl)
    intro K hK
    go_simp
    have hsd := sdR_one hlit hL hs1
    have hll : ∀ x ∈ ([(L, (insA R XA))] : List Ms), x.1.length ≤ 1048576 ∧ x.2.length ≤ 1048576 := by
      intro x hx; simp only [List.mem_cons, List.not_mem_nil, or_false] at hx; rcases hx with rfl; refine ⟨?_, ?_⟩ <;> dsimp only
      · exact (by have := HnL.out; omega)
      · exact (by have := insA_len R XA; have := HnR.out; omega)
    go_at_call 31
    refine (sq_sl _ 2 [(L, (insA R XA))] _ rfl hsd (by simp) hll).mono ?_
    rintro e x3 ⟨Bq, mq, dq, rfl, hq, hgx3⟩
    have hx3 : Grew w1 x3 := hx2.trans hgx3
    replace hL := hL.grew hgx3
    replace hR := hR.grew hgx3
    replace hs1 := hs1.grew hgx3
    refine hK.out _ _ ?_ (fun hHeld => ?_)
    · (try dsimp only); first | with_reducible assumption | exact hx3
    clear hK K
    try simp only [Act.put, List.setIfInBounds_toArray, List.set_cons_zero, List.set_cons_succ]
    refine wpAnyH_take (i := 9) (oi := ?on16220) (v := ?vn16220) ?hin16220 ?an16220 ?bn16220 ?cn16220 ?qn16220 (Or.inl ⟨?dn16220, ?hyn16220⟩) hHeld ?restn16220
    case hin16220 => (simp only [List.getElem?_toArray, List.getElem?_cons_succ, List.getElem?_cons_zero]; exact rfl)
    case an16220 => kernel_rfl
    case bn16220 => kernel_rfl
    case cn16220 => kernel_rfl
    case qn16220 => exact fun _ _ _ h => h
    case dn16220 => rfl
    case hyn16220 => (intro z hSw; (try dsimp only at hSw); go_simp; (try with_reducible rfl))
    try simp only [Act.put, List.setIfInBounds_toArray, List.set_cons_zero, List.set_cons_succ]
    refine wpAnyH_take (i := 10) (oi := ?on16221) (v := ?vn16221) ?hin16221 ?an16221 ?bn16221 ?cn16221 ?qn16221 (Or.inl ⟨?dn16221, ?hyn16221⟩) hHeld ?restn16221
    case hin16221 => (simp only [List.getElem?_toArray, List.getElem?_cons_succ, List.getElem?_cons_zero]; exact rfl)
    case an16221 => kernel_rfl
    case bn16221 => kernel_rfl
    case cn16221 => kernel_rfl
    case qn16221 => exact fun _ _ _ h => h
    case dn16221 => rfl
    case hyn16221 => (intro z hSw; (try dsimp only at hSw); go_simp; (try with_reducible rfl))
    try simp only [Act.put, List.setIfInBounds_toArray, List.set_cons_zero, List.set_cons_succ]
    refine wpAnyH_take (i := 11) (oi := ?on16222) (v := ?vn16222) ?hin16222 ?an16222 ?bn16222 ?cn16222 ?qn16222 (Or.inl ⟨?dn16222, ?hyn16222⟩) hHeld ?restn16222
    case hin16222 => (simp only [List.getElem?_toArray, List.getElem?_cons_succ, List.getElem?_cons_zero]; exact rfl)
    case an16222 => kernel_rfl
    case bn16222 => kernel_rfl
    case cn16222 => kernel_rfl
    case qn16222 => exact fun _ _ _ h => h
    case dn16222 => rfl
    case hyn16222 => (intro z hSw; (try dsimp only at hSw); go_simp; (try with_reducible rfl))
    try simp only [Act.put, List.setIfInBounds_toArray, List.set_cons_zero, List.set_cons_succ]
    refine wpAnyH_take (i := 12) (oi := ?on16223) (v := ?vn16223) ?hin16223 ?an16223 ?bn16223 ?cn16223 ?qn16223 (Or.inl ⟨?dn16223, ?hyn16223⟩) hHeld ?restn16223
    case hin16223 => (simp only [List.getElem?_toArray, List.getElem?_cons_succ, List.getElem?_cons_zero]; exact rfl)
    case an16223 => kernel_rfl
    case bn16223 => kernel_rfl
    case cn16223 => kernel_rfl
    case qn16223 => exact fun _ _ _ h => h
    case dn16223 => rfl
    case hyn16223 => (intro z hSw; (try dsimp only at hSw); go_simp; (try with_reducible rfl))
    try simp only [Act.put, List.setIfInBounds_toArray, List.set_cons_zero, List.set_cons_succ]
    refine wpAnyH_take (i := 13) (oi := ?on16224) (v := ?vn16224) ?hin16224 ?an16224 ?bn16224 ?cn16224 ?qn16224 (Or.inl ⟨?dn16224, ?hyn16224⟩) hHeld ?restn16224
    case hin16224 => (simp only [List.getElem?_toArray, List.getElem?_cons_succ, List.getElem?_cons_zero]; exact rfl)
    case an16224 => kernel_rfl
    case bn16224 => kernel_rfl
    case cn16224 => kernel_rfl
    case qn16224 => exact fun _ _ _ h => h
    case dn16224 => rfl
    case hyn16224 => (intro z hSw; (try dsimp only at hSw); go_simp; (try with_reducible rfl))
    try simp only [Act.put, List.setIfInBounds_toArray, List.set_cons_zero, List.set_cons_succ]
    refine wpAnyH_done (by kernel_rfl) ?_ _
    go_wp2_with fail
    go_ret2
    exact ⟨_, _, _, rfl, fun _ => hq, HG1.out.trans hx3⟩
end Go.Proofs.YtjcehejnolbkgaaGreat

/- l11Premises of the reference, the other rules. -/
namespace Go.Proofs.YtjcehejnolbkgaaGreat
open Go.RowKit
open Fm (Nd Tree)

theorem emp_lst : (⟨#[]⟩ : ByteArray).toList.isEmpty = true := by unfold ByteArray.toList ByteArray.toList.loop; rfl

set_option maxHeartbeats 8000000 in
set_option maxRecDepth 8192 in
theorem l11Prem_11 (lg m : ByteArray) (va vb : Value) (L R : List ByteArray) (w : World) (ha : Strs w va L) (hb : Strs w vb R) (hgL : ∀ i, i < L.length → gd (st L i) = true) (hgR : ∀ i, i < R.length → gd (st R i) = true) (hFL : Fits L) (hFR : Fits R) (hnL : L.length ≤ 16) (hnR : R.length ≤ 16) (hUL : Up L) (hUR : Up R) (hmz : m.size ≤ 1048576) :
    Calls Tryz.prog 16 #[.string lg, .int .i64 11, .agg #[va, vb], .string m] w (GivesPm w ([mpF lg L R m], (onF R m 5).2.2 || (onF L m 6).2.2)) := by
  have K5 := Lib.hid (fun W (hW : Grew w W) => l11On_c vb R m 5 W (hb.grew hW) hgR (by omega) hmz (by omega))
  have K6 := Lib.hid (fun W (hW : Grew w W) => l11On_c va L m 6 W (ha.grew hW) hgL (by omega) hmz (by omega))
  have KM := Lib.hid (fun (h : (onF R m 5).2.2 = true ∨ (onF L m 6).2.2 = true) W (hW : Grew w W) => l11Modal_c lg m va vb L R W (ha.grew hW) (hb.grew hW) hgL hgR hFL hFR hnL hnR hUL hUR (.inr (by
    rcases h with h | h
    · obtain ⟨_, h1, h2⟩ := on_v1 h (by omega)
      exact ⟨gd_memV hgR h1, .inl h2, hmz⟩
    · obtain ⟨_, h1, h2⟩ := on_v1 h (by omega)
      exact ⟨gd_memV hgL h1, .inr h2, hmz⟩)))
  obtain ⟨A1, c1, rfl⟩ := strs_slice ha
  obtain ⟨A2, c2, rfl⟩ := strs_slice hb
  obtain ⟨w1, hw1⟩ : ∃ w1, w1 = w.alloc (.cells #[.slice A1 L.length c1, .slice A2 R.length c2] 29) := ⟨_, rfl⟩
  have hg1 : Grew w w1 := by rw [hw1]; exact (Grew.refl w).alloc _
  have hb0 : w1.heap[w.heap.size]? = some (.cells #[.slice A1 L.length c1, .slice A2 R.length c2] 29 (0, 0)) := by rw [hw1]; exact blk_new w _
  have p0 : ∀ W, Grew w1 W → W.cell? ⟨w.heap.size, 0, none⟩ = some (.slice A1 L.length c1) := fun W hW => by rw [blk_cell ((hW.block (blk_lt hb0)).trans hb0)]; rfl
  have p1 : ∀ W, Grew w1 W → W.cell? ⟨w.heap.size, 1, none⟩ = some (.slice A2 R.length c2) := fun W hW => by rw [blk_cell ((hW.block (blk_lt hb0)).trans hb0)]; rfl
  have hL := ha.grew hg1
  have hR := hb.grew hg1
  have HG1 := Lib.hid hg1
  have r1 := Grew.refl w1
  have d1 := r1.drew
  clear ha hb hgL hgR hb0 hg1 hFL hFR hUL hUR
  have HnL := Lib.hid hnL
  have HnR := Lib.hid hnR
  generalize mpF lg L R m = X at *
  generalize onF R m 5 = Y5 at *
  obtain ⟨YA, YB, Y⟩ := Y5
  generalize onF L m 6 = Z6 at *
  obtain ⟨ZA, ZB, Z⟩ := Z6
  generalize hn1 : L.length = n1 at p0 hL hw1 K6 KM ⊢
  generalize hn2 : R.length = n2 at p1 hR hw1 K5 KM ⊢
  have HN1 := Lib.hid hn1
  have HN2 := Lib.hid hn2
  clear hn1 hn2 hnL hnR
  cases h1 : (lg.toList == [84]) with
  | true =>
    cases Y with
    | false =>
      cases Z with
      | false =>
        go_enter Tryz.func16, Tryz.ntmps16
        go_wp2_with fail
        simp only [← hw1]
        clear hw1
        refine (K5.out _ HG1.out).mono ?_
        rintro e x0 ⟨rfl, hg0⟩
        go_wp2_with fail
        refine (K6.out _ (HG1.out.trans hg0)).mono ?_
        rintro e x1 ⟨rfl, hg1⟩
        have h1x := hg0.trans hg1
        go_wp2_with fail
        go_ret2
        exact ⟨_, _, _, rfl, fun h => (by cases h), HG1.out.trans h1x⟩
      | true =>
        go_enter Tryz.func16, Tryz.ntmps16
        go_wp2_with fail
        simp only [← hw1]
        clear hw1
        refine (K5.out _ HG1.out).mono ?_
        rintro e x0 ⟨rfl, hg0⟩
        go_wp2_with fail
        refine (K6.out _ (HG1.out.trans hg0)).mono ?_
        rintro e x1 ⟨rfl, hg1⟩
        have h1x := hg0.trans hg1
        go_wp2_with fail
        refine (KM.out (by simp) _ (HG1.out.trans h1x)).mono ?_
        rintro e y ⟨B1, k1, e1, B2, k2, e2, rfl, hs1, hs2, hgy⟩
        have hy := h1x.trans hgy
        have hal := (Grew.refl y).alloc (.cells #[.slice B1 k1 e1, .slice B2 k2 e2] 29)
        have hq := rdM_one (x := X) (blk_new y (.cells #[.slice B1 k1 e1, .slice B2 k2 e2] 29)) (hs1.grew hal) (hs2.grew hal)
        go_wp2_with fail
        go_ret2
        exact ⟨_, _, _, rfl, fun _ => hq, HG1.out.trans (hy.trans hal)⟩
    | true =>
      cases Z with
      | false =>
        go_enter Tryz.func16, Tryz.ntmps16
        go_wp2_with fail
        simp only [← hw1]
        clear hw1
        refine (K5.out _ HG1.out).mono ?_
        rintro e x0 ⟨rfl, hg0⟩
        go_wp2_with fail
        refine (K6.out _ (HG1.out.trans hg0)).mono ?_
        rintro e x1 ⟨rfl, hg1⟩
        have h1x := hg0.trans hg1
        go_wp2_with fail
        refine (KM.out (by simp) _ (HG1.out.trans h1x)).mono ?_
        rintro e y ⟨B1, k1, e1, B2, k2, e2, rfl, hs1, hs2, hgy⟩
        have hy := h1x.trans hgy
        have hal := (Grew.refl y).alloc (.cells #[.slice B1 k1 e1, .slice B2 k2 e2] 29)
        have hq := rdM_one (x := X) (blk_new y (.cells #[.slice B1 k1 e1, .slice B2 k2 e2] 29)) (hs1.grew hal) (hs2.grew hal)
        go_wp2_with fail
        go_ret2
        exact ⟨_, _, _, rfl, fun _ => hq, HG1.out.trans (hy.trans hal)⟩
      | true =>
        go_enter Tryz.func16, Tryz.ntmps16
        go_wp2_with fail
        simp only [← hw1]
        clear hw1
        refine (K5.out _ HG1.out).mono ?_
        rintro e x0 ⟨rfl, hg0⟩
        go_wp2_with fail
        refine (K6.out _ (HG1.out.trans hg0)).mono ?_
        rintro e x1 ⟨rfl, hg1⟩
        have h1x := hg0.trans hg1
        go_wp2_with fail
        refine (KM.out (by simp) _ (HG1.out.trans h1x)).mono ?_
        rintro e y ⟨B1, k1, e1, B2, k2, e2, rfl, hs1, hs2, hgy⟩
        have hy := h1x.trans hgy
        have hal := (Grew.refl y).alloc (.cells #[.slice B1 k1 e1, .slice B2 k2 e2] 29)
        have hq := rdM_one (x := X) (blk_new y (.cells #[.slice B1 k1 e1, .slice B2 k2 e2] 29)) (hs1.grew hal) (hs2.grew hal)
        go_wp2_with fail
        go_ret2
        exact ⟨_, _, _, rfl, fun _ => hq, HG1.out.trans (hy.trans hal)⟩
  | false =>
  cases h2 : (lg.toList == [83, 52]) with
  | true =>
    cases Y with
    | false =>
      cases Z with
      | false =>
        go_enter Tryz.func16, Tryz.ntmps16
        go_wp2_with fail
        simp only [← hw1]
        clear hw1
        refine (K5.out _ HG1.out).mono ?_
        rintro e x0 ⟨rfl, hg0⟩
        go_wp2_with fail
        refine (K6.out _ (HG1.out.trans hg0)).mono ?_
        rintro e x1 ⟨rfl, hg1⟩
        have h1x := hg0.trans hg1
        go_wp2_with fail
        go_ret2
        exact ⟨_, _, _, rfl, fun h => (by cases h), HG1.out.trans h1x⟩
      | true =>
        go_enter Tryz.func16, Tryz.ntmps16
        go_wp2_with fail
        simp only [← hw1]
        clear hw1
        refine (K5.out _ HG1.out).mono ?_
        rintro e x0 ⟨rfl, hg0⟩
        go_wp2_with fail
        refine (K6.out _ (HG1.out.trans hg0)).mono ?_
        rintro e x1 ⟨rfl, hg1⟩
        have h1x := hg0.trans hg1
        go_wp2_with fail
        refine (KM.out (by simp) _ (HG1.out.trans h1x)).mono ?_
        rintro e y ⟨B1, k1, e1, B2, k2, e2, rfl, hs1, hs2, hgy⟩
        have hy := h1x.trans hgy
        have hal := (Grew.refl y).alloc (.cells #[.slice B1 k1 e1, .slice B2 k2 e2] 29)
        have hq := rdM_one (x := X) (blk_new y (.cells #[.slice B1 k1 e1, .slice B2 k2 e2] 29)) (hs1.grew hal) (hs2.grew hal)
        go_wp2_with fail
        go_ret2
        exact ⟨_, _, _, rfl, fun _ => hq, HG1.out.trans (hy.trans hal)⟩
    | true =>
      cases Z with
      | false =>
        go_enter Tryz.func16, Tryz.ntmps16
        go_wp2_with fail
        simp only [← hw1]
        clear hw1
        refine (K5.out _ HG1.out).mono ?_
        rintro e x0 ⟨rfl, hg0⟩
        go_wp2_with fail
        refine (K6.out _ (HG1.out.trans hg0)).mono ?_
        rintro e x1 ⟨rfl, hg1⟩
        have h1x := hg0.trans hg1
        go_wp2_with fail
        refine (KM.out (by simp) _ (HG1.out.trans h1x)).mono ?_
        rintro e y ⟨B1, k1, e1, B2, k2, e2, rfl, hs1, hs2, hgy⟩
        have hy := h1x.trans hgy
        have hal := (Grew.refl y).alloc (.cells #[.slice B1 k1 e1, .slice B2 k2 e2] 29)
        have hq := rdM_one (x := X) (blk_new y (.cells #[.slice B1 k1 e1, .slice B2 k2 e2] 29)) (hs1.grew hal) (hs2.grew hal)
        go_wp2_with fail
        go_ret2
        exact ⟨_, _, _, rfl, fun _ => hq, HG1.out.trans (hy.trans hal)⟩
      | true =>
        go_enter Tryz.func16, Tryz.ntmps16
        go_wp2_with fail
        simp only [← hw1]
        clear hw1
        refine (K5.out _ HG1.out).mono ?_
        rintro e x0 ⟨rfl, hg0⟩
        go_wp2_with fail
        refine (K6.out _ (HG1.out.trans hg0)).mono ?_
        rintro e x1 ⟨rfl, hg1⟩
        have h1x := hg0.trans hg1
        go_wp2_with fail
        refine (KM.out (by simp) _ (HG1.out.trans h1x)).mono ?_
        rintro e y ⟨B1, k1, e1, B2, k2, e2, rfl, hs1, hs2, hgy⟩
        have hy := h1x.trans hgy
        have hal := (Grew.refl y).alloc (.cells #[.slice B1 k1 e1, .slice B2 k2 e2] 29)
        have hq := rdM_one (x := X) (blk_new y (.cells #[.slice B1 k1 e1, .slice B2 k2 e2] 29)) (hs1.grew hal) (hs2.grew hal)
        go_wp2_with fail
        go_ret2
        exact ⟨_, _, _, rfl, fun _ => hq, HG1.out.trans (hy.trans hal)⟩
  | false =>
  cases h3 : (lg.toList == [83, 53]) with
  | true =>
    cases Y with
    | false =>
      cases Z with
      | false =>
        go_enter Tryz.func16, Tryz.ntmps16
        go_wp2_with fail
        simp only [← hw1]
        clear hw1
        refine (K5.out _ HG1.out).mono ?_
        rintro e x0 ⟨rfl, hg0⟩
        go_wp2_with fail
        refine (K6.out _ (HG1.out.trans hg0)).mono ?_
        rintro e x1 ⟨rfl, hg1⟩
        have h1x := hg0.trans hg1
        go_wp2_with fail
        go_ret2
        exact ⟨_, _, _, rfl, fun h => (by cases h), HG1.out.trans h1x⟩
      | true =>
        go_enter Tryz.func16, Tryz.ntmps16
        go_wp2_with fail
        simp only [← hw1]
        clear hw1
        refine (K5.out _ HG1.out).mono ?_
        rintro e x0 ⟨rfl, hg0⟩
        go_wp2_with fail
        refine (K6.out _ (HG1.out.trans hg0)).mono ?_
        rintro e x1 ⟨rfl, hg1⟩
        have h1x := hg0.trans hg1
        go_wp2_with fail
        refine (KM.out (by simp) _ (HG1.out.trans h1x)).mono ?_
        rintro e y ⟨B1, k1, e1, B2, k2, e2, rfl, hs1, hs2, hgy⟩
        have hy := h1x.trans hgy
        have hal := (Grew.refl y).alloc (.cells #[.slice B1 k1 e1, .slice B2 k2 e2] 29)
        have hq := rdM_one (x := X) (blk_new y (.cells #[.slice B1 k1 e1, .slice B2 k2 e2] 29)) (hs1.grew hal) (hs2.grew hal)
        go_wp2_with fail
        go_ret2
        exact ⟨_, _, _, rfl, fun _ => hq, HG1.out.trans (hy.trans hal)⟩
    | true =>
      cases Z with
      | false =>
        go_enter Tryz.func16, Tryz.ntmps16
        go_wp2_with fail
        simp only [← hw1]
        clear hw1
        refine (K5.out _ HG1.out).mono ?_
        rintro e x0 ⟨rfl, hg0⟩
        go_wp2_with fail
        refine (K6.out _ (HG1.out.trans hg0)).mono ?_
        rintro e x1 ⟨rfl, hg1⟩
        have h1x := hg0.trans hg1
        go_wp2_with fail
        refine (KM.out (by simp) _ (HG1.out.trans h1x)).mono ?_
        rintro e y ⟨B1, k1, e1, B2, k2, e2, rfl, hs1, hs2, hgy⟩
        have hy := h1x.trans hgy
        have hal := (Grew.refl y).alloc (.cells #[.slice B1 k1 e1, .slice B2 k2 e2] 29)
        have hq := rdM_one (x := X) (blk_new y (.cells #[.slice B1 k1 e1, .slice B2 k2 e2] 29)) (hs1.grew hal) (hs2.grew hal)
        go_wp2_with fail
        go_ret2
        exact ⟨_, _, _, rfl, fun _ => hq, HG1.out.trans (hy.trans hal)⟩
      | true =>
        go_enter Tryz.func16, Tryz.ntmps16
        go_wp2_with fail
        simp only [← hw1]
        clear hw1
        refine (K5.out _ HG1.out).mono ?_
        rintro e x0 ⟨rfl, hg0⟩
        go_wp2_with fail
        refine (K6.out _ (HG1.out.trans hg0)).mono ?_
        rintro e x1 ⟨rfl, hg1⟩
        have h1x := hg0.trans hg1
        go_wp2_with fail
        refine (KM.out (by simp) _ (HG1.out.trans h1x)).mono ?_
        rintro e y ⟨B1, k1, e1, B2, k2, e2, rfl, hs1, hs2, hgy⟩
        have hy := h1x.trans hgy
        have hal := (Grew.refl y).alloc (.cells #[.slice B1 k1 e1, .slice B2 k2 e2] 29)
        have hq := rdM_one (x := X) (blk_new y (.cells #[.slice B1 k1 e1, .slice B2 k2 e2] 29)) (hs1.grew hal) (hs2.grew hal)
        go_wp2_with fail
        go_ret2
        exact ⟨_, _, _, rfl, fun _ => hq, HG1.out.trans (hy.trans hal)⟩
  | false =>
  cases Y with
  | false =>
    cases Z with
    | false =>
      go_enter Tryz.func16, Tryz.ntmps16
      go_wp2_with fail
      simp only [← hw1]
      clear hw1
      refine (K5.out _ HG1.out).mono ?_
      rintro e x0 ⟨rfl, hg0⟩
      go_wp2_with fail
      refine (K6.out _ (HG1.out.trans hg0)).mono ?_
      rintro e x1 ⟨rfl, hg1⟩
      have h1x := hg0.trans hg1
      go_wp2_with fail
      go_ret2
      exact ⟨_, _, _, rfl, fun h => (by cases h), HG1.out.trans h1x⟩
    | true =>
      go_enter Tryz.func16, Tryz.ntmps16
      go_wp2_with fail
      simp only [← hw1]
      clear hw1
      refine (K5.out _ HG1.out).mono ?_
      rintro e x0 ⟨rfl, hg0⟩
      go_wp2_with fail
      refine (K6.out _ (HG1.out.trans hg0)).mono ?_
      rintro e x1 ⟨rfl, hg1⟩
      have h1x := hg0.trans hg1
      go_wp2_with fail
      refine (KM.out (by simp) _ (HG1.out.trans h1x)).mono ?_
      rintro e y ⟨B1, k1, e1, B2, k2, e2, rfl, hs1, hs2, hgy⟩
      have hy := h1x.trans hgy
      have hal := (Grew.refl y).alloc (.cells #[.slice B1 k1 e1, .slice B2 k2 e2] 29)
      have hq := rdM_one (x := X) (blk_new y (.cells #[.slice B1 k1 e1, .slice B2 k2 e2] 29)) (hs1.grew hal) (hs2.grew hal)
      go_wp2_with fail
      go_ret2
      exact ⟨_, _, _, rfl, fun _ => hq, HG1.out.trans (hy.trans hal)⟩
  | true =>
    cases Z with
    | false =>
      go_enter Tryz.func16, Tryz.ntmps16
      go_wp2_with fail
      simp only [← hw1]
      clear hw1
      refine (K5.out _ HG1.out).mono ?_
      rintro e x0 ⟨rfl, hg0⟩
      go_wp2_with fail
      refine (K6.out _ (HG1.out.trans hg0)).mono ?_
      rintro e x1 ⟨rfl, hg1⟩
      have h1x := hg0.trans hg1
      go_wp2_with fail
      refine (KM.out (by simp) _ (HG1.out.trans h1x)).mono ?_
      rintro e y ⟨B1, k1, e1, B2, k2, e2, rfl, hs1, hs2, hgy⟩
      have hy := h1x.trans hgy
      have hal := (Grew.refl y).alloc (.cells #[.slice B1 k1 e1, .slice B2 k2 e2] 29)
      have hq := rdM_one (x := X) (blk_new y (.cells #[.slice B1 k1 e1, .slice B2 k2 e2] 29)) (hs1.grew hal) (hs2.grew hal)
      go_wp2_with fail
      go_ret2
      exact ⟨_, _, _, rfl, fun _ => hq, HG1.out.trans (hy.trans hal)⟩
    | true =>
      go_enter Tryz.func16, Tryz.ntmps16
      go_wp2_with fail
      simp only [← hw1]
      clear hw1
      refine (K5.out _ HG1.out).mono ?_
      rintro e x0 ⟨rfl, hg0⟩
      go_wp2_with fail
      refine (K6.out _ (HG1.out.trans hg0)).mono ?_
      rintro e x1 ⟨rfl, hg1⟩
      have h1x := hg0.trans hg1
      go_wp2_with fail
      refine (KM.out (by simp) _ (HG1.out.trans h1x)).mono ?_
      rintro e y ⟨B1, k1, e1, B2, k2, e2, rfl, hs1, hs2, hgy⟩
      have hy := h1x.trans hgy
      have hal := (Grew.refl y).alloc (.cells #[.slice B1 k1 e1, .slice B2 k2 e2] 29)
      have hq := rdM_one (x := X) (blk_new y (.cells #[.slice B1 k1 e1, .slice B2 k2 e2] 29)) (hs1.grew hal) (hs2.grew hal)
      go_wp2_with fail
      go_ret2
      exact ⟨_, _, _, rfl, fun _ => hq, HG1.out.trans (hy.trans hal)⟩

set_option maxHeartbeats 8000000 in
set_option maxRecDepth 8192 in
theorem l11Prem_12 (lg m : ByteArray) (va vb : Value) (L R : List ByteArray) (w : World) (ha : Strs w va L) (hb : Strs w vb R) (hgL : ∀ i, i < L.length → gd (st L i) = true) (hgR : ∀ i, i < R.length → gd (st R i) = true) (hFL : Fits L) (hFR : Fits R) (hnL : L.length ≤ 16) (hnR : R.length ≤ 16) (hUL : Up L) (hUR : Up R) (hmz : m.size ≤ 1048576) :
    Calls Tryz.prog 16 #[.string lg, .int .i64 12, .agg #[va, vb], .string m] w (GivesPm w ([mpF lg L R ⟨#[]⟩], m.toList.isEmpty && isLg lg [68])) := by
  have KM := Lib.hid (fun W (hW : Grew w W) => l11Modal_c lg ⟨#[]⟩ va vb L R W (ha.grew hW) (hb.grew hW) hgL hgR hFL hFR hnL hnR hUL hUR (.inl emp_lst))
  obtain ⟨A1, c1, rfl⟩ := strs_slice ha
  obtain ⟨A2, c2, rfl⟩ := strs_slice hb
  obtain ⟨w1, hw1⟩ : ∃ w1, w1 = w.alloc (.cells #[.slice A1 L.length c1, .slice A2 R.length c2] 29) := ⟨_, rfl⟩
  have hg1 : Grew w w1 := by rw [hw1]; exact (Grew.refl w).alloc _
  have hb0 : w1.heap[w.heap.size]? = some (.cells #[.slice A1 L.length c1, .slice A2 R.length c2] 29 (0, 0)) := by rw [hw1]; exact blk_new w _
  have p0 : ∀ W, Grew w1 W → W.cell? ⟨w.heap.size, 0, none⟩ = some (.slice A1 L.length c1) := fun W hW => by rw [blk_cell ((hW.block (blk_lt hb0)).trans hb0)]; rfl
  have p1 : ∀ W, Grew w1 W → W.cell? ⟨w.heap.size, 1, none⟩ = some (.slice A2 R.length c2) := fun W hW => by rw [blk_cell ((hW.block (blk_lt hb0)).trans hb0)]; rfl
  have hL := ha.grew hg1
  have hR := hb.grew hg1
  have HG1 := Lib.hid hg1
  have r1 := Grew.refl w1
  have d1 := r1.drew
  clear ha hb hgL hgR hb0 hg1 hFL hFR hUL hUR
  have HnL := Lib.hid hnL
  have HnR := Lib.hid hnR
  generalize mpF lg L R ⟨#[]⟩ = X at *
  have hd : isLg lg [68] = (lg.toList == [68]) := rfl
  rw [hd]
  clear hd
  generalize hn1 : L.length = n1 at p0 hL hw1 KM ⊢
  generalize hn2 : R.length = n2 at p1 hR hw1 KM ⊢
  have HN1 := Lib.hid hn1
  have HN2 := Lib.hid hn2
  clear hn1 hn2 hnL hnR
  cases h1 : (lg.toList == [84]) with
  | true =>
    cases hme : m.toList.isEmpty with
    | false =>
      go_enter Tryz.func16, Tryz.ntmps16
      go_wp2_with fail
      simp only [← hw1]
      clear hw1
      go_wp2_with fail
      go_ret2
      exact ⟨_, _, _, rfl, fun h => (by cases h), HG1.out.trans r1⟩
    | true =>
      cases hld : (lg.toList == [68]) with
      | false =>
        go_enter Tryz.func16, Tryz.ntmps16
        go_wp2_with fail
        simp only [← hw1]
        clear hw1
        go_wp2_with fail
        go_ret2
        exact ⟨_, _, _, rfl, fun h => (by cases h), HG1.out.trans r1⟩
      | true =>
        go_enter Tryz.func16, Tryz.ntmps16
        go_wp2_with fail
        simp only [← hw1]
        clear hw1
        refine (KM.out _ (HG1.out.trans r1)).mono ?_
        rintro e y ⟨B1, k1, e1, B2, k2, e2, rfl, hs1, hs2, hgy⟩
        have hy := r1.trans hgy
        have hal := (Grew.refl y).alloc (.cells #[.slice B1 k1 e1, .slice B2 k2 e2] 29)
        have hq := rdM_one (x := X) (blk_new y (.cells #[.slice B1 k1 e1, .slice B2 k2 e2] 29)) (hs1.grew hal) (hs2.grew hal)
        go_wp2_with fail
        go_ret2
        exact ⟨_, _, _, rfl, fun _ => hq, HG1.out.trans (hy.trans hal)⟩
  | false =>
  cases h2 : (lg.toList == [83, 52]) with
  | true =>
    cases hme : m.toList.isEmpty with
    | false =>
      go_enter Tryz.func16, Tryz.ntmps16
      go_wp2_with fail
      simp only [← hw1]
      clear hw1
      go_wp2_with fail
      go_ret2
      exact ⟨_, _, _, rfl, fun h => (by cases h), HG1.out.trans r1⟩
    | true =>
      cases hld : (lg.toList == [68]) with
      | false =>
        go_enter Tryz.func16, Tryz.ntmps16
        go_wp2_with fail
        simp only [← hw1]
        clear hw1
        go_wp2_with fail
        go_ret2
        exact ⟨_, _, _, rfl, fun h => (by cases h), HG1.out.trans r1⟩
      | true =>
        go_enter Tryz.func16, Tryz.ntmps16
        go_wp2_with fail
        simp only [← hw1]
        clear hw1
        refine (KM.out _ (HG1.out.trans r1)).mono ?_
        rintro e y ⟨B1, k1, e1, B2, k2, e2, rfl, hs1, hs2, hgy⟩
        have hy := r1.trans hgy
        have hal := (Grew.refl y).alloc (.cells #[.slice B1 k1 e1, .slice B2 k2 e2] 29)
        have hq := rdM_one (x := X) (blk_new y (.cells #[.slice B1 k1 e1, .slice B2 k2 e2] 29)) (hs1.grew hal) (hs2.grew hal)
        go_wp2_with fail
        go_ret2
        exact ⟨_, _, _, rfl, fun _ => hq, HG1.out.trans (hy.trans hal)⟩
  | false =>
  cases h3 : (lg.toList == [83, 53]) with
  | true =>
    cases hme : m.toList.isEmpty with
    | false =>
      go_enter Tryz.func16, Tryz.ntmps16
      go_wp2_with fail
      simp only [← hw1]
      clear hw1
      go_wp2_with fail
      go_ret2
      exact ⟨_, _, _, rfl, fun h => (by cases h), HG1.out.trans r1⟩
    | true =>
      cases hld : (lg.toList == [68]) with
      | false =>
        go_enter Tryz.func16, Tryz.ntmps16
        go_wp2_with fail
        simp only [← hw1]
        clear hw1
        go_wp2_with fail
        go_ret2
        exact ⟨_, _, _, rfl, fun h => (by cases h), HG1.out.trans r1⟩
      | true =>
        go_enter Tryz.func16, Tryz.ntmps16
        go_wp2_with fail
        simp only [← hw1]
        clear hw1
        refine (KM.out _ (HG1.out.trans r1)).mono ?_
        rintro e y ⟨B1, k1, e1, B2, k2, e2, rfl, hs1, hs2, hgy⟩
        have hy := r1.trans hgy
        have hal := (Grew.refl y).alloc (.cells #[.slice B1 k1 e1, .slice B2 k2 e2] 29)
        have hq := rdM_one (x := X) (blk_new y (.cells #[.slice B1 k1 e1, .slice B2 k2 e2] 29)) (hs1.grew hal) (hs2.grew hal)
        go_wp2_with fail
        go_ret2
        exact ⟨_, _, _, rfl, fun _ => hq, HG1.out.trans (hy.trans hal)⟩
  | false =>
  cases hme : m.toList.isEmpty with
  | false =>
    go_enter Tryz.func16, Tryz.ntmps16
    go_wp2_with fail
    simp only [← hw1]
    clear hw1
    go_wp2_with fail
    go_ret2
    exact ⟨_, _, _, rfl, fun h => (by cases h), HG1.out.trans r1⟩
  | true =>
    cases hld : (lg.toList == [68]) with
    | false =>
      go_enter Tryz.func16, Tryz.ntmps16
      go_wp2_with fail
      simp only [← hw1]
      clear hw1
      go_wp2_with fail
      go_ret2
      exact ⟨_, _, _, rfl, fun h => (by cases h), HG1.out.trans r1⟩
    | true =>
      go_enter Tryz.func16, Tryz.ntmps16
      go_wp2_with fail
      simp only [← hw1]
      clear hw1
      refine (KM.out _ (HG1.out.trans r1)).mono ?_
      rintro e y ⟨B1, k1, e1, B2, k2, e2, rfl, hs1, hs2, hgy⟩
      have hy := r1.trans hgy
      have hal := (Grew.refl y).alloc (.cells #[.slice B1 k1 e1, .slice B2 k2 e2] 29)
      have hq := rdM_one (x := X) (blk_new y (.cells #[.slice B1 k1 e1, .slice B2 k2 e2] 29)) (hs1.grew hal) (hs2.grew hal)
      go_wp2_with fail
      go_ret2
      exact ⟨_, _, _, rfl, fun _ => hq, HG1.out.trans (hy.trans hal)⟩

set_option maxHeartbeats 8000000 in
set_option maxRecDepth 8192 in
theorem l11Prem_0 (lg m : ByteArray) (r : Int) (h9 : ¬ r = 9) (h10 : ¬ r = 10) (h11 : ¬ r = 11) (h12 : ¬ r = 12) (va vb : Value) (L R : List ByteArray) (w : World) (ha : Strs w va L) (hb : Strs w vb R) (hgL : ∀ i, i < L.length → gd (st L i) = true) (hgR : ∀ i, i < R.length → gd (st R i) = true) (hFL : Fits L) (hFR : Fits R) (hnL : L.length ≤ 16) (hnR : R.length ≤ 16) (hUL : Up L) (hUR : Up R) (hmz : m.size ≤ 1048576) :
    Calls Tryz.prog 16 #[.string lg, .int .i64 r, .agg #[va, vb], .string m] w (GivesPm w (pmF lg r L R m)) := by
  have KM := Lib.hid (fun W (hW : Grew w W) => l11Local_c lg m r va vb L R W (ha.grew hW) (hb.grew hW) hgL hgR hnL hnR hUL hUR hmz h9 h10 h11 h12)
  obtain ⟨A1, c1, rfl⟩ := strs_slice ha
  obtain ⟨A2, c2, rfl⟩ := strs_slice hb
  obtain ⟨w1, hw1⟩ : ∃ w1, w1 = w.alloc (.cells #[.slice A1 L.length c1, .slice A2 R.length c2] 29) := ⟨_, rfl⟩
  have hg1 : Grew w w1 := by rw [hw1]; exact (Grew.refl w).alloc _
  have hb0 : w1.heap[w.heap.size]? = some (.cells #[.slice A1 L.length c1, .slice A2 R.length c2] 29 (0, 0)) := by rw [hw1]; exact blk_new w _
  have p0 : ∀ W, Grew w1 W → W.cell? ⟨w.heap.size, 0, none⟩ = some (.slice A1 L.length c1) := fun W hW => by rw [blk_cell ((hW.block (blk_lt hb0)).trans hb0)]; rfl
  have p1 : ∀ W, Grew w1 W → W.cell? ⟨w.heap.size, 1, none⟩ = some (.slice A2 R.length c2) := fun W hW => by rw [blk_cell ((hW.block (blk_lt hb0)).trans hb0)]; rfl
  have hL := ha.grew hg1
  have hR := hb.grew hg1
  have HG1 := Lib.hid hg1
  have r1 := Grew.refl w1
  have d1 := r1.drew
  clear ha hb hgL hgR hb0 hg1 hFL hFR hUL hUR
  have HnL := Lib.hid hnL
  have HnR := Lib.hid hnR
  generalize pmF lg r L R m = X at *
  obtain ⟨X1, X2⟩ := X
  generalize hn1 : L.length = n1 at p0 hL hw1 KM ⊢
  generalize hn2 : R.length = n2 at p1 hR hw1 KM ⊢
  have HN1 := Lib.hid hn1
  have HN2 := Lib.hid hn2
  clear hn1 hn2 hnL hnR
  cases h1 : (lg.toList == [84]) with
  | true =>
    go_enter Tryz.func16, Tryz.ntmps16
    go_wp2_with fail
    simp only [← hw1]
    clear hw1
    refine (KM.out _ HG1.out).mono ?_
    rintro e y ⟨B1, k1, e1, rfl, hq, hgy⟩
    go_wp2_with fail
    go_ret2
    exact ⟨_, _, _, rfl, hq, HG1.out.trans hgy⟩
  | false =>
  cases h2 : (lg.toList == [83, 52]) with
  | true =>
    go_enter Tryz.func16, Tryz.ntmps16
    go_wp2_with fail
    simp only [← hw1]
    clear hw1
    refine (KM.out _ HG1.out).mono ?_
    rintro e y ⟨B1, k1, e1, rfl, hq, hgy⟩
    go_wp2_with fail
    go_ret2
    exact ⟨_, _, _, rfl, hq, HG1.out.trans hgy⟩
  | false =>
  cases h3 : (lg.toList == [83, 53]) with
  | true =>
    go_enter Tryz.func16, Tryz.ntmps16
    go_wp2_with fail
    simp only [← hw1]
    clear hw1
    refine (KM.out _ HG1.out).mono ?_
    rintro e y ⟨B1, k1, e1, rfl, hq, hgy⟩
    go_wp2_with fail
    go_ret2
    exact ⟨_, _, _, rfl, hq, HG1.out.trans hgy⟩
  | false =>
  go_enter Tryz.func16, Tryz.ntmps16
  go_wp2_with fail
  simp only [← hw1]
  clear hw1
  refine (KM.out _ HG1.out).mono ?_
  rintro e y ⟨B1, k1, e1, rfl, hq, hgy⟩
  go_wp2_with fail
  go_ret2
  exact ⟨_, _, _, rfl, hq, HG1.out.trans hgy⟩

theorem l11Premises_c (lg m : ByteArray) (r : Int) (va vb : Value) (L R : List ByteArray) (w : World) (ha : Strs w va L) (hb : Strs w vb R) (hgL : ∀ i, i < L.length → gd (st L i) = true) (hgR : ∀ i, i < R.length → gd (st R i) = true) (hFL : Fits L) (hFR : Fits R) (hnL : L.length ≤ 16) (hnR : R.length ≤ 16) (hUL : Up L) (hUR : Up R) (hmz : m.size ≤ 1048576) :
    Calls Tryz.prog 16 #[.string lg, .int .i64 r, .agg #[va, vb], .string m] w (GivesPm w (pmF lg r L R m)) := by
  by_cases h9 : r = 9
  · subst h9; exact (l11Prem_9 lg m va vb L R w ha hb hgL hgR hFL hFR hnL hnR hUL hUR hmz).mono fun e w' h => h.same (same_9 lg m L R hUL)
  by_cases h10 : r = 10
  · subst h10; exact (l11Prem_10 lg m va vb L R w ha hb hgL hgR hFL hFR hnL hnR hUL hUR hmz).mono fun e w' h => h.same (same_10 lg m L R hUR)
  by_cases h11 : r = 11
  · subst h11; exact (l11Prem_11 lg m va vb L R w ha hb hgL hgR hFL hFR hnL hnR hUL hUR hmz).mono fun e w' h => h.same (same_11 lg m L R)
  by_cases h12 : r = 12
  · subst h12; exact (l11Prem_12 lg m va vb L R w ha hb hgL hgR hFL hFR hnL hnR hUL hUR hmz).mono fun e w' h => h.same (same_12 lg m L R)
  exact l11Prem_0 lg m r h9 h10 h11 h12 va vb L R w ha hb hgL hgR hFL hFR hnL hnR hUL hUR hmz
end Go.Proofs.YtjcehejnolbkgaaGreat

/- RulePremises of the reference gives rpF. -/
namespace Go.Proofs.YtjcehejnolbkgaaGreat
open Go.RowKit

/-- The reference's result reads as the premises. -/
def GivesRq (w : World) (r : List Ms × Int) (e : Ending) (w' : World) : Prop := ∃ u, e = .returned (.tuple #[u, .int .i64 r.2]) ∧ RdM w' u r.1 ∧ Grew w w'

theorem asc_up {L : List ByteArray} (h : asc L = true) : Up L := by
  have h3 : Asc L L.length := by
    unfold asc at h
    exact @of_decide_eq_true _ (Classical.propDecidable _) h
  have hs : ∀ d i, i + d + 1 < L.length → (st L i).data.toList < (st L (i + d + 1)).data.toList := by
    intro d
    induction d with
    | zero =>
      intro i hi
      have := (h3 (i + 1) hi).2 (by omega)
      rw [Nat.add_sub_cancel] at this
      exact (blt_iff _ _).1 this
    | succ d ih =>
      intro i hi
      have h2 := (h3 (i + (d + 1) + 1) hi).2 (by omega)
      rw [Nat.add_sub_cancel] at h2
      exact List.lt_trans (ih i (by omega)) ((blt_iff _ _).1 h2)
  unfold Up
  rw [List.pairwise_iff_getElem]
  intro i j hi hj hij
  have := hs (j - i - 1) i (by omega)
  rw [show i + (j - i - 1) + 1 = j by omega, ← st_get hi, ← st_get hj] at this
  exact this

set_option maxHeartbeats 4000000 in
theorem specRp_c (lg m : ByteArray) (r : Int) (va vb : Value) (L R : List ByteArray) (w : World) (ha : Strs w va L) (hb : Strs w vb R) (hFL : Fits L) (hFR : Fits R) (hnL : L.length ≤ 1048576) (hnR : R.length ≤ 1048576) (hmz : m.size ≤ 1048576) :
    Calls Tryz.prog 5 #[.string lg, .int .i64 r, .agg #[va, vb], .string m] w (GivesRq w (rpF lg r L R m)) := by
  have KL := Lib.hid (fun W => specLogic_c lg W)
  have KS := Lib.hid (fun W (hW : Grew w W) => show Calls Tryz.prog 15 #[.agg #[va, vb]] W (fun e w' => e = .returned (.bool (sdB L && sdB R)) ∧ Grew W w') from l11Is_c va vb L R W (ha.grew hW) (hb.grew hW) hFL hFR hnL hnR)
  have KP := Lib.hid (fun (h : sdB L = true ∧ sdB R = true) W (hW : Grew w W) => l11Premises_c lg m r va vb L R W (ha.grew hW) (hb.grew hW) (sd_ok h.1).2 (sd_ok h.2).2 hFL hFR (sd_ok h.1).1 (sd_ok h.2).1 (asc_up (by have := h.1; unfold sdB at this; simp only [Bool.and_eq_true] at this; exact this.2)) (asc_up (by have := h.2; unfold sdB at this; simp only [Bool.and_eq_true] at this; exact this.2)) hmz)
  have hpl := pmF_len lg r L R m
  obtain ⟨A1, c1, rfl⟩ := strs_slice ha
  obtain ⟨A2, c2, rfl⟩ := strs_slice hb
  clear ha hb hFL hFR hnL hnR hmz
  obtain ⟨w1, hw1⟩ : ∃ w1, w1 = w.alloc (.cells #[.slice A1 L.length c1, .slice A2 R.length c2] 29) := ⟨_, rfl⟩
  have hg1 : Grew w w1 := by rw [hw1]; exact (Grew.refl w).alloc _
  have hb0 : w1.heap[w.heap.size]? = some (.cells #[.slice A1 L.length c1, .slice A2 R.length c2] 29 (0, 0)) := by rw [hw1]; exact blk_new w _
  have p0 : ∀ W, Grew w1 W → W.cell? ⟨w.heap.size, 0, none⟩ = some (.slice A1 L.length c1) := fun W hW => by rw [blk_cell ((hW.block (blk_lt hb0)).trans hb0)]; rfl
  have p1 : ∀ W, Grew w1 W → W.cell? ⟨w.heap.size, 1, none⟩ = some (.slice A2 R.length c2) := fun W hW => by rw [blk_cell ((hW.block (blk_lt hb0)).trans hb0)]; rfl
  have HG1 := Lib.hid hg1
  clear hg1 hb0
  generalize hX : rpF lg r L R m = X at *
  have HX := Lib.hid hX
  clear hX
  generalize hQ : pmF lg r L R m = Q at *
  have HQ := Lib.hid hQ
  clear hQ
  generalize L.length = n at *
  generalize R.length = n2 at *
  go_enter Tryz.func5, Tryz.ntmps5
  go_wp2_with fail
  simp only [← hw1]
  clear hw1
  refine (KL.out _).mono ?_
  rintro e w2 ⟨rfl, hg2⟩
  have a0 := p0 _ hg2
  have a1 := p1 _ hg2
  cases h1 : sqLg lg with
  | false =>
    go_wp2_with fail
    go_ret2
    have hX := HX.out
    rw [rp_1 h1] at hX
    rw [← hX]
    exact ⟨_, rfl, rdM_nil _, HG1.out.trans hg2⟩
  | true =>
  go_wp2_with fail
  refine (KS.out _ (HG1.out.trans hg2)).mono ?_
  rintro e w3 ⟨rfl, hg3⟩
  have h13 := hg2.trans hg3
  clear a0 a1 hg2 hg3
  have a0 := p0 _ h13
  have a1 := p1 _ h13
  cases h2 : (sdB L && sdB R) with
  | false =>
    go_wp2_with fail
    go_ret2
    have hX := HX.out
    rw [rp_2 h1 h2] at hX
    rw [← hX]
    exact ⟨_, rfl, rdM_nil _, HG1.out.trans h13⟩
  | true =>
  have KP := Lib.hid (KP.out (by simpa using h2) _ (HG1.out.trans h13))
  go_wp2_with fail
  refine KP.out.mono ?_
  rintro e w4 ⟨A3, n3, c3, rfl, hrd, hg4⟩
  have h14 := h13.trans hg4
  obtain ⟨xs, ok⟩ := Q
  simp only at hrd hpl
  clear a0 a1 p0 p1
  cases ok with
  | false =>
    go_wp2_with fail
    go_ret2
    have hX := HX.out
    rw [rp_3 h1 h2 (by rw [HQ.out])] at hX
    rw [← hX]
    exact ⟨_, rfl, rdM_nil _, HG1.out.trans h14⟩
  | true =>
  have HR := Lib.hid (hrd rfl)
  clear hrd
  obtain ⟨A4, c4, hv, hcell⟩ := HR.out.open_
  simp only [Value.slice.injEq] at hv
  obtain ⟨rfl, rfl, rfl⟩ := hv
  have HC := Lib.hid hcell
  have HXS := Lib.hid (fun j (hj : j < xs.length) => (⟨xs[j], List.getElem?_eq_getElem hj⟩ : ∃ x, xs[j]? = some x))
  have H4 := Lib.hid (fun h4 => (rp_4 h1 h2 (by rw [HQ.out]) (by rw [HQ.out]; exact h4)).symm.trans HX.out)
  have H5 := Lib.hid (fun h4 => (rp_5 h1 h2 (by rw [HQ.out]) (by rw [HQ.out]; exact h4)).symm.trans HX.out)
  have HBA := Lib.hid (fun k x (hx : xs[k]? = some x) h => @bigM_at xs k x hx h)
  have HBN := Lib.hid (@bigM_none xs)
  have HG14 := Lib.hid (HG1.out.trans h14)
  have HQ1 : Hid ((pmF lg r L R m).1 = xs) := Lib.hid (by rw [HQ.out])
  clear hcell h14 h13 hg4 HX HQ h1 h2
  generalize hN : xs.length = n at *
  clear hN
  go_wp2_with fail
  go_loopw [12] (fun i wr => ∃ j : Nat, j ≤ n ∧ i = .int .i64 j ∧ Grew w4 wr ∧ Hid (∀ (i : Nat) (x : Ms), i < j → xs[i]? = some x → bigM x = false)) (fun i _ => n - (intOf i).toNat)
  case atStart => exact ⟨0, Nat.zero_le _, rfl, Grew.refl _, Lib.hid (fun i x hi => absurd hi (by omega))⟩
  case round =>
    obtain ⟨j, hj, rfl, hB, HJ⟩ := hrel
    by_cases hlt : j < n
    · obtain ⟨x, hx⟩ := HXS.out j hlt
      obtain ⟨b, o, rfl, hcl⟩ := HC.out (by omega)
      obtain ⟨A5, c5, A6, c6, hcl, _, _⟩ := hcl j x hx
      obtain ⟨k0, k1⟩ := hcl _ hB
      have hA := Lib.hid (HBA.out j x hx)
      have hS : Hid (bigM x = false → ∀ (i : Nat) (y : Ms), i < j + 1 → xs[i]? = some y → bigM y = false) := Lib.hid (fun h i y hi hy => by
        by_cases hlt : i < j
        · exact HJ.out i y hlt hy
        · obtain rfl : i = j := by omega
          rw [hx] at hy
          obtain rfl := Option.some.inj hy
          exact h)
      have hbm : bigM x = (!(decide (x.1.length ≤ 16) && decide (x.2.length ≤ 16))) := rfl
      have HBM := Lib.hid hbm
      clear hcl hx hbm
      generalize bigM x = f at *
      generalize x.1.length = n1 at *
      generalize x.2.length = n2 at *
      by_cases hb1 : n1 ≤ 16
      · by_cases hb2 : n2 ≤ 16
        · have hs := Lib.hid (hS.out (by rw [HBM.out, decide_eq_true hb1, decide_eq_true hb2]; rfl))
          clear hS hA
          go_wp2_with fail
          go_roundw
          case rel => exact ⟨j + 1, by omega, by go_num, hB, hs⟩
          case measure => simp [intOf]; omega
        · have hX := H4.out (hA.out (by rw [HBM.out, decide_eq_false hb2, Bool.and_false]; rfl))
          go_wp2_with fail
          go_ret2
          rw [← hX]
          exact ⟨_, rfl, rdM_nil _, HG14.out.trans hB⟩
      · have hX := H4.out (hA.out (by rw [HBM.out, decide_eq_false hb1, Bool.false_and]; rfl))
        go_wp2_with fail
        go_ret2
        rw [← hX]
        exact ⟨_, rfl, rdM_nil _, HG14.out.trans hB⟩
    · obtain rfl : j = n := by omega
      have hX := H5.out (HBN.out (fun i x hi hx => HJ.out i x (by omega) hx))
      rw [HQ1.out] at hX
      go_wp2_with fail
      go_ret2
      rw [← hX]
      exact ⟨_, rfl, HR.out.grew hB, HG14.out.trans hB⟩
end Go.Proofs.YtjcehejnolbkgaaGreat

/- The law FnExactRulePremises, walked. -/
namespace Go.Proofs.YtjcehejnolbkgaaGreat
open Go.RowKit

theorem rpF_small (lg : ByteArray) (r : Int) (L R : List ByteArray) (m : ByteArray) : (rpF lg r L R m).1.length ≤ 2 ∧ ∀ x ∈ (rpF lg r L R m).1, x.1.length ≤ 16 ∧ x.2.length ≤ 16 := by
  unfold rpF
  split
  · simp
  · split
    · simp
    · split
      · simp
      · split
        · simp
        · rename_i h
          exact ⟨pmF_len _ _ _ _ _, big_no (by simpa using h)⟩
theorem mrow_small {xs : List Ms} (h : ∀ x ∈ xs, x.1.length ≤ 16 ∧ x.2.length ≤ 16) (t : Nat) : (mrow xs t).length ≤ 16 := by
  rcases Nat.lt_or_ge (t / 2) xs.length with hlt | hge
  · have hx : xs[t / 2]? = some xs[t / 2] := List.getElem?_eq_getElem hlt
    have hm := h _ (List.getElem_mem hlt)
    unfold mrow
    simp only [List.getD, hx, Option.getD_some]
    split
    · exact hm.1
    · exact hm.2
  · rw [mrow_zero (by omega)]; simp

set_option maxHeartbeats 2000000 in
theorem lawRp_c (lg m : ByteArray) (r : Int) (v1 v2 : Value) (L1 L2 : List ByteArray) (w : World) (h1 : ArgS w v1 L1) (h2 : ArgS w v2 L2) :
    Calls Tryz.prog 3 #[.string lg, .int .i64 r, .agg #[v1, v2], .string m] w fun e w' => e = .returned (.bool true) ∧ Grew w w' := by
  have K0 := Lib.hid (fun W (hW : Grew w W) => szModalSequent_c v1 v2 L1 L2 W (h1.grew hW) (h2.grew hW))
  have K1 := Lib.hid (fun W (hW : Grew w W) => toModalSequent_o v1 v2 L1 L2 W (h1.grew hW) (h2.grew hW))
  have r0 := Grew.refl w
  have ral := r0.alloc (.cells #[v1, v2] 24)
  clear h1 h2
  by_cases hz1 : 1048576 < lg.size
  · go_enter Tryz.func3, Tryz.ntmps3
    go_wp2_with fail
    go_ret
    exact ⟨rfl, ral⟩
  by_cases hz2 : 1048576 < m.size
  · go_enter Tryz.func3, Tryz.ntmps3
    go_wp2_with fail
    go_ret
    exact ⟨rfl, ral⟩
  go_enter Tryz.func3, Tryz.ntmps3
  go_wp2_with fail
  refine (K0.out _ ral).mono ?_
  rintro e w1 ⟨rr, rfl, hg1, hs⟩
  have hgw := Grew.of_alloc hg1
  by_cases hr : rr < 0
  · clear hs
    go_wp2_with fail
    go_ret
    exact ⟨rfl, hgw⟩
  obtain ⟨⟨hn1, hf1⟩, hn2, hf2⟩ := hs (by omega)
  have b0 : ∀ W, Grew w1 W → W.cell? ⟨w.heap.size, 0, none⟩ = some v1 := fun W hW => ((hg1.trans hW).cell (by simp)).trans (by simp)
  have b1 : ∀ W, Grew w1 W → W.cell? ⟨w.heap.size, 1, none⟩ = some v2 := fun W hW => ((hg1.trans hW).cell (by simp)).trans (by simp)
  clear hs r0 ral
  have F1 := Lib.hid hf1
  have F2 := Lib.hid hf2
  clear hf1 hf2
  have hr1 := Grew.refl w1
  obtain ⟨hlen, hsm⟩ := rpF_small lg r L1 L2 m
  have KS := Lib.hid (fun a b W h1 h2 => specRp_c lg m r a b L1 L2 W h1 h2 F1.out F2.out hn1 hn2 (by omega))
  have KI := Lib.hid (fun a b W h1 h2 => implRp_c lg m r a b L1 L2 W h1 h2 F1.out F2.out hn1 hn2 (by omega))
  generalize rpF lg r L1 L2 m = rr at *
  obtain ⟨xs, c⟩ := rr
  simp only at hlen hsm
  have HS : Hid (∀ x ∈ xs, x.1.length ≤ 1048576 ∧ x.2.length ≤ 1048576) := Lib.hid (fun x hx => by have := hsm x hx; omega)
  have HM : Hid (∀ t, (mrow xs t).length ≤ 1048576) := Lib.hid (fun t => by have := mrow_small hsm t; omega)
  have HPB := Lib.hid (hpos_le (mrow_small hsm) (xs.length * 2))
  clear hsm
  unfold GivesRq at KS
  unfold GivesRm at KI
  simp only at KS KI
  go_wp2_with fail
  refine (K1.out _ hgw hn1 hn2).mono ?_
  rintro e w2 ⟨a1, a2, rfl, hs1, hs2, _, hg2⟩
  go_wp2_with fail
  refine (KS.out _ _ _ hs1.strs hs2.strs).mono ?_
  rintro e w3 ⟨q0, rfl, ho0, hg3⟩
  have hg13 := hg2.trans hg3
  clear hs1 hs2 hg2 hg3
  go_wp2_with fail
  refine (K1.out _ (hgw.trans hg13) hn1 hn2).mono ?_
  rintro e w4 ⟨a3, a4, rfl, hs3, hs4, hab, hg4⟩
  have hg14 := hg13.trans hg4
  obtain ⟨A3, k3, rfl⟩ := strs_slice hs3.strs
  obtain ⟨A4, k4, rfl⟩ := strs_slice hs4.strs
  have HLT3 := Lib.hid (fun g (hg : (Value.slice A3 L1.length k3).ownBlock = some g) => (hs3.lt g hg).2)
  have HLT4 := Lib.hid (fun g (hg : (Value.slice A4 L2.length k4).ownBlock = some g) => (hs4.lt g hg).2)
  have ho03 := ho0
  have ho0 := ho0.grew hg4
  go_wp2_with fail
  have hal := (Grew.refl w4).alloc (.cells #[.slice A3 L1.length k3, .slice A4 L2.length k4] 29)
  refine (KI.out _ _ _ (hs3.strs.grew hal) (hs4.strs.grew hal)).mono ?_
  rintro e w5 ⟨g0, us, rfl, hog, hg5⟩
  have d0 : ∀ W, Grew w5 W → W.cell? ⟨w4.heap.size, 0, none⟩ = some (.slice A3 L1.length k3) := fun W hW => ((hg5.trans hW).cell (by simp)).trans (by simp)
  have d1 : ∀ W, Grew w5 W → W.cell? ⟨w4.heap.size, 1, none⟩ = some (.slice A4 L2.length k4) := fun W hW => ((hg5.trans hW).cell (by simp)).trans (by simp)
  have hg45 := hal.trans hg5
  have hg15 := hg14.trans hg45
  have c0 : ∀ W, Grew w5 W → W.cell? ⟨w.heap.size, 0, none⟩ = some v1 := fun W hW => b0 _ (hg15.trans hW)
  have c1 : ∀ W, Grew w5 W → W.cell? ⟨w.heap.size, 1, none⟩ = some v2 := fun W hW => b1 _ (hg15.trans hW)
  have hr5 := Grew.refl w5
  have hd5 := (Grew.refl w5).drew
  have hs5 := hs3.grew hg45
  have hs6 := hs4.grew hg45
  have hgw5 := hgw.trans hg15
  have ho05 := ho0.grew hg45
  have hsz14 : w1.heap.size ≤ w4.heap.size := hg14.size
  have hog' : OwnRr w5 w4.heap.size g0 xs.length us (mrow xs) := ⟨own_base hog.row (by simp), fun j u hj => own_base (hog.inn j u hj) (by simp), hog.ap⟩
  have hogr := hog.rd
  have hsz3 : w1.heap.size ≤ w3.heap.size := hg13.size
  have hw15 := hg15
  have hw35 := hg4.trans hg45
  have hsz34 := hg4.size
  have HO0 := Lib.hid ho03
  have HOG := Lib.hid hog
  have B0 := Lib.hid b0
  have B1 := Lib.hid b1
  have hcc : (c != c) = false := by simp
  clear b0 b1 hs3 hs4 hr1 hal hg5 hg45 hg15 hg14 hg4 hg13 hg1 K0 KS F1 F2 ho0 hog
  go_wp2_with fail
  refine (eqModalSequentS_yes _ _ xs _ hogr ho05 (by omega) HS.out).mono ?_
  rintro e w6 ⟨rfl, hg6⟩
  have e0 : ∀ W, Grew w6 W → W.cell? ⟨w4.heap.size, 0, none⟩ = some (.slice A3 L1.length k3) := fun W hW => d0 _ (hg6.trans hW)
  have e1 : ∀ W, Grew w6 W → W.cell? ⟨w4.heap.size, 1, none⟩ = some (.slice A4 L2.length k4) := fun W hW => d1 _ (hg6.trans hW)
  have e2 : ∀ W, Grew w6 W → W.cell? ⟨w.heap.size, 0, none⟩ = some v1 := fun W hW => c0 _ (hg6.trans hW)
  have e3 : ∀ W, Grew w6 W → W.cell? ⟨w.heap.size, 1, none⟩ = some v2 := fun W hW => c1 _ (hg6.trans hW)
  have hr6 := Grew.refl w6
  have hd6 := (Grew.refl w6).drew
  have hs7 := hs5.grew hg6
  have hs8 := hs6.grew hg6
  have hgw6 := hgw5.trans hg6
  clear hr5 hd5
  go_wp2_with fail
  go_region_held3 (fun w' => Grew w6 w') (with_reducible assumption)
    (first | (go_at_call 9; refine (eqModalSequent_yes _ _ _ _ L1 L2 _ (hs7.strs.grew (hd6.trans hg7)) (hs8.strs.grew (hd6.trans hg7)) hs9.strs hs10.strs hn1 hn2).mono ?_; rintro e w8 ⟨rfl, hg8⟩; have hk8 := (hd6.trans hg7).trans hg8) | (go_at_call 6; refine (K1.out _ (hgw6.trans hd6) hn1 hn2).mono ?_; rintro e w7 ⟨a5, a6, rfl, hs9, hs10, _, hg7⟩; have hk7 := hd6.trans hg7))
  have hk8 := (hd6.trans hg7).trans hg8
  have x0 := e0 _ hk8
  have x1 := e1 _ hk8
  have hs11 := hs7.grew hk8
  have hs12 := hs8.grew hk8
  have HL11 := Lib.hid (fun g (hg : (Value.slice A3 L1.length k3).ownBlock = some g) => HLT3.out g hg)
  have HL12 := Lib.hid (fun g (hg : (Value.slice A4 L2.length k4).ownBlock = some g) => HLT4.out g hg)
  have HG11 := Lib.hid (fun g (hg : (Value.slice A3 L1.length k3).ownBlock = some g) => own_of_ge hs11 hg)
  have HG12 := Lib.hid (fun g (hg : (Value.slice A4 L2.length k4).ownBlock = some g) => own_of_ge hs12 hg)
  have hog8 := (hog'.grew hg6).grew hk8
  have hw18 := (hw15.trans hg6).trans hk8
  have hw38 := (hw35.trans hg6).trans hk8
  clear d0 d1 c0 c1 e0 e1 e2 e3 hs5 hs6 hs7 hs8 hs9 hs10 hg7 hg8 hr6 hd6 hog' ho05 hg6 hw15
  go_wp2_with fail
  refine (markModal_x _ _ L1 L2 w3.heap.size _ hs11 hs12 hn1 hn2 hab).mono ?_
  rintro e w9 ⟨rfl, wm, hrm1, hrm2⟩
  have hog9 := (hog8.newer hrm1 HL11.out (Nat.le_refl _)).newer hrm2 HL12.out (Nat.le_refl _)
  have hw19 := grew_row (grew_row hw18 hrm1 (fun g hg => Nat.le_trans hsz3 (HG11.out g hg))) hrm2 (fun g hg => Nat.le_trans hsz3 (HG12.out g hg))
  have hw39 := grew_row (grew_row hw38 hrm1 HG11.out) hrm2 HG12.out
  have hog9r : OwnMp w9 w4.heap.size g0 xs us := ⟨hog9.row, hog9.inn, hog9.ap⟩
  clear hrm1 hrm2 hs11 hs12 hog8 hw18 hw38 hab x0 x1 hk8
  go_wp2_with fail
  refine (eqModalSequentS_yes _ _ xs _ hog9r.rd (HO0.out.grew hw39) (by omega) HS.out).mono ?_
  rintro e w10 ⟨rfl, hg10⟩
  have hog10 := hog9.grew hg10
  have hw110 := hw19.trans hg10
  have hw310 := hw39.trans hg10
  clear hog9 hw19 hw39 hg10 hog9r hw35
  go_wp2_with fail
  refine (markModalSequentS_x g0 (mrow xs) xs.length w4.heap.size us _ hog10 (by omega) HM.out).mono ?_
  rintro e w11 ⟨rfl, ho11, hm11⟩
  have hw111 := hm11 w1 hsz14 hw110
  have hw311 := hm11 w3 hsz34 hw310
  have hpb := HPB.out
  have hpn : ¬ (1 + ((hpos (mrow xs) (xs.length * 2) : Nat) : Int)) < 0 := by omega
  clear hm11 hog10 hw110 hw310
  go_wp2_with fail
  refine (heldModalSequentS_x g0 (mrow xs) xs.length w4.heap.size us _ ho11 (by omega) HM.out).mono ?_
  rintro e w12 ⟨rfl, hg12⟩
  have hw112 := hw111.trans hg12
  have hw312 := hw311.trans hg12
  have ho12 := ho11.grew hg12
  have y0 := B0.out _ hw112
  have y1 := B1.out _ hw112
  clear ho11 hw111 hw311 hg12
  generalize hpp : hpos (mrow xs) (xs.length * 2) = pp at *
  have HPP := Lib.hid hpp
  clear hpp
  go_wp2_with fail
  refine (K1.out _ (hgw.trans hw112) hn1 hn2).mono ?_
  rintro e w13 ⟨a7, a8, rfl, hs13, hs14, _, hg13⟩
  go_wp2_with fail
  refine (KI.out _ _ _ hs13.strs hs14.strs).mono ?_
  rintro e w14 ⟨h0, us2, rfl, hoh, hg14⟩
  have hg1214 := hg13.trans hg14
  have hq0 := HO0.out.grew (hw312.trans hg1214)
  go_wp2_with fail
  refine (eqModalSequentS_yes _ _ xs _ hoh.rd hq0 (by omega) HS.out).mono ?_
  rintro e w15 ⟨rfl, hg15⟩
  have KH := Lib.hid (heldModalSequentS_x g0 (mrow xs) xs.length w4.heap.size us _ (ho12.grew (hg1214.trans hg15)) (by omega) HM.out)
  rw [HPP.out] at KH
  go_wp2_with fail
  refine KH.out.mono ?_
  rintro e w16 ⟨rfl, hg16⟩
  go_wp2_with fail
  go_ret
  exact ⟨rfl, ((hgw.trans hw112).trans hg1214).trans (hg15.trans hg16)⟩
end Go.Proofs.YtjcehejnolbkgaaGreat

/- An argument that is a list of strings, or a struct of two such lists. -/
namespace Go.Proofs.YtjcehejnolbkgaaGreat
open Go.RowKit

theorem argS_of_trod {H : Type} {enc : TypeId × Value → H} {P : Program} {W : World} {sp : Nat → Bool} {held : Bool} {n : Nat} {t e : TypeId} {v : Value} {y : DataW H × List MemPlace}
    (ht : P.underlying t = some (.slice e)) (he : P.underlying e = some .string) (hc : P.cellsOf e = 1) (h : DataW.trod enc P W 0 sp held n t [v] = some y) : ∃ L, ArgS W v L := by
  rcases Go.Deep.open_strs ht he hc h with ⟨hv, _⟩ | ⟨a, len, cap, m, Sx, hv, _, hl, hm, hmm, _, hcell⟩
  · obtain rfl : v = .slice none 0 0 := by simpa using hv
    exact ⟨[], ⟨none, 0, rfl, by simp⟩, fun h => absurd h (by simp), fun i hi => absurd hi (by simp)⟩
  · obtain rfl : v = .slice (some a) len cap := by simpa using hv
    have hlm : len ≤ m := by rw [hmm]; split <;> omega
    have hmax : maxLen = 9223372036854775807 := by decide
    rw [hmax] at hm
    have hlen : ((List.range len).map Sx).length = len := by simp
    have hst : ∀ i, i < len → st ((List.range len).map Sx) i = Sx i := fun i hi => by simp [st, List.getD, hi]
    refine ⟨(List.range len).map Sx, ⟨some a, cap, by rw [hlen], by rw [hlen]; omega⟩, fun hp => ?_, fun i hi => ?_⟩
    · rw [hlen] at hp
      obtain ⟨b, off, spot⟩ := a
      have h0 := (hcell 0 (by omega)).1
      have hspot : spot = none := by simpa [Addr.add] using World.cell?_spot h0
      subst hspot
      have hb := cell_lt h0
      have hadd : ∀ i, (⟨b, off, none⟩ : Addr).add i = ⟨b, off + i, none⟩ := fun i => by
        unfold Addr.add
        split
        · subst_vars; rfl
        · rfl
      rw [hadd] at hb
      unfold Strs Rd
      rw [hlen]
      refine ⟨by rw [scells_length, hlen], by omega, .inr ⟨b, off, cap, rfl, hl, hm, hb, fun j u hu => ?_⟩⟩
      have hj : j < len := by
        have := (List.getElem?_eq_some_iff.1 hu).1
        rw [scells_length, hlen] at this
        omega
      rw [scells_at (by rw [hlen]; exact hj), hst j hj] at hu
      rw [← hadd, (hcell j (by omega)).1]
      exact hu
    · rw [hlen] at hi
      rw [hst i hi, ← hmax]
      exact (hcell i (by omega)).2
end Go.Proofs.YtjcehejnolbkgaaGreat

/- Texts in one file: RqS RqU. -/
import Derived.Test.YtjcehejnolbkgaaGreatPa1
import Derived.Test.YtjcehejnolbkgaaGreatPa2
import Derived.Test.YtjcehejnolbkgaaGreatPa3
import Derived.Test.YtjcehejnolbkgaaGreatPa4
import Derived.Test.YtjcehejnolbkgaaGreatPa5
set_option linter.all false

/- l11Local of the reference, more rules. -/
namespace Go.Proofs.YtjcehejnolbkgaaGreat
open Go.RowKit
open Fm (Nd Tree)

set_option maxHeartbeats 4000000 in
set_option maxRecDepth 8192 in
theorem l11Local_6 (m : ByteArray) (va vb : Value) (L R : List ByteArray) (w : World) (ha : Strs w va L) (hb : Strs w vb R) (hgL : ∀ i, i < L.length → gd (st L i) = true) (hgR : ∀ i, i < R.length → gd (st R i) = true) (hnL : L.length ≤ 16) (hnR : R.length ≤ 16) (hmz : m.size ≤ 1048576) :
    Calls Tryz.prog 34 #[.int .i64 6, .agg #[va, vb], .string m] w (GivesPm w ([(L, (insA (insA (dropS R m) (onF R m 3).1) (onF R m 3).2.1))], (onF R m 3).2.2)) := by
  have hdL : (dropS L m).length ≤ 16 := Nat.le_trans (List.length_filter_le _ _) hnL
  have hdR : (dropS R m).length ≤ 16 := Nat.le_trans (List.length_filter_le _ _) hnR
  have KO := Lib.hid (fun W (hW : Grew w W) => l11On_c vb R m 3 W (hb.grew hW) hgR (by omega) hmz (by omega))
  obtain ⟨A1, c1, rfl⟩ := strs_slice ha
  obtain ⟨A2, c2, rfl⟩ := strs_slice hb
  obtain ⟨w1, hw1⟩ : ∃ w1, w1 = w.alloc (.cells #[.slice A1 L.length c1, .slice A2 R.length c2] 29) := ⟨_, rfl⟩
  have hg1 : Grew w w1 := by rw [hw1]; exact (Grew.refl w).alloc _
  have hb0 : w1.heap[w.heap.size]? = some (.cells #[.slice A1 L.length c1, .slice A2 R.length c2] 29 (0, 0)) := by rw [hw1]; exact blk_new w _
  have p0 : ∀ W, Grew w1 W → W.cell? ⟨w.heap.size, 0, none⟩ = some (.slice A1 L.length c1) := fun W hW => by rw [blk_cell ((hW.block (blk_lt hb0)).trans hb0)]; rfl
  have p1 : ∀ W, Grew w1 W → W.cell? ⟨w.heap.size, 1, none⟩ = some (.slice A2 R.length c2) := fun W hW => by rw [blk_cell ((hW.block (blk_lt hb0)).trans hb0)]; rfl
  have hL := ha.grew hg1
  have hR := hb.grew hg1
  have HG1 := Lib.hid hg1
  have r1 := Grew.refl w1
  have d1 := r1.drew
  clear ha hb hgL hgR hb0 hg1
  have HnL := Lib.hid hnL
  have HnR := Lib.hid hnR
  have HdL := Lib.hid hdL
  have HdR := Lib.hid hdR
  generalize hX : onF R m 3 = X at *
  clear hX
  obtain ⟨XA, XB, XC⟩ := X
  generalize hn1 : L.length = n1 at p0 hL hw1 ⊢
  generalize hn2 : R.length = n2 at p1 hR hw1 KO ⊢
  have HN1 := Lib.hid hn1
  have HN2 := Lib.hid hn2
  clear hn1 hn2 hnL hnR hdL hdR
  go_enter Tryz.func34, Tryz.ntmps34
  go_wp2_with fail
  simp only [← hw1]
  clear hw1
  replace hL := hL.grew r1.drew
  replace hR := hR.grew r1.drew
  refine wp_region_held_drew (S := fun w' => Grew w1 w') (by kernel_rfl) d1 (fun hHeld => ?_)
  refine wpAnyH_take (i := 0) (oi := ?on93) (v := ?vn93) ?hin93 ?an93 ?bn93 ?cn93 ?qn93 (Or.inl ⟨?dn93, ?hyn93⟩) hHeld ?restn93
  case hin93 => (simp only [List.getElem?_toArray, List.getElem?_cons_zero]; exact rfl)
  case an93 => kernel_rfl
  case bn93 => kernel_rfl
  case cn93 => kernel_rfl
  case qn93 => exact fun _ _ _ h => h
  case dn93 => rfl
  case hyn93 => (intro z hSw; (try dsimp only at hSw); go_simp; (try with_reducible rfl))
  try simp only [Act.put, List.setIfInBounds_toArray, List.set_cons_zero, List.set_cons_succ]
  refine wpAnyH_take (i := 1) (oi := ?on94) (v := ?vn94) ?hin94 ?an94 ?bn94 ?cn94 ?qn94 (Or.inl ⟨?dn94, ?hyn94⟩) hHeld ?restn94
  case hin94 => (simp only [List.getElem?_toArray, List.getElem?_cons_succ, List.getElem?_cons_zero]; exact rfl)
  case an94 => kernel_rfl
  case bn94 => kernel_rfl
  case cn94 => kernel_rfl
  case qn94 => exact fun _ _ _ h => h
  case dn94 => rfl
  case hyn94 => (intro z hSw; (try dsimp only at hSw); go_simp; (try with_reducible rfl))
  try simp only [Act.put, List.setIfInBounds_toArray, List.set_cons_zero, List.set_cons_succ]
  refine wpAnyH_take (i := 2) (oi := ?on95) (v := ?vn95) ?hin95 ?an95 ?bn95 ?cn95 ?qn95 (Or.inl ⟨?dn95, ?hyn95⟩) hHeld ?restn95
  case hin95 => (simp only [List.getElem?_toArray, List.getElem?_cons_succ, List.getElem?_cons_zero]; exact rfl)
  case an95 => kernel_rfl
  case bn95 => kernel_rfl
  case cn95 => kernel_rfl
  case qn95 => exact fun _ _ _ h => h
  case dn95 => rfl
  case hyn95 => (intro z hSw; (try dsimp only at hSw); go_simp; (try with_reducible rfl))
  try simp only [Act.put, List.setIfInBounds_toArray, List.set_cons_zero, List.set_cons_succ]
  refine wpAnyH_take (i := 4) (oi := ?on96) (v := ?vn96) ?hin96 ?an96 ?bn96 ?cn96 ?qn96 (Or.inl ⟨?dn96, ?hyn96⟩) hHeld ?restn96
  case hin96 => (simp only [List.getElem?_toArray, List.getElem?_cons_succ, List.getElem?_cons_zero]; exact rfl)
  case an96 => kernel_rfl
  case bn96 => kernel_rfl
  case cn96 => kernel_rfl
  case qn96 => exact fun _ _ _ h => h
  case dn96 => rfl
  case hyn96 => (intro z hSw; (try dsimp only at hSw); go_simp; (try with_reducible rfl))
  try simp only [Act.put, List.setIfInBounds_toArray, List.set_cons_zero, List.set_cons_succ]
  refine wpAnyH_take (i := 5) (oi := ?on97) (v := ?vn97) ?hin97 ?an97 ?bn97 ?cn97 ?qn97 (Or.inl ⟨?dn97, ?hyn97⟩) hHeld ?restn97
  case hin97 => (simp only [List.getElem?_toArray, List.getElem?_cons_succ, List.getElem?_cons_zero]; exact rfl)
  case an97 => kernel_rfl
  case bn97 => kernel_rfl
  case cn97 => kernel_rfl
  case qn97 => exact fun _ _ _ h => h
  case dn97 => rfl
  case hyn97 => (intro z hSw; (try dsimp only at hSw); go_simp; (try with_reducible rfl))
  try simp only [Act.put, List.setIfInBounds_toArray, List.set_cons_zero, List.set_cons_succ]
  refine wpAnyH_take (i := 6) (oi := ?on98) (v := ?vn98) ?hin98 ?an98 ?bn98 ?cn98 ?qn98 (Or.inl ⟨?dn98, ?hyn98⟩) hHeld ?restn98
  case hin98 => (simp only [List.getElem?_toArray, List.getElem?_cons_succ, List.getElem?_cons_zero]; exact rfl)
  case an98 => kernel_rfl
  case bn98 => kernel_rfl
  case cn98 => kernel_rfl
  case qn98 => exact fun _ _ _ h => h
  case dn98 => rfl
  case hyn98 => (intro z hSw; (try dsimp only at hSw); go_simp; (try with_reducible rfl))
  try simp only [Act.put, List.setIfInBounds_toArray, List.set_cons_zero, List.set_cons_succ]
  refine wpAnyH_ready (rs := [3]) (by kernel_rfl) (by simp) ?_
  refine AllReadyH.cons (o := ?on99) ?hin99 ?restn99 AllReadyH.nil
  case hin99 => (simp only [List.getElem?_toArray, List.getElem?_cons_succ, List.getElem?_cons_zero]; exact rfl)
  intro K hK
  go_simp
  go_at_call 53
  refine (wo_sl _ _ _ L m _ hL (by have := HnL.out; omega)).mono ?_
  rintro e x1 ⟨Bsl, msl, dsl, rfl, hsl, hgx1⟩
  have hx1 : Grew w1 x1 := d1.trans hgx1
  replace hL := hL.grew hgx1
  replace hR := hR.grew hgx1
  refine hK.out _ _ ?_ (fun hHeld => ?_)
  · (try dsimp only); first | with_reducible assumption | exact hx1
  clear hK K
  try simp only [Act.put, List.setIfInBounds_toArray, List.set_cons_zero, List.set_cons_succ]
  refine wpAnyH_ready (rs := [7]) (by kernel_rfl) (by simp) ?_
  refine AllReadyH.cons (o := ?on100) ?hin100 ?restn100 AllReadyH.nil
  case hin100 => (simp only [List.getElem?_toArray, List.getElem?_cons_succ, List.getElem?_cons_zero]; exact rfl)
  intro K hK
  go_simp
  go_at_call 53
  refine (wo_sl _ _ _ R m _ hR (by have := HnR.out; omega)).mono ?_
  rintro e x2 ⟨Bsr, msr, dsr, rfl, hsr, hgx2⟩
  have hx2 : Grew w1 x2 := hx1.trans hgx2
  replace hL := hL.grew hgx2
  replace hR := hR.grew hgx2
  replace hsl := hsl.grew hgx2
  refine hK.out _ _ ?_ (fun hHeld => ?_)
  · (try dsimp only); first | with_reducible assumption | exact hx2
  clear hK K
  try simp only [Act.put, List.setIfInBounds_toArray, List.set_cons_zero, List.set_cons_succ]
  refine wpAnyH_take (i := 8) (oi := ?on101) (v := ?vn101) ?hin101 ?an101 ?bn101 ?cn101 ?qn101 (Or.inl ⟨?dn101, ?hyn101⟩) hHeld ?restn101
  case hin101 => (simp only [List.getElem?_toArray, List.getElem?_cons_succ, List.getElem?_cons_zero]; exact rfl)
  case an101 => kernel_rfl
  case bn101 => kernel_rfl
  case cn101 => kernel_rfl
  case qn101 => exact fun _ _ _ h => h
  case dn101 => rfl
  case hyn101 => (intro z hSw; (try dsimp only at hSw); go_simp; (try with_reducible rfl))
  try simp only [Act.put, List.setIfInBounds_toArray, List.set_cons_zero, List.set_cons_succ]
  refine wpAnyH_take (i := 9) (oi := ?on102) (v := ?vn102) ?hin102 ?an102 ?bn102 ?cn102 ?qn102 (Or.inl ⟨?dn102, ?hyn102⟩) hHeld ?restn102
  case hin102 => (simp only [List.getElem?_toArray, List.getElem?_cons_succ, List.getElem?_cons_zero]; exact rfl)
  case an102 => kernel_rfl
  case bn102 => kernel_rfl
  case cn102 => kernel_rfl
  case qn102 => exact fun _ _ _ h => h
  case dn102 => rfl
  case hyn102 => (intro z hSw; (try dsimp only at hSw); go_simp; (try with_reducible rfl))
  try simp only [Act.put, List.setIfInBounds_toArray, List.set_cons_zero, List.set_cons_succ]
  refine wpAnyH_done (by kernel_rfl) ?_ _
  go_wp2_with fail
  refine (KO.out _ (HG1.out.trans hx2)).mono ?_
  rintro e x3 ⟨rfl, hgx3⟩
  have hx3 : Grew w1 x3 := hx2.trans hgx3
  replace hL := hL.grew hgx3
  replace hR := hR.grew hgx3
  replace hsl := hsl.grew hgx3
  replace hsr := hsr.grew hgx3
  go_wp2_with fail
  have hd18 := hx3.drew
  replace hL := hL.grew (Grew.refl _).drew
  replace hR := hR.grew (Grew.refl _).drew
  replace hsl := hsl.grew (Grew.refl _).drew
  replace hsr := hsr.grew (Grew.refl _).drew
  refine wp_region_held_drew (S := fun w' => Grew w1 w') (by kernel_rfl) hd18 (fun hHeld => ?_)
  refine wpAnyH_take (i := 0) (oi := ?on103) (v := ?vn103) ?hin103 ?an103 ?bn103 ?cn103 ?qn103 (Or.inl ⟨?dn103, ?hyn103⟩) hHeld ?restn103
  case hin103 => (simp only [List.getElem?_toArray, List.getElem?_cons_zero]; exact rfl)
  case an103 => kernel_rfl
  case bn103 => kernel_rfl
  case cn103 => kernel_rfl
  case qn103 => exact fun _ _ _ h => h
  case dn103 => rfl
  case hyn103 => (intro z hSw; (try dsimp only at hSw); go_simp; (try with_reducible rfl))
  try simp only [Act.put, List.setIfInBounds_toArray, List.set_cons_zero, List.set_cons_succ]
  refine wpAnyH_take (i := 1) (oi := ?on104) (v := ?vn104) ?hin104 ?an104 ?bn104 ?cn104 ?qn104 (Or.inl ⟨?dn104, ?hyn104⟩) hHeld ?restn104
  case hin104 => (simp only [List.getElem?_toArray, List.getElem?_cons_succ, List.getElem?_cons_zero]; exact rfl)
  case an104 => kernel_rfl
  case bn104 => kernel_rfl
  case cn104 => kernel_rfl
  case qn104 => exact fun _ _ _ h => h
  case dn104 => rfl
  case hyn104 => (intro z hSw; (try dsimp only at hSw); go_simp; (try with_reducible rfl))
  try simp only [Act.put, List.setIfInBounds_toArray, List.set_cons_zero, List.set_cons_succ]
  refine wpAnyH_take (i := 2) (oi := ?on105) (v := ?vn105) ?hin105 ?an105 ?bn105 ?cn105 ?qn105 (Or.inl ⟨?dn105, ?hyn105⟩) hHeld ?restn105
  case hin105 => (simp only [List.getElem?_toArray, List.getElem?_cons_succ, List.getElem?_cons_zero]; exact rfl)
  case an105 => kernel_rfl
  case bn105 => kernel_rfl
  case cn105 => kernel_rfl
  case qn105 => exact fun _ _ _ h => h
  case dn105 => rfl
  case hyn105 => (intro z hSw; (try dsimp only at hSw); go_simp; (try with_reducible rfl))
  try simp only [Act.put, List.setIfInBounds_toArray, List.set_cons_zero, List.set_cons_succ]
  refine wpAnyH_take (i := 3) (oi := ?on106) (v := ?vn106) ?hin106 ?an106 ?bn106 ?cn106 ?qn106 (Or.inl ⟨?dn106, ?hyn106⟩) hHeld ?restn106
  case hin106 => (simp only [List.getElem?_toArray, List.getElem?_cons_succ, List.getElem?_cons_zero]; exact rfl)
  case an106 => kernel_rfl
  case bn106 => kernel_rfl
  case cn106 => kernel_rfl
  case qn106 => exact fun _ _ _ h => h
  case dn106 => rfl
  case hyn106 => (intro z hSw; (try dsimp only at hSw); go_simp; (try with_reducible rfl))
  try simp only [Act.put, List.setIfInBounds_toArray, List.set_cons_zero, List.set_cons_succ]
  refine wpAnyH_take (i := 5) (oi := ?on107) (v := ?vn107) ?hin107 ?an107 ?bn107 ?cn107 ?qn107 (Or.inl ⟨?dn107, ?hyn107⟩) hHeld ?restn107
  case hin107 => (simp only [List.getElem?_toArray, List.getElem?_cons_succ, List.getElem?_cons_zero]; exact rfl)
  case an107 => kernel_rfl
  case bn107 => kernel_rfl
  case cn107 => kernel_rfl
  case qn107 => exact fun _ _ _ h => h
  case dn107 => rfl
  case hyn107 => (intro z hSw; (try dsimp only at hSw); go_simp; (try with_reducible rfl))
  try simp only [Act.put, List.setIfInBounds_toArray, List.set_cons_zero, List.set_cons_succ]
  refine wpAnyH_take (i := 9) (oi := ?on108) (v := ?vn108) ?hin108 ?an108 ?bn108 ?cn108 ?qn108 (Or.inl ⟨?dn108, ?hyn108⟩) hHeld ?restn108
  case hin108 => (simp only [List.getElem?_toArray, List.getElem?_cons_succ, List.getElem?_cons_zero]; exact rfl)
  case an108 => kernel_rfl
  case bn108 => kernel_rfl
  case cn108 => kernel_rfl
  case qn108 => exact fun _ _ _ h => h
  case dn108 => rfl
  case hyn108 => (intro z hSw; (try dsimp only at hSw); go_simp; (try with_reducible rfl))
  try simp only [Act.put, List.setIfInBounds_toArray, List.set_cons_zero, List.set_cons_succ]
  refine wpAnyH_ready (rs := [4]) (by kernel_rfl) (by simp) ?_
  refine AllReadyH.cons (o := ?on109) ?hin109 ?restn109 AllReadyH.nil
  case hin109 => (simp only [List.getElem?_toArray, List.getElem?_cons_succ, List.getElem?_cons_zero]; exact rfl)
  intro K hK
  go_simp
  go_at_call 32
  refine (ins_sl _ _ _ (dropS R m) XA _ hsr (by have := HdR.out; omega)).mono ?_
  rintro e x4 ⟨Bs1, ms1, ds1, rfl, hs1, hgx4⟩
  have hx4 : Grew w1 x4 := hd18.trans hgx4
  replace hL := hL.grew hgx4
  replace hR := hR.grew hgx4
  replace hsl := hsl.grew hgx4
  replace hsr := hsr.grew hgx4
  refine hK.out _ _ ?_ (fun hHeld => ?_)
  · (try dsimp only); first | with_reducible assumption | exact hx4
  clear hK K
  try simp only [Act.put, List.setIfInBounds_toArray, List.set_cons_zero, List.set_cons_succ]
  refine wpAnyH_ready (rs := [6]) (by kernel_rfl) (by simp) ?_
  refine AllReadyH.cons (o := ?on110) ?hin110 ?restn110 AllReadyH.nil
  case hin110 => (simp only [List.getElem?_toArray, List.getElem?_cons_succ, List.getElem?_cons_zero]; exact rfl)
  intro K hK
  go_simp
  go_at_call 32
  refine (ins_sl _ _ _ (insA (dropS R m) XA) XB _ hs1 (by have := insA_len (dropS R m) XA; have : ((dropS R m)).length ≤ 1048575 := (by have := HdR.out; omega); omega)).mono ?_
  rintro e x5 ⟨Bs2, ms2, ds2, rfl, hs2, hgx5⟩
  have hx5 : Grew w1 x5 := hx4.trans hgx5
  replace hL := hL.grew hgx5
  replace hR := hR.grew hgx5
  replace hsl := hsl.grew hgx5
  replace hsr := hsr.grew hgx5
  replace hs1 := hs1.grew hgx5
  refine hK.out _ _ ?_ (fun hHeld => ?_)
  · (try dsimp only); first | with_reducible assumption | exact hx5
  clear hK K
  try simp only [Act.put, List.setIfInBounds_toArray, List.set_cons_zero, List.set_cons_succ]
  refine wpAnyH_ready (rs := [7]) (by kernel_rfl) (by simp) ?_
  refine AllReadyH.cons (o := ?on111) ?hin111 ?restn111 AllReadyH.nil
  case hin111 => (simp only [List.getElem?_toArray, List.getElem?_cons_succ, List.getElem?_cons_zero]; exact rfl)
  intro K hK
  go_simp
  obtain ⟨x6, hwx6⟩ : ∃ W, W = x5.alloc (.cells #[.slice A1 n1 c1, .slice Bs2 ms2 ds2] 22) := ⟨_, rfl⟩
  have hgx6 : Grew x5 x6 := by rw [hwx6]; exact (Grew.refl _).alloc _
  have hx6 : Grew w1 x6 := hx5.trans hgx6
  have hlit : x6.heap[x5.heap.size]? = some (.cells #[.slice A1 n1 c1, .slice Bs2 ms2 ds2] 22 (0, 0)) := by rw [hwx6]; exact blk_new _ _
  try simp only [← hwx6]
  clear hwx6
  replace hL := hL.grew hgx6
  replace hR := hR.grew hgx6
  replace hsl := hsl.grew hgx6
  replace hsr := hsr.grew hgx6
  replace hs1 := hs1.grew hgx6
  replace hs2 := hs2.grew hgx6
  refine hK.out _ _ ?_ (fun hHeld => ?_)
  · (try dsimp only); first | with_reducible assumption | exact hx6
  clear hK K
  try simp only [Act.put, List.setIfInBounds_toArray, List.set_cons_zero, List.set_cons_succ]
  refine wpAnyH_ready (rs := [8]) (by kernel_rfl) (by simp) ?_
  refine AllReadyH.cons (o := ?on112) ?hin112 ?restn112 AllReadyH.nil
  case hin112 => (simp only [List.getElem?_toArray, List.getElem?_cons_succ, List.getElem?_cons_zero]; exact rfl)
  intro K hK
  go_simp
  have hsd := sdR_one hlit hL hs2
  have hll : ∀ x ∈ ([(L, (insA (insA (dropS R m) XA) XB))] : List Ms), x.1.length ≤ 1048576 ∧ x.2.length ≤ 1048576 := by
    intro x hx; simp only [List.mem_cons, List.not_mem_nil, or_false] at hx; rcases hx with rfl <;> refine ⟨?_, ?_⟩ <;> dsimp only
    · exact (by have := HnL.out; omega)
    · exact (by have := insA_len (insA (dropS R m) XA) XB; have : ((insA (dropS R m) XA)).length ≤ 1048575 := (by have := insA_len (dropS R m) XA; have : ((dropS R m)).length ≤ 1048574 := (by have := HdR.out; omega); omega); omega)
  go_at_call 31
  refine (sq_sl _ 2 [(L, (insA (insA (dropS R m) XA) XB))] _ rfl hsd (by simp) hll).mono ?_
  rintro e x7 ⟨Bq, mq, dq, rfl, hq, hgx7⟩
  have hx7 : Grew w1 x7 := hx6.trans hgx7
  replace hL := hL.grew hgx7
  replace hR := hR.grew hgx7
  replace hsl := hsl.grew hgx7
  replace hsr := hsr.grew hgx7
  replace hs1 := hs1.grew hgx7
  replace hs2 := hs2.grew hgx7
  refine hK.out _ _ ?_ (fun hHeld => ?_)
  · (try dsimp only); first | with_reducible assumption | exact hx7
  clear hK K
  try simp only [Act.put, List.setIfInBounds_toArray, List.set_cons_zero, List.set_cons_succ]
  refine wpAnyH_take (i := 10) (oi := ?on113) (v := ?vn113) ?hin113 ?an113 ?bn113 ?cn113 ?qn113 (Or.inl ⟨?dn113, ?hyn113⟩) hHeld ?restn113
  case hin113 => (simp only [List.getElem?_toArray, List.getElem?_cons_succ, List.getElem?_cons_zero]; exact rfl)
  case an113 => kernel_rfl
  case bn113 => kernel_rfl
  case cn113 => kernel_rfl
  case qn113 => exact fun _ _ _ h => h
  case dn113 => rfl
  case hyn113 => (intro z hSw; (try dsimp only at hSw); go_simp; (try with_reducible rfl))
  try simp only [Act.put, List.setIfInBounds_toArray, List.set_cons_zero, List.set_cons_succ]
  refine wpAnyH_take (i := 11) (oi := ?on114) (v := ?vn114) ?hin114 ?an114 ?bn114 ?cn114 ?qn114 (Or.inl ⟨?dn114, ?hyn114⟩) hHeld ?restn114
  case hin114 => (simp only [List.getElem?_toArray, List.getElem?_cons_succ, List.getElem?_cons_zero]; exact rfl)
  case an114 => kernel_rfl
  case bn114 => kernel_rfl
  case cn114 => kernel_rfl
  case qn114 => exact fun _ _ _ h => h
  case dn114 => rfl
  case hyn114 => (intro z hSw; (try dsimp only at hSw); go_simp; (try with_reducible rfl))
  try simp only [Act.put, List.setIfInBounds_toArray, List.set_cons_zero, List.set_cons_succ]
  refine wpAnyH_done (by kernel_rfl) ?_ _
  go_wp2_with fail
  go_ret2
  exact ⟨_, _, _, rfl, fun _ => hq, HG1.out.trans hx7⟩

set_option maxHeartbeats 4000000 in
set_option maxRecDepth 8192 in
theorem l11Local_7 (m : ByteArray) (va vb : Value) (L R : List ByteArray) (w : World) (ha : Strs w va L) (hb : Strs w vb R) (hgL : ∀ i, i < L.length → gd (st L i) = true) (hgR : ∀ i, i < R.length → gd (st R i) = true) (hnL : L.length ≤ 16) (hnR : R.length ≤ 16) (hmz : m.size ≤ 1048576) :
    Calls Tryz.prog 34 #[.int .i64 7, .agg #[va, vb], .string m] w (GivesPm w ([((dropS L m), (insA R (onF L m 4).1)), ((insA (dropS L m) (onF L m 4).2.1), R)], (onF L m 4).2.2)) := by
  have hdL : (dropS L m).length ≤ 16 := Nat.le_trans (List.length_filter_le _ _) hnL
  have hdR : (dropS R m).length ≤ 16 := Nat.le_trans (List.length_filter_le _ _) hnR
  have KO := Lib.hid (fun W (hW : Grew w W) => l11On_c va L m 4 W (ha.grew hW) hgL (by omega) hmz (by omega))
  obtain ⟨A1, c1, rfl⟩ := strs_slice ha
  obtain ⟨A2, c2, rfl⟩ := strs_slice hb
  obtain ⟨w1, hw1⟩ : ∃ w1, w1 = w.alloc (.cells #[.slice A1 L.length c1, .slice A2 R.length c2] 29) := ⟨_, rfl⟩
  have hg1 : Grew w w1 := by rw [hw1]; exact (Grew.refl w).alloc _
  have hb0 : w1.heap[w.heap.size]? = some (.cells #[.slice A1 L.length c1, .slice A2 R.length c2] 29 (0, 0)) := by rw [hw1]; exact blk_new w _
  have p0 : ∀ W, Grew w1 W → W.cell? ⟨w.heap.size, 0, none⟩ = some (.slice A1 L.length c1) := fun W hW => by rw [blk_cell ((hW.block (blk_lt hb0)).trans hb0)]; rfl
  have p1 : ∀ W, Grew w1 W → W.cell? ⟨w.heap.size, 1, none⟩ = some (.slice A2 R.length c2) := fun W hW => by rw [blk_cell ((hW.block (blk_lt hb0)).trans hb0)]; rfl
  have hL := ha.grew hg1
  have hR := hb.grew hg1
  have HG1 := Lib.hid hg1
  have r1 := Grew.refl w1
  have d1 := r1.drew
  clear ha hb hgL hgR hb0 hg1
  have HnL := Lib.hid hnL
  have HnR := Lib.hid hnR
  have HdL := Lib.hid hdL
  have HdR := Lib.hid hdR
  generalize hX : onF L m 4 = X at *
  clear hX
  obtain ⟨XA, XB, XC⟩ := X
  generalize hn1 : L.length = n1 at p0 hL hw1 KO ⊢
  generalize hn2 : R.length = n2 at p1 hR hw1 ⊢
  have HN1 := Lib.hid hn1
  have HN2 := Lib.hid hn2
  clear hn1 hn2 hnL hnR hdL hdR
  go_enter Tryz.func34, Tryz.ntmps34
  go_wp2_with fail
  simp only [← hw1]
  clear hw1
  replace hL := hL.grew r1.drew
  replace hR := hR.grew r1.drew
  refine wp_region_held_drew (S := fun w' => Grew w1 w') (by kernel_rfl) d1 (fun hHeld => ?_)
  refine wpAnyH_take (i := 0) (oi := ?on115) (v := ?vn115) ?hin115 ?an115 ?bn115 ?cn115 ?qn115 (Or.inl ⟨?dn115, ?hyn115⟩) hHeld ?restn115
  case hin115 => (simp only [List.getElem?_toArray, List.getElem?_cons_zero]; exact rfl)
  case an115 => kernel_rfl
  case bn115 => kernel_rfl
  case cn115 => kernel_rfl
  case qn115 => exact fun _ _ _ h => h
  case dn115 => rfl
  case hyn115 => (intro z hSw; (try dsimp only at hSw); go_simp; (try with_reducible rfl))
  try simp only [Act.put, List.setIfInBounds_toArray, List.set_cons_zero, List.set_cons_succ]
  refine wpAnyH_take (i := 1) (oi := ?on116) (v := ?vn116) ?hin116 ?an116 ?bn116 ?cn116 ?qn116 (Or.inl ⟨?dn116, ?hyn116⟩) hHeld ?restn116
  case hin116 => (simp only [List.getElem?_toArray, List.getElem?_cons_succ, List.getElem?_cons_zero]; exact rfl)
  case an116 => kernel_rfl
  case bn116 => kernel_rfl
  case cn116 => kernel_rfl
  case qn116 => exact fun _ _ _ h => h
  case dn116 => rfl
  case hyn116 => (intro z hSw; (try dsimp only at hSw); go_simp; (try with_reducible rfl))
  try simp only [Act.put, List.setIfInBounds_toArray, List.set_cons_zero, List.set_cons_succ]
  refine wpAnyH_take (i := 2) (oi := ?on117) (v := ?vn117) ?hin117 ?an117 ?bn117 ?cn117 ?qn117 (Or.inl ⟨?dn117, ?hyn117⟩) hHeld ?restn117
  case hin117 => (simp only [List.getElem?_toArray, List.getElem?_cons_succ, List.getElem?_cons_zero]; exact rfl)
  case an117 => kernel_rfl
  case bn117 => kernel_rfl
  case cn117 => kernel_rfl
  case qn117 => exact fun _ _ _ h => h
  case dn117 => rfl
  case hyn117 => (intro z hSw; (try dsimp only at hSw); go_simp; (try with_reducible rfl))
  try simp only [Act.put, List.setIfInBounds_toArray, List.set_cons_zero, List.set_cons_succ]
  refine wpAnyH_take (i := 4) (oi := ?on118) (v := ?vn118) ?hin118 ?an118 ?bn118 ?cn118 ?qn118 (Or.inl ⟨?dn118, ?hyn118⟩) hHeld ?restn118
  case hin118 => (simp only [List.getElem?_toArray, List.getElem?_cons_succ, List.getElem?_cons_zero]; exact rfl)
  case an118 => kernel_rfl
  case bn118 => kernel_rfl
  case cn118 => kernel_rfl
  case qn118 => exact fun _ _ _ h => h
  case dn118 => rfl
  case hyn118 => (intro z hSw; (try dsimp only at hSw); go_simp; (try with_reducible rfl))
  try simp only [Act.put, List.setIfInBounds_toArray, List.set_cons_zero, List.set_cons_succ]
  refine wpAnyH_take (i := 5) (oi := ?on119) (v := ?vn119) ?hin119 ?an119 ?bn119 ?cn119 ?qn119 (Or.inl ⟨?dn119, ?hyn119⟩) hHeld ?restn119
  case hin119 => (simp only [List.getElem?_toArray, List.getElem?_cons_succ, List.getElem?_cons_zero]; exact rfl)
  case an119 => kernel_rfl
  case bn119 => kernel_rfl
  case cn119 => kernel_rfl
  case qn119 => exact fun _ _ _ h => h
  case dn119 => rfl
  case hyn119 => (intro z hSw; (try dsimp only at hSw); go_simp; (try with_reducible rfl))
  try simp only [Act.put, List.setIfInBounds_toArray, List.set_cons_zero, List.set_cons_succ]
  refine wpAnyH_take (i := 6) (oi := ?on120) (v := ?vn120) ?hin120 ?an120 ?bn120 ?cn120 ?qn120 (Or.inl ⟨?dn120, ?hyn120⟩) hHeld ?restn120
  case hin120 => (simp only [List.getElem?_toArray, List.getElem?_cons_succ, List.getElem?_cons_zero]; exact rfl)
  case an120 => kernel_rfl
  case bn120 => kernel_rfl
  case cn120 => kernel_rfl
  case qn120 => exact fun _ _ _ h => h
  case dn120 => rfl
  case hyn120 => (intro z hSw; (try dsimp only at hSw); go_simp; (try with_reducible rfl))
  try simp only [Act.put, List.setIfInBounds_toArray, List.set_cons_zero, List.set_cons_succ]
  refine wpAnyH_ready (rs := [3]) (by kernel_rfl) (by simp) ?_
  refine AllReadyH.cons (o := ?on121) ?hin121 ?restn121 AllReadyH.nil
  case hin121 => (simp only [List.getElem?_toArray, List.getElem?_cons_succ, List.getElem?_cons_zero]; exact rfl)
  intro K hK
  go_simp
  go_at_call 53
  refine (wo_sl _ _ _ L m _ hL (by have := HnL.out; omega)).mono ?_
  rintro e x1 ⟨Bsl, msl, dsl, rfl, hsl, hgx1⟩
  have hx1 : Grew w1 x1 := d1.trans hgx1
  replace hL := hL.grew hgx1
  replace hR := hR.grew hgx1
  refine hK.out _ _ ?_ (fun hHeld => ?_)
  · (try dsimp only); first | with_reducible assumption | exact hx1
  clear hK K
  try simp only [Act.put, List.setIfInBounds_toArray, List.set_cons_zero, List.set_cons_succ]
  refine wpAnyH_ready (rs := [7]) (by kernel_rfl) (by simp) ?_
  refine AllReadyH.cons (o := ?on122) ?hin122 ?restn122 AllReadyH.nil
  case hin122 => (simp only [List.getElem?_toArray, List.getElem?_cons_succ, List.getElem?_cons_zero]; exact rfl)
  intro K hK
  go_simp
  go_at_call 53
  refine (wo_sl _ _ _ R m _ hR (by have := HnR.out; omega)).mono ?_
  rintro e x2 ⟨Bsr, msr, dsr, rfl, hsr, hgx2⟩
  have hx2 : Grew w1 x2 := hx1.trans hgx2
  replace hL := hL.grew hgx2
  replace hR := hR.grew hgx2
  replace hsl := hsl.grew hgx2
  refine hK.out _ _ ?_ (fun hHeld => ?_)
  · (try dsimp only); first | with_reducible assumption | exact hx2
  clear hK K
  try simp only [Act.put, List.setIfInBounds_toArray, List.set_cons_zero, List.set_cons_succ]
  refine wpAnyH_take (i := 8) (oi := ?on123) (v := ?vn123) ?hin123 ?an123 ?bn123 ?cn123 ?qn123 (Or.inl ⟨?dn123, ?hyn123⟩) hHeld ?restn123
  case hin123 => (simp only [List.getElem?_toArray, List.getElem?_cons_succ, List.getElem?_cons_zero]; exact rfl)
  case an123 => kernel_rfl
  case bn123 => kernel_rfl
  case cn123 => kernel_rfl
  case qn123 => exact fun _ _ _ h => h
  case dn123 => rfl
  case hyn123 => (intro z hSw; (try dsimp only at hSw); go_simp; (try with_reducible rfl))
  try simp only [Act.put, List.setIfInBounds_toArray, List.set_cons_zero, List.set_cons_succ]
  refine wpAnyH_take (i := 9) (oi := ?on124) (v := ?vn124) ?hin124 ?an124 ?bn124 ?cn124 ?qn124 (Or.inl ⟨?dn124, ?hyn124⟩) hHeld ?restn124
  case hin124 => (simp only [List.getElem?_toArray, List.getElem?_cons_succ, List.getElem?_cons_zero]; exact rfl)
  case an124 => kernel_rfl
  case bn124 => kernel_rfl
  case cn124 => kernel_rfl
  case qn124 => exact fun _ _ _ h => h
  case dn124 => rfl
  case hyn124 => (intro z hSw; (try dsimp only at hSw); go_simp; (try with_reducible rfl))
  try simp only [Act.put, List.setIfInBounds_toArray, List.set_cons_zero, List.set_cons_succ]
  refine wpAnyH_done (by kernel_rfl) ?_ _
  go_wp2_with fail
  refine (KO.out _ (HG1.out.trans hx2)).mono ?_
  rintro e x3 ⟨rfl, hgx3⟩
  have hx3 : Grew w1 x3 := hx2.trans hgx3
  replace hL := hL.grew hgx3
  replace hR := hR.grew hgx3
  replace hsl := hsl.grew hgx3
  replace hsr := hsr.grew hgx3
  go_wp2_with fail
  have hd21 := hx3.drew
  replace hL := hL.grew (Grew.refl _).drew
  replace hR := hR.grew (Grew.refl _).drew
  replace hsl := hsl.grew (Grew.refl _).drew
  replace hsr := hsr.grew (Grew.refl _).drew
  refine wp_region_held_drew (S := fun w' => Grew w1 w') (by kernel_rfl) hd21 (fun hHeld => ?_)
  refine wpAnyH_take (i := 0) (oi := ?on125) (v := ?vn125) ?hin125 ?an125 ?bn125 ?cn125 ?qn125 (Or.inl ⟨?dn125, ?hyn125⟩) hHeld ?restn125
  case hin125 => (simp only [List.getElem?_toArray, List.getElem?_cons_zero]; exact rfl)
  case an125 => kernel_rfl
  case bn125 => kernel_rfl
  case cn125 => kernel_rfl
  case qn125 => exact fun _ _ _ h => h
  case dn125 => rfl
  case hyn125 => (intro z hSw; (try dsimp only at hSw); go_simp; (try with_reducible rfl))
  try simp only [Act.put, List.setIfInBounds_toArray, List.set_cons_zero, List.set_cons_succ]
  refine wpAnyH_take (i := 1) (oi := ?on126) (v := ?vn126) ?hin126 ?an126 ?bn126 ?cn126 ?qn126 (Or.inl ⟨?dn126, ?hyn126⟩) hHeld ?restn126
  case hin126 => (simp only [List.getElem?_toArray, List.getElem?_cons_succ, List.getElem?_cons_zero]; exact rfl)
  case an126 => kernel_rfl
  case bn126 => kernel_rfl
  case cn126 => kernel_rfl
  case qn126 => exact fun _ _ _ h => h
  case dn126 => rfl
  case hyn126 => (intro z hSw; (try dsimp only at hSw); go_simp; (try with_reducible rfl))
  try simp only [Act.put, List.setIfInBounds_toArray, List.set_cons_zero, List.set_cons_succ]
  refine wpAnyH_take (i := 2) (oi := ?on127) (v := ?vn127) ?hin127 ?an127 ?bn127 ?cn127 ?qn127 (Or.inl ⟨?dn127, ?hyn127⟩) hHeld ?restn127
  case hin127 => (simp only [List.getElem?_toArray, List.getElem?_cons_succ, List.getElem?_cons_zero]; exact rfl)
  case an127 => kernel_rfl
  case bn127 => kernel_rfl
  case cn127 => kernel_rfl
  case qn127 => exact fun _ _ _ h => h
  case dn127 => rfl
  case hyn127 => (intro z hSw; (try dsimp only at hSw); go_simp; (try with_reducible rfl))
  try simp only [Act.put, List.setIfInBounds_toArray, List.set_cons_zero, List.set_cons_succ]
  refine wpAnyH_take (i := 3) (oi := ?on128) (v := ?vn128) ?hin128 ?an128 ?bn128 ?cn128 ?qn128 (Or.inl ⟨?dn128, ?hyn128⟩) hHeld ?restn128
  case hin128 => (simp only [List.getElem?_toArray, List.getElem?_cons_succ, List.getElem?_cons_zero]; exact rfl)
  case an128 => kernel_rfl
  case bn128 => kernel_rfl
  case cn128 => kernel_rfl
  case qn128 => exact fun _ _ _ h => h
  case dn128 => rfl
  case hyn128 => (intro z hSw; (try dsimp only at hSw); go_simp; (try with_reducible rfl))
  try simp only [Act.put, List.setIfInBounds_toArray, List.set_cons_zero, List.set_cons_succ]
  refine wpAnyH_take (i := 5) (oi := ?on129) (v := ?vn129) ?hin129 ?an129 ?bn129 ?cn129 ?qn129 (Or.inl ⟨?dn129, ?hyn129⟩) hHeld ?restn129
  case hin129 => (simp only [List.getElem?_toArray, List.getElem?_cons_succ, List.getElem?_cons_zero]; exact rfl)
  case an129 => kernel_rfl
  case bn129 => kernel_rfl
  case cn129 => kernel_rfl
  case qn129 => exact fun _ _ _ h => h
  case dn129 => rfl
  case hyn129 => (intro z hSw; (try dsimp only at hSw); go_simp; (try with_reducible rfl))
  try simp only [Act.put, List.setIfInBounds_toArray, List.set_cons_zero, List.set_cons_succ]
  refine wpAnyH_take (i := 6) (oi := ?on130) (v := ?vn130) ?hin130 ?an130 ?bn130 ?cn130 ?qn130 (Or.inl ⟨?dn130, ?hyn130⟩) hHeld ?restn130
  case hin130 => (simp only [List.getElem?_toArray, List.getElem?_cons_succ, List.getElem?_cons_zero]; exact rfl)
  case an130 => kernel_rfl
  case bn130 => kernel_rfl
  case cn130 => kernel_rfl
  case qn130 => exact fun _ _ _ h => h
  case dn130 => rfl
  case hyn130 => (intro z hSw; (try dsimp only at hSw); go_simp; (try with_reducible rfl))
  try simp only [Act.put, List.setIfInBounds_toArray, List.set_cons_zero, List.set_cons_succ]
  refine wpAnyH_take (i := 8) (oi := ?on131) (v := ?vn131) ?hin131 ?an131 ?bn131 ?cn131 ?qn131 (Or.inl ⟨?dn131, ?hyn131⟩) hHeld ?restn131
  case hin131 => (simp only [List.getElem?_toArray, List.getElem?_cons_succ, List.getElem?_cons_zero]; exact rfl)
  case an131 => kernel_rfl
  case bn131 => kernel_rfl
  case cn131 => kernel_rfl
  case qn131 => exact fun _ _ _ h => h
  case dn131 => rfl
  case hyn131 => (intro z hSw; (try dsimp only at hSw); go_simp; (try with_reducible rfl))
  try simp only [Act.put, List.setIfInBounds_toArray, List.set_cons_zero, List.set_cons_succ]
  refine wpAnyH_take (i := 9) (oi := ?on132) (v := ?vn132) ?hin132 ?an132 ?bn132 ?cn132 ?qn132 (Or.inl ⟨?dn132, ?hyn132⟩) hHeld ?restn132
  case hin132 => (simp only [List.getElem?_toArray, List.getElem?_cons_succ, List.getElem?_cons_zero]; exact rfl)
  case an132 => kernel_rfl
  case bn132 => kernel_rfl
  case cn132 => kernel_rfl
  case qn132 => exact fun _ _ _ h => h
  case dn132 => rfl
  case hyn132 => (intro z hSw; (try dsimp only at hSw); go_simp; (try with_reducible rfl))
  try simp only [Act.put, List.setIfInBounds_toArray, List.set_cons_zero, List.set_cons_succ]
  refine wpAnyH_take (i := 12) (oi := ?on133) (v := ?vn133) ?hin133 ?an133 ?bn133 ?cn133 ?qn133 (Or.inl ⟨?dn133, ?hyn133⟩) hHeld ?restn133
  case hin133 => (simp only [List.getElem?_toArray, List.getElem?_cons_succ, List.getElem?_cons_zero]; exact rfl)
  case an133 => kernel_rfl
  case bn133 => kernel_rfl
  case cn133 => kernel_rfl
  case qn133 => exact fun _ _ _ h => h
  case dn133 => rfl
  case hyn133 => (intro z hSw; (try dsimp only at hSw); go_simp; (try with_reducible rfl))
  try simp only [Act.put, List.setIfInBounds_toArray, List.set_cons_zero, List.set_cons_succ]
  refine wpAnyH_ready (rs := [4]) (by kernel_rfl) (by simp) ?_
  refine AllReadyH.cons (o := ?on134) ?hin134 ?restn134 AllReadyH.nil
  case hin134 => (simp only [List.getElem?_toArray, List.getElem?_cons_succ, List.getElem?_cons_zero]; exact rfl)
  intro K hK
  go_simp
  go_at_call 32
  refine (ins_sl _ _ _ R XA _ hR (by have := HnR.out; omega)).mono ?_
  rintro e x4 ⟨Bs1, ms1, ds1, rfl, hs1, hgx4⟩
  have hx4 : Grew w1 x4 := hd21.trans hgx4
  replace hL := hL.grew hgx4
  replace hR := hR.grew hgx4
  replace hsl := hsl.grew hgx4
  replace hsr := hsr.grew hgx4
  refine hK.out _ _ ?_ (fun hHeld => ?_)
  · (try dsimp only); first | with_reducible assumption | exact hx4
  clear hK K
  try simp only [Act.put, List.setIfInBounds_toArray, List.set_cons_zero, List.set_cons_succ]
  refine wpAnyH_ready (rs := [7]) (by kernel_rfl) (by simp) ?_
  refine AllReadyH.cons (o := ?on135) ?hin135 ?restn135 AllReadyH.nil
  case hin135 => (simp only [List.getElem?_toArray, List.getElem?_cons_succ, List.getElem?_cons_zero]; exact rfl)
  intro K hK
  go_simp
  go_at_call 32
  refine (ins_sl _ _ _ (dropS L m) XB _ hsl (by have := HdL.out; omega)).mono ?_
  rintro e x5 ⟨Bs2, ms2, ds2, rfl, hs2, hgx5⟩
  have hx5 : Grew w1 x5 := hx4.trans hgx5
  replace hL := hL.grew hgx5
  replace hR := hR.grew hgx5
  replace hsl := hsl.grew hgx5
  replace hsr := hsr.grew hgx5
  replace hs1 := hs1.grew hgx5
  refine hK.out _ _ ?_ (fun hHeld => ?_)
  · (try dsimp only); first | with_reducible assumption | exact hx5
  clear hK K
  try simp only [Act.put, List.setIfInBounds_toArray, List.set_cons_zero, List.set_cons_succ]
  refine wpAnyH_ready (rs := [10]) (by kernel_rfl) (by simp) ?_
  refine AllReadyH.cons (o := ?on136) ?hin136 ?restn136 AllReadyH.nil
  case hin136 => (simp only [List.getElem?_toArray, List.getElem?_cons_succ, List.getElem?_cons_zero]; exact rfl)
  intro K hK
  go_simp
  obtain ⟨x6, hwx6⟩ : ∃ W, W = x5.alloc (.cells #[.slice Bsl msl dsl, .slice Bs1 ms1 ds1, .slice Bs2 ms2 ds2, .slice A2 n2 c2] 22) := ⟨_, rfl⟩
  have hgx6 : Grew x5 x6 := by rw [hwx6]; exact (Grew.refl _).alloc _
  have hx6 : Grew w1 x6 := hx5.trans hgx6
  have hlit : x6.heap[x5.heap.size]? = some (.cells #[.slice Bsl msl dsl, .slice Bs1 ms1 ds1, .slice Bs2 ms2 ds2, .slice A2 n2 c2] 22 (0, 0)) := by rw [hwx6]; exact blk_new _ _
  try simp only [← hwx6]
  clear hwx6
  replace hL := hL.grew hgx6
  replace hR := hR.grew hgx6
  replace hsl := hsl.grew hgx6
  replace hsr := hsr.grew hgx6
  replace hs1 := hs1.grew hgx6
  replace hs2 := hs2.grew hgx6
  refine hK.out _ _ ?_ (fun hHeld => ?_)
  · (try dsimp only); first | with_reducible assumption | exact hx6
  clear hK K
  try simp only [Act.put, List.setIfInBounds_toArray, List.set_cons_zero, List.set_cons_succ]
  refine wpAnyH_ready (rs := [11]) (by kernel_rfl) (by simp) ?_
  refine AllReadyH.cons (o := ?on137) ?hin137 ?restn137 AllReadyH.nil
  case hin137 => (simp only [List.getElem?_toArray, List.getElem?_cons_succ, List.getElem?_cons_zero]; exact rfl)
  intro K hK
  go_simp
  have hsd := sdR_two hlit hsl hs1 hs2 hR
  have hll : ∀ x ∈ ([((dropS L m), (insA R XA)), ((insA (dropS L m) XB), R)] : List Ms), x.1.length ≤ 1048576 ∧ x.2.length ≤ 1048576 := by
    intro x hx; simp only [List.mem_cons, List.not_mem_nil, or_false] at hx; rcases hx with rfl | rfl <;> refine ⟨?_, ?_⟩ <;> dsimp only
    · exact (by have := HdL.out; omega)
    · exact (by have := insA_len R XA; have : (R).length ≤ 1048575 := (by have := HnR.out; omega); omega)
    · exact (by have := insA_len (dropS L m) XB; have : ((dropS L m)).length ≤ 1048575 := (by have := HdL.out; omega); omega)
    · exact (by have := HnR.out; omega)
  go_at_call 31
  refine (sq_sl _ 4 [((dropS L m), (insA R XA)), ((insA (dropS L m) XB), R)] _ rfl hsd (by simp) hll).mono ?_
  rintro e x7 ⟨Bq, mq, dq, rfl, hq, hgx7⟩
  have hx7 : Grew w1 x7 := hx6.trans hgx7
  replace hL := hL.grew hgx7
  replace hR := hR.grew hgx7
  replace hsl := hsl.grew hgx7
  replace hsr := hsr.grew hgx7
  replace hs1 := hs1.grew hgx7
  replace hs2 := hs2.grew hgx7
  refine hK.out _ _ ?_ (fun hHeld => ?_)
  · (try dsimp only); first | with_reducible assumption | exact hx7
  clear hK K
  try simp only [Act.put, List.setIfInBounds_toArray, List.set_cons_zero, List.set_cons_succ]
  refine wpAnyH_take (i := 13) (oi := ?on138) (v := ?vn138) ?hin138 ?an138 ?bn138 ?cn138 ?qn138 (Or.inl ⟨?dn138, ?hyn138⟩) hHeld ?restn138
  case hin138 => (simp only [List.getElem?_toArray, List.getElem?_cons_succ, List.getElem?_cons_zero]; exact rfl)
  case an138 => kernel_rfl
  case bn138 => kernel_rfl
  case cn138 => kernel_rfl
  case qn138 => exact fun _ _ _ h => h
  case dn138 => rfl
  case hyn138 => (intro z hSw; (try dsimp only at hSw); go_simp; (try with_reducible rfl))
  try simp only [Act.put, List.setIfInBounds_toArray, List.set_cons_zero, List.set_cons_succ]
  refine wpAnyH_take (i := 14) (oi := ?on139) (v := ?vn139) ?hin139 ?an139 ?bn139 ?cn139 ?qn139 (Or.inl ⟨?dn139, ?hyn139⟩) hHeld ?restn139
  case hin139 => (simp only [List.getElem?_toArray, List.getElem?_cons_succ, List.getElem?_cons_zero]; exact rfl)
  case an139 => kernel_rfl
  case bn139 => kernel_rfl
  case cn139 => kernel_rfl
  case qn139 => exact fun _ _ _ h => h
  case dn139 => rfl
  case hyn139 => (intro z hSw; (try dsimp only at hSw); go_simp; (try with_reducible rfl))
  try simp only [Act.put, List.setIfInBounds_toArray, List.set_cons_zero, List.set_cons_succ]
  refine wpAnyH_done (by kernel_rfl) ?_ _
  go_wp2_with fail
  go_ret2
  exact ⟨_, _, _, rfl, fun _ => hq, HG1.out.trans hx7⟩

set_option maxHeartbeats 4000000 in
set_option maxRecDepth 8192 in
theorem l11Local_8 (m : ByteArray) (va vb : Value) (L R : List ByteArray) (w : World) (ha : Strs w va L) (hb : Strs w vb R) (hgL : ∀ i, i < L.length → gd (st L i) = true) (hgR : ∀ i, i < R.length → gd (st R i) = true) (hnL : L.length ≤ 16) (hnR : R.length ≤ 16) (hmz : m.size ≤ 1048576) :
    Calls Tryz.prog 34 #[.int .i64 8, .agg #[va, vb], .string m] w (GivesPm w ([((insA L (onF R m 4).1), (insA (dropS R m) (onF R m 4).2.1))], (onF R m 4).2.2)) := by
  have hdL : (dropS L m).length ≤ 16 := Nat.le_trans (List.length_filter_le _ _) hnL
  have hdR : (dropS R m).length ≤ 16 := Nat.le_trans (List.length_filter_le _ _) hnR
  have KO := Lib.hid (fun W (hW : Grew w W) => l11On_c vb R m 4 W (hb.grew hW) hgR (by omega) hmz (by omega))
  obtain ⟨A1, c1, rfl⟩ := strs_slice ha
  obtain ⟨A2, c2, rfl⟩ := strs_slice hb
  obtain ⟨w1, hw1⟩ : ∃ w1, w1 = w.alloc (.cells #[.slice A1 L.length c1, .slice A2 R.length c2] 29) := ⟨_, rfl⟩
  have hg1 : Grew w w1 := by rw [hw1]; exact (Grew.refl w).alloc _
  have hb0 : w1.heap[w.heap.size]? = some (.cells #[.slice A1 L.length c1, .slice A2 R.length c2] 29 (0, 0)) := by rw [hw1]; exact blk_new w _
  have p0 : ∀ W, Grew w1 W → W.cell? ⟨w.heap.size, 0, none⟩ = some (.slice A1 L.length c1) := fun W hW => by rw [blk_cell ((hW.block (blk_lt hb0)).trans hb0)]; rfl
  have p1 : ∀ W, Grew w1 W → W.cell? ⟨w.heap.size, 1, none⟩ = some (.slice A2 R.length c2) := fun W hW => by rw [blk_cell ((hW.block (blk_lt hb0)).trans hb0)]; rfl
  have hL := ha.grew hg1
  have hR := hb.grew hg1
  have HG1 := Lib.hid hg1
  have r1 := Grew.refl w1
  have d1 := r1.drew
  clear ha hb hgL hgR hb0 hg1
  have HnL := Lib.hid hnL
  have HnR := Lib.hid hnR
  have HdL := Lib.hid hdL
  have HdR := Lib.hid hdR
  generalize hX : onF R m 4 = X at *
  clear hX
  obtain ⟨XA, XB, XC⟩ := X
  generalize hn1 : L.length = n1 at p0 hL hw1 ⊢
  generalize hn2 : R.length = n2 at p1 hR hw1 KO ⊢
  have HN1 := Lib.hid hn1
  have HN2 := Lib.hid hn2
  clear hn1 hn2 hnL hnR hdL hdR
  go_enter Tryz.func34, Tryz.ntmps34
  go_wp2_with fail
  simp only [← hw1]
  clear hw1
  replace hL := hL.grew r1.drew
  replace hR := hR.grew r1.drew
  refine wp_region_held_drew (S := fun w' => Grew w1 w') (by kernel_rfl) d1 (fun hHeld => ?_)
  refine wpAnyH_take (i := 0) (oi := ?on140) (v := ?vn140) ?hin140 ?an140 ?bn140 ?cn140 ?qn140 (Or.inl ⟨?dn140, ?hyn140⟩) hHeld ?restn140
  case hin140 => (simp only [List.getElem?_toArray, List.getElem?_cons_zero]; exact rfl)
  case an140 => kernel_rfl
  case bn140 => kernel_rfl
  case cn140 => kernel_rfl
  case qn140 => exact fun _ _ _ h => h
  case dn140 => rfl
  case hyn140 => (intro z hSw; (try dsimp only at hSw); go_simp; (try with_reducible rfl))
  try simp only [Act.put, List.setIfInBounds_toArray, List.set_cons_zero, List.set_cons_succ]
  refine wpAnyH_take (i := 1) (oi := ?on141) (v := ?vn141) ?hin141 ?an141 ?bn141 ?cn141 ?qn141 (Or.inl ⟨?dn141, ?hyn141⟩) hHeld ?restn141
  case hin141 => (simp only [List.getElem?_toArray, List.getElem?_cons_succ, List.getElem?_cons_zero]; exact rfl)
  case an141 => kernel_rfl
  case bn141 => kernel_rfl
  case cn141 => kernel_rfl
  case qn141 => exact fun _ _ _ h => h
  case dn141 => rfl
  case hyn141 => (intro z hSw; (try dsimp only at hSw); go_simp; (try with_reducible rfl))
  try simp only [Act.put, List.setIfInBounds_toArray, List.set_cons_zero, List.set_cons_succ]
  refine wpAnyH_take (i := 2) (oi := ?on142) (v := ?vn142) ?hin142 ?an142 ?bn142 ?cn142 ?qn142 (Or.inl ⟨?dn142, ?hyn142⟩) hHeld ?restn142
  case hin142 => (simp only [List.getElem?_toArray, List.getElem?_cons_succ, List.getElem?_cons_zero]; exact rfl)
  case an142 => kernel_rfl
  case bn142 => kernel_rfl
  case cn142 => kernel_rfl
  case qn142 => exact fun _ _ _ h => h
  case dn142 => rfl
  case hyn142 => (intro z hSw; (try dsimp only at hSw); go_simp; (try with_reducible rfl))
  try simp only [Act.put, List.setIfInBounds_toArray, List.set_cons_zero, List.set_cons_succ]
  refine wpAnyH_take (i := 4) (oi := ?on143) (v := ?vn143) ?hin143 ?an143 ?bn143 ?cn143 ?qn143 (Or.inl ⟨?dn143, ?hyn143⟩) hHeld ?restn143
  case hin143 => (simp only [List.getElem?_toArray, List.getElem?_cons_succ, List.getElem?_cons_zero]; exact rfl)
  case an143 => kernel_rfl
  case bn143 => kernel_rfl
  case cn143 => kernel_rfl
  case qn143 => exact fun _ _ _ h => h
  case dn143 => rfl
  case hyn143 => (intro z hSw; (try dsimp only at hSw); go_simp; (try with_reducible rfl))
  try simp only [Act.put, List.setIfInBounds_toArray, List.set_cons_zero, List.set_cons_succ]
  refine wpAnyH_take (i := 5) (oi := ?on144) (v := ?vn144) ?hin144 ?an144 ?bn144 ?cn144 ?qn144 (Or.inl ⟨?dn144, ?hyn144⟩) hHeld ?restn144
  case hin144 => (simp only [List.getElem?_toArray, List.getElem?_cons_succ, List.getElem?_cons_zero]; exact rfl)
  case an144 => kernel_rfl
  case bn144 => kernel_rfl
  case cn144 => kernel_rfl
  case qn144 => exact fun _ _ _ h => h
  case dn144 => rfl
  case hyn144 => (intro z hSw; (try dsimp only at hSw); go_simp; (try with_reducible rfl))
  try simp only [Act.put, List.setIfInBounds_toArray, List.set_cons_zero, List.set_cons_succ]
  refine wpAnyH_take (i := 6) (oi := ?on145) (v := ?vn145) ?hin145 ?an145 ?bn145 ?cn145 ?qn145 (Or.inl ⟨?dn145, ?hyn145⟩) hHeld ?restn145
  case hin145 => (simp only [List.getElem?_toArray, List.getElem?_cons_succ, List.getElem?_cons_zero]; exact rfl)
  case an145 => kernel_rfl
  case bn145 => kernel_rfl
  case cn145 => kernel_rfl
  case qn145 => exact fun _ _ _ h => h
  case dn145 => rfl
  case hyn145 => (intro z hSw; (try dsimp only at hSw); go_simp; (try with_reducible rfl))
  try simp only [Act.put, List.setIfInBounds_toArray, List.set_cons_zero, List.set_cons_succ]
  refine wpAnyH_ready (rs := [3]) (by kernel_rfl) (by simp) ?_
  refine AllReadyH.cons (o := ?on146) ?hin146 ?restn146 AllReadyH.nil
  case hin146 => (simp only [List.getElem?_toArray, List.getElem?_cons_succ, List.getElem?_cons_zero]; exact rfl)
  intro K hK
  go_simp
  go_at_call 53
  refine (wo_sl _ _ _ L m _ hL (by have := HnL.out; omega)).mono ?_
  rintro e x1 ⟨Bsl, msl, dsl, rfl, hsl, hgx1⟩
  have hx1 : Grew w1 x1 := d1.trans hgx1
  replace hL := hL.grew hgx1
  replace hR := hR.grew hgx1
  refine hK.out _ _ ?_ (fun hHeld => ?_)
  · (try dsimp only); first | with_reducible assumption | exact hx1
  clear hK K
  try simp only [Act.put, List.setIfInBounds_toArray, List.set_cons_zero, List.set_cons_succ]
  refine wpAnyH_ready (rs := [7]) (by kernel_rfl) (by simp) ?_
  refine AllReadyH.cons (o := ?on147) ?hin147 ?restn147 AllReadyH.nil
  case hin147 => (simp only [List.getElem?_toArray, List.getElem?_cons_succ, List.getElem?_cons_zero]; exact rfl)
  intro K hK
  go_simp
  go_at_call 53
  refine (wo_sl _ _ _ R m _ hR (by have := HnR.out; omega)).mono ?_
  rintro e x2 ⟨Bsr, msr, dsr, rfl, hsr, hgx2⟩
  have hx2 : Grew w1 x2 := hx1.trans hgx2
  replace hL := hL.grew hgx2
  replace hR := hR.grew hgx2
  replace hsl := hsl.grew hgx2
  refine hK.out _ _ ?_ (fun hHeld => ?_)
  · (try dsimp only); first | with_reducible assumption | exact hx2
  clear hK K
  try simp only [Act.put, List.setIfInBounds_toArray, List.set_cons_zero, List.set_cons_succ]
  refine wpAnyH_take (i := 8) (oi := ?on148) (v := ?vn148) ?hin148 ?an148 ?bn148 ?cn148 ?qn148 (Or.inl ⟨?dn148, ?hyn148⟩) hHeld ?restn148
  case hin148 => (simp only [List.getElem?_toArray, List.getElem?_cons_succ, List.getElem?_cons_zero]; exact rfl)
  case an148 => kernel_rfl
  case bn148 => kernel_rfl
  case cn148 => kernel_rfl
  case qn148 => exact fun _ _ _ h => h
  case dn148 => rfl
  case hyn148 => (intro z hSw; (try dsimp only at hSw); go_simp; (try with_reducible rfl))
  try simp only [Act.put, List.setIfInBounds_toArray, List.set_cons_zero, List.set_cons_succ]
  refine wpAnyH_take (i := 9) (oi := ?on149) (v := ?vn149) ?hin149 ?an149 ?bn149 ?cn149 ?qn149 (Or.inl ⟨?dn149, ?hyn149⟩) hHeld ?restn149
  case hin149 => (simp only [List.getElem?_toArray, List.getElem?_cons_succ, List.getElem?_cons_zero]; exact rfl)
  case an149 => kernel_rfl
  case bn149 => kernel_rfl
  case cn149 => kernel_rfl
  case qn149 => exact fun _ _ _ h => h
  case dn149 => rfl
  case hyn149 => (intro z hSw; (try dsimp only at hSw); go_simp; (try with_reducible rfl))
  try simp only [Act.put, List.setIfInBounds_toArray, List.set_cons_zero, List.set_cons_succ]
  refine wpAnyH_done (by kernel_rfl) ?_ _
  go_wp2_with fail
  refine (KO.out _ (HG1.out.trans hx2)).mono ?_
  rintro e x3 ⟨rfl, hgx3⟩
  have hx3 : Grew w1 x3 := hx2.trans hgx3
  replace hL := hL.grew hgx3
  replace hR := hR.grew hgx3
  replace hsl := hsl.grew hgx3
  replace hsr := hsr.grew hgx3
  go_wp2_with fail
  refine (ins_sl _ _ _ L XA _ hL (by have := HnL.out; omega)).mono ?_
  rintro e x4 ⟨Bs1, ms1, ds1, rfl, hs1, hgx4⟩
  have hx4 : Grew w1 x4 := hx3.trans hgx4
  replace hL := hL.grew hgx4
  replace hR := hR.grew hgx4
  replace hsl := hsl.grew hgx4
  replace hsr := hsr.grew hgx4
  go_wp2_with fail
  refine (ins_sl _ _ _ (dropS R m) XB _ hsr (by have := HdR.out; omega)).mono ?_
  rintro e x5 ⟨Bs2, ms2, ds2, rfl, hs2, hgx5⟩
  have hx5 : Grew w1 x5 := hx4.trans hgx5
  replace hL := hL.grew hgx5
  replace hR := hR.grew hgx5
  replace hsl := hsl.grew hgx5
  replace hsr := hsr.grew hgx5
  replace hs1 := hs1.grew hgx5
  go_wp2_with fail
  obtain ⟨x6, hwx6⟩ : ∃ W, W = x5.alloc (.cells #[.slice Bs1 ms1 ds1, .slice Bs2 ms2 ds2] 22) := ⟨_, rfl⟩
  have hgx6 : Grew x5 x6 := by rw [hwx6]; exact (Grew.refl _).alloc _
  have hx6 : Grew w1 x6 := hx5.trans hgx6
  have hlit : x6.heap[x5.heap.size]? = some (.cells #[.slice Bs1 ms1 ds1, .slice Bs2 ms2 ds2] 22 (0, 0)) := by rw [hwx6]; exact blk_new _ _
  try simp only [← hwx6]
  clear hwx6
  replace hL := hL.grew hgx6
  replace hR := hR.grew hgx6
  replace hsl := hsl.grew hgx6
  replace hsr := hsr.grew hgx6
  replace hs1 := hs1.grew hgx6
  replace hs2 := hs2.grew hgx6
  have hsd := sdR_one hlit hs1 hs2
  have hll : ∀ x ∈ ([((insA L XA), (insA (dropS R m) XB))] : List Ms), x.1.length ≤ 1048576 ∧ x.2.length ≤ 1048576 := by
    intro x hx; simp only [List.mem_cons, List.not_mem_nil, or_false] at hx; rcases hx with rfl <;> refine ⟨?_, ?_⟩ <;> dsimp only
    · exact (by have := insA_len L XA; have : (L).length ≤ 1048575 := (by have := HnL.out; omega); omega)
    · exact (by have := insA_len (dropS R m) XB; have : ((dropS R m)).length ≤ 1048575 := (by have := HdR.out; omega); omega)
  refine (sq_sl _ 2 [((insA L XA), (insA (dropS R m) XB))] _ rfl hsd (by simp) hll).mono ?_
  rintro e x7 ⟨Bq, mq, dq, rfl, hq, hgx7⟩
  have hx7 : Grew w1 x7 := hx6.trans hgx7
  replace hL := hL.grew hgx7
  replace hR := hR.grew hgx7
  replace hsl := hsl.grew hgx7
  replace hsr := hsr.grew hgx7
  replace hs1 := hs1.grew hgx7
  replace hs2 := hs2.grew hgx7
  go_wp2_with fail
  go_ret2
  exact ⟨_, _, _, rfl, fun _ => hq, HG1.out.trans hx7⟩

set_option maxHeartbeats 4000000 in
set_option maxRecDepth 8192 in
theorem l11Local_14 (r : Int) (hr1 : ¬ r = 1) (hr2 : ¬ r = 2) (hr3 : ¬ r = 3) (hr4 : ¬ r = 4) (hr5 : ¬ r = 5) (hr6 : ¬ r = 6) (hr7 : ¬ r = 7) (hr8 : ¬ r = 8) (m : ByteArray) (va vb : Value) (L R : List ByteArray) (w : World) (ha : Strs w va L) (hb : Strs w vb R) (hgL : ∀ i, i < L.length → gd (st L i) = true) (hgR : ∀ i, i < R.length → gd (st R i) = true) (hnL : L.length ≤ 16) (hnR : R.length ≤ 16) (hmz : m.size ≤ 1048576) :
    Calls Tryz.prog 34 #[.int .i64 r, .agg #[va, vb], .string m] w (GivesPm w ([(L, (insA R m)), ((insA L m), R)], (gd m && (r == 14)))) := by
  have hdL : (dropS L m).length ≤ 16 := Nat.le_trans (List.length_filter_le _ _) hnL
  have hdR : (dropS R m).length ≤ 16 := Nat.le_trans (List.length_filter_le _ _) hnR
  have KG := Lib.hid (fun W => show Calls Tryz.prog 46 #[.string m] W (fun e w' => ∃ A n c, e = .returned (.tuple #[.slice A n c, .bool (gd m)]) ∧ Grew W w') from by
    refine (l02Good_c m W (by omega)).mono ?_
    rintro e w' ⟨v, rfl, hv, hg⟩
    obtain ⟨A, c, rfl⟩ := nodes_slice hv.nodes
    exact ⟨_, _, _, rfl, hg⟩)
  obtain ⟨A1, c1, rfl⟩ := strs_slice ha
  obtain ⟨A2, c2, rfl⟩ := strs_slice hb
  obtain ⟨w1, hw1⟩ : ∃ w1, w1 = w.alloc (.cells #[.slice A1 L.length c1, .slice A2 R.length c2] 29) := ⟨_, rfl⟩
  have hg1 : Grew w w1 := by rw [hw1]; exact (Grew.refl w).alloc _
  have hb0 : w1.heap[w.heap.size]? = some (.cells #[.slice A1 L.length c1, .slice A2 R.length c2] 29 (0, 0)) := by rw [hw1]; exact blk_new w _
  have p0 : ∀ W, Grew w1 W → W.cell? ⟨w.heap.size, 0, none⟩ = some (.slice A1 L.length c1) := fun W hW => by rw [blk_cell ((hW.block (blk_lt hb0)).trans hb0)]; rfl
  have p1 : ∀ W, Grew w1 W → W.cell? ⟨w.heap.size, 1, none⟩ = some (.slice A2 R.length c2) := fun W hW => by rw [blk_cell ((hW.block (blk_lt hb0)).trans hb0)]; rfl
  have hL := ha.grew hg1
  have hR := hb.grew hg1
  have HG1 := Lib.hid hg1
  have r1 := Grew.refl w1
  have d1 := r1.drew
  clear ha hb hgL hgR hb0 hg1
  have HnL := Lib.hid hnL
  have HnR := Lib.hid hnR
  have HdL := Lib.hid hdL
  have HdR := Lib.hid hdR
  generalize hn1 : L.length = n1 at p0 hL hw1 ⊢
  generalize hn2 : R.length = n2 at p1 hR hw1 ⊢
  have HN1 := Lib.hid hn1
  have HN2 := Lib.hid hn2
  clear hn1 hn2 hnL hnR hdL hdR
  generalize hgm : gd m = G at *
  clear hgm
  cases G with
  | false =>
    go_enter Tryz.func34, Tryz.ntmps34
    go_wp2_with fail
    simp only [← hw1]
    clear hw1
    replace hL := hL.grew r1.drew
    replace hR := hR.grew r1.drew
    refine wp_region_held_drew (S := fun w' => Grew w1 w') (by kernel_rfl) d1 (fun hHeld => ?_)
    refine wpAnyH_take (i := 0) (oi := ?on1150) (v := ?vn1150) ?hin1150 ?an1150 ?bn1150 ?cn1150 ?qn1150 (Or.inl ⟨?dn1150, ?hyn1150⟩) hHeld ?restn1150
    case hin1150 => (simp only [List.getElem?_toArray, List.getElem?_cons_zero]; exact rfl)
    case an1150 => kernel_rfl
    case bn1150 => kernel_rfl
    case cn1150 => kernel_rfl
    case qn1150 => exact fun _ _ _ h => h
    case dn1150 => rfl
    case hyn1150 => (intro z hSw; (try dsimp only at hSw); go_simp; (try with_reducible rfl))
    try simp only [Act.put, List.setIfInBounds_toArray, List.set_cons_zero, List.set_cons_succ]
    refine wpAnyH_take (i := 1) (oi := ?on1151) (v := ?vn1151) ?hin1151 ?an1151 ?bn1151 ?cn1151 ?qn1151 (Or.inl ⟨?dn1151, ?hyn1151⟩) hHeld ?restn1151
    case hin1151 => (simp only [List.getElem?_toArray, List.getElem?_cons_succ, List.getElem?_cons_zero]; exact rfl)
    case an1151 => kernel_rfl
    case bn1151 => kernel_rfl
    case cn1151 => kernel_rfl
    case qn1151 => exact fun _ _ _ h => h
    case dn1151 => rfl
    case hyn1151 => (intro z hSw; (try dsimp only at hSw); go_simp; (try with_reducible rfl))
    try simp only [Act.put, List.setIfInBounds_toArray, List.set_cons_zero, List.set_cons_succ]
    refine wpAnyH_take (i := 2) (oi := ?on1152) (v := ?vn1152) ?hin1152 ?an1152 ?bn1152 ?cn1152 ?qn1152 (Or.inl ⟨?dn1152, ?hyn1152⟩) hHeld ?restn1152
    case hin1152 => (simp only [List.getElem?_toArray, List.getElem?_cons_succ, List.getElem?_cons_zero]; exact rfl)
    case an1152 => kernel_rfl
    case bn1152 => kernel_rfl
    case cn1152 => kernel_rfl
    case qn1152 => exact fun _ _ _ h => h
    case dn1152 => rfl
    case hyn1152 => (intro z hSw; (try dsimp only at hSw); go_simp; (try with_reducible rfl))
    try simp only [Act.put, List.setIfInBounds_toArray, List.set_cons_zero, List.set_cons_succ]
    refine wpAnyH_take (i := 4) (oi := ?on1153) (v := ?vn1153) ?hin1153 ?an1153 ?bn1153 ?cn1153 ?qn1153 (Or.inl ⟨?dn1153, ?hyn1153⟩) hHeld ?restn1153
    case hin1153 => (simp only [List.getElem?_toArray, List.getElem?_cons_succ, List.getElem?_cons_zero]; exact rfl)
    case an1153 => kernel_rfl
    case bn1153 => kernel_rfl
    case cn1153 => kernel_rfl
    case qn1153 => exact fun _ _ _ h => h
    case dn1153 => rfl
    case hyn1153 => (intro z hSw; (try dsimp only at hSw); go_simp; (try with_reducible rfl))
    try simp only [Act.put, List.setIfInBounds_toArray, List.set_cons_zero, List.set_cons_succ]
    refine wpAnyH_take (i := 5) (oi := ?on1154) (v := ?vn1154) ?hin1154 ?an1154 ?bn1154 ?cn1154 ?qn1154 (Or.inl ⟨?dn1154, ?hyn1154⟩) hHeld ?restn1154
    case hin1154 => (simp only [List.getElem?_toArray, List.getElem?_cons_succ, List.getElem?_cons_zero]; exact rfl)
    case an1154 => kernel_rfl
    case bn1154 => kernel_rfl
    case cn1154 => kernel_rfl
    case qn1154 => exact fun _ _ _ h => h
    case dn1154 => rfl
    case hyn1154 => (intro z hSw; (try dsimp only at hSw); go_simp; (try with_reducible rfl))
    try simp only [Act.put, List.setIfInBounds_toArray, List.set_cons_zero, List.set_cons_succ]
    refine wpAnyH_take (i := 6) (oi := ?on1155) (v := ?vn1155) ?hin1155 ?an1155 ?bn1155 ?cn1155 ?qn1155 (Or.inl ⟨?dn1155, ?hyn1155⟩) hHeld ?restn1155
    case hin1155 => (simp only [List.getElem?_toArray, List.getElem?_cons_succ, List.getElem?_cons_zero]; exact rfl)
    case an1155 => kernel_rfl
    case bn1155 => kernel_rfl
    case cn1155 => kernel_rfl
    case qn1155 => exact fun _ _ _ h => h
    case dn1155 => rfl
    case hyn1155 => (intro z hSw; (try dsimp only at hSw); go_simp; (try with_reducible rfl))
    try simp only [Act.put, List.setIfInBounds_toArray, List.set_cons_zero, List.set_cons_succ]
    refine wpAnyH_ready (rs := [3]) (by kernel_rfl) (by simp) ?_
    refine AllReadyH.cons (o := ?on1156) ?hin1156 ?restn1156 AllReadyH.nil
    case hin1156 => (simp only [List.getElem?_toArray, List.getElem?_cons_succ, List.getElem?_cons_zero]; exact rfl)
    intro K hK
    go_simp
    go_at_call 53
    refine (wo_sl _ _ _ L m _ hL (by have := HnL.out; omega)).mono ?_
    rintro e x1 ⟨Bsl, msl, dsl, rfl, hsl, hgx1⟩
    have hx1 : Grew w1 x1 := d1.trans hgx1
    replace hL := hL.grew hgx1
    replace hR := hR.grew hgx1
    refine hK.out _ _ ?_ (fun hHeld => ?_)
    · (try dsimp only); first | with_reducible assumption | exact hx1
    clear hK K
    try simp only [Act.put, List.setIfInBounds_toArray, List.set_cons_zero, List.set_cons_succ]
    refine wpAnyH_ready (rs := [7]) (by kernel_rfl) (by simp) ?_
    refine AllReadyH.cons (o := ?on1157) ?hin1157 ?restn1157 AllReadyH.nil
    case hin1157 => (simp only [List.getElem?_toArray, List.getElem?_cons_succ, List.getElem?_cons_zero]; exact rfl)
    intro K hK
    go_simp
    go_at_call 53
    refine (wo_sl _ _ _ R m _ hR (by have := HnR.out; omega)).mono ?_
    rintro e x2 ⟨Bsr, msr, dsr, rfl, hsr, hgx2⟩
    have hx2 : Grew w1 x2 := hx1.trans hgx2
    replace hL := hL.grew hgx2
    replace hR := hR.grew hgx2
    replace hsl := hsl.grew hgx2
    refine hK.out _ _ ?_ (fun hHeld => ?_)
    · (try dsimp only); first | with_reducible assumption | exact hx2
    clear hK K
    try simp only [Act.put, List.setIfInBounds_toArray, List.set_cons_zero, List.set_cons_succ]
    refine wpAnyH_take (i := 8) (oi := ?on1158) (v := ?vn1158) ?hin1158 ?an1158 ?bn1158 ?cn1158 ?qn1158 (Or.inl ⟨?dn1158, ?hyn1158⟩) hHeld ?restn1158
    case hin1158 => (simp only [List.getElem?_toArray, List.getElem?_cons_succ, List.getElem?_cons_zero]; exact rfl)
    case an1158 => kernel_rfl
    case bn1158 => kernel_rfl
    case cn1158 => kernel_rfl
    case qn1158 => exact fun _ _ _ h => h
    case dn1158 => rfl
    case hyn1158 => (intro z hSw; (try dsimp only at hSw); go_simp; (try with_reducible rfl))
    try simp only [Act.put, List.setIfInBounds_toArray, List.set_cons_zero, List.set_cons_succ]
    refine wpAnyH_take (i := 9) (oi := ?on1159) (v := ?vn1159) ?hin1159 ?an1159 ?bn1159 ?cn1159 ?qn1159 (Or.inl ⟨?dn1159, ?hyn1159⟩) hHeld ?restn1159
    case hin1159 => (simp only [List.getElem?_toArray, List.getElem?_cons_succ, List.getElem?_cons_zero]; exact rfl)
    case an1159 => kernel_rfl
    case bn1159 => kernel_rfl
    case cn1159 => kernel_rfl
    case qn1159 => exact fun _ _ _ h => h
    case dn1159 => rfl
    case hyn1159 => (intro z hSw; (try dsimp only at hSw); go_simp; (try with_reducible rfl))
    try simp only [Act.put, List.setIfInBounds_toArray, List.set_cons_zero, List.set_cons_succ]
    refine wpAnyH_done (by kernel_rfl) ?_ _
    go_wp2_with fail
    refine (KG.out _).mono ?_
    rintro e x3 ⟨Bg, mg, dg, rfl, hgx3⟩
    have hx3 : Grew w1 x3 := hx2.trans hgx3
    replace hL := hL.grew hgx3
    replace hR := hR.grew hgx3
    replace hsl := hsl.grew hgx3
    replace hsr := hsr.grew hgx3
    go_wp2_with fail
    have hd26 := hx3.drew
    replace hL := hL.grew (Grew.refl _).drew
    replace hR := hR.grew (Grew.refl _).drew
    replace hsl := hsl.grew (Grew.refl _).drew
    replace hsr := hsr.grew (Grew.refl _).drew
    refine wp_region_held_drew (S := fun w' => Grew w1 w') (by kernel_rfl) hd26 (fun hHeld => ?_)
    refine wpAnyH_take (i := 0) (oi := ?on1160) (v := ?vn1160) ?hin1160 ?an1160 ?bn1160 ?cn1160 ?qn1160 (Or.inl ⟨?dn1160, ?hyn1160⟩) hHeld ?restn1160
    case hin1160 => (simp only [List.getElem?_toArray, List.getElem?_cons_zero]; exact rfl)
    case an1160 => kernel_rfl
    case bn1160 => kernel_rfl
    case cn1160 => kernel_rfl
    case qn1160 => exact fun _ _ _ h => h
    case dn1160 => rfl
    case hyn1160 => (intro z hSw; (try dsimp only at hSw); go_simp; (try with_reducible rfl))
    try simp only [Act.put, List.setIfInBounds_toArray, List.set_cons_zero, List.set_cons_succ]
    refine wpAnyH_take (i := 1) (oi := ?on1161) (v := ?vn1161) ?hin1161 ?an1161 ?bn1161 ?cn1161 ?qn1161 (Or.inl ⟨?dn1161, ?hyn1161⟩) hHeld ?restn1161
    case hin1161 => (simp only [List.getElem?_toArray, List.getElem?_cons_succ, List.getElem?_cons_zero]; exact rfl)
    case an1161 => kernel_rfl
    case bn1161 => kernel_rfl
    case cn1161 => kernel_rfl
    case qn1161 => exact fun _ _ _ h => h
    case dn1161 => rfl
    case hyn1161 => (intro z hSw; (try dsimp only at hSw); go_simp; (try with_reducible rfl))
    try simp only [Act.put, List.setIfInBounds_toArray, List.set_cons_zero, List.set_cons_succ]
    refine wpAnyH_take (i := 2) (oi := ?on1162) (v := ?vn1162) ?hin1162 ?an1162 ?bn1162 ?cn1162 ?qn1162 (Or.inl ⟨?dn1162, ?hyn1162⟩) hHeld ?restn1162
    case hin1162 => (simp only [List.getElem?_toArray, List.getElem?_cons_succ, List.getElem?_cons_zero]; exact rfl)
    case an1162 => kernel_rfl
    case bn1162 => kernel_rfl
    case cn1162 => kernel_rfl
    case qn1162 => exact fun _ _ _ h => h
    case dn1162 => rfl
    case hyn1162 => (intro z hSw; (try dsimp only at hSw); go_simp; (try with_reducible rfl))
    try simp only [Act.put, List.setIfInBounds_toArray, List.set_cons_zero, List.set_cons_succ]
    refine wpAnyH_take (i := 3) (oi := ?on1163) (v := ?vn1163) ?hin1163 ?an1163 ?bn1163 ?cn1163 ?qn1163 (Or.inl ⟨?dn1163, ?hyn1163⟩) hHeld ?restn1163
    case hin1163 => (simp only [List.getElem?_toArray, List.getElem?_cons_succ, List.getElem?_cons_zero]; exact rfl)
    case an1163 => kernel_rfl
    case bn1163 => kernel_rfl
    case cn1163 => kernel_rfl
    case qn1163 => exact fun _ _ _ h => h
    case dn1163 => rfl
    case hyn1163 => (intro z hSw; (try dsimp only at hSw); go_simp; (try with_reducible rfl))
    try simp only [Act.put, List.setIfInBounds_toArray, List.set_cons_zero, List.set_cons_succ]
    refine wpAnyH_take (i := 4) (oi := ?on1164) (v := ?vn1164) ?hin1164 ?an1164 ?bn1164 ?cn1164 ?qn1164 (Or.inl ⟨?dn1164, ?hyn1164⟩) hHeld ?restn1164
    case hin1164 => (simp only [List.getElem?_toArray, List.getElem?_cons_succ, List.getElem?_cons_zero]; exact rfl)
    case an1164 => kernel_rfl
    case bn1164 => kernel_rfl
    case cn1164 => kernel_rfl
    case qn1164 => exact fun _ _ _ h => h
    case dn1164 => rfl
    case hyn1164 => (intro z hSw; (try dsimp only at hSw); go_simp; (try with_reducible rfl))
    try simp only [Act.put, List.setIfInBounds_toArray, List.set_cons_zero, List.set_cons_succ]
    refine wpAnyH_take (i := 6) (oi := ?on1165) (v := ?vn1165) ?hin1165 ?an1165 ?bn1165 ?cn1165 ?qn1165 (Or.inl ⟨?dn1165, ?hyn1165⟩) hHeld ?restn1165
    case hin1165 => (simp only [List.getElem?_toArray, List.getElem?_cons_succ, List.getElem?_cons_zero]; exact rfl)
    case an1165 => kernel_rfl
    case bn1165 => kernel_rfl
    case cn1165 => kernel_rfl
    case qn1165 => exact fun _ _ _ h => h
    case dn1165 => rfl
    case hyn1165 => (intro z hSw; (try dsimp only at hSw); go_simp; (try with_reducible rfl))
    try simp only [Act.put, List.setIfInBounds_toArray, List.set_cons_zero, List.set_cons_succ]
    refine wpAnyH_take (i := 7) (oi := ?on1166) (v := ?vn1166) ?hin1166 ?an1166 ?bn1166 ?cn1166 ?qn1166 (Or.inl ⟨?dn1166, ?hyn1166⟩) hHeld ?restn1166
    case hin1166 => (simp only [List.getElem?_toArray, List.getElem?_cons_succ, List.getElem?_cons_zero]; exact rfl)
    case an1166 => kernel_rfl
    case bn1166 => kernel_rfl
    case cn1166 => kernel_rfl
    case qn1166 => exact fun _ _ _ h => h
    case dn1166 => rfl
    case hyn1166 => (intro z hSw; (try dsimp only at hSw); go_simp; (try with_reducible rfl))
    try simp only [Act.put, List.setIfInBounds_toArray, List.set_cons_zero, List.set_cons_succ]
    refine wpAnyH_take (i := 8) (oi := ?on1167) (v := ?vn1167) ?hin1167 ?an1167 ?bn1167 ?cn1167 ?qn1167 (Or.inl ⟨?dn1167, ?hyn1167⟩) hHeld ?restn1167
    case hin1167 => (simp only [List.getElem?_toArray, List.getElem?_cons_succ, List.getElem?_cons_zero]; exact rfl)
    case an1167 => kernel_rfl
    case bn1167 => kernel_rfl
    case cn1167 => kernel_rfl
    case qn1167 => exact fun _ _ _ h => h
    case dn1167 => rfl
    case hyn1167 => (intro z hSw; (try dsimp only at hSw); go_simp; (try with_reducible rfl))
    try simp only [Act.put, List.setIfInBounds_toArray, List.set_cons_zero, List.set_cons_succ]
    refine wpAnyH_take (i := 10) (oi := ?on1168) (v := ?vn1168) ?hin1168 ?an1168 ?bn1168 ?cn1168 ?qn1168 (Or.inl ⟨?dn1168, ?hyn1168⟩) hHeld ?restn1168
    case hin1168 => (simp only [List.getElem?_toArray, List.getElem?_cons_succ, List.getElem?_cons_zero]; exact rfl)
    case an1168 => kernel_rfl
    case bn1168 => kernel_rfl
    case cn1168 => kernel_rfl
    case qn1168 => exact fun _ _ _ h => h
    case dn1168 => rfl
    case hyn1168 => (intro z hSw; (try dsimp only at hSw); go_simp; (try with_reducible rfl))
    try simp only [Act.put, List.setIfInBounds_toArray, List.set_cons_zero, List.set_cons_succ]
    refine wpAnyH_take (i := 11) (oi := ?on1169) (v := ?vn1169) ?hin1169 ?an1169 ?bn1169 ?cn1169 ?qn1169 (Or.inl ⟨?dn1169, ?hyn1169⟩) hHeld ?restn1169
    case hin1169 => (simp only [List.getElem?_toArray, List.getElem?_cons_succ, List.getElem?_cons_zero]; exact rfl)
    case an1169 => kernel_rfl
    case bn1169 => kernel_rfl
    case cn1169 => kernel_rfl
    case qn1169 => exact fun _ _ _ h => h
    case dn1169 => rfl
    case hyn1169 => (intro z hSw; (try dsimp only at hSw); go_simp; (try with_reducible rfl))
    try simp only [Act.put, List.setIfInBounds_toArray, List.set_cons_zero, List.set_cons_succ]
    refine wpAnyH_take (i := 14) (oi := ?on1170) (v := ?vn1170) ?hin1170 ?an1170 ?bn1170 ?cn1170 ?qn1170 (Or.inl ⟨?dn1170, ?hyn1170⟩) hHeld ?restn1170
    case hin1170 => (simp only [List.getElem?_toArray, List.getElem?_cons_succ, List.getElem?_cons_zero]; exact rfl)
    case an1170 => kernel_rfl
    case bn1170 => kernel_rfl
    case cn1170 => kernel_rfl
    case qn1170 => exact fun _ _ _ h => h
    case dn1170 => rfl
    case hyn1170 => (intro z hSw; (try dsimp only at hSw); go_simp; (try with_reducible rfl))
    try simp only [Act.put, List.setIfInBounds_toArray, List.set_cons_zero, List.set_cons_succ]
    refine wpAnyH_ready (rs := [5]) (by kernel_rfl) (by simp) ?_
    refine AllReadyH.cons (o := ?on1171) ?hin1171 ?restn1171 AllReadyH.nil
    case hin1171 => (simp only [List.getElem?_toArray, List.getElem?_cons_succ, List.getElem?_cons_zero]; exact rfl)
    intro K hK
    go_simp
    go_at_call 32
    refine (ins_sl _ _ _ R m _ hR (by have := HnR.out; omega)).mono ?_
    rintro e x4 ⟨Bs1, ms1, ds1, rfl, hs1, hgx4⟩
    have hx4 : Grew w1 x4 := hd26.trans hgx4
    replace hL := hL.grew hgx4
    replace hR := hR.grew hgx4
    replace hsl := hsl.grew hgx4
    replace hsr := hsr.grew hgx4
    refine hK.out _ _ ?_ (fun hHeld => ?_)
    · (try dsimp only); first | with_reducible assumption | exact hx4
    clear hK K
    try simp only [Act.put, List.setIfInBounds_toArray, List.set_cons_zero, List.set_cons_succ]
    refine wpAnyH_ready (rs := [9]) (by kernel_rfl) (by simp) ?_
    refine AllReadyH.cons (o := ?on1172) ?hin1172 ?restn1172 AllReadyH.nil
    case hin1172 => (simp only [List.getElem?_toArray, List.getElem?_cons_succ, List.getElem?_cons_zero]; exact rfl)
    intro K hK
    go_simp
    go_at_call 32
    refine (ins_sl _ _ _ L m _ hL (by have := HnL.out; omega)).mono ?_
    rintro e x5 ⟨Bs2, ms2, ds2, rfl, hs2, hgx5⟩
    have hx5 : Grew w1 x5 := hx4.trans hgx5
    replace hL := hL.grew hgx5
    replace hR := hR.grew hgx5
    replace hsl := hsl.grew hgx5
    replace hsr := hsr.grew hgx5
    replace hs1 := hs1.grew hgx5
    refine hK.out _ _ ?_ (fun hHeld => ?_)
    · (try dsimp only); first | with_reducible assumption | exact hx5
    clear hK K
    try simp only [Act.put, List.setIfInBounds_toArray, List.set_cons_zero, List.set_cons_succ]
    refine wpAnyH_ready (rs := [12]) (by kernel_rfl) (by simp) ?_
    refine AllReadyH.cons (o := ?on1173) ?hin1173 ?restn1173 AllReadyH.nil
    case hin1173 => (simp only [List.getElem?_toArray, List.getElem?_cons_succ, List.getElem?_cons_zero]; exact rfl)
    intro K hK
    go_simp
    obtain ⟨x6, hwx6⟩ : ∃ W, W = x5.alloc (.cells #[.slice A1 n1 c1, .slice Bs1 ms1 ds1, .slice Bs2 ms2 ds2, .slice A2 n2 c2] 22) := ⟨_, rfl⟩
    have hgx6 : Grew x5 x6 := by rw [hwx6]; exact (Grew.refl _).alloc _
    have hx6 : Grew w1 x6 := hx5.trans hgx6
    have hlit : x6.heap[x5.heap.size]? = some (.cells #[.slice A1 n1 c1, .slice Bs1 ms1 ds1, .slice Bs2 ms2 ds2, .slice A2 n2 c2] 22 (0, 0)) := by rw [hwx6]; exact blk_new _ _
    try simp only [← hwx6]
    clear hwx6
    replace hL := hL.grew hgx6
    replace hR := hR.grew hgx6
    replace hsl := hsl.grew hgx6
    replace hsr := hsr.grew hgx6
    replace hs1 := hs1.grew hgx6
    replace hs2 := hs2.grew hgx6
    refine hK.out _ _ ?_ (fun hHeld => ?_)
    · (try dsimp only); first | with_reducible assumption | exact hx6
    clear hK K
    try simp only [Act.put, List.setIfInBounds_toArray, List.set_cons_zero, List.set_cons_succ]
    refine wpAnyH_ready (rs := [13]) (by kernel_rfl) (by simp) ?_
    refine AllReadyH.cons (o := ?on1174) ?hin1174 ?restn1174 AllReadyH.nil
    case hin1174 => (simp only [List.getElem?_toArray, List.getElem?_cons_succ, List.getElem?_cons_zero]; exact rfl)
    intro K hK
    go_simp
    have hsd := sdR_two hlit hL hs1 hs2 hR
    have hll : ∀ x ∈ ([(L, (insA R m)), ((insA L m), R)] : List Ms), x.1.length ≤ 1048576 ∧ x.2.length ≤ 1048576 := by
      intro x hx; simp only [List.mem_cons, List.not_mem_nil, or_false] at hx; rcases hx with rfl | rfl <;> refine ⟨?_, ?_⟩ <;> dsimp only
      · exact (by have := HnL.out; omega)
      · exact (by have := insA_len R m; have : (R).length ≤ 1048575 := (by have := HnR.out; omega); omega)
      · exact (by have := insA_len L m; have : (L).length ≤ 1048575 := (by have := HnL.out; omega); omega)
      · exact (by have := HnR.out; omega)
    go_at_call 31
    refine (sq_sl _ 4 [(L, (insA R m)), ((insA L m), R)] _ rfl hsd (by simp) hll).mono ?_
    rintro e x7 ⟨Bq, mq, dq, rfl, hq, hgx7⟩
    have hx7 : Grew w1 x7 := hx6.trans hgx7
    replace hL := hL.grew hgx7
    replace hR := hR.grew hgx7
    replace hsl := hsl.grew hgx7
    replace hsr := hsr.grew hgx7
    replace hs1 := hs1.grew hgx7
    replace hs2 := hs2.grew hgx7
    refine hK.out _ _ ?_ (fun hHeld => ?_)
    · (try dsimp only); first | with_reducible assumption | exact hx7
    clear hK K
    try simp only [Act.put, List.setIfInBounds_toArray, List.set_cons_zero, List.set_cons_succ]
    refine wpAnyH_take (i := 15) (oi := ?on1175) (v := ?vn1175) ?hin1175 ?an1175 ?bn1175 ?cn1175 ?qn1175 (Or.inl ⟨?dn1175, ?hyn1175⟩) hHeld ?restn1175
    case hin1175 => (simp only [List.getElem?_toArray, List.getElem?_cons_succ, List.getElem?_cons_zero]; exact rfl)
    case an1175 => kernel_rfl
    case bn1175 => kernel_rfl
    case cn1175 => kernel_rfl
    case qn1175 => exact fun _ _ _ h => h
    case dn1175 => rfl
    case hyn1175 => (intro z hSw; (try dsimp only at hSw); go_simp; (try with_reducible rfl))
    try simp only [Act.put, List.setIfInBounds_toArray, List.set_cons_zero, List.set_cons_succ]
    refine wpAnyH_take (i := 16) (oi := ?on1176) ?hin1176 ?an1176 ?bn1176 ?cn1176 ?qn1176 (Or.inr ⟨?dn1176, rfl⟩) hHeld ?restn1176
    case hin1176 => (simp only [List.getElem?_toArray, List.getElem?_cons_succ, List.getElem?_cons_zero]; exact rfl)
    case an1176 => kernel_rfl
    case bn1176 => kernel_rfl
    case cn1176 => kernel_rfl
    case qn1176 => exact fun _ _ _ h => h
    case dn1176 => rfl
    try simp only [Act.put, List.setIfInBounds_toArray, List.set_cons_zero, List.set_cons_succ]
    refine wpAnyH_take (i := 17) (oi := ?on1177) ?hin1177 ?an1177 ?bn1177 ?cn1177 ?qn1177 (Or.inr ⟨?dn1177, rfl⟩) hHeld ?restn1177
    case hin1177 => (simp only [List.getElem?_toArray, List.getElem?_cons_succ, List.getElem?_cons_zero]; exact rfl)
    case an1177 => kernel_rfl
    case bn1177 => kernel_rfl
    case cn1177 => kernel_rfl
    case qn1177 => exact fun _ _ _ h => h
    case dn1177 => rfl
    try simp only [Act.put, List.setIfInBounds_toArray, List.set_cons_zero, List.set_cons_succ]
    refine wpAnyH_take (i := 18) (oi := ?on1178) (v := ?vn1178) ?hin1178 ?an1178 ?bn1178 ?cn1178 ?qn1178 (Or.inl ⟨?dn1178, ?hyn1178⟩) hHeld ?restn1178
    case hin1178 => (simp only [List.getElem?_toArray, List.getElem?_cons_succ, List.getElem?_cons_zero]; exact rfl)
    case an1178 => kernel_rfl
    case bn1178 => kernel_rfl
    case cn1178 => kernel_rfl
    case qn1178 => exact fun _ _ _ h => h
    case dn1178 => rfl
    case hyn1178 => (intro z hSw; (try dsimp only at hSw); go_simp; (try with_reducible rfl))
    try simp only [Act.put, List.setIfInBounds_toArray, List.set_cons_zero, List.set_cons_succ]
    refine wpAnyH_take (i := 19) (oi := ?on1179) (v := ?vn1179) ?hin1179 ?an1179 ?bn1179 ?cn1179 ?qn1179 (Or.inl ⟨?dn1179, ?hyn1179⟩) hHeld ?restn1179
    case hin1179 => (simp only [List.getElem?_toArray, List.getElem?_cons_succ, List.getElem?_cons_zero]; exact rfl)
    case an1179 => kernel_rfl
    case bn1179 => kernel_rfl
    case cn1179 => kernel_rfl
    case qn1179 => exact fun _ _ _ h => h
    case dn1179 => rfl
    case hyn1179 => (intro z hSw; (try dsimp only at hSw); go_simp; (try with_reducible rfl))
    try simp only [Act.put, List.setIfInBounds_toArray, List.set_cons_zero, List.set_cons_succ]
    refine wpAnyH_take (i := 20) (oi := ?on1180) (v := ?vn1180) ?hin1180 ?an1180 ?bn1180 ?cn1180 ?qn1180 (Or.inl ⟨?dn1180, ?hyn1180⟩) hHeld ?restn1180
    case hin1180 => (simp only [List.getElem?_toArray, List.getElem?_cons_succ, List.getElem?_cons_zero]; exact rfl)
    case an1180 => kernel_rfl
    case bn1180 => kernel_rfl
    case cn1180 => kernel_rfl
    case qn1180 => exact fun _ _ _ h => h
    case dn1180 => rfl
    case hyn1180 => (intro z hSw; (try dsimp only at hSw); go_simp; (try with_reducible rfl))
    try simp only [Act.put, List.setIfInBounds_toArray, List.set_cons_zero, List.set_cons_succ]
    refine wpAnyH_done (by kernel_rfl) ?_ _
    go_wp2_with fail
    go_ret2
    exact ⟨_, _, _, rfl, fun _ => hq, HG1.out.trans hx7⟩
  | true =>
    by_cases h14 : r = 14
    · subst h14
      go_enter Tryz.func34, Tryz.ntmps34
      go_wp2_with fail
      simp only [← hw1]
      clear hw1
      replace hL := hL.grew r1.drew
      replace hR := hR.grew r1.drew
      refine wp_region_held_drew (S := fun w' => Grew w1 w') (by kernel_rfl) d1 (fun hHeld => ?_)
      refine wpAnyH_take (i := 0) (oi := ?on2150) (v := ?vn2150) ?hin2150 ?an2150 ?bn2150 ?cn2150 ?qn2150 (Or.inl ⟨?dn2150, ?hyn2150⟩) hHeld ?restn2150
      case hin2150 => (simp only [List.getElem?_toArray, List.getElem?_cons_zero]; exact rfl)
      case an2150 => kernel_rfl
      case bn2150 => kernel_rfl
      case cn2150 => kernel_rfl
      case qn2150 => exact fun _ _ _ h => h
      case dn2150 => rfl
      case hyn2150 => (intro z hSw; (try dsimp only at hSw); go_simp; (try with_reducible rfl))
      try simp only [Act.put, List.setIfInBounds_toArray, List.set_cons_zero, List.set_cons_succ]
      refine wpAnyH_take (i := 1) (oi := ?on2151) (v := ?vn2151) ?hin2151 ?an2151 ?bn2151 ?cn2151 ?qn2151 (Or.inl ⟨?dn2151, ?hyn2151⟩) hHeld ?restn2151
      case hin2151 => (simp only [List.getElem?_toArray, List.getElem?_cons_succ, List.getElem?_cons_zero]; exact rfl)
      case an2151 => kernel_rfl
      case bn2151 => kernel_rfl
      case cn2151 => kernel_rfl
      case qn2151 => exact fun _ _ _ h => h
      case dn2151 => rfl
      case hyn2151 => (intro z hSw; (try dsimp only at hSw); go_simp; (try with_reducible rfl))
      try simp only [Act.put, List.setIfInBounds_toArray, List.set_cons_zero, List.set_cons_succ]
      refine wpAnyH_take (i := 2) (oi := ?on2152) (v := ?vn2152) ?hin2152 ?an2152 ?bn2152 ?cn2152 ?qn2152 (Or.inl ⟨?dn2152, ?hyn2152⟩) hHeld ?restn2152
      case hin2152 => (simp only [List.getElem?_toArray, List.getElem?_cons_succ, List.getElem?_cons_zero]; exact rfl)
      case an2152 => kernel_rfl
      case bn2152 => kernel_rfl
      case cn2152 => kernel_rfl
      case qn2152 => exact fun _ _ _ h => h
      case dn2152 => rfl
      case hyn2152 => (intro z hSw; (try dsimp only at hSw); go_simp; (try with_reducible rfl))
      try simp only [Act.put, List.setIfInBounds_toArray, List.set_cons_zero, List.set_cons_succ]
      refine wpAnyH_take (i := 4) (oi := ?on2153) (v := ?vn2153) ?hin2153 ?an2153 ?bn2153 ?cn2153 ?qn2153 (Or.inl ⟨?dn2153, ?hyn2153⟩) hHeld ?restn2153
      case hin2153 => (simp only [List.getElem?_toArray, List.getElem?_cons_succ, List.getElem?_cons_zero]; exact rfl)
      case an2153 => kernel_rfl
      case bn2153 => kernel_rfl
      case cn2153 => kernel_rfl
      case qn2153 => exact fun _ _ _ h => h
      case dn2153 => rfl
      case hyn2153 => (intro z hSw; (try dsimp only at hSw); go_simp; (try with_reducible rfl))
      try simp only [Act.put, List.setIfInBounds_toArray, List.set_cons_zero, List.set_cons_succ]
      refine wpAnyH_take (i := 5) (oi := ?on2154) (v := ?vn2154) ?hin2154 ?an2154 ?bn2154 ?cn2154 ?qn2154 (Or.inl ⟨?dn2154, ?hyn2154⟩) hHeld ?restn2154
      case hin2154 => (simp only [List.getElem?_toArray, List.getElem?_cons_succ, List.getElem?_cons_zero]; exact rfl)
      case an2154 => kernel_rfl
      case bn2154 => kernel_rfl
      case cn2154 => kernel_rfl
      case qn2154 => exact fun _ _ _ h => h
      case dn2154 => rfl
      case hyn2154 => (intro z hSw; (try dsimp only at hSw); go_simp; (try with_reducible rfl))
      try simp only [Act.put, List.setIfInBounds_toArray, List.set_cons_zero, List.set_cons_succ]
      refine wpAnyH_take (i := 6) (oi := ?on2155) (v := ?vn2155) ?hin2155 ?an2155 ?bn2155 ?cn2155 ?qn2155 (Or.inl ⟨?dn2155, ?hyn2155⟩) hHeld ?restn2155
      case hin2155 => (simp only [List.getElem?_toArray, List.getElem?_cons_succ, List.getElem?_cons_zero]; exact rfl)
      case an2155 => kernel_rfl
      case bn2155 => kernel_rfl
      case cn2155 => kernel_rfl
      case qn2155 => exact fun _ _ _ h => h
      case dn2155 => rfl
      case hyn2155 => (intro z hSw; (try dsimp only at hSw); go_simp; (try with_reducible rfl))
      try simp only [Act.put, List.setIfInBounds_toArray, List.set_cons_zero, List.set_cons_succ]
      refine wpAnyH_ready (rs := [3]) (by kernel_rfl) (by simp) ?_
      refine AllReadyH.cons (o := ?on2156) ?hin2156 ?restn2156 AllReadyH.nil
      case hin2156 => (simp only [List.getElem?_toArray, List.getElem?_cons_succ, List.getElem?_cons_zero]; exact rfl)
      intro K hK
      go_simp
      go_at_call 53
      refine (wo_sl _ _ _ L m _ hL (by have := HnL.out; omega)).mono ?_
      rintro e x1 ⟨Bsl, msl, dsl, rfl, hsl, hgx1⟩
      have hx1 : Grew w1 x1 := d1.trans hgx1
      replace hL := hL.grew hgx1
      replace hR := hR.grew hgx1
      refine hK.out _ _ ?_ (fun hHeld => ?_)
      · (try dsimp only); first | with_reducible assumption | exact hx1
      clear hK K
      try simp only [Act.put, List.setIfInBounds_toArray, List.set_cons_zero, List.set_cons_succ]
      refine wpAnyH_ready (rs := [7]) (by kernel_rfl) (by simp) ?_
      refine AllReadyH.cons (o := ?on2157) ?hin2157 ?restn2157 AllReadyH.nil
      case hin2157 => (simp only [List.getElem?_toArray, List.getElem?_cons_succ, List.getElem?_cons_zero]; exact rfl)
      intro K hK
      go_simp
      go_at_call 53
      refine (wo_sl _ _ _ R m _ hR (by have := HnR.out; omega)).mono ?_
      rintro e x2 ⟨Bsr, msr, dsr, rfl, hsr, hgx2⟩
      have hx2 : Grew w1 x2 := hx1.trans hgx2
      replace hL := hL.grew hgx2
      replace hR := hR.grew hgx2
      replace hsl := hsl.grew hgx2
      refine hK.out _ _ ?_ (fun hHeld => ?_)
      · (try dsimp only); first | with_reducible assumption | exact hx2
      clear hK K
      try simp only [Act.put, List.setIfInBounds_toArray, List.set_cons_zero, List.set_cons_succ]
      refine wpAnyH_take (i := 8) (oi := ?on2158) (v := ?vn2158) ?hin2158 ?an2158 ?bn2158 ?cn2158 ?qn2158 (Or.inl ⟨?dn2158, ?hyn2158⟩) hHeld ?restn2158
      case hin2158 => (simp only [List.getElem?_toArray, List.getElem?_cons_succ, List.getElem?_cons_zero]; exact rfl)
      case an2158 => kernel_rfl
      case bn2158 => kernel_rfl
      case cn2158 => kernel_rfl
      case qn2158 => exact fun _ _ _ h => h
      case dn2158 => rfl
      case hyn2158 => (intro z hSw; (try dsimp only at hSw); go_simp; (try with_reducible rfl))
      try simp only [Act.put, List.setIfInBounds_toArray, List.set_cons_zero, List.set_cons_succ]
      refine wpAnyH_take (i := 9) (oi := ?on2159) (v := ?vn2159) ?hin2159 ?an2159 ?bn2159 ?cn2159 ?qn2159 (Or.inl ⟨?dn2159, ?hyn2159⟩) hHeld ?restn2159
      case hin2159 => (simp only [List.getElem?_toArray, List.getElem?_cons_succ, List.getElem?_cons_zero]; exact rfl)
      case an2159 => kernel_rfl
      case bn2159 => kernel_rfl
      case cn2159 => kernel_rfl
      case qn2159 => exact fun _ _ _ h => h
      case dn2159 => rfl
      case hyn2159 => (intro z hSw; (try dsimp only at hSw); go_simp; (try with_reducible rfl))
      try simp only [Act.put, List.setIfInBounds_toArray, List.set_cons_zero, List.set_cons_succ]
      refine wpAnyH_done (by kernel_rfl) ?_ _
      go_wp2_with fail
      refine (KG.out _).mono ?_
      rintro e x3 ⟨Bg, mg, dg, rfl, hgx3⟩
      have hx3 : Grew w1 x3 := hx2.trans hgx3
      replace hL := hL.grew hgx3
      replace hR := hR.grew hgx3
      replace hsl := hsl.grew hgx3
      replace hsr := hsr.grew hgx3
      go_wp2_with fail
      have hd26 := hx3.drew
      replace hL := hL.grew (Grew.refl _).drew
      replace hR := hR.grew (Grew.refl _).drew
      replace hsl := hsl.grew (Grew.refl _).drew
      replace hsr := hsr.grew (Grew.refl _).drew
      refine wp_region_held_drew (S := fun w' => Grew w1 w') (by kernel_rfl) hd26 (fun hHeld => ?_)
      refine wpAnyH_take (i := 0) (oi := ?on2181) (v := ?vn2181) ?hin2181 ?an2181 ?bn2181 ?cn2181 ?qn2181 (Or.inl ⟨?dn2181, ?hyn2181⟩) hHeld ?restn2181
      case hin2181 => (simp only [List.getElem?_toArray, List.getElem?_cons_zero]; exact rfl)
      case an2181 => kernel_rfl
      case bn2181 => kernel_rfl
      case cn2181 => kernel_rfl
      case qn2181 => exact fun _ _ _ h => h
      case dn2181 => rfl
      case hyn2181 => (intro z hSw; (try dsimp only at hSw); go_simp; (try with_reducible rfl))
      try simp only [Act.put, List.setIfInBounds_toArray, List.set_cons_zero, List.set_cons_succ]
      refine wpAnyH_take (i := 1) (oi := ?on2182) (v := ?vn2182) ?hin2182 ?an2182 ?bn2182 ?cn2182 ?qn2182 (Or.inl ⟨?dn2182, ?hyn2182⟩) hHeld ?restn2182
      case hin2182 => (simp only [List.getElem?_toArray, List.getElem?_cons_succ, List.getElem?_cons_zero]; exact rfl)
      case an2182 => kernel_rfl
      case bn2182 => kernel_rfl
      case cn2182 => kernel_rfl
      case qn2182 => exact fun _ _ _ h => h
      case dn2182 => rfl
      case hyn2182 => (intro z hSw; (try dsimp only at hSw); go_simp; (try with_reducible rfl))
      try simp only [Act.put, List.setIfInBounds_toArray, List.set_cons_zero, List.set_cons_succ]
      refine wpAnyH_take (i := 2) (oi := ?on2183) (v := ?vn2183) ?hin2183 ?an2183 ?bn2183 ?cn2183 ?qn2183 (Or.inl ⟨?dn2183, ?hyn2183⟩) hHeld ?restn2183
      case hin2183 => (simp only [List.getElem?_toArray, List.getElem?_cons_succ, List.getElem?_cons_zero]; exact rfl)
      case an2183 => kernel_rfl
      case bn2183 => kernel_rfl
      case cn2183 => kernel_rfl
      case qn2183 => exact fun _ _ _ h => h
      case dn2183 => rfl
      case hyn2183 => (intro z hSw; (try dsimp only at hSw); go_simp; (try with_reducible rfl))
      try simp only [Act.put, List.setIfInBounds_toArray, List.set_cons_zero, List.set_cons_succ]
      refine wpAnyH_take (i := 3) (oi := ?on2184) (v := ?vn2184) ?hin2184 ?an2184 ?bn2184 ?cn2184 ?qn2184 (Or.inl ⟨?dn2184, ?hyn2184⟩) hHeld ?restn2184
      case hin2184 => (simp only [List.getElem?_toArray, List.getElem?_cons_succ, List.getElem?_cons_zero]; exact rfl)
      case an2184 => kernel_rfl
      case bn2184 => kernel_rfl
      case cn2184 => kernel_rfl
      case qn2184 => exact fun _ _ _ h => h
      case dn2184 => rfl
      case hyn2184 => (intro z hSw; (try dsimp only at hSw); go_simp; (try with_reducible rfl))
      try simp only [Act.put, List.setIfInBounds_toArray, List.set_cons_zero, List.set_cons_succ]
      refine wpAnyH_take (i := 4) (oi := ?on2185) (v := ?vn2185) ?hin2185 ?an2185 ?bn2185 ?cn2185 ?qn2185 (Or.inl ⟨?dn2185, ?hyn2185⟩) hHeld ?restn2185
      case hin2185 => (simp only [List.getElem?_toArray, List.getElem?_cons_succ, List.getElem?_cons_zero]; exact rfl)
      case an2185 => kernel_rfl
      case bn2185 => kernel_rfl
      case cn2185 => kernel_rfl
      case qn2185 => exact fun _ _ _ h => h
      case dn2185 => rfl
      case hyn2185 => (intro z hSw; (try dsimp only at hSw); go_simp; (try with_reducible rfl))
      try simp only [Act.put, List.setIfInBounds_toArray, List.set_cons_zero, List.set_cons_succ]
      refine wpAnyH_take (i := 6) (oi := ?on2186) (v := ?vn2186) ?hin2186 ?an2186 ?bn2186 ?cn2186 ?qn2186 (Or.inl ⟨?dn2186, ?hyn2186⟩) hHeld ?restn2186
      case hin2186 => (simp only [List.getElem?_toArray, List.getElem?_cons_succ, List.getElem?_cons_zero]; exact rfl)
      case an2186 => kernel_rfl
      case bn2186 => kernel_rfl
      case cn2186 => kernel_rfl
      case qn2186 => exact fun _ _ _ h => h
      case dn2186 => rfl
      case hyn2186 => (intro z hSw; (try dsimp only at hSw); go_simp; (try with_reducible rfl))
      try simp only [Act.put, List.setIfInBounds_toArray, List.set_cons_zero, List.set_cons_succ]
      refine wpAnyH_take (i := 7) (oi := ?on2187) (v := ?vn2187) ?hin2187 ?an2187 ?bn2187 ?cn2187 ?qn2187 (Or.inl ⟨?dn2187, ?hyn2187⟩) hHeld ?restn2187
      case hin2187 => (simp only [List.getElem?_toArray, List.getElem?_cons_succ, List.getElem?_cons_zero]; exact rfl)
      case an2187 => kernel_rfl
      case bn2187 => kernel_rfl
      case cn2187 => kernel_rfl
      case qn2187 => exact fun _ _ _ h => h
      case dn2187 => rfl
      case hyn2187 => (intro z hSw; (try dsimp only at hSw); go_simp; (try with_reducible rfl))
      try simp only [Act.put, List.setIfInBounds_toArray, List.set_cons_zero, List.set_cons_succ]
      refine wpAnyH_take (i := 8) (oi := ?on2188) (v := ?vn2188) ?hin2188 ?an2188 ?bn2188 ?cn2188 ?qn2188 (Or.inl ⟨?dn2188, ?hyn2188⟩) hHeld ?restn2188
      case hin2188 => (simp only [List.getElem?_toArray, List.getElem?_cons_succ, List.getElem?_cons_zero]; exact rfl)
      case an2188 => kernel_rfl
      case bn2188 => kernel_rfl
      case cn2188 => kernel_rfl
      case qn2188 => exact fun _ _ _ h => h
      case dn2188 => rfl
      case hyn2188 => (intro z hSw; (try dsimp only at hSw); go_simp; (try with_reducible rfl))
      try simp only [Act.put, List.setIfInBounds_toArray, List.set_cons_zero, List.set_cons_succ]
      refine wpAnyH_take (i := 10) (oi := ?on2189) (v := ?vn2189) ?hin2189 ?an2189 ?bn2189 ?cn2189 ?qn2189 (Or.inl ⟨?dn2189, ?hyn2189⟩) hHeld ?restn2189
      case hin2189 => (simp only [List.getElem?_toArray, List.getElem?_cons_succ, List.getElem?_cons_zero]; exact rfl)
      case an2189 => kernel_rfl
      case bn2189 => kernel_rfl
      case cn2189 => kernel_rfl
      case qn2189 => exact fun _ _ _ h => h
      case dn2189 => rfl
      case hyn2189 => (intro z hSw; (try dsimp only at hSw); go_simp; (try with_reducible rfl))
      try simp only [Act.put, List.setIfInBounds_toArray, List.set_cons_zero, List.set_cons_succ]
      refine wpAnyH_take (i := 11) (oi := ?on2190) (v := ?vn2190) ?hin2190 ?an2190 ?bn2190 ?cn2190 ?qn2190 (Or.inl ⟨?dn2190, ?hyn2190⟩) hHeld ?restn2190
      case hin2190 => (simp only [List.getElem?_toArray, List.getElem?_cons_succ, List.getElem?_cons_zero]; exact rfl)
      case an2190 => kernel_rfl
      case bn2190 => kernel_rfl
      case cn2190 => kernel_rfl
      case qn2190 => exact fun _ _ _ h => h
      case dn2190 => rfl
      case hyn2190 => (intro z hSw; (try dsimp only at hSw); go_simp; (try with_reducible rfl))
      try simp only [Act.put, List.setIfInBounds_toArray, List.set_cons_zero, List.set_cons_succ]
      refine wpAnyH_take (i := 14) (oi := ?on2191) (v := ?vn2191) ?hin2191 ?an2191 ?bn2191 ?cn2191 ?qn2191 (Or.inl ⟨?dn2191, ?hyn2191⟩) hHeld ?restn2191
      case hin2191 => (simp only [List.getElem?_toArray, List.getElem?_cons_succ, List.getElem?_cons_zero]; exact rfl)
      case an2191 => kernel_rfl
      case bn2191 => kernel_rfl
      case cn2191 => kernel_rfl
      case qn2191 => exact fun _ _ _ h => h
      case dn2191 => rfl
      case hyn2191 => (intro z hSw; (try dsimp only at hSw); go_simp; (try with_reducible rfl))
      try simp only [Act.put, List.setIfInBounds_toArray, List.set_cons_zero, List.set_cons_succ]
      refine wpAnyH_ready (rs := [5]) (by kernel_rfl) (by simp) ?_
      refine AllReadyH.cons (o := ?on2192) ?hin2192 ?restn2192 AllReadyH.nil
      case hin2192 => (simp only [List.getElem?_toArray, List.getElem?_cons_succ, List.getElem?_cons_zero]; exact rfl)
      intro K hK
      go_simp
      go_at_call 32
      refine (ins_sl _ _ _ R m _ hR (by have := HnR.out; omega)).mono ?_
      rintro e x4 ⟨Bs1, ms1, ds1, rfl, hs1, hgx4⟩
      have hx4 : Grew w1 x4 := hd26.trans hgx4
      replace hL := hL.grew hgx4
      replace hR := hR.grew hgx4
      replace hsl := hsl.grew hgx4
      replace hsr := hsr.grew hgx4
      refine hK.out _ _ ?_ (fun hHeld => ?_)
      · (try dsimp only); first | with_reducible assumption | exact hx4
      clear hK K
      try simp only [Act.put, List.setIfInBounds_toArray, List.set_cons_zero, List.set_cons_succ]
      refine wpAnyH_ready (rs := [9]) (by kernel_rfl) (by simp) ?_
      refine AllReadyH.cons (o := ?on2193) ?hin2193 ?restn2193 AllReadyH.nil
      case hin2193 => (simp only [List.getElem?_toArray, List.getElem?_cons_succ, List.getElem?_cons_zero]; exact rfl)
      intro K hK
      go_simp
      go_at_call 32
      refine (ins_sl _ _ _ L m _ hL (by have := HnL.out; omega)).mono ?_
      rintro e x5 ⟨Bs2, ms2, ds2, rfl, hs2, hgx5⟩
      have hx5 : Grew w1 x5 := hx4.trans hgx5
      replace hL := hL.grew hgx5
      replace hR := hR.grew hgx5
      replace hsl := hsl.grew hgx5
      replace hsr := hsr.grew hgx5
      replace hs1 := hs1.grew hgx5
      refine hK.out _ _ ?_ (fun hHeld => ?_)
      · (try dsimp only); first | with_reducible assumption | exact hx5
      clear hK K
      try simp only [Act.put, List.setIfInBounds_toArray, List.set_cons_zero, List.set_cons_succ]
      refine wpAnyH_ready (rs := [12]) (by kernel_rfl) (by simp) ?_
      refine AllReadyH.cons (o := ?on2194) ?hin2194 ?restn2194 AllReadyH.nil
      case hin2194 => (simp only [List.getElem?_toArray, List.getElem?_cons_succ, List.getElem?_cons_zero]; exact rfl)
      intro K hK
      go_simp
      obtain ⟨x6, hwx6⟩ : ∃ W, W = x5.alloc (.cells #[.slice A1 n1 c1, .slice Bs1 ms1 ds1, .slice Bs2 ms2 ds2, .slice A2 n2 c2] 22) := ⟨_, rfl⟩
      have hgx6 : Grew x5 x6 := by rw [hwx6]; exact (Grew.refl _).alloc _
      have hx6 : Grew w1 x6 := hx5.trans hgx6
      have hlit : x6.heap[x5.heap.size]? = some (.cells #[.slice A1 n1 c1, .slice Bs1 ms1 ds1, .slice Bs2 ms2 ds2, .slice A2 n2 c2] 22 (0, 0)) := by rw [hwx6]; exact blk_new _ _
      try simp only [← hwx6]
      clear hwx6
      replace hL := hL.grew hgx6
      replace hR := hR.grew hgx6
      replace hsl := hsl.grew hgx6
      replace hsr := hsr.grew hgx6
      replace hs1 := hs1.grew hgx6
      replace hs2 := hs2.grew hgx6
      refine hK.out _ _ ?_ (fun hHeld => ?_)
      · (try dsimp only); first | with_reducible assumption | exact hx6
      clear hK K
      try simp only [Act.put, List.setIfInBounds_toArray, List.set_cons_zero, List.set_cons_succ]
      refine wpAnyH_ready (rs := [13]) (by kernel_rfl) (by simp) ?_
      refine AllReadyH.cons (o := ?on2195) ?hin2195 ?restn2195 AllReadyH.nil
      case hin2195 => (simp only [List.getElem?_toArray, List.getElem?_cons_succ, List.getElem?_cons_zero]; exact rfl)
      intro K hK
      go_simp
      have hsd := sdR_two hlit hL hs1 hs2 hR
      have hll : ∀ x ∈ ([(L, (insA R m)), ((insA L m), R)] : List Ms), x.1.length ≤ 1048576 ∧ x.2.length ≤ 1048576 := by
        intro x hx; simp only [List.mem_cons, List.not_mem_nil, or_false] at hx; rcases hx with rfl | rfl <;> refine ⟨?_, ?_⟩ <;> dsimp only
        · exact (by have := HnL.out; omega)
        · exact (by have := insA_len R m; have : (R).length ≤ 1048575 := (by have := HnR.out; omega); omega)
        · exact (by have := insA_len L m; have : (L).length ≤ 1048575 := (by have := HnL.out; omega); omega)
        · exact (by have := HnR.out; omega)
      go_at_call 31
      refine (sq_sl _ 4 [(L, (insA R m)), ((insA L m), R)] _ rfl hsd (by simp) hll).mono ?_
      rintro e x7 ⟨Bq, mq, dq, rfl, hq, hgx7⟩
      have hx7 : Grew w1 x7 := hx6.trans hgx7
      replace hL := hL.grew hgx7
      replace hR := hR.grew hgx7
      replace hsl := hsl.grew hgx7
      replace hsr := hsr.grew hgx7
      replace hs1 := hs1.grew hgx7
      replace hs2 := hs2.grew hgx7
      refine hK.out _ _ ?_ (fun hHeld => ?_)
      · (try dsimp only); first | with_reducible assumption | exact hx7
      clear hK K
      try simp only [Act.put, List.setIfInBounds_toArray, List.set_cons_zero, List.set_cons_succ]
      refine wpAnyH_take (i := 15) (oi := ?on2196) (v := ?vn2196) ?hin2196 ?an2196 ?bn2196 ?cn2196 ?qn2196 (Or.inl ⟨?dn2196, ?hyn2196⟩) hHeld ?restn2196
      case hin2196 => (simp only [List.getElem?_toArray, List.getElem?_cons_succ, List.getElem?_cons_zero]; exact rfl)
      case an2196 => kernel_rfl
      case bn2196 => kernel_rfl
      case cn2196 => kernel_rfl
      case qn2196 => exact fun _ _ _ h => h
      case dn2196 => rfl
      case hyn2196 => (intro z hSw; (try dsimp only at hSw); go_simp; (try with_reducible rfl))
      try simp only [Act.put, List.setIfInBounds_toArray, List.set_cons_zero, List.set_cons_succ]
      refine wpAnyH_take (i := 16) (oi := ?on2197) (v := ?vn2197) ?hin2197 ?an2197 ?bn2197 ?cn2197 ?qn2197 (Or.inl ⟨?dn2197, ?hyn2197⟩) hHeld ?restn2197
      case hin2197 => (simp only [List.getElem?_toArray, List.getElem?_cons_succ, List.getElem?_cons_zero]; exact rfl)
      case an2197 => kernel_rfl
      case bn2197 => kernel_rfl
      case cn2197 => kernel_rfl
      case qn2197 => exact fun _ _ _ h => h
      case dn2197 => rfl
      case hyn2197 => (intro z hSw; (try dsimp only at hSw); go_simp; (try with_reducible rfl))
      try simp only [Act.put, List.setIfInBounds_toArray, List.set_cons_zero, List.set_cons_succ]
      refine wpAnyH_take (i := 17) (oi := ?on2198) (v := ?vn2198) ?hin2198 ?an2198 ?bn2198 ?cn2198 ?qn2198 (Or.inl ⟨?dn2198, ?hyn2198⟩) hHeld ?restn2198
      case hin2198 => (simp only [List.getElem?_toArray, List.getElem?_cons_succ, List.getElem?_cons_zero]; exact rfl)
      case an2198 => kernel_rfl
      case bn2198 => kernel_rfl
      case cn2198 => kernel_rfl
      case qn2198 => exact fun _ _ _ h => h
      case dn2198 => rfl
      case hyn2198 => (intro z hSw; (try dsimp only at hSw); go_simp; (try with_reducible rfl))
      try simp only [Act.put, List.setIfInBounds_toArray, List.set_cons_zero, List.set_cons_succ]
      refine wpAnyH_take (i := 18) (oi := ?on2199) (v := ?vn2199) ?hin2199 ?an2199 ?bn2199 ?cn2199 ?qn2199 (Or.inl ⟨?dn2199, ?hyn2199⟩) hHeld ?restn2199
      case hin2199 => (simp only [List.getElem?_toArray, List.getElem?_cons_succ, List.getElem?_cons_zero]; exact rfl)
      case an2199 => kernel_rfl
      case bn2199 => kernel_rfl
      case cn2199 => kernel_rfl
      case qn2199 => exact fun _ _ _ h => h
      case dn2199 => rfl
      case hyn2199 => (intro z hSw; (try dsimp only at hSw); go_simp; (try with_reducible rfl))
      try simp only [Act.put, List.setIfInBounds_toArray, List.set_cons_zero, List.set_cons_succ]
      refine wpAnyH_take (i := 19) (oi := ?on2200) (v := ?vn2200) ?hin2200 ?an2200 ?bn2200 ?cn2200 ?qn2200 (Or.inl ⟨?dn2200, ?hyn2200⟩) hHeld ?restn2200
      case hin2200 => (simp only [List.getElem?_toArray, List.getElem?_cons_succ, List.getElem?_cons_zero]; exact rfl)
      case an2200 => kernel_rfl
      case bn2200 => kernel_rfl
      case cn2200 => kernel_rfl
      case qn2200 => exact fun _ _ _ h => h
      case dn2200 => rfl
      case hyn2200 => (intro z hSw; (try dsimp only at hSw); go_simp; (try with_reducible rfl))
      try simp only [Act.put, List.setIfInBounds_toArray, List.set_cons_zero, List.set_cons_succ]
      refine wpAnyH_take (i := 20) (oi := ?on2201) (v := ?vn2201) ?hin2201 ?an2201 ?bn2201 ?cn2201 ?qn2201 (Or.inl ⟨?dn2201, ?hyn2201⟩) hHeld ?restn2201
      case hin2201 => (simp only [List.getElem?_toArray, List.getElem?_cons_succ, List.getElem?_cons_zero]; exact rfl)
      case an2201 => kernel_rfl
      case bn2201 => kernel_rfl
      case cn2201 => kernel_rfl
      case qn2201 => exact fun _ _ _ h => h
      case dn2201 => rfl
      case hyn2201 => (intro z hSw; (try dsimp only at hSw); go_simp; (try with_reducible rfl))
      try simp only [Act.put, List.setIfInBounds_toArray, List.set_cons_zero, List.set_cons_succ]
      refine wpAnyH_done (by kernel_rfl) ?_ _
      go_wp2_with fail
      go_ret2
      exact ⟨_, _, _, rfl, fun _ => hq, HG1.out.trans hx7⟩
    · have hf : (r == 14) = false := by simpa using h14
      rw [hf]
      go_enter Tryz.func34, Tryz.ntmps34
      go_wp2_with fail
      simp only [← hw1]
      clear hw1
      replace hL := hL.grew r1.drew
      replace hR := hR.grew r1.drew
      refine wp_region_held_drew (S := fun w' => Grew w1 w') (by kernel_rfl) d1 (fun hHeld => ?_)
      refine wpAnyH_take (i := 0) (oi := ?on3150) (v := ?vn3150) ?hin3150 ?an3150 ?bn3150 ?cn3150 ?qn3150 (Or.inl ⟨?dn3150, ?hyn3150⟩) hHeld ?restn3150
      case hin3150 => (simp only [List.getElem?_toArray, List.getElem?_cons_zero]; exact rfl)
      case an3150 => kernel_rfl
      case bn3150 => kernel_rfl
      case cn3150 => kernel_rfl
      case qn3150 => exact fun _ _ _ h => h
      case dn3150 => rfl
      case hyn3150 => (intro z hSw; (try dsimp only at hSw); go_simp; (try with_reducible rfl))
      try simp only [Act.put, List.setIfInBounds_toArray, List.set_cons_zero, List.set_cons_succ]
      refine wpAnyH_take (i := 1) (oi := ?on3151) (v := ?vn3151) ?hin3151 ?an3151 ?bn3151 ?cn3151 ?qn3151 (Or.inl ⟨?dn3151, ?hyn3151⟩) hHeld ?restn3151
      case hin3151 => (simp only [List.getElem?_toArray, List.getElem?_cons_succ, List.getElem?_cons_zero]; exact rfl)
      case an3151 => kernel_rfl
      case bn3151 => kernel_rfl
      case cn3151 => kernel_rfl
      case qn3151 => exact fun _ _ _ h => h
      case dn3151 => rfl
      case hyn3151 => (intro z hSw; (try dsimp only at hSw); go_simp; (try with_reducible rfl))
      try simp only [Act.put, List.setIfInBounds_toArray, List.set_cons_zero, List.set_cons_succ]
      refine wpAnyH_take (i := 2) (oi := ?on3152) (v := ?vn3152) ?hin3152 ?an3152 ?bn3152 ?cn3152 ?qn3152 (Or.inl ⟨?dn3152, ?hyn3152⟩) hHeld ?restn3152
      case hin3152 => (simp only [List.getElem?_toArray, List.getElem?_cons_succ, List.getElem?_cons_zero]; exact rfl)
      case an3152 => kernel_rfl
      case bn3152 => kernel_rfl
      case cn3152 => kernel_rfl
      case qn3152 => exact fun _ _ _ h => h
      case dn3152 => rfl
      case hyn3152 => (intro z hSw; (try dsimp only at hSw); go_simp; (try with_reducible rfl))
      try simp only [Act.put, List.setIfInBounds_toArray, List.set_cons_zero, List.set_cons_succ]
      refine wpAnyH_take (i := 4) (oi := ?on3153) (v := ?vn3153) ?hin3153 ?an3153 ?bn3153 ?cn3153 ?qn3153 (Or.inl ⟨?dn3153, ?hyn3153⟩) hHeld ?restn3153
      case hin3153 => (simp only [List.getElem?_toArray, List.getElem?_cons_succ, List.getElem?_cons_zero]; exact rfl)
      case an3153 => kernel_rfl
      case bn3153 => kernel_rfl
      case cn3153 => kernel_rfl
      case qn3153 => exact fun _ _ _ h => h
      case dn3153 => rfl
      case hyn3153 => (intro z hSw; (try dsimp only at hSw); go_simp; (try with_reducible rfl))
      try simp only [Act.put, List.setIfInBounds_toArray, List.set_cons_zero, List.set_cons_succ]
      refine wpAnyH_take (i := 5) (oi := ?on3154) (v := ?vn3154) ?hin3154 ?an3154 ?bn3154 ?cn3154 ?qn3154 (Or.inl ⟨?dn3154, ?hyn3154⟩) hHeld ?restn3154
      case hin3154 => (simp only [List.getElem?_toArray, List.getElem?_cons_succ, List.getElem?_cons_zero]; exact rfl)
      case an3154 => kernel_rfl
      case bn3154 => kernel_rfl
      case cn3154 => kernel_rfl
      case qn3154 => exact fun _ _ _ h => h
      case dn3154 => rfl
      case hyn3154 => (intro z hSw; (try dsimp only at hSw); go_simp; (try with_reducible rfl))
      try simp only [Act.put, List.setIfInBounds_toArray, List.set_cons_zero, List.set_cons_succ]
      refine wpAnyH_take (i := 6) (oi := ?on3155) (v := ?vn3155) ?hin3155 ?an3155 ?bn3155 ?cn3155 ?qn3155 (Or.inl ⟨?dn3155, ?hyn3155⟩) hHeld ?restn3155
      case hin3155 => (simp only [List.getElem?_toArray, List.getElem?_cons_succ, List.getElem?_cons_zero]; exact rfl)
      case an3155 => kernel_rfl
      case bn3155 => kernel_rfl
      case cn3155 => kernel_rfl
      case qn3155 => exact fun _ _ _ h => h
      case dn3155 => rfl
      case hyn3155 => (intro z hSw; (try dsimp only at hSw); go_simp; (try with_reducible rfl))
      try simp only [Act.put, List.setIfInBounds_toArray, List.set_cons_zero, List.set_cons_succ]
      refine wpAnyH_ready (rs := [3]) (by kernel_rfl) (by simp) ?_
      refine AllReadyH.cons (o := ?on3156) ?hin3156 ?restn3156 AllReadyH.nil
      case hin3156 => (simp only [List.getElem?_toArray, List.getElem?_cons_succ, List.getElem?_cons_zero]; exact rfl)
      intro K hK
      go_simp
      go_at_call 53
      refine (wo_sl _ _ _ L m _ hL (by have := HnL.out; omega)).mono ?_
      rintro e x1 ⟨Bsl, msl, dsl, rfl, hsl, hgx1⟩
      have hx1 : Grew w1 x1 := d1.trans hgx1
      replace hL := hL.grew hgx1
      replace hR := hR.grew hgx1
      refine hK.out _ _ ?_ (fun hHeld => ?_)
      · (try dsimp only); first | with_reducible assumption | exact hx1
      clear hK K
      try simp only [Act.put, List.setIfInBounds_toArray, List.set_cons_zero, List.set_cons_succ]
      refine wpAnyH_ready (rs := [7]) (by kernel_rfl) (by simp) ?_
      refine AllReadyH.cons (o := ?on3157) ?hin3157 ?restn3157 AllReadyH.nil
      case hin3157 => (simp only [List.getElem?_toArray, List.getElem?_cons_succ, List.getElem?_cons_zero]; exact rfl)
      intro K hK
      go_simp
      go_at_call 53
      refine (wo_sl _ _ _ R m _ hR (by have := HnR.out; omega)).mono ?_
      rintro e x2 ⟨Bsr, msr, dsr, rfl, hsr, hgx2⟩
      have hx2 : Grew w1 x2 := hx1.trans hgx2
      replace hL := hL.grew hgx2
      replace hR := hR.grew hgx2
      replace hsl := hsl.grew hgx2
      refine hK.out _ _ ?_ (fun hHeld => ?_)
      · (try dsimp only); first | with_reducible assumption | exact hx2
      clear hK K
      try simp only [Act.put, List.setIfInBounds_toArray, List.set_cons_zero, List.set_cons_succ]
      refine wpAnyH_take (i := 8) (oi := ?on3158) (v := ?vn3158) ?hin3158 ?an3158 ?bn3158 ?cn3158 ?qn3158 (Or.inl ⟨?dn3158, ?hyn3158⟩) hHeld ?restn3158
      case hin3158 => (simp only [List.getElem?_toArray, List.getElem?_cons_succ, List.getElem?_cons_zero]; exact rfl)
      case an3158 => kernel_rfl
      case bn3158 => kernel_rfl
      case cn3158 => kernel_rfl
      case qn3158 => exact fun _ _ _ h => h
      case dn3158 => rfl
      case hyn3158 => (intro z hSw; (try dsimp only at hSw); go_simp; (try with_reducible rfl))
      try simp only [Act.put, List.setIfInBounds_toArray, List.set_cons_zero, List.set_cons_succ]
      refine wpAnyH_take (i := 9) (oi := ?on3159) (v := ?vn3159) ?hin3159 ?an3159 ?bn3159 ?cn3159 ?qn3159 (Or.inl ⟨?dn3159, ?hyn3159⟩) hHeld ?restn3159
      case hin3159 => (simp only [List.getElem?_toArray, List.getElem?_cons_succ, List.getElem?_cons_zero]; exact rfl)
      case an3159 => kernel_rfl
      case bn3159 => kernel_rfl
      case cn3159 => kernel_rfl
      case qn3159 => exact fun _ _ _ h => h
      case dn3159 => rfl
      case hyn3159 => (intro z hSw; (try dsimp only at hSw); go_simp; (try with_reducible rfl))
      try simp only [Act.put, List.setIfInBounds_toArray, List.set_cons_zero, List.set_cons_succ]
      refine wpAnyH_done (by kernel_rfl) ?_ _
      go_wp2_with fail
      refine (KG.out _).mono ?_
      rintro e x3 ⟨Bg, mg, dg, rfl, hgx3⟩
      have hx3 : Grew w1 x3 := hx2.trans hgx3
      replace hL := hL.grew hgx3
      replace hR := hR.grew hgx3
      replace hsl := hsl.grew hgx3
      replace hsr := hsr.grew hgx3
      go_wp2_with fail
      have hd26 := hx3.drew
      replace hL := hL.grew (Grew.refl _).drew
      replace hR := hR.grew (Grew.refl _).drew
      replace hsl := hsl.grew (Grew.refl _).drew
      replace hsr := hsr.grew (Grew.refl _).drew
      refine wp_region_held_drew (S := fun w' => Grew w1 w') (by kernel_rfl) hd26 (fun hHeld => ?_)
      refine wpAnyH_take (i := 0) (oi := ?on3202) (v := ?vn3202) ?hin3202 ?an3202 ?bn3202 ?cn3202 ?qn3202 (Or.inl ⟨?dn3202, ?hyn3202⟩) hHeld ?restn3202
      case hin3202 => (simp only [List.getElem?_toArray, List.getElem?_cons_zero]; exact rfl)
      case an3202 => kernel_rfl
      case bn3202 => kernel_rfl
      case cn3202 => kernel_rfl
      case qn3202 => exact fun _ _ _ h => h
      case dn3202 => rfl
      case hyn3202 => (intro z hSw; (try dsimp only at hSw); go_simp; (try with_reducible rfl))
      try simp only [Act.put, List.setIfInBounds_toArray, List.set_cons_zero, List.set_cons_succ]
      refine wpAnyH_take (i := 1) (oi := ?on3203) (v := ?vn3203) ?hin3203 ?an3203 ?bn3203 ?cn3203 ?qn3203 (Or.inl ⟨?dn3203, ?hyn3203⟩) hHeld ?restn3203
      case hin3203 => (simp only [List.getElem?_toArray, List.getElem?_cons_succ, List.getElem?_cons_zero]; exact rfl)
      case an3203 => kernel_rfl
      case bn3203 => kernel_rfl
      case cn3203 => kernel_rfl
      case qn3203 => exact fun _ _ _ h => h
      case dn3203 => rfl
      case hyn3203 => (intro z hSw; (try dsimp only at hSw); go_simp; (try with_reducible rfl))
      try simp only [Act.put, List.setIfInBounds_toArray, List.set_cons_zero, List.set_cons_succ]
      refine wpAnyH_take (i := 2) (oi := ?on3204) (v := ?vn3204) ?hin3204 ?an3204 ?bn3204 ?cn3204 ?qn3204 (Or.inl ⟨?dn3204, ?hyn3204⟩) hHeld ?restn3204
      case hin3204 => (simp only [List.getElem?_toArray, List.getElem?_cons_succ, List.getElem?_cons_zero]; exact rfl)
      case an3204 => kernel_rfl
      case bn3204 => kernel_rfl
      case cn3204 => kernel_rfl
      case qn3204 => exact fun _ _ _ h => h
      case dn3204 => rfl
      case hyn3204 => (intro z hSw; (try dsimp only at hSw); go_simp; (try with_reducible rfl))
      try simp only [Act.put, List.setIfInBounds_toArray, List.set_cons_zero, List.set_cons_succ]
      refine wpAnyH_take (i := 3) (oi := ?on3205) (v := ?vn3205) ?hin3205 ?an3205 ?bn3205 ?cn3205 ?qn3205 (Or.inl ⟨?dn3205, ?hyn3205⟩) hHeld ?restn3205
      case hin3205 => (simp only [List.getElem?_toArray, List.getElem?_cons_succ, List.getElem?_cons_zero]; exact rfl)
      case an3205 => kernel_rfl
      case bn3205 => kernel_rfl
      case cn3205 => kernel_rfl
      case qn3205 => exact fun _ _ _ h => h
      case dn3205 => rfl
      case hyn3205 => (intro z hSw; (try dsimp only at hSw); go_simp; (try with_reducible rfl))
      try simp only [Act.put, List.setIfInBounds_toArray, List.set_cons_zero, List.set_cons_succ]
      refine wpAnyH_take (i := 4) (oi := ?on3206) (v := ?vn3206) ?hin3206 ?an3206 ?bn3206 ?cn3206 ?qn3206 (Or.inl ⟨?dn3206, ?hyn3206⟩) hHeld ?restn3206
      case hin3206 => (simp only [List.getElem?_toArray, List.getElem?_cons_succ, List.getElem?_cons_zero]; exact rfl)
      case an3206 => kernel_rfl
      case bn3206 => kernel_rfl
      case cn3206 => kernel_rfl
      case qn3206 => exact fun _ _ _ h => h
      case dn3206 => rfl
      case hyn3206 => (intro z hSw; (try dsimp only at hSw); go_simp; (try with_reducible rfl))
      try simp only [Act.put, List.setIfInBounds_toArray, List.set_cons_zero, List.set_cons_succ]
      refine wpAnyH_take (i := 6) (oi := ?on3207) (v := ?vn3207) ?hin3207 ?an3207 ?bn3207 ?cn3207 ?qn3207 (Or.inl ⟨?dn3207, ?hyn3207⟩) hHeld ?restn3207
      case hin3207 => (simp only [List.getElem?_toArray, List.getElem?_cons_succ, List.getElem?_cons_zero]; exact rfl)
      case an3207 => kernel_rfl
      case bn3207 => kernel_rfl
      case cn3207 => kernel_rfl
      case qn3207 => exact fun _ _ _ h => h
      case dn3207 => rfl
      case hyn3207 => (intro z hSw; (try dsimp only at hSw); go_simp; (try with_reducible rfl))
      try simp only [Act.put, List.setIfInBounds_toArray, List.set_cons_zero, List.set_cons_succ]
      refine wpAnyH_take (i := 7) (oi := ?on3208) (v := ?vn3208) ?hin3208 ?an3208 ?bn3208 ?cn3208 ?qn3208 (Or.inl ⟨?dn3208, ?hyn3208⟩) hHeld ?restn3208
      case hin3208 => (simp only [List.getElem?_toArray, List.getElem?_cons_succ, List.getElem?_cons_zero]; exact rfl)
      case an3208 => kernel_rfl
      case bn3208 => kernel_rfl
      case cn3208 => kernel_rfl
      case qn3208 => exact fun _ _ _ h => h
      case dn3208 => rfl
      case hyn3208 => (intro z hSw; (try dsimp only at hSw); go_simp; (try with_reducible rfl))
      try simp only [Act.put, List.setIfInBounds_toArray, List.set_cons_zero, List.set_cons_succ]
      refine wpAnyH_take (i := 8) (oi := ?on3209) (v := ?vn3209) ?hin3209 ?an3209 ?bn3209 ?cn3209 ?qn3209 (Or.inl ⟨?dn3209, ?hyn3209⟩) hHeld ?restn3209
      case hin3209 => (simp only [List.getElem?_toArray, List.getElem?_cons_succ, List.getElem?_cons_zero]; exact rfl)
      case an3209 => kernel_rfl
      case bn3209 => kernel_rfl
      case cn3209 => kernel_rfl
      case qn3209 => exact fun _ _ _ h => h
      case dn3209 => rfl
      case hyn3209 => (intro z hSw; (try dsimp only at hSw); go_simp; (try with_reducible rfl))
      try simp only [Act.put, List.setIfInBounds_toArray, List.set_cons_zero, List.set_cons_succ]
      refine wpAnyH_take (i := 10) (oi := ?on3210) (v := ?vn3210) ?hin3210 ?an3210 ?bn3210 ?cn3210 ?qn3210 (Or.inl ⟨?dn3210, ?hyn3210⟩) hHeld ?restn3210
      case hin3210 => (simp only [List.getElem?_toArray, List.getElem?_cons_succ, List.getElem?_cons_zero]; exact rfl)
      case an3210 => kernel_rfl
      case bn3210 => kernel_rfl
      case cn3210 => kernel_rfl
      case qn3210 => exact fun _ _ _ h => h
      case dn3210 => rfl
      case hyn3210 => (intro z hSw; (try dsimp only at hSw); go_simp; (try with_reducible rfl))
      try simp only [Act.put, List.setIfInBounds_toArray, List.set_cons_zero, List.set_cons_succ]
      refine wpAnyH_take (i := 11) (oi := ?on3211) (v := ?vn3211) ?hin3211 ?an3211 ?bn3211 ?cn3211 ?qn3211 (Or.inl ⟨?dn3211, ?hyn3211⟩) hHeld ?restn3211
      case hin3211 => (simp only [List.getElem?_toArray, List.getElem?_cons_succ, List.getElem?_cons_zero]; exact rfl)
      case an3211 => kernel_rfl
      case bn3211 => kernel_rfl
      case cn3211 => kernel_rfl
      case qn3211 => exact fun _ _ _ h => h
      case dn3211 => rfl
      case hyn3211 => (intro z hSw; (try dsimp only at hSw); go_simp; (try with_reducible rfl))
      try simp only [Act.put, List.setIfInBounds_toArray, List.set_cons_zero, List.set_cons_succ]
      refine wpAnyH_take (i := 14) (oi := ?on3212) (v := ?vn3212) ?hin3212 ?an3212 ?bn3212 ?cn3212 ?qn3212 (Or.inl ⟨?dn3212, ?hyn3212⟩) hHeld ?restn3212
      case hin3212 => (simp only [List.getElem?_toArray, List.getElem?_cons_succ, List.getElem?_cons_zero]; exact rfl)
      case an3212 => kernel_rfl
      case bn3212 => kernel_rfl
      case cn3212 => kernel_rfl
      case qn3212 => exact fun _ _ _ h => h
      case dn3212 => rfl
      case hyn3212 => (intro z hSw; (try dsimp only at hSw); go_simp; (try with_reducible rfl))
      try simp only [Act.put, List.setIfInBounds_toArray, List.set_cons_zero, List.set_cons_succ]
      refine wpAnyH_ready (rs := [5]) (by kernel_rfl) (by simp) ?_
      refine AllReadyH.cons (o := ?on3213) ?hin3213 ?restn3213 AllReadyH.nil
      case hin3213 => (simp only [List.getElem?_toArray, List.getElem?_cons_succ, List.getElem?_cons_zero]; exact rfl)
      intro K hK
      go_simp
      go_at_call 32
      refine (ins_sl _ _ _ R m _ hR (by have := HnR.out; omega)).mono ?_
      rintro e x4 ⟨Bs1, ms1, ds1, rfl, hs1, hgx4⟩
      have hx4 : Grew w1 x4 := hd26.trans hgx4
      replace hL := hL.grew hgx4
      replace hR := hR.grew hgx4
      replace hsl := hsl.grew hgx4
      replace hsr := hsr.grew hgx4
      refine hK.out _ _ ?_ (fun hHeld => ?_)
      · (try dsimp only); first | with_reducible assumption | exact hx4
      clear hK K
      try simp only [Act.put, List.setIfInBounds_toArray, List.set_cons_zero, List.set_cons_succ]
      refine wpAnyH_ready (rs := [9]) (by kernel_rfl) (by simp) ?_
      refine AllReadyH.cons (o := ?on3214) ?hin3214 ?restn3214 AllReadyH.nil
      case hin3214 => (simp only [List.getElem?_toArray, List.getElem?_cons_succ, List.getElem?_cons_zero]; exact rfl)
      intro K hK
      go_simp
      go_at_call 32
      refine (ins_sl _ _ _ L m _ hL (by have := HnL.out; omega)).mono ?_
      rintro e x5 ⟨Bs2, ms2, ds2, rfl, hs2, hgx5⟩
      have hx5 : Grew w1 x5 := hx4.trans hgx5
      replace hL := hL.grew hgx5
      replace hR := hR.grew hgx5
      replace hsl := hsl.grew hgx5
      replace hsr := hsr.grew hgx5
      replace hs1 := hs1.grew hgx5
      refine hK.out _ _ ?_ (fun hHeld => ?_)
      · (try dsimp only); first | with_reducible assumption | exact hx5
      clear hK K
      try simp only [Act.put, List.setIfInBounds_toArray, List.set_cons_zero, List.set_cons_succ]
      refine wpAnyH_ready (rs := [12]) (by kernel_rfl) (by simp) ?_
      refine AllReadyH.cons (o := ?on3215) ?hin3215 ?restn3215 AllReadyH.nil
      case hin3215 => (simp only [List.getElem?_toArray, List.getElem?_cons_succ, List.getElem?_cons_zero]; exact rfl)
      intro K hK
      go_simp
      obtain ⟨x6, hwx6⟩ : ∃ W, W = x5.alloc (.cells #[.slice A1 n1 c1, .slice Bs1 ms1 ds1, .slice Bs2 ms2 ds2, .slice A2 n2 c2] 22) := ⟨_, rfl⟩
      have hgx6 : Grew x5 x6 := by rw [hwx6]; exact (Grew.refl _).alloc _
      have hx6 : Grew w1 x6 := hx5.trans hgx6
      have hlit : x6.heap[x5.heap.size]? = some (.cells #[.slice A1 n1 c1, .slice Bs1 ms1 ds1, .slice Bs2 ms2 ds2, .slice A2 n2 c2] 22 (0, 0)) := by rw [hwx6]; exact blk_new _ _
      try simp only [← hwx6]
      clear hwx6
      replace hL := hL.grew hgx6
      replace hR := hR.grew hgx6
      replace hsl := hsl.grew hgx6
      replace hsr := hsr.grew hgx6
      replace hs1 := hs1.grew hgx6
      replace hs2 := hs2.grew hgx6
      refine hK.out _ _ ?_ (fun hHeld => ?_)
      · (try dsimp only); first | with_reducible assumption | exact hx6
      clear hK K
      try simp only [Act.put, List.setIfInBounds_toArray, List.set_cons_zero, List.set_cons_succ]
      refine wpAnyH_ready (rs := [13]) (by kernel_rfl) (by simp) ?_
      refine AllReadyH.cons (o := ?on3216) ?hin3216 ?restn3216 AllReadyH.nil
      case hin3216 => (simp only [List.getElem?_toArray, List.getElem?_cons_succ, List.getElem?_cons_zero]; exact rfl)
      intro K hK
      go_simp
      have hsd := sdR_two hlit hL hs1 hs2 hR
      have hll : ∀ x ∈ ([(L, (insA R m)), ((insA L m), R)] : List Ms), x.1.length ≤ 1048576 ∧ x.2.length ≤ 1048576 := by
        intro x hx; simp only [List.mem_cons, List.not_mem_nil, or_false] at hx; rcases hx with rfl | rfl <;> refine ⟨?_, ?_⟩ <;> dsimp only
        · exact (by have := HnL.out; omega)
        · exact (by have := insA_len R m; have : (R).length ≤ 1048575 := (by have := HnR.out; omega); omega)
        · exact (by have := insA_len L m; have : (L).length ≤ 1048575 := (by have := HnL.out; omega); omega)
        · exact (by have := HnR.out; omega)
      go_at_call 31
      refine (sq_sl _ 4 [(L, (insA R m)), ((insA L m), R)] _ rfl hsd (by simp) hll).mono ?_
      rintro e x7 ⟨Bq, mq, dq, rfl, hq, hgx7⟩
      have hx7 : Grew w1 x7 := hx6.trans hgx7
      replace hL := hL.grew hgx7
      replace hR := hR.grew hgx7
      replace hsl := hsl.grew hgx7
      replace hsr := hsr.grew hgx7
      replace hs1 := hs1.grew hgx7
      replace hs2 := hs2.grew hgx7
      refine hK.out _ _ ?_ (fun hHeld => ?_)
      · (try dsimp only); first | with_reducible assumption | exact hx7
      clear hK K
      try simp only [Act.put, List.setIfInBounds_toArray, List.set_cons_zero, List.set_cons_succ]
      refine wpAnyH_take (i := 15) (oi := ?on3217) (v := ?vn3217) ?hin3217 ?an3217 ?bn3217 ?cn3217 ?qn3217 (Or.inl ⟨?dn3217, ?hyn3217⟩) hHeld ?restn3217
      case hin3217 => (simp only [List.getElem?_toArray, List.getElem?_cons_succ, List.getElem?_cons_zero]; exact rfl)
      case an3217 => kernel_rfl
      case bn3217 => kernel_rfl
      case cn3217 => kernel_rfl
      case qn3217 => exact fun _ _ _ h => h
      case dn3217 => rfl
      case hyn3217 => (intro z hSw; (try dsimp only at hSw); go_simp; (try with_reducible rfl))
      try simp only [Act.put, List.setIfInBounds_toArray, List.set_cons_zero, List.set_cons_succ]
      refine wpAnyH_take (i := 16) (oi := ?on3218) (v := ?vn3218) ?hin3218 ?an3218 ?bn3218 ?cn3218 ?qn3218 (Or.inl ⟨?dn3218, ?hyn3218⟩) hHeld ?restn3218
      case hin3218 => (simp only [List.getElem?_toArray, List.getElem?_cons_succ, List.getElem?_cons_zero]; exact rfl)
      case an3218 => kernel_rfl
      case bn3218 => kernel_rfl
      case cn3218 => kernel_rfl
      case qn3218 => exact fun _ _ _ h => h
      case dn3218 => rfl
      case hyn3218 => (intro z hSw; (try dsimp only at hSw); go_simp; (try with_reducible rfl))
      try simp only [Act.put, List.setIfInBounds_toArray, List.set_cons_zero, List.set_cons_succ]
      refine wpAnyH_take (i := 17) (oi := ?on3219) (v := ?vn3219) ?hin3219 ?an3219 ?bn3219 ?cn3219 ?qn3219 (Or.inl ⟨?dn3219, ?hyn3219⟩) hHeld ?restn3219
      case hin3219 => (simp only [List.getElem?_toArray, List.getElem?_cons_succ, List.getElem?_cons_zero]; exact rfl)
      case an3219 => kernel_rfl
      case bn3219 => kernel_rfl
      case cn3219 => kernel_rfl
      case qn3219 => exact fun _ _ _ h => h
      case dn3219 => rfl
      case hyn3219 => (intro z hSw; (try dsimp only at hSw); go_simp; (try with_reducible rfl))
      try simp only [Act.put, List.setIfInBounds_toArray, List.set_cons_zero, List.set_cons_succ]
      refine wpAnyH_take (i := 18) (oi := ?on3220) (v := ?vn3220) ?hin3220 ?an3220 ?bn3220 ?cn3220 ?qn3220 (Or.inl ⟨?dn3220, ?hyn3220⟩) hHeld ?restn3220
      case hin3220 => (simp only [List.getElem?_toArray, List.getElem?_cons_succ, List.getElem?_cons_zero]; exact rfl)
      case an3220 => kernel_rfl
      case bn3220 => kernel_rfl
      case cn3220 => kernel_rfl
      case qn3220 => exact fun _ _ _ h => h
      case dn3220 => rfl
      case hyn3220 => (intro z hSw; (try dsimp only at hSw); go_simp; (try with_reducible rfl))
      try simp only [Act.put, List.setIfInBounds_toArray, List.set_cons_zero, List.set_cons_succ]
      refine wpAnyH_take (i := 19) (oi := ?on3221) (v := ?vn3221) ?hin3221 ?an3221 ?bn3221 ?cn3221 ?qn3221 (Or.inl ⟨?dn3221, ?hyn3221⟩) hHeld ?restn3221
      case hin3221 => (simp only [List.getElem?_toArray, List.getElem?_cons_succ, List.getElem?_cons_zero]; exact rfl)
      case an3221 => kernel_rfl
      case bn3221 => kernel_rfl
      case cn3221 => kernel_rfl
      case qn3221 => exact fun _ _ _ h => h
      case dn3221 => rfl
      case hyn3221 => (intro z hSw; (try dsimp only at hSw); go_simp; (try with_reducible rfl))
      try simp only [Act.put, List.setIfInBounds_toArray, List.set_cons_zero, List.set_cons_succ]
      refine wpAnyH_take (i := 20) (oi := ?on3222) (v := ?vn3222) ?hin3222 ?an3222 ?bn3222 ?cn3222 ?qn3222 (Or.inl ⟨?dn3222, ?hyn3222⟩) hHeld ?restn3222
      case hin3222 => (simp only [List.getElem?_toArray, List.getElem?_cons_succ, List.getElem?_cons_zero]; exact rfl)
      case an3222 => kernel_rfl
      case bn3222 => kernel_rfl
      case cn3222 => kernel_rfl
      case qn3222 => exact fun _ _ _ h => h
      case dn3222 => rfl
      case hyn3222 => (intro z hSw; (try dsimp only at hSw); go_simp; (try with_reducible rfl))
      try simp only [Act.put, List.setIfInBounds_toArray, List.set_cons_zero, List.set_cons_succ]
      refine wpAnyH_done (by kernel_rfl) ?_ _
      go_wp2_with fail
      go_ret2
      exact ⟨_, _, _, rfl, fun _ => hq, HG1.out.trans hx7⟩
end Go.Proofs.YtjcehejnolbkgaaGreat

/- What l11Local answers is pmF. -/
namespace Go.Proofs.YtjcehejnolbkgaaGreat
open Go.RowKit
open Fm (Nd Tree)

theorem up_drop {L : List ByteArray} (h : Up L) (m : ByteArray) : Up (dropS L m) := List.Pairwise.filter _ h
theorem on_b {L : List ByteArray} {m : ByteArray} {k : Int} : (onF L m k).2.2 = (dc (m ∈ L) && (kS m == k)) := by
  unfold onF
  split
  · rename_i h
    split <;> exact h.symm
  · rename_i h
    simpa using h
theorem on_v2 {L : List ByteArray} {m : ByteArray} {k : Int} (h : (onF L m k).2.2 = true) (hk : ¬ (k = 5 ∨ k = 6)) : (onF L m k).1 = p1S m ∧ (onF L m k).2.1 = p2S m ∧ dc (m ∈ L) = true ∧ kS m = k := by
  rw [on_b] at h
  have h1 : dc (m ∈ L) = true := by cases hh : dc (m ∈ L) with
    | true => rfl
    | false => rw [hh] at h; cases h
  have h2 : kS m = k := by rw [h1] at h; simpa using h
  rw [on_2 h1 h2 hk]
  exact ⟨rfl, rfl, h1, h2⟩
theorem on_v1 {L : List ByteArray} {m : ByteArray} {k : Int} (h : (onF L m k).2.2 = true) (hk : k = 5 ∨ k = 6) : (onF L m k).1 = p1S m ∧ dc (m ∈ L) = true ∧ kS m = k := by
  rw [on_b] at h
  have h1 : dc (m ∈ L) = true := by cases hh : dc (m ∈ L) with
    | true => rfl
    | false => rw [hh] at h; cases h
  have h2 : kS m = k := by rw [h1] at h; simpa using h
  rw [on_1 h1 h2 hk]
  exact ⟨rfl, h1, h2⟩
/-- Rule by rule. -/
def Same (x y : List Ms × Bool) : Prop := x.2 = y.2 ∧ (x.2 = true → x.1 = y.1)
theorem same_3 (lg m : ByteArray) (L R : List ByteArray) (hL : Up L) (hR : Up R) : Same ([(insA (insA (dropS L m) (onF L m 2).1) (onF L m 2).2.1, R)], (onF L m 2).2.2) (pmF lg 3 L R m) := by
  cases hb : (onF L m 2).2.2 with
  | true =>
    obtain ⟨e1, e2, h1, h2⟩ := on_v2 hb (by omega)
    rw [e1, e2]
    unfold Same pmF lfF rgF
    simp [h1, h2, insA_put2 (up_drop hL m)]
  | false =>
    rw [on_b] at hb
    unfold Same pmF lfF rgF
    cases h1 : dc (m ∈ L) with
    | false => simp
    | true =>
      rw [h1] at hb
      have h2 : ¬ kS m = 2 := by simpa using hb
      simp [h2]
theorem same_4 (lg m : ByteArray) (L R : List ByteArray) (hL : Up L) (hR : Up R) : Same ([(L, insA (dropS R m) (onF R m 2).1), (L, insA (dropS R m) (onF R m 2).2.1)], (onF R m 2).2.2) (pmF lg 4 L R m) := by
  cases hb : (onF R m 2).2.2 with
  | true =>
    obtain ⟨e1, e2, h1, h2⟩ := on_v2 hb (by omega)
    rw [e1, e2]
    unfold Same pmF lfF rgF
    simp [h1, h2, insA_put (up_drop hR m), insA_put (up_drop hR m)]
  | false =>
    rw [on_b] at hb
    unfold Same pmF lfF rgF
    cases h1 : dc (m ∈ R) with
    | false => simp
    | true =>
      rw [h1] at hb
      have h2 : ¬ kS m = 2 := by simpa using hb
      simp [h2]
theorem same_5 (lg m : ByteArray) (L R : List ByteArray) (hL : Up L) (hR : Up R) : Same ([(insA (dropS L m) (onF L m 3).1, R), (insA (dropS L m) (onF L m 3).2.1, R)], (onF L m 3).2.2) (pmF lg 5 L R m) := by
  cases hb : (onF L m 3).2.2 with
  | true =>
    obtain ⟨e1, e2, h1, h2⟩ := on_v2 hb (by omega)
    rw [e1, e2]
    unfold Same pmF lfF rgF
    simp [h1, h2, insA_put (up_drop hL m), insA_put (up_drop hL m)]
  | false =>
    rw [on_b] at hb
    unfold Same pmF lfF rgF
    cases h1 : dc (m ∈ L) with
    | false => simp
    | true =>
      rw [h1] at hb
      have h2 : ¬ kS m = 3 := by simpa using hb
      simp [h2]
theorem same_6 (lg m : ByteArray) (L R : List ByteArray) (hL : Up L) (hR : Up R) : Same ([(L, insA (insA (dropS R m) (onF R m 3).1) (onF R m 3).2.1)], (onF R m 3).2.2) (pmF lg 6 L R m) := by
  cases hb : (onF R m 3).2.2 with
  | true =>
    obtain ⟨e1, e2, h1, h2⟩ := on_v2 hb (by omega)
    rw [e1, e2]
    unfold Same pmF lfF rgF
    simp [h1, h2, insA_put2 (up_drop hR m)]
  | false =>
    rw [on_b] at hb
    unfold Same pmF lfF rgF
    cases h1 : dc (m ∈ R) with
    | false => simp
    | true =>
      rw [h1] at hb
      have h2 : ¬ kS m = 3 := by simpa using hb
      simp [h2]
theorem same_7 (lg m : ByteArray) (L R : List ByteArray) (hL : Up L) (hR : Up R) : Same ([(dropS L m, insA R (onF L m 4).1), (insA (dropS L m) (onF L m 4).2.1, R)], (onF L m 4).2.2) (pmF lg 7 L R m) := by
  cases hb : (onF L m 4).2.2 with
  | true =>
    obtain ⟨e1, e2, h1, h2⟩ := on_v2 hb (by omega)
    rw [e1, e2]
    unfold Same pmF lfF rgF
    simp [h1, h2, insA_put hR, insA_put (up_drop hL m)]
  | false =>
    rw [on_b] at hb
    unfold Same pmF lfF rgF
    cases h1 : dc (m ∈ L) with
    | false => simp
    | true =>
      rw [h1] at hb
      have h2 : ¬ kS m = 4 := by simpa using hb
      simp [h2]
theorem same_8 (lg m : ByteArray) (L R : List ByteArray) (hL : Up L) (hR : Up R) : Same ([(insA L (onF R m 4).1, insA (dropS R m) (onF R m 4).2.1)], (onF R m 4).2.2) (pmF lg 8 L R m) := by
  cases hb : (onF R m 4).2.2 with
  | true =>
    obtain ⟨e1, e2, h1, h2⟩ := on_v2 hb (by omega)
    rw [e1, e2]
    unfold Same pmF lfF rgF
    simp [h1, h2, insA_put hL, insA_put (up_drop hR m)]
  | false =>
    rw [on_b] at hb
    unfold Same pmF lfF rgF
    cases h1 : dc (m ∈ R) with
    | false => simp
    | true =>
      rw [h1] at hb
      have h2 : ¬ kS m = 4 := by simpa using hb
      simp [h2]
theorem same_14 (lg m : ByteArray) (r : Int) (L R : List ByteArray) (hL : Up L) (hR : Up R) (h1 : ¬ r = 1) (h2 : ¬ r = 2) (h3 : ¬ r = 3) (h4 : ¬ r = 4) (h5 : ¬ r = 5) (h6 : ¬ r = 6) (h7 : ¬ r = 7) (h8 : ¬ r = 8) (h9 : ¬ r = 9) (h10 : ¬ r = 10) (h11 : ¬ r = 11) (h12 : ¬ r = 12) :
    Same ([(L, insA R m), (insA L m, R)], gd m && (r == 14)) (pmF lg r L R m) := by
  unfold Same pmF lfF rgF
  by_cases h : r = 14
  · subst h
    simp [insA_put hL, insA_put hR]
  · simp [h, h1, h2, h3, h4, h5, h6, h7, h8, h9, h10, h11, h12]
theorem same_9 (lg m : ByteArray) (L R : List ByteArray) (hL : Up L) : Same ([(insA L (onF L m 5).1, R)], (onF L m 5).2.2 && rfx lg) (pmF lg 9 L R m) := by
  cases hb : (onF L m 5).2.2 with
  | true =>
    obtain ⟨e1, h1, h2⟩ := on_v1 hb (by omega)
    rw [e1]
    unfold Same pmF lfF rgF
    cases hr : rfx lg <;> simp [h1, h2, insA_put hL]
  | false =>
    rw [on_b] at hb
    unfold Same pmF lfF rgF
    cases h1 : dc (m ∈ L) with
    | false => simp
    | true =>
      rw [h1] at hb
      have h2 : ¬ kS m = 5 := by simpa using hb
      simp [h2]
theorem same_10 (lg m : ByteArray) (L R : List ByteArray) (hR : Up R) : Same ([(L, insA R (onF R m 6).1)], (onF R m 6).2.2 && rfx lg) (pmF lg 10 L R m) := by
  cases hb : (onF R m 6).2.2 with
  | true =>
    obtain ⟨e1, h1, h2⟩ := on_v1 hb (by omega)
    rw [e1]
    unfold Same pmF lfF rgF
    cases hr : rfx lg <;> simp [h1, h2, insA_put hR]
  | false =>
    rw [on_b] at hb
    unfold Same pmF lfF rgF
    cases h1 : dc (m ∈ R) with
    | false => simp
    | true =>
      rw [h1] at hb
      have h2 : ¬ kS m = 6 := by simpa using hb
      simp [h2]
theorem same_11 (lg m : ByteArray) (L R : List ByteArray) : Same ([mpF lg L R m], (onF R m 5).2.2 || (onF L m 6).2.2) (pmF lg 11 L R m) := by
  rw [on_b, on_b]
  unfold Same pmF lfF rgF
  cases h1 : dc (m ∈ L) <;> cases h2 : dc (m ∈ R) <;> by_cases h5 : kS m = 5 <;> by_cases h6 : kS m = 6 <;> simp [h5, h6] <;> omega
theorem same_12 (lg m : ByteArray) (L R : List ByteArray) : Same ([mpF lg L R ⟨#[]⟩], m.toList.isEmpty && isLg lg [68]) (pmF lg 12 L R m) := ⟨rfl, fun _ => rfl⟩
theorem GivesPm.same {w w' : World} {x y : List Ms × Bool} {e : Ending} (h : GivesPm w x e w') (s : Same x y) : GivesPm w y e w' := h.turn s.1 s.2

theorem l11Local_c (lg m : ByteArray) (r : Int) (va vb : Value) (L R : List ByteArray) (w : World) (ha : Strs w va L) (hb : Strs w vb R) (hgL : ∀ i, i < L.length → gd (st L i) = true) (hgR : ∀ i, i < R.length → gd (st R i) = true) (hnL : L.length ≤ 16) (hnR : R.length ≤ 16) (hL : Up L) (hR : Up R) (hmz : m.size ≤ 1048576)
    (h9 : ¬ r = 9) (h10 : ¬ r = 10) (h11 : ¬ r = 11) (h12 : ¬ r = 12) :
    Calls Tryz.prog 34 #[.int .i64 r, .agg #[va, vb], .string m] w (GivesPm w (pmF lg r L R m)) := by
  by_cases h1 : r = 1
  · subst h1; exact (l11Local_1 m va vb L R w ha hb hnL hnR).mono fun e w' h => h.same ⟨rfl, fun _ => rfl⟩
  by_cases h2 : r = 2
  · subst h2; exact (l11Local_2 m va vb L R w ha hb hnL hnR).mono fun e w' h => h.same ⟨rfl, fun _ => rfl⟩
  by_cases h3 : r = 3
  · subst h3; exact (l11Local_3 m va vb L R w ha hb hgL hgR hnL hnR hmz).mono fun e w' h => h.same (same_3 lg m L R hL hR)
  by_cases h4 : r = 4
  · subst h4; exact (l11Local_4 m va vb L R w ha hb hgL hgR hnL hnR hmz).mono fun e w' h => h.same (same_4 lg m L R hL hR)
  by_cases h5 : r = 5
  · subst h5; exact (l11Local_5 m va vb L R w ha hb hgL hgR hnL hnR hmz).mono fun e w' h => h.same (same_5 lg m L R hL hR)
  by_cases h6 : r = 6
  · subst h6; exact (l11Local_6 m va vb L R w ha hb hgL hgR hnL hnR hmz).mono fun e w' h => h.same (same_6 lg m L R hL hR)
  by_cases h7 : r = 7
  · subst h7; exact (l11Local_7 m va vb L R w ha hb hgL hgR hnL hnR hmz).mono fun e w' h => h.same (same_7 lg m L R hL hR)
  by_cases h8 : r = 8
  · subst h8; exact (l11Local_8 m va vb L R w ha hb hgL hgR hnL hnR hmz).mono fun e w' h => h.same (same_8 lg m L R hL hR)
  exact (l11Local_14 r h1 h2 h3 h4 h5 h6 h7 h8 m va vb L R w ha hb hgL hgR hnL hnR hmz).mono fun e w' h => h.same (same_14 lg m r L R hL hR h1 h2 h3 h4 h5 h6 h7 h8 h9 h10 h11 h12)
end Go.Proofs.YtjcehejnolbkgaaGreat

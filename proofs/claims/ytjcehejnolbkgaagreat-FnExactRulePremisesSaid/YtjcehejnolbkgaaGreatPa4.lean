/- Texts in one file: RpO Vt SayL RpI RpJ CpS RpY StrLaw Modal ModalB RpF MarkText MarkS MarkSW MkM MkS MarkM RpT SayI RqW NdTl RqO RqK. -/
import Derived.Deep.RegionHeld3
import Derived.Lib.SlicesS
import Derived.Lib.SliceRun
import Derived.Outline
import Derived.Deep.QuietTactic
import Derived.BigQuiet
import Derived.Deep.LoopGhost
import Derived.Deep.OwnRows
import Derived.WalkLawsBesides
import Derived.Laws.BytesArg
import Derived.Test.YtjcehejnolbkgaaGreatPa1
import Derived.Test.YtjcehejnolbkgaaGreatPa2
import Derived.Test.YtjcehejnolbkgaaGreatPa3
set_option linter.all false

/- premisesOf of the program. -/
namespace Go.Proofs.YtjcehejnolbkgaaGreat
open Go.RowKit
open Fm (Nd Tree)

theorem gd_mem {L : List ByteArray} {m : ByteArray} (hg : ∀ i, i < L.length → gd (st L i) = true) (h : m ∈ L) : gd m = true := by
  obtain ⟨i, hi, rfl⟩ := List.getElem_of_mem h
  have := hg i hi
  rwa [← st_get hi] at this
theorem emp_list : (⟨#[]⟩ : ByteArray).toList.isEmpty = true := by unfold ByteArray.toList ByteArray.toList.loop; rfl
theorem pm_1 {lg m : ByteArray} {L R : List ByteArray} : pmF lg 1 L R m = ([], dc (m ∈ L) && dc (m ∈ R)) := rfl
theorem pm_2 {lg m : ByteArray} {L R : List ByteArray} : pmF lg 2 L R m = ([], m.toList.isEmpty && dc ((⟨#[70]⟩ : ByteArray) ∈ L)) := rfl
theorem pm_12 {lg m : ByteArray} {L R : List ByteArray} : pmF lg 12 L R m = ([mpF lg L R ⟨#[]⟩], m.toList.isEmpty && isLg lg [68]) := rfl
theorem pm_14 {lg m : ByteArray} {L R : List ByteArray} : pmF lg 14 L R m = ([(L, putS (R ++ [m])), (putS (L ++ [m]), R)], gd m) := rfl
theorem pm_l {lg m : ByteArray} {L R : List ByteArray} {r : Int} (h1 : ¬ r = 1) (h2 : ¬ r = 2) (h12 : ¬ r = 12) (h14 : ¬ r = 14) (hl : dc (m ∈ L) = true) (hk : (lfF lg r L R m).2 = true) : pmF lg r L R m = lfF lg r L R m := by
  unfold pmF; rw [if_neg h1, if_neg h2, if_neg h12, if_neg h14, if_pos (by rw [hl, hk]; rfl)]
theorem pm_r {lg m : ByteArray} {L R : List ByteArray} {r : Int} (h1 : ¬ r = 1) (h2 : ¬ r = 2) (h12 : ¬ r = 12) (h14 : ¬ r = 14) (hl : (dc (m ∈ L) && (lfF lg r L R m).2) = false) (hr : dc (m ∈ R) = true) : pmF lg r L R m = rgF lg r L R m := by
  unfold pmF; rw [if_neg h1, if_neg h2, if_neg h12, if_neg h14, if_neg (by rw [hl]; simp), if_pos hr]
theorem pm_n {lg m : ByteArray} {L R : List ByteArray} {r : Int} (h1 : ¬ r = 1) (h2 : ¬ r = 2) (h12 : ¬ r = 12) (h14 : ¬ r = 14) (hl : (dc (m ∈ L) && (lfF lg r L R m).2) = false) (hr : dc (m ∈ R) = false) : pmF lg r L R m = ([], false) := by
  unfold pmF; rw [if_neg h1, if_neg h2, if_neg h12, if_neg h14, if_neg (by rw [hl]; simp), if_neg (by rw [hr]; simp)]

set_option maxHeartbeats 8000000 in
set_option maxRecDepth 8192 in
theorem premisesOf_c (lg m : ByteArray) (r : Int) (va vb : Value) (L R : List ByteArray) (w : World) (ha : Strs w va L) (hb : Strs w vb R) (hgL : ∀ i, i < L.length → gd (st L i) = true) (hgR : ∀ i, i < R.length → gd (st R i) = true) (hFL : Fits L) (hFR : Fits R) (hnL : L.length ≤ 16) (hnR : R.length ≤ 16) (hmz : m.size ≤ 1048576) :
    Calls Tryz.prog 20 #[.string lg, .int .i64 r, .agg #[va, vb], .string m] w (GivesPm w (pmF lg r L R m)) := by
  have KC := Lib.hid (fun s W (hW : Grew w W) => containsS_c va L s W (ha.grew hW) (by omega))
  have KD := Lib.hid (fun s W (hW : Grew w W) => containsS_c vb R s W (hb.grew hW) (by omega))
  have KM := Lib.hid (fun W (hW : Grew w W) => modalPremise_c lg ⟨#[]⟩ va vb L R W (ha.grew hW) (hb.grew hW) hgL hgR hFL hFR (by omega) (by omega) (.inl emp_list))
  have KT := Lib.hid (fun W => isText_c m W (by omega))
  have KP := Lib.hid (fun (hm : gd m = true) W => show Calls Tryz.prog 41 #[.string m] W (GivesN W (Fm.enc (fg m))) from by have := parsed_c m W (by omega); rwa [(fg_ok hm).1] at this)
  have KL := Lib.hid (fun (hm : gd m = true) vn W (hW : Grew w W) (hn : Nodes W vn (Fm.enc (fg m))) => leftPremises_c lg m r va vb vn L R W (ha.grew hW) (hb.grew hW) hn hgL hgR hFL hFR hnL hnR hm hmz)
  have KR := Lib.hid (fun (hm : gd m = true) vn W (hW : Grew w W) (hn : Nodes W vn (Fm.enc (fg m))) => rightPremises_c lg m r va vb vn L R W (ha.grew hW) (hb.grew hW) hn hgL hgR hFL hFR hnL hnR hm hmz)
  have HML : Hid (dc (m ∈ L) = true → gd m = true) := Lib.hid (fun h => gd_mem hgL (of_dc h))
  have HMR : Hid (dc (m ∈ R) = true → gd m = true) := Lib.hid (fun h => gd_mem hgR (of_dc h))
  have HA := Lib.hid ha
  have HB := Lib.hid hb
  obtain ⟨A1, c1, rfl⟩ := strs_slice ha
  obtain ⟨A2, c2, rfl⟩ := strs_slice hb
  clear ha hb hgL hgR hFL hFR hmz
  obtain ⟨w1, hw1⟩ : ∃ w1, w1 = w.alloc (.cells #[.slice A1 L.length c1, .slice A2 R.length c2] 29) := ⟨_, rfl⟩
  have hg1 : Grew w w1 := by rw [hw1]; exact (Grew.refl w).alloc _
  have hb0 : w1.heap[w.heap.size]? = some (.cells #[.slice A1 L.length c1, .slice A2 R.length c2] 29 (0, 0)) := by rw [hw1]; exact blk_new w _
  have p0 : ∀ W, Grew w1 W → W.cell? ⟨w.heap.size, 0, none⟩ = some (.slice A1 L.length c1) := fun W hW => by rw [blk_cell ((hW.block (blk_lt hb0)).trans hb0)]; rfl
  have p1 : ∀ W, Grew w1 W → W.cell? ⟨w.heap.size, 1, none⟩ = some (.slice A2 R.length c2) := fun W hW => by rw [blk_cell ((hW.block (blk_lt hb0)).trans hb0)]; rfl
  have HG1 := Lib.hid hg1
  have hr1 := Grew.refl w1
  have hd1 := hr1.drew
  clear hg1 hb0
  generalize hG : pmF lg r L R m = X at *
  have HX := Lib.hid hG
  clear hG
  go_enter Tryz.func20, Tryz.ntmps20
  go_wp2_with fail
  simp only [← hw1]
  clear hw1
  refine wp_region_held_drew (S := fun w' => Grew w1 w') (by kernel_rfl) hd1 (fun hHeld => ?_)
  refine wpAnyH_take (i := 0) (oi := ?on1) (v := ?vn1) ?hin1 ?an1 ?bn1 ?cn1 ?qn1 (Or.inl ⟨?dn1, ?hyn1⟩) hHeld ?restn1
  case hin1 => (simp only [List.getElem?_toArray, List.getElem?_cons_zero]; exact rfl)
  case an1 => kernel_rfl
  case bn1 => kernel_rfl
  case cn1 => kernel_rfl
  case qn1 => exact fun _ _ _ h => h
  case dn1 => rfl
  case hyn1 => (intro z hSw; (try dsimp only at hSw); go_simp; (try with_reducible rfl))
  try simp only [Act.put, List.setIfInBounds_toArray, List.set_cons_zero, List.set_cons_succ]
  refine wpAnyH_take (i := 1) (oi := ?on2) (v := ?vn2) ?hin2 ?an2 ?bn2 ?cn2 ?qn2 (Or.inl ⟨?dn2, ?hyn2⟩) hHeld ?restn2
  case hin2 => (simp only [List.getElem?_toArray, List.getElem?_cons_succ, List.getElem?_cons_zero]; exact rfl)
  case an2 => kernel_rfl
  case bn2 => kernel_rfl
  case cn2 => kernel_rfl
  case qn2 => exact fun _ _ _ h => h
  case dn2 => rfl
  case hyn2 => (intro z hSw; (try dsimp only at hSw); go_simp; (try with_reducible rfl))
  try simp only [Act.put, List.setIfInBounds_toArray, List.set_cons_zero, List.set_cons_succ]
  refine wpAnyH_take (i := 2) (oi := ?on3) (v := ?vn3) ?hin3 ?an3 ?bn3 ?cn3 ?qn3 (Or.inl ⟨?dn3, ?hyn3⟩) hHeld ?restn3
  case hin3 => (simp only [List.getElem?_toArray, List.getElem?_cons_succ, List.getElem?_cons_zero]; exact rfl)
  case an3 => kernel_rfl
  case bn3 => kernel_rfl
  case cn3 => kernel_rfl
  case qn3 => exact fun _ _ _ h => h
  case dn3 => rfl
  case hyn3 => (intro z hSw; (try dsimp only at hSw); go_simp; (try with_reducible rfl))
  try simp only [Act.put, List.setIfInBounds_toArray, List.set_cons_zero, List.set_cons_succ]
  refine wpAnyH_take (i := 4) (oi := ?on4) (v := ?vn4) ?hin4 ?an4 ?bn4 ?cn4 ?qn4 (Or.inl ⟨?dn4, ?hyn4⟩) hHeld ?restn4
  case hin4 => (simp only [List.getElem?_toArray, List.getElem?_cons_succ, List.getElem?_cons_zero]; exact rfl)
  case an4 => kernel_rfl
  case bn4 => kernel_rfl
  case cn4 => kernel_rfl
  case qn4 => exact fun _ _ _ h => h
  case dn4 => rfl
  case hyn4 => (intro z hSw; (try dsimp only at hSw); go_simp; (try with_reducible rfl))
  try simp only [Act.put, List.setIfInBounds_toArray, List.set_cons_zero, List.set_cons_succ]
  refine wpAnyH_take (i := 5) (oi := ?on5) (v := ?vn5) ?hin5 ?an5 ?bn5 ?cn5 ?qn5 (Or.inl ⟨?dn5, ?hyn5⟩) hHeld ?restn5
  case hin5 => (simp only [List.getElem?_toArray, List.getElem?_cons_succ, List.getElem?_cons_zero]; exact rfl)
  case an5 => kernel_rfl
  case bn5 => kernel_rfl
  case cn5 => kernel_rfl
  case qn5 => exact fun _ _ _ h => h
  case dn5 => rfl
  case hyn5 => (intro z hSw; (try dsimp only at hSw); go_simp; (try with_reducible rfl))
  try simp only [Act.put, List.setIfInBounds_toArray, List.set_cons_zero, List.set_cons_succ]
  refine wpAnyH_take (i := 6) (oi := ?on6) (v := ?vn6) ?hin6 ?an6 ?bn6 ?cn6 ?qn6 (Or.inl ⟨?dn6, ?hyn6⟩) hHeld ?restn6
  case hin6 => (simp only [List.getElem?_toArray, List.getElem?_cons_succ, List.getElem?_cons_zero]; exact rfl)
  case an6 => kernel_rfl
  case bn6 => kernel_rfl
  case cn6 => kernel_rfl
  case qn6 => exact fun _ _ _ h => h
  case dn6 => rfl
  case hyn6 => (intro z hSw; (try dsimp only at hSw); go_simp; (try with_reducible rfl))
  try simp only [Act.put, List.setIfInBounds_toArray, List.set_cons_zero, List.set_cons_succ]
  refine wpAnyH_ready (rs := [3]) (by kernel_rfl) (by simp) ?_
  refine AllReadyH.cons (o := ?on7) ?hin7 ?restn7 AllReadyH.nil
  case hin7 => (simp only [List.getElem?_toArray, List.getElem?_cons_succ, List.getElem?_cons_zero]; exact rfl)
  intro K hK
  go_simp
  go_at_call 35
  refine (KC.out m _ (HG1.out.trans hd1)).mono ?_
  rintro e w2 ⟨rfl, hg2⟩
  have h2 : Grew w1 w2 := hd1.trans hg2
  refine hK.out _ _ ?_ (fun hHeld => ?_)
  · (try dsimp only); first | with_reducible assumption | exact Grew.alloc ‹_› _
  clear hK K
  try simp only [Act.put, List.setIfInBounds_toArray, List.set_cons_zero, List.set_cons_succ]
  refine wpAnyH_ready (rs := [7]) (by kernel_rfl) (by simp) ?_
  refine AllReadyH.cons (o := ?on8) ?hin8 ?restn8 AllReadyH.nil
  case hin8 => (simp only [List.getElem?_toArray, List.getElem?_cons_succ, List.getElem?_cons_zero]; exact rfl)
  intro K hK
  go_simp
  go_at_call 35
  refine (KD.out m _ (HG1.out.trans h2)).mono ?_
  rintro e w4 ⟨rfl, hg4⟩
  have h4 : Grew w1 w4 := h2.trans hg4
  refine hK.out _ _ ?_ (fun hHeld => ?_)
  · (try dsimp only); first | with_reducible assumption | exact Grew.alloc ‹_› _
  clear hK K
  try simp only [Act.put, List.setIfInBounds_toArray, List.set_cons_zero, List.set_cons_succ]
  refine wpAnyH_take (i := 8) (oi := ?on9) (v := ?vn9) ?hin9 ?an9 ?bn9 ?cn9 ?qn9 (Or.inl ⟨?dn9, ?hyn9⟩) hHeld ?restn9
  case hin9 => (simp only [List.getElem?_toArray, List.getElem?_cons_succ, List.getElem?_cons_zero]; exact rfl)
  case an9 => kernel_rfl
  case bn9 => kernel_rfl
  case cn9 => kernel_rfl
  case qn9 => exact fun _ _ _ h => h
  case dn9 => rfl
  case hyn9 => (intro z hSw; (try dsimp only at hSw); go_simp; (try with_reducible rfl))
  try simp only [Act.put, List.setIfInBounds_toArray, List.set_cons_zero, List.set_cons_succ]
  refine wpAnyH_take (i := 9) (oi := ?on10) (v := ?vn10) ?hin10 ?an10 ?bn10 ?cn10 ?qn10 (Or.inl ⟨?dn10, ?hyn10⟩) hHeld ?restn10
  case hin10 => (simp only [List.getElem?_toArray, List.getElem?_cons_succ, List.getElem?_cons_zero]; exact rfl)
  case an10 => kernel_rfl
  case bn10 => kernel_rfl
  case cn10 => kernel_rfl
  case qn10 => exact fun _ _ _ h => h
  case dn10 => rfl
  case hyn10 => (intro z hSw; (try dsimp only at hSw); go_simp; (try with_reducible rfl))
  try simp only [Act.put, List.setIfInBounds_toArray, List.set_cons_zero, List.set_cons_succ]
  refine wpAnyH_done (by kernel_rfl) ?_ _
  have q0 := fun W (hW : Grew w4 W) => p0 W (h4.trans hW)
  have q1 := fun W (hW : Grew w4 W) => p1 W (h4.trans hW)
  have HG4 := Lib.hid (HG1.out.trans h4)
  have hr4 := Grew.refl w4
  have hd4 := hr4.drew
  have z0 := q0 _ hr4
  have z1 := q1 _ hr4
  clear hg2 hg4 h2 h4 p0 p1 hr1 hd1
  generalize hml : dc (m ∈ L) = ml at *
  generalize hmr : dc (m ∈ R) = mr at *
  have HL0 := Lib.hid hml
  have HR0 := Lib.hid hmr
  clear hml hmr
  by_cases h1 : r = 1
  · subst h1
    cases ml with
    | false =>
      go_wp2_with fail
      go_ret2
      have hX := HX.out
      rw [pm_1, HL0.out, Bool.false_and] at hX
      rw [← hX]
      exact ⟨_, _, _, rfl, (fun _ => rdM_nil _), HG4.out⟩
    | true =>
      go_wp2_with fail
      go_ret2
      have hX := HX.out
      rw [pm_1, HL0.out, HR0.out, Bool.true_and] at hX
      rw [← hX]
      exact ⟨_, _, _, rfl, (fun _ => rdM_nil _), HG4.out⟩
  by_cases h2 : r = 2
  · subst h2
    have KC7 := Lib.hid (KC.out ⟨#[70]⟩ _ HG4.out)
    cases hme : m.toList.isEmpty with
    | false =>
      go_wp2_with fail
      go_ret2
      have hX := HX.out
      rw [pm_2, hme, Bool.false_and] at hX
      rw [← hX]
      exact ⟨_, _, _, rfl, (fun _ => rdM_nil _), HG4.out⟩
    | true =>
      go_wp2_with fail
      refine KC7.out.mono ?_
      rintro e w5 ⟨rfl, hg5⟩
      go_wp2_with fail
      go_ret2
      have hX := HX.out
      rw [pm_2, hme, Bool.true_and] at hX
      rw [← hX]
      exact ⟨_, _, _, rfl, (fun _ => rdM_nil _), HG4.out.trans hg5⟩
  by_cases h12 : r = 12
  · subst h12
    go_wp2_with fail
    refine (KM.out _ HG4.out).mono ?_
    rintro e w5 ⟨B1, m1, d1, B2, m2, d2, rfl, hs0, hs1, hg5⟩
    cases hme : m.toList.isEmpty with
    | false =>
      go_wp2_with fail
      go_ret2
      have hX := HX.out
      rw [pm_12, hme, Bool.false_and] at hX
      rw [← hX]
      exact ⟨_, _, _, rfl, (fun _ => rdM_one (blk_new w5 _) (Strs.grew hs0 ((Grew.refl _).alloc _)) (Strs.grew hs1 ((Grew.refl _).alloc _))), HG4.out.trans (hg5.alloc _)⟩
    | true =>
      cases hlg : (lg.toList == [68]) with
      | false =>
        go_wp2_with fail
        go_ret2
        have hX := HX.out
        rw [pm_12, hme, Bool.true_and, show isLg lg [68] = false from hlg] at hX
        rw [← hX]
        exact ⟨_, _, _, rfl, (fun _ => rdM_one (blk_new w5 _) (Strs.grew hs0 ((Grew.refl _).alloc _)) (Strs.grew hs1 ((Grew.refl _).alloc _))), HG4.out.trans (hg5.alloc _)⟩
      | true =>
        go_wp2_with fail
        go_ret2
        have hX := HX.out
        rw [pm_12, hme, Bool.true_and, show isLg lg [68] = true from hlg] at hX
        rw [← hX]
        exact ⟨_, _, _, rfl, (fun _ => rdM_one (blk_new w5 _) (Strs.grew hs0 ((Grew.refl _).alloc _)) (Strs.grew hs1 ((Grew.refl _).alloc _))), HG4.out.trans (hg5.alloc _)⟩
  by_cases h14 : r = 14
  · subst h14
    go_wp2_with fail
    refine wp_region_held_drew (S := fun w' => Grew w4 w') (by kernel_rfl) hd4 (fun hHeld => ?_)
    refine wpAnyH_take (i := 0) (oi := ?on11) (v := ?vn11) ?hin11 ?an11 ?bn11 ?cn11 ?qn11 (Or.inl ⟨?dn11, ?hyn11⟩) hHeld ?restn11
    case hin11 => (simp only [List.getElem?_toArray, List.getElem?_cons_zero]; exact rfl)
    case an11 => kernel_rfl
    case bn11 => kernel_rfl
    case cn11 => kernel_rfl
    case qn11 => exact fun _ _ _ h => h
    case dn11 => rfl
    case hyn11 => (intro z hSw; (try dsimp only at hSw); go_simp; (try with_reducible rfl))
    try simp only [Act.put, List.setIfInBounds_toArray, List.set_cons_zero, List.set_cons_succ]
    refine wpAnyH_take (i := 1) (oi := ?on12) (v := ?vn12) ?hin12 ?an12 ?bn12 ?cn12 ?qn12 (Or.inl ⟨?dn12, ?hyn12⟩) hHeld ?restn12
    case hin12 => (simp only [List.getElem?_toArray, List.getElem?_cons_succ, List.getElem?_cons_zero]; exact rfl)
    case an12 => kernel_rfl
    case bn12 => kernel_rfl
    case cn12 => kernel_rfl
    case qn12 => exact fun _ _ _ h => h
    case dn12 => rfl
    case hyn12 => (intro z hSw; (try dsimp only at hSw); go_simp; (try with_reducible rfl))
    try simp only [Act.put, List.setIfInBounds_toArray, List.set_cons_zero, List.set_cons_succ]
    refine wpAnyH_take (i := 2) (oi := ?on13) (v := ?vn13) ?hin13 ?an13 ?bn13 ?cn13 ?qn13 (Or.inl ⟨?dn13, ?hyn13⟩) hHeld ?restn13
    case hin13 => (simp only [List.getElem?_toArray, List.getElem?_cons_succ, List.getElem?_cons_zero]; exact rfl)
    case an13 => kernel_rfl
    case bn13 => kernel_rfl
    case cn13 => kernel_rfl
    case qn13 => exact fun _ _ _ h => h
    case dn13 => rfl
    case hyn13 => (intro z hSw; (try dsimp only at hSw); go_simp; (try with_reducible rfl))
    try simp only [Act.put, List.setIfInBounds_toArray, List.set_cons_zero, List.set_cons_succ]
    refine wpAnyH_take (i := 3) (oi := ?on14) (v := ?vn14) ?hin14 ?an14 ?bn14 ?cn14 ?qn14 (Or.inl ⟨?dn14, ?hyn14⟩) hHeld ?restn14
    case hin14 => (simp only [List.getElem?_toArray, List.getElem?_cons_succ, List.getElem?_cons_zero]; exact rfl)
    case an14 => kernel_rfl
    case bn14 => kernel_rfl
    case cn14 => kernel_rfl
    case qn14 => exact fun _ _ _ h => h
    case dn14 => rfl
    case hyn14 => (intro z hSw; (try dsimp only at hSw); go_simp; (try with_reducible rfl))
    try simp only [Act.put, List.setIfInBounds_toArray, List.set_cons_zero, List.set_cons_succ]
    refine wpAnyH_take (i := 4) (oi := ?on15) (v := ?vn15) ?hin15 ?an15 ?bn15 ?cn15 ?qn15 (Or.inl ⟨?dn15, ?hyn15⟩) hHeld ?restn15
    case hin15 => (simp only [List.getElem?_toArray, List.getElem?_cons_succ, List.getElem?_cons_zero]; exact rfl)
    case an15 => kernel_rfl
    case bn15 => kernel_rfl
    case cn15 => kernel_rfl
    case qn15 => exact fun _ _ _ h => h
    case dn15 => rfl
    case hyn15 => (intro z hSw; (try dsimp only at hSw); go_simp; (try with_reducible rfl))
    try simp only [Act.put, List.setIfInBounds_toArray, List.set_cons_zero, List.set_cons_succ]
    refine wpAnyH_take (i := 8) (oi := ?on16) (v := ?vn16) ?hin16 ?an16 ?bn16 ?cn16 ?qn16 (Or.inl ⟨?dn16, ?hyn16⟩) hHeld ?restn16
    case hin16 => (simp only [List.getElem?_toArray, List.getElem?_cons_succ, List.getElem?_cons_zero]; exact rfl)
    case an16 => kernel_rfl
    case bn16 => kernel_rfl
    case cn16 => kernel_rfl
    case qn16 => exact fun _ _ _ h => h
    case dn16 => rfl
    case hyn16 => (intro z hSw; (try dsimp only at hSw); go_simp; (try with_reducible rfl))
    try simp only [Act.put, List.setIfInBounds_toArray, List.set_cons_zero, List.set_cons_succ]
    refine wpAnyH_take (i := 9) (oi := ?on17) (v := ?vn17) ?hin17 ?an17 ?bn17 ?cn17 ?qn17 (Or.inl ⟨?dn17, ?hyn17⟩) hHeld ?restn17
    case hin17 => (simp only [List.getElem?_toArray, List.getElem?_cons_succ, List.getElem?_cons_zero]; exact rfl)
    case an17 => kernel_rfl
    case bn17 => kernel_rfl
    case cn17 => kernel_rfl
    case qn17 => exact fun _ _ _ h => h
    case dn17 => rfl
    case hyn17 => (intro z hSw; (try dsimp only at hSw); go_simp; (try with_reducible rfl))
    try simp only [Act.put, List.setIfInBounds_toArray, List.set_cons_zero, List.set_cons_succ]
    refine wpAnyH_take (i := 10) (oi := ?on18) (v := ?vn18) ?hin18 ?an18 ?bn18 ?cn18 ?qn18 (Or.inl ⟨?dn18, ?hyn18⟩) hHeld ?restn18
    case hin18 => (simp only [List.getElem?_toArray, List.getElem?_cons_succ, List.getElem?_cons_zero]; exact rfl)
    case an18 => kernel_rfl
    case bn18 => kernel_rfl
    case cn18 => kernel_rfl
    case qn18 => exact fun _ _ _ h => h
    case dn18 => rfl
    case hyn18 => (intro z hSw; (try dsimp only at hSw); go_simp; (try with_reducible rfl))
    try simp only [Act.put, List.setIfInBounds_toArray, List.set_cons_zero, List.set_cons_succ]
    refine wpAnyH_take (i := 13) (oi := ?on19) (v := ?vn19) ?hin19 ?an19 ?bn19 ?cn19 ?qn19 (Or.inl ⟨?dn19, ?hyn19⟩) hHeld ?restn19
    case hin19 => (simp only [List.getElem?_toArray, List.getElem?_cons_succ, List.getElem?_cons_zero]; exact rfl)
    case an19 => kernel_rfl
    case bn19 => kernel_rfl
    case cn19 => kernel_rfl
    case qn19 => exact fun _ _ _ h => h
    case dn19 => rfl
    case hyn19 => (intro z hSw; (try dsimp only at hSw); go_simp; (try with_reducible rfl))
    try simp only [Act.put, List.setIfInBounds_toArray, List.set_cons_zero, List.set_cons_succ]
    refine wpAnyH_take (i := 14) (oi := ?on20) (v := ?vn20) ?hin20 ?an20 ?bn20 ?cn20 ?qn20 (Or.inl ⟨?dn20, ?hyn20⟩) hHeld ?restn20
    case hin20 => (simp only [List.getElem?_toArray, List.getElem?_cons_succ, List.getElem?_cons_zero]; exact rfl)
    case an20 => kernel_rfl
    case bn20 => kernel_rfl
    case cn20 => kernel_rfl
    case qn20 => exact fun _ _ _ h => h
    case dn20 => rfl
    case hyn20 => (intro z hSw; (try dsimp only at hSw); go_simp; (try with_reducible rfl))
    try simp only [Act.put, List.setIfInBounds_toArray, List.set_cons_zero, List.set_cons_succ]
    refine wpAnyH_take (i := 17) (oi := ?on21) (v := ?vn21) ?hin21 ?an21 ?bn21 ?cn21 ?qn21 (Or.inl ⟨?dn21, ?hyn21⟩) hHeld ?restn21
    case hin21 => (simp only [List.getElem?_toArray, List.getElem?_cons_succ, List.getElem?_cons_zero]; exact rfl)
    case an21 => kernel_rfl
    case bn21 => kernel_rfl
    case cn21 => kernel_rfl
    case qn21 => exact fun _ _ _ h => h
    case dn21 => rfl
    case hyn21 => (intro z hSw; (try dsimp only at hSw); go_simp; (try with_reducible rfl))
    try simp only [Act.put, List.setIfInBounds_toArray, List.set_cons_zero, List.set_cons_succ]
    refine wpAnyH_ready (rs := [5, 11]) (by kernel_rfl) (by simp) ?_
    refine AllReadyH.cons (o := ?on22) ?hin22 ?restn22 (AllReadyH.cons (o := ?on23) ?hin23 ?restn23 AllReadyH.nil)
    case hin22 => (simp only [List.getElem?_toArray, List.getElem?_cons_succ, List.getElem?_cons_zero]; exact rfl)
    case hin23 => (simp only [List.getElem?_toArray, List.getElem?_cons_succ, List.getElem?_cons_zero]; exact rfl)
    case restn22 =>
      intro K hK
      go_simp
      obtain ⟨x1, hwx1⟩ : ∃ W, W = (w4.alloc (.cells #[.string m] 9)).drew := ⟨_, rfl⟩
      have hgx1 : Grew w4 x1 := by rw [hwx1]; exact ((Grew.refl _).alloc _).drew
      have hx1 : Grew w4 x1 := hgx1
      have hl0 : Strs x1 (.slice (some ⟨w4.heap.size, 0, none⟩) 1 1) [m] := lit_str (t := 9) (by rw [hwx1]; exact blk_new w4 _) (Grew.refl _)
      try simp only [← hwx1]
      clear hwx1
      refine hK.out _ _ ?_ (fun hHeld => ?_)
      · (try dsimp only); first | with_reducible assumption | exact hx1
      clear hK K
      try simp only [Act.put, List.setIfInBounds_toArray, List.set_cons_zero, List.set_cons_succ]
      refine wpAnyH_ready (rs := [6, 11]) (by kernel_rfl) (by simp) ?_
      refine AllReadyH.cons (o := ?on24) ?hin24 ?restn24 (AllReadyH.cons (o := ?on25) ?hin25 ?restn25 AllReadyH.nil)
      case hin24 => (simp only [List.getElem?_toArray, List.getElem?_cons_succ, List.getElem?_cons_zero]; exact rfl)
      case hin25 => (simp only [List.getElem?_toArray, List.getElem?_cons_succ, List.getElem?_cons_zero]; exact rfl)
      case restn24 =>
        intro K hK
        go_simp
        go_at_call 38
        refine (put_c _ _ R [m] _ (HB.out.grew (HG4.out.trans hx1)) hl0 (by simp; omega)).mono ?_
        rintro e x2 ⟨u0, rfl, hu0, hgx2⟩
        have hx2 : Grew w4 x2 := hx1.trans hgx2
        obtain ⟨AU0, cU0, rfl⟩ := strs_slice hu0.strs
        have hs0 := hu0.strs
        clear hu0
        replace hl0 := hl0.grew hgx2
        refine hK.out _ _ ?_ (fun hHeld => ?_)
        · (try dsimp only); first | with_reducible assumption | exact hx2
        clear hK K
        try simp only [Act.put, List.setIfInBounds_toArray, List.set_cons_zero, List.set_cons_succ]
        refine wpAnyH_take (i := 7) (oi := ?on26) (v := ?vn26) ?hin26 ?an26 ?bn26 ?cn26 ?qn26 (Or.inl ⟨?dn26, ?hyn26⟩) hHeld ?restn26
        case hin26 => (simp only [List.getElem?_toArray, List.getElem?_cons_succ, List.getElem?_cons_zero]; exact rfl)
        case an26 => kernel_rfl
        case bn26 => kernel_rfl
        case cn26 => kernel_rfl
        case qn26 => exact fun _ _ _ h => h
        case dn26 => rfl
        case hyn26 => (intro z hSw; (try dsimp only at hSw); go_simp; (try with_reducible rfl))
        try simp only [Act.put, List.setIfInBounds_toArray, List.set_cons_zero, List.set_cons_succ]
        refine wpAnyH_ready (rs := [11]) (by kernel_rfl) (by simp) ?_
        refine AllReadyH.cons (o := ?on27) ?hin27 ?restn27 AllReadyH.nil
        case hin27 => (simp only [List.getElem?_toArray, List.getElem?_cons_succ, List.getElem?_cons_zero]; exact rfl)
        intro K hK
        go_simp
        obtain ⟨x3, hwx3⟩ : ∃ W, W = x2.alloc (.cells #[.string m] 9) := ⟨_, rfl⟩
        have hgx3 : Grew x2 x3 := by rw [hwx3]; exact (Grew.refl _).alloc _
        have hx3 : Grew w4 x3 := hx2.trans hgx3
        have hl1 : Strs x3 (.slice (some ⟨x2.heap.size, 0, none⟩) 1 1) [m] := lit_str (t := 9) (by rw [hwx3]; exact blk_new x2 _) (Grew.refl _)
        try simp only [← hwx3]
        clear hwx3
        replace hl0 := hl0.grew hgx3
        replace hs0 := hs0.grew hgx3
        refine hK.out _ _ ?_ (fun hHeld => ?_)
        · (try dsimp only); first | with_reducible assumption | exact hx3
        clear hK K
        try simp only [Act.put, List.setIfInBounds_toArray, List.set_cons_zero, List.set_cons_succ]
        refine wpAnyH_ready (rs := [12]) (by kernel_rfl) (by simp) ?_
        refine AllReadyH.cons (o := ?on28) ?hin28 ?restn28 AllReadyH.nil
        case hin28 => (simp only [List.getElem?_toArray, List.getElem?_cons_succ, List.getElem?_cons_zero]; exact rfl)
        intro K hK
        go_simp
        go_at_call 38
        refine (put_c _ _ L [m] _ (HA.out.grew (HG4.out.trans hx3)) hl1 (by simp; omega)).mono ?_
        rintro e x4 ⟨u1, rfl, hu1, hgx4⟩
        have hx4 : Grew w4 x4 := hx3.trans hgx4
        obtain ⟨AU1, cU1, rfl⟩ := strs_slice hu1.strs
        have hs1 := hu1.strs
        clear hu1
        replace hl0 := hl0.grew hgx4
        replace hs0 := hs0.grew hgx4
        replace hl1 := hl1.grew hgx4
        refine hK.out _ _ ?_ (fun hHeld => ?_)
        · (try dsimp only); first | with_reducible assumption | exact hx4
        clear hK K
        try simp only [Act.put, List.setIfInBounds_toArray, List.set_cons_zero, List.set_cons_succ]
        refine wpAnyH_take (i := 15) (oi := ?on29) (v := ?vn29) ?hin29 ?an29 ?bn29 ?cn29 ?qn29 (Or.inl ⟨?dn29, ?hyn29⟩) hHeld ?restn29
        case hin29 => (simp only [List.getElem?_toArray, List.getElem?_cons_succ, List.getElem?_cons_zero]; exact rfl)
        case an29 => kernel_rfl
        case bn29 => kernel_rfl
        case cn29 => kernel_rfl
        case qn29 => exact fun _ _ _ h => h
        case dn29 => rfl
        case hyn29 => (intro z hSw; (try dsimp only at hSw); go_simp; (try with_reducible rfl))
        try simp only [Act.put, List.setIfInBounds_toArray, List.set_cons_zero, List.set_cons_succ]
        refine wpAnyH_ready (rs := [16, 18]) (by kernel_rfl) (by simp) ?_
        refine AllReadyH.cons (o := ?on30) ?hin30 ?restn30 (AllReadyH.cons (o := ?on31) ?hin31 ?restn31 AllReadyH.nil)
        case hin30 => (simp only [List.getElem?_toArray, List.getElem?_cons_succ, List.getElem?_cons_zero]; exact rfl)
        case hin31 => (simp only [List.getElem?_toArray, List.getElem?_cons_succ, List.getElem?_cons_zero]; exact rfl)
        case restn30 =>
          intro K hK
          go_simp
          obtain ⟨x5, hwx5⟩ : ∃ W, W = x4.alloc (.cells #[.slice A1 L.length c1, .slice AU0 (putS (R ++ [m])).length cU0, .slice AU1 (putS (L ++ [m])).length cU1, .slice A2 R.length c2] 29) := ⟨_, rfl⟩
          have hgx5 : Grew x4 x5 := by rw [hwx5]; exact (Grew.refl _).alloc _
          have hx5 : Grew w4 x5 := hx4.trans hgx5
          have hrd : RdM x5 (.slice (some ⟨x4.heap.size, 0, none⟩) 2 2) [(L, putS (R ++ [m])), (putS (L ++ [m]), R)] := rdM_two (t := 29) (by rw [hwx5]; exact blk_new x4 _) (HA.out.grew (HG4.out.trans hx5)) (hs0.grew hgx5) (hs1.grew hgx5) (HB.out.grew (HG4.out.trans hx5))
          try simp only [← hwx5]
          clear hwx5
          replace hl0 := hl0.grew hgx5
          replace hs0 := hs0.grew hgx5
          replace hl1 := hl1.grew hgx5
          replace hs1 := hs1.grew hgx5
          refine hK.out _ _ ?_ (fun hHeld => ?_)
          · (try dsimp only); first | with_reducible assumption | exact hx5
          clear hK K
          try simp only [Act.put, List.setIfInBounds_toArray, List.set_cons_zero, List.set_cons_succ]
          refine wpAnyH_ready (rs := [18]) (by kernel_rfl) (by simp) ?_
          refine AllReadyH.cons (o := ?on32) ?hin32 ?restn32 AllReadyH.nil
          case hin32 => (simp only [List.getElem?_toArray, List.getElem?_cons_succ, List.getElem?_cons_zero]; exact rfl)
          intro K hK
          go_simp
          go_at_call 39
          refine (KT.out _).mono ?_
          rintro e x6 ⟨rfl, hgx6⟩
          have hx6 : Grew w4 x6 := hx5.trans hgx6
          replace hl0 := hl0.grew hgx6
          replace hs0 := hs0.grew hgx6
          replace hl1 := hl1.grew hgx6
          replace hs1 := hs1.grew hgx6
          replace hrd := hrd.grew hgx6
          refine hK.out _ _ ?_ (fun hHeld => ?_)
          · (try dsimp only); first | with_reducible assumption | exact hx6
          clear hK K
          try simp only [Act.put, List.setIfInBounds_toArray, List.set_cons_zero, List.set_cons_succ]
          refine wpAnyH_take (i := 19) (oi := ?on33) (v := ?vn33) ?hin33 ?an33 ?bn33 ?cn33 ?qn33 (Or.inl ⟨?dn33, ?hyn33⟩) hHeld ?restn33
          case hin33 => (simp only [List.getElem?_toArray, List.getElem?_cons_succ, List.getElem?_cons_zero]; exact rfl)
          case an33 => kernel_rfl
          case bn33 => kernel_rfl
          case cn33 => kernel_rfl
          case qn33 => exact fun _ _ _ h => h
          case dn33 => rfl
          case hyn33 => (intro z hSw; (try dsimp only at hSw); go_simp; (try with_reducible rfl))
          try simp only [Act.put, List.setIfInBounds_toArray, List.set_cons_zero, List.set_cons_succ]
          refine wpAnyH_take (i := 20) (oi := ?on34) (v := ?vn34) ?hin34 ?an34 ?bn34 ?cn34 ?qn34 (Or.inl ⟨?dn34, ?hyn34⟩) hHeld ?restn34
          case hin34 => (simp only [List.getElem?_toArray, List.getElem?_cons_succ, List.getElem?_cons_zero]; exact rfl)
          case an34 => kernel_rfl
          case bn34 => kernel_rfl
          case cn34 => kernel_rfl
          case qn34 => exact fun _ _ _ h => h
          case dn34 => rfl
          case hyn34 => (intro z hSw; (try dsimp only at hSw); go_simp; (try with_reducible rfl))
          try simp only [Act.put, List.setIfInBounds_toArray, List.set_cons_zero, List.set_cons_succ]
          refine wpAnyH_done (by kernel_rfl) ?_ _
          go_wp2_with fail
          go_ret2
          have hX := HX.out
          rw [pm_14] at hX
          rw [← hX]
          exact ⟨_, _, _, rfl, (fun _ => hrd), HG4.out.trans hx6⟩
        case restn31 =>
          intro K hK
          go_simp
          go_at_call 39
          refine (KT.out _).mono ?_
          rintro e x5 ⟨rfl, hgx5⟩
          have hx5 : Grew w4 x5 := hx4.trans hgx5
          replace hl0 := hl0.grew hgx5
          replace hs0 := hs0.grew hgx5
          replace hl1 := hl1.grew hgx5
          replace hs1 := hs1.grew hgx5
          refine hK.out _ _ ?_ (fun hHeld => ?_)
          · (try dsimp only); first | with_reducible assumption | exact hx5
          clear hK K
          try simp only [Act.put, List.setIfInBounds_toArray, List.set_cons_zero, List.set_cons_succ]
          refine wpAnyH_ready (rs := [16]) (by kernel_rfl) (by simp) ?_
          refine AllReadyH.cons (o := ?on35) ?hin35 ?restn35 AllReadyH.nil
          case hin35 => (simp only [List.getElem?_toArray, List.getElem?_cons_succ, List.getElem?_cons_zero]; exact rfl)
          intro K hK
          go_simp
          obtain ⟨x6, hwx6⟩ : ∃ W, W = x5.alloc (.cells #[.slice A1 L.length c1, .slice AU0 (putS (R ++ [m])).length cU0, .slice AU1 (putS (L ++ [m])).length cU1, .slice A2 R.length c2] 29) := ⟨_, rfl⟩
          have hgx6 : Grew x5 x6 := by rw [hwx6]; exact (Grew.refl _).alloc _
          have hx6 : Grew w4 x6 := hx5.trans hgx6
          have hrd : RdM x6 (.slice (some ⟨x5.heap.size, 0, none⟩) 2 2) [(L, putS (R ++ [m])), (putS (L ++ [m]), R)] := rdM_two (t := 29) (by rw [hwx6]; exact blk_new x5 _) (HA.out.grew (HG4.out.trans hx6)) (hs0.grew hgx6) (hs1.grew hgx6) (HB.out.grew (HG4.out.trans hx6))
          try simp only [← hwx6]
          clear hwx6
          replace hl0 := hl0.grew hgx6
          replace hs0 := hs0.grew hgx6
          replace hl1 := hl1.grew hgx6
          replace hs1 := hs1.grew hgx6
          refine hK.out _ _ ?_ (fun hHeld => ?_)
          · (try dsimp only); first | with_reducible assumption | exact hx6
          clear hK K
          try simp only [Act.put, List.setIfInBounds_toArray, List.set_cons_zero, List.set_cons_succ]
          refine wpAnyH_take (i := 19) (oi := ?on36) (v := ?vn36) ?hin36 ?an36 ?bn36 ?cn36 ?qn36 (Or.inl ⟨?dn36, ?hyn36⟩) hHeld ?restn36
          case hin36 => (simp only [List.getElem?_toArray, List.getElem?_cons_succ, List.getElem?_cons_zero]; exact rfl)
          case an36 => kernel_rfl
          case bn36 => kernel_rfl
          case cn36 => kernel_rfl
          case qn36 => exact fun _ _ _ h => h
          case dn36 => rfl
          case hyn36 => (intro z hSw; (try dsimp only at hSw); go_simp; (try with_reducible rfl))
          try simp only [Act.put, List.setIfInBounds_toArray, List.set_cons_zero, List.set_cons_succ]
          refine wpAnyH_take (i := 20) (oi := ?on37) (v := ?vn37) ?hin37 ?an37 ?bn37 ?cn37 ?qn37 (Or.inl ⟨?dn37, ?hyn37⟩) hHeld ?restn37
          case hin37 => (simp only [List.getElem?_toArray, List.getElem?_cons_succ, List.getElem?_cons_zero]; exact rfl)
          case an37 => kernel_rfl
          case bn37 => kernel_rfl
          case cn37 => kernel_rfl
          case qn37 => exact fun _ _ _ h => h
          case dn37 => rfl
          case hyn37 => (intro z hSw; (try dsimp only at hSw); go_simp; (try with_reducible rfl))
          try simp only [Act.put, List.setIfInBounds_toArray, List.set_cons_zero, List.set_cons_succ]
          refine wpAnyH_done (by kernel_rfl) ?_ _
          go_wp2_with fail
          go_ret2
          have hX := HX.out
          rw [pm_14] at hX
          rw [← hX]
          exact ⟨_, _, _, rfl, (fun _ => hrd), HG4.out.trans hx6⟩
      case restn25 =>
        intro K hK
        go_simp
        obtain ⟨x2, hwx2⟩ : ∃ W, W = x1.alloc (.cells #[.string m] 9) := ⟨_, rfl⟩
        have hgx2 : Grew x1 x2 := by rw [hwx2]; exact (Grew.refl _).alloc _
        have hx2 : Grew w4 x2 := hx1.trans hgx2
        have hl1 : Strs x2 (.slice (some ⟨x1.heap.size, 0, none⟩) 1 1) [m] := lit_str (t := 9) (by rw [hwx2]; exact blk_new x1 _) (Grew.refl _)
        try simp only [← hwx2]
        clear hwx2
        replace hl0 := hl0.grew hgx2
        refine hK.out _ _ ?_ (fun hHeld => ?_)
        · (try dsimp only); first | with_reducible assumption | exact hx2
        clear hK K
        try simp only [Act.put, List.setIfInBounds_toArray, List.set_cons_zero, List.set_cons_succ]
        refine wpAnyH_ready (rs := [6]) (by kernel_rfl) (by simp) ?_
        refine AllReadyH.cons (o := ?on38) ?hin38 ?restn38 AllReadyH.nil
        case hin38 => (simp only [List.getElem?_toArray, List.getElem?_cons_succ, List.getElem?_cons_zero]; exact rfl)
        intro K hK
        go_simp
        go_at_call 38
        refine (put_c _ _ R [m] _ (HB.out.grew (HG4.out.trans hx2)) hl0 (by simp; omega)).mono ?_
        rintro e x3 ⟨u0, rfl, hu0, hgx3⟩
        have hx3 : Grew w4 x3 := hx2.trans hgx3
        obtain ⟨AU0, cU0, rfl⟩ := strs_slice hu0.strs
        have hs0 := hu0.strs
        clear hu0
        replace hl0 := hl0.grew hgx3
        replace hl1 := hl1.grew hgx3
        refine hK.out _ _ ?_ (fun hHeld => ?_)
        · (try dsimp only); first | with_reducible assumption | exact hx3
        clear hK K
        try simp only [Act.put, List.setIfInBounds_toArray, List.set_cons_zero, List.set_cons_succ]
        refine wpAnyH_take (i := 7) (oi := ?on39) (v := ?vn39) ?hin39 ?an39 ?bn39 ?cn39 ?qn39 (Or.inl ⟨?dn39, ?hyn39⟩) hHeld ?restn39
        case hin39 => (simp only [List.getElem?_toArray, List.getElem?_cons_succ, List.getElem?_cons_zero]; exact rfl)
        case an39 => kernel_rfl
        case bn39 => kernel_rfl
        case cn39 => kernel_rfl
        case qn39 => exact fun _ _ _ h => h
        case dn39 => rfl
        case hyn39 => (intro z hSw; (try dsimp only at hSw); go_simp; (try with_reducible rfl))
        try simp only [Act.put, List.setIfInBounds_toArray, List.set_cons_zero, List.set_cons_succ]
        refine wpAnyH_ready (rs := [12]) (by kernel_rfl) (by simp) ?_
        refine AllReadyH.cons (o := ?on40) ?hin40 ?restn40 AllReadyH.nil
        case hin40 => (simp only [List.getElem?_toArray, List.getElem?_cons_succ, List.getElem?_cons_zero]; exact rfl)
        intro K hK
        go_simp
        go_at_call 38
        refine (put_c _ _ L [m] _ (HA.out.grew (HG4.out.trans hx3)) hl1 (by simp; omega)).mono ?_
        rintro e x4 ⟨u1, rfl, hu1, hgx4⟩
        have hx4 : Grew w4 x4 := hx3.trans hgx4
        obtain ⟨AU1, cU1, rfl⟩ := strs_slice hu1.strs
        have hs1 := hu1.strs
        clear hu1
        replace hl0 := hl0.grew hgx4
        replace hl1 := hl1.grew hgx4
        replace hs0 := hs0.grew hgx4
        refine hK.out _ _ ?_ (fun hHeld => ?_)
        · (try dsimp only); first | with_reducible assumption | exact hx4
        clear hK K
        try simp only [Act.put, List.setIfInBounds_toArray, List.set_cons_zero, List.set_cons_succ]
        refine wpAnyH_take (i := 15) (oi := ?on41) (v := ?vn41) ?hin41 ?an41 ?bn41 ?cn41 ?qn41 (Or.inl ⟨?dn41, ?hyn41⟩) hHeld ?restn41
        case hin41 => (simp only [List.getElem?_toArray, List.getElem?_cons_succ, List.getElem?_cons_zero]; exact rfl)
        case an41 => kernel_rfl
        case bn41 => kernel_rfl
        case cn41 => kernel_rfl
        case qn41 => exact fun _ _ _ h => h
        case dn41 => rfl
        case hyn41 => (intro z hSw; (try dsimp only at hSw); go_simp; (try with_reducible rfl))
        try simp only [Act.put, List.setIfInBounds_toArray, List.set_cons_zero, List.set_cons_succ]
        refine wpAnyH_ready (rs := [16, 18]) (by kernel_rfl) (by simp) ?_
        refine AllReadyH.cons (o := ?on42) ?hin42 ?restn42 (AllReadyH.cons (o := ?on43) ?hin43 ?restn43 AllReadyH.nil)
        case hin42 => (simp only [List.getElem?_toArray, List.getElem?_cons_succ, List.getElem?_cons_zero]; exact rfl)
        case hin43 => (simp only [List.getElem?_toArray, List.getElem?_cons_succ, List.getElem?_cons_zero]; exact rfl)
        case restn42 =>
          intro K hK
          go_simp
          obtain ⟨x5, hwx5⟩ : ∃ W, W = x4.alloc (.cells #[.slice A1 L.length c1, .slice AU0 (putS (R ++ [m])).length cU0, .slice AU1 (putS (L ++ [m])).length cU1, .slice A2 R.length c2] 29) := ⟨_, rfl⟩
          have hgx5 : Grew x4 x5 := by rw [hwx5]; exact (Grew.refl _).alloc _
          have hx5 : Grew w4 x5 := hx4.trans hgx5
          have hrd : RdM x5 (.slice (some ⟨x4.heap.size, 0, none⟩) 2 2) [(L, putS (R ++ [m])), (putS (L ++ [m]), R)] := rdM_two (t := 29) (by rw [hwx5]; exact blk_new x4 _) (HA.out.grew (HG4.out.trans hx5)) (hs0.grew hgx5) (hs1.grew hgx5) (HB.out.grew (HG4.out.trans hx5))
          try simp only [← hwx5]
          clear hwx5
          replace hl0 := hl0.grew hgx5
          replace hl1 := hl1.grew hgx5
          replace hs0 := hs0.grew hgx5
          replace hs1 := hs1.grew hgx5
          refine hK.out _ _ ?_ (fun hHeld => ?_)
          · (try dsimp only); first | with_reducible assumption | exact hx5
          clear hK K
          try simp only [Act.put, List.setIfInBounds_toArray, List.set_cons_zero, List.set_cons_succ]
          refine wpAnyH_ready (rs := [18]) (by kernel_rfl) (by simp) ?_
          refine AllReadyH.cons (o := ?on44) ?hin44 ?restn44 AllReadyH.nil
          case hin44 => (simp only [List.getElem?_toArray, List.getElem?_cons_succ, List.getElem?_cons_zero]; exact rfl)
          intro K hK
          go_simp
          go_at_call 39
          refine (KT.out _).mono ?_
          rintro e x6 ⟨rfl, hgx6⟩
          have hx6 : Grew w4 x6 := hx5.trans hgx6
          replace hl0 := hl0.grew hgx6
          replace hl1 := hl1.grew hgx6
          replace hs0 := hs0.grew hgx6
          replace hs1 := hs1.grew hgx6
          replace hrd := hrd.grew hgx6
          refine hK.out _ _ ?_ (fun hHeld => ?_)
          · (try dsimp only); first | with_reducible assumption | exact hx6
          clear hK K
          try simp only [Act.put, List.setIfInBounds_toArray, List.set_cons_zero, List.set_cons_succ]
          refine wpAnyH_take (i := 19) (oi := ?on45) (v := ?vn45) ?hin45 ?an45 ?bn45 ?cn45 ?qn45 (Or.inl ⟨?dn45, ?hyn45⟩) hHeld ?restn45
          case hin45 => (simp only [List.getElem?_toArray, List.getElem?_cons_succ, List.getElem?_cons_zero]; exact rfl)
          case an45 => kernel_rfl
          case bn45 => kernel_rfl
          case cn45 => kernel_rfl
          case qn45 => exact fun _ _ _ h => h
          case dn45 => rfl
          case hyn45 => (intro z hSw; (try dsimp only at hSw); go_simp; (try with_reducible rfl))
          try simp only [Act.put, List.setIfInBounds_toArray, List.set_cons_zero, List.set_cons_succ]
          refine wpAnyH_take (i := 20) (oi := ?on46) (v := ?vn46) ?hin46 ?an46 ?bn46 ?cn46 ?qn46 (Or.inl ⟨?dn46, ?hyn46⟩) hHeld ?restn46
          case hin46 => (simp only [List.getElem?_toArray, List.getElem?_cons_succ, List.getElem?_cons_zero]; exact rfl)
          case an46 => kernel_rfl
          case bn46 => kernel_rfl
          case cn46 => kernel_rfl
          case qn46 => exact fun _ _ _ h => h
          case dn46 => rfl
          case hyn46 => (intro z hSw; (try dsimp only at hSw); go_simp; (try with_reducible rfl))
          try simp only [Act.put, List.setIfInBounds_toArray, List.set_cons_zero, List.set_cons_succ]
          refine wpAnyH_done (by kernel_rfl) ?_ _
          go_wp2_with fail
          go_ret2
          have hX := HX.out
          rw [pm_14] at hX
          rw [← hX]
          exact ⟨_, _, _, rfl, (fun _ => hrd), HG4.out.trans hx6⟩
        case restn43 =>
          intro K hK
          go_simp
          go_at_call 39
          refine (KT.out _).mono ?_
          rintro e x5 ⟨rfl, hgx5⟩
          have hx5 : Grew w4 x5 := hx4.trans hgx5
          replace hl0 := hl0.grew hgx5
          replace hl1 := hl1.grew hgx5
          replace hs0 := hs0.grew hgx5
          replace hs1 := hs1.grew hgx5
          refine hK.out _ _ ?_ (fun hHeld => ?_)
          · (try dsimp only); first | with_reducible assumption | exact hx5
          clear hK K
          try simp only [Act.put, List.setIfInBounds_toArray, List.set_cons_zero, List.set_cons_succ]
          refine wpAnyH_ready (rs := [16]) (by kernel_rfl) (by simp) ?_
          refine AllReadyH.cons (o := ?on47) ?hin47 ?restn47 AllReadyH.nil
          case hin47 => (simp only [List.getElem?_toArray, List.getElem?_cons_succ, List.getElem?_cons_zero]; exact rfl)
          intro K hK
          go_simp
          obtain ⟨x6, hwx6⟩ : ∃ W, W = x5.alloc (.cells #[.slice A1 L.length c1, .slice AU0 (putS (R ++ [m])).length cU0, .slice AU1 (putS (L ++ [m])).length cU1, .slice A2 R.length c2] 29) := ⟨_, rfl⟩
          have hgx6 : Grew x5 x6 := by rw [hwx6]; exact (Grew.refl _).alloc _
          have hx6 : Grew w4 x6 := hx5.trans hgx6
          have hrd : RdM x6 (.slice (some ⟨x5.heap.size, 0, none⟩) 2 2) [(L, putS (R ++ [m])), (putS (L ++ [m]), R)] := rdM_two (t := 29) (by rw [hwx6]; exact blk_new x5 _) (HA.out.grew (HG4.out.trans hx6)) (hs0.grew hgx6) (hs1.grew hgx6) (HB.out.grew (HG4.out.trans hx6))
          try simp only [← hwx6]
          clear hwx6
          replace hl0 := hl0.grew hgx6
          replace hl1 := hl1.grew hgx6
          replace hs0 := hs0.grew hgx6
          replace hs1 := hs1.grew hgx6
          refine hK.out _ _ ?_ (fun hHeld => ?_)
          · (try dsimp only); first | with_reducible assumption | exact hx6
          clear hK K
          try simp only [Act.put, List.setIfInBounds_toArray, List.set_cons_zero, List.set_cons_succ]
          refine wpAnyH_take (i := 19) (oi := ?on48) (v := ?vn48) ?hin48 ?an48 ?bn48 ?cn48 ?qn48 (Or.inl ⟨?dn48, ?hyn48⟩) hHeld ?restn48
          case hin48 => (simp only [List.getElem?_toArray, List.getElem?_cons_succ, List.getElem?_cons_zero]; exact rfl)
          case an48 => kernel_rfl
          case bn48 => kernel_rfl
          case cn48 => kernel_rfl
          case qn48 => exact fun _ _ _ h => h
          case dn48 => rfl
          case hyn48 => (intro z hSw; (try dsimp only at hSw); go_simp; (try with_reducible rfl))
          try simp only [Act.put, List.setIfInBounds_toArray, List.set_cons_zero, List.set_cons_succ]
          refine wpAnyH_take (i := 20) (oi := ?on49) (v := ?vn49) ?hin49 ?an49 ?bn49 ?cn49 ?qn49 (Or.inl ⟨?dn49, ?hyn49⟩) hHeld ?restn49
          case hin49 => (simp only [List.getElem?_toArray, List.getElem?_cons_succ, List.getElem?_cons_zero]; exact rfl)
          case an49 => kernel_rfl
          case bn49 => kernel_rfl
          case cn49 => kernel_rfl
          case qn49 => exact fun _ _ _ h => h
          case dn49 => rfl
          case hyn49 => (intro z hSw; (try dsimp only at hSw); go_simp; (try with_reducible rfl))
          try simp only [Act.put, List.setIfInBounds_toArray, List.set_cons_zero, List.set_cons_succ]
          refine wpAnyH_done (by kernel_rfl) ?_ _
          go_wp2_with fail
          go_ret2
          have hX := HX.out
          rw [pm_14] at hX
          rw [← hX]
          exact ⟨_, _, _, rfl, (fun _ => hrd), HG4.out.trans hx6⟩
    case restn23 =>
      intro K hK
      go_simp
      obtain ⟨x1, hwx1⟩ : ∃ W, W = (w4.alloc (.cells #[.string m] 9)).drew := ⟨_, rfl⟩
      have hgx1 : Grew w4 x1 := by rw [hwx1]; exact ((Grew.refl _).alloc _).drew
      have hx1 : Grew w4 x1 := hgx1
      have hl1 : Strs x1 (.slice (some ⟨w4.heap.size, 0, none⟩) 1 1) [m] := lit_str (t := 9) (by rw [hwx1]; exact blk_new w4 _) (Grew.refl _)
      try simp only [← hwx1]
      clear hwx1
      refine hK.out _ _ ?_ (fun hHeld => ?_)
      · (try dsimp only); first | with_reducible assumption | exact hx1
      clear hK K
      try simp only [Act.put, List.setIfInBounds_toArray, List.set_cons_zero, List.set_cons_succ]
      refine wpAnyH_ready (rs := [5]) (by kernel_rfl) (by simp) ?_
      refine AllReadyH.cons (o := ?on50) ?hin50 ?restn50 AllReadyH.nil
      case hin50 => (simp only [List.getElem?_toArray, List.getElem?_cons_succ, List.getElem?_cons_zero]; exact rfl)
      intro K hK
      go_simp
      obtain ⟨x2, hwx2⟩ : ∃ W, W = x1.alloc (.cells #[.string m] 9) := ⟨_, rfl⟩
      have hgx2 : Grew x1 x2 := by rw [hwx2]; exact (Grew.refl _).alloc _
      have hx2 : Grew w4 x2 := hx1.trans hgx2
      have hl0 : Strs x2 (.slice (some ⟨x1.heap.size, 0, none⟩) 1 1) [m] := lit_str (t := 9) (by rw [hwx2]; exact blk_new x1 _) (Grew.refl _)
      try simp only [← hwx2]
      clear hwx2
      replace hl1 := hl1.grew hgx2
      refine hK.out _ _ ?_ (fun hHeld => ?_)
      · (try dsimp only); first | with_reducible assumption | exact hx2
      clear hK K
      try simp only [Act.put, List.setIfInBounds_toArray, List.set_cons_zero, List.set_cons_succ]
      refine wpAnyH_ready (rs := [6]) (by kernel_rfl) (by simp) ?_
      refine AllReadyH.cons (o := ?on51) ?hin51 ?restn51 AllReadyH.nil
      case hin51 => (simp only [List.getElem?_toArray, List.getElem?_cons_succ, List.getElem?_cons_zero]; exact rfl)
      intro K hK
      go_simp
      go_at_call 38
      refine (put_c _ _ R [m] _ (HB.out.grew (HG4.out.trans hx2)) hl0 (by simp; omega)).mono ?_
      rintro e x3 ⟨u0, rfl, hu0, hgx3⟩
      have hx3 : Grew w4 x3 := hx2.trans hgx3
      obtain ⟨AU0, cU0, rfl⟩ := strs_slice hu0.strs
      have hs0 := hu0.strs
      clear hu0
      replace hl1 := hl1.grew hgx3
      replace hl0 := hl0.grew hgx3
      refine hK.out _ _ ?_ (fun hHeld => ?_)
      · (try dsimp only); first | with_reducible assumption | exact hx3
      clear hK K
      try simp only [Act.put, List.setIfInBounds_toArray, List.set_cons_zero, List.set_cons_succ]
      refine wpAnyH_take (i := 7) (oi := ?on52) (v := ?vn52) ?hin52 ?an52 ?bn52 ?cn52 ?qn52 (Or.inl ⟨?dn52, ?hyn52⟩) hHeld ?restn52
      case hin52 => (simp only [List.getElem?_toArray, List.getElem?_cons_succ, List.getElem?_cons_zero]; exact rfl)
      case an52 => kernel_rfl
      case bn52 => kernel_rfl
      case cn52 => kernel_rfl
      case qn52 => exact fun _ _ _ h => h
      case dn52 => rfl
      case hyn52 => (intro z hSw; (try dsimp only at hSw); go_simp; (try with_reducible rfl))
      try simp only [Act.put, List.setIfInBounds_toArray, List.set_cons_zero, List.set_cons_succ]
      refine wpAnyH_ready (rs := [12]) (by kernel_rfl) (by simp) ?_
      refine AllReadyH.cons (o := ?on53) ?hin53 ?restn53 AllReadyH.nil
      case hin53 => (simp only [List.getElem?_toArray, List.getElem?_cons_succ, List.getElem?_cons_zero]; exact rfl)
      intro K hK
      go_simp
      go_at_call 38
      refine (put_c _ _ L [m] _ (HA.out.grew (HG4.out.trans hx3)) hl1 (by simp; omega)).mono ?_
      rintro e x4 ⟨u1, rfl, hu1, hgx4⟩
      have hx4 : Grew w4 x4 := hx3.trans hgx4
      obtain ⟨AU1, cU1, rfl⟩ := strs_slice hu1.strs
      have hs1 := hu1.strs
      clear hu1
      replace hl1 := hl1.grew hgx4
      replace hl0 := hl0.grew hgx4
      replace hs0 := hs0.grew hgx4
      refine hK.out _ _ ?_ (fun hHeld => ?_)
      · (try dsimp only); first | with_reducible assumption | exact hx4
      clear hK K
      try simp only [Act.put, List.setIfInBounds_toArray, List.set_cons_zero, List.set_cons_succ]
      refine wpAnyH_take (i := 15) (oi := ?on54) (v := ?vn54) ?hin54 ?an54 ?bn54 ?cn54 ?qn54 (Or.inl ⟨?dn54, ?hyn54⟩) hHeld ?restn54
      case hin54 => (simp only [List.getElem?_toArray, List.getElem?_cons_succ, List.getElem?_cons_zero]; exact rfl)
      case an54 => kernel_rfl
      case bn54 => kernel_rfl
      case cn54 => kernel_rfl
      case qn54 => exact fun _ _ _ h => h
      case dn54 => rfl
      case hyn54 => (intro z hSw; (try dsimp only at hSw); go_simp; (try with_reducible rfl))
      try simp only [Act.put, List.setIfInBounds_toArray, List.set_cons_zero, List.set_cons_succ]
      refine wpAnyH_ready (rs := [16, 18]) (by kernel_rfl) (by simp) ?_
      refine AllReadyH.cons (o := ?on55) ?hin55 ?restn55 (AllReadyH.cons (o := ?on56) ?hin56 ?restn56 AllReadyH.nil)
      case hin55 => (simp only [List.getElem?_toArray, List.getElem?_cons_succ, List.getElem?_cons_zero]; exact rfl)
      case hin56 => (simp only [List.getElem?_toArray, List.getElem?_cons_succ, List.getElem?_cons_zero]; exact rfl)
      case restn55 =>
        intro K hK
        go_simp
        obtain ⟨x5, hwx5⟩ : ∃ W, W = x4.alloc (.cells #[.slice A1 L.length c1, .slice AU0 (putS (R ++ [m])).length cU0, .slice AU1 (putS (L ++ [m])).length cU1, .slice A2 R.length c2] 29) := ⟨_, rfl⟩
        have hgx5 : Grew x4 x5 := by rw [hwx5]; exact (Grew.refl _).alloc _
        have hx5 : Grew w4 x5 := hx4.trans hgx5
        have hrd : RdM x5 (.slice (some ⟨x4.heap.size, 0, none⟩) 2 2) [(L, putS (R ++ [m])), (putS (L ++ [m]), R)] := rdM_two (t := 29) (by rw [hwx5]; exact blk_new x4 _) (HA.out.grew (HG4.out.trans hx5)) (hs0.grew hgx5) (hs1.grew hgx5) (HB.out.grew (HG4.out.trans hx5))
        try simp only [← hwx5]
        clear hwx5
        replace hl1 := hl1.grew hgx5
        replace hl0 := hl0.grew hgx5
        replace hs0 := hs0.grew hgx5
        replace hs1 := hs1.grew hgx5
        refine hK.out _ _ ?_ (fun hHeld => ?_)
        · (try dsimp only); first | with_reducible assumption | exact hx5
        clear hK K
        try simp only [Act.put, List.setIfInBounds_toArray, List.set_cons_zero, List.set_cons_succ]
        refine wpAnyH_ready (rs := [18]) (by kernel_rfl) (by simp) ?_
        refine AllReadyH.cons (o := ?on57) ?hin57 ?restn57 AllReadyH.nil
        case hin57 => (simp only [List.getElem?_toArray, List.getElem?_cons_succ, List.getElem?_cons_zero]; exact rfl)
        intro K hK
        go_simp
        go_at_call 39
        refine (KT.out _).mono ?_
        rintro e x6 ⟨rfl, hgx6⟩
        have hx6 : Grew w4 x6 := hx5.trans hgx6
        replace hl1 := hl1.grew hgx6
        replace hl0 := hl0.grew hgx6
        replace hs0 := hs0.grew hgx6
        replace hs1 := hs1.grew hgx6
        replace hrd := hrd.grew hgx6
        refine hK.out _ _ ?_ (fun hHeld => ?_)
        · (try dsimp only); first | with_reducible assumption | exact hx6
        clear hK K
        try simp only [Act.put, List.setIfInBounds_toArray, List.set_cons_zero, List.set_cons_succ]
        refine wpAnyH_take (i := 19) (oi := ?on58) (v := ?vn58) ?hin58 ?an58 ?bn58 ?cn58 ?qn58 (Or.inl ⟨?dn58, ?hyn58⟩) hHeld ?restn58
        case hin58 => (simp only [List.getElem?_toArray, List.getElem?_cons_succ, List.getElem?_cons_zero]; exact rfl)
        case an58 => kernel_rfl
        case bn58 => kernel_rfl
        case cn58 => kernel_rfl
        case qn58 => exact fun _ _ _ h => h
        case dn58 => rfl
        case hyn58 => (intro z hSw; (try dsimp only at hSw); go_simp; (try with_reducible rfl))
        try simp only [Act.put, List.setIfInBounds_toArray, List.set_cons_zero, List.set_cons_succ]
        refine wpAnyH_take (i := 20) (oi := ?on59) (v := ?vn59) ?hin59 ?an59 ?bn59 ?cn59 ?qn59 (Or.inl ⟨?dn59, ?hyn59⟩) hHeld ?restn59
        case hin59 => (simp only [List.getElem?_toArray, List.getElem?_cons_succ, List.getElem?_cons_zero]; exact rfl)
        case an59 => kernel_rfl
        case bn59 => kernel_rfl
        case cn59 => kernel_rfl
        case qn59 => exact fun _ _ _ h => h
        case dn59 => rfl
        case hyn59 => (intro z hSw; (try dsimp only at hSw); go_simp; (try with_reducible rfl))
        try simp only [Act.put, List.setIfInBounds_toArray, List.set_cons_zero, List.set_cons_succ]
        refine wpAnyH_done (by kernel_rfl) ?_ _
        go_wp2_with fail
        go_ret2
        have hX := HX.out
        rw [pm_14] at hX
        rw [← hX]
        exact ⟨_, _, _, rfl, (fun _ => hrd), HG4.out.trans hx6⟩
      case restn56 =>
        intro K hK
        go_simp
        go_at_call 39
        refine (KT.out _).mono ?_
        rintro e x5 ⟨rfl, hgx5⟩
        have hx5 : Grew w4 x5 := hx4.trans hgx5
        replace hl1 := hl1.grew hgx5
        replace hl0 := hl0.grew hgx5
        replace hs0 := hs0.grew hgx5
        replace hs1 := hs1.grew hgx5
        refine hK.out _ _ ?_ (fun hHeld => ?_)
        · (try dsimp only); first | with_reducible assumption | exact hx5
        clear hK K
        try simp only [Act.put, List.setIfInBounds_toArray, List.set_cons_zero, List.set_cons_succ]
        refine wpAnyH_ready (rs := [16]) (by kernel_rfl) (by simp) ?_
        refine AllReadyH.cons (o := ?on60) ?hin60 ?restn60 AllReadyH.nil
        case hin60 => (simp only [List.getElem?_toArray, List.getElem?_cons_succ, List.getElem?_cons_zero]; exact rfl)
        intro K hK
        go_simp
        obtain ⟨x6, hwx6⟩ : ∃ W, W = x5.alloc (.cells #[.slice A1 L.length c1, .slice AU0 (putS (R ++ [m])).length cU0, .slice AU1 (putS (L ++ [m])).length cU1, .slice A2 R.length c2] 29) := ⟨_, rfl⟩
        have hgx6 : Grew x5 x6 := by rw [hwx6]; exact (Grew.refl _).alloc _
        have hx6 : Grew w4 x6 := hx5.trans hgx6
        have hrd : RdM x6 (.slice (some ⟨x5.heap.size, 0, none⟩) 2 2) [(L, putS (R ++ [m])), (putS (L ++ [m]), R)] := rdM_two (t := 29) (by rw [hwx6]; exact blk_new x5 _) (HA.out.grew (HG4.out.trans hx6)) (hs0.grew hgx6) (hs1.grew hgx6) (HB.out.grew (HG4.out.trans hx6))
        try simp only [← hwx6]
        clear hwx6
        replace hl1 := hl1.grew hgx6
        replace hl0 := hl0.grew hgx6
        replace hs0 := hs0.grew hgx6
        replace hs1 := hs1.grew hgx6
        refine hK.out _ _ ?_ (fun hHeld => ?_)
        · (try dsimp only); first | with_reducible assumption | exact hx6
        clear hK K
        try simp only [Act.put, List.setIfInBounds_toArray, List.set_cons_zero, List.set_cons_succ]
        refine wpAnyH_take (i := 19) (oi := ?on61) (v := ?vn61) ?hin61 ?an61 ?bn61 ?cn61 ?qn61 (Or.inl ⟨?dn61, ?hyn61⟩) hHeld ?restn61
        case hin61 => (simp only [List.getElem?_toArray, List.getElem?_cons_succ, List.getElem?_cons_zero]; exact rfl)
        case an61 => kernel_rfl
        case bn61 => kernel_rfl
        case cn61 => kernel_rfl
        case qn61 => exact fun _ _ _ h => h
        case dn61 => rfl
        case hyn61 => (intro z hSw; (try dsimp only at hSw); go_simp; (try with_reducible rfl))
        try simp only [Act.put, List.setIfInBounds_toArray, List.set_cons_zero, List.set_cons_succ]
        refine wpAnyH_take (i := 20) (oi := ?on62) (v := ?vn62) ?hin62 ?an62 ?bn62 ?cn62 ?qn62 (Or.inl ⟨?dn62, ?hyn62⟩) hHeld ?restn62
        case hin62 => (simp only [List.getElem?_toArray, List.getElem?_cons_succ, List.getElem?_cons_zero]; exact rfl)
        case an62 => kernel_rfl
        case bn62 => kernel_rfl
        case cn62 => kernel_rfl
        case qn62 => exact fun _ _ _ h => h
        case dn62 => rfl
        case hyn62 => (intro z hSw; (try dsimp only at hSw); go_simp; (try with_reducible rfl))
        try simp only [Act.put, List.setIfInBounds_toArray, List.set_cons_zero, List.set_cons_succ]
        refine wpAnyH_done (by kernel_rfl) ?_ _
        go_wp2_with fail
        go_ret2
        have hX := HX.out
        rw [pm_14] at hX
        rw [← hX]
        exact ⟨_, _, _, rfl, (fun _ => hrd), HG4.out.trans hx6⟩
  have hb1 : (r == 1) = false := by simpa using h1
  have hb2 : (r == 2) = false := by simpa using h2
  have hb12 : (r == 12) = false := by simpa using h12
  have hb14 : (r == 14) = false := by simpa using h14
  cases ml with
  | false =>
    cases mr with
    | false =>
      go_wp2_with fail
      go_ret2
      have hX := HX.out
      rw [pm_n h1 h2 h12 h14 (by rw [HL0.out]; rfl) HR0.out] at hX
      rw [← hX]
      exact ⟨_, _, _, rfl, (fun h => by cases h), HG4.out⟩
    | true =>
    have hgm := HMR.out rfl
    go_wp2_with fail
    refine wp_region_held_drew (S := fun w' => Grew w4 w') (by kernel_rfl) hd4 (fun hHeld => ?_)
    refine wpAnyH_take (i := 0) (oi := ?on63) (v := ?vn63) ?hin63 ?an63 ?bn63 ?cn63 ?qn63 (Or.inl ⟨?dn63, ?hyn63⟩) hHeld ?restn63
    case hin63 => (simp only [List.getElem?_toArray, List.getElem?_cons_zero]; exact rfl)
    case an63 => kernel_rfl
    case bn63 => kernel_rfl
    case cn63 => kernel_rfl
    case qn63 => exact fun _ _ _ h => h
    case dn63 => rfl
    case hyn63 => (intro z hSw; (try dsimp only at hSw); go_simp; (try with_reducible rfl))
    try simp only [Act.put, List.setIfInBounds_toArray, List.set_cons_zero, List.set_cons_succ]
    refine wpAnyH_take (i := 1) (oi := ?on64) (v := ?vn64) ?hin64 ?an64 ?bn64 ?cn64 ?qn64 (Or.inl ⟨?dn64, ?hyn64⟩) hHeld ?restn64
    case hin64 => (simp only [List.getElem?_toArray, List.getElem?_cons_succ, List.getElem?_cons_zero]; exact rfl)
    case an64 => kernel_rfl
    case bn64 => kernel_rfl
    case cn64 => kernel_rfl
    case qn64 => exact fun _ _ _ h => h
    case dn64 => rfl
    case hyn64 => (intro z hSw; (try dsimp only at hSw); go_simp; (try with_reducible rfl))
    try simp only [Act.put, List.setIfInBounds_toArray, List.set_cons_zero, List.set_cons_succ]
    refine wpAnyH_take (i := 2) (oi := ?on65) (v := ?vn65) ?hin65 ?an65 ?bn65 ?cn65 ?qn65 (Or.inl ⟨?dn65, ?hyn65⟩) hHeld ?restn65
    case hin65 => (simp only [List.getElem?_toArray, List.getElem?_cons_succ, List.getElem?_cons_zero]; exact rfl)
    case an65 => kernel_rfl
    case bn65 => kernel_rfl
    case cn65 => kernel_rfl
    case qn65 => exact fun _ _ _ h => h
    case dn65 => rfl
    case hyn65 => (intro z hSw; (try dsimp only at hSw); go_simp; (try with_reducible rfl))
    try simp only [Act.put, List.setIfInBounds_toArray, List.set_cons_zero, List.set_cons_succ]
    refine wpAnyH_take (i := 3) (oi := ?on66) (v := ?vn66) ?hin66 ?an66 ?bn66 ?cn66 ?qn66 (Or.inl ⟨?dn66, ?hyn66⟩) hHeld ?restn66
    case hin66 => (simp only [List.getElem?_toArray, List.getElem?_cons_succ, List.getElem?_cons_zero]; exact rfl)
    case an66 => kernel_rfl
    case bn66 => kernel_rfl
    case cn66 => kernel_rfl
    case qn66 => exact fun _ _ _ h => h
    case dn66 => rfl
    case hyn66 => (intro z hSw; (try dsimp only at hSw); go_simp; (try with_reducible rfl))
    try simp only [Act.put, List.setIfInBounds_toArray, List.set_cons_zero, List.set_cons_succ]
    refine wpAnyH_ready (rs := [4]) (by kernel_rfl) (by simp) ?_
    refine AllReadyH.cons (o := ?on67) ?hin67 ?restn67 AllReadyH.nil
    case hin67 => (simp only [List.getElem?_toArray, List.getElem?_cons_succ, List.getElem?_cons_zero]; exact rfl)
    intro K hK
    go_simp
    go_at_call 41
    refine (KP.out hgm _).mono ?_
    rintro e ya ⟨vn, rfl, hny, hgya, hzy⟩
    clear hzy
    have hya : Grew w4 ya := hd4.trans hgya
    have hNy := hny.nodes
    obtain ⟨ANy, cNy, rfl⟩ := nodes_slice hNy
    clear hny
    refine hK.out _ _ ?_ (fun hHeld => ?_)
    · (try dsimp only); first | with_reducible assumption | exact Grew.alloc ‹_› _
    clear hK K
    try simp only [Act.put, List.setIfInBounds_toArray, List.set_cons_zero, List.set_cons_succ]
    refine wpAnyH_ready (rs := [5]) (by kernel_rfl) (by simp) ?_
    refine AllReadyH.cons (o := ?on68) ?hin68 ?restn68 AllReadyH.nil
    case hin68 => (simp only [List.getElem?_toArray, List.getElem?_cons_succ, List.getElem?_cons_zero]; exact rfl)
    intro K hK
    go_simp
    go_at_call 42
    refine (KR.out hgm _ _ (HG4.out.trans hya) hNy).mono ?_
    rintro e yb ⟨AOy, nOy, cOy, rfl, hrdy, hgyb⟩
    have hyb : Grew w4 yb := hya.trans hgyb
    refine hK.out _ _ ?_ (fun hHeld => ?_)
    · (try dsimp only); first | with_reducible assumption | exact Grew.alloc ‹_› _
    clear hK K
    try simp only [Act.put, List.setIfInBounds_toArray, List.set_cons_zero, List.set_cons_succ]
    refine wpAnyH_take (i := 6) (oi := ?on69) (v := ?vn69) ?hin69 ?an69 ?bn69 ?cn69 ?qn69 (Or.inl ⟨?dn69, ?hyn69⟩) hHeld ?restn69
    case hin69 => (simp only [List.getElem?_toArray, List.getElem?_cons_succ, List.getElem?_cons_zero]; exact rfl)
    case an69 => kernel_rfl
    case bn69 => kernel_rfl
    case cn69 => kernel_rfl
    case qn69 => exact fun _ _ _ h => h
    case dn69 => rfl
    case hyn69 => (intro z hSw; (try dsimp only at hSw); go_simp; (try with_reducible rfl))
    try simp only [Act.put, List.setIfInBounds_toArray, List.set_cons_zero, List.set_cons_succ]
    refine wpAnyH_take (i := 7) (oi := ?on70) (v := ?vn70) ?hin70 ?an70 ?bn70 ?cn70 ?qn70 (Or.inl ⟨?dn70, ?hyn70⟩) hHeld ?restn70
    case hin70 => (simp only [List.getElem?_toArray, List.getElem?_cons_succ, List.getElem?_cons_zero]; exact rfl)
    case an70 => kernel_rfl
    case bn70 => kernel_rfl
    case cn70 => kernel_rfl
    case qn70 => exact fun _ _ _ h => h
    case dn70 => rfl
    case hyn70 => (intro z hSw; (try dsimp only at hSw); go_simp; (try with_reducible rfl))
    try simp only [Act.put, List.setIfInBounds_toArray, List.set_cons_zero, List.set_cons_succ]
    refine wpAnyH_take (i := 8) (oi := ?on71) (v := ?vn71) ?hin71 ?an71 ?bn71 ?cn71 ?qn71 (Or.inl ⟨?dn71, ?hyn71⟩) hHeld ?restn71
    case hin71 => (simp only [List.getElem?_toArray, List.getElem?_cons_succ, List.getElem?_cons_zero]; exact rfl)
    case an71 => kernel_rfl
    case bn71 => kernel_rfl
    case cn71 => kernel_rfl
    case qn71 => exact fun _ _ _ h => h
    case dn71 => rfl
    case hyn71 => (intro z hSw; (try dsimp only at hSw); go_simp; (try with_reducible rfl))
    try simp only [Act.put, List.setIfInBounds_toArray, List.set_cons_zero, List.set_cons_succ]
    refine wpAnyH_take (i := 9) (oi := ?on72) (v := ?vn72) ?hin72 ?an72 ?bn72 ?cn72 ?qn72 (Or.inl ⟨?dn72, ?hyn72⟩) hHeld ?restn72
    case hin72 => (simp only [List.getElem?_toArray, List.getElem?_cons_succ, List.getElem?_cons_zero]; exact rfl)
    case an72 => kernel_rfl
    case bn72 => kernel_rfl
    case cn72 => kernel_rfl
    case qn72 => exact fun _ _ _ h => h
    case dn72 => rfl
    case hyn72 => (intro z hSw; (try dsimp only at hSw); go_simp; (try with_reducible rfl))
    try simp only [Act.put, List.setIfInBounds_toArray, List.set_cons_zero, List.set_cons_succ]
    refine wpAnyH_done (by kernel_rfl) ?_ _
    go_wp2_with fail
    go_ret2
    have hX := HX.out
    rw [pm_r h1 h2 h12 h14 (by rw [HL0.out]; rfl) HR0.out] at hX
    rw [← hX]
    exact ⟨_, _, _, rfl, hrdy, HG4.out.trans hyb⟩
  | true =>
  have hgm := HML.out rfl
  go_wp2_with fail
  refine wp_region_held_drew (S := fun w' => Grew w4 w') (by kernel_rfl) hd4 (fun hHeld => ?_)
  refine wpAnyH_take (i := 0) (oi := ?on73) (v := ?vn73) ?hin73 ?an73 ?bn73 ?cn73 ?qn73 (Or.inl ⟨?dn73, ?hyn73⟩) hHeld ?restn73
  case hin73 => (simp only [List.getElem?_toArray, List.getElem?_cons_zero]; exact rfl)
  case an73 => kernel_rfl
  case bn73 => kernel_rfl
  case cn73 => kernel_rfl
  case qn73 => exact fun _ _ _ h => h
  case dn73 => rfl
  case hyn73 => (intro z hSw; (try dsimp only at hSw); go_simp; (try with_reducible rfl))
  try simp only [Act.put, List.setIfInBounds_toArray, List.set_cons_zero, List.set_cons_succ]
  refine wpAnyH_take (i := 1) (oi := ?on74) (v := ?vn74) ?hin74 ?an74 ?bn74 ?cn74 ?qn74 (Or.inl ⟨?dn74, ?hyn74⟩) hHeld ?restn74
  case hin74 => (simp only [List.getElem?_toArray, List.getElem?_cons_succ, List.getElem?_cons_zero]; exact rfl)
  case an74 => kernel_rfl
  case bn74 => kernel_rfl
  case cn74 => kernel_rfl
  case qn74 => exact fun _ _ _ h => h
  case dn74 => rfl
  case hyn74 => (intro z hSw; (try dsimp only at hSw); go_simp; (try with_reducible rfl))
  try simp only [Act.put, List.setIfInBounds_toArray, List.set_cons_zero, List.set_cons_succ]
  refine wpAnyH_take (i := 2) (oi := ?on75) (v := ?vn75) ?hin75 ?an75 ?bn75 ?cn75 ?qn75 (Or.inl ⟨?dn75, ?hyn75⟩) hHeld ?restn75
  case hin75 => (simp only [List.getElem?_toArray, List.getElem?_cons_succ, List.getElem?_cons_zero]; exact rfl)
  case an75 => kernel_rfl
  case bn75 => kernel_rfl
  case cn75 => kernel_rfl
  case qn75 => exact fun _ _ _ h => h
  case dn75 => rfl
  case hyn75 => (intro z hSw; (try dsimp only at hSw); go_simp; (try with_reducible rfl))
  try simp only [Act.put, List.setIfInBounds_toArray, List.set_cons_zero, List.set_cons_succ]
  refine wpAnyH_take (i := 3) (oi := ?on76) (v := ?vn76) ?hin76 ?an76 ?bn76 ?cn76 ?qn76 (Or.inl ⟨?dn76, ?hyn76⟩) hHeld ?restn76
  case hin76 => (simp only [List.getElem?_toArray, List.getElem?_cons_succ, List.getElem?_cons_zero]; exact rfl)
  case an76 => kernel_rfl
  case bn76 => kernel_rfl
  case cn76 => kernel_rfl
  case qn76 => exact fun _ _ _ h => h
  case dn76 => rfl
  case hyn76 => (intro z hSw; (try dsimp only at hSw); go_simp; (try with_reducible rfl))
  try simp only [Act.put, List.setIfInBounds_toArray, List.set_cons_zero, List.set_cons_succ]
  refine wpAnyH_ready (rs := [4]) (by kernel_rfl) (by simp) ?_
  refine AllReadyH.cons (o := ?on77) ?hin77 ?restn77 AllReadyH.nil
  case hin77 => (simp only [List.getElem?_toArray, List.getElem?_cons_succ, List.getElem?_cons_zero]; exact rfl)
  intro K hK
  go_simp
  go_at_call 41
  refine (KP.out hgm _).mono ?_
  rintro e za ⟨vn, rfl, hnz, hgza, hzz⟩
  clear hzz
  have hza : Grew w4 za := hd4.trans hgza
  have hNz := hnz.nodes
  obtain ⟨ANz, cNz, rfl⟩ := nodes_slice hNz
  clear hnz
  refine hK.out _ _ ?_ (fun hHeld => ?_)
  · (try dsimp only); first | with_reducible assumption | exact Grew.alloc ‹_› _
  clear hK K
  try simp only [Act.put, List.setIfInBounds_toArray, List.set_cons_zero, List.set_cons_succ]
  refine wpAnyH_ready (rs := [5]) (by kernel_rfl) (by simp) ?_
  refine AllReadyH.cons (o := ?on78) ?hin78 ?restn78 AllReadyH.nil
  case hin78 => (simp only [List.getElem?_toArray, List.getElem?_cons_succ, List.getElem?_cons_zero]; exact rfl)
  intro K hK
  go_simp
  go_at_call 40
  refine (KL.out hgm _ _ (HG4.out.trans hza) hNz).mono ?_
  rintro e zb ⟨AOz, nOz, cOz, rfl, hrdz, hgzb⟩
  have hzb : Grew w4 zb := hza.trans hgzb
  refine hK.out _ _ ?_ (fun hHeld => ?_)
  · (try dsimp only); first | with_reducible assumption | exact Grew.alloc ‹_› _
  clear hK K
  try simp only [Act.put, List.setIfInBounds_toArray, List.set_cons_zero, List.set_cons_succ]
  refine wpAnyH_take (i := 6) (oi := ?on79) (v := ?vn79) ?hin79 ?an79 ?bn79 ?cn79 ?qn79 (Or.inl ⟨?dn79, ?hyn79⟩) hHeld ?restn79
  case hin79 => (simp only [List.getElem?_toArray, List.getElem?_cons_succ, List.getElem?_cons_zero]; exact rfl)
  case an79 => kernel_rfl
  case bn79 => kernel_rfl
  case cn79 => kernel_rfl
  case qn79 => exact fun _ _ _ h => h
  case dn79 => rfl
  case hyn79 => (intro z hSw; (try dsimp only at hSw); go_simp; (try with_reducible rfl))
  try simp only [Act.put, List.setIfInBounds_toArray, List.set_cons_zero, List.set_cons_succ]
  refine wpAnyH_take (i := 7) (oi := ?on80) (v := ?vn80) ?hin80 ?an80 ?bn80 ?cn80 ?qn80 (Or.inl ⟨?dn80, ?hyn80⟩) hHeld ?restn80
  case hin80 => (simp only [List.getElem?_toArray, List.getElem?_cons_succ, List.getElem?_cons_zero]; exact rfl)
  case an80 => kernel_rfl
  case bn80 => kernel_rfl
  case cn80 => kernel_rfl
  case qn80 => exact fun _ _ _ h => h
  case dn80 => rfl
  case hyn80 => (intro z hSw; (try dsimp only at hSw); go_simp; (try with_reducible rfl))
  try simp only [Act.put, List.setIfInBounds_toArray, List.set_cons_zero, List.set_cons_succ]
  refine wpAnyH_take (i := 8) (oi := ?on81) (v := ?vn81) ?hin81 ?an81 ?bn81 ?cn81 ?qn81 (Or.inl ⟨?dn81, ?hyn81⟩) hHeld ?restn81
  case hin81 => (simp only [List.getElem?_toArray, List.getElem?_cons_succ, List.getElem?_cons_zero]; exact rfl)
  case an81 => kernel_rfl
  case bn81 => kernel_rfl
  case cn81 => kernel_rfl
  case qn81 => exact fun _ _ _ h => h
  case dn81 => rfl
  case hyn81 => (intro z hSw; (try dsimp only at hSw); go_simp; (try with_reducible rfl))
  try simp only [Act.put, List.setIfInBounds_toArray, List.set_cons_zero, List.set_cons_succ]
  refine wpAnyH_take (i := 9) (oi := ?on82) (v := ?vn82) ?hin82 ?an82 ?bn82 ?cn82 ?qn82 (Or.inl ⟨?dn82, ?hyn82⟩) hHeld ?restn82
  case hin82 => (simp only [List.getElem?_toArray, List.getElem?_cons_succ, List.getElem?_cons_zero]; exact rfl)
  case an82 => kernel_rfl
  case bn82 => kernel_rfl
  case cn82 => kernel_rfl
  case qn82 => exact fun _ _ _ h => h
  case dn82 => rfl
  case hyn82 => (intro z hSw; (try dsimp only at hSw); go_simp; (try with_reducible rfl))
  try simp only [Act.put, List.setIfInBounds_toArray, List.set_cons_zero, List.set_cons_succ]
  refine wpAnyH_take (i := 10) (oi := ?on83) (v := ?vn83) ?hin83 ?an83 ?bn83 ?cn83 ?qn83 (Or.inl ⟨?dn83, ?hyn83⟩) hHeld ?restn83
  case hin83 => (simp only [List.getElem?_toArray, List.getElem?_cons_succ, List.getElem?_cons_zero]; exact rfl)
  case an83 => kernel_rfl
  case bn83 => kernel_rfl
  case cn83 => kernel_rfl
  case qn83 => exact fun _ _ _ h => h
  case dn83 => rfl
  case hyn83 => (intro z hSw; (try dsimp only at hSw); go_simp; (try with_reducible rfl))
  try simp only [Act.put, List.setIfInBounds_toArray, List.set_cons_zero, List.set_cons_succ]
  refine wpAnyH_done (by kernel_rfl) ?_ _
  cases hlf : (lfF lg r L R m).2 with
  | true =>
    rw [hlf] at hrdz
    go_wp2_with fail
    go_ret2
    have hX := HX.out
    rw [pm_l h1 h2 h12 h14 HL0.out hlf] at hX
    rw [← hX]
    exact ⟨_, _, _, by rw [hlf]; rfl, (fun _ => hrdz (by trivial)), HG4.out.trans hzb⟩
  | false =>
  have qz0 := fun W (hW : Grew zb W) => q0 W (hzb.trans hW)
  have qz1 := fun W (hW : Grew zb W) => q1 W (hzb.trans hW)
  have hrz := Grew.refl zb
  have hdz := hrz.drew
  have HGz := Lib.hid (HG4.out.trans hzb)
  clear hrdz hza hzb hgza hgzb hNz q0 q1 z0 z1 hr4 hd4 HG4
  cases mr with
  | false =>
    go_wp2_with fail
    go_ret2
    have hX := HX.out
    rw [pm_n h1 h2 h12 h14 (by rw [HL0.out, hlf]; rfl) HR0.out] at hX
    rw [← hX]
    exact ⟨_, _, _, rfl, (fun h => by cases h), HGz.out⟩
  | true =>
  have hgm := HMR.out rfl
  go_wp2_with fail
  refine wp_region_held_drew (S := fun w' => Grew zb w') (by kernel_rfl) hdz (fun hHeld => ?_)
  refine wpAnyH_take (i := 0) (oi := ?on84) (v := ?vn84) ?hin84 ?an84 ?bn84 ?cn84 ?qn84 (Or.inl ⟨?dn84, ?hyn84⟩) hHeld ?restn84
  case hin84 => (simp only [List.getElem?_toArray, List.getElem?_cons_zero]; exact rfl)
  case an84 => kernel_rfl
  case bn84 => kernel_rfl
  case cn84 => kernel_rfl
  case qn84 => exact fun _ _ _ h => h
  case dn84 => rfl
  case hyn84 => (intro z hSw; (try dsimp only at hSw); go_simp; (try with_reducible rfl))
  try simp only [Act.put, List.setIfInBounds_toArray, List.set_cons_zero, List.set_cons_succ]
  refine wpAnyH_take (i := 1) (oi := ?on85) (v := ?vn85) ?hin85 ?an85 ?bn85 ?cn85 ?qn85 (Or.inl ⟨?dn85, ?hyn85⟩) hHeld ?restn85
  case hin85 => (simp only [List.getElem?_toArray, List.getElem?_cons_succ, List.getElem?_cons_zero]; exact rfl)
  case an85 => kernel_rfl
  case bn85 => kernel_rfl
  case cn85 => kernel_rfl
  case qn85 => exact fun _ _ _ h => h
  case dn85 => rfl
  case hyn85 => (intro z hSw; (try dsimp only at hSw); go_simp; (try with_reducible rfl))
  try simp only [Act.put, List.setIfInBounds_toArray, List.set_cons_zero, List.set_cons_succ]
  refine wpAnyH_take (i := 2) (oi := ?on86) (v := ?vn86) ?hin86 ?an86 ?bn86 ?cn86 ?qn86 (Or.inl ⟨?dn86, ?hyn86⟩) hHeld ?restn86
  case hin86 => (simp only [List.getElem?_toArray, List.getElem?_cons_succ, List.getElem?_cons_zero]; exact rfl)
  case an86 => kernel_rfl
  case bn86 => kernel_rfl
  case cn86 => kernel_rfl
  case qn86 => exact fun _ _ _ h => h
  case dn86 => rfl
  case hyn86 => (intro z hSw; (try dsimp only at hSw); go_simp; (try with_reducible rfl))
  try simp only [Act.put, List.setIfInBounds_toArray, List.set_cons_zero, List.set_cons_succ]
  refine wpAnyH_take (i := 3) (oi := ?on87) (v := ?vn87) ?hin87 ?an87 ?bn87 ?cn87 ?qn87 (Or.inl ⟨?dn87, ?hyn87⟩) hHeld ?restn87
  case hin87 => (simp only [List.getElem?_toArray, List.getElem?_cons_succ, List.getElem?_cons_zero]; exact rfl)
  case an87 => kernel_rfl
  case bn87 => kernel_rfl
  case cn87 => kernel_rfl
  case qn87 => exact fun _ _ _ h => h
  case dn87 => rfl
  case hyn87 => (intro z hSw; (try dsimp only at hSw); go_simp; (try with_reducible rfl))
  try simp only [Act.put, List.setIfInBounds_toArray, List.set_cons_zero, List.set_cons_succ]
  refine wpAnyH_ready (rs := [4]) (by kernel_rfl) (by simp) ?_
  refine AllReadyH.cons (o := ?on88) ?hin88 ?restn88 AllReadyH.nil
  case hin88 => (simp only [List.getElem?_toArray, List.getElem?_cons_succ, List.getElem?_cons_zero]; exact rfl)
  intro K hK
  go_simp
  go_at_call 41
  refine (KP.out hgm _).mono ?_
  rintro e ya ⟨vn, rfl, hny, hgya, hzy⟩
  clear hzy
  have hya : Grew zb ya := hdz.trans hgya
  have hNy := hny.nodes
  obtain ⟨ANy, cNy, rfl⟩ := nodes_slice hNy
  clear hny
  refine hK.out _ _ ?_ (fun hHeld => ?_)
  · (try dsimp only); first | with_reducible assumption | exact Grew.alloc ‹_› _
  clear hK K
  try simp only [Act.put, List.setIfInBounds_toArray, List.set_cons_zero, List.set_cons_succ]
  refine wpAnyH_ready (rs := [5]) (by kernel_rfl) (by simp) ?_
  refine AllReadyH.cons (o := ?on89) ?hin89 ?restn89 AllReadyH.nil
  case hin89 => (simp only [List.getElem?_toArray, List.getElem?_cons_succ, List.getElem?_cons_zero]; exact rfl)
  intro K hK
  go_simp
  go_at_call 42
  refine (KR.out hgm _ _ (HGz.out.trans hya) hNy).mono ?_
  rintro e yb ⟨AOy, nOy, cOy, rfl, hrdy, hgyb⟩
  have hyb : Grew zb yb := hya.trans hgyb
  refine hK.out _ _ ?_ (fun hHeld => ?_)
  · (try dsimp only); first | with_reducible assumption | exact Grew.alloc ‹_› _
  clear hK K
  try simp only [Act.put, List.setIfInBounds_toArray, List.set_cons_zero, List.set_cons_succ]
  refine wpAnyH_take (i := 6) (oi := ?on90) (v := ?vn90) ?hin90 ?an90 ?bn90 ?cn90 ?qn90 (Or.inl ⟨?dn90, ?hyn90⟩) hHeld ?restn90
  case hin90 => (simp only [List.getElem?_toArray, List.getElem?_cons_succ, List.getElem?_cons_zero]; exact rfl)
  case an90 => kernel_rfl
  case bn90 => kernel_rfl
  case cn90 => kernel_rfl
  case qn90 => exact fun _ _ _ h => h
  case dn90 => rfl
  case hyn90 => (intro z hSw; (try dsimp only at hSw); go_simp; (try with_reducible rfl))
  try simp only [Act.put, List.setIfInBounds_toArray, List.set_cons_zero, List.set_cons_succ]
  refine wpAnyH_take (i := 7) (oi := ?on91) (v := ?vn91) ?hin91 ?an91 ?bn91 ?cn91 ?qn91 (Or.inl ⟨?dn91, ?hyn91⟩) hHeld ?restn91
  case hin91 => (simp only [List.getElem?_toArray, List.getElem?_cons_succ, List.getElem?_cons_zero]; exact rfl)
  case an91 => kernel_rfl
  case bn91 => kernel_rfl
  case cn91 => kernel_rfl
  case qn91 => exact fun _ _ _ h => h
  case dn91 => rfl
  case hyn91 => (intro z hSw; (try dsimp only at hSw); go_simp; (try with_reducible rfl))
  try simp only [Act.put, List.setIfInBounds_toArray, List.set_cons_zero, List.set_cons_succ]
  refine wpAnyH_take (i := 8) (oi := ?on92) (v := ?vn92) ?hin92 ?an92 ?bn92 ?cn92 ?qn92 (Or.inl ⟨?dn92, ?hyn92⟩) hHeld ?restn92
  case hin92 => (simp only [List.getElem?_toArray, List.getElem?_cons_succ, List.getElem?_cons_zero]; exact rfl)
  case an92 => kernel_rfl
  case bn92 => kernel_rfl
  case cn92 => kernel_rfl
  case qn92 => exact fun _ _ _ h => h
  case dn92 => rfl
  case hyn92 => (intro z hSw; (try dsimp only at hSw); go_simp; (try with_reducible rfl))
  try simp only [Act.put, List.setIfInBounds_toArray, List.set_cons_zero, List.set_cons_succ]
  refine wpAnyH_take (i := 9) (oi := ?on93) (v := ?vn93) ?hin93 ?an93 ?bn93 ?cn93 ?qn93 (Or.inl ⟨?dn93, ?hyn93⟩) hHeld ?restn93
  case hin93 => (simp only [List.getElem?_toArray, List.getElem?_cons_succ, List.getElem?_cons_zero]; exact rfl)
  case an93 => kernel_rfl
  case bn93 => kernel_rfl
  case cn93 => kernel_rfl
  case qn93 => exact fun _ _ _ h => h
  case dn93 => rfl
  case hyn93 => (intro z hSw; (try dsimp only at hSw); go_simp; (try with_reducible rfl))
  try simp only [Act.put, List.setIfInBounds_toArray, List.set_cons_zero, List.set_cons_succ]
  refine wpAnyH_done (by kernel_rfl) ?_ _
  go_wp2_with fail
  go_ret2
  have hX := HX.out
  rw [pm_r h1 h2 h12 h14 (by rw [HL0.out, hlf]; rfl) HR0.out] at hX
  rw [← hX]
  exact ⟨_, _, _, rfl, hrdy, HGz.out.trans hyb⟩
end Go.Proofs.YtjcehejnolbkgaaGreat

/- Slices of slices of nodes that read as formulas. -/
namespace Go.Proofs.YtjcehejnolbkgaaGreat
open Go.RowKit
open Fm (Nd Tree)

/-- The values read as the formulas. -/
def VT (w : World) (us : List Value) (L : List Tree) : Prop := us.length = L.length ∧ ∀ (i : Nat) (t : Tree), L[i]? = some t → ∃ u : Value, us[i]? = some u ∧ Nodes w u (Fm.enc t)
theorem VT.grew {w w' : World} {us : List Value} {L : List Tree} (h : VT w us L) (hg : Grew w w') : VT w' us L :=
  ⟨h.1, fun i t ht => let ⟨u, h1, h2⟩ := h.2 i t ht; ⟨u, h1, h2.grew hg⟩⟩
theorem VT.nil_ (w : World) : VT w [] [] := ⟨rfl, fun i t h => by simp at h⟩
theorem VT.one {w : World} {u : Value} {t : Tree} (h : Nodes w u (Fm.enc t)) : VT w [u] [t] := ⟨rfl, fun i t' ht => by
  have hi : i = 0 := by have := (List.getElem?_eq_some_iff.1 ht).1; simp at this; omega
  subst hi
  obtain rfl : t = t' := by simpa using ht
  exact ⟨u, rfl, h⟩⟩
theorem VT.app {w : World} {us vs : List Value} {L K : List Tree} (h : VT w us L) (k : VT w vs K) : VT w (us ++ vs) (L ++ K) := by
  refine ⟨by rw [List.length_append, List.length_append, h.1, k.1], fun i t ht => ?_⟩
  rw [List.getElem?_append] at ht ⊢
  rw [h.1]
  split at ht
  · rename_i hlt
    rw [if_pos hlt]; exact h.2 i t ht
  · rename_i hlt
    rw [if_neg hlt]; exact k.2 _ t ht
theorem VT.take {w : World} {us : List Value} {L : List Tree} (h : VT w us L) (k : Nat) : VT w (us.take k) (L.take k) := by
  refine ⟨by simp [h.1], fun i t ht => ?_⟩
  rw [List.getElem?_take] at ht ⊢
  split at ht
  · rename_i hlt
    rw [if_pos hlt]; exact h.2 i t ht
  · cases ht
theorem VT.drop {w : World} {us : List Value} {L : List Tree} (h : VT w us L) (k : Nat) : VT w (us.drop k) (L.drop k) := by
  refine ⟨by simp [h.1], fun i t ht => ?_⟩
  rw [List.getElem?_drop] at ht ⊢
  exact h.2 _ t ht
theorem VT.cell1 {w : World} {us : List Value} {L : List Tree} (h : VT w us L) : ∀ u ∈ us, u.oneCell' = true := by
  intro u hu
  obtain ⟨i, hi, rfl⟩ := List.getElem_of_mem hu
  have hi2 : i < L.length := by rw [← h.1]; exact hi
  obtain ⟨u', h1, h2⟩ := h.2 i L[i] (List.getElem?_eq_getElem hi2)
  rw [List.getElem?_eq_getElem hi] at h1
  cases h1
  obtain ⟨A, c, e⟩ := nodes_slice h2
  rw [e]; rfl

/-- The value reads as the list of formulas. -/
def LT (w : World) (v : Value) (L : List Tree) : Prop := ∃ us, Rd w 1 v L.length us ∧ VT w us L
theorem LT.grew {w w' : World} {v : Value} {L : List Tree} (h : LT w v L) (hg : Grew w w') : LT w' v L := let ⟨us, h1, h2⟩ := h; ⟨us, h1.grew hg, h2.grew hg⟩
theorem LT.of_own {w : World} {B : Nat} {v : Value} {us : List Value} {L : List Tree} (h : OwnV w B v us) (k : VT w us L) : LT w v L := ⟨us, by have := Rd.of_own h; rw [k.1] at this; exact this, k⟩
theorem LT.open_ {w : World} {v : Value} {L : List Tree} (h : LT w v L) : (v = .slice none 0 0 ∧ L = []) ∨ ∃ b o c, v = .slice (some ⟨b, o, none⟩) L.length c ∧ L.length ≤ c ∧ c ≤ 9223372036854775807 ∧ b < w.heap.size ∧
    ∀ i t, L[i]? = some t → ∃ u, (∀ W, Grew w W → W.cell? ⟨b, o + i, none⟩ = some u) ∧ Nodes w u (Fm.enc t) := by
  obtain ⟨us, ⟨h1, h2, h3⟩, h4, h5⟩ := h
  rcases h3 with ⟨h6, h7⟩ | ⟨b, o, c, h6, h7, h8, h9, h10⟩
  · exact .inl ⟨h6, List.eq_nil_of_length_eq_zero h7⟩
  · refine .inr ⟨b, o, c, h6, h7, h8, h9, fun i t ht => ?_⟩
    obtain ⟨u, k1, k2⟩ := h5 i t ht
    exact ⟨u, fun W hW => (hW.cell (p := ⟨b, o + i, none⟩) h9).trans (h10 i u k1), k2⟩
theorem lt_slice {w : World} {v : Value} {L : List Tree} (h : LT w v L) : ∃ A c, v = .slice A L.length c := by
  rcases h.open_ with ⟨rfl, rfl⟩ | ⟨b, o, c, rfl, _⟩
  · exact ⟨_, _, rfl⟩
  · exact ⟨_, _, rfl⟩
theorem LT.openA {w : World} {A : Option Addr} {n c : Nat} {L : List Tree} (h : LT w (.slice A n c) L) (hn : L.length = n) : ∀ j, j < n → ∃ b o, A = some ⟨b, o, none⟩ ∧ n ≤ c ∧ c ≤ 9223372036854775807 ∧ b < w.heap.size ∧
    ∀ i t, L[i]? = some t → ∃ u, (∀ W, Grew w W → W.cell? ⟨b, o + i, none⟩ = some u) ∧ Nodes w u (Fm.enc t) := by
  intro j hj
  rcases h.open_ with ⟨_, h0⟩ | ⟨b, o, c', hv, h2, h3, h4, h5⟩
  · rw [h0] at hn; simp at hn; omega
  · obtain ⟨rfl, _, rfl⟩ : A = some ⟨b, o, none⟩ ∧ n = L.length ∧ c = c' := by simpa using hv
    exact ⟨b, o, rfl, by omega, h3, h4, h5⟩
theorem LT.one {w : World} {T : TypeId} {u : Value} {t : Tree} (h : Nodes w u (Fm.enc t)) : LT (w.alloc (.cells #[u] T)) (.slice (some ⟨w.heap.size, 0, none⟩) 1 1) [t] :=
  ⟨[u], rd_lit w u T, (VT.one h).grew ((Grew.refl w).alloc _)⟩
theorem rd_lit2 (w : World) (u u2 : Value) (t : TypeId) : Rd (w.alloc (.cells #[u, u2] t)) 1 (.slice (some ⟨w.heap.size, 0, none⟩) 2 2) 2 [u, u2] := by
  refine ⟨rfl, by omega, .inr ⟨w.heap.size, 0, 2, rfl, by omega, by omega, by simp, fun j x hx => ?_⟩⟩
  have hj : j < 2 := by simpa using (List.getElem?_eq_some_iff.1 hx).1
  match j, hj with
  | 0, _ =>
    obtain rfl : u = x := by simpa using hx
    simp
  | 1, _ =>
    obtain rfl : u2 = x := by simpa using hx
    simp
theorem LT.two {w : World} {T : TypeId} {u u2 : Value} {t s : Tree} (h : Nodes w u (Fm.enc t)) (h2 : Nodes w u2 (Fm.enc s)) : LT (w.alloc (.cells #[u, u2] T)) (.slice (some ⟨w.heap.size, 0, none⟩) 2 2) [t, s] :=
  ⟨[u, u2], rd_lit2 w u u2 T, ((VT.one h).app (VT.one h2)).grew ((Grew.refl w).alloc _)⟩
theorem slice3 {w : World} {u : Value} {xs : List Nd} (h : Nodes w u xs) : ∃ A n c, u = .slice A n c := by
  obtain ⟨A, c, e⟩ := nodes_slice h
  exact ⟨A, _, c, e⟩
/-- Slices of a slice of slices. -/
theorem rd_take {w : World} {A : Option Addr} {n c : Nat} {us : List Value} (h : Rd w 1 (.slice A n c) n us) (i : Nat) (hi : i ≤ n) : Rd w 1 (.slice A i c) i (us.take i) := by
  obtain ⟨h1, h2, h3⟩ := h
  refine ⟨by simp; omega, by omega, ?_⟩
  rcases h3 with ⟨h4, h5⟩ | ⟨b, o, c', h4, h5, h6, h7, h8⟩
  · cases h4
    obtain rfl : i = 0 := by omega
    exact .inl ⟨rfl, rfl⟩
  · obtain ⟨rfl, rfl⟩ : A = some ⟨b, o, none⟩ ∧ c = c' := by simpa using h4
    refine .inr ⟨b, o, c, rfl, by omega, h6, h7, fun j u hu => ?_⟩
    rw [List.getElem?_take] at hu
    split at hu
    · exact h8 j u hu
    · cases hu
theorem rd_drop {w : World} {b o n c : Nat} {us : List Value} (h : Rd w 1 (.slice (some ⟨b, o, none⟩) n c) n us) (i : Nat) (hi : i ≤ n) : Rd w 1 (.slice (some ⟨b, o + i, none⟩) (n - i) (c - i)) (n - i) (us.drop i) := by
  obtain ⟨h1, h2, h3⟩ := h
  refine ⟨by simp; omega, by omega, ?_⟩
  rcases h3 with ⟨h4, h5⟩ | ⟨b', o', c', h4, h5, h6, h7, h8⟩
  · cases h4
  · obtain ⟨⟨rfl, rfl⟩, rfl⟩ : (b = b' ∧ o = o') ∧ c = c' := by simpa using h4
    refine .inr ⟨b, o + i, c - i, rfl, by omega, by omega, h7, fun j u hu => ?_⟩
    rw [List.getElem?_drop] at hu
    rw [Nat.add_assoc]
    exact h8 _ u hu

/-- The slice behind an index, as the walk spells it. -/
theorem rd_tail {w : World} {b o n c : Nat} {us : List Value} (h : Rd w 1 (.slice (some ⟨b, o, none⟩) n c) n us) (i : Nat) (hi : i ≤ n) (hn : n ≤ c) : Rd w 1 (.slice (if c = i then some ⟨b, o, none⟩ else some ⟨b, o + i, none⟩) (n - i) (c - i)) (n - i) (us.drop i) := by
  by_cases hc : c = i
  · rw [if_pos hc]
    have h0 : n - i = 0 := by omega
    have h1 := h.1
    refine ⟨by simp; omega, by omega, ?_⟩
    obtain ⟨_, _, h3⟩ := h
    rcases h3 with ⟨h4, _⟩ | ⟨b', o', c', h4, h5, h6, h7, h8⟩
    · cases h4
    · obtain ⟨⟨rfl, rfl⟩, rfl⟩ : (b = b' ∧ o = o') ∧ c = c' := by simpa using h4
      refine .inr ⟨b, o, c - i, rfl, by omega, by omega, h7, fun j u hu => ?_⟩
      rw [List.getElem?_drop, List.getElem?_eq_none (by omega)] at hu
      cases hu
  · rw [if_neg hc]
    exact rd_drop h i hi

/-- An append onto a row of the call's own, at a step of a region that draws its order. -/
theorem step_append_rd {P : Program} (w : World) {ops : Array Oper} {o : Oper} {a : Act} {K : Act → World → Prop} {Q : Exit → Act → World → Prop} {E : Prop} (hgd : o.guard = none) (s x : Operand) (t : TypeId)
    (ho : o.op = .call { callee := .builtin .append, args := #[s, x], argTypes := #[t, t] })
    (base : Nat) (e : TypeId) (i : TypeInfo) (z : Value) (size bytes : Nat) (ht : P.underlying t = some (.slice e)) (hi : P.info? e = some i) (hz : i.zero = some z)
    (hsize : i.size = size) (hby : i.bytes = bytes) (hzs : z.cells.size = size) (hsz : 0 < size)
    (v : Value) (n : Nat) (xs : List Value) (hs : a.eval s = v) (hown : w.ownsRow base e size v n xs)
    (vx : Value) (m : Nat) (news : List Value) (hx : a.eval x = vx) (hr : Rd w size vx m news) (h1 : ∀ u ∈ news, u.oneCell' = true)
    (h63 : n + m ≤ maxLen) (hbytes : (n + m) * bytes ≤ 140737488355328) (hbase : base ≤ w.heap.size)
    (h : ∀ v' w', w'.ownsRow base e size v' (n + m) (xs ++ news) → w.grownBy w' v.ownBlock → K (a.put o.dst v') w') :
    if Region.wanted o (yielded ops a.tmps) = true then Oper.wp P o a w K Q else E := by
  have hw : Region.wanted o (yielded ops a.tmps) = true := by simp [Region.wanted, hgd]
  rw [if_pos hw]
  obtain ⟨hl, _, hr⟩ := hr
  rcases hr with ⟨rfl, rfl⟩ | ⟨b, of, c, rfl, _, _, _, hc⟩
  · have hnews : news = [] := List.eq_nil_of_length_eq_zero (by simpa using hl)
    subst hnews
    have hrun := run_append_owned_none (P := P) w base t o.type e i size ht hi v n xs hown
    unfold Oper.wp execOp
    simp only [ho, resolve, invoke, builtin, Sem.run_bind, Sem.run_pure, Result.andThen_ok, List.map_toArray, List.map_cons, List.map_nil, hs, hx, hrun]
    exact h v w (by simpa using hown) (World.grownBy.refl _ _)
  · obtain ⟨v', w', hrun, h2, h3, _, _⟩ := run_append_own_at (P := P) w base t o.type e i z size bytes ht hi hz hsize hby hzs hsz v n xs hown ⟨b, of, none⟩ m c news hl (fun j u hu => by rw [Addr.add_lit]; exact hc j u hu) h1 h63 hbytes hbase
    unfold Oper.wp execOp
    simp only [ho, resolve, invoke, builtin, Sem.run_bind, Sem.run_pure, Result.andThen_ok, List.map_toArray, List.map_cons, List.map_nil, hs, hx, hrun]
    exact h v' w' h2 h3

theorem bigV {n m : Nat} (h : n + m ≤ 4294967296) : n + m ≤ maxLen ∧ (n + m) * 24 ≤ 140737488355328 := by
  unfold maxLen; omega
/-- 'out = append(out, xs...)' in a region that draws its order. -/
theorem step_appV {ops : Array Oper} {o : Oper} {a : Act} {K : Act → World → Prop} {Q : Exit → Act → World → Prop} {E : Prop} {w w0 : World} (hgd : o.guard = none) (s x : Operand)
    (ho : o.op = .call { callee := .builtin .append, args := #[s, x], argTypes := #[88, 88] })
    (v : Value) (us : List Value) (hs : a.eval s = v) (hown : OwnV w w0.heap.size v us) (hg : Grew w0 w) (vx : Value) (m : Nat) (vs : List Value) (hx : a.eval x = vx) (hr : Rd w 1 vx m vs) (h1 : ∀ u ∈ vs, u.oneCell' = true) (hn : us.length + m ≤ 4294967296)
    (h : ∀ v' w', OwnV w' w0.heap.size v' (us ++ vs) → Grew w0 w' → K (a.put o.dst v') w') : if Region.wanted o (yielded ops a.tmps) = true then Oper.wp Tryz.prog o a w K Q else E := by
  obtain ⟨i0, hi0, hz0, hz1, hz2⟩ := info_parts infoSl
  have hm : vs.length = m := by have := hr.1; omega
  refine step_append_rd w hgd s x _ ho w0.heap.size 55 i0 _ 1 24 Tryz.underlying88 hi0 hz0 hz1 hz2 rfl (by omega) v us.length us hs hown vx m vs hx hr h1 (bigV hn).1 (bigV hn).2 hg.size ?_
  intro v' w' h2 h3
  refine h v' w' ?_ (hg.grown h3 fun k hk => (hown.lt k hk).1)
  unfold OwnV
  rw [List.length_append, hm]
  exact h2
theorem wpList_appVs {ops : Array Oper} {rest : List Oper} {o : Oper} {a : Act} {Q : Exit → Act → World → Prop} {w w0 : World} (s x : Operand) (hgd : o.guard = none)
    (ho : o.op = .call { callee := .builtin .append, args := #[s, x], argTypes := #[88, 88] })
    (v : Value) (us : List Value) (hs : a.eval s = v) (hown : OwnV w w0.heap.size v us) (hg : Grew w0 w) (vx : Value) (m : Nat) (vs : List Value) (hx : a.eval x = vx) (hr : Rd w 1 vx m vs) (h1 : ∀ u ∈ vs, u.oneCell' = true) (hn : us.length + m ≤ 4294967296)
    (h : ∀ v' w', OwnV w' w0.heap.size v' (us ++ vs) → Grew w0 w' → wpList Tryz.prog ops Q rest (a.put o.dst v') w') : wpList Tryz.prog ops Q (o :: rest) a w := by
  obtain ⟨i0, hi0, hz0, hz1, hz2⟩ := info_parts infoSl
  have hm : vs.length = m := by have := hr.1; omega
  refine wpList_append_rd w hgd s x _ ho w0.heap.size 55 i0 _ 1 24 Tryz.underlying88 hi0 hz0 hz1 hz2 rfl (by omega) v us.length us hs hown vx m vs hx hr h1 (bigV hn).1 (bigV hn).2 hg.size ?_
  intro v' w' h2 h3 _
  refine h v' w' ?_ (hg.grown h3 fun k hk => (hown.lt k hk).1)
  unfold OwnV
  rw [List.length_append, hm]
  exact h2
end Go.Proofs.YtjcehejnolbkgaaGreat

/- l01Says, l02Insert, l22With of the reference. -/
namespace Go.Proofs.YtjcehejnolbkgaaGreat
open Go.RowKit

theorem l01Says_c (v : Value) (L : List ByteArray) (s : ByteArray) (w : World) (h : Strs w v L) (hn : L.length ≤ 1099511627776) :
    Calls Tryz.prog 28 #[v, .string s] w fun e w' => e = .returned (.bool (dc (s ∈ L))) ∧ Grew w w' := by
  obtain ⟨R, hR⟩ : ∃ R, R = dc (s ∈ L) := ⟨_, rfl⟩
  rw [← hR]
  rcases h.open_ with ⟨rfl, rfl⟩ | ⟨b, o, c, rfl, hc, hm, hb, hcell⟩
  · have hv := Lib.hid (hR.trans (dc_false (by simp)))
    clear h hR
    go_enter Tryz.func28, Tryz.ntmps28
    go_wp2_with fail
    refine wp_loop_rounds 1 ?_; rw [rounds_succ]
    go_wp2_with fail
    go_ret
    exact ⟨by rw [hv.out]; rfl, Grew.refl _⟩
  have HA := Lib.hid (fun k (hk : k < L.length) (he : st L k = s) => hR.trans (dc_true (by rw [← he]; exact st_mem hk)))
  have HZ := Lib.hid (fun h => hR.trans (dc_false (@notS_all L s h)))
  have HC := Lib.hid hcell
  clear h hcell hR
  generalize hN : L.length = n at *
  clear hN
  go_enter Tryz.func28, Tryz.ntmps28
  go_wp2_with fail
  go_loopw [5] (fun i wr => ∃ j : Nat, j ≤ n ∧ i = .int .i64 j ∧ Grew w wr ∧ Hid (NotS L s j)) (fun i _ => n - (intOf i).toNat)
  case atStart => exact ⟨0, Nat.zero_le _, rfl, Grew.refl _, NotS.zero _ _⟩
  case round =>
    obtain ⟨j, hj, rfl, hB, HJ⟩ := hrel
    by_cases hlt : j < n
    · have k1 := HC.out j hlt _ hB
      have hA := Lib.hid (HA.out j hlt)
      have hS := Lib.hid (fun h => HJ.out.succ (k := j) h)
      generalize st L j = x at *
      by_cases hx : x = s
      · have hv := Lib.hid (hA.out hx)
        subst hx
        have q1 := bytes_eq' x
        clear hA hS
        go_wp2_with fail
        go_ret
        exact ⟨by rw [hv.out]; rfl, hB⟩
      · have hs := Lib.hid (hS.out hx)
        have q1 := bytes_ne' (fun e : s = x => hx e.symm)
        have q2 := bytes_ne' hx
        clear hA hS hx
        go_wp2_with fail
        go_roundw
        case rel => exact ⟨j + 1, by omega, by go_num, hB, hs⟩
        case measure => simp [intOf]; omega
    · obtain rfl : j = n := by omega
      have hv := Lib.hid (HZ.out HJ.out)
      go_wp2_with fail
      go_ret
      exact ⟨by rw [hv.out]; rfl, hB⟩

/-- A list with a text put in. -/
def InsB (L : List ByteArray) (s : ByteArray) (K : List ByteArray) : Prop := (K = L ∧ s ∈ L) ∨ ∃ j, j ≤ L.length ∧ K = L.take j ++ [s] ++ L.drop j
def GivesIn (w : World) (L : List ByteArray) (s : ByteArray) (e : Ending) (w' : World) : Prop := ∃ u K, e = .returned u ∧ Strs w' u K ∧ InsB L s K ∧ Grew w w'
theorem insB_nil (s : ByteArray) : InsB [] s [s] := .inr ⟨0, Nat.le_refl _, rfl⟩
theorem rdS_take {w : World} {A : Option Addr} {n c : Nat} {L : List ByteArray} (h : Rd w 1 (.slice A n c) n (scells L)) (hl : L.length = n) (i : Nat) (hi : i ≤ n) : Strs w (.slice A i c) (L.take i) := by
  have := rd_take h i hi
  unfold Strs scells at *
  rw [List.length_take, hl, Nat.min_eq_left hi, List.map_take]
  exact this
theorem rdS_tail {w : World} {b o n c : Nat} {L : List ByteArray} (h : Rd w 1 (.slice (some ⟨b, o, none⟩) n c) n (scells L)) (hl : L.length = n) (i : Nat) (hi : i ≤ n) (hn : n ≤ c) : Strs w (.slice (if c = i then some ⟨b, o, none⟩ else some ⟨b, o + i, none⟩) (n - i) (c - i)) (L.drop i) := by
  have := rd_tail h i hi hn
  unfold Strs scells at *
  rw [List.length_drop, hl, List.map_drop]
  exact this
set_option maxHeartbeats 2000000 in
theorem l02Insert_c (v : Value) (L : List ByteArray) (s : ByteArray) (w : World) (h : Strs w v L) (hn : L.length ≤ 1048576) :
    Calls Tryz.prog 32 #[v, .string s] w (GivesIn w L s) := by
  have h0 := Lib.hid h
  rcases h.open_ with ⟨rfl, rfl⟩ | ⟨b, o, c, rfl, hc, hm, hb, hcell⟩
  · clear h
    have he := own_emptyS' w
    go_enter Tryz.func32, Tryz.ntmps32
    go_wp2_with fail
    refine wp_loop_rounds 1 ?_; rw [rounds_succ]
    go_wp2_with (first
      | (at_builtin; have hz := hown2; refine wpList_appSs (w0 := w) _ _ rfl rfl _ _ rfl hown2 hg2 _ [] rfl (Strs.nil_ _) (by simp) ?_; intro v3 w3 hown3 hg3 _)
      | (at_builtin; have hz := hown1; refine wpList_appStr (w0 := w) _ _ rfl rfl _ _ rfl (own_grew hown1 ((Grew.refl w1).alloc _)) (hg1.alloc _) _ s rfl (rd_lit _ _ _) (by simp) ?_; intro v2 w2 hown2 hg2 _; have hs2 := strs_slice hown2.strs; obtain ⟨A2, c2, rfl⟩ := hs2)
      | (at_builtin; refine wpList_appSs (w0 := w) _ _ rfl rfl _ [] rfl he ((Grew.refl w).alloc _) _ [] rfl (Strs.nil_ _) (by simp) ?_; intro v1 w1 hown1 hg1 _; have hs1 := strs_slice hown1.strs; obtain ⟨A1, c1, rfl⟩ := hs1))
    go_ret
    exact ⟨_, _, rfl, hown3.strs, by simpa using insB_nil s, hg3⟩
  have HC := Lib.hid hcell
  have HR := Lib.hid (show Rd w 1 (.slice (some ⟨b, o, none⟩) L.length c) L.length (scells L) from h)
  have HT := Lib.hid (fun i hi => rdS_take HR.out rfl i hi)
  have HD := Lib.hid (fun i hi => rdS_tail HR.out rfl i hi hc)
  have HM := Lib.hid (fun j hj (he : st L j = s) => (by rw [← he]; exact st_mem hj : s ∈ L))
  have HJ := Lib.hid (fun j (hj : j ≤ L.length) => (show InsB L s (L.take j ++ [s] ++ L.drop j) from .inr ⟨j, hj, rfl⟩))
  have HLt := Lib.hid (fun j => (by rw [List.length_take]; omega : (L.take j).length ≤ L.length))
  have HLd := Lib.hid (fun j => (by rw [List.length_drop]; omega : (L.drop j).length ≤ L.length))
  clear h hcell HR
  generalize hN : L.length = n at *
  clear hN
  go_enter Tryz.func32, Tryz.ntmps32
  go_wp2_with fail
  go_loopw [5] (fun i wr => ∃ j : Nat, j ≤ n ∧ i = .int .i64 j ∧ Grew w wr) (fun i _ => n - (intOf i).toNat)
  case atStart => exact ⟨0, Nat.zero_le _, rfl, Grew.refl _⟩
  case round =>
    obtain ⟨j, hj, rfl, hB⟩ := hrel
    have he := own_emptyS' wr
    have hT := Lib.hid (HT.out j hj)
    have hD := Lib.hid (HD.out j hj)
    have hJ := Lib.hid (HJ.out j hj)
    have hlt1 := HLt.out j
    have hld1 := HLd.out j
    have hb1 := hB.size
    by_cases hlt : j < n
    · have k1 := HC.out j hlt _ hB
      have hM := Lib.hid (HM.out j hlt)
      have hcj : ¬ c = j := by omega
      rw [if_neg hcj] at hD
      generalize st L j = x at *
      generalize L.take j = T at *
      generalize L.drop j = U at *
      cases hl : Op.bytesLess x.toList s.toList with
      | true =>
        go_wp2_with fail
        go_roundw
        case rel => exact ⟨j + 1, by omega, by go_num, hB⟩
        case measure => simp [intOf]; omega
      | false =>
        by_cases hx : x = s
        · have hv := Lib.hid (hM.out hx)
          subst hx
          have q1 := bytes_eq' x
          go_wp2_with fail
          go_ret
          exact ⟨_, _, rfl, Strs.grew h0.out hB, .inl ⟨rfl, hv.out⟩, hB⟩
        · have q1 := bytes_ne' (fun e : s = x => hx e.symm)
          have q2 := bytes_ne' hx
          have he1 : OwnS (wr.alloc (.cells #[] 9)) w.heap.size (.slice (some ⟨wr.heap.size, 0, none⟩) 0 0) [] := World.ownsRow_lit (e := 9) (size := 1) wr #[] 0 hb1 (by omega) rfl
          go_wp2_with (first
            | (at_builtin; have hz := hown2; refine wpList_appSs (w0 := w) _ _ rfl rfl _ _ rfl hown2 hg2 _ U rfl (Strs.grew hD.out hg2) (by first | omega | (simp; omega)) ?_; intro v3 w3 hown3 hg3 _)
            | (at_builtin; have hz := hown1; refine wpList_appStr (w0 := w) _ _ rfl rfl _ _ rfl (own_grew hown1 ((Grew.refl w1).alloc _)) (hg1.alloc _) _ s rfl (rd_lit _ _ _) (by first | omega | (simp; omega)) ?_; intro v2 w2 hown2 hg2 _; have hs2 := strs_slice hown2.strs; rw [List.length_append, List.length_singleton] at hs2; obtain ⟨A2, c2, rfl⟩ := hs2)
            | (at_builtin; refine wpList_appSs (w0 := w) _ _ rfl rfl _ [] rfl he1 (hB.alloc _) _ T rfl (Strs.grew hT.out (hB.alloc _)) (by first | omega | (simp; omega)) ?_; intro v1 w1 hown1 hg1 _; rw [List.nil_append] at hown1; have hs1 := strs_slice hown1.strs; obtain ⟨A1, c1, rfl⟩ := hs1))
          go_ret
          exact ⟨_, _, rfl, hown3.strs, by simpa using hJ.out, hg3⟩
    · obtain rfl : j = n := by omega
      generalize L.take j = T at *
      generalize L.drop j = U at *
      have he1 : OwnS (wr.alloc (.cells #[] 9)) w.heap.size (.slice (some ⟨wr.heap.size, 0, none⟩) 0 0) [] := World.ownsRow_lit (e := 9) (size := 1) wr #[] 0 hb1 (by omega) rfl
      by_cases hcj : c = j
      · subst hcj
        rw [if_pos rfl, Nat.sub_self] at hD
        go_wp2_with (first
          | (at_builtin; have hz := hown2; refine wpList_appSs (w0 := w) _ _ rfl rfl _ _ rfl hown2 hg2 _ U rfl (Strs.grew hD.out hg2) (by first | omega | (simp; omega)) ?_; intro v3 w3 hown3 hg3 _)
          | (at_builtin; have hz := hown1; refine wpList_appStr (w0 := w) _ _ rfl rfl _ _ rfl (own_grew hown1 ((Grew.refl w1).alloc _)) (hg1.alloc _) _ s rfl (rd_lit _ _ _) (by first | omega | (simp; omega)) ?_; intro v2 w2 hown2 hg2 _; have hs2 := strs_slice hown2.strs; rw [List.length_append, List.length_singleton] at hs2; obtain ⟨A2, c2, rfl⟩ := hs2)
          | (at_builtin; refine wpList_appSs (w0 := w) _ _ rfl rfl _ [] rfl he1 (hB.alloc _) _ T rfl (Strs.grew hT.out (hB.alloc _)) (by first | omega | (simp; omega)) ?_; intro v1 w1 hown1 hg1 _; rw [List.nil_append] at hown1; have hs1 := strs_slice hown1.strs; obtain ⟨A1, c1, rfl⟩ := hs1))
        go_ret
        exact ⟨_, _, rfl, hown3.strs, by simpa using hJ.out, hg3⟩
      · rw [if_neg hcj, Nat.sub_self] at hD
        go_wp2_with (first
          | (at_builtin; have hz := hown2; refine wpList_appSs (w0 := w) _ _ rfl rfl _ _ rfl hown2 hg2 _ U rfl (Strs.grew hD.out hg2) (by first | omega | (simp; omega)) ?_; intro v3 w3 hown3 hg3 _)
          | (at_builtin; have hz := hown1; refine wpList_appStr (w0 := w) _ _ rfl rfl _ _ rfl (own_grew hown1 ((Grew.refl w1).alloc _)) (hg1.alloc _) _ s rfl (rd_lit _ _ _) (by first | omega | (simp; omega)) ?_; intro v2 w2 hown2 hg2 _; have hs2 := strs_slice hown2.strs; rw [List.length_append, List.length_singleton] at hs2; obtain ⟨A2, c2, rfl⟩ := hs2)
          | (at_builtin; refine wpList_appSs (w0 := w) _ _ rfl rfl _ [] rfl he1 (hB.alloc _) _ T rfl (Strs.grew hT.out (hB.alloc _)) (by first | omega | (simp; omega)) ?_; intro v1 w1 hown1 hg1 _; rw [List.nil_append] at hown1; have hs1 := strs_slice hown1.strs; obtain ⟨A1, c1, rfl⟩ := hs1))
        go_ret
        exact ⟨_, _, rfl, hown3.strs, by simpa using hJ.out, hg3⟩
end Go.Proofs.YtjcehejnolbkgaaGreat

/- IsSequentLogic of both; slices.ContainsFunc over sequents, with RulePremises' closure. -/
namespace Go.Proofs.YtjcehejnolbkgaaGreat
open Go.RowKit

def logs : List ByteArray := [⟨#[75]⟩, ⟨#[68]⟩, ⟨#[84]⟩, ⟨#[75, 52]⟩, ⟨#[83, 52]⟩, ⟨#[71, 76]⟩, ⟨#[83, 53]⟩]
theorem tl1 (a : UInt8) : (⟨#[a]⟩ : ByteArray).toList = [a] := by unfold ByteArray.toList ByteArray.toList.loop ByteArray.toList.loop; rfl
theorem tl2 (a b : UInt8) : (⟨#[a, b]⟩ : ByteArray).toList = [a, b] := by unfold ByteArray.toList ByteArray.toList.loop ByteArray.toList.loop ByteArray.toList.loop; rfl
theorem lg_is {lg x : ByteArray} {l : List UInt8} (h : x.toList = l) : (lg = x) ↔ isLg lg l = true := by
  unfold isLg; rw [← h]; exact (Lib.bytes_beq_iff lg x).symm
theorem sqLg_dc (lg : ByteArray) : dc (lg ∈ logs) = sqLg lg := by
  have h : lg ∈ logs ↔ sqLg lg = true := by
    unfold logs sqLg
    simp only [List.mem_cons, List.not_mem_nil, or_false, List.any_cons, List.any_nil, Bool.or_false, Bool.or_eq_true]
    rw [lg_is (tl1 75), lg_is (tl1 68), lg_is (tl1 84), lg_is (tl2 75 52), lg_is (tl2 83 52), lg_is (tl2 71 76), lg_is (tl2 83 53)]
  cases hb : sqLg lg with
  | true => exact dc_true (h.2 hb)
  | false => exact dc_false (fun hm => by rw [h.1 hm] at hb; cases hb)
theorem logs_rd {w : World} {g : Nat} {t : TypeId} (h : w.heap[g]? = some (.cells #[.string ⟨#[75]⟩, .string ⟨#[68]⟩, .string ⟨#[84]⟩, .string ⟨#[75, 52]⟩, .string ⟨#[83, 52]⟩, .string ⟨#[71, 76]⟩, .string ⟨#[83, 53]⟩] t (0, 0))) : Strs w (.slice (some ⟨g, 0, none⟩) 7 7) logs := by
  refine ⟨rfl, by decide, .inr ⟨g, 0, 7, rfl, by decide, by omega, blk_lt h, fun j u hu => ?_⟩⟩
  have hj : j < 7 := by have := (List.getElem?_eq_some_iff.1 hu).1; simpa [scells, logs] using this
  rw [blk_cell h, Nat.zero_add]
  match j, hj with
  | 0, _ => exact hu
  | 1, _ => exact hu
  | 2, _ => exact hu
  | 3, _ => exact hu
  | 4, _ => exact hu
  | 5, _ => exact hu
  | 6, _ => exact hu
theorem isLogic_c (lg : ByteArray) (w : World) : Calls Tryz.prog 18 #[.string lg] w fun e w' => e = .returned (.bool (sqLg lg)) ∧ Grew w w' := by
  have KC := Lib.hid (fun W v (hW : Strs W v logs) => containsS_c v logs lg W hW (by decide))
  rw [sqLg_dc] at KC
  go_enter Tryz.func18, Tryz.ntmps18
  go_wp2_with fail
  refine (KC.out _ _ (logs_rd (blk_new w _))).mono ?_
  rintro e w1 ⟨rfl, hg1⟩
  go_wp2_with fail
  go_ret
  exact ⟨rfl, Grew.of_alloc hg1⟩
theorem specLogic_c (lg : ByteArray) (w : World) : Calls Tryz.prog 14 #[.string lg] w fun e w' => e = .returned (.bool (sqLg lg)) ∧ Grew w w' := by
  have KC := Lib.hid (fun W v (hW : Strs W v logs) => l01Says_c v logs lg W hW (by decide))
  rw [sqLg_dc] at KC
  go_enter Tryz.func14, Tryz.ntmps14
  go_wp2_with fail
  refine (KC.out _ _ (logs_rd (blk_new w _))).mono ?_
  rintro e w1 ⟨rfl, hg1⟩
  go_wp2_with fail
  go_ret
  exact ⟨rfl, Grew.of_alloc hg1⟩
theorem isSmall_c (A1 A2 : Option Addr) (n1 c1 n2 c2 : Nat) (w : World) : Calls Tryz.prog 23 #[.agg #[.slice A1 n1 c1, .slice A2 n2 c2]] w fun e w' => e = .returned (.bool (decide (n1 ≤ 16) && decide (n2 ≤ 16))) ∧ Grew w w' := by
  have hal := (Grew.refl w).alloc (.cells #[.slice A1 n1 c1, .slice A2 n2 c2] 29)
  by_cases h1 : n1 ≤ 16
  · have hd : (decide (n1 ≤ 16) && decide (n2 ≤ 16)) = decide ((n2 : Int) ≤ 16) := by rw [decide_eq_true h1, Bool.true_and, decide_eq_decide]; omega
    rw [hd]
    go_enter Tryz.func23, Tryz.ntmps23
    go_wp2_with fail
    go_ret
    exact ⟨rfl, hal⟩
  · have hd : (decide (n1 ≤ 16) && decide (n2 ≤ 16)) = false := by rw [decide_eq_false h1, Bool.false_and]
    rw [hd]
    go_enter Tryz.func23, Tryz.ntmps23
    go_wp2_with fail
    go_ret
    exact ⟨rfl, hal⟩
theorem big1_c (A1 A2 : Option Addr) (n1 c1 n2 c2 : Nat) (w : World) : Calls Tryz.prog 22 #[.agg #[.slice A1 n1 c1, .slice A2 n2 c2]] w fun e w' => e = .returned (.bool (!(decide (n1 ≤ 16) && decide (n2 ≤ 16)))) ∧ Grew w w' := by
  have KS := Lib.hid (fun W => isSmall_c A1 A2 n1 c1 n2 c2 W)
  generalize (decide (n1 ≤ 16) && decide (n2 ≤ 16)) = b at *
  go_enter Tryz.func22, Tryz.ntmps22
  go_wp2_with fail
  refine (KS.out _).mono ?_
  rintro e w1 ⟨rfl, hg1⟩
  go_wp2_with fail
  go_ret
  exact ⟨rfl, Grew.of_alloc hg1⟩
end Go.Proofs.YtjcehejnolbkgaaGreat

/- slices.ContainsFunc over sequents, with RulePremises' closure. -/
namespace Go.Proofs.YtjcehejnolbkgaaGreat
open Go.RowKit

theorem RdM.open_ {w : World} {v : Value} {xs : List Ms} (h : RdM w v xs) : ∃ A c, v = .slice A xs.length c ∧ (0 < xs.length → ∃ b o, A = some ⟨b, o, none⟩ ∧ ∀ i x, xs[i]? = some x → ∃ A1 c1 A2 c2, (∀ W, Grew w W → W.cell? ⟨b, o + i * 2, none⟩ = some (.slice A1 x.1.length c1) ∧ W.cell? ⟨b, o + i * 2 + 1, none⟩ = some (.slice A2 x.2.length c2)) ∧ Strs w (.slice A1 x.1.length c1) x.1 ∧ Strs w (.slice A2 x.2.length c2) x.2) := by
  rcases h with ⟨rfl, rfl⟩ | ⟨b, o, c, rfl, _, _, h4, h5⟩
  · exact ⟨none, 0, rfl, fun h => absurd h (by simp)⟩
  · refine ⟨_, c, rfl, fun _ => ⟨b, o, rfl, fun i x hx => ?_⟩⟩
    obtain ⟨A1, n1, c1, A2, n2, c2, ⟨k1, k2⟩, k3, k4⟩ := h5 i x hx
    obtain ⟨B1, d1, e1⟩ := strs_slice k3
    obtain ⟨B2, d2, e2⟩ := strs_slice k4
    simp only [Value.slice.injEq] at e1 e2
    obtain ⟨rfl, rfl, rfl⟩ := e1
    obtain ⟨rfl, rfl, rfl⟩ := e2
    exact ⟨A1, c1, A2, c2, fun W hW => ⟨(hW.cell (p := ⟨b, o + i * 2, none⟩) h4).trans k1, (hW.cell (p := ⟨b, o + i * 2 + 1, none⟩) h4).trans k2⟩, k3, k4⟩
theorem bigM_at {xs : List Ms} {k : Nat} {x : Ms} (hx : xs[k]? = some x) (h : bigM x = true) : xs.any bigM = true := List.any_eq_true.2 ⟨x, List.mem_of_getElem? hx, h⟩
theorem bigM_none {xs : List Ms} (h : ∀ (i : Nat) (x : Ms), i < xs.length → xs[i]? = some x → bigM x = false) : xs.any bigM = false := by
  rw [List.any_eq_false]
  intro x hx
  obtain ⟨i, hi, rfl⟩ := List.getElem_of_mem hx
  rw [h i _ hi (List.getElem?_eq_getElem hi)]
  simp

set_option maxHeartbeats 2000000 in
theorem indexFuncM_c (v : Value) (xs : List Ms) (w : World) (h : RdM w v xs) (hn : xs.length ≤ 1048576) :
    Calls Tryz.prog 43 #[v, .func (.func 22) #[] #[]] w fun e w' => ∃ r : Int, e = .returned (.int .i64 r) ∧ Grew w w' ∧ decide (0 ≤ r) = xs.any bigM := by
  obtain ⟨A, c, rfl, hcell⟩ := h.open_
  have eg : ∀ args w, (callFunc 22 args).run Tryz.prog w = .ok (.enter 22 args) w := enters_of Tryz.func22 (by kernel_rfl) rfl
  obtain ⟨R, hR⟩ : ∃ R, R = xs.any bigM := ⟨_, rfl⟩
  rw [← hR]
  have HA := Lib.hid (fun k x (hx : xs[k]? = some x) h => hR.trans (bigM_at hx h))
  have HZ := Lib.hid (fun h => hR.trans (@bigM_none xs h))
  have HX := Lib.hid (fun j (hj : j < xs.length) => (⟨xs[j], List.getElem?_eq_getElem hj⟩ : ∃ x, xs[j]? = some x))
  have HC := Lib.hid hcell
  clear hcell hR h
  generalize hN : xs.length = n at *
  clear hN
  go_enter Tryz.func43, Tryz.ntmps43
  go_wp2_with fail
  go_loopw [5, 8] (fun _ i wr => ∃ j : Nat, j ≤ n ∧ i = .int .i64 j ∧ Grew w wr ∧ Hid (∀ (i : Nat) (x : Ms), i < j → xs[i]? = some x → bigM x = false)) (fun _ i _ => n - (intOf i).toNat)
  case atStart => exact ⟨0, Nat.zero_le _, rfl, Grew.refl _, Lib.hid (fun i x hi => absurd hi (by omega))⟩
  case round =>
    obtain ⟨j, hj, rfl, hB, HJ⟩ := hrel
    by_cases hlt : j < n
    · obtain ⟨x, hx⟩ := HX.out j hlt
      obtain ⟨b, o, rfl, hcl⟩ := HC.out (by omega)
      obtain ⟨A1, c1, A2, c2, hcl, _, _⟩ := hcl j x hx
      obtain ⟨k0, k1⟩ := hcl _ hB
      have hz := Lib.hid (big1_c A1 A2 x.1.length c1 x.2.length c2 wr)
      have hA := Lib.hid (HA.out j x hx)
      have hS : Hid (bigM x = false → ∀ (i : Nat) (y : Ms), i < j + 1 → xs[i]? = some y → bigM y = false) := Lib.hid (fun h i y hi hy => by
        by_cases hlt : i < j
        · exact HJ.out i y hlt hy
        · obtain rfl : i = j := by omega
          rw [hx] at hy
          obtain rfl := Option.some.inj hy
          exact h)
      have hbf : (!(decide (x.1.length ≤ 16) && decide (x.2.length ≤ 16))) = bigM x := rfl
      rw [hbf] at hz
      clear hcl hx hbf
      generalize bigM x = f at *
      generalize x.1.length = n1 at *
      generalize x.2.length = n2 at *
      go_wp2_with fail
      go_at_fn 22
      refine (hz.out).mono ?_
      rintro e w1 ⟨rfl, hg1⟩
      have hB1 := hB.trans hg1
      cases f with
      | true =>
        have hv := hA.out rfl
        go_wp2_with fail
        go_ret
        exact ⟨_, rfl, hB1, by rw [hv]; simp⟩
      | false =>
        have hs := Lib.hid (hS.out rfl)
        clear hS hA
        go_wp2_with fail
        go_roundw
        case rel => exact ⟨j + 1, by omega, by go_num, hB1, hs⟩
        case measure => simp [intOf]; omega
    · obtain rfl : j = n := by omega
      have hv := Lib.hid (HZ.out (fun i x hi hx => HJ.out i x hi hx))
      go_wp2_with fail
      go_ret
      exact ⟨_, rfl, hB, by rw [hv.out]; rfl⟩
theorem containsFuncM_c (v : Value) (xs : List Ms) (w : World) (h : RdM w v xs) (hn : xs.length ≤ 1048576) :
    Calls Tryz.prog 21 #[v, .func (.func 22) #[] #[]] w fun e w' => e = .returned (.bool (xs.any bigM)) ∧ Grew w w' := by
  have HI := Lib.hid (indexFuncM_c v xs w h hn)
  obtain ⟨A, c, rfl, _⟩ := h.open_
  clear h
  generalize xs.any bigM = R at *
  generalize xs.length = n at *
  go_enter Tryz.func21, Tryz.ntmps21
  go_wp2_with fail
  refine HI.out.mono ?_
  rintro e w1 ⟨r, rfl, hg1, hr⟩
  go_wp2_with fail
  go_ret
  exact ⟨by rw [← hr]; rfl, hg1⟩
end Go.Proofs.YtjcehejnolbkgaaGreat

/- Copies of lists of texts: slices.Clone of the program, l11Copy of the reference. -/
namespace Go.Proofs.YtjcehejnolbkgaaGreat
open Go.RowKit

/-- 'out = append(out, list...)', out a row of texts of the call's own. -/
theorem wpList_appL {ops : Array Oper} {rest : List Oper} {o : Oper} {a : Act} {Q : Exit → Act → World → Prop} {w w0 : World} (s x : Operand) (hgd : o.guard = none)
    (ho : o.op = .call { callee := .builtin .append, args := #[s, x], argTypes := #[22, 22] })
    (v : Value) (L : List ByteArray) (hs : a.eval s = v) (hown : OwnS w w0.heap.size v L) (hg : Grew w0 w) (vx : Value) (K : List ByteArray) (hx : a.eval x = vx) (hr : Strs w vx K) (hn : L.length + K.length ≤ 1099511627776)
    (h : ∀ v' w', OwnS w' w0.heap.size v' (L ++ K) → Grew w0 w' → w.grownBy w' v.ownBlock → wpList Tryz.prog ops Q rest (a.put o.dst v') w') : wpList Tryz.prog ops Q (o :: rest) a w := by
  obtain ⟨i0, hi0, hz0, hz1, hz2⟩ := info_parts Tryz.infoStr
  refine wpList_append_rd w hgd s x _ ho w0.heap.size 9 i0 _ 1 16 Tryz.underlying22 hi0 hz0 hz1 hz2 rfl (by omega) v L.length (scells L) hs hown vx K.length (scells K) hx hr (scells_one K) (by unfold maxLen; omega) (by omega) hg.size ?_
  intro v' w' h1 h2 h3
  refine h v' w' ?_ (hg.grown h2 fun k hk => (hown.lt k hk).1) h2
  unfold OwnS
  rw [List.length_append, scells_append]
  exact h1
theorem own_emptyL (w : World) : OwnS (w.alloc (.cells #[] 9)) w.heap.size (.slice (some ⟨w.heap.size, 0, none⟩) 0 0) [] :=
  World.ownsRow_lit (e := 9) (size := 1) w #[] 0 (Nat.le_refl _) (by omega) rfl
theorem cloneL_c (v : Value) (L : List ByteArray) (w : World) (h : Strs w v L) (hn : L.length ≤ 1099511627776) :
    Calls Tryz.prog 65 #[v] w (GivesS w L) := by
  have q : ∀ (w : World) (a : Option Addr) (n c n' c' : Nat), (binOp .eql 22 (.slice a n c) (.slice none n' c')).run Tryz.prog w = .ok (.bool a.isNone) w := fun w a n c n' c' => Lib.run_eql_slice_nil w _ _ a n c n' c' Tryz.underlying22
  have he := own_emptyL w
  rcases h.open_ with ⟨rfl, rfl⟩ | ⟨b, o, c, rfl, hc, hm, hb, hf⟩
  · clear he h
    go_enter Tryz.func65, Tryz.ntmps65
    go_wp2_with fail
    go_ret
    exact ⟨_, rfl, OwnS.nil_ _ _, Grew.refl _⟩
  · clear hf
    go_enter Tryz.func65, Tryz.ntmps65
    go_wp2_with (first
      | (at_builtin; refine wpList_appL (w0 := w) _ _ rfl rfl _ [] rfl he ((Grew.refl w).alloc _) _ L rfl (h.grew ((Grew.refl w).alloc _)) (by simp; omega) ?_; intro v1 w1 hown1 hg1 _))
    go_ret
    exact ⟨_, rfl, by simpa using hown1, hg1⟩
theorem copyL_c (v : Value) (L : List ByteArray) (w : World) (h : Strs w v L) (hn : L.length ≤ 1099511627776) :
    Calls Tryz.prog 51 #[v] w (GivesS w L) := by
  have he := own_emptyL w
  obtain ⟨A, c, rfl⟩ := strs_slice h
  go_enter Tryz.func51, Tryz.ntmps51
  go_wp2_with (first
    | (at_builtin; refine wpList_appL (w0 := w) _ _ rfl rfl _ [] rfl he ((Grew.refl w).alloc _) _ L rfl (h.grew ((Grew.refl w).alloc _)) (by simp; omega) ?_; intro v1 w1 hown1 hg1 _))
  go_ret
  exact ⟨_, rfl, by simpa using hown1, hg1⟩
end Go.Proofs.YtjcehejnolbkgaaGreat

/- Rows of sequents that grow by append, with fresh inner rows; copySequent, copySequents of the program. -/
namespace Go.Proofs.YtjcehejnolbkgaaGreat
open Go.RowKit

/-- The j-th side: left, right, left, right, .. -/
def mrow (xs : List Ms) (j : Nat) : List ByteArray := if j % 2 = 0 then (xs.getD (j / 2) ([], [])).1 else (xs.getD (j / 2) ([], [])).2
theorem mrow_l {xs : List Ms} {i : Nat} {x : Ms} (h : xs[i]? = some x) : mrow xs (i * 2) = x.1 := by
  unfold mrow; rw [if_pos (by omega), show i * 2 / 2 = i by omega]; simp [List.getD, h]
theorem mrow_r {xs : List Ms} {i : Nat} {x : Ms} (h : xs[i]? = some x) : mrow xs (i * 2 + 1) = x.2 := by
  unfold mrow; rw [if_neg (by omega), show (i * 2 + 1) / 2 = i by omega]; simp [List.getD, h]
theorem mrow_app {xs ys : List Ms} {j : Nat} (h : j < xs.length * 2) : mrow (xs ++ ys) j = mrow xs j := by
  unfold mrow
  have hj : j / 2 < xs.length := by omega
  have e : (xs ++ ys).getD (j / 2) ([], []) = xs.getD (j / 2) ([], []) := by simp [List.getD, List.getElem?_append_left hj]
  rw [e]
theorem infoMs : (Tryz.prog.info? 29).map (fun i => (i.zero, i.size, i.bytes)) = some (some (.agg #[.slice none 0 0, .slice none 0 0]), 2, 48) := by kernel_rfl
theorem tS_M : 9 ≠ 29 := by decide
/-- A row of sequents of the call's own, the inner rows us apart from each other. -/
structure OwnMp (w : World) (B : Nat) (v : Value) (xs : List Ms) (us : List Value) : Prop where
  row : w.ownsRow B 29 2 v xs.length us
  inn : ∀ j u, us[j]? = some u → OwnS w B u (mrow xs j)
  ap : us.Pairwise Apart
theorem OwnMp.len {w : World} {B : Nat} {v : Value} {xs : List Ms} {us : List Value} (h : OwnMp w B v xs us) : us.length = xs.length * 2 := h.row.1
theorem OwnMp.nil_ (w : World) (B : Nat) : OwnMp w B (.slice none 0 0) [] [] := ⟨World.ownsRow_nil w B _ 2, fun j u h => by simp at h, List.Pairwise.nil⟩
theorem OwnMp.grew {w w' : World} {B : Nat} {v : Value} {xs : List Ms} {us : List Value} (h : OwnMp w B v xs us) (hg : Grew w w') : OwnMp w' B v xs us :=
  ⟨own_grew h.row hg, fun j u hu => (h.inn j u hu).grew hg, h.ap⟩
theorem OwnMp.slice {w : World} {B : Nat} {v : Value} {xs : List Ms} {us : List Value} (h : OwnMp w B v xs us) : ∃ A c, v = .slice A xs.length c := by
  rcases h.row.2 with ⟨h1, h2⟩ | ⟨g, c, cur, h1, _⟩
  · rw [h1, h2]; exact ⟨_, _, rfl⟩
  · exact ⟨_, _, h1⟩
theorem OwnMp.below {w : World} {B : Nat} {v : Value} {xs : List Ms} {us : List Value} (h : OwnMp w B v xs us) : ∀ u ∈ us, ∀ b, u.ownBlock = some b → b < w.heap.size := fun u hu b hb => by
  obtain ⟨j, hj, rfl⟩ := List.getElem_of_mem hu
  exact ((h.inn j _ (List.getElem?_eq_getElem hj)).lt b hb).2
theorem OwnMp.snoc {w w' : World} {B H : Nat} {v v' : Value} {xs : List Ms} {us : List Value} {u1 u2 : Value} {j : Ms} (hown : OwnMp w B v xs us) (k1 : w'.ownsRow B 29 2 v' (xs.length + 1) (us ++ [u1, u2])) (k2 : w.grownBy w' v.ownBlock)
    (hu : OwnS w H u1 j.1) (hv : OwnS w H u2 j.2) (hap : Apart u1 u2) (hBH : B ≤ H) (hH : ∀ u ∈ us, ∀ b, u.ownBlock = some b → b < H) : OwnMp w' B v' (xs ++ [j]) (us ++ [u1, u2]) := by
  have hlen := hown.len
  refine ⟨by rw [List.length_append]; exact k1, fun i u hi => ?_, ?_⟩
  · rcases Nat.lt_or_ge i us.length with hlt | hge
    · rw [List.getElem?_append_left hlt] at hi
      rw [mrow_app (by omega)]
      have m1 := hown.inn i u hi
      exact own_apart m1 k2 (own_types m1 hown.row tS_M).symm
    · have hx : (xs ++ [j])[xs.length]? = some j := by simp
      rw [List.getElem?_append_right hge] at hi
      have hlt : i - us.length < 2 := by have := (List.getElem?_eq_some_iff.1 hi).1; simpa using this
      rcases Nat.lt_or_ge (i - us.length) 1 with h0 | h0
      · rw [show i - us.length = 0 by omega] at hi
        obtain rfl : u1 = u := by simpa using hi
        rw [show i = xs.length * 2 by omega, mrow_l hx]
        exact own_base (own_apart hu k2 (own_types hu hown.row tS_M).symm) hBH
      · rw [show i - us.length = 1 by omega] at hi
        obtain rfl : u2 = u := by simpa using hi
        rw [show i = xs.length * 2 + 1 by omega, mrow_r hx]
        exact own_base (own_apart hv k2 (own_types hv hown.row tS_M).symm) hBH
  · rw [List.pairwise_append]
    refine ⟨hown.ap, by simp [hap], fun p hp q hq => ?_⟩
    simp only [List.mem_cons, List.not_mem_nil, or_false] at hq
    intro b hb hb2
    have h1 := hH p hp b hb
    rcases hq with rfl | rfl
    · have h2 := own_of_ge hu hb2; omega
    · have h2 := own_of_ge hv hb2; omega
/-- 'out = append(out, x)', x with fresh inner rows. -/
theorem wpList_appM {ops : Array Oper} {rest : List Oper} {o : Oper} {a : Act} {Q : Exit → Act → World → Prop} {w : World} (B H : Nat) (s x : Operand) (hgd : o.guard = none)
    (ho : o.op = .call { callee := .builtin .append, args := #[s, x], argTypes := #[26, 26] })
    (v : Value) (xs : List Ms) (us : List Value) (hs : a.eval s = v) (hown : OwnMp w B v xs us) (hB : B ≤ w.heap.size) (vx u1 u2 : Value) (j : Ms) (hx : a.eval x = vx) (hr : Rd w 2 vx 1 [u1, u2])
    (hu : OwnS w H u1 j.1) (hv : OwnS w H u2 j.2) (hap : Apart u1 u2) (hBH : B ≤ H) (hH : ∀ u ∈ us, ∀ b, u.ownBlock = some b → b < H) (hn : xs.length ≤ 1048576)
    (h : ∀ v' w', OwnMp w' B v' (xs ++ [j]) (us ++ [u1, u2]) → w.grownBy w' v.ownBlock → wpList Tryz.prog ops Q rest (a.put o.dst v') w') : wpList Tryz.prog ops Q (o :: rest) a w := by
  obtain ⟨i0, hi0, hz0, hz1, hz2⟩ := info_parts infoMs
  have hu1 : u1.oneCell' = true := by
    obtain ⟨A, c, rfl⟩ := strs_slice hu.strs
    rfl
  have hu2 : u2.oneCell' = true := by
    obtain ⟨A, c, rfl⟩ := strs_slice hv.strs
    rfl
  have hlen := hown.len
  refine wpList_append_rd w hgd s x _ ho B 29 i0 _ 2 48 Tryz.underlying26 hi0 hz0 hz1 hz2 rfl (by omega) v xs.length us hs hown.row vx 1 [u1, u2] hx hr (by intro y hy; simp at hy; rcases hy with rfl | rfl; exact hu1; exact hu2) (by unfold maxLen; omega) (by omega) hB ?_
  intro v' w' k1 k2 k3
  refine h v' w' ⟨by rw [List.length_append]; exact k1, fun i u hi => ?_, ?_⟩ k2
  · rcases Nat.lt_or_ge i us.length with hlt | hge
    · rw [List.getElem?_append_left hlt] at hi
      rw [mrow_app (by omega)]
      have m1 := hown.inn i u hi
      exact own_apart m1 k2 (own_types m1 hown.row tS_M).symm
    · have hx : (xs ++ [j])[xs.length]? = some j := by simp
      rw [List.getElem?_append_right hge] at hi
      have hlt : i - us.length < 2 := by have := (List.getElem?_eq_some_iff.1 hi).1; simpa using this
      rcases Nat.lt_or_ge (i - us.length) 1 with h0 | h0
      · rw [show i - us.length = 0 by omega] at hi
        obtain rfl : u1 = u := by simpa using hi
        rw [show i = xs.length * 2 by omega, mrow_l hx]
        exact own_base (own_apart hu k2 (own_types hu hown.row tS_M).symm) hBH
      · rw [show i - us.length = 1 by omega] at hi
        obtain rfl : u2 = u := by simpa using hi
        rw [show i = xs.length * 2 + 1 by omega, mrow_r hx]
        exact own_base (own_apart hv k2 (own_types hv hown.row tS_M).symm) hBH
  · rw [List.pairwise_append]
    refine ⟨hown.ap, by simp [hap], fun p hp q hq => ?_⟩
    simp only [List.mem_cons, List.not_mem_nil, or_false] at hq
    intro b hb hb2
    have h1 := hH p hp b hb
    rcases hq with rfl | rfl
    · have h2 := own_of_ge hu hb2; omega
    · have h2 := own_of_ge hv hb2; omega
/-- A sequent given by value, with own rows. -/
def GivesMo (w : World) (x : Ms) (e : Ending) (w' : World) : Prop := ∃ u1 u2, e = .returned (.agg #[u1, u2]) ∧ OwnS w' w.heap.size u1 x.1 ∧ OwnS w' w.heap.size u2 x.2 ∧ Apart u1 u2 ∧ Grew w w'

set_option maxHeartbeats 2000000 in
theorem copySequent_c (va vb : Value) (L R : List ByteArray) (w : World) (ha : Strs w va L) (hb : Strs w vb R) (hnL : L.length ≤ 1048576) (hnR : R.length ≤ 1048576) :
    Calls Tryz.prog 44 #[.agg #[va, vb]] w (GivesMo w (L, R)) := by
  have hinfo := info2M
  have KA := Lib.hid (fun W (hW : Grew w W) => cloneL_c va L W (ha.grew hW) (by omega))
  have KB := Lib.hid (fun W (hW : Grew w W) => cloneL_c vb R W (hb.grew hW) (by omega))
  obtain ⟨A1, c1, rfl⟩ := strs_slice ha
  obtain ⟨A2, c2, rfl⟩ := strs_slice hb
  clear ha hb
  obtain ⟨w1, hw1⟩ : ∃ w1, w1 = (w.alloc (.cells #[.slice A1 L.length c1, .slice A2 R.length c2] 29)).alloc (.cells #[.slice none 0 0, .slice none 0 0] 29) := ⟨_, rfl⟩
  have hg1 : Grew w w1 := by rw [hw1]; exact ((Grew.refl w).alloc _).alloc _
  have hs1 : w1.heap.size = w.heap.size + 2 := by rw [hw1]; simp
  have hb0 : w1.heap[w.heap.size]? = some (.cells #[.slice A1 L.length c1, .slice A2 R.length c2] 29 (0, 0)) := by
    rw [hw1]; exact (((Grew.refl _).alloc _).block (by simp)).trans (blk_new w _)
  have hb1 : w1.heap[w.heap.size + 1]? = some (.cells #[.slice none 0 0, .slice none 0 0] 29 (0, 0)) := by
    rw [hw1]
    have h := blk_new (w.alloc (.cells #[.slice A1 L.length c1, .slice A2 R.length c2] 29)) (.cells #[.slice none 0 0, .slice none 0 0] 29)
    have e : (w.alloc (.cells #[.slice A1 L.length c1, .slice A2 R.length c2] 29)).heap.size = w.heap.size + 1 := by simp
    rwa [e] at h
  have p0 : ∀ W, Only (w.heap.size + 1) w1 W → W.cell? ⟨w.heap.size, 0, none⟩ = some (.slice A1 L.length c1) := fun W hW => by rw [blk_cell ((hW.block (blk_lt hb0) (by omega)).trans hb0)]; rfl
  have p1 : ∀ W, Only (w.heap.size + 1) w1 W → W.cell? ⟨w.heap.size, 1, none⟩ = some (.slice A2 R.length c2) := fun W hW => by rw [blk_cell ((hW.block (blk_lt hb0) (by omega)).trans hb0)]; rfl
  have HG1 := Lib.hid hg1
  have HS1 := Lib.hid hs1
  have HB1 := Lib.hid hb1
  have hr1 := Grew.refl w1
  have hd1 := hr1.drew
  have ho1 : Only (w.heap.size + 1) w1 w1.drew := (Only.refl _ _).drew
  clear hg1 hs1 hb0 hb1
  generalize hnl : L.length = n at *
  generalize hnr : R.length = n2 at *
  have HNL := Lib.hid hnl
  have HNR := Lib.hid hnr
  clear hnl hnr
  go_enter Tryz.func44, Tryz.ntmps44
  go_wp2_with fail
  simp only [← hw1]
  clear hw1
  refine wp_region_held_drew (S := fun w' => Only (w.heap.size + 1) w1 w') (by kernel_rfl) ho1 (fun hHeld => ?_)
  refine wpAnyH_take (i := 0) (oi := ?on1) (v := ?vn1) ?hin1 ?an1 ?bn1 ?cn1 ?qn1 (Or.inl ⟨?dn1, ?hyn1⟩) hHeld ?restn1
  case hin1 => (simp only [List.getElem?_toArray, List.getElem?_cons_zero]; exact rfl)
  case an1 => kernel_rfl
  case bn1 => kernel_rfl
  case cn1 => kernel_rfl
  case qn1 => exact fun _ _ _ h => h
  case dn1 => rfl
  case hyn1 => (intro z hSw; (try dsimp only at hSw); go_simp; (try with_reducible rfl))
  try simp only [Act.put, List.setIfInBounds_toArray, List.set_cons_zero, List.set_cons_succ]
  refine wpAnyH_take (i := 1) (oi := ?on2) (v := ?vn2) ?hin2 ?an2 ?bn2 ?cn2 ?qn2 (Or.inl ⟨?dn2, ?hyn2⟩) hHeld ?restn2
  case hin2 => (simp only [List.getElem?_toArray, List.getElem?_cons_succ, List.getElem?_cons_zero]; exact rfl)
  case an2 => kernel_rfl
  case bn2 => kernel_rfl
  case cn2 => kernel_rfl
  case qn2 => exact fun _ _ _ h => h
  case dn2 => rfl
  case hyn2 => (intro z hSw; (try dsimp only at hSw); go_simp; (try with_reducible rfl))
  try simp only [Act.put, List.setIfInBounds_toArray, List.set_cons_zero, List.set_cons_succ]
  refine wpAnyH_take (i := 3) (oi := ?on3) (v := ?vn3) ?hin3 ?an3 ?bn3 ?cn3 ?qn3 (Or.inl ⟨?dn3, ?hyn3⟩) hHeld ?restn3
  case hin3 => (simp only [List.getElem?_toArray, List.getElem?_cons_succ, List.getElem?_cons_zero]; exact rfl)
  case an3 => kernel_rfl
  case bn3 => kernel_rfl
  case cn3 => kernel_rfl
  case qn3 => exact fun _ _ _ h => h
  case dn3 => rfl
  case hyn3 => (intro z hSw; (try dsimp only at hSw); go_simp; (try with_reducible rfl))
  try simp only [Act.put, List.setIfInBounds_toArray, List.set_cons_zero, List.set_cons_succ]
  refine wpAnyH_take (i := 4) (oi := ?on4) (v := ?vn4) ?hin4 ?an4 ?bn4 ?cn4 ?qn4 (Or.inl ⟨?dn4, ?hyn4⟩) hHeld ?restn4
  case hin4 => (simp only [List.getElem?_toArray, List.getElem?_cons_succ, List.getElem?_cons_zero]; exact rfl)
  case an4 => kernel_rfl
  case bn4 => kernel_rfl
  case cn4 => kernel_rfl
  case qn4 => exact fun _ _ _ h => h
  case dn4 => rfl
  case hyn4 => (intro z hSw; (try dsimp only at hSw); go_simp; (try with_reducible rfl))
  try simp only [Act.put, List.setIfInBounds_toArray, List.set_cons_zero, List.set_cons_succ]
  refine wpAnyH_ready (rs := [2]) (by kernel_rfl) (by simp) ?_
  refine AllReadyH.cons (o := ?on5) ?hin5 ?restn5 AllReadyH.nil
  case hin5 => (simp only [List.getElem?_toArray, List.getElem?_cons_succ, List.getElem?_cons_zero]; exact rfl)
  intro K hK
  go_simp
  go_at_call 65
  refine (KA.out _ (HG1.out.trans hd1)).mono ?_
  rintro e x1 ⟨u1, rfl, hu1, hgx1⟩
  have gx1 : Grew w1 x1 := hd1.trans hgx1
  have hx1 : Only (w.heap.size + 1) w1 x1 := gx1.only
  obtain ⟨B1, d1, rfl⟩ := strs_slice hu1.strs
  refine hK.out _ _ ?_ (fun hHeld => ?_)
  · (try dsimp only); first | with_reducible assumption | exact hx1
  clear hK K
  try simp only [Act.put, List.setIfInBounds_toArray, List.set_cons_zero, List.set_cons_succ]
  refine wpAnyH_ready (rs := [5]) (by kernel_rfl) (by simp) ?_
  refine AllReadyH.cons (o := ?on6) ?hin6 ?restn6 AllReadyH.nil
  case hin6 => (simp only [List.getElem?_toArray, List.getElem?_cons_succ, List.getElem?_cons_zero]; exact rfl)
  intro K hK
  go_simp
  go_at_call 65
  refine (KB.out _ (HG1.out.trans gx1)).mono ?_
  rintro e x2 ⟨u2, rfl, hu2, hgx2⟩
  have gx2 : Grew w1 x2 := gx1.trans hgx2
  have hx2 : Only (w.heap.size + 1) w1 x2 := gx2.only
  obtain ⟨B2, d2, rfl⟩ := strs_slice hu2.strs
  have hap : Apart (.slice B1 L.length d1) (.slice B2 R.length d2) := fun g hg hg2 => by have h1 := (World.ownsRow.lt hu1 g hg).2; have h2 := own_of_ge hu2 hg2; omega
  replace hu1 := hu1.grew hgx2
  have hblk := (gx2.block (blk_lt HB1.out)).trans HB1.out
  have hc0 : x2.cell? ⟨w.heap.size + 1, 0, none⟩ = some (.slice none 0 0) := by rw [blk_cell hblk]; rfl
  have hc1 : x2.cell? ⟨w.heap.size + 1, 1, none⟩ = some (.slice none 0 0) := by rw [blk_cell hblk]; rfl
  have hf0 := blk_frozen hblk 0
  have hf1 := blk_frozen hblk 1
  have HBk := Lib.hid hblk
  clear hblk
  refine hK.out _ _ ?_ (fun hHeld => ?_)
  · (try dsimp only); first | with_reducible assumption | exact hx2
  clear hK K
  try simp only [Act.put, List.setIfInBounds_toArray, List.set_cons_zero, List.set_cons_succ]
  refine wpAnyH_take (i := 6) (oi := ?on7) (v := ?vn7) ?hin7 ?an7 ?bn7 ?cn7 ?qn7 (Or.inl ⟨?dn7, ?hyn7⟩) hHeld ?restn7
  case hin7 => (simp only [List.getElem?_toArray, List.getElem?_cons_succ, List.getElem?_cons_zero]; exact rfl)
  case an7 => kernel_rfl
  case bn7 => kernel_rfl
  case cn7 => kernel_rfl
  case qn7 => exact fun _ _ _ h => h
  case dn7 => rfl
  case hyn7 => (intro z hSw; (try dsimp only at hSw); go_simp; (try with_reducible rfl))
  try simp only [Act.put, List.setIfInBounds_toArray, List.set_cons_zero, List.set_cons_succ]
  refine wpAnyH_ready (rs := [7]) (by kernel_rfl) (by simp) ?_
  refine AllReadyH.cons (o := ?on8) ?hin8 ?restn8 AllReadyH.nil
  case hin8 => (simp only [List.getElem?_toArray, List.getElem?_cons_succ, List.getElem?_cons_zero]; exact rfl)
  intro K hK
  go_simp
  refine hK.out _ _ ?_ (fun hHeld => ?_)
  · (try dsimp only); first | with_reducible assumption | exact Only.setCell (Only.setCell hx2 _) _
  clear hK K
  try simp only [Act.put, List.setIfInBounds_toArray, List.set_cons_zero, List.set_cons_succ]
  refine wpAnyH_done (by kernel_rfl) ?_ _
  go_wp2_with fail
  (try simp only [Exit.inBlock, Exit.then])
  refine bodyPost_ret (results_cell_row rfl _ _ (w.heap.size + 1) _ _ _ _ rfl (blk_set (blk_set HBk.out 0 _) 1 _) Tryz.underlying29 rfl hinfo) rfl ?_
  have hk : Only (w.heap.size + 1) x2 ((x2.setCell ⟨w.heap.size + 1, 0, none⟩ (.slice B1 L.length d1)).setCell ⟨w.heap.size + 1, 1, none⟩ (.slice B2 R.length d2)) := ((Only.refl _ _).setCell _).setCell _
  have hS1 := HS1.out
  have hdz : w1.drew.heap.size = w1.heap.size := rfl
  refine ⟨_, _, rfl, ?_, ?_, hap, ((HG1.out.trans gx2).setCell (Nat.le_succ _) _).setCell (Nat.le_succ _) _⟩
  · exact OwnS.base (own_only hu1 hk (fun hh => by have := own_of_ge hu1 hh; omega)) (by omega)
  · exact OwnS.base (own_only hu2 hk (fun hh => by have := own_of_ge hu2 hh; have := gx1.size; omega)) (by have := gx1.size; omega)

set_option maxHeartbeats 2000000 in
theorem copySequents_c (v : Value) (xs : List Ms) (w : World) (h : RdM w v xs) (hn : xs.length ≤ 1048576) (hl : ∀ x ∈ xs, x.1.length ≤ 1048576 ∧ x.2.length ≤ 1048576) :
    Calls Tryz.prog 24 #[v] w fun e w' => ∃ u us, e = .returned u ∧ OwnMp w' w.heap.size u xs us ∧ Grew w w' := by
  obtain ⟨A, c, rfl, hcell⟩ := h.open_
  have HX := Lib.hid (fun j (hj : j < xs.length) => (⟨xs[j], List.getElem?_eq_getElem hj, hl _ (List.getElem_mem hj)⟩ : ∃ x, xs[j]? = some x ∧ x.1.length ≤ 1048576 ∧ x.2.length ≤ 1048576))
  have HT := Lib.hid (fun j x (hx : xs[j]? = some x) => show xs.take (j + 1) = xs.take j ++ [x] from by
    rw [List.take_add_one, hx]; rfl)
  have HE : Hid (xs.take xs.length = xs) := Lib.hid List.take_length
  have HTL := Lib.hid (fun j (hj : j ≤ xs.length) => show (xs.take j).length = j from by rw [List.length_take]; omega)
  have HC := Lib.hid hcell
  clear hcell h hl
  generalize hN : xs.length = n at *
  have HN := Lib.hid hN
  clear hN
  go_enter Tryz.func24, Tryz.ntmps24
  go_wp2_with fail
  go_loopw [3, 5, 8] (fun q _ i wr => ∃ (j : Nat) (us : List Value), j ≤ n ∧ i = .int .i64 j ∧ Hid (OwnMp wr w.heap.size q (xs.take j) us) ∧ Grew w wr) (fun _ _ i _ => n - (intOf i).toNat)
  case atStart => exact ⟨0, [], Nat.zero_le _, rfl, Lib.hid (OwnMp.nil_ _ _), Grew.refl _⟩
  case round =>
    obtain ⟨j, us, hj, rfl, HO, hB⟩ := hrel
    by_cases hlt : j < n
    · obtain ⟨x, hx, hl1, hl2⟩ := HX.out j hlt
      obtain ⟨b, o, rfl, hcl⟩ := HC.out (by omega)
      obtain ⟨A1, c1, A2, c2, hcl, hs1, hs2⟩ := hcl j x hx
      obtain ⟨k0, k1⟩ := hcl _ hB
      have ht := Lib.hid (HT.out j x hx)
      have htl := HTL.out j hj
      obtain ⟨AQ, cQ, rfl⟩ := HO.out.slice
      rw [htl] at HO ⊢
      have hal := (Grew.refl wr).alloc (.cells #[.slice A1 x.1.length c1, .slice A2 x.2.length c2] 29)
      have KC := Lib.hid (copySequent_c _ _ x.1 x.2 _ ((hs1.grew hB).grew hal) ((hs2.grew hB).grew hal) hl1 hl2)
      have HAL := Lib.hid hal
      clear hcl hx hs1 hs2 hal
      go_wp2_with fail
      refine KC.out.mono ?_
      rintro e w2 ⟨u1, u2, rfl, hu1, hu2, hap, hg2⟩
      obtain ⟨B1, d1, rfl⟩ := strs_slice hu1.strs
      obtain ⟨B2, d2, rfl⟩ := strs_slice hu2.strs
      have g2 : Grew wr w2 := HAL.out.trans hg2
      have HU1 := Lib.hid hu1
      have HU2 := Lib.hid hu2
      have hz : wr.heap.size ≤ (wr.alloc (.cells #[.slice A1 x.1.length c1, .slice A2 x.2.length c2] 29)).heap.size := HAL.out.size
      have HZ := Lib.hid hz
      have HOX : Hid (OwnMp wr w.heap.size (.slice AQ (xs.take j).length cQ) (xs.take j) us) := Lib.hid (by rw [htl]; exact HO.out)
      clear hu1 hu2 hg2 hz
      go_wp2_with (first
        | (at_builtin
           refine wpList_appM w.heap.size wr.heap.size _ _ rfl rfl (.slice AQ j cQ) (xs.take j) us rfl (HO.out.grew (g2.alloc _)) (Nat.le_trans hB.size (g2.alloc _).size) (.slice (some ⟨w2.heap.size, 0, none⟩) 1 1) _ _ x rfl ?hlit (own_base (HU1.out.grew ((Grew.refl _).alloc _)) HZ.out) (own_base (HU2.out.grew ((Grew.refl _).alloc _)) HZ.out) hap hB.size (fun u hu b hb => HO.out.below u hu b hb) (by omega) ?_
           case hlit =>
             refine ⟨rfl, by omega, .inr ⟨w2.heap.size, 0, 1, rfl, by omega, by omega, by simp, fun i u hi => ?_⟩⟩
             rw [blk_cell (blk_new w2 _), Nat.zero_add]
             simpa using hi
           intro v3 w3 hown3 hg3
           obtain ⟨A3, c3, rfl⟩ := hown3.slice
           have HFIN := Lib.hid (And.intro hown3 ((hB.trans (g2.alloc _)).grown hg3 (fun g hg => by have := own_of_ge HO.out.row hg; omega)))
           clear hown3 hg3))
      go_roundw
      case rel =>
        have hF := HFIN.out.1
        have e1 : (xs.take j ++ [x]).length = j + 1 := by rw [List.length_append, HTL.out j hj]; rfl
        rw [e1] at hF
        exact ⟨j + 1, _, by omega, by go_num, Lib.hid (by rw [ht.out]; exact hF), HFIN.out.2⟩
      case measure => simp [intOf]; omega
    · obtain rfl : j = n := by omega
      obtain ⟨AQ, cQ, rfl⟩ := HO.out.slice
      have ho := HO.out
      rw [HE.out] at ho
      have HO2 := Lib.hid ho
      clear ho HO
      go_wp2_with fail
      go_ret
      exact ⟨_, us, rfl, by simpa [HE.out] using HO2.out, hB⟩
end Go.Proofs.YtjcehejnolbkgaaGreat

/- The laws' own helpers on slices of strings: szStringS, toStringS, eqStringS. -/
namespace Go.Proofs.YtjcehejnolbkgaaGreat
open Go.RowKit

/-- A list of strings that came in. -/
def ArgS (w : World) (v : Value) (L : List ByteArray) : Prop :=
  (∃ A c, v = .slice A L.length c ∧ L.length ≤ 9223372036854775807) ∧ (0 < L.length → Strs w v L) ∧ ∀ i, i < L.length → (st L i).size ≤ 9223372036854775807
theorem ArgS.grew {w w' : World} {v : Value} {L : List ByteArray} (h : ArgS w v L) (hg : Grew w w') : ArgS w' v L := ⟨h.1, fun hp => (h.2.1 hp).grew hg, h.2.2⟩

/-- None of the first k is long. -/
def Small (L : List ByteArray) (k : Nat) : Prop := ∀ i, i < k → (st L i).size ≤ 1048576
theorem Small.zero (L : List ByteArray) : Small L 0 := fun i hi => absurd hi (by omega)
theorem Small.succ {L : List ByteArray} {k : Nat} (h : Small L k) (h1 : (st L k).size ≤ 1048576) : Small L (k + 1) := by
  intro i hi
  rcases Nat.lt_or_ge i k with hk | hk
  · exact h i hk
  · obtain rfl : i = k := by omega
    exact h1
/-- What the sizes' walk gives. -/
def Sizes (L : List ByteArray) (r : Int) : Prop := r ≤ 1048576 ∧ (0 ≤ r → L.length ≤ 1048576 ∧ Small L L.length)

theorem szStringS_c (v : Value) (L : List ByteArray) (left : Int) (w : World) (h : ArgS w v L) (h0 : 0 ≤ left) (h1 : left ≤ 1048576) :
    Calls Tryz.prog 13 #[v, .int .i64 left] w fun e w' => ∃ r : Int, e = .returned (.int .i64 r) ∧ Sizes L r ∧ Grew w w' := by
  obtain ⟨⟨A, c, rfl, hmax⟩, hS, hz⟩ := h
  by_cases hlong : left < L.length
  · clear hS hz
    go_enter Tryz.func13, Tryz.ntmps13
    go_wp2_with fail
    go_ret
    exact ⟨_, rfl, ⟨by omega, fun h => absurd h (by omega)⟩, Grew.refl _⟩
  · by_cases hp : 0 < L.length
    · rcases (hS hp).open_ with ⟨_, h2⟩ | ⟨b, o, c', hv, hc, hm, hb, hcell⟩
      · rw [h2] at hp; cases hp
      obtain ⟨rfl, rfl⟩ : A = some ⟨b, o, none⟩ ∧ c = c' := by simpa using hv
      clear hS hv
      have HE : Hid (∀ r : Int, (r ≤ 1048576 ∧ (0 ≤ r → L.length ≤ 1048576 ∧ Small L L.length)) → Sizes L r) := Lib.hid (fun _ h => h)
      have HC := Lib.hid hcell
      have HZ := Lib.hid hz
      clear hcell hz
      generalize hN : L.length = n at *
      clear hN
      go_enter Tryz.func13, Tryz.ntmps13
      go_wp2_with fail
      go_loopw [1, 5] (fun kk i wr => ∃ (j : Nat) (l : Int), j ≤ n ∧ i = .int .i64 j ∧ kk = .int .i64 l ∧ 0 ≤ l ∧ l ≤ left ∧ Grew w wr ∧ Hid (Small L j)) (fun _ i _ => n - (intOf i).toNat)
      case atStart => exact ⟨0, left - n, Nat.zero_le _, rfl, rfl, by omega, by omega, Grew.refl _, Small.zero _⟩
      case round =>
        obtain ⟨j, l, hj, rfl, rfl, hl0, hl1, hB, HJ⟩ := hrel
        by_cases hlt : j < n
        · have k1 := HC.out j hlt _ hB
          have k2 := HZ.out j hlt
          have HS := Lib.hid (fun h => HJ.out.succ (k := j) h)
          generalize st L j = x at *
          by_cases hbig : l < x.size
          · go_wp2_with fail
            go_ret
            exact ⟨_, rfl, HE.out _ ⟨by omega, fun h => absurd h (by omega)⟩, hB⟩
          · go_wp2_with fail
            go_roundw
            case rel => exact ⟨j + 1, l - x.size, by omega, by go_num, rfl, by omega, by omega, hB, HS.out (by omega)⟩
            case measure => simp [intOf]; omega
        · obtain rfl : j = n := by omega
          go_wp2_with fail
          go_ret
          exact ⟨_, rfl, HE.out _ ⟨by omega, fun _ => ⟨by omega, HJ.out⟩⟩, hB⟩
    · obtain rfl : L = [] := List.eq_nil_of_length_eq_zero (by omega)
      simp only [List.length_nil] at *
      go_enter Tryz.func13, Tryz.ntmps13
      go_wp2_with fail
      refine wp_loop_rounds 1 ?_; rw [rounds_succ]
      go_wp2_with fail
      go_ret
      exact ⟨_, rfl, ⟨by omega, fun _ => ⟨by simp, fun i hi => absurd hi (by simp)⟩⟩, Grew.refl _⟩

theorem one_step {cur : Array Value} {F : Nat → Value} {j : Nat} (hs : j < cur.size) (h : ∀ i, i < j → cur[i]? = some (F i)) :
    ∀ i, i < j + 1 → (cur.setIfInBounds j (F j))[i]? = some (F i) := by
  intro i hi
  simp only [Array.getElem?_setIfInBounds]
  rcases Nat.lt_or_ge i j with hk | hk
  · rw [if_neg (by omega)]
    exact h i hk
  · obtain rfl : i = j := by omega
    rw [if_pos rfl, if_pos hs]

theorem toStringS_c (v : Value) (L : List ByteArray) (w : World) (h : ArgS w v L) (hn : L.length ≤ 1048576) :
    Calls Tryz.prog 17 #[v] w (GivesS w L) := by
  obtain ⟨⟨A, c, rfl, hmax⟩, hS, _⟩ := h
  have hmk := run_make_row' (P := Tryz.prog) 22 9 (.string ByteArray.empty) 16 Tryz.underlying22 Tryz.infoStr rfl .i64 .i64 L.length (by omega) (by omega)
  have hend : ∀ cur w', w'.heap[w.heap.size]? = some (.cells cur 9 (0, 0)) → cur.size = L.length → (∀ i, i < L.length → cur[i]? = some (.string (st L i))) → OwnS w' w.heap.size (.slice (some ⟨w.heap.size, 0, none⟩) L.length L.length) L :=
    fun cur w' h1 h2 h3 => OwnS.mk_ (Nat.le_refl _) h1 (Nat.le_refl _) (by omega) h2 h3
  have HE := Lib.hid hend
  clear hend
  have hsz : (madeCells #[Value.string ByteArray.empty] L.length).size = L.length := by simp [madeCells]
  have hnew := blk_new w (.cells (madeCells #[Value.string ByteArray.empty] L.length) 9)
  have hal := (Grew.refl w).alloc (.cells (madeCells #[Value.string ByteArray.empty] L.length) 9)
  generalize madeCells #[Value.string ByteArray.empty] L.length = cur0 at *
  by_cases hp : 0 < L.length
  · rcases (hS hp).open_ with ⟨_, h2⟩ | ⟨b, o, c', hv, hc, hm, hb, hcell⟩
    · rw [h2] at hp; cases hp
    obtain ⟨rfl, rfl⟩ : A = some ⟨b, o, none⟩ ∧ c = c' := by simpa using hv
    clear hS hv
    have HC := Lib.hid hcell
    clear hcell
    generalize hN : L.length = n at *
    clear hN
    have HNEW := Lib.hid hnew
    clear hnew
    have HAL := Lib.hid hal
    clear hal
    go_enter Tryz.func17, Tryz.ntmps17
    go_wp2_with fail
    go_loopw [4] (fun i wr => ∃ (j : Nat) (cur : Array Value), j ≤ n ∧ i = .int .i64 j ∧ wr.heap[w.heap.size]? = some (.cells cur 9 (0, 0)) ∧ cur.size = n ∧ Grew w wr ∧ (∀ i, i < j → cur[i]? = some (.string (st L i)))) (fun i _ => n - (intOf i).toNat)
    case atStart => exact ⟨0, cur0, Nat.zero_le _, rfl, HNEW.out, hsz, HAL.out, fun i hi => absurd hi (by omega)⟩
    case round =>
      obtain ⟨j, cur, hj, rfl, hh, hcs, hB, hc2⟩ := hrel
      have HD := Lib.hid hc2
      clear hc2
      by_cases hlt : j < n
      · have k1 := HC.out j hlt _ hB
        have HS := Lib.hid (one_step (F := fun i => .string (st L i)) (j := j) (by omega) HD.out)
        have f1 : ∀ i, wr.frozen? ⟨w.heap.size, i, none⟩ = false := fun i => by simp [World.frozen?, hh]
        obtain ⟨u1, hu1⟩ : ∃ u, wr.cell? ⟨w.heap.size, 0 + j, none⟩ = some u := by
          rw [cell_of_row wr w.heap.size _ cur _ (0, 0) hh]
          exact ⟨_, Array.getElem?_eq_getElem (by omega)⟩
        simp only [Nat.zero_add] at hu1
        have HH := Lib.hid hh
        clear hh
        generalize st L j = x at *
        go_wp2_with fail
        go_roundw
        case rel => exact ⟨j + 1, _, by omega, by go_num, blk_set HH.out _ _, by simp [hcs], hB.setCell (Nat.le_refl _) _, HS.out⟩
        case measure => simp [intOf]; omega
      · obtain rfl : j = n := by omega
        have HH := Lib.hid hh
        clear hh
        go_wp2_with fail
        go_ret
        exact ⟨_, rfl, HE.out _ _ HH.out hcs HD.out, hB⟩
  · have hp0 : L.length ≤ 0 := by omega
    have HNEW := Lib.hid hnew
    clear hnew hS hp
    have HAL := Lib.hid hal
    clear hal
    generalize hN : L.length = n at *
    clear hN
    go_enter Tryz.func17, Tryz.ntmps17
    go_wp2_with fail
    refine wp_loop_rounds 1 ?_; rw [rounds_succ]
    go_wp2_with fail
    go_ret
    exact ⟨_, rfl, HE.out _ _ HNEW.out hsz (fun i hi => absurd hi (by omega)), HAL.out⟩

/-- Two lists of strings that are equal. -/
theorem eqStringS_yes (v1 v2 : Value) (L : List ByteArray) (w : World) (h1 : Strs w v1 L) (h2 : Strs w v2 L) (hn : L.length ≤ 1099511627776) :
    Calls Tryz.prog 25 #[v1, v2] w fun e w' => e = .returned (.bool true) ∧ Grew w w' := by
  rcases h1.open_ with ⟨rfl, rfl⟩ | ⟨b1, o1, c1, rfl, hc1, hm1, hb1, hf⟩
  · obtain ⟨A, c, rfl⟩ := strs_slice h2
    go_enter Tryz.func25, Tryz.ntmps25
    go_wp2_with fail
    refine wp_loop_rounds 1 ?_; rw [rounds_succ]
    go_wp2_with fail
    go_ret
    exact ⟨rfl, Grew.refl _⟩
  · rcases h2.open_ with ⟨rfl, rfl⟩ | ⟨b2, o2, c2, rfl, hc2, hm2, hb2, hh⟩
    · go_enter Tryz.func25, Tryz.ntmps25
      go_wp2_with fail
      refine wp_loop_rounds 1 ?_; rw [rounds_succ]
      go_wp2_with fail
      go_ret
      exact ⟨rfl, Grew.refl _⟩
    · clear h1 h2
      have HF := Lib.hid hf
      have HH := Lib.hid hh
      clear hf hh
      generalize hN : L.length = n at *
      clear hN
      go_enter Tryz.func25, Tryz.ntmps25
      go_wp2_with fail
      go_loopw [5] (fun i wr => ∃ j : Nat, j ≤ n ∧ i = .int .i64 j ∧ Grew w wr) (fun i _ => n - (intOf i).toNat)
      case atStart => exact ⟨0, Nat.zero_le _, rfl, Grew.refl _⟩
      case round =>
        obtain ⟨j, hj, rfl, hB⟩ := hrel
        by_cases hlt : j < n
        · have k1 : ∀ W, Grew w W → W.cell? ⟨b1, o1 + j, none⟩ = some (.string (st L j)) := fun W hW => HF.out j hlt W hW
          have k2 : ∀ W, Grew w W → W.cell? ⟨b2, o2 + j, none⟩ = some (.string (st L j)) := fun W hW => HH.out j hlt W hW
          have k3 := k1 _ hB
          have k4 := k2 _ hB
          generalize st L j = x at *
          have hx : (x.toList != x.toList) = false := by simp
          go_wp2_with fail
          go_quiet (fail)
          go_wp2_with fail
          go_roundw
          case rel => exact ⟨j + 1, by omega, by go_num, by first | assumption | exact hB.drewN _⟩
          case measure => simp [intOf]; omega
        · go_wp2_with fail
          go_ret
          exact ⟨rfl, by assumption⟩
end Go.Proofs.YtjcehejnolbkgaaGreat

/- A sequent of texts: the laws' own helpers and IsModalSequent of both. -/
namespace Go.Proofs.YtjcehejnolbkgaaGreat
open Go.RowKit
open Fm (Nd)

theorem isSide_c (v : Value) (L : List ByteArray) (w : World) (h : Strs w v L) (hs : Fits L) (hn : L.length ≤ 1048576) :
    Calls Tryz.prog 36 #[v] w fun e w' => e = .returned (.bool (asc L)) ∧ Grew w w' := by
  rcases h.open_ with ⟨rfl, rfl⟩ | ⟨b, o, c, rfl, hc, hm, hb, hcell⟩
  · rw [asc_true (Asc.zero _)]
    clear h hs
    go_enter Tryz.func36, Tryz.ntmps36
    go_wp2_with fail
    refine wp_loop_rounds 1 ?_; rw [rounds_succ]
    go_wp2_with fail
    go_ret
    exact ⟨rfl, Grew.refl _⟩
  obtain ⟨R, hR⟩ : ∃ R, R = asc L := ⟨_, rfl⟩
  rw [← hR]
  have HT := Lib.hid (fun h => hR.trans (@asc_true L h))
  have HB := Lib.hid (fun k hk h => hR.trans (@asc_bad L k hk h))
  have HL := Lib.hid (fun k hk h => hR.trans (@asc_low L k hk h))
  have HC := Lib.hid hcell
  have HS := Lib.hid hs
  clear hcell h hs hR
  unfold Fits at HS
  generalize hN : L.length = n at *
  clear hN
  go_enter Tryz.func36, Tryz.ntmps36
  go_wp2_with fail
  go_loopw [3, 4, 7] (fun _ _ i wr => ∃ j : Nat, j ≤ n ∧ i = .int .i64 j ∧ Grew w wr ∧ Hid (Asc L j)) (fun _ _ i _ => n - (intOf i).toNat)
  case atStart => exact ⟨0, Nat.zero_le _, rfl, Grew.refl _, Asc.zero _⟩
  case round =>
    obtain ⟨j, hj, rfl, hB, HJ⟩ := hrel
    by_cases hlt : j < n
    · have k1 : ∀ W, Grew w W → W.cell? ⟨b, o + j, none⟩ = some (.string (st L j)) := fun W hW => HC.out j hlt W hW
      have hsz := HS.out j hlt
      have hG := Lib.hid (fun w => isText_c (st L j) w (by omega))
      have k2 := k1 _ hB
      go_wp2_with fail
      refine (hG.out _).mono ?_
      rintro e w1 ⟨rfl, hg1⟩
      have hB1 := hB.trans hg1
      cases hgd : gd (st L j) with
      | false =>
        have hv := Lib.hid (HB.out j hlt hgd)
        generalize st L j = x at *
        go_wp2_with fail
        go_ret
        rw [hv.out]
        exact ⟨rfl, hB1⟩
      | true =>
        cases j with
        | zero =>
          have HS1 := Lib.hid (HJ.out.succ hgd (fun h => absurd h (by omega)))
          generalize st L 0 = x at *
          go_wp2_with fail
          go_roundw
          case rel => exact ⟨1, by omega, by go_num, hB1, HS1⟩
          case measure => simp [intOf]; omega
        | succ m =>
          have k3 := HC.out m (by omega) _ hB1
          have k4 := k1 _ hB1
          cases hlo : Op.bytesLess (st L m).toList (st L (m + 1)).toList with
          | false =>
            have hv := Lib.hid (HL.out m hlt hlo)
            generalize st L m = y at *
            generalize st L (m + 1) = x at *
            go_wp2_with fail
            go_ret
            rw [hv.out]
            exact ⟨rfl, hB1⟩
          | true =>
            have HS1 := Lib.hid (HJ.out.succ hgd (fun _ => hlo))
            generalize st L m = y at *
            generalize st L (m + 1) = x at *
            go_wp2_with fail
            go_roundw
            case rel => exact ⟨m + 1 + 1, by omega, by go_num, hB1, HS1⟩
            case measure => simp [intOf]; omega
    · obtain rfl : j = n := by omega
      have hv := Lib.hid (HT.out HJ.out)
      go_wp2_with fail
      go_ret
      rw [hv.out]
      exact ⟨rfl, hB⟩

theorem szModalSequent_c (v1 v2 : Value) (L1 L2 : List ByteArray) (w : World) (h1 : ArgS w v1 L1) (h2 : ArgS w v2 L2) :
    Calls Tryz.prog 4 #[.agg #[v1, v2], .int .i64 1048576] w fun e w' => ∃ r : Int, e = .returned (.int .i64 r) ∧ Grew w w' ∧ (0 ≤ r → (L1.length ≤ 1048576 ∧ Small L1 L1.length) ∧ L2.length ≤ 1048576 ∧ Small L2 L2.length) := by
  have H1 := Lib.hid h1
  have H2 := Lib.hid h2
  clear h1 h2
  go_enter Tryz.func4, Tryz.ntmps4
  go_wp2_with fail
  refine (szStringS_c _ L1 _ _ (H1.out.grew ((Grew.refl w).alloc _)) (by omega) (by omega)).mono ?_
  rintro e w1 ⟨r1, rfl, ⟨hr1, hs1⟩, hg1⟩
  have HS1 := Lib.hid hs1
  clear hs1
  by_cases hr : r1 < 0
  · go_wp2_with fail
    go_ret
    exact ⟨_, rfl, Grew.of_alloc hg1, fun h => absurd h (by omega)⟩
  have hc1 : w1.cell? ⟨w.heap.size, 1, none⟩ = some v2 := (hg1.cell (by simp)).trans (by simp)
  go_wp2_with fail
  refine (szStringS_c _ L2 _ _ (H2.out.grew (Grew.of_alloc hg1)) (by omega) (by omega)).mono ?_
  rintro e w2 ⟨r2, rfl, ⟨hr2, hs2⟩, hg2⟩
  have HS2 := Lib.hid hs2
  clear hs2
  by_cases hrr : r2 < 0
  · go_wp2_with fail
    go_ret
    exact ⟨_, rfl, Grew.of_alloc (hg1.trans hg2), fun h => absurd h (by omega)⟩
  · go_wp2_with fail
    go_ret
    exact ⟨_, rfl, Grew.of_alloc (hg1.trans hg2), fun h => ⟨HS1.out (by omega), HS2.out h⟩⟩
end Go.Proofs.YtjcehejnolbkgaaGreat

/- A sequent of texts: toModalSequent, eqModalSequent, IsModalSequent of both. -/
namespace Go.Proofs.YtjcehejnolbkgaaGreat
open Go.RowKit
open Fm (Nd)

/-- The call gives a sequent whose sides read as the lists. -/
def GivesM (w : World) (L1 L2 : List ByteArray) (e : Ending) (w' : World) : Prop := ∃ a b, e = .returned (.agg #[a, b]) ∧ Strs w' a L1 ∧ Strs w' b L2 ∧ Grew w w'

/-- The same, the sides rows of the call's own. -/
def GivesMO (w : World) (L1 L2 : List ByteArray) (e : Ending) (w' : World) : Prop := ∃ a b, e = .returned (.agg #[a, b]) ∧ OwnS w' w.heap.size a L1 ∧ OwnS w' w.heap.size b L2 ∧ (∀ g, a.ownBlock = some g → b.ownBlock ≠ some g) ∧ Grew w w'

theorem blk_3 (w : World) (o1 o2 o3 : Obj) : (((w.alloc o1).alloc o2).alloc o3).heap[w.heap.size + 1 + 1]? = some o3 := by
  have h := blk_new ((w.alloc o1).alloc o2) o3
  rwa [World.size_alloc, World.size_alloc] at h
theorem blk_2 (w : World) (o1 o2 o3 : Obj) : (((w.alloc o1).alloc o2).alloc o3).heap[w.heap.size + 1]? = some o2 := by
  have h := blk_new (w.alloc o1) o2
  rw [World.size_alloc] at h
  exact (((Grew.refl ((w.alloc o1).alloc o2)).alloc o3).block (by simp)).trans h

theorem blk_1 (w : World) (o1 o2 o3 : Obj) : (((w.alloc o1).alloc o2).alloc o3).heap[w.heap.size]? = some o1 :=
  ((((Grew.refl (w.alloc o1)).alloc o2).alloc o3).block (by simp)).trans (blk_new w o1)

theorem toModalSequent_o (v1 v2 : Value) (L1 L2 : List ByteArray) (w : World) (h1 : ArgS w v1 L1) (h2 : ArgS w v2 L2) (hn1 : L1.length ≤ 1048576) (hn2 : L2.length ≤ 1048576) :
    Calls Tryz.prog 6 #[.agg #[v1, v2]] w (GivesMO w L1 L2) := by
  have H1 := Lib.hid h1
  have H2 := Lib.hid h2
  clear h1 h2
  go_enter Tryz.func6, Tryz.ntmps6
  go_wp2_with fail
  refine (toStringS_c _ L1 _ (H1.out.grew ((((Grew.refl w).alloc _).alloc _).alloc _)) (by omega)).mono ?_
  rintro e w1 ⟨a1, rfl, ho1, hg1⟩
  have hb3 : w1.heap[w.heap.size + 1 + 1]? = some (.cells #[.slice none 0 0, .slice none 0 0] 29 (0, 0)) := (hg1.block (by simp)).trans (blk_3 _ _ _ _)
  have hb2 : w1.heap[w.heap.size + 1]? = some (.cells #[.slice none 0 0, .slice none 0 0] 29 (0, 0)) := (hg1.block (by simp)).trans (blk_2 _ _ _ _)
  have c10 : w1.cell? ⟨w.heap.size + 1 + 1, 0, none⟩ = some (.slice none 0 0) := by rw [blk_cell hb3]; rfl
  have f10 := blk_frozen hb3 0
  have hb1 : w1.heap[w.heap.size]? = some (.cells #[v1, v2] 24 (0, 0)) := (hg1.block (by simp; omega)).trans (blk_1 _ _ _ _)
  have c11 : w1.cell? ⟨w.heap.size, 1, none⟩ = some v2 := by rw [blk_cell hb1]; rfl
  have hgW : Grew w (w1.setCell ⟨w.heap.size + 1 + 1, 0, none⟩ a1) := (((Grew.of_alloc (Grew.of_alloc (Grew.of_alloc hg1)))).setCell (by show w.heap.size ≤ w.heap.size + 1 + 1; omega) _)
  have hG1 := hg1.size
  simp only [World.size_alloc] at hG1 ho1
  obtain ⟨A1, k1, rfl⟩ := strs_slice ho1.strs
  have HO1 := Lib.hid ho1
  have HB3 := Lib.hid hb3
  have HB2 := Lib.hid hb2
  clear ho1 hb3 hb2 hb1
  go_wp2_with fail
  refine (toStringS_c _ L2 _ (H2.out.grew hgW) (by omega)).mono ?_
  rintro e w2 ⟨a2, rfl, ho2, hg2⟩
  have hb4 := (hg2.block (by simp; omega)).trans (blk_set HB3.out 0 (.slice A1 L1.length k1))
  have hb5 := (hg2.block (k := w.heap.size + 1) (by simp; omega)).trans ((Below.heap_setCell _ _ _ _ (by simp)).trans HB2.out)
  have c20 : w2.cell? ⟨w.heap.size + 1 + 1, 0, none⟩ = some (.slice A1 L1.length k1) := by rw [blk_cell hb4]; rfl
  have c21 : w2.cell? ⟨w.heap.size + 1 + 1, 1, none⟩ = some (.slice none 0 0) := by rw [blk_cell hb4]; rfl
  have c22 : w2.cell? ⟨w.heap.size + 1, 0, none⟩ = some (.slice none 0 0) := by rw [blk_cell hb5]; rfl
  have c23 : w2.cell? ⟨w.heap.size + 1, 1, none⟩ = some (.slice none 0 0) := by rw [blk_cell hb5]; rfl
  have f21 := blk_frozen hb4 1
  have f22 := blk_frozen hb5 0
  have f23 := blk_frozen hb5 1
  have ho1' := own_grew (own_only HO1.out ((Only.refl (w.heap.size + 1 + 1) w1).setCell (o := 0) (.slice A1 L1.length k1)) (fun h => by have := own_of_ge HO1.out h; omega)) hg2
  have hG2 := hg2.size
  simp only [World.size_setCell] at hG2 ho2
  obtain ⟨A2, k2, rfl⟩ := strs_slice ho2.strs
  have HO1' := Lib.hid ho1'
  have HO2 := Lib.hid ho2
  have hgW2 := hgW.trans hg2
  have HB5 := Lib.hid hb5
  clear ho1' ho2 hb4 hb5
  go_wp2_with fail
  (try simp only [Exit.inBlock, Exit.then])
  have hinfo : (Tryz.prog.info? 29).map (·.size) = some 2 := by kernel_rfl
  have hb6 : (((w2.setCell ⟨w.heap.size + 1 + 1, 1, none⟩ (.slice A2 L2.length k2)).setCell ⟨w.heap.size + 1, 0, none⟩ (.slice A1 L1.length k1)).setCell ⟨w.heap.size + 1, 1, none⟩ (.slice A2 L2.length k2)).heap[w.heap.size + 1]? = some (.cells #[.slice A1 L1.length k1, .slice A2 L2.length k2] 29 (0, 0)) :=
    blk_set (blk_set ((Below.heap_setCell _ _ _ _ (by simp)).trans HB5.out) _ _) _ _
  refine bodyPost_ret (results_cell_row rfl _ _ (w.heap.size + 1) _ _ _ _ rfl hb6 Tryz.underlying29 rfl hinfo) rfl ?_
  have e1 := own_only (own_only HO1'.out ((Only.refl (w.heap.size + 1 + 1) w2).setCell (o := 1) (.slice A2 L2.length k2)) (fun h => by have := own_of_ge HO1'.out h; omega)) (((Only.refl (w.heap.size + 1) _).setCell (o := 0) (.slice A1 L1.length k1)).setCell (o := 1) (.slice A2 L2.length k2)) (fun h => by have := own_of_ge HO1'.out h; omega)
  have e2 := own_only (own_only HO2.out ((Only.refl (w.heap.size + 1 + 1) w2).setCell (o := 1) (.slice A2 L2.length k2)) (fun h => by have := own_of_ge HO2.out h; omega)) (((Only.refl (w.heap.size + 1) _).setCell (o := 0) (.slice A1 L1.length k1)).setCell (o := 1) (.slice A2 L2.length k2)) (fun h => by have := own_of_ge HO2.out h; omega)
  exact ⟨_, _, rfl, own_base e1 (by omega), own_base e2 (by omega), fun g hg hg' => by have h1 := (HO1.out.lt g hg).2; have h2 := (HO2.out.lt g hg').1; omega, ((hgW2.setCell (by show w.heap.size ≤ w.heap.size + 1 + 1; omega) _).setCell (by show w.heap.size ≤ w.heap.size + 1; omega) _).setCell (by show w.heap.size ≤ w.heap.size + 1; omega) _⟩

theorem toModalSequent_c (v1 v2 : Value) (L1 L2 : List ByteArray) (w : World) (h1 : ArgS w v1 L1) (h2 : ArgS w v2 L2) (hn1 : L1.length ≤ 1048576) (hn2 : L2.length ≤ 1048576) :
    Calls Tryz.prog 6 #[.agg #[v1, v2]] w (GivesM w L1 L2) :=
  (toModalSequent_o v1 v2 L1 L2 w h1 h2 hn1 hn2).mono fun _ _ ⟨a, b, e, h1, h2, _, hg⟩ => ⟨a, b, e, h1.strs, h2.strs, hg⟩

theorem eqModalSequent_yes (a1 b1 a2 b2 : Value) (L1 L2 : List ByteArray) (w : World) (h1 : Strs w a1 L1) (h2 : Strs w b1 L2) (h3 : Strs w a2 L1) (h4 : Strs w b2 L2) (hn1 : L1.length ≤ 1048576) (hn2 : L2.length ≤ 1048576) :
    Calls Tryz.prog 9 #[.agg #[a1, b1], .agg #[a2, b2]] w fun e w' => e = .returned (.bool true) ∧ Grew w w' := by
  have hG : ∀ o1 o2, Grew w ((w.alloc o1).alloc o2) := fun _ _ => ((Grew.refl w).alloc _).alloc _
  go_enter Tryz.func9, Tryz.ntmps9
  go_wp2_with fail
  refine (eqStringS_yes _ _ L1 _ (h1.grew (hG _ _)) (h3.grew (hG _ _)) (by omega)).mono ?_
  rintro e w1 ⟨rfl, hg1⟩
  have hc1 : w1.cell? ⟨w.heap.size, 1, none⟩ = some b1 := (hg1.cell (by simp; omega)).trans (by simp)
  have hc2 : w1.cell? ⟨w.heap.size + 1, 1, none⟩ = some b2 := (hg1.cell (by simp)).trans (by simp)
  have hg2 := (hG _ _).trans hg1
  go_wp2_with fail
  refine (eqStringS_yes _ _ L2 _ (h2.grew hg2) (h4.grew hg2) (by omega)).mono ?_
  rintro e w2 ⟨rfl, hg3⟩
  go_wp2_with fail
  go_ret
  exact ⟨rfl, hg2.trans hg3⟩

theorem l11Is_c (a b : Value) (L1 L2 : List ByteArray) (w : World) (h1 : Strs w a L1) (h2 : Strs w b L2) (f1 : Fits L1) (f2 : Fits L2) (hn1 : L1.length ≤ 1048576) (hn2 : L2.length ≤ 1048576) :
    Calls Tryz.prog 15 #[.agg #[a, b]] w fun e w' => e = .returned (.bool ((decide (L1.length ≤ 16) && asc L1) && (decide (L2.length ≤ 16) && asc L2))) ∧ Grew w w' := by
  have K1 := Lib.hid (fun W (hW : Grew w W) => l11Side_c a L1 W (h1.grew hW) f1 hn1)
  have K2 := Lib.hid (fun W (hW : Grew w W) => l11Side_c b L2 W (h2.grew hW) f2 hn2)
  clear h1 h2 f1 f2 hn1 hn2
  generalize (decide (L2.length ≤ 16) && asc L2) = r2 at *
  generalize (decide (L1.length ≤ 16) && asc L1) = r1 at *
  cases r1 with
  | false =>
    go_enter Tryz.func15, Tryz.ntmps15
    go_wp2_with fail
    refine (K1.out _ ((Grew.refl w).alloc _)).mono ?_
    rintro e w1 ⟨rfl, hg1⟩
    go_wp2_with fail
    go_ret
    exact ⟨rfl, Grew.of_alloc hg1⟩
  | true =>
    go_enter Tryz.func15, Tryz.ntmps15
    go_wp2_with fail
    refine (K1.out _ ((Grew.refl w).alloc _)).mono ?_
    rintro e w1 ⟨rfl, hg1⟩
    have hc1 : w1.cell? ⟨w.heap.size, 1, none⟩ = some b := (hg1.cell (by simp)).trans (by simp)
    go_wp2_with fail
    refine (K2.out _ (Grew.of_alloc hg1)).mono ?_
    rintro e w2 ⟨rfl, hg2⟩
    go_wp2_with fail
    go_ret
    exact ⟨by simp, Grew.of_alloc (hg1.trans hg2)⟩

theorem isModalSequent_c (a b : Value) (L1 L2 : List ByteArray) (w : World) (h1 : Strs w a L1) (h2 : Strs w b L2) (f1 : Fits L1) (f2 : Fits L2) (hn1 : L1.length ≤ 1048576) (hn2 : L2.length ≤ 1048576) :
    Calls Tryz.prog 19 #[.agg #[a, b]] w fun e w' => e = .returned (.bool ((decide (L1.length ≤ 16) && asc L1) && (decide (L2.length ≤ 16) && asc L2))) ∧ Grew w w' := by
  have K1 := Lib.hid (fun W (hW : Grew w W) => isSide_c a L1 W (h1.grew hW) f1 hn1)
  have K2 := Lib.hid (fun W (hW : Grew w W) => isSide_c b L2 W (h2.grew hW) f2 hn2)
  obtain ⟨A1, c1, rfl⟩ := strs_slice h1
  obtain ⟨A2, c2, rfl⟩ := strs_slice h2
  clear h1 h2 f1 f2
  generalize asc L1 = r1 at *
  generalize asc L2 = r2 at *
  generalize L1.length = n1 at *
  generalize L2.length = n2 at *
  by_cases hb1 : n1 ≤ 16
  · by_cases hb2 : n2 ≤ 16
    · have hE : ((decide (n1 ≤ 16) && r1) && (decide (n2 ≤ 16) && r2)) = (r1 && r2) := by simp [hb1, hb2]
      rw [hE]
      clear hE
      cases r1 with
      | false =>
        go_enter Tryz.func19, Tryz.ntmps19
        go_wp2_with fail
        refine (K1.out _ ((Grew.refl w).alloc _)).mono ?_
        rintro e w1 ⟨rfl, hg1⟩
        go_wp2_with fail
        go_ret
        exact ⟨rfl, Grew.of_alloc hg1⟩
      | true =>
        go_enter Tryz.func19, Tryz.ntmps19
        go_wp2_with fail
        refine (K1.out _ ((Grew.refl w).alloc _)).mono ?_
        rintro e w1 ⟨rfl, hg1⟩
        have hc1 : w1.cell? ⟨w.heap.size, 1, none⟩ = some (.slice A2 n2 c2) := (hg1.cell (by simp)).trans (by simp)
        go_wp2_with fail
        refine (K2.out _ (Grew.of_alloc hg1)).mono ?_
        rintro e w2 ⟨rfl, hg2⟩
        go_wp2_with fail
        go_ret
        exact ⟨by simp, Grew.of_alloc (hg1.trans hg2)⟩
    · have hE : ((decide (n1 ≤ 16) && r1) && (decide (n2 ≤ 16) && r2)) = false := by simp [hb2]
      rw [hE]
      clear hE
      go_enter Tryz.func19, Tryz.ntmps19
      go_wp2_with fail
      go_ret
      exact ⟨rfl, (Grew.refl w).alloc _⟩
  · have hE : ((decide (n1 ≤ 16) && r1) && (decide (n2 ≤ 16) && r2)) = false := by simp [hb1]
    rw [hE]
    clear hE
    go_enter Tryz.func19, Tryz.ntmps19
    go_wp2_with fail
    go_ret
    exact ⟨rfl, (Grew.refl w).alloc _⟩

end Go.Proofs.YtjcehejnolbkgaaGreat

/- RulePremises of the program gives rpF. -/
namespace Go.Proofs.YtjcehejnolbkgaaGreat
open Go.RowKit

theorem asc_gd {L : List ByteArray} (h : asc L = true) : ∀ i, i < L.length → gd (st L i) = true := by
  unfold asc at h
  have := @of_decide_eq_true _ (Classical.propDecidable _) h
  exact fun i hi => (this i hi).1
theorem sd_ok {L : List ByteArray} (h : sdB L = true) : L.length ≤ 16 ∧ ∀ i, i < L.length → gd (st L i) = true := by
  unfold sdB at h
  simp only [Bool.and_eq_true, decide_eq_true_eq] at h
  exact ⟨h.1, asc_gd h.2⟩
theorem if_len {p : Prop} [Decidable p] {a b : List Ms × Bool} (ha : a.1.length ≤ 2) (hb : b.1.length ≤ 2) : (if p then a else b).1.length ≤ 2 := by
  by_cases h : p
  · rw [if_pos h]; exact ha
  · rw [if_neg h]; exact hb
theorem lf_len (lg : ByteArray) (r : Int) (L R : List ByteArray) (m : ByteArray) : (lfF lg r L R m).1.length ≤ 2 :=
  if_len (by simp) (if_len (by simp) (if_len (by simp) (if_len (by simp) (if_len (by simp) (by simp)))))
theorem rg_len (lg : ByteArray) (r : Int) (L R : List ByteArray) (m : ByteArray) : (rgF lg r L R m).1.length ≤ 2 :=
  if_len (by simp) (if_len (by simp) (if_len (by simp) (if_len (by simp) (if_len (by simp) (by simp)))))
theorem pmF_len (lg : ByteArray) (r : Int) (L R : List ByteArray) (m : ByteArray) : (pmF lg r L R m).1.length ≤ 2 :=
  if_len (by simp) (if_len (by simp) (if_len (by simp) (if_len (by simp) (if_len (lf_len lg r L R m) (if_len (rg_len lg r L R m) (by simp))))))
theorem rp_1 {lg m : ByteArray} {L R : List ByteArray} {r : Int} (h : sqLg lg = false) : rpF lg r L R m = ([], 2) := by unfold rpF; rw [h]; rfl
theorem rp_2 {lg m : ByteArray} {L R : List ByteArray} {r : Int} (h : sqLg lg = true) (h2 : (sdB L && sdB R) = false) : rpF lg r L R m = ([], 1) := by unfold rpF; rw [h, h2]; rfl
theorem rp_3 {lg m : ByteArray} {L R : List ByteArray} {r : Int} (h : sqLg lg = true) (h2 : (sdB L && sdB R) = true) (h3 : (pmF lg r L R m).2 = false) : rpF lg r L R m = ([], 4) := by unfold rpF; rw [h, h2, h3]; rfl
theorem rp_4 {lg m : ByteArray} {L R : List ByteArray} {r : Int} (h : sqLg lg = true) (h2 : (sdB L && sdB R) = true) (h3 : (pmF lg r L R m).2 = true) (h4 : (pmF lg r L R m).1.any bigM = true) : rpF lg r L R m = ([], 3) := by unfold rpF; rw [h, h2, h3, h4]; rfl
theorem rp_5 {lg m : ByteArray} {L R : List ByteArray} {r : Int} (h : sqLg lg = true) (h2 : (sdB L && sdB R) = true) (h3 : (pmF lg r L R m).2 = true) (h4 : (pmF lg r L R m).1.any bigM = false) : rpF lg r L R m = ((pmF lg r L R m).1, 0) := by unfold rpF; rw [h, h2, h3, h4]; rfl
theorem big_no {xs : List Ms} (h : xs.any bigM = false) : ∀ x ∈ xs, x.1.length ≤ 16 ∧ x.2.length ≤ 16 := by
  intro x hx
  rw [List.any_eq_false] at h
  have := h x hx
  unfold bigM at this
  simpa using this
/-- The program's result: own rows. -/
def GivesRm (w : World) (r : List Ms × Int) (e : Ending) (w' : World) : Prop := ∃ u us, e = .returned (.tuple #[u, .int .i64 r.2]) ∧ OwnMp w' w.heap.size u r.1 us ∧ Grew w w'

set_option maxHeartbeats 4000000 in
theorem implRp_c (lg m : ByteArray) (r : Int) (va vb : Value) (L R : List ByteArray) (w : World) (ha : Strs w va L) (hb : Strs w vb R) (hFL : Fits L) (hFR : Fits R) (hnL : L.length ≤ 1048576) (hnR : R.length ≤ 1048576) (hmz : m.size ≤ 1048576) :
    Calls Tryz.prog 7 #[.string lg, .int .i64 r, .agg #[va, vb], .string m] w (GivesRm w (rpF lg r L R m)) := by
  have KL := Lib.hid (fun W => isLogic_c lg W)
  have KS := Lib.hid (fun W (hW : Grew w W) => show Calls Tryz.prog 19 #[.agg #[va, vb]] W (fun e w' => e = .returned (.bool (sdB L && sdB R)) ∧ Grew W w') from isModalSequent_c va vb L R W (ha.grew hW) (hb.grew hW) hFL hFR hnL hnR)
  have KP := Lib.hid (fun (h : sdB L = true ∧ sdB R = true) W (hW : Grew w W) => premisesOf_c lg m r va vb L R W (ha.grew hW) (hb.grew hW) (sd_ok h.1).2 (sd_ok h.2).2 hFL hFR (sd_ok h.1).1 (sd_ok h.2).1 hmz)
  have hpl := pmF_len lg r L R m
  obtain ⟨A1, c1, rfl⟩ := strs_slice ha
  obtain ⟨A2, c2, rfl⟩ := strs_slice hb
  clear ha hb hFL hFR hnL hnR hmz
  obtain ⟨w1, hw1⟩ : ∃ w1, w1 = w.alloc (.cells #[.slice A1 L.length c1, .slice A2 R.length c2] 29) := ⟨_, rfl⟩
  have hg1 : Grew w w1 := by rw [hw1]; exact (Grew.refl w).alloc _
  have hb0 : w1.heap[w.heap.size]? = some (.cells #[.slice A1 L.length c1, .slice A2 R.length c2] 29 (0, 0)) := by rw [hw1]; exact blk_new w _
  have p0 : ∀ W, Grew w1 W → W.cell? ⟨w.heap.size, 0, none⟩ = some (.slice A1 L.length c1) := fun W hW => by rw [blk_cell ((hW.block (blk_lt hb0)).trans hb0)]; rfl
  have p1 : ∀ W, Grew w1 W → W.cell? ⟨w.heap.size, 1, none⟩ = some (.slice A2 R.length c2) := fun W hW => by rw [blk_cell ((hW.block (blk_lt hb0)).trans hb0)]; rfl
  have HG1 := Lib.hid hg1
  clear hg1 hb0
  generalize hX : rpF lg r L R m = X at *
  have HX := Lib.hid hX
  clear hX
  generalize hQ : pmF lg r L R m = Q at *
  have HQ := Lib.hid hQ
  clear hQ
  generalize L.length = n at *
  generalize R.length = n2 at *
  go_enter Tryz.func7, Tryz.ntmps7
  go_wp2_with fail
  simp only [← hw1]
  clear hw1
  refine (KL.out _).mono ?_
  rintro e w2 ⟨rfl, hg2⟩
  have a0 := p0 _ hg2
  have a1 := p1 _ hg2
  cases h1 : sqLg lg with
  | false =>
    go_wp2_with fail
    go_ret2
    have hX := HX.out
    rw [rp_1 h1] at hX
    rw [← hX]
    exact ⟨_, [], rfl, OwnMp.nil_ _ _, HG1.out.trans hg2⟩
  | true =>
  go_wp2_with fail
  refine (KS.out _ (HG1.out.trans hg2)).mono ?_
  rintro e w3 ⟨rfl, hg3⟩
  have h13 := hg2.trans hg3
  clear a0 a1 hg2 hg3
  have a0 := p0 _ h13
  have a1 := p1 _ h13
  cases h2 : (sdB L && sdB R) with
  | false =>
    go_wp2_with fail
    go_ret2
    have hX := HX.out
    rw [rp_2 h1 h2] at hX
    rw [← hX]
    exact ⟨_, [], rfl, OwnMp.nil_ _ _, HG1.out.trans h13⟩
  | true =>
  have KP := Lib.hid (KP.out (by simpa using h2) _ (HG1.out.trans h13))
  go_wp2_with fail
  refine KP.out.mono ?_
  rintro e w4 ⟨A3, n3, c3, rfl, hrd, hg4⟩
  have h14 := h13.trans hg4
  obtain ⟨xs, ok⟩ := Q
  simp only at hrd hpl
  clear a0 a1 p0 p1
  cases ok with
  | false =>
    go_wp2_with fail
    go_ret2
    have hX := HX.out
    rw [rp_3 h1 h2 (by rw [HQ.out])] at hX
    rw [← hX]
    exact ⟨_, [], rfl, OwnMp.nil_ _ _, HG1.out.trans h14⟩
  | true =>
  have HR := Lib.hid (hrd rfl)
  clear hrd
  have eg : ∀ args w, (callFunc 22 args).run Tryz.prog w = .ok (.enter 22 args) w := enters_of Tryz.func22 (by kernel_rfl) rfl
  go_wp2_with fail
  refine (containsFuncM_c _ xs _ HR.out (by omega)).mono ?_
  rintro e w5 ⟨rfl, hg5⟩
  cases h4 : xs.any bigM with
  | true =>
    go_wp2_with fail
    go_ret2
    have hX := HX.out
    rw [rp_4 h1 h2 (by rw [HQ.out]) (by rw [HQ.out]; exact h4)] at hX
    rw [← hX]
    exact ⟨_, [], rfl, OwnMp.nil_ _ _, HG1.out.trans (h14.trans hg5)⟩
  | false =>
  have KC := Lib.hid (copySequents_c _ xs w5 (HR.out.grew hg5) (by omega) (fun x hx => by have := big_no h4 x hx; omega))
  go_wp2_with fail
  refine KC.out.mono ?_
  rintro e w6 ⟨u, us, rfl, hu, hg6⟩
  go_wp2_with fail
  go_ret2
  have hX := HX.out
  rw [rp_5 h1 h2 (by rw [HQ.out]) (by rw [HQ.out]; exact h4), HQ.out] at hX
  rw [← hX]
  have h15 := HG1.out.trans (h14.trans hg5)
  exact ⟨_, us, rfl, ⟨own_base hu.row h15.size, fun j v hj => own_base (hu.inn j v hj) h15.size, hu.ap⟩, h15.trans hg6⟩
end Go.Proofs.YtjcehejnolbkgaaGreat

/- The laws' text of a mark: one text for each number. -/
namespace Go.Proofs.YtjcehejnolbkgaaGreat
open Go.RowKit

theorem conv_one (Y : Int) (w : World) (t : TypeId) : (convert 75 9 (.slice (some ⟨w.heap.size, 0, none⟩) 1 1)).run Tryz.prog (w.alloc (.cells #[.int .u8 Y] t)) = .ok (.string (strOfNums [Y])) (w.alloc (.cells #[.int .u8 Y] t)) :=
  run_convert_bytes_arg (P := Tryz.prog) (w := w.alloc (.cells #[.int .u8 Y] t)) 75 5 Tryz.underlying75 Tryz.underlying5 w.heap.size 0 1 1 [Y] rfl (fun i hi => by
    obtain rfl : i = 0 := by omega
    simp) 9 Tryz.underlying9

/-- The digits of m ahead of z. -/
def digs : Nat → Nat → ByteArray → ByteArray
  | 0, _, z => z
  | f + 1, m, z => if m = 0 then z else digs f (m / 10) (strOfNums [((48 + m % 10 : Nat) : Int)] ++ z)
theorem digs_zero (f : Nat) (z : ByteArray) : digs f 0 z = z := by cases f <;> simp [digs]
theorem digs_step {f m : Nat} (h : 0 < m) (z : ByteArray) : digs (f + 1) m z = digs f (m / 10) (strOfNums [((48 + m % 10 : Nat) : Int)] ++ z) := by rw [digs, if_neg (by omega)]
/-- The text of a mark. -/
def mtx (k : Int) : ByteArray := if k ≤ 0 then ⟨#[109, 48]⟩ else ⟨#[109]⟩ ++ digs k.toNat k.toNat ⟨#[]⟩

theorem markTextD_c (k : Int) (w : World) (h0 : 0 ≤ k) (h1 : k ≤ 4611686018427387904) :
    Calls Tryz.prog 45 #[.int .i64 k] w fun e w' => e = .returned (.string (mtx k)) ∧ Grew w w' := by
  unfold mtx
  by_cases hk : k ≤ 0
  · rw [if_pos hk]
    go_enter Tryz.func45, Tryz.ntmps45
    go_wp2_with fail
    go_ret
    exact ⟨rfl, Grew.refl _⟩
  · rw [if_neg hk]
    obtain ⟨M, hM⟩ : ∃ M, M = (⟨#[109]⟩ : ByteArray) ++ digs k.toNat k.toNat ⟨#[]⟩ := ⟨_, rfl⟩
    rw [← hM]
    obtain ⟨n, rfl⟩ : ∃ n : Nat, k = (n : Int) := ⟨k.toNat, by omega⟩
    rw [Int.toNat_natCast] at hM
    have HM := Lib.hid hM
    have HST := Lib.hid (fun f m (h : 0 < m) z => @digs_step f m h z)
    have HZ := Lib.hid (fun f z => digs_zero f z)
    clear hM
    go_enter Tryz.func45, Tryz.ntmps45
    go_wp2_with fail
    go_loopw [0, 3] (fun kk s wr => ∃ (m f : Nat) (z : ByteArray), m ≤ f ∧ (z.size : Int) + m ≤ 4611686018427387904 ∧ kk = .int .i64 m ∧ s = .string z ∧ Grew w wr ∧ Hid (M = (⟨#[109]⟩ : ByteArray) ++ digs f m z)) (fun kk _ _ => (intOf kk).toNat)
    case atStart => exact ⟨n, n, ⟨#[]⟩, Nat.le_refl _, by show ((0 : Nat) : Int) + n ≤ _; omega, rfl, rfl, Grew.refl _, HM.out⟩
    case round =>
      obtain ⟨m, f, z, hm0, hm1, rfl, rfl, hB, HJ⟩ := hrel
      by_cases hp : 0 < m
      · obtain ⟨g, rfl⟩ : ∃ g, f = g + 1 := ⟨f - 1, by omega⟩
        have hcv := conv_one
        have hs1 : ∀ Y, (strOfNums [Y]).size = 1 := fun Y => by rw [strOfNums_size]; rfl
        have hne : ∀ o, Grew w (wr.alloc o) := fun o => hB.alloc o
        have hv : Hid (M = (⟨#[109]⟩ : ByteArray) ++ digs g (m / 10) (strOfNums [((48 + m % 10 : Nat) : Int)] ++ z)) := Lib.hid (by rw [HJ.out, HST.out g m hp])
        clear HM HJ
        go_wp2_with fail
        go_roundw
        case rel => exact ⟨m / 10, g, _, by omega, by rw [ByteArray.size_append, hs1]; omega, by go_num, rfl, hne _, hv.out⟩
        case measure => simp [intOf]; omega
      · obtain rfl : m = 0 := by omega
        have hv : Hid (M = (⟨#[109]⟩ : ByteArray) ++ z) := Lib.hid (by rw [HJ.out, HZ.out])
        go_wp2_with fail
        go_ret
        exact ⟨by rw [hv.out]; rfl, hB⟩
end Go.Proofs.YtjcehejnolbkgaaGreat

/- The laws' marks on lists of strings. -/
namespace Go.Proofs.YtjcehejnolbkgaaGreat
open Go.RowKit

theorem markText_c (k : Int) (w : World) (h0 : 0 ≤ k) (h1 : k ≤ 4611686018427387904) :
    Calls Tryz.prog 45 #[.int .i64 k] w fun e w' => ∃ s, e = .returned (.string s) ∧ Grew w w' :=
  (markTextD_c k w h0 h1).mono fun _ _ ⟨h, hg⟩ => ⟨_, h, hg⟩
/-- markStringS writes into a row of the call's own. -/
theorem markStringS_c (v : Value) (L : List ByteArray) (B : Nat) (k : Int) (w : World) (h : OwnS w B v L) (hk0 : 0 ≤ k) (hk : k ≤ 1099511627776) (hn : L.length ≤ 1048576) :
    Calls Tryz.prog 26 #[v, .int .i64 k] w fun e w' => e = .returned (.int .i64 (k + L.length)) ∧ (∀ g, v.ownBlock = some g → Only g w w') ∧ (v.ownBlock = none → Grew w w') := by
  rcases h.2 with ⟨rfl, h0⟩ | ⟨g, c, cur0, rfl, hB, hh0, hnc, hcm, hcs0, _⟩
  · have hL : L.length = 0 := by simpa using h0
    rw [hL]
    clear h h0
    go_enter Tryz.func26, Tryz.ntmps26
    go_wp2_with fail
    refine wp_loop_rounds 1 ?_; rw [rounds_succ]
    go_wp2_with fail
    go_ret
    exact ⟨by simp, fun _ _ => Only.refl _ _, fun _ => Grew.refl _⟩
  · clear h
    generalize hN : L.length = n at *
    clear hN
    go_enter Tryz.func26, Tryz.ntmps26
    go_wp2_with fail
    go_loopw [1, 5] (fun kk i wr => ∃ (j : Nat) (cur : Array Value), j ≤ n ∧ i = .int .i64 j ∧ kk = .int .i64 (k + (j : Int)) ∧ wr.heap[g]? = some (.cells cur 9 (0, 0)) ∧ cur.size = c * 1 ∧ Only g w wr) (fun _ i _ => n - (intOf i).toNat)
    case atStart => exact ⟨0, cur0, Nat.zero_le _, rfl, by simp, hh0, hcs0, Only.refl _ _⟩
    case round =>
      obtain ⟨j, cur, hj, rfl, rfl, hh, hcs, ho⟩ := hrel
      by_cases hlt : j < n
      · have HH := Lib.hid hh
        clear hh
        go_wp2_with fail
        refine (markText_c _ _ (by omega) (by omega)).mono ?_
        rintro e w1 ⟨s, rfl, hg1⟩
        have hh1 := (hg1.block (blk_lt HH.out)).trans HH.out
        have f1 : w1.frozen? ⟨g, j, none⟩ = false := blk_frozen hh1 j
        obtain ⟨u1, hu1⟩ : ∃ u, w1.cell? ⟨g, j, none⟩ = some u := by
          rw [blk_cell hh1]
          exact ⟨_, Array.getElem?_eq_getElem (by omega)⟩
        have HH1 := Lib.hid hh1
        clear hh1
        go_wp2_with fail
        go_roundw
        case rel => exact ⟨j + 1, _, by omega, by go_num, by go_num, blk_set HH1.out _ _, by simp [hcs], (ho.grew hg1).setCell _⟩
        case measure => simp [intOf]; omega
      · obtain rfl : j = n := by omega
        have HH := Lib.hid hh
        clear hh
        go_wp2_with fail
        go_ret
        exact ⟨rfl, fun g' hg' => by simp [Value.ownBlock] at hg'; subst hg'; exact ho, fun hg' => by simp [Value.ownBlock] at hg'⟩
end Go.Proofs.YtjcehejnolbkgaaGreat

/- The laws' marks on lists of strings, in the form that the laws' walks use. -/
namespace Go.Proofs.YtjcehejnolbkgaaGreat
open Go.RowKit

theorem markStringS_w (v : Value) (L : List ByteArray) (B : Nat) (k : Int) (w : World) (h : OwnS w B v L) (hk0 : 0 ≤ k) (hk : k ≤ 1099511627776) (hn : L.length ≤ 1048576) :
    Calls Tryz.prog 26 #[v, .int .i64 k] w fun e w' => e = .returned (.int .i64 (k + L.length)) ∧ w.grownBy w' v.ownBlock :=
  (markStringS_c v L B k w h hk0 hk hn).mono fun _ _ ⟨h1, h2, h3⟩ => ⟨h1, row_of h2 h3⟩
end Go.Proofs.YtjcehejnolbkgaaGreat

/- The laws' marks on a list of strings that is read again: what markStringS leaves. -/
namespace Go.Proofs.YtjcehejnolbkgaaGreat
open Go.RowKit

def smarks (k : Int) (n : Nat) : List ByteArray := (List.range n).map fun i : Nat => mtx (k + (i : Int))
theorem smarks_length (k : Int) (n : Nat) : (smarks k n).length = n := by simp [smarks]
theorem smarks_st {k : Int} {n i : Nat} (h : i < n) : st (smarks k n) i = mtx (k + (i : Int)) := by simp [smarks, st, List.getD, h]

theorem markStringS_m (v : Value) (xs : List ByteArray) (B : Nat) (k : Int) (w : World) (h : OwnS w B v xs) (hk0 : 0 ≤ k) (hk : k ≤ 2305843009213693952) (hn : xs.length ≤ 1048576) :
    Calls Tryz.prog 26 #[v, .int .i64 k] w fun e w' => e = .returned (.int .i64 (k + xs.length)) ∧ OwnS w' B v (smarks k xs.length) ∧ w.grownBy w' v.ownBlock := by
  rcases h.2 with ⟨rfl, h0⟩ | ⟨g, c, cur0, rfl, hB, hh0, hnc, hcm, hcs0, _⟩
  · have hL : xs.length = 0 := by simpa using h0
    rw [hL]
    clear h h0
    go_enter Tryz.func26, Tryz.ntmps26
    go_wp2_with fail
    refine wp_loop_rounds 1 ?_; rw [rounds_succ]
    go_wp2_with fail
    go_ret
    exact ⟨by simp, by simpa [smarks] using OwnS.nil_ _ _, World.grownBy.refl _ _⟩
  · have hend : ∀ cur w', w'.heap[g]? = some (.cells cur 9 (0, 0)) → cur.size = c * 1 → (∀ i, i < xs.length → cur[i]? = some (.string (mtx (k + (i : Int))))) → OwnS w' B (.slice (some ⟨g, 0, none⟩) xs.length c) (smarks k xs.length) := by
      intro cur w' h1 h2 h3
      have := OwnS.mk_ (w := w') (B := B) (L := smarks k xs.length) (g := g) (c := c) (cur := cur) hB h1 (by rw [smarks_length]; exact hnc) hcm (by omega) (fun i hi => by
        rw [smarks_length] at hi
        rw [smarks_st hi]
        exact h3 i hi)
      rw [smarks_length] at this
      exact this
    generalize hN : xs.length = n at *
    clear hN h
    have HE := Lib.hid hend
    clear hend
    go_enter Tryz.func26, Tryz.ntmps26
    go_wp2_with fail
    go_loopw [1, 5] (fun kk i wr => ∃ (j : Nat) (cur : Array Value), j ≤ n ∧ i = .int .i64 j ∧ kk = .int .i64 (k + (j : Int)) ∧ wr.heap[g]? = some (.cells cur 9 (0, 0)) ∧ cur.size = c * 1 ∧ Only g w wr ∧ Hid (∀ i, i < j → cur[i]? = some (.string (mtx (k + (i : Int)))))) (fun _ i _ => n - (intOf i).toNat)
    case atStart => exact ⟨0, cur0, Nat.zero_le _, rfl, by simp, hh0, hcs0, Only.refl _ _, fun i hi => absurd hi (by omega)⟩
    case round =>
      obtain ⟨j, cur, hj, rfl, rfl, hh, hcs, ho, HC⟩ := hrel
      by_cases hlt : j < n
      · have HS := Lib.hid (one_step (F := fun i => .string (mtx (k + (i : Int)))) (j := j) (by omega) HC.out)
        have HH := Lib.hid hh
        clear hh
        go_wp2_with fail
        refine (markTextD_c (k + (j : Int)) _ (by omega) (by omega)).mono ?_
        rintro e w1 ⟨rfl, hg1⟩
        have hh1 := (hg1.block (blk_lt HH.out)).trans HH.out
        have f1 : w1.frozen? ⟨g, j, none⟩ = false := blk_frozen hh1 j
        obtain ⟨u1, hu1⟩ : ∃ u, w1.cell? ⟨g, j, none⟩ = some u := by
          rw [blk_cell hh1]
          exact ⟨_, Array.getElem?_eq_getElem (by omega)⟩
        have HH1 := Lib.hid hh1
        clear hh1
        go_wp2_with fail
        go_roundw
        case rel => exact ⟨j + 1, _, by omega, by go_num, by go_num, blk_set HH1.out _ _, by simp [hcs], (ho.grew hg1).setCell _, HS.out⟩
        case measure => simp [intOf]; omega
      · obtain rfl : j = n := by omega
        have HH := Lib.hid hh
        clear hh
        go_wp2_with fail
        go_ret
        exact ⟨rfl, HE.out _ _ HH.out hcs HC.out, ho⟩

end Go.Proofs.YtjcehejnolbkgaaGreat

/- The laws' marks on a list of strings that is read again: heldStringS. -/
namespace Go.Proofs.YtjcehejnolbkgaaGreat
open Go.RowKit

/-- heldStringS finds the marks that stand there. -/
theorem heldStringS_c (v : Value) (n : Nat) (k : Int) (w : World) (h : Strs w v (smarks k n)) (hk0 : 0 ≤ k) (hk : k ≤ 2305843009213693952) (hn : n ≤ 1048576) :
    Calls Tryz.prog 27 #[v, .int .i64 k] w fun e w' => e = .returned (.int .i64 (k + n)) ∧ Grew w w' := by
  have hl := smarks_length k n
  rcases h.open_ with ⟨rfl, h0⟩ | ⟨b, o, c, rfl, hc, hm, hb, hf⟩
  · obtain rfl : n = 0 := by rw [h0] at hl; simpa using hl.symm
    go_enter Tryz.func27, Tryz.ntmps27
    go_wp2_with fail
    refine wp_loop_rounds 1 ?_; rw [rounds_succ]
    go_wp2_with fail
    go_ret
    exact ⟨by simp, Grew.refl _⟩
  · rw [hl] at hc hf ⊢
    clear hl h
    have HF : Hid (∀ i, i < n → ∀ W, Grew w W → W.cell? ⟨b, o + i, none⟩ = some (.string (mtx (k + (i : Int))))) := Lib.hid fun i hi W hW => by
      have := hf i hi W hW
      rwa [smarks_st hi] at this
    clear hf
    go_enter Tryz.func27, Tryz.ntmps27
    go_wp2_with fail
    go_loopw [1, 5] (fun kk i wr => ∃ (j : Nat), j ≤ n ∧ i = .int .i64 j ∧ kk = .int .i64 (k + (j : Int)) ∧ Grew w wr) (fun _ i _ => n - (intOf i).toNat)
    case atStart => exact ⟨0, Nat.zero_le _, rfl, by simp, Grew.refl _⟩
    case round =>
      obtain ⟨j, hj, rfl, rfl, hB⟩ := hrel
      by_cases hlt : j < n
      · have k1 : ∀ W, Grew w W → W.cell? ⟨b, o + j, none⟩ = some (.string (mtx (k + (j : Int)))) := fun W hW => HF.out j hlt W hW
        have HMT := Lib.hid (fun W => markTextD_c (k + (j : Int)) W (by omega) (by omega))
        generalize mtx (k + (j : Int)) = z at *
        have hz : (z.toList != z.toList) = false := by simp
        have hrr := hB
        have hdr := hB.drew
        go_wp2_with fail
        go_region_held3 (fun w' => Grew w w') (with_reducible assumption)
          (first | (go_at_call 45; refine (HMT.out _).mono ?_; rintro e w1 ⟨rfl, hg1⟩; have hk1 : Grew w w1 := hdr.trans hg1))
        go_wp2_with fail
        go_roundw
        case rel => exact ⟨j + 1, by omega, by go_num, by go_num, hk1⟩
        case measure => simp [intOf]; omega
      · obtain rfl : j = n := by omega
        go_wp2_with fail
        go_ret
        exact ⟨rfl, by assumption⟩
end Go.Proofs.YtjcehejnolbkgaaGreat

/- The laws' marks on a sequent of texts. -/
namespace Go.Proofs.YtjcehejnolbkgaaGreat
open Go.RowKit

theorem markModal_c (a b : Value) (L1 L2 : List ByteArray) (B : Nat) (w : World) (h1 : OwnS w B a L1) (h2 : OwnS w B b L2) (hn1 : L1.length ≤ 1048576) (hn2 : L2.length ≤ 1048576) (hab : ∀ g, a.ownBlock = some g → b.ownBlock ≠ some g) :
    Calls Tryz.prog 10 #[.agg #[a, b], .int .i64 1] w fun e w' => e = .returned (.int .i64 (1 + L1.length + L2.length)) ∧ w.heap.size ≤ w'.heap.size ∧
      (∀ B' e k n v xs, w.ownsRow B' e k v n xs → e ≠ 9 → w'.ownsRow B' e k v n xs) ∧ (∀ W, W.heap.size ≤ B → Grew W w → Grew W w') := by
  have H1 := Lib.hid (fun W (hW : Grew w W) => own_grew h1 hW)
  have H2 := Lib.hid h2
  have HB1 := Lib.hid (fun g (hg : a.ownBlock = some g) => own_of_ge h1 hg)
  have HB2 := Lib.hid (fun g (hg : b.ownBlock = some g) => own_of_ge h2 hg)
  have HG : Hid (∀ B' e k n v xs, w.ownsRow B' e k v n xs → e ≠ 9 → (∀ g, a.ownBlock = some g → v.ownBlock ≠ some g) ∧ (∀ g, b.ownBlock = some g → v.ownBlock ≠ some g)) := Lib.hid (fun B' e k n v xs hv hne => by
    refine ⟨fun g hg => ?_, fun g hg => ?_⟩
    · rcases h1.2 with ⟨rfl, _⟩ | ⟨g', cap, cur, rfl, _, hh, _⟩
      · simp [Value.ownBlock] at hg
      · have : g' = g := by simpa [Value.ownBlock] using hg
        subst this
        exact own_ne hv hh hne
    · rcases h2.2 with ⟨rfl, _⟩ | ⟨g', cap, cur, rfl, _, hh, _⟩
      · simp [Value.ownBlock] at hg
      · have : g' = g := by simpa [Value.ownBlock] using hg
        subst this
        exact own_ne hv hh hne)
  have HN := Lib.hid hab
  have HL1 := Lib.hid (fun g (hg : a.ownBlock = some g) => (h1.lt g hg).2)
  clear h1 h2 hab
  go_enter Tryz.func10, Tryz.ntmps10
  go_wp2_with fail
  refine (markStringS_c a L1 B 1 _ (H1.out _ ((Grew.refl w).alloc _)) (by omega) (by omega) hn1).mono ?_
  rintro e w1 ⟨rfl, ho1, hn1'⟩
  have hr1 := row_of ho1 hn1'
  have hb1 := hr1.block w.heap.size (by simp) (fun h => by have := HL1.out _ h.symm; omega)
  have c1 : w1.cell? ⟨w.heap.size, 1, none⟩ = some b := by
    rw [blk_cell (hb1.trans (blk_new w _))]
    rfl
  have hr1' : w.grownBy w1 a.ownBlock := (((Grew.refl w).alloc _).by_ _).trans hr1
  have H2' := Lib.hid (own_row H2.out hr1' HN.out)
  have HR1 := Lib.hid hr1'
  clear ho1 hn1' hr1 hb1 hr1'
  go_wp2_with fail
  refine (markStringS_c b L2 B (1 + L1.length) _ H2'.out (by omega) (by omega) hn2).mono ?_
  rintro e w2 ⟨rfl, ho2, hn2'⟩
  have HR2 := Lib.hid (row_of ho2 hn2')
  clear ho2 hn2'
  go_wp2_with fail
  go_ret
  refine ⟨rfl, Nat.le_trans HR1.out.size HR2.out.size, fun B' e k n v xs hv hne => ?_, fun W hW hg => ?_⟩
  · obtain ⟨n1, n2⟩ := HG.out B' e k n v xs hv hne
    exact own_row (own_row hv HR1.out n1) HR2.out n2
  · exact grew_row (grew_row hg HR1.out fun g h => Nat.le_trans hW (HB1.out g h)) HR2.out fun g h => Nat.le_trans hW (HB2.out g h)
end Go.Proofs.YtjcehejnolbkgaaGreat

/- The laws' helpers over lists of sequents: equal, marks, held. -/
namespace Go.Proofs.YtjcehejnolbkgaaGreat
open Go.RowKit

theorem mrow_zero {xs : List Ms} {j : Nat} (h : xs.length * 2 ≤ j) : mrow xs j = [] := by
  unfold mrow
  have : xs.getD (j / 2) ([], []) = ([], []) := by
    simp only [List.getD]
    rw [List.getElem?_eq_none (by omega)]; rfl
  rw [this]; split <;> rfl
theorem take_at {cur : Array Value} {m j : Nat} {us : List Value} {u : Value} (h : cur.toList.take m = us) (hu : us[j]? = some u) : cur[j]? = some u := by
  rw [← h, List.getElem?_take] at hu
  split at hu
  · simpa using hu
  · cases hu
/-- The cells of a row of sequents. -/
theorem OwnMp.rdM {w : World} {B : Nat} {v : Value} {xs : List Ms} {us : List Value} (h : OwnMp w B v xs us) : RdM w v xs := by
  have hlen := h.len
  rcases h.row.2 with ⟨h1, h2⟩ | ⟨g, c, cur, h1, hB, hh, hc, hcm, hcs, hcur⟩
  · exact .inl ⟨h1, List.eq_nil_of_length_eq_zero (by omega)⟩
  · refine .inr ⟨g, 0, c, h1, hc, hcm, blk_lt hh, fun i x hx => ?_⟩
    have hi := (List.getElem?_eq_some_iff.1 hx).1
    obtain ⟨u1, hu1⟩ : ∃ u, us[i * 2]? = some u := ⟨_, List.getElem?_eq_getElem (by omega)⟩
    obtain ⟨u2, hu2⟩ : ∃ u, us[i * 2 + 1]? = some u := ⟨_, List.getElem?_eq_getElem (by omega)⟩
    have m1 := (h.inn _ _ hu1).strs
    have m2 := (h.inn _ _ hu2).strs
    rw [mrow_l hx] at m1
    rw [mrow_r hx] at m2
    obtain ⟨A1, c1, rfl⟩ := strs_slice m1
    obtain ⟨A2, c2, rfl⟩ := strs_slice m2
    refine ⟨A1, _, c1, A2, _, c2, ⟨?_, ?_⟩, m1, m2⟩
    · rw [Nat.zero_add, blk_cell hh]; exact take_at hcur hu1
    · rw [Nat.zero_add, blk_cell hh]; exact take_at hcur hu2

set_option maxHeartbeats 1000000 in
theorem eqModalSequentS_yes (v1 v2 : Value) (xs : List Ms) (w : World) (h1 : RdM w v1 xs) (h2 : RdM w v2 xs) (hn : xs.length ≤ 1048576) (hf : ∀ x ∈ xs, x.1.length ≤ 1048576 ∧ x.2.length ≤ 1048576) :
    Calls Tryz.prog 8 #[v1, v2] w fun e w' => e = .returned (.bool true) ∧ Grew w w' := by
  obtain ⟨A, c, rfl, hc1⟩ := h1.open_
  obtain ⟨B, d, rfl, hc2⟩ := h2.open_
  clear h1 h2
  have H1 := Lib.hid hc1
  have H2 := Lib.hid hc2
  have HX := Lib.hid (fun j (hj : j < xs.length) => (⟨xs[j], List.getElem?_eq_getElem hj, hf _ (List.getElem_mem hj)⟩ : ∃ x, xs[j]? = some x ∧ x.1.length ≤ 1048576 ∧ x.2.length ≤ 1048576))
  clear hc1 hc2 hf
  generalize hN : xs.length = n at *
  clear hN
  go_enter Tryz.func8, Tryz.ntmps8
  go_wp2_with fail
  go_loopw [5] (fun i wr => ∃ j : Nat, j ≤ n ∧ i = .int .i64 j ∧ Grew w wr) (fun i _ => n - (intOf i).toNat)
  case atStart => exact ⟨0, Nat.zero_le _, rfl, Grew.refl _⟩
  case round =>
    obtain ⟨j, hj, rfl, hB⟩ := hrel
    by_cases hlt : j < n
    · obtain ⟨x, hx, hfx⟩ := HX.out j hlt
      obtain ⟨b1, o1, rfl, hcl1⟩ := H1.out (by omega)
      obtain ⟨b2, o2, rfl, hcl2⟩ := H2.out (by omega)
      obtain ⟨A1, c1, A2, c2, q1, q2, q3⟩ := hcl1 j x hx
      obtain ⟨B1, d1, B2, d2, r1, r2, r3⟩ := hcl2 j x hx
      have KE := Lib.hid (fun W (hW : Grew w W) => eqModalSequent_yes _ _ _ _ x.1 x.2 W (q2.grew hW) (q3.grew hW) (r2.grew hW) (r3.grew hW) hfx.1 hfx.2)
      have s0 := fun W (hW : Grew w W) => (q1 W hW).1
      have s1 := fun W (hW : Grew w W) => (q1 W hW).2
      have t0 := fun W (hW : Grew w W) => (r1 W hW).1
      have t1 := fun W (hW : Grew w W) => (r1 W hW).2
      have hd := hB.drew
      clear hx q1 q2 q3 r1 r2 r3 hfx hcl1 hcl2
      generalize x.1.length = n1 at *
      generalize x.2.length = n2 at *
      go_wp2_with fail
      go_region_held3 (fun w' => Grew w w') (with_reducible assumption)
        (first | (go_at_call 9; refine (KE.out _ hd).mono ?_; rintro e w1 ⟨rfl, hg1⟩; have hk1 := hd.trans hg1))
      go_wp2_with fail
      go_roundw
      case rel => exact ⟨j + 1, by omega, by go_num, hk1⟩
      case measure => simp [intOf]; omega
    · obtain rfl : j = n := by omega
      go_wp2_with fail
      go_ret
      exact ⟨rfl, hB⟩

/-- How many marks stand ahead of row t. -/
def hpos (R : Nat → List ByteArray) : Nat → Nat
  | 0 => 0
  | t + 1 => hpos R t + (R t).length
/-- The rows, the first s of them marked. -/
def hrow (k : Int) (R : Nat → List ByteArray) (s t : Nat) : List ByteArray := if t < s then smarks (k + (hpos R t : Nat)) (R t).length else R t
theorem hrow_new (k : Int) (R : Nat → List ByteArray) (s : Nat) : hrow k R s s = R s := by unfold hrow; rw [if_neg (Nat.lt_irrefl s)]
theorem hrow_old (k : Int) (R : Nat → List ByteArray) (s : Nat) : hrow k R (s + 1) s = smarks (k + (hpos R s : Nat)) (R s).length := by unfold hrow; rw [if_pos (Nat.lt_succ_self s)]
theorem hrow_ne (k : Int) (R : Nat → List ByteArray) (s t : Nat) (h : t ≠ s) : hrow k R (s + 1) t = hrow k R s t := by
  unfold hrow
  by_cases h1 : t < s
  · rw [if_pos h1, if_pos (by omega)]
  · rw [if_neg h1, if_neg (by omega)]
theorem hpos_le {R : Nat → List ByteArray} {m : Nat} (hR : ∀ t, (R t).length ≤ m) : ∀ t, hpos R t ≤ t * m
  | 0 => Nat.zero_le _
  | t + 1 => by have := hpos_le hR t; have := hR t; unfold hpos; rw [Nat.succ_mul]; omega
/-- A row of rows: what its inner rows hold is given by S. -/
structure OwnRr (w : World) (B : Nat) (v : Value) (n : Nat) (us : List Value) (S : Nat → List ByteArray) : Prop where
  row : w.ownsRow B 29 2 v n us
  inn : ∀ j u, us[j]? = some u → OwnS w B u (S j)
  ap : us.Pairwise Apart
theorem OwnMp.rr {w : World} {B : Nat} {v : Value} {xs : List Ms} {us : List Value} (h : OwnMp w B v xs us) : OwnRr w B v xs.length us (mrow xs) := ⟨h.row, h.inn, h.ap⟩
theorem OwnRr.grew {w w' : World} {B n : Nat} {v : Value} {us : List Value} {S : Nat → List ByteArray} (h : OwnRr w B v n us S) (hg : Grew w w') : OwnRr w' B v n us S :=
  ⟨own_grew h.row hg, fun j u hu => own_grew (h.inn j u hu) hg, h.ap⟩
theorem apart_at {us : List Value} (h : us.Pairwise Apart) {i j : Nat} {a b : Value} (ha : us[i]? = some a) (hb : us[j]? = some b) (hne : i ≠ j) : Apart a b := by
  obtain ⟨hi, rfl⟩ := List.getElem?_eq_some_iff.1 ha
  obtain ⟨hj, rfl⟩ := List.getElem?_eq_some_iff.1 hb
  rcases Nat.lt_or_ge i j with hij | hij
  · exact List.pairwise_iff_getElem.1 h i j hi hj hij
  · exact (List.pairwise_iff_getElem.1 h j i hj hi (by omega)).symm
theorem OwnRr.set {w w' : World} {B n s : Nat} {v u : Value} {us : List Value} {S S' : Nat → List ByteArray} (h : OwnRr w B v n us S) (hu : us[s]? = some u) (ho : OwnS w' B u (S' s)) (hg : w.grownBy w' u.ownBlock) (hS : ∀ t, t ≠ s → S' t = S t) : OwnRr w' B v n us S' := by
  have hus := h.inn s u hu
  refine ⟨own_apart h.row hg (own_types hus h.row tS_M), fun j x hx => ?_, h.ap⟩
  by_cases hj : j = s
  · subst hj
    obtain rfl := Option.some.inj (hu.symm.trans hx)
    exact ho
  · rw [hS j hj]
    exact own_apart (h.inn j x hx) hg (apart_at h.ap hu hx (fun e => hj e.symm))
theorem OwnRr.open_ {w : World} {B n : Nat} {v : Value} {us : List Value} {S : Nat → List ByteArray} (h : OwnRr w B v n us S) : ∃ A c, v = .slice A n c ∧ (0 < n → ∃ b, A = some ⟨b, 0, none⟩ ∧ ∀ j u, us[j]? = some u → ∀ W, Grew w W → W.cell? ⟨b, j, none⟩ = some u) := by
  rcases h.row.2 with ⟨h1, h2⟩ | ⟨g, c, cur, h1, hB, hh, hc, hcm, hcs, hcur⟩
  · exact ⟨none, 0, by rw [h1, h2], fun h => absurd h (by omega)⟩
  · exact ⟨_, c, h1, fun _ => ⟨g, rfl, fun j u hu W hW => by rw [blk_cell ((hW.block (blk_lt hh)).trans hh)]; exact take_at hcur hu⟩⟩

set_option maxHeartbeats 2000000 in
theorem markModalSequentS_x (v : Value) (R : Nat → List ByteArray) (n B : Nat) (us : List Value) (w : World) (h : OwnRr w B v n us R) (hn : n ≤ 1048576) (hR : ∀ t, (R t).length ≤ 1048576) :
    Calls Tryz.prog 11 #[v, .int .i64 1] w fun e w' => e = .returned (.int .i64 (1 + (hpos R (n * 2) : Nat))) ∧ OwnRr w' B v n us (hrow 1 R (n * 2)) ∧ (∀ W, W.heap.size ≤ B → Grew W w → Grew W w') := by
  have hlen : us.length = n * 2 := h.row.1
  have hR0 : OwnRr w B v n us (hrow 1 R 0) := ⟨h.row, fun j u hu => by have := h.inn j u hu; unfold hrow; rw [if_neg (by omega)]; exact this, h.ap⟩
  have HP := Lib.hid (fun t => hpos_le hR t)
  have HR := Lib.hid hR
  obtain ⟨A, c, rfl, _⟩ := h.open_
  have H0 := Lib.hid hR0
  clear h hR hR0
  have HL := Lib.hid hlen
  clear hlen
  go_enter Tryz.func11, Tryz.ntmps11
  go_wp2_with fail
  go_loopw [1, 5] (fun kk i wr => ∃ j : Nat, j ≤ n ∧ i = .int .i64 j ∧ kk = .int .i64 (1 + (hpos R (j * 2) : Nat)) ∧ Hid (OwnRr wr B (.slice A n c) n us (hrow 1 R (j * 2))) ∧ Hid (∀ W, W.heap.size ≤ B → Grew W w → Grew W wr)) (fun _ i _ => n - (intOf i).toNat)
  case atStart => exact ⟨0, Nat.zero_le _, rfl, by simp [hpos], H0, Lib.hid (fun W _ h => h)⟩
  case round =>
    obtain ⟨j, hj, rfl, rfl, HO, HW⟩ := hrel
    by_cases hlt : j < n
    · obtain ⟨u1, hu1⟩ : ∃ u, us[j * 2]? = some u := ⟨_, List.getElem?_eq_getElem (by have := HL.out; omega)⟩
      obtain ⟨u2, hu2⟩ : ∃ u, us[j * 2 + 1]? = some u := ⟨_, List.getElem?_eq_getElem (by have := HL.out; omega)⟩
      obtain ⟨A', c', hv, hcell⟩ := HO.out.open_
      simp only [Value.slice.injEq] at hv
      obtain ⟨rfl, _, rfl⟩ := hv
      obtain ⟨b, rfl, hcl⟩ := hcell (by omega)
      clear hcell
      have k0 := hcl _ _ hu1 _ (Grew.refl wr)
      have hb1 := HP.out (j * 2)
      have hb2 := HR.out (j * 2)
      have hb3 := HR.out (j * 2 + 1)
      have o1 := HO.out.inn _ _ hu1
      rw [hrow_new] at o1
      have KA := Lib.hid (markStringS_m u1 (R (j * 2)) B (1 + (hpos R (j * 2) : Nat)) wr o1 (by omega) (by omega) (by omega))
      have HU1 := Lib.hid hu1
      have HU2 := Lib.hid hu2
      have S1 := Lib.hid (fun w1 (a : OwnS w1 B u1 (smarks (1 + (hpos R (j * 2) : Nat)) (R (j * 2)).length)) (g : wr.grownBy w1 u1.ownBlock) => HO.out.set (S' := hrow 1 R (j * 2 + 1)) hu1 (by rw [hrow_old]; exact a) g (fun t ht => hrow_ne _ _ _ _ ht))
      have hp1 : hpos R (j * 2 + 1) = hpos R (j * 2) + (R (j * 2)).length := rfl
      have hp2 : hpos R ((j + 1) * 2) = hpos R (j * 2 + 1) + (R (j * 2 + 1)).length := by rw [show (j + 1) * 2 = j * 2 + 1 + 1 by omega]; rfl
      have HP1 := Lib.hid hp1
      have HP2 := Lib.hid hp2
      have HB1 := Lib.hid (fun g (hg : u1.ownBlock = some g) => own_of_ge o1 hg)
      clear o1 hu1 hu2 hcl hp1 hp2
      generalize hpos R (j * 2) = q at *
      generalize hm1 : (R (j * 2)).length = m1 at *
      go_wp2_with fail
      refine KA.out.mono ?_
      rintro e w1 ⟨rfl, ho1, hr1⟩
      have T1 := Lib.hid (S1.out w1 ho1 hr1)
      obtain ⟨A', c', hv, hcell⟩ := T1.out.open_
      simp only [Value.slice.injEq] at hv
      obtain ⟨hA, _, rfl⟩ := hv
      obtain ⟨b', hb', hcl⟩ := hcell (by omega)
      clear hcell
      obtain rfl : b = b' := by rw [← hA] at hb'; simpa using hb'
      have k1 := hcl _ _ HU2.out _ (Grew.refl w1)
      have o2 := T1.out.inn _ _ HU2.out
      rw [hrow_new] at o2
      have hq : (1 + (q : Int) + (m1 : Int)) = 1 + ((hpos R (j * 2 + 1) : Nat) : Int) := by have := HP1.out; omega
      have KB := Lib.hid (markStringS_m u2 (R (j * 2 + 1)) B (1 + (hpos R (j * 2 + 1) : Nat)) w1 o2 (by omega) (by have := HP1.out; omega) (by omega))
      rw [← hq] at KB
      have S2 := Lib.hid (fun w2 (a : OwnS w2 B u2 (smarks (1 + (hpos R (j * 2 + 1) : Nat)) (R (j * 2 + 1)).length)) (g : w1.grownBy w2 u2.ownBlock) => T1.out.set (S' := hrow 1 R (j * 2 + 1 + 1)) HU2.out (by rw [hrow_old]; exact a) g (fun t ht => hrow_ne _ _ _ _ ht))
      have HB2 := Lib.hid (fun g (hg : u2.ownBlock = some g) => own_of_ge o2 hg)
      have HQ := Lib.hid hq
      have HR1 := Lib.hid hr1
      clear o2 ho1 hr1 hcl hA hb' hq k0
      generalize hm2 : (R (j * 2 + 1)).length = m2 at *
      go_wp2_with fail
      refine KB.out.mono ?_
      rintro e w2 ⟨rfl, ho2, hr2⟩
      rw [HQ.out] at ho2
      have T2 := Lib.hid (S2.out w2 ho2 hr2)
      have HR2 := Lib.hid hr2
      clear ho2 hr2 k1
      go_wp2_with fail
      go_roundw
      case rel => exact ⟨j + 1, by omega, by go_num, by have := HP1.out; have := HP2.out; congr 1; omega, by rw [show (j + 1) * 2 = j * 2 + 1 + 1 by omega]; exact T2, Lib.hid (fun W hW hg => grew_row (grew_row (HW.out W hW hg) HR1.out (fun g hgg => Nat.le_trans hW (HB1.out g hgg))) HR2.out (fun g hgg => Nat.le_trans hW (HB2.out g hgg)))⟩
      case measure => simp [intOf]; omega
    · obtain rfl : j = n := by omega
      go_wp2_with fail
      go_ret
      exact ⟨rfl, HO.out, HW.out⟩

set_option maxHeartbeats 2000000 in
theorem heldModalSequentS_x (v : Value) (R : Nat → List ByteArray) (n B : Nat) (us : List Value) (w : World) (h : OwnRr w B v n us (hrow 1 R (n * 2))) (hn : n ≤ 1048576) (hR : ∀ t, (R t).length ≤ 1048576) :
    Calls Tryz.prog 12 #[v, .int .i64 1] w fun e w' => e = .returned (.int .i64 (1 + (hpos R (n * 2) : Nat))) ∧ Grew w w' := by
  have hlen : us.length = n * 2 := h.row.1
  have HP := Lib.hid (fun t => hpos_le hR t)
  have HR := Lib.hid hR
  obtain ⟨A, c, rfl, hcell⟩ := h.open_
  have HC := Lib.hid hcell
  have HI := Lib.hid (fun j u (hu : us[j]? = some u) (hj : j < n * 2) => (by have := (h.inn j u hu).strs; unfold hrow at this; rwa [if_pos hj] at this : Strs w u (smarks (1 + (hpos R j : Nat)) (R j).length)))
  clear h hR hcell
  have HL := Lib.hid hlen
  clear hlen
  go_enter Tryz.func12, Tryz.ntmps12
  go_wp2_with fail
  go_loopw [1, 5] (fun kk i wr => ∃ j : Nat, j ≤ n ∧ i = .int .i64 j ∧ kk = .int .i64 (1 + (hpos R (j * 2) : Nat)) ∧ Grew w wr) (fun _ i _ => n - (intOf i).toNat)
  case atStart => exact ⟨0, Nat.zero_le _, rfl, by simp [hpos], Grew.refl _⟩
  case round =>
    obtain ⟨j, hj, rfl, rfl, hB⟩ := hrel
    by_cases hlt : j < n
    · obtain ⟨u1, hu1⟩ : ∃ u, us[j * 2]? = some u := ⟨_, List.getElem?_eq_getElem (by have := HL.out; omega)⟩
      obtain ⟨u2, hu2⟩ : ∃ u, us[j * 2 + 1]? = some u := ⟨_, List.getElem?_eq_getElem (by have := HL.out; omega)⟩
      obtain ⟨b, rfl, hcl⟩ := HC.out (by omega)
      have k0 := hcl _ _ hu1
      have k1 := hcl _ _ hu2
      have hb1 := HP.out (j * 2)
      have hb2 := HR.out (j * 2)
      have hb3 := HR.out (j * 2 + 1)
      have hp1 : hpos R (j * 2 + 1) = hpos R (j * 2) + (R (j * 2)).length := rfl
      have hp2 : hpos R ((j + 1) * 2) = hpos R (j * 2 + 1) + (R (j * 2 + 1)).length := by rw [show (j + 1) * 2 = j * 2 + 1 + 1 by omega]; rfl
      have KA := Lib.hid (fun W (hW : Grew w W) => heldStringS_c u1 (R (j * 2)).length (1 + (hpos R (j * 2) : Nat)) W ((HI.out _ _ hu1 (by omega)).grew hW) (by omega) (by omega) (by omega))
      have KB := Lib.hid (fun W (hW : Grew w W) => heldStringS_c u2 (R (j * 2 + 1)).length (1 + (hpos R (j * 2 + 1) : Nat)) W ((HI.out _ _ hu2 (by omega)).grew hW) (by omega) (by omega) (by omega))
      have hq : (1 + ((hpos R (j * 2) : Nat) : Int) + ((R (j * 2)).length : Int)) = 1 + ((hpos R (j * 2 + 1) : Nat) : Int) := by omega
      rw [← hq] at KB
      have HP1 := Lib.hid hp1
      have HP2 := Lib.hid hp2
      clear hu1 hu2 hcl hq hp1 hp2
      generalize hpos R (j * 2) = q at *
      generalize (R (j * 2)).length = m1 at *
      generalize (R (j * 2 + 1)).length = m2 at *
      have kk0 := k0 _ hB
      go_wp2_with fail
      refine (KA.out _ hB).mono ?_
      rintro e w1 ⟨rfl, hg1⟩
      have kk1 := k1 _ (hB.trans hg1)
      go_wp2_with fail
      refine (KB.out _ (hB.trans hg1)).mono ?_
      rintro e w2 ⟨rfl, hg2⟩
      go_wp2_with fail
      go_roundw
      case rel => exact ⟨j + 1, by omega, by go_num, by have := HP1.out; have := HP2.out; congr 1; omega, (hB.trans hg1).trans hg2⟩
      case measure => simp [intOf]; omega
    · obtain rfl : j = n := by omega
      go_wp2_with fail
      go_ret
      exact ⟨rfl, hB⟩

/-- The marks on a sequent by value: first its left row, then its right row. -/
theorem markModal_x (a b : Value) (L1 L2 : List ByteArray) (B : Nat) (w : World) (h1 : OwnS w B a L1) (h2 : OwnS w B b L2) (hn1 : L1.length ≤ 1048576) (hn2 : L2.length ≤ 1048576) (hab : Apart a b) :
    Calls Tryz.prog 10 #[.agg #[a, b], .int .i64 1] w fun e w' => e = .returned (.int .i64 (1 + L1.length + L2.length)) ∧ ∃ wm, w.grownBy wm a.ownBlock ∧ wm.grownBy w' b.ownBlock := by
  have H1 := Lib.hid (fun W (hW : Grew w W) => own_grew h1 hW)
  have H2 := Lib.hid h2
  have HN := Lib.hid hab
  have HL1 := Lib.hid (fun g (hg : a.ownBlock = some g) => (h1.lt g hg).2)
  clear h1 h2 hab
  go_enter Tryz.func10, Tryz.ntmps10
  go_wp2_with fail
  refine (markStringS_c a L1 B 1 _ (H1.out _ ((Grew.refl w).alloc _)) (by omega) (by omega) hn1).mono ?_
  rintro e w1 ⟨rfl, ho1, hn1'⟩
  have hr1 := row_of ho1 hn1'
  have hb1 := hr1.block w.heap.size (by simp) (fun h => by have := HL1.out _ h.symm; omega)
  have c1 : w1.cell? ⟨w.heap.size, 1, none⟩ = some b := by
    rw [blk_cell (hb1.trans (blk_new w _))]
    rfl
  have hr1' : w.grownBy w1 a.ownBlock := (((Grew.refl w).alloc _).by_ _).trans hr1
  have H2' := Lib.hid (own_row H2.out hr1' HN.out)
  have HR1 := Lib.hid hr1'
  clear ho1 hn1' hr1 hb1 hr1'
  go_wp2_with fail
  refine (markStringS_c b L2 B (1 + L1.length) _ H2'.out (by omega) (by omega) hn2).mono ?_
  rintro e w2 ⟨rfl, ho2, hn2'⟩
  have HR2 := Lib.hid (row_of ho2 hn2')
  clear ho2 hn2'
  go_wp2_with fail
  go_ret
  exact ⟨rfl, _, HR1.out, HR2.out⟩
/-- Rows of newer blocks stay. -/
theorem OwnRr.newer {w w' : World} {B n N : Nat} {v : Value} {us : List Value} {S : Nat → List ByteArray} {r : Option Nat} (h : OwnRr w B v n us S) (hg : w.grownBy w' r) (hr : ∀ g, r = some g → g < N) (hN : N ≤ B) : OwnRr w' B v n us S :=
  ⟨own_row h.row hg (fun g hg1 hg2 => by have := hr g hg1; have := own_of_ge h.row hg2; omega), fun j u hu => own_row (h.inn j u hu) hg (fun g hg1 hg2 => by have := hr g hg1; have := own_of_ge (h.inn j u hu) hg2; omega), h.ap⟩
end Go.Proofs.YtjcehejnolbkgaaGreat

/- l02Insert, l22With of the reference at an ascending list: what they make. -/
namespace Go.Proofs.YtjcehejnolbkgaaGreat
open Go.RowKit

def GivesA (w : World) (K : List ByteArray) (e : Ending) (w' : World) : Prop := ∃ u, e = .returned u ∧ Strs w' u K ∧ Grew w w'
set_option maxHeartbeats 2000000 in
theorem l02InsertA_c (v : Value) (L : List ByteArray) (s : ByteArray) (w : World) (h : Strs w v L) (hn : L.length ≤ 1048576) :
    Calls Tryz.prog 32 #[v, .string s] w (GivesA w (insA L s)) := by
  have h0 := Lib.hid h
  rcases h.open_ with ⟨rfl, rfl⟩ | ⟨b, o, c, rfl, hc, hm, hb, hcell⟩
  · clear h
    have he := own_emptyS' w
    go_enter Tryz.func32, Tryz.ntmps32
    go_wp2_with fail
    refine wp_loop_rounds 1 ?_; rw [rounds_succ]
    go_wp2_with (first
      | (at_builtin; have hz := hown2; refine wpList_appSs (w0 := w) _ _ rfl rfl _ _ rfl hown2 hg2 _ [] rfl (Strs.nil_ _) (by simp) ?_; intro v3 w3 hown3 hg3 _)
      | (at_builtin; have hz := hown1; refine wpList_appStr (w0 := w) _ _ rfl rfl _ _ rfl (own_grew hown1 ((Grew.refl w1).alloc _)) (hg1.alloc _) _ s rfl (rd_lit _ _ _) (by simp) ?_; intro v2 w2 hown2 hg2 _; have hs2 := strs_slice hown2.strs; obtain ⟨A2, c2, rfl⟩ := hs2)
      | (at_builtin; refine wpList_appSs (w0 := w) _ _ rfl rfl _ [] rfl he ((Grew.refl w).alloc _) _ [] rfl (Strs.nil_ _) (by simp) ?_; intro v1 w1 hown1 hg1 _; have hs1 := strs_slice hown1.strs; obtain ⟨A1, c1, rfl⟩ := hs1))
    go_ret
    exact ⟨_, rfl, by simpa [insA] using hown3.strs, hg3⟩
  have HC := Lib.hid hcell
  have HR := Lib.hid (show Rd w 1 (.slice (some ⟨b, o, none⟩) L.length c) L.length (scells L) from h)
  have HT := Lib.hid (fun i hi => rdS_take HR.out rfl i hi)
  have HD := Lib.hid (fun i hi => rdS_tail HR.out rfl i hi hc)
  obtain ⟨R, hR⟩ : ∃ R, R = insA L s := ⟨_, rfl⟩
  rw [← hR]
  have HM := Lib.hid (fun j hj (h : Ahd L s j) h1 h2 => hR.trans (insA_same hj h h1 h2))
  have HJ := Lib.hid (fun j (hj : j < L.length) (h : Ahd L s j) h1 h2 => (insA_mid hj h h1 h2).trans hR.symm)
  have HE := Lib.hid (fun (h : Ahd L s L.length) => (insA_end h).trans hR.symm)
  clear hR
  have HLt := Lib.hid (fun j => (by rw [List.length_take]; omega : (L.take j).length ≤ L.length))
  have HLd := Lib.hid (fun j => (by rw [List.length_drop]; omega : (L.drop j).length ≤ L.length))
  clear h hcell HR
  generalize hN : L.length = n at *
  clear hN
  go_enter Tryz.func32, Tryz.ntmps32
  go_wp2_with fail
  go_loopw [5] (fun i wr => ∃ j : Nat, j ≤ n ∧ i = .int .i64 j ∧ Grew w wr ∧ Hid (Ahd L s j)) (fun i _ => n - (intOf i).toNat)
  case atStart => exact ⟨0, Nat.zero_le _, rfl, Grew.refl _, Lib.hid (Ahd.zero L s)⟩
  case round =>
    obtain ⟨j, hj, rfl, hB, HA⟩ := hrel
    have he := own_emptyS' wr
    have hT := Lib.hid (HT.out j hj)
    have hD := Lib.hid (HD.out j hj)
    have hlt1 := HLt.out j
    have hld1 := HLd.out j
    have hb1 := hB.size
    by_cases hlt : j < n
    · have k1 := HC.out j hlt _ hB
      have hM := Lib.hid (HM.out j hlt HA.out)
      have hJ := Lib.hid (HJ.out j hlt HA.out)
      have hS := Lib.hid (fun h => HA.out.succ (j := j) h)
      have hcj : ¬ c = j := by omega
      rw [if_neg hcj] at hD
      generalize st L j = x at *
      generalize L.take j = T at *
      generalize L.drop j = U at *
      cases hl : Op.bytesLess x.toList s.toList with
      | true =>
        go_wp2_with fail
        go_roundw
        case rel => exact ⟨j + 1, by omega, by go_num, hB, Lib.hid (hS.out hl)⟩
        case measure => simp [intOf]; omega
      | false =>
        by_cases hx : x = s
        · have hv := Lib.hid (hM.out hl hx)
          subst hx
          have q1 := bytes_eq' x
          go_wp2_with fail
          go_ret
          exact ⟨_, rfl, by rw [hv.out]; exact Strs.grew h0.out hB, hB⟩
        · have q1 := bytes_ne' (fun e : s = x => hx e.symm)
          have q2 := bytes_ne' hx
          have he1 : OwnS (wr.alloc (.cells #[] 9)) w.heap.size (.slice (some ⟨wr.heap.size, 0, none⟩) 0 0) [] := World.ownsRow_lit (e := 9) (size := 1) wr #[] 0 hb1 (by omega) rfl
          go_wp2_with (first
            | (at_builtin; have hz := hown2; refine wpList_appSs (w0 := w) _ _ rfl rfl _ _ rfl hown2 hg2 _ U rfl (Strs.grew hD.out hg2) (by first | omega | (simp; omega)) ?_; intro v3 w3 hown3 hg3 _)
            | (at_builtin; have hz := hown1; refine wpList_appStr (w0 := w) _ _ rfl rfl _ _ rfl (own_grew hown1 ((Grew.refl w1).alloc _)) (hg1.alloc _) _ s rfl (rd_lit _ _ _) (by first | omega | (simp; omega)) ?_; intro v2 w2 hown2 hg2 _; have hs2 := strs_slice hown2.strs; rw [List.length_append, List.length_singleton] at hs2; obtain ⟨A2, c2, rfl⟩ := hs2)
            | (at_builtin; refine wpList_appSs (w0 := w) _ _ rfl rfl _ [] rfl he1 (hB.alloc _) _ T rfl (Strs.grew hT.out (hB.alloc _)) (by first | omega | (simp; omega)) ?_; intro v1 w1 hown1 hg1 _; rw [List.nil_append] at hown1; have hs1 := strs_slice hown1.strs; obtain ⟨A1, c1, rfl⟩ := hs1))
          go_ret
          exact ⟨_, rfl, by rw [← hJ.out hl hx]; exact hown3.strs, hg3⟩
    · obtain rfl : j = n := by omega
      have hz1 := Lib.hid (HE.out HA.out)
      generalize L.take j = T at *
      generalize L.drop j = U at *
      have he1 : OwnS (wr.alloc (.cells #[] 9)) w.heap.size (.slice (some ⟨wr.heap.size, 0, none⟩) 0 0) [] := World.ownsRow_lit (e := 9) (size := 1) wr #[] 0 hb1 (by omega) rfl
      by_cases hcj : c = j
      · subst hcj
        rw [if_pos rfl, Nat.sub_self] at hD
        go_wp2_with (first
          | (at_builtin; have hz := hown2; refine wpList_appSs (w0 := w) _ _ rfl rfl _ _ rfl hown2 hg2 _ U rfl (Strs.grew hD.out hg2) (by first | omega | (simp; omega)) ?_; intro v3 w3 hown3 hg3 _)
          | (at_builtin; have hz := hown1; refine wpList_appStr (w0 := w) _ _ rfl rfl _ _ rfl (own_grew hown1 ((Grew.refl w1).alloc _)) (hg1.alloc _) _ s rfl (rd_lit _ _ _) (by first | omega | (simp; omega)) ?_; intro v2 w2 hown2 hg2 _; have hs2 := strs_slice hown2.strs; rw [List.length_append, List.length_singleton] at hs2; obtain ⟨A2, c2, rfl⟩ := hs2)
          | (at_builtin; refine wpList_appSs (w0 := w) _ _ rfl rfl _ [] rfl he1 (hB.alloc _) _ T rfl (Strs.grew hT.out (hB.alloc _)) (by first | omega | (simp; omega)) ?_; intro v1 w1 hown1 hg1 _; rw [List.nil_append] at hown1; have hs1 := strs_slice hown1.strs; obtain ⟨A1, c1, rfl⟩ := hs1))
        go_ret
        exact ⟨_, rfl, by rw [← hz1.out]; exact hown3.strs, hg3⟩
      · rw [if_neg hcj, Nat.sub_self] at hD
        go_wp2_with (first
          | (at_builtin; have hz := hown2; refine wpList_appSs (w0 := w) _ _ rfl rfl _ _ rfl hown2 hg2 _ U rfl (Strs.grew hD.out hg2) (by first | omega | (simp; omega)) ?_; intro v3 w3 hown3 hg3 _)
          | (at_builtin; have hz := hown1; refine wpList_appStr (w0 := w) _ _ rfl rfl _ _ rfl (own_grew hown1 ((Grew.refl w1).alloc _)) (hg1.alloc _) _ s rfl (rd_lit _ _ _) (by first | omega | (simp; omega)) ?_; intro v2 w2 hown2 hg2 _; have hs2 := strs_slice hown2.strs; rw [List.length_append, List.length_singleton] at hs2; obtain ⟨A2, c2, rfl⟩ := hs2)
          | (at_builtin; refine wpList_appSs (w0 := w) _ _ rfl rfl _ [] rfl he1 (hB.alloc _) _ T rfl (Strs.grew hT.out (hB.alloc _)) (by first | omega | (simp; omega)) ?_; intro v1 w1 hown1 hg1 _; rw [List.nil_append] at hown1; have hs1 := strs_slice hown1.strs; obtain ⟨A1, c1, rfl⟩ := hs1))
        go_ret
        exact ⟨_, rfl, by rw [← hz1.out]; exact hown3.strs, hg3⟩
end Go.Proofs.YtjcehejnolbkgaaGreat

/- Sides in the reference: l11Without, l11Kind, l11Of, l11Union. -/
namespace Go.Proofs.YtjcehejnolbkgaaGreat
open Go.RowKit
open Fm (Nd Tree)

theorem dropS_yes {L : List ByteArray} {t : ByteArray} {j : Nat} (h : j < L.length) (hk : ¬ st L j = t) : dropS (L.take (j + 1)) t = dropS (L.take j) t ++ [st L j] := by
  rw [takeS_succ h]; unfold dropS; rw [List.filter_append]; simp [dc_false hk]
theorem dropS_no {L : List ByteArray} {t : ByteArray} {j : Nat} (h : j < L.length) (hk : st L j = t) : dropS (L.take (j + 1)) t = dropS (L.take j) t := by
  rw [takeS_succ h]; unfold dropS; rw [List.filter_append]; simp [dc_true hk]
theorem dropS_tl (L : List ByteArray) (t : ByteArray) (j : Nat) : (dropS (L.take j) t).length ≤ L.length := Nat.le_trans (List.length_filter_le _ _) (by rw [List.length_take]; omega)
theorem cells_of {w : World} {v : Value} {L : List ByteArray} (h : Strs w v L) : 0 < L.length → ∃ b o c, v = .slice (some ⟨b, o, none⟩) L.length c ∧ ∀ i, i < L.length → ∀ W, Grew w W → W.cell? ⟨b, o + i, none⟩ = some (.string (st L i)) := fun h0 => by
  rcases h.open_ with ⟨_, h1⟩ | ⟨b, o, c, rfl, _, _, _, hf⟩
  · rw [h1] at h0; cases h0
  · exact ⟨b, o, c, rfl, hf⟩

set_option maxHeartbeats 2000000 in
theorem l11Without_c (v : Value) (L : List ByteArray) (t : ByteArray) (w : World) (h : Strs w v L) (hn : L.length ≤ 1048576) :
    Calls Tryz.prog 53 #[v, .string t] w fun e w' => ∃ u, e = .returned u ∧ Strs w' u (dropS L t) ∧ Grew w w' := by
  have HY := Lib.hid (fun j (hj : j < L.length) hk => @dropS_yes L t j hj hk)
  have HN := Lib.hid (fun j (hj : j < L.length) hk => @dropS_no L t j hj hk)
  have HL := Lib.hid (fun j => dropS_tl L t j)
  have HE : Hid (L.take L.length = L) := Lib.hid List.take_length
  have HC := Lib.hid (cells_of h)
  have he := own_emptyL w
  have hg0 := (Grew.refl w).alloc (.cells #[] 9)
  obtain ⟨A, cA, rfl⟩ := strs_slice h
  clear h
  generalize L.length = n at *
  go_enter Tryz.func53, Tryz.ntmps53
  go_wp2_with fail
  go_loopw [5, 6] (fun q i wr => ∃ j : Nat, j ≤ n ∧ i = .int .i64 j ∧ Hid (OwnS wr w.heap.size q (dropS (L.take j) t)) ∧ Grew w wr) (fun _ i _ => n - (intOf i).toNat)
  case atStart => exact ⟨0, Nat.zero_le _, rfl, Lib.hid he, hg0⟩
  case round =>
    obtain ⟨j, hj, rfl, HO, hB⟩ := hrel
    by_cases hlt : j < n
    · obtain ⟨b, o, c, hv, hcell⟩ := HC.out (by omega)
      obtain ⟨rfl, rfl⟩ : A = some ⟨b, o, none⟩ ∧ cA = c := by simpa using hv
      have k1 := hcell j hlt _ hB
      have hy := Lib.hid (HY.out j hlt)
      have hno := Lib.hid (HN.out j hlt)
      have hl := HL.out j
      clear hv hcell
      obtain ⟨AQ, cQ, rfl⟩ := strs_slice HO.out.strs
      generalize st L j = s at *
      by_cases hs : s = t
      · subst hs
        have q1 := Lib.hid (hno.out rfl)
        have hne : (s.toList != s.toList) = false := by simp
        clear hy hno
        go_wp2_with fail
        go_roundw
        case rel => exact ⟨j + 1, by omega, by go_num, Lib.hid (by rw [q1.out]; exact HO.out), hB⟩
        case measure => simp [intOf]; omega
      · have q1 := Lib.hid (hy.out hs)
        have hne : (s.toList == t.toList) = false := bytes_ne' hs
        clear hy hno hs
        generalize dropS (L.take j) t = M at *
        go_wp2_with (first
          | (at_builtin
             refine wpList_appStr (w0 := w) _ _ rfl rfl (.slice AQ M.length cQ) M rfl (HO.out.grew ((Grew.refl wr).alloc _)) (hB.alloc _) _ s rfl (rd_lit _ _ _) (by omega) ?_
             intro v3 w3 hown3 hg3 hgr3
             obtain ⟨A3, c3, rfl⟩ := strs_slice hown3.strs
             have HFIN := Lib.hid hown3
             clear hown3 hgr3))
        go_roundw
        case rel =>
          have hF := HFIN.out
          rw [List.length_append, List.length_singleton] at hF
          exact ⟨j + 1, by omega, by go_num, Lib.hid (by rw [q1.out]; exact hF), hg3⟩
        case measure => simp [intOf]; omega
    · obtain rfl : j = n := by omega
      have S := Lib.hid HO.out.strs
      rw [HE.out] at S
      obtain ⟨AQ, cQ, rfl⟩ := strs_slice S.out
      clear HO
      go_wp2_with fail
      go_ret
      exact ⟨_, rfl, S.out, hB⟩

set_option maxHeartbeats 2000000 in
theorem l11Kind_c (v : Value) (L : List ByteArray) (k : Int) (w : World) (h : Strs w v L) (hg : ∀ i, i < L.length → gd (st L i) = true) (hF : Fits L) (hn : L.length ≤ 1048576) :
    Calls Tryz.prog 71 #[v, .int .i64 k] w fun e w' => ∃ u, e = .returned u ∧ Strs w' u (whK k L) ∧ Grew w w' := by
  have HG := Lib.hid (fun i (hi : i < L.length) => fg_ok (hg i hi))
  have HGD := Lib.hid hg
  have HF := Lib.hid hF
  have HY := Lib.hid (fun j (hj : j < L.length) hk => @whK_yes k L j hj hk)
  have HN := Lib.hid (fun j (hj : j < L.length) hk => @whK_no k L j hj hk)
  have HL := Lib.hid (fun j => @whK_tl k L j)
  have HE : Hid (L.take L.length = L) := Lib.hid List.take_length
  have HC := Lib.hid (cells_of h)
  have he := own_emptyL w
  have hg0 := (Grew.refl w).alloc (.cells #[] 9)
  obtain ⟨A, cA, rfl⟩ := strs_slice h
  unfold Fits at HF
  clear h hg hF
  generalize L.length = n at *
  go_enter Tryz.func71, Tryz.ntmps71
  go_wp2_with fail
  go_loopw [5, 6, 7, 8] (fun q i _ _ wr => ∃ j : Nat, j ≤ n ∧ i = .int .i64 j ∧ Hid (OwnS wr w.heap.size q (whK k (L.take j))) ∧ Grew w wr) (fun _ i _ _ _ => n - (intOf i).toNat)
  case atStart => exact ⟨0, Nat.zero_le _, rfl, Lib.hid he, hg0⟩
  case round =>
    obtain ⟨j, hj, rfl, HO, hB⟩ := hrel
    by_cases hlt : j < n
    · obtain ⟨b, o, c, hv, hcell⟩ := HC.out (by omega)
      obtain ⟨rfl, rfl⟩ : A = some ⟨b, o, none⟩ ∧ cA = c := by simpa using hv
      have k1 := fun W (hW : Grew w W) => hcell j hlt W hW
      have k1r := k1 _ hB
      have hsz := HF.out j hlt
      obtain ⟨e1, _, e3⟩ := HG.out j hlt
      have hgd := HGD.out j hlt
      have hP := fun W => l02Good_c (st L j) W (by omega)
      unfold GivesG at hP
      rw [e1, hgd] at hP
      replace hP := Lib.hid hP
      have hy := Lib.hid (HY.out j hlt)
      have hno := Lib.hid (HN.out j hlt)
      have hl := HL.out j
      have hks : kS (st L j) = kindOf (fg (st L j)) := rfl
      rw [hks] at hy hno
      clear hv hcell e1 hks hgd
      obtain ⟨AQ, cQ, rfl⟩ := strs_slice HO.out.strs
      generalize fg (st L j) = T at *
      generalize st L j = s at *
      go_wp2_with fail
      refine (hP.out _).mono ?_
      rintro e w1 ⟨va, rfl, hn1, hg1⟩
      obtain ⟨ba, oa, ca, rfl, hca, hcm, hk0⟩ := nodes_head hn1.nodes
      have k2 := hk0 _ (Grew.refl _)
      have hB1 := hB.trans hg1
      have k1s := k1 _ hB1
      have hpos := Fm.enc_pos T
      have hpi : (0 : Int) < ((Fm.enc T).length : Int) := by omega
      have HO1 := Lib.hid (HO.out.grew hg1)
      clear hk0 hn1 k1r HO
      by_cases hk : kindOf T = k
      · have q1 := Lib.hid (hy.out hk)
        rw [hk] at k2
        clear hy hno hk
        generalize whK k (L.take j) = M at *
        go_wp2_with (first
          | (at_builtin
             refine wpList_appStr (w0 := w) _ _ rfl rfl (.slice AQ M.length cQ) M rfl (HO1.out.grew ((Grew.refl w1).alloc _)) (hB1.alloc _) _ s rfl (rd_lit _ _ _) (by omega) ?_
             intro v3 w3 hown3 hg3 hgr3
             obtain ⟨A3, c3, rfl⟩ := strs_slice hown3.strs
             have HFIN := Lib.hid hown3
             clear hown3 hgr3))
        go_roundw
        case rel =>
          have hF := HFIN.out
          rw [List.length_append, List.length_singleton] at hF
          exact ⟨j + 1, by omega, by go_num, Lib.hid (by rw [q1.out]; exact hF), hg3⟩
        case measure => simp [intOf]; omega
      · have q1 := Lib.hid (hno.out hk)
        have hne : (kindOf T == k) = false := by simpa using hk
        clear hy hno hk
        generalize kindOf T = kk at *
        go_wp2_with fail
        go_roundw
        case rel => exact ⟨j + 1, by omega, by go_num, Lib.hid (by rw [q1.out]; exact HO1.out), hB1⟩
        case measure => simp [intOf]; omega
    · obtain rfl : j = n := by omega
      have S := Lib.hid HO.out.strs
      rw [HE.out] at S
      obtain ⟨AQ, cQ, rfl⟩ := strs_slice S.out
      clear HO
      go_wp2_with fail
      go_ret
      exact ⟨_, rfl, S.out, hB⟩
end Go.Proofs.YtjcehejnolbkgaaGreat

/- The tail of a list of nodes. -/
namespace Go.Proofs.YtjcehejnolbkgaaGreat
open Go.RowKit
open Fm (Nd)

theorem nodes_tail {w : World} {b o n c : Nat} {xs : List Nd} (h : Nodes w (.slice (some ⟨b, o, none⟩) n c) xs) (i : Nat) (hi : i ≤ n) (hn : n ≤ c) (hx : xs.length = n) : Nodes w (.slice (if c = i then some ⟨b, o, none⟩ else some ⟨b, o + i * 2, none⟩) (n - i) (c - i)) (xs.drop i) := by
  obtain ⟨h1, h2, h3⟩ := h
  have hl : (xs.drop i).length = n - i := by rw [List.length_drop]; omega
  unfold Nodes
  rw [hl]
  refine ⟨by rw [cells_length, hl], by omega, ?_⟩
  rcases h3 with ⟨h4, _⟩ | ⟨b', o', c', h4, h5, h6, h7, h8⟩
  · cases h4
  · obtain ⟨⟨rfl, rfl⟩, _, rfl⟩ : (b = b' ∧ o = o') ∧ n = xs.length ∧ c = c' := by simpa using h4
    refine .inr ⟨b, if c = i then o else o + i * 2, c - i, by split <;> rfl, by omega, by omega, h7, fun j u hu => ?_⟩
    have hj : j < (cells (xs.drop i)).length := (List.getElem?_eq_some_iff.1 hu).1
    rw [cells_length, hl] at hj
    rw [if_neg (by omega)]
    have e : cells xs = cells (xs.take i) ++ cells (xs.drop i) := by rw [← cells_append, List.take_append_drop]
    have hk : (cells (xs.take i)).length = i * 2 := by rw [cells_length, List.length_take]; congr 1; omega
    have := h8 (i * 2 + j) u (by rw [e, List.getElem?_append_right (by omega), hk]; simpa using hu)
    rw [Nat.add_assoc]
    exact this

end Go.Proofs.YtjcehejnolbkgaaGreat

/- Sides in the reference: l11Of, l11Union. -/
namespace Go.Proofs.YtjcehejnolbkgaaGreat
open Go.RowKit
open Fm (Nd Tree)

theorem putS_snoc (L : List ByteArray) (s : ByteArray) : insA (putS L) s = putS (L ++ [s]) :=
  up_ext (insA_up (putS_up L)) (putS_up _) fun x => by rw [insA_mem, putS_mem, putS_mem, List.mem_append, List.mem_singleton]
/-- The tail of a list of nodes that has one part. -/
theorem tail_one {w : World} {b o c : Nat} {T : Tree} (hk : kindOf T = 5 ∨ kindOf T = 6) (h : Nodes w (.slice (some ⟨b, o, none⟩) (Fm.enc T).length c) (Fm.enc T)) (hc : (Fm.enc T).length ≤ c) :
    ¬ c = 1 ∧ Nodes w (.slice (some ⟨b, o + 2, none⟩) ((Fm.enc T).length - 1) (c - 1)) (Fm.enc (pl1 T)) := by
  have hat := one_of_kind hk
  have hp := Fm.enc_pos (pl1 T)
  have hl : (Fm.enc T).length = (Fm.enc (pl1 T)).length + 1 := by rw [hat]; simp
  have hc1 : ¬ c = 1 := by omega
  have h1 := nodes_tail h 1 (by omega) hc rfl
  rw [if_neg hc1] at h1
  have hd : (Fm.enc T).drop 1 = Fm.enc (pl1 T) := by rw [hat]; simp
  rw [hd] at h1
  exact ⟨hc1, h1⟩

set_option maxHeartbeats 2000000 in
theorem l11Of_c (v : Value) (L : List ByteArray) (k : Int) (w : World) (h : Strs w v L) (hg : ∀ i, i < L.length → gd (st L i) = true) (hF : Fits L) (hn : L.length ≤ 1000000) (hk56 : k = 5 ∨ k = 6) :
    Calls Tryz.prog 70 #[v, .int .i64 k] w fun e w' => ∃ u, e = .returned u ∧ Strs w' u (putS (inK k L)) ∧ Grew w w' := by
  have HG := Lib.hid (fun i (hi : i < L.length) => fg_ok (hg i hi))
  have HGD := Lib.hid hg
  have HF := Lib.hid hF
  have HK := Lib.hid hk56
  have HY := Lib.hid (fun j (hj : j < L.length) hk => show putS (inK k (L.take (j + 1))) = insA (putS (inK k (L.take j))) (p1S (st L j)) from by rw [inK_yes hj hk, putS_snoc])
  have HN := Lib.hid (fun j (hj : j < L.length) hk => show putS (inK k (L.take (j + 1))) = putS (inK k (L.take j)) from by rw [inK_no hj hk])
  have HL := Lib.hid (fun j => Nat.le_trans (putS_len (inK k (L.take j))) (@inK_tl k L j))
  have HE : Hid (L.take L.length = L) := Lib.hid List.take_length
  have HC := Lib.hid (cells_of h)
  have he0 := (own_emptyL w).strs
  have he : Strs (w.alloc (.cells #[] 9)) (.slice (some ⟨w.heap.size, 0, none⟩) 0 0) (putS (inK k (L.take 0))) := by
    rw [List.take_zero, show inK k [] = [] from rfl, putS_nil]; exact he0
  have hg0 := (Grew.refl w).alloc (.cells #[] 9)
  obtain ⟨A, cA, rfl⟩ := strs_slice h
  unfold Fits at HF
  clear h hg hF he0 hk56
  generalize L.length = n at *
  go_enter Tryz.func70, Tryz.ntmps70
  go_wp2_with fail
  go_loopw [5, 6, 7, 8] (fun q i _ _ wr => ∃ j : Nat, j ≤ n ∧ i = .int .i64 j ∧ Hid (Strs wr q (putS (inK k (L.take j)))) ∧ Grew w wr) (fun _ i _ _ _ => n - (intOf i).toNat)
  case atStart => exact ⟨0, Nat.zero_le _, rfl, Lib.hid he, hg0⟩
  case round =>
    obtain ⟨j, hj, rfl, HO, hB⟩ := hrel
    by_cases hlt : j < n
    · obtain ⟨b, o, c, hv, hcell⟩ := HC.out (by omega)
      obtain ⟨rfl, rfl⟩ : A = some ⟨b, o, none⟩ ∧ cA = c := by simpa using hv
      have k1 := hcell j hlt _ hB
      have hsz := HF.out j hlt
      obtain ⟨e1, _, e3⟩ := HG.out j hlt
      have hgd := HGD.out j hlt
      have hP := fun W => l02Good_c (st L j) W (by omega)
      unfold GivesG at hP
      rw [e1, hgd] at hP
      replace hP := Lib.hid hP
      have hy := Lib.hid (HY.out j hlt)
      have hno := Lib.hid (HN.out j hlt)
      have hl := HL.out j
      have hks : kS (st L j) = kindOf (fg (st L j)) := rfl
      have hp1 : p1S (st L j) = tx (pl1 (fg (st L j))) := rfl
      rw [hks] at hy hno
      rw [hp1] at hy
      clear hv hcell e1 hks hgd hp1
      obtain ⟨AQ, cQ, rfl⟩ := strs_slice HO.out
      generalize fg (st L j) = T at *
      generalize st L j = s at *
      go_wp2_with fail
      refine (hP.out _).mono ?_
      rintro e w1 ⟨va, rfl, hn1, hg1⟩
      obtain ⟨ba, oa, ca, rfl, hca, hcm, hk0⟩ := nodes_head hn1.nodes
      have k2 := hk0 _ (Grew.refl _)
      have hB1 := hB.trans hg1
      have hpos := Fm.enc_pos T
      have hpi : (0 : Int) < ((Fm.enc T).length : Int) := by omega
      have HO1 := Lib.hid (HO.out.grew hg1)
      have HN1 := Lib.hid hn1.nodes
      clear hk0 hn1 HO
      by_cases hk : kindOf T = k
      · have q1 := Lib.hid (hy.out hk)
        obtain ⟨hc1, htl⟩ := tail_one (by rw [hk]; exact HK.out) HN1.out hca
        have hpl : (Fm.enc (pl1 T)).length ≤ 40 := by have := one_of_kind (A := T) (by rw [hk]; exact HK.out); rw [this] at e3; simp at e3; omega
        have hl1 : 1 ≤ (Fm.enc T).length := hpos
        have KT := Lib.hid (l02Text_c (pl1 T) _ w1 htl (by omega))
        have e1 : bs (Fm.txt (pl1 T) 0) = tx (pl1 T) := rfl
        unfold Says at KT
        rw [e1] at KT
        have KI := Lib.hid (fun W (hW : Grew w1 W) => l02InsertA_c _ _ (tx (pl1 T)) W (HO1.out.grew hW) (by omega))
        rw [hk] at k2
        clear hy hno hk htl e1
        generalize tx (pl1 T) = p at *
        generalize putS (inK k (L.take j)) = M at *
        go_wp2_with fail
        refine KT.out.mono ?_
        rintro e w2 ⟨rfl, hg2⟩
        go_wp2_with fail
        refine (KI.out _ hg2).mono ?_
        rintro e w3 ⟨u3, rfl, hs3, hg3⟩
        go_wp2_with fail
        go_roundw
        case rel => exact ⟨j + 1, by omega, by go_num, Lib.hid (by rw [q1.out]; exact hs3), hB1.trans (hg2.trans hg3)⟩
        case measure => simp [intOf]; omega
      · have q1 := Lib.hid (hno.out hk)
        have hne : (kindOf T == k) = false := by simpa using hk
        clear hy hno hk
        generalize kindOf T = kk at *
        go_wp2_with fail
        go_roundw
        case rel => exact ⟨j + 1, by omega, by go_num, Lib.hid (by rw [q1.out]; exact HO1.out), hB1⟩
        case measure => simp [intOf]; omega
    · obtain rfl : j = n := by omega
      have S := Lib.hid HO.out
      rw [HE.out] at S
      obtain ⟨AQ, cQ, rfl⟩ := strs_slice S.out
      clear HO
      go_wp2_with fail
      go_ret
      exact ⟨_, rfl, S.out, hB⟩

set_option maxHeartbeats 2000000 in
theorem l11Union_c (v u : Value) (L K : List ByteArray) (w : World) (h : Strs w v L) (hk : Strs w u K) (hL : Up L) (hn : L.length ≤ 1000000 ∧ K.length ≤ 40000) :
    Calls Tryz.prog 69 #[v, u] w fun e w' => ∃ u, e = .returned u ∧ Strs w' u (putS (L ++ K)) ∧ Grew w w' := by
  have KC := Lib.hid (copyL_c v L w h (by omega))
  have HY := Lib.hid (fun j (hj : j < K.length) => show putS (L ++ K.take (j + 1)) = insA (putS (L ++ K.take j)) (st K j) from by rw [takeS_succ hj, ← List.append_assoc, putS_snoc])
  have HL := Lib.hid (fun j => show (putS (L ++ K.take j)).length ≤ 1040000 from by have := putS_len (L ++ K.take j); rw [List.length_append, List.length_take] at this; omega)
  have HE : Hid (K.take K.length = K) := Lib.hid List.take_length
  have H0 : Hid (putS (L ++ K.take 0) = L) := Lib.hid (by rw [List.take_zero, List.append_nil]; exact up_ext (putS_up L) hL (putS_mem L))
  have HC := Lib.hid (cells_of hk)
  obtain ⟨A, cA, rfl⟩ := strs_slice h
  obtain ⟨A2, cA2, rfl⟩ := strs_slice hk
  clear h hk hL
  generalize L.length = n at *
  generalize K.length = n2 at *
  go_enter Tryz.func69, Tryz.ntmps69
  go_wp2_with fail
  refine KC.out.mono ?_
  rintro e w1 ⟨v1, rfl, hs1, hg1⟩
  have HS1 : Hid (Strs w1 v1 (putS (L ++ K.take 0))) := Lib.hid (by rw [H0.out]; exact hs1.strs)
  clear hs1
  go_wp2_with fail
  go_loopw [5, 6] (fun q i wr => ∃ j : Nat, j ≤ n2 ∧ i = .int .i64 j ∧ Hid (Strs wr q (putS (L ++ K.take j))) ∧ Grew w wr) (fun _ i _ => n2 - (intOf i).toNat)
  case atStart => exact ⟨0, Nat.zero_le _, rfl, HS1, hg1⟩
  case round =>
    obtain ⟨j, hj, rfl, HO, hB⟩ := hrel
    by_cases hlt : j < n2
    · obtain ⟨b, o, c, hv, hcell⟩ := HC.out (by omega)
      obtain ⟨rfl, rfl⟩ : A2 = some ⟨b, o, none⟩ ∧ cA2 = c := by simpa using hv
      have k1 := hcell j hlt _ hB
      have q1 := Lib.hid (HY.out j hlt)
      have hl := HL.out j
      have KI := Lib.hid (l02InsertA_c _ _ (st K j) wr HO.out (by omega))
      obtain ⟨AQ, cQ, rfl⟩ := strs_slice HO.out
      clear hv hcell
      generalize putS (L ++ K.take j) = M at *
      generalize st K j = s at *
      go_wp2_with fail
      refine KI.out.mono ?_
      rintro e w3 ⟨u3, rfl, hs3, hg3⟩
      go_wp2_with fail
      go_roundw
      case rel => exact ⟨j + 1, by omega, by go_num, Lib.hid (by rw [q1.out]; exact hs3), hB.trans hg3⟩
      case measure => simp [intOf]; omega
    · obtain rfl : j = n2 := by omega
      have S := Lib.hid HO.out
      rw [HE.out] at S
      obtain ⟨AQ, cQ, rfl⟩ := strs_slice S.out
      clear HO
      go_wp2_with fail
      go_ret
      exact ⟨_, rfl, S.out, hB⟩
end Go.Proofs.YtjcehejnolbkgaaGreat

/- l11Kept of the reference: what a modal rule carries over. -/
namespace Go.Proofs.YtjcehejnolbkgaaGreat
open Go.RowKit

theorem up_whK {L : List ByteArray} (h : Up L) (k : Int) : Up (whK k L) := List.Pairwise.filter _ h
theorem kp_1 {L : List ByteArray} {k : Int} : putS (putS (inK k L) ++ whK k L) = putS (whK k L ++ inK k L) :=
  up_ext (putS_up _) (putS_up _) fun x => by rw [putS_mem, putS_mem, List.mem_append, List.mem_append, putS_mem]; exact or_comm
theorem kp_3 {L : List ByteArray} {k : Int} (h : Up L) : putS (whK k L ++ []) = whK k L := up_ext (putS_up _) (up_whK h k) fun x => by rw [putS_mem, List.append_nil]
theorem kp_4 {L : List ByteArray} {k : Int} (hk : k = 5 ∨ k = 6) : putS (whK k L ++ whK (11 - k) L) = putS (whK 5 L ++ whK 6 L) := by
  rcases hk with rfl | rfl
  · rfl
  · exact up_ext (putS_up _) (putS_up _) fun x => by rw [putS_mem, putS_mem, List.mem_append, List.mem_append]; exact or_comm
theorem kp_5 {L : List ByteArray} {k : Int} : putS (inK k L ++ []) = putS (inK k L) := by rw [List.append_nil]

set_option maxHeartbeats 2000000 in
theorem l11Kept_c (lg m : ByteArray) (v : Value) (L : List ByteArray) (k : Int) (w : World) (h : Strs w v L) (hg : ∀ i, i < L.length → gd (st L i) = true) (hF : Fits L) (hn : L.length ≤ 16) (hU : Up L) (hk56 : k = 5 ∨ k = 6) :
    Calls Tryz.prog 52 #[.string lg, v, .int .i64 k, .string m] w fun e w' => ∃ u, e = .returned u ∧ Strs w' u (crF lg L k m) ∧ Grew w w' := by
  have KO := Lib.hid (fun W (hW : Grew w W) => l11Of_c v L k W (h.grew hW) hg hF (by omega) hk56)
  have KK := Lib.hid (fun k W (hW : Grew w W) => l11Kind_c v L k W (h.grew hW) hg hF (by omega))
  have l1 := whK_len k L
  have l2 := inK_len k L
  have l2' := putS_len (inK k L)
  have l3 := whK_len 5 L
  have l4 := whK_len 6 L
  have HU5 := Lib.hid (up_whK hU 5)
  have HU := Lib.hid hU
  have HK := Lib.hid hk56
  obtain ⟨AV, cV, rfl⟩ := strs_slice h
  have r0 := Grew.refl w
  clear h hg hF hU hk56
  generalize hX : crF lg L k m = X at *
  have HX := Lib.hid hX
  clear hX
  generalize L.length = n at *
  cases h1 : (lg.toList == [75, 52]) with
  | true =>
    go_enter Tryz.func52, Tryz.ntmps52
    go_wp2_with fail
    refine (KO.out _ r0).mono ?_
    rintro e w1 ⟨v1, rfl, hs1, hg1⟩
    go_wp2_with fail
    refine (KK.out k _ hg1).mono ?_
    rintro e w2 ⟨v2, rfl, hs2, hg2⟩
    have g2 := hg1.trans hg2
    have KU := Lib.hid (l11Union_c v1 v2 _ _ w2 (hs1.grew hg2) hs2 (putS_up _) ⟨by omega, by omega⟩)
    obtain ⟨A1, c1, rfl⟩ := strs_slice hs1
    obtain ⟨A2, c2, rfl⟩ := strs_slice hs2
    clear hs1 hs2
    go_wp2_with fail
    refine KU.out.mono ?_
    rintro e w3 ⟨v3, rfl, hs3, hg3⟩
    go_wp2_with fail
    go_ret
    have hX := HX.out
    rw [cr_1 h1, ← kp_1] at hX
    rw [← hX]
    exact ⟨_, rfl, hs3, g2.trans hg3⟩
  | false =>
  cases h2 : (lg.toList == [71, 76]) with
  | true =>
    go_enter Tryz.func52, Tryz.ntmps52
    go_wp2_with fail
    refine (KO.out _ r0).mono ?_
    rintro e w1 ⟨v1, rfl, hs1, hg1⟩
    go_wp2_with fail
    refine (KK.out k _ hg1).mono ?_
    rintro e w2 ⟨v2, rfl, hs2, hg2⟩
    have g2 := hg1.trans hg2
    have KU := Lib.hid (l11Union_c v1 v2 _ _ w2 (hs1.grew hg2) hs2 (putS_up _) ⟨by omega, by omega⟩)
    obtain ⟨A1, c1, rfl⟩ := strs_slice hs1
    obtain ⟨A2, c2, rfl⟩ := strs_slice hs2
    clear hs1 hs2
    go_wp2_with fail
    refine KU.out.mono ?_
    rintro e w3 ⟨v3, rfl, hs3, hg3⟩
    go_wp2_with fail
    go_ret
    have hX := HX.out
    rw [cr_2 h1 h2, ← kp_1] at hX
    rw [← hX]
    exact ⟨_, rfl, hs3, g2.trans hg3⟩
  | false =>
  cases h3 : (lg.toList == [83, 52]) with
  | true =>
    go_enter Tryz.func52, Tryz.ntmps52
    go_wp2_with fail
    refine (KK.out k _ r0).mono ?_
    rintro e w1 ⟨v1, rfl, hs1, hg1⟩
    go_wp2_with fail
    go_ret
    have hX := HX.out
    rw [cr_3 h1 h2 h3, kp_3 HU.out] at hX
    rw [← hX]
    exact ⟨_, rfl, hs1, hg1⟩
  | false =>
  cases h4 : (lg.toList == [83, 53]) with
  | true =>
    go_enter Tryz.func52, Tryz.ntmps52
    go_wp2_with fail
    refine (KK.out 5 _ r0).mono ?_
    rintro e w1 ⟨v1, rfl, hs1, hg1⟩
    go_wp2_with fail
    refine (KK.out 6 _ hg1).mono ?_
    rintro e w2 ⟨v2, rfl, hs2, hg2⟩
    have g2 := hg1.trans hg2
    have KU := Lib.hid (l11Union_c v1 v2 _ _ w2 (hs1.grew hg2) hs2 HU5.out ⟨by omega, by omega⟩)
    obtain ⟨A1, c1, rfl⟩ := strs_slice hs1
    obtain ⟨A2, c2, rfl⟩ := strs_slice hs2
    clear hs1 hs2
    go_wp2_with fail
    refine KU.out.mono ?_
    rintro e w3 ⟨v3, rfl, hs3, hg3⟩
    have hl3 := putS_len (whK 5 L ++ whK 6 L)
    rw [List.length_append] at hl3
    have KW := Lib.hid (l11Without_c v3 _ m w3 hs3 (by omega))
    obtain ⟨A3, c3, rfl⟩ := strs_slice hs3
    clear hs3
    go_wp2_with fail
    refine KW.out.mono ?_
    rintro e w4 ⟨v4, rfl, hs4, hg4⟩
    go_wp2_with fail
    go_ret
    have hX := HX.out
    rw [cr_4 h1 h2 h3 h4, kp_4 HK.out] at hX
    rw [← hX]
    exact ⟨_, rfl, hs4, g2.trans (hg3.trans hg4)⟩
  | false =>
    go_enter Tryz.func52, Tryz.ntmps52
    go_wp2_with fail
    refine (KO.out _ r0).mono ?_
    rintro e w1 ⟨v1, rfl, hs1, hg1⟩
    go_wp2_with fail
    go_ret
    have hX := HX.out
    rw [cr_5 h1 h2 h3 h4, kp_5] at hX
    rw [← hX]
    exact ⟨_, rfl, hs1, hg1⟩
end Go.Proofs.YtjcehejnolbkgaaGreat

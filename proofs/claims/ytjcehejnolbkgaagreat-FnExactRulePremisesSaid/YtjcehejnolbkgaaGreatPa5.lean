/- Texts in one file: RqM StpR RqN RqL. -/
import Derived.Deep.RegionHeld3
import Derived.Test.YtjcehejnolbkgaaGreatPa1
import Derived.Test.YtjcehejnolbkgaaGreatPa2
import Derived.Test.YtjcehejnolbkgaaGreatPa3
import Derived.Test.YtjcehejnolbkgaaGreatPa4
set_option linter.all false

/- l11Modal of the reference. -/
namespace Go.Proofs.YtjcehejnolbkgaaGreat
open Go.RowKit
open Fm (Nd Tree)

theorem crF_up (lg m : ByteArray) (L : List ByteArray) (k : Int) (_h : Up L) : Up (crF lg L k m) := by
  unfold crF
  split
  · exact putS_up _
  · split
    · exact putS_up _
    · split
      · exact List.Pairwise.filter _ (putS_up _)
      · exact putS_up _

set_option maxHeartbeats 4000000 in
set_option maxRecDepth 8192 in
theorem l11Modal_c (lg m : ByteArray) (va vb : Value) (L R : List ByteArray) (w : World) (ha : Strs w va L) (hb : Strs w vb R) (hgL : ∀ i, i < L.length → gd (st L i) = true) (hgR : ∀ i, i < R.length → gd (st R i) = true) (hFL : Fits L) (hFR : Fits R) (hnL : L.length ≤ 16) (hnR : R.length ≤ 16) (hUL : Up L) (hUR : Up R)
    (hm : m.toList.isEmpty = true ∨ (gd m = true ∧ (kS m = 5 ∨ kS m = 6) ∧ m.size ≤ 1048576)) :
    Calls Tryz.prog 33 #[.string lg, .agg #[va, vb], .string m] w (GivesMs w (mpF lg L R m)) := by
  have K5 := Lib.hid (fun W (hW : Grew w W) => l11Kept_c lg m va L 5 W (ha.grew hW) hgL hFL hnL hUL (.inl rfl))
  have K6 := Lib.hid (fun W (hW : Grew w W) => l11Kept_c lg m vb R 6 W (hb.grew hW) hgR hFR hnR hUR (.inr rfl))
  obtain ⟨A1, c1, rfl⟩ := strs_slice ha
  obtain ⟨A2, c2, rfl⟩ := strs_slice hb
  have HM := Lib.hid hm
  have HU5 := Lib.hid (crF_up lg m L 5 hUL)
  have HU6 := Lib.hid (crF_up lg m R 6 hUR)
  have hl5 : (crF lg L 5 m).length ≤ 400000 := by have := cr_len lg m L 5; omega
  have hl6 : (crF lg R 6 m).length ≤ 400000 := by have := cr_len lg m R 6; omega
  clear ha hb hgL hgR hFL hFR hnL hnR hm hUL hUR
  obtain ⟨w1, hw1⟩ : ∃ w1, w1 = (w.alloc (.cells #[.slice A1 L.length c1, .slice A2 R.length c2] 29)).alloc (.cells #[.slice none 0 0, .slice none 0 0] 29) := ⟨_, rfl⟩
  have hg1 : Grew w w1 := by rw [hw1]; exact ((Grew.refl w).alloc _).alloc _
  have hs1 : w1.heap.size = w.heap.size + 2 := by rw [hw1]; simp
  have hb0 : w1.heap[w.heap.size]? = some (.cells #[.slice A1 L.length c1, .slice A2 R.length c2] 29 (0, 0)) := by
    rw [hw1]; exact (((Grew.refl _).alloc _).block (by simp)).trans (blk_new w _)
  have hb1 : w1.heap[w.heap.size + 1]? = some (.cells #[.slice none 0 0, .slice none 0 0] 29 (0, 0)) := by
    rw [hw1]
    have h := blk_new (w.alloc (.cells #[.slice A1 L.length c1, .slice A2 R.length c2] 29)) (.cells #[.slice none 0 0, .slice none 0 0] 29)
    have e : (w.alloc (.cells #[.slice A1 L.length c1, .slice A2 R.length c2] 29)).heap.size = w.heap.size + 1 := by simp
    rwa [e] at h
  have p0 : ∀ W, Grew w1 W → W.cell? ⟨w.heap.size, 0, none⟩ = some (.slice A1 L.length c1) := fun W hW => by rw [blk_cell ((hW.block (blk_lt hb0)).trans hb0)]; rfl
  have p1 : ∀ W, Grew w1 W → W.cell? ⟨w.heap.size, 1, none⟩ = some (.slice A2 R.length c2) := fun W hW => by rw [blk_cell ((hW.block (blk_lt hb0)).trans hb0)]; rfl
  have HG1 := Lib.hid hg1
  have HS1 := Lib.hid hs1
  have HB1 := Lib.hid hb1
  have hr1 := Grew.refl w1
  have hd1 := hr1.drew
  clear hg1 hs1 hb0 hb1
  generalize hX : mpF lg L R m = X at *
  have HX := Lib.hid hX
  clear hX
  generalize hC5 : crF lg L 5 m = C5 at *
  generalize hC6 : crF lg R 6 m = C6 at *
  have HC5 := Lib.hid hC5
  have HC6 := Lib.hid hC6
  clear hC5 hC6
  generalize L.length = n at *
  generalize R.length = n2 at *
  go_enter Tryz.func33, Tryz.ntmps33
  go_upto_region 1 with fail
  simp only [← hw1]
  clear hw1
  go_cut [7] from 8 (fun a7 wx => ∃ g, a7 = .pointer (some ⟨g, 0, none⟩) ∧ w1.heap.size ≤ g ∧ Pr wx g C5 C6 ∧ Grew w1 wx)
  case first =>
    refine wp_region_held_drew (S := fun w' => Grew w1 w') (by kernel_rfl) hd1 (fun hHeld => ?_)
    refine wpAnyH_take (i := 0) (oi := ?on1) (v := ?vn1) ?hin1 ?an1 ?bn1 ?cn1 ?qn1 (Or.inl ⟨?dn1, ?hyn1⟩) hHeld ?restn1
    case hin1 => (simp only [List.getElem?_toArray, List.getElem?_cons_zero]; exact rfl)
    case an1 => kernel_rfl
    case bn1 => kernel_rfl
    case cn1 => kernel_rfl
    case qn1 => exact fun _ _ _ h => h
    case dn1 => rfl
    case hyn1 => (intro z hSw; (try dsimp only at hSw); go_simp; (try with_reducible rfl))
    try simp only [Act.put, List.setIfInBounds_toArray, List.set_cons_zero, List.set_cons_succ]
    refine wpAnyH_take (i := 1) (oi := ?on2) (v := ?vn2) ?hin2 ?an2 ?bn2 ?cn2 ?qn2 (Or.inl ⟨?dn2, ?hyn2⟩) hHeld ?restn2
    case hin2 => (simp only [List.getElem?_toArray, List.getElem?_cons_succ, List.getElem?_cons_zero]; exact rfl)
    case an2 => kernel_rfl
    case bn2 => kernel_rfl
    case cn2 => kernel_rfl
    case qn2 => exact fun _ _ _ h => h
    case dn2 => rfl
    case hyn2 => (intro z hSw; (try dsimp only at hSw); go_simp; (try with_reducible rfl))
    try simp only [Act.put, List.setIfInBounds_toArray, List.set_cons_zero, List.set_cons_succ]
    refine wpAnyH_take (i := 2) (oi := ?on3) (v := ?vn3) ?hin3 ?an3 ?bn3 ?cn3 ?qn3 (Or.inl ⟨?dn3, ?hyn3⟩) hHeld ?restn3
    case hin3 => (simp only [List.getElem?_toArray, List.getElem?_cons_succ, List.getElem?_cons_zero]; exact rfl)
    case an3 => kernel_rfl
    case bn3 => kernel_rfl
    case cn3 => kernel_rfl
    case qn3 => exact fun _ _ _ h => h
    case dn3 => rfl
    case hyn3 => (intro z hSw; (try dsimp only at hSw); go_simp; (try with_reducible rfl))
    try simp only [Act.put, List.setIfInBounds_toArray, List.set_cons_zero, List.set_cons_succ]
    refine wpAnyH_take (i := 3) (oi := ?on4) (v := ?vn4) ?hin4 ?an4 ?bn4 ?cn4 ?qn4 (Or.inl ⟨?dn4, ?hyn4⟩) hHeld ?restn4
    case hin4 => (simp only [List.getElem?_toArray, List.getElem?_cons_succ, List.getElem?_cons_zero]; exact rfl)
    case an4 => kernel_rfl
    case bn4 => kernel_rfl
    case cn4 => kernel_rfl
    case qn4 => exact fun _ _ _ h => h
    case dn4 => rfl
    case hyn4 => (intro z hSw; (try dsimp only at hSw); go_simp; (try with_reducible rfl))
    try simp only [Act.put, List.setIfInBounds_toArray, List.set_cons_zero, List.set_cons_succ]
    refine wpAnyH_take (i := 5) (oi := ?on5) (v := ?vn5) ?hin5 ?an5 ?bn5 ?cn5 ?qn5 (Or.inl ⟨?dn5, ?hyn5⟩) hHeld ?restn5
    case hin5 => (simp only [List.getElem?_toArray, List.getElem?_cons_succ, List.getElem?_cons_zero]; exact rfl)
    case an5 => kernel_rfl
    case bn5 => kernel_rfl
    case cn5 => kernel_rfl
    case qn5 => exact fun _ _ _ h => h
    case dn5 => rfl
    case hyn5 => (intro z hSw; (try dsimp only at hSw); go_simp; (try with_reducible rfl))
    try simp only [Act.put, List.setIfInBounds_toArray, List.set_cons_zero, List.set_cons_succ]
    refine wpAnyH_take (i := 6) (oi := ?on6) (v := ?vn6) ?hin6 ?an6 ?bn6 ?cn6 ?qn6 (Or.inl ⟨?dn6, ?hyn6⟩) hHeld ?restn6
    case hin6 => (simp only [List.getElem?_toArray, List.getElem?_cons_succ, List.getElem?_cons_zero]; exact rfl)
    case an6 => kernel_rfl
    case bn6 => kernel_rfl
    case cn6 => kernel_rfl
    case qn6 => exact fun _ _ _ h => h
    case dn6 => rfl
    case hyn6 => (intro z hSw; (try dsimp only at hSw); go_simp; (try with_reducible rfl))
    try simp only [Act.put, List.setIfInBounds_toArray, List.set_cons_zero, List.set_cons_succ]
    refine wpAnyH_take (i := 7) (oi := ?on7) (v := ?vn7) ?hin7 ?an7 ?bn7 ?cn7 ?qn7 (Or.inl ⟨?dn7, ?hyn7⟩) hHeld ?restn7
    case hin7 => (simp only [List.getElem?_toArray, List.getElem?_cons_succ, List.getElem?_cons_zero]; exact rfl)
    case an7 => kernel_rfl
    case bn7 => kernel_rfl
    case cn7 => kernel_rfl
    case qn7 => exact fun _ _ _ h => h
    case dn7 => rfl
    case hyn7 => (intro z hSw; (try dsimp only at hSw); go_simp; (try with_reducible rfl))
    try simp only [Act.put, List.setIfInBounds_toArray, List.set_cons_zero, List.set_cons_succ]
    refine wpAnyH_take (i := 8) (oi := ?on8) (v := ?vn8) ?hin8 ?an8 ?bn8 ?cn8 ?qn8 (Or.inl ⟨?dn8, ?hyn8⟩) hHeld ?restn8
    case hin8 => (simp only [List.getElem?_toArray, List.getElem?_cons_succ, List.getElem?_cons_zero]; exact rfl)
    case an8 => kernel_rfl
    case bn8 => kernel_rfl
    case cn8 => kernel_rfl
    case qn8 => exact fun _ _ _ h => h
    case dn8 => rfl
    case hyn8 => (intro z hSw; (try dsimp only at hSw); go_simp; (try with_reducible rfl))
    try simp only [Act.put, List.setIfInBounds_toArray, List.set_cons_zero, List.set_cons_succ]
    refine wpAnyH_ready (rs := [4, 11]) (by kernel_rfl) (by simp) ?_
    refine AllReadyH.cons (o := ?on9) ?hin9 ?restn9 (AllReadyH.cons (o := ?on10) ?hin10 ?restn10 AllReadyH.nil)
    case hin9 => (simp only [List.getElem?_toArray, List.getElem?_cons_succ, List.getElem?_cons_zero]; exact rfl)
    case hin10 => (simp only [List.getElem?_toArray, List.getElem?_cons_succ, List.getElem?_cons_zero]; exact rfl)
    case restn9 =>
      intro K hK
      go_simp
      go_at_call 52
      refine (K5.out _ (HG1.out.trans hd1)).mono ?_
      rintro e y1 ⟨u5, rfl, hu5, hgy1⟩
      have hy1 : Grew w1 y1 := hd1.trans hgy1
      obtain ⟨A5, d5, rfl⟩ := strs_slice hu5
      refine hK.out _ _ ?_ (fun hHeld => ?_)
      · (try dsimp only); first | with_reducible assumption | exact hy1
      clear hK K
      try simp only [Act.put, List.setIfInBounds_toArray, List.set_cons_zero, List.set_cons_succ]
      refine wpAnyH_ready (rs := [9, 11]) (by kernel_rfl) (by simp) ?_
      refine AllReadyH.cons (o := ?on11) ?hin11 ?restn11 (AllReadyH.cons (o := ?on12) ?hin12 ?restn12 AllReadyH.nil)
      case hin11 => (simp only [List.getElem?_toArray, List.getElem?_cons_succ, List.getElem?_cons_zero]; exact rfl)
      case hin12 => (simp only [List.getElem?_toArray, List.getElem?_cons_succ, List.getElem?_cons_zero]; exact rfl)
      case restn11 =>
        intro K hK
        go_simp
        go_at_call 52
        refine (K6.out _ (HG1.out.trans hy1)).mono ?_
        rintro e y2 ⟨u6, rfl, hu6, hgy2⟩
        have hy2 : Grew w1 y2 := hy1.trans hgy2
        obtain ⟨A6, d6, rfl⟩ := strs_slice hu6
        replace hu5 := hu5.grew hgy2
        refine hK.out _ _ ?_ (fun hHeld => ?_)
        · (try dsimp only); first | with_reducible assumption | exact hy2
        clear hK K
        try simp only [Act.put, List.setIfInBounds_toArray, List.set_cons_zero, List.set_cons_succ]
        refine wpAnyH_take (i := 10) (oi := ?on13) (v := ?vn13) ?hin13 ?an13 ?bn13 ?cn13 ?qn13 (Or.inl ⟨?dn13, ?hyn13⟩) hHeld ?restn13
        case hin13 => (simp only [List.getElem?_toArray, List.getElem?_cons_succ, List.getElem?_cons_zero]; exact rfl)
        case an13 => kernel_rfl
        case bn13 => kernel_rfl
        case cn13 => kernel_rfl
        case qn13 => exact fun _ _ _ h => h
        case dn13 => rfl
        case hyn13 => (intro z hSw; (try dsimp only at hSw); go_simp; (try with_reducible rfl))
        try simp only [Act.put, List.setIfInBounds_toArray, List.set_cons_zero, List.set_cons_succ]
        refine wpAnyH_ready (rs := [11]) (by kernel_rfl) (by simp) ?_
        refine AllReadyH.cons (o := ?on14) ?hin14 ?restn14 AllReadyH.nil
        case hin14 => (simp only [List.getElem?_toArray, List.getElem?_cons_succ, List.getElem?_cons_zero]; exact rfl)
        intro K hK
        go_simp
        obtain ⟨y3, hwy3⟩ : ∃ W, W = y2.alloc (.cells #[.slice none 0 0, .slice none 0 0] 29) := ⟨_, rfl⟩
        have hgy3 : Grew y2 y3 := by rw [hwy3]; exact (Grew.refl _).alloc _
        have hy3 : Grew w1 y3 := hy2.trans hgy3
        have hblk : y3.heap[y2.heap.size]? = some (.cells #[.slice none 0 0, .slice none 0 0] 29 (0, 0)) := by rw [hwy3]; exact blk_new _ _
        have hge : w1.heap.size ≤ y2.heap.size := hy2.size
        try simp only [← hwy3]
        clear hwy3
        replace hu5 := hu5.grew hgy3
        replace hu6 := hu6.grew hgy3
        have hc0 : y3.cell? ⟨y2.heap.size, 0, none⟩ = some (.slice none 0 0) := by rw [blk_cell hblk]; rfl
        have hc1 : y3.cell? ⟨y2.heap.size, 1, none⟩ = some (.slice none 0 0) := by rw [blk_cell hblk]; rfl
        have hf0 := blk_frozen hblk 0
        have hf1 := blk_frozen hblk 1
        refine hK.out _ _ ?_ (fun hHeld => ?_)
        · (try dsimp only); first | with_reducible assumption | exact hy3
        clear hK K
        try simp only [Act.put, List.setIfInBounds_toArray, List.set_cons_zero, List.set_cons_succ]
        refine wpAnyH_ready (rs := [12]) (by kernel_rfl) (by simp) ?_
        refine AllReadyH.cons (o := ?on15) ?hin15 ?restn15 AllReadyH.nil
        case hin15 => (simp only [List.getElem?_toArray, List.getElem?_cons_succ, List.getElem?_cons_zero]; exact rfl)
        intro K hK
        go_simp
        refine hK.out _ _ ?_ (fun hHeld => ?_)
        · (try dsimp only); first | with_reducible assumption | exact Grew.setCell (Grew.setCell hy3 hge _) hge _
        clear hK K
        try simp only [Act.put, List.setIfInBounds_toArray, List.set_cons_zero, List.set_cons_succ]
        refine wpAnyH_done (by kernel_rfl) ?_ _
        go_wp2_with fail
        go_meet
        exact ⟨y2.heap.size, rfl, hge, ⟨_, _, _, _, _, _, blk_set (blk_set hblk 0 _) 1 _, strs_only hu5 hblk (no_str _ _ ⟨_, _, _, rfl⟩ ⟨_, _, _, rfl⟩) (((Only.refl _ _).setCell _).setCell _), strs_only hu6 hblk (no_str _ _ ⟨_, _, _, rfl⟩ ⟨_, _, _, rfl⟩) (((Only.refl _ _).setCell _).setCell _)⟩, Grew.setCell (Grew.setCell hy3 hge _) hge _⟩
      case restn12 =>
        intro K hK
        go_simp
        obtain ⟨y2, hwy2⟩ : ∃ W, W = y1.alloc (.cells #[.slice none 0 0, .slice none 0 0] 29) := ⟨_, rfl⟩
        have hgy2 : Grew y1 y2 := by rw [hwy2]; exact (Grew.refl _).alloc _
        have hy2 : Grew w1 y2 := hy1.trans hgy2
        have hblk : y2.heap[y1.heap.size]? = some (.cells #[.slice none 0 0, .slice none 0 0] 29 (0, 0)) := by rw [hwy2]; exact blk_new _ _
        have hge : w1.heap.size ≤ y1.heap.size := hy1.size
        try simp only [← hwy2]
        clear hwy2
        replace hu5 := hu5.grew hgy2
        have hc0 : y2.cell? ⟨y1.heap.size, 0, none⟩ = some (.slice none 0 0) := by rw [blk_cell hblk]; rfl
        have hc1 : y2.cell? ⟨y1.heap.size, 1, none⟩ = some (.slice none 0 0) := by rw [blk_cell hblk]; rfl
        have hf0 := blk_frozen hblk 0
        have hf1 := blk_frozen hblk 1
        refine hK.out _ _ ?_ (fun hHeld => ?_)
        · (try dsimp only); first | with_reducible assumption | exact hy2
        clear hK K
        try simp only [Act.put, List.setIfInBounds_toArray, List.set_cons_zero, List.set_cons_succ]
        refine wpAnyH_ready (rs := [9]) (by kernel_rfl) (by simp) ?_
        refine AllReadyH.cons (o := ?on16) ?hin16 ?restn16 AllReadyH.nil
        case hin16 => (simp only [List.getElem?_toArray, List.getElem?_cons_succ, List.getElem?_cons_zero]; exact rfl)
        intro K hK
        go_simp
        go_at_call 52
        refine (K6.out _ (HG1.out.trans hy2)).mono ?_
        rintro e y3 ⟨u6, rfl, hu6, hgy3⟩
        have hy3 : Grew w1 y3 := hy2.trans hgy3
        obtain ⟨A6, d6, rfl⟩ := strs_slice hu6
        replace hu5 := hu5.grew hgy3
        replace hblk := (hgy3.block (blk_lt hblk)).trans hblk
        clear hc0 hc1 hf0 hf1
        have hc0 : y3.cell? ⟨y1.heap.size, 0, none⟩ = some (.slice none 0 0) := by rw [blk_cell hblk]; rfl
        have hc1 : y3.cell? ⟨y1.heap.size, 1, none⟩ = some (.slice none 0 0) := by rw [blk_cell hblk]; rfl
        have hf0 := blk_frozen hblk 0
        have hf1 := blk_frozen hblk 1
        refine hK.out _ _ ?_ (fun hHeld => ?_)
        · (try dsimp only); first | with_reducible assumption | exact hy3
        clear hK K
        try simp only [Act.put, List.setIfInBounds_toArray, List.set_cons_zero, List.set_cons_succ]
        refine wpAnyH_take (i := 10) (oi := ?on17) (v := ?vn17) ?hin17 ?an17 ?bn17 ?cn17 ?qn17 (Or.inl ⟨?dn17, ?hyn17⟩) hHeld ?restn17
        case hin17 => (simp only [List.getElem?_toArray, List.getElem?_cons_succ, List.getElem?_cons_zero]; exact rfl)
        case an17 => kernel_rfl
        case bn17 => kernel_rfl
        case cn17 => kernel_rfl
        case qn17 => exact fun _ _ _ h => h
        case dn17 => rfl
        case hyn17 => (intro z hSw; (try dsimp only at hSw); go_simp; (try with_reducible rfl))
        try simp only [Act.put, List.setIfInBounds_toArray, List.set_cons_zero, List.set_cons_succ]
        refine wpAnyH_ready (rs := [12]) (by kernel_rfl) (by simp) ?_
        refine AllReadyH.cons (o := ?on18) ?hin18 ?restn18 AllReadyH.nil
        case hin18 => (simp only [List.getElem?_toArray, List.getElem?_cons_succ, List.getElem?_cons_zero]; exact rfl)
        intro K hK
        go_simp
        refine hK.out _ _ ?_ (fun hHeld => ?_)
        · (try dsimp only); first | with_reducible assumption | exact Grew.setCell (Grew.setCell hy3 hge _) hge _
        clear hK K
        try simp only [Act.put, List.setIfInBounds_toArray, List.set_cons_zero, List.set_cons_succ]
        refine wpAnyH_done (by kernel_rfl) ?_ _
        go_wp2_with fail
        go_meet
        exact ⟨y1.heap.size, rfl, hge, ⟨_, _, _, _, _, _, blk_set (blk_set hblk 0 _) 1 _, strs_only hu5 hblk (no_str _ _ ⟨_, _, _, rfl⟩ ⟨_, _, _, rfl⟩) (((Only.refl _ _).setCell _).setCell _), strs_only hu6 hblk (no_str _ _ ⟨_, _, _, rfl⟩ ⟨_, _, _, rfl⟩) (((Only.refl _ _).setCell _).setCell _)⟩, Grew.setCell (Grew.setCell hy3 hge _) hge _⟩
    case restn10 =>
      intro K hK
      go_simp
      obtain ⟨y1, hwy1⟩ : ∃ W, W = (w1.alloc (.cells #[.slice none 0 0, .slice none 0 0] 29)).drew := ⟨_, rfl⟩
      have hgy1 : Grew w1 y1 := by rw [hwy1]; exact ((Grew.refl _).alloc _).drew
      have hy1 : Grew w1 y1 := hgy1
      have hblk : y1.heap[w1.heap.size]? = some (.cells #[.slice none 0 0, .slice none 0 0] 29 (0, 0)) := by rw [hwy1]; exact blk_new _ _
      have hge : w1.heap.size ≤ w1.heap.size := Nat.le_refl _
      try simp only [← hwy1]
      clear hwy1
      have hc0 : y1.cell? ⟨w1.heap.size, 0, none⟩ = some (.slice none 0 0) := by rw [blk_cell hblk]; rfl
      have hc1 : y1.cell? ⟨w1.heap.size, 1, none⟩ = some (.slice none 0 0) := by rw [blk_cell hblk]; rfl
      have hf0 := blk_frozen hblk 0
      have hf1 := blk_frozen hblk 1
      refine hK.out _ _ ?_ (fun hHeld => ?_)
      · (try dsimp only); first | with_reducible assumption | exact hy1
      clear hK K
      try simp only [Act.put, List.setIfInBounds_toArray, List.set_cons_zero, List.set_cons_succ]
      refine wpAnyH_ready (rs := [4]) (by kernel_rfl) (by simp) ?_
      refine AllReadyH.cons (o := ?on19) ?hin19 ?restn19 AllReadyH.nil
      case hin19 => (simp only [List.getElem?_toArray, List.getElem?_cons_succ, List.getElem?_cons_zero]; exact rfl)
      intro K hK
      go_simp
      go_at_call 52
      refine (K5.out _ (HG1.out.trans hy1)).mono ?_
      rintro e y2 ⟨u5, rfl, hu5, hgy2⟩
      have hy2 : Grew w1 y2 := hy1.trans hgy2
      obtain ⟨A5, d5, rfl⟩ := strs_slice hu5
      replace hblk := (hgy2.block (blk_lt hblk)).trans hblk
      clear hc0 hc1 hf0 hf1
      have hc0 : y2.cell? ⟨w1.heap.size, 0, none⟩ = some (.slice none 0 0) := by rw [blk_cell hblk]; rfl
      have hc1 : y2.cell? ⟨w1.heap.size, 1, none⟩ = some (.slice none 0 0) := by rw [blk_cell hblk]; rfl
      have hf0 := blk_frozen hblk 0
      have hf1 := blk_frozen hblk 1
      refine hK.out _ _ ?_ (fun hHeld => ?_)
      · (try dsimp only); first | with_reducible assumption | exact hy2
      clear hK K
      try simp only [Act.put, List.setIfInBounds_toArray, List.set_cons_zero, List.set_cons_succ]
      refine wpAnyH_ready (rs := [9]) (by kernel_rfl) (by simp) ?_
      refine AllReadyH.cons (o := ?on20) ?hin20 ?restn20 AllReadyH.nil
      case hin20 => (simp only [List.getElem?_toArray, List.getElem?_cons_succ, List.getElem?_cons_zero]; exact rfl)
      intro K hK
      go_simp
      go_at_call 52
      refine (K6.out _ (HG1.out.trans hy2)).mono ?_
      rintro e y3 ⟨u6, rfl, hu6, hgy3⟩
      have hy3 : Grew w1 y3 := hy2.trans hgy3
      obtain ⟨A6, d6, rfl⟩ := strs_slice hu6
      replace hu5 := hu5.grew hgy3
      replace hblk := (hgy3.block (blk_lt hblk)).trans hblk
      clear hc0 hc1 hf0 hf1
      have hc0 : y3.cell? ⟨w1.heap.size, 0, none⟩ = some (.slice none 0 0) := by rw [blk_cell hblk]; rfl
      have hc1 : y3.cell? ⟨w1.heap.size, 1, none⟩ = some (.slice none 0 0) := by rw [blk_cell hblk]; rfl
      have hf0 := blk_frozen hblk 0
      have hf1 := blk_frozen hblk 1
      refine hK.out _ _ ?_ (fun hHeld => ?_)
      · (try dsimp only); first | with_reducible assumption | exact hy3
      clear hK K
      try simp only [Act.put, List.setIfInBounds_toArray, List.set_cons_zero, List.set_cons_succ]
      refine wpAnyH_take (i := 10) (oi := ?on21) (v := ?vn21) ?hin21 ?an21 ?bn21 ?cn21 ?qn21 (Or.inl ⟨?dn21, ?hyn21⟩) hHeld ?restn21
      case hin21 => (simp only [List.getElem?_toArray, List.getElem?_cons_succ, List.getElem?_cons_zero]; exact rfl)
      case an21 => kernel_rfl
      case bn21 => kernel_rfl
      case cn21 => kernel_rfl
      case qn21 => exact fun _ _ _ h => h
      case dn21 => rfl
      case hyn21 => (intro z hSw; (try dsimp only at hSw); go_simp; (try with_reducible rfl))
      try simp only [Act.put, List.setIfInBounds_toArray, List.set_cons_zero, List.set_cons_succ]
      refine wpAnyH_ready (rs := [12]) (by kernel_rfl) (by simp) ?_
      refine AllReadyH.cons (o := ?on22) ?hin22 ?restn22 AllReadyH.nil
      case hin22 => (simp only [List.getElem?_toArray, List.getElem?_cons_succ, List.getElem?_cons_zero]; exact rfl)
      intro K hK
      go_simp
      refine hK.out _ _ ?_ (fun hHeld => ?_)
      · (try dsimp only); first | with_reducible assumption | exact Grew.setCell (Grew.setCell hy3 hge _) hge _
      clear hK K
      try simp only [Act.put, List.setIfInBounds_toArray, List.set_cons_zero, List.set_cons_succ]
      refine wpAnyH_done (by kernel_rfl) ?_ _
      go_wp2_with fail
      go_meet
      exact ⟨w1.heap.size, rfl, hge, ⟨_, _, _, _, _, _, blk_set (blk_set hblk 0 _) 1 _, strs_only hu5 hblk (no_str _ _ ⟨_, _, _, rfl⟩ ⟨_, _, _, rfl⟩) (((Only.refl _ _).setCell _).setCell _), strs_only hu6 hblk (no_str _ _ ⟨_, _, _, rfl⟩ ⟨_, _, _, rfl⟩) (((Only.refl _ _).setCell _).setCell _)⟩, Grew.setCell (Grew.setCell hy3 hge _) hge _⟩
  case rest =>
    obtain ⟨g, rfl, hge, hpr, hgc⟩ := hcut
    have HSit : Hid (Sit w wc g C5 C6) := Lib.hid ⟨hpr, (hgc.block (blk_lt HB1.out)).trans HB1.out, HG1.out.trans hgc, by have := HS1.out; omega⟩
    have HLE : Hid (w.heap.size + 2 ≤ wc.heap.size) := Lib.hid (by have := HS1.out; have := hgc.size; omega)
    clear hpr hgc hge K5 K6 p0 p1 HG1 HB1 hr1 hd1
    cases hme : m.toList.isEmpty with
    | true =>
      obtain ⟨Ba, ma, da, Ea, ka, ea, hgba, hsla, hsra⟩ := HSit.out.1
      have hrba := HSit.out.2.1
      have f0a : wc.cell? ⟨g, 0, none⟩ = some (.slice Ba ma da) := by rw [blk_cell hgba]; rfl
      have f1a : wc.cell? ⟨g, 1, none⟩ = some (.slice Ea ka ea) := by rw [blk_cell hgba]; rfl
      have HLa := Lib.hid hsla
      have HRa := Lib.hid hsra
      clear hsla hsra
      have r0a : wc.cell? ⟨w.heap.size + 1, 0, none⟩ = some (.slice none 0 0) := by rw [blk_cell hrba]; rfl
      have r1a : wc.cell? ⟨w.heap.size + 1, 1, none⟩ = some (.slice none 0 0) := by rw [blk_cell hrba]; rfl
      have z0a := blk_frozen hrba 0
      have z1a := blk_frozen hrba 1
      have HRBa := Lib.hid hrba
      clear hrba hgba
      go_wp2_with fail
      (try simp only [Exit.inBlock, Exit.then])
      refine bodyPost_ret (results_cell_row rfl _ _ (w.heap.size + 1) _ _ _ _ rfl (blk_set (blk_set HRBa.out 0 _) 1 _) Tryz.underlying29 rfl info2M) rfl ?_
      have hX := HX.out
      rw [mp_0 hme, HC5.out, HC6.out] at hX
      rw [← hX]
      exact HSit.out.fin HLa.out HRa.out
    | false =>
    obtain ⟨hgm, hk56, hmz⟩ := HM.out.resolve_left (by rw [hme]; simp)
    obtain ⟨e1, e2, e3⟩ := fg_ok hgm
    have KP := fun W => l02Good_c m W (by omega)
    unfold GivesG at KP
    rw [e1, hgm] at KP
    replace KP := Lib.hid KP
    have hat : Fm.enc (fg m) = (kindOf (fg m), 0) :: (Fm.enc (pl1 (fg m)) ++ []) := one_of_kind hk56
    have hpl : (Fm.enc (pl1 (fg m))).length ≤ 40 := by rw [hat] at e3; simp at e3; omega
    have hp1 : p1S m = tx (pl1 (fg m)) := rfl
    have HP1 := Lib.hid hp1
    have HK56 := Lib.hid hk56
    clear hat hp1 HM hgm e1 e2 hmz
    go_wp2_with fail
    refine (KP.out _).mono ?_
    rintro e v1 ⟨va, rfl, hn1, hgv1⟩
    have HN1 := Lib.hid hn1.nodes
    obtain ⟨ba, oa, ca, rfl, hca, hcm, hk0⟩ := nodes_head hn1.nodes
    have H1 := Lib.hid (HSit.out.grew hgv1)
    have HBA := Lib.hid (show g < ba from by have h1 : wc.heap.size ≤ ba := own_of_ge hn1 rfl; obtain ⟨_, _, _, _, _, _, hb, _, _⟩ := HSit.out.1; have h2 := blk_lt hb; omega)
    obtain ⟨hca1, htl⟩ := tail_one HK56.out HN1.out hca
    have K2 := Lib.hid (l02Text_c (pl1 (fg m)) _ v1 htl (by omega))
    have e1 : bs (Fm.txt (pl1 (fg m)) 0) = tx (pl1 (fg m)) := rfl
    unfold Says at K2
    rw [e1, ← HP1.out] at K2
    clear e1 hn1 htl
    have hpos := Fm.enc_pos (fg m)
    have hpi : (0 : Int) < ((Fm.enc (fg m)).length : Int) := by omega
    go_wp2_with fail
    refine K2.out.mono ?_
    rintro e v3 ⟨rfl, hgv3⟩
    have H3 := Lib.hid (H1.out.grew hgv3)
    have kk0 := fun W (hW : Grew v3 W) => hk0 W (hgv3.trans hW)
    have HGE : Hid (w.heap.size + 2 ≤ g) := Lib.hid HSit.out.2.2.2
    clear hk0 HSit H1 hgv1 hgv3 K2 KP HP1 HN1 HK56
    have HKS : Hid (kS m = kindOf (fg m)) := Lib.hid rfl
    generalize kindOf (fg m) = kk at *
    generalize hpp : p1S m = pp at *
    have HP1 := Lib.hid hpp
    clear hpp
    have hkk : kk = 5 ∨ kk = 6 := by rw [← HKS.out]; exact hk56
    clear hk56
    rcases hkk with rfl | rfl
    · cases hgl : (lg.toList == [71, 76]) with
      | false =>
        have kk1 := kk0 _ (Grew.refl v3)
        obtain ⟨Bb, mb, db, Eb, kb, eb, hgbb, hslb, hsrb⟩ := H3.out.1
        have hrbb := H3.out.2.1
        have f0b : v3.cell? ⟨g, 0, none⟩ = some (.slice Bb mb db) := by rw [blk_cell hgbb]; rfl
        have f1b : v3.cell? ⟨g, 1, none⟩ = some (.slice Eb kb eb) := by rw [blk_cell hgbb]; rfl
        have HLb := Lib.hid hslb
        have HRb := Lib.hid hsrb
        clear hslb hsrb
        clear hgbb hrbb
        go_wp2_with fail
        refine (l02InsertA_c _ C6 pp _ HRb.out (by omega)).mono ?_
        rintro e v4 ⟨ub, rfl, hob, hgvv4⟩
        rw [insA_put HU6.out] at hob
        clear f0b f1b
        obtain ⟨Pb, tb, rfl⟩ := strs_slice hob
        have HTv4 := Lib.hid (H3.out.grew hgvv4)
        have HGWb := Lib.hid hgvv4
        generalize hZb : putS (C6 ++ [pp]) = Z at *
        have HZb := Lib.hid hZb
        clear hZb
        have H4 := Lib.hid (HTv4.out.set1 hob)
        obtain ⟨_, _, _, _, _, _, hgqb, _, _⟩ := HTv4.out.1
        have q0b : v4.cell? ⟨g, 1, none⟩ = some _ := (blk_cell hgqb 1).trans rfl
        have q1b := blk_frozen hgqb 1
        clear hob hgvv4 hgqb
        clear kk1
        have hkcb : (v4.setCell ⟨g, 1, none⟩ (.slice Pb Z.length tb)).cell? ⟨ba, oa, none⟩ = some (.int .i64 5) := (((Only.refl g v4).setCell _).cell (p := ⟨ba, oa, none⟩) (cell_lt (kk0 v4 HGWb.out)) (by have := HBA.out; show ba ≠ g; omega)).trans (kk0 v4 HGWb.out)
        obtain ⟨Bc, mc, dc, Ec, kc, ec, hgbc, hslc, hsrc⟩ := H4.out.1
        have hrbc := H4.out.2.1
        have f0c : (v4.setCell ⟨g, 1, none⟩ (.slice Pb Z.length tb)).cell? ⟨g, 0, none⟩ = some (.slice Bc mc dc) := by rw [blk_cell hgbc]; rfl
        have f1c : (v4.setCell ⟨g, 1, none⟩ (.slice Pb Z.length tb)).cell? ⟨g, 1, none⟩ = some (.slice Ec kc ec) := by rw [blk_cell hgbc]; rfl
        have HLc := Lib.hid hslc
        have HRc := Lib.hid hsrc
        clear hslc hsrc
        have r0c : (v4.setCell ⟨g, 1, none⟩ (.slice Pb Z.length tb)).cell? ⟨w.heap.size + 1, 0, none⟩ = some (.slice none 0 0) := by rw [blk_cell hrbc]; rfl
        have r1c : (v4.setCell ⟨g, 1, none⟩ (.slice Pb Z.length tb)).cell? ⟨w.heap.size + 1, 1, none⟩ = some (.slice none 0 0) := by rw [blk_cell hrbc]; rfl
        have z0c := blk_frozen hrbc 0
        have z1c := blk_frozen hrbc 1
        have HRBc := Lib.hid hrbc
        clear hrbc hgbc
        go_wp2_with fail
        (try simp only [Exit.inBlock, Exit.then])
        refine bodyPost_ret (results_cell_row rfl _ _ (w.heap.size + 1) _ _ _ _ rfl (blk_set (blk_set HRBc.out 0 _) 1 _) Tryz.underlying29 rfl info2M) rfl ?_
        have hX := HX.out
        rw [mp_5n hme HKS.out hgl, HC5.out, HC6.out, HP1.out, HZb.out] at hX
        rw [← hX]
        exact H4.out.fin HLc.out HRc.out
      | true =>
        have kk1 := kk0 _ (Grew.refl v3)
        obtain ⟨Bb, mb, db, Eb, kb, eb, hgbb, hslb, hsrb⟩ := H3.out.1
        have hrbb := H3.out.2.1
        have f0b : v3.cell? ⟨g, 0, none⟩ = some (.slice Bb mb db) := by rw [blk_cell hgbb]; rfl
        have f1b : v3.cell? ⟨g, 1, none⟩ = some (.slice Eb kb eb) := by rw [blk_cell hgbb]; rfl
        have HLb := Lib.hid hslb
        have HRb := Lib.hid hsrb
        clear hslb hsrb
        clear hgbb hrbb
        go_wp2_with fail
        refine (l02InsertA_c _ C6 pp _ HRb.out (by omega)).mono ?_
        rintro e v4 ⟨ub, rfl, hob, hgvv4⟩
        rw [insA_put HU6.out] at hob
        clear f0b f1b
        obtain ⟨Pb, tb, rfl⟩ := strs_slice hob
        have HTv4 := Lib.hid (H3.out.grew hgvv4)
        have HGWb := Lib.hid hgvv4
        generalize hZb : putS (C6 ++ [pp]) = Z at *
        have HZb := Lib.hid hZb
        clear hZb
        have H4 := Lib.hid (HTv4.out.set1 hob)
        obtain ⟨_, _, _, _, _, _, hgqb, _, _⟩ := HTv4.out.1
        have q0b : v4.cell? ⟨g, 1, none⟩ = some _ := (blk_cell hgqb 1).trans rfl
        have q1b := blk_frozen hgqb 1
        clear hob hgvv4 hgqb
        clear kk1
        have hkcb : (v4.setCell ⟨g, 1, none⟩ (.slice Pb Z.length tb)).cell? ⟨ba, oa, none⟩ = some (.int .i64 5) := (((Only.refl g v4).setCell _).cell (p := ⟨ba, oa, none⟩) (cell_lt (kk0 v4 HGWb.out)) (by have := HBA.out; show ba ≠ g; omega)).trans (kk0 v4 HGWb.out)
        obtain ⟨Bc, mc, dc, Ec, kc, ec, hgbc, hslc, hsrc⟩ := H4.out.1
        have hrbc := H4.out.2.1
        have f0c : (v4.setCell ⟨g, 1, none⟩ (.slice Pb Z.length tb)).cell? ⟨g, 0, none⟩ = some (.slice Bc mc dc) := by rw [blk_cell hgbc]; rfl
        have f1c : (v4.setCell ⟨g, 1, none⟩ (.slice Pb Z.length tb)).cell? ⟨g, 1, none⟩ = some (.slice Ec kc ec) := by rw [blk_cell hgbc]; rfl
        have HLc := Lib.hid hslc
        have HRc := Lib.hid hsrc
        clear hslc hsrc
        clear hgbc hrbc
        go_wp2_with fail
        refine (l02InsertA_c _ C5 m _ HLc.out (by omega)).mono ?_
        rintro e v5 ⟨uc, rfl, hoc, hgvv5⟩
        rw [insA_put HU5.out] at hoc
        clear f0c f1c
        obtain ⟨Pc, tc, rfl⟩ := strs_slice hoc
        have HTv5 := Lib.hid (H4.out.grew hgvv5)
        have HGWc := Lib.hid hgvv5
        generalize hZc : putS (C5 ++ [m]) = Y at *
        have HZc := Lib.hid hZc
        clear hZc
        have H5 := Lib.hid (HTv5.out.set0 hoc)
        obtain ⟨_, _, _, _, _, _, hgqc, _, _⟩ := HTv5.out.1
        have q0c : v5.cell? ⟨g, 0, none⟩ = some _ := (blk_cell hgqc 0).trans rfl
        have q1c := blk_frozen hgqc 0
        clear hoc hgvv5 hgqc
        clear q0b q1b hkcb
        obtain ⟨Bd, md, dd, Ed, kd, ed, hgbd, hsld, hsrd⟩ := H5.out.1
        have hrbd := H5.out.2.1
        have f0d : (v5.setCell ⟨g, 0, none⟩ (.slice Pc Y.length tc)).cell? ⟨g, 0, none⟩ = some (.slice Bd md dd) := by rw [blk_cell hgbd]; rfl
        have f1d : (v5.setCell ⟨g, 0, none⟩ (.slice Pc Y.length tc)).cell? ⟨g, 1, none⟩ = some (.slice Ed kd ed) := by rw [blk_cell hgbd]; rfl
        have HLd := Lib.hid hsld
        have HRd := Lib.hid hsrd
        clear hsld hsrd
        have r0d : (v5.setCell ⟨g, 0, none⟩ (.slice Pc Y.length tc)).cell? ⟨w.heap.size + 1, 0, none⟩ = some (.slice none 0 0) := by rw [blk_cell hrbd]; rfl
        have r1d : (v5.setCell ⟨g, 0, none⟩ (.slice Pc Y.length tc)).cell? ⟨w.heap.size + 1, 1, none⟩ = some (.slice none 0 0) := by rw [blk_cell hrbd]; rfl
        have z0d := blk_frozen hrbd 0
        have z1d := blk_frozen hrbd 1
        have HRBd := Lib.hid hrbd
        clear hrbd hgbd
        go_wp2_with fail
        (try simp only [Exit.inBlock, Exit.then])
        refine bodyPost_ret (results_cell_row rfl _ _ (w.heap.size + 1) _ _ _ _ rfl (blk_set (blk_set HRBd.out 0 _) 1 _) Tryz.underlying29 rfl info2M) rfl ?_
        have hX := HX.out
        rw [mp_5g hme HKS.out hgl, HC5.out, HC6.out, HP1.out, HZc.out, HZb.out] at hX
        rw [← hX]
        exact H5.out.fin HLd.out HRd.out
    · cases hgl : (lg.toList == [71, 76]) with
      | false =>
        have kk1 := kk0 _ (Grew.refl v3)
        obtain ⟨Bb, mb, db, Eb, kb, eb, hgbb, hslb, hsrb⟩ := H3.out.1
        have hrbb := H3.out.2.1
        have f0b : v3.cell? ⟨g, 0, none⟩ = some (.slice Bb mb db) := by rw [blk_cell hgbb]; rfl
        have f1b : v3.cell? ⟨g, 1, none⟩ = some (.slice Eb kb eb) := by rw [blk_cell hgbb]; rfl
        have HLb := Lib.hid hslb
        have HRb := Lib.hid hsrb
        clear hslb hsrb
        clear hgbb hrbb
        go_wp2_with fail
        refine (l02InsertA_c _ C5 pp _ HLb.out (by omega)).mono ?_
        rintro e v4 ⟨ub, rfl, hob, hgvv4⟩
        rw [insA_put HU5.out] at hob
        clear f0b f1b
        obtain ⟨Pb, tb, rfl⟩ := strs_slice hob
        have HTv4 := Lib.hid (H3.out.grew hgvv4)
        have HGWb := Lib.hid hgvv4
        generalize hZb : putS (C5 ++ [pp]) = Z at *
        have HZb := Lib.hid hZb
        clear hZb
        have H4 := Lib.hid (HTv4.out.set0 hob)
        obtain ⟨_, _, _, _, _, _, hgqb, _, _⟩ := HTv4.out.1
        have q0b : v4.cell? ⟨g, 0, none⟩ = some _ := (blk_cell hgqb 0).trans rfl
        have q1b := blk_frozen hgqb 0
        clear hob hgvv4 hgqb
        clear kk1
        have hkcb : (v4.setCell ⟨g, 0, none⟩ (.slice Pb Z.length tb)).cell? ⟨ba, oa, none⟩ = some (.int .i64 6) := (((Only.refl g v4).setCell _).cell (p := ⟨ba, oa, none⟩) (cell_lt (kk0 v4 HGWb.out)) (by have := HBA.out; show ba ≠ g; omega)).trans (kk0 v4 HGWb.out)
        obtain ⟨Bc, mc, dc, Ec, kc, ec, hgbc, hslc, hsrc⟩ := H4.out.1
        have hrbc := H4.out.2.1
        have f0c : (v4.setCell ⟨g, 0, none⟩ (.slice Pb Z.length tb)).cell? ⟨g, 0, none⟩ = some (.slice Bc mc dc) := by rw [blk_cell hgbc]; rfl
        have f1c : (v4.setCell ⟨g, 0, none⟩ (.slice Pb Z.length tb)).cell? ⟨g, 1, none⟩ = some (.slice Ec kc ec) := by rw [blk_cell hgbc]; rfl
        have HLc := Lib.hid hslc
        have HRc := Lib.hid hsrc
        clear hslc hsrc
        have r0c : (v4.setCell ⟨g, 0, none⟩ (.slice Pb Z.length tb)).cell? ⟨w.heap.size + 1, 0, none⟩ = some (.slice none 0 0) := by rw [blk_cell hrbc]; rfl
        have r1c : (v4.setCell ⟨g, 0, none⟩ (.slice Pb Z.length tb)).cell? ⟨w.heap.size + 1, 1, none⟩ = some (.slice none 0 0) := by rw [blk_cell hrbc]; rfl
        have z0c := blk_frozen hrbc 0
        have z1c := blk_frozen hrbc 1
        have HRBc := Lib.hid hrbc
        clear hrbc hgbc
        go_wp2_with fail
        (try simp only [Exit.inBlock, Exit.then])
        refine bodyPost_ret (results_cell_row rfl _ _ (w.heap.size + 1) _ _ _ _ rfl (blk_set (blk_set HRBc.out 0 _) 1 _) Tryz.underlying29 rfl info2M) rfl ?_
        have hX := HX.out
        rw [mp_6n hme HKS.out hgl, HC5.out, HC6.out, HP1.out, HZb.out] at hX
        rw [← hX]
        exact H4.out.fin HLc.out HRc.out
      | true =>
        have kk1 := kk0 _ (Grew.refl v3)
        obtain ⟨Bb, mb, db, Eb, kb, eb, hgbb, hslb, hsrb⟩ := H3.out.1
        have hrbb := H3.out.2.1
        have f0b : v3.cell? ⟨g, 0, none⟩ = some (.slice Bb mb db) := by rw [blk_cell hgbb]; rfl
        have f1b : v3.cell? ⟨g, 1, none⟩ = some (.slice Eb kb eb) := by rw [blk_cell hgbb]; rfl
        have HLb := Lib.hid hslb
        have HRb := Lib.hid hsrb
        clear hslb hsrb
        clear hgbb hrbb
        go_wp2_with fail
        refine (l02InsertA_c _ C5 pp _ HLb.out (by omega)).mono ?_
        rintro e v4 ⟨ub, rfl, hob, hgvv4⟩
        rw [insA_put HU5.out] at hob
        clear f0b f1b
        obtain ⟨Pb, tb, rfl⟩ := strs_slice hob
        have HTv4 := Lib.hid (H3.out.grew hgvv4)
        have HGWb := Lib.hid hgvv4
        generalize hZb : putS (C5 ++ [pp]) = Z at *
        have HZb := Lib.hid hZb
        clear hZb
        have H4 := Lib.hid (HTv4.out.set0 hob)
        obtain ⟨_, _, _, _, _, _, hgqb, _, _⟩ := HTv4.out.1
        have q0b : v4.cell? ⟨g, 0, none⟩ = some _ := (blk_cell hgqb 0).trans rfl
        have q1b := blk_frozen hgqb 0
        clear hob hgvv4 hgqb
        clear kk1
        have hkcb : (v4.setCell ⟨g, 0, none⟩ (.slice Pb Z.length tb)).cell? ⟨ba, oa, none⟩ = some (.int .i64 6) := (((Only.refl g v4).setCell _).cell (p := ⟨ba, oa, none⟩) (cell_lt (kk0 v4 HGWb.out)) (by have := HBA.out; show ba ≠ g; omega)).trans (kk0 v4 HGWb.out)
        obtain ⟨Bc, mc, dc, Ec, kc, ec, hgbc, hslc, hsrc⟩ := H4.out.1
        have hrbc := H4.out.2.1
        have f0c : (v4.setCell ⟨g, 0, none⟩ (.slice Pb Z.length tb)).cell? ⟨g, 0, none⟩ = some (.slice Bc mc dc) := by rw [blk_cell hgbc]; rfl
        have f1c : (v4.setCell ⟨g, 0, none⟩ (.slice Pb Z.length tb)).cell? ⟨g, 1, none⟩ = some (.slice Ec kc ec) := by rw [blk_cell hgbc]; rfl
        have HLc := Lib.hid hslc
        have HRc := Lib.hid hsrc
        clear hslc hsrc
        clear hgbc hrbc
        go_wp2_with fail
        refine (l02InsertA_c _ C6 m _ HRc.out (by omega)).mono ?_
        rintro e v5 ⟨uc, rfl, hoc, hgvv5⟩
        rw [insA_put HU6.out] at hoc
        clear f0c f1c
        obtain ⟨Pc, tc, rfl⟩ := strs_slice hoc
        have HTv5 := Lib.hid (H4.out.grew hgvv5)
        have HGWc := Lib.hid hgvv5
        generalize hZc : putS (C6 ++ [m]) = Y at *
        have HZc := Lib.hid hZc
        clear hZc
        have H5 := Lib.hid (HTv5.out.set1 hoc)
        obtain ⟨_, _, _, _, _, _, hgqc, _, _⟩ := HTv5.out.1
        have q0c : v5.cell? ⟨g, 1, none⟩ = some _ := (blk_cell hgqc 1).trans rfl
        have q1c := blk_frozen hgqc 1
        clear hoc hgvv5 hgqc
        clear q0b q1b hkcb
        obtain ⟨Bd, md, dd, Ed, kd, ed, hgbd, hsld, hsrd⟩ := H5.out.1
        have hrbd := H5.out.2.1
        have f0d : (v5.setCell ⟨g, 1, none⟩ (.slice Pc Y.length tc)).cell? ⟨g, 0, none⟩ = some (.slice Bd md dd) := by rw [blk_cell hgbd]; rfl
        have f1d : (v5.setCell ⟨g, 1, none⟩ (.slice Pc Y.length tc)).cell? ⟨g, 1, none⟩ = some (.slice Ed kd ed) := by rw [blk_cell hgbd]; rfl
        have HLd := Lib.hid hsld
        have HRd := Lib.hid hsrd
        clear hsld hsrd
        have r0d : (v5.setCell ⟨g, 1, none⟩ (.slice Pc Y.length tc)).cell? ⟨w.heap.size + 1, 0, none⟩ = some (.slice none 0 0) := by rw [blk_cell hrbd]; rfl
        have r1d : (v5.setCell ⟨g, 1, none⟩ (.slice Pc Y.length tc)).cell? ⟨w.heap.size + 1, 1, none⟩ = some (.slice none 0 0) := by rw [blk_cell hrbd]; rfl
        have z0d := blk_frozen hrbd 0
        have z1d := blk_frozen hrbd 1
        have HRBd := Lib.hid hrbd
        clear hrbd hgbd
        go_wp2_with fail
        (try simp only [Exit.inBlock, Exit.then])
        refine bodyPost_ret (results_cell_row rfl _ _ (w.heap.size + 1) _ _ _ _ rfl (blk_set (blk_set HRBd.out 0 _) 1 _) Tryz.underlying29 rfl info2M) rfl ?_
        have hX := HX.out
        rw [mp_6g hme HKS.out hgl, HC5.out, HC6.out, HP1.out, HZb.out, HZc.out] at hX
        rw [← hX]
        exact H5.out.fin HLd.out HRd.out
end Go.Proofs.YtjcehejnolbkgaaGreat

/- An append as one step of a region that draws its order. -/
namespace Go.Proofs.YtjcehejnolbkgaaGreat
open Go.RowKit

theorem step_apprd {P : Program} (w : World) {ops : Array Oper} {o : Oper} {a : Act} {K : Act → World → Prop} {Q : Exit → Act → World → Prop} {E : Prop} (hgd : o.guard = none) (s x : Operand) (t : TypeId)
    (ho : o.op = .call { callee := .builtin .append, args := #[s, x], argTypes := #[t, t] })
    (base : Nat) (e : TypeId) (i : TypeInfo) (z : Value) (size bytes : Nat) (ht : P.underlying t = some (.slice e)) (hi : P.info? e = some i) (hz : i.zero = some z)
    (hsize : i.size = size) (hby : i.bytes = bytes) (hzs : z.cells.size = size) (hsz : 0 < size)
    (v : Value) (n : Nat) (xs : List Value) (hs : a.eval s = v) (hown : w.ownsRow base e size v n xs)
    (vx : Value) (m : Nat) (news : List Value) (hx : a.eval x = vx) (hr : Rd w size vx m news) (h1 : ∀ u ∈ news, u.oneCell' = true)
    (h63 : n + m ≤ maxLen) (hbytes : (n + m) * bytes ≤ 140737488355328) (hbase : base ≤ w.heap.size)
    (h : ∀ v' w', w'.ownsRow base e size v' (n + m) (xs ++ news) → w.grownBy w' v.ownBlock → K (a.put o.dst v') w') :
    if Region.wanted o (yielded ops a.tmps) = true then Oper.wp P o a w K Q else E := by
  have hw : Region.wanted o (yielded ops a.tmps) = true := by simp [Region.wanted, hgd]
  rw [if_pos hw]
  obtain ⟨hl, _, hr⟩ := hr
  rcases hr with ⟨rfl, rfl⟩ | ⟨b, of, c, rfl, _, _, _, hc⟩
  · have hnews : news = [] := List.eq_nil_of_length_eq_zero (by simpa using hl)
    subst hnews
    have hrun := run_append_owned_none (P := P) w base t o.type e i size ht hi v n xs hown
    unfold Oper.wp execOp
    simp only [ho, resolve, invoke, builtin, Sem.run_bind, Sem.run_pure, Result.andThen_ok, List.map_toArray, List.map_cons, List.map_nil, hs, hx, hrun]
    exact h v w (by simpa using hown) (World.grownBy.refl _ _)
  · obtain ⟨v', w', hrun, h2, h3, _, _⟩ := run_append_own_at (P := P) w base t o.type e i z size bytes ht hi hz hsize hby hzs hsz v n xs hown ⟨b, of, none⟩ m c news hl (fun j u hu => by rw [Addr.add_lit]; exact hc j u hu) h1 h63 hbytes hbase
    unfold Oper.wp execOp
    simp only [ho, resolve, invoke, builtin, Sem.run_bind, Sem.run_pure, Result.andThen_ok, List.map_toArray, List.map_cons, List.map_nil, hs, hx, hrun]
    exact h v' w' h2 h3

end Go.Proofs.YtjcehejnolbkgaaGreat

/- l11On, l11Sequents of the reference. -/
namespace Go.Proofs.YtjcehejnolbkgaaGreat
open Go.RowKit
open Fm (Nd Tree)

/-- Is a main formula of a kind on a side? Its parts. -/
noncomputable def onF (L : List ByteArray) (m : ByteArray) (k : Int) : ByteArray × ByteArray × Bool :=
  if dc (m ∈ L) && (kS m == k) then (if k = 5 ∨ k = 6 then (p1S m, ⟨#[]⟩, true) else (p1S m, p2S m, true)) else (⟨#[]⟩, ⟨#[]⟩, false)
theorem on_no1 {L : List ByteArray} {m : ByteArray} {k : Int} (h : dc (m ∈ L) = false) : onF L m k = (⟨#[]⟩, ⟨#[]⟩, false) := by unfold onF; rw [h]; rfl
theorem on_no2 {L : List ByteArray} {m : ByteArray} {k : Int} (h : (kS m == k) = false) : onF L m k = (⟨#[]⟩, ⟨#[]⟩, false) := by unfold onF; rw [h, Bool.and_false]; rfl
theorem on_1 {L : List ByteArray} {m : ByteArray} {k : Int} (h : dc (m ∈ L) = true) (hk : kS m = k) (h5 : k = 5 ∨ k = 6) : onF L m k = (p1S m, ⟨#[]⟩, true) := by unfold onF; rw [h, hk, if_pos (by simp), if_pos h5]
theorem on_2 {L : List ByteArray} {m : ByteArray} {k : Int} (h : dc (m ∈ L) = true) (hk : kS m = k) (h5 : ¬ (k = 5 ∨ k = 6)) : onF L m k = (p1S m, p2S m, true) := by unfold onF; rw [h, hk, if_pos (by simp), if_neg h5]

set_option maxHeartbeats 2000000 in
theorem l11On_c (v : Value) (L : List ByteArray) (m : ByteArray) (k : Int) (w : World) (h : Strs w v L) (hg : ∀ i, i < L.length → gd (st L i) = true) (hn : L.length ≤ 16) (hmz : m.size ≤ 1048576) (hk : k = 2 ∨ k = 3 ∨ k = 4 ∨ k = 5 ∨ k = 6) :
    Calls Tryz.prog 30 #[v, .string m, .int .i64 k] w fun e w' => e = .returned (.tuple #[.string (onF L m k).1, .string (onF L m k).2.1, .bool (onF L m k).2.2]) ∧ Grew w w' := by
  have KS := Lib.hid (l01Says_c v L m w h (by omega))
  have HG : Hid (dc (m ∈ L) = true → gd m = true) := Lib.hid (fun h => by
    obtain ⟨i, hi, he⟩ := List.getElem_of_mem (of_dc h)
    have := hg i hi
    rw [← st_get hi, he] at this
    exact this)
  have KP := Lib.hid (fun (hm : gd m = true) W => show Calls Tryz.prog 46 #[.string m] W (fun e w' => ∃ v, e = .returned (.tuple #[v, .bool true]) ∧ Own w' W.heap.size v (Fm.enc (fg m)) ∧ Grew W w') from by
    have := l02Good_c m W (by omega)
    unfold GivesG at this
    rwa [(fg_ok hm).1, hm] at this)
  have HLN : Hid (gd m = true → (Fm.enc (fg m)).length ≤ 40) := Lib.hid (fun h => (fg_ok h).2.2)
  have KA := Lib.hid (fun W => l02Parts_c k W)
  have r0 := Grew.refl w
  obtain ⟨A, cA, rfl⟩ := strs_slice h
  clear h hg hmz
  generalize hX : onF L m k = X at *
  have HX := Lib.hid hX
  clear hX
  generalize L.length = n at *
  go_enter Tryz.func30, Tryz.ntmps30
  go_wp2_with fail
  refine KS.out.mono ?_
  rintro e w1 ⟨rfl, hg1⟩
  cases hml : dc (m ∈ L) with
  | false =>
    go_wp2_with fail
    go_ret3
    have hX := HX.out
    rw [on_no1 hml] at hX
    rw [← hX]
    exact ⟨rfl, hg1⟩
  | true =>
  have hgm := HG.out hml
  have hln := HLN.out hgm
  have KP := Lib.hid (KP.out hgm)
  go_wp2_with fail
  refine (KP.out _).mono ?_
  rintro e w2 ⟨va, rfl, hn2, hg2⟩
  obtain ⟨ba, oa, ca, rfl, hca, hcm, hk0⟩ := nodes_head hn2.nodes
  have k2 := hk0 _ (Grew.refl _)
  have hpos := Fm.enc_pos (fg m)
  have hpi : (0 : Int) < ((Fm.enc (fg m)).length : Int) := by omega
  have h2 := hg1.trans hg2
  have HN := Lib.hid hn2.nodes
  have hks : kS m = kindOf (fg m) := rfl
  have HKS := Lib.hid hks
  clear hk0 hn2 hg1 hg2 hks
  by_cases hkk : kindOf (fg m) = k
  case neg =>
    have hne : (kindOf (fg m) == k) = false := by simpa using hkk
    generalize kindOf (fg m) = kk at *
    go_wp2_with fail
    go_ret3
    have hX := HX.out
    rw [on_no2 (by rw [HKS.out]; exact hne)] at hX
    rw [← hX]
    exact ⟨rfl, h2⟩
  rw [hkk] at k2
  by_cases h56 : k = 5 ∨ k = 6
  · have ha : (Fm.arity k : Int) = 1 := by unfold Fm.arity; rw [if_neg (by omega), if_pos h56]; rfl
    rw [ha] at KA
    obtain ⟨hc1, htl⟩ := tail_one (by rw [hkk]; exact h56) HN.out hca
    have hpl : (Fm.enc (pl1 (fg m))).length ≤ 40 := by have := one_of_kind (A := fg m) (by rw [hkk]; exact h56); rw [this] at hln; simp at hln; omega
    have KT := Lib.hid (fun W (hW : Grew w2 W) => l02Text_c (pl1 (fg m)) _ W (htl.grew hW) (by omega))
    have e1 : bs (Fm.txt (pl1 (fg m)) 0) = p1S m := rfl
    unfold Says at KT
    rw [e1] at KT
    clear e1 htl ha
    generalize hpp : p1S m = pp at *
    have HPP := Lib.hid hpp
    clear hpp
    go_wp2_with fail
    refine (KA.out _).mono ?_
    rintro e w3 ⟨rfl, hg3⟩
    go_wp2_with fail
    refine (KT.out _ hg3).mono ?_
    rintro e w4 ⟨rfl, hg4⟩
    go_wp2_with fail
    go_ret3
    have hX := HX.out
    rw [on_1 hml (HKS.out.trans hkk) h56, HPP.out] at hX
    rw [← hX]
    exact ⟨rfl, h2.trans (hg3.trans hg4)⟩
  · have hk3 : k = 2 ∨ k = 3 ∨ k = 4 := by omega
    have ha : (Fm.arity k : Int) = 2 := by unfold Fm.arity; rw [if_pos hk3]; rfl
    rw [ha] at KA
    have h2f := two_of_kind (A := fg m) (by rw [hkk]; exact hk3)
    have hlen := h2f.len
    have KL := Lib.hid (fun W (hW : Grew w2 W) => l02Left_c _ (Fm.enc (fg m)) (pl1 (fg m)) W (HN.out.grew hW) (by omega) (at_first h2f))
    have KR := Lib.hid (fun W (hW : Grew w2 W) => l02Right_c _ (Fm.enc (fg m)) (pl1 (fg m)) (pl2 (fg m)) W (HN.out.grew hW) (by omega) (at_first h2f) (at_second h2f) h2f.len)
    have K1 := Lib.hid (fun v W hW => l02Text_c (pl1 (fg m)) v W hW (by omega))
    have K2 := Lib.hid (fun v W hW => l02Text_c (pl2 (fg m)) v W hW (by omega))
    have e1 : bs (Fm.txt (pl1 (fg m)) 0) = p1S m := rfl
    have e2 : bs (Fm.txt (pl2 (fg m)) 0) = p2S m := rfl
    unfold Says at K1 K2
    rw [e1] at K1
    rw [e2] at K2
    clear e1 e2 ha hlen h2f
    generalize hpp : p1S m = pp at *
    have HPP := Lib.hid hpp
    clear hpp
    generalize hpq : p2S m = pq at *
    have HPQ := Lib.hid hpq
    clear hpq
    go_wp2_with fail
    refine (KA.out _).mono ?_
    rintro e w3 ⟨rfl, hg3⟩
    go_wp2_with fail
    refine (KL.out _ hg3).mono ?_
    rintro e w4 ⟨u4, rfl, hn4, hg4⟩
    have K1' := Lib.hid (K1.out _ _ hn4)
    obtain ⟨B4, d4, rfl⟩ := nodes_slice hn4
    clear hn4
    have h24 := hg3.trans hg4
    go_wp2_with fail
    refine K1'.out.mono ?_
    rintro e w5 ⟨rfl, hg5⟩
    have h25 := h24.trans hg5
    go_wp2_with fail
    refine (KR.out _ h25).mono ?_
    rintro e w6 ⟨u6, rfl, hn6, hg6⟩
    have K2' := Lib.hid (K2.out _ _ hn6)
    obtain ⟨B6, d6, rfl⟩ := nodes_slice hn6
    clear hn6
    go_wp2_with fail
    refine K2'.out.mono ?_
    rintro e w7 ⟨rfl, hg7⟩
    go_wp2_with fail
    go_ret3
    have hX := HX.out
    rw [on_2 hml (HKS.out.trans hkk) h56, HPP.out, HPQ.out] at hX
    rw [← hX]
    exact ⟨rfl, h2.trans (h25.trans (hg6.trans hg7))⟩

/-- 'append(out, x)' as one step of a region. -/
theorem step_appM {ops : Array Oper} {o : Oper} {a : Act} {K : Act → World → Prop} {Q : Exit → Act → World → Prop} {E : Prop} {w : World} (B H : Nat) (hgd : o.guard = none) (s x : Operand)
    (ho : o.op = .call { callee := .builtin .append, args := #[s, x], argTypes := #[26, 26] })
    (v : Value) (xs : List Ms) (us : List Value) (hs : a.eval s = v) (hown : OwnMp w B v xs us) (hB : B ≤ w.heap.size) (vx u1 u2 : Value) (j : Ms) (hx : a.eval x = vx) (hr : Rd w 2 vx 1 [u1, u2])
    (hu : OwnS w H u1 j.1) (hv : OwnS w H u2 j.2) (hap : Apart u1 u2) (hBH : B ≤ H) (hH : ∀ u ∈ us, ∀ b, u.ownBlock = some b → b < H) (hn : xs.length ≤ 1048576)
    (h : ∀ v' w', OwnMp w' B v' (xs ++ [j]) (us ++ [u1, u2]) → w.grownBy w' v.ownBlock → K (a.put o.dst v') w') : if Region.wanted o (yielded ops a.tmps) = true then Oper.wp Tryz.prog o a w K Q else E := by
  obtain ⟨i0, hi0, hz0, hz1, hz2⟩ := info_parts infoMs
  have hu1 : u1.oneCell' = true := by
    obtain ⟨A, c, rfl⟩ := strs_slice hu.strs
    rfl
  have hu2 : u2.oneCell' = true := by
    obtain ⟨A, c, rfl⟩ := strs_slice hv.strs
    rfl
  have hlen := hown.len
  refine step_apprd w hgd s x _ ho B 29 i0 _ 2 48 Tryz.underlying26 hi0 hz0 hz1 hz2 rfl (by omega) v xs.length us hs hown.row vx 1 [u1, u2] hx hr (by intro y hy; simp at hy; rcases hy with rfl | rfl; exact hu1; exact hu2) (by unfold maxLen; omega) (by omega) hB ?_
  intro v' w' k1 k2
  exact h v' w' (hown.snoc k1 k2 hu hv hap hBH hH) k2
theorem OwnMp.rd {w : World} {B : Nat} {v : Value} {xs : List Ms} {us : List Value} (h : OwnMp w B v xs us) : RdM w v xs := by
  have hlen := h.len
  obtain ⟨_, _, h3⟩ := Rd.of_own h.row
  rcases h3 with ⟨h4, h5⟩ | ⟨b, o, c, h4, h5, h6, h7, h8⟩
  · exact .inl ⟨h4, List.eq_nil_of_length_eq_zero h5⟩
  · refine .inr ⟨b, o, c, h4, h5, h6, h7, fun i x hx => ?_⟩
    have hi := (List.getElem?_eq_some_iff.1 hx).1
    have e1 : us[i * 2]? = some us[i * 2] := List.getElem?_eq_getElem (by omega)
    have e2 : us[i * 2 + 1]? = some us[i * 2 + 1] := List.getElem?_eq_getElem (by omega)
    have s1 := (h.inn _ _ e1).strs
    have s2 := (h.inn _ _ e2).strs
    rw [mrow_l hx] at s1
    rw [mrow_r hx] at s2
    obtain ⟨A1, c1, f1⟩ := strs_slice s1
    obtain ⟨A2, c2, f2⟩ := strs_slice s2
    rw [f1] at s1 e1
    rw [f2] at s2 e2
    exact ⟨A1, _, c1, A2, _, c2, ⟨h8 _ _ e1, h8 _ _ e2⟩, s1, s2⟩
/-- A literal of sides. -/
def SdR (w : World) (v : Value) (xs : List Ms) : Prop := ∃ g, v = .slice (some ⟨g, 0, none⟩) (xs.length * 2) (xs.length * 2) ∧ ∀ i x, xs[i]? = some x → ∃ A1 c1 A2 c2, (∀ W, Grew w W → W.cell? ⟨g, i * 2, none⟩ = some (.slice A1 x.1.length c1) ∧ W.cell? ⟨g, i * 2 + 1, none⟩ = some (.slice A2 x.2.length c2)) ∧ Strs w (.slice A1 x.1.length c1) x.1 ∧ Strs w (.slice A2 x.2.length c2) x.2
set_option maxHeartbeats 4000000 in
theorem l11Sequents_c (v : Value) (xs : List Ms) (w : World) (h : SdR w v xs) (hn : xs.length ≤ 1000) (hl : ∀ x ∈ xs, x.1.length ≤ 1048576 ∧ x.2.length ≤ 1048576) :
    Calls Tryz.prog 31 #[v] w fun e w' => ∃ u, e = .returned u ∧ RdM w' u xs ∧ Grew w w' := by
  obtain ⟨g, rfl, hcell⟩ := h
  have HX := Lib.hid (fun j (hj : j < xs.length) => (⟨xs[j], List.getElem?_eq_getElem hj, hl _ (List.getElem_mem hj)⟩ : ∃ x, xs[j]? = some x ∧ x.1.length ≤ 1048576 ∧ x.2.length ≤ 1048576))
  have HT := Lib.hid (fun j x (hx : xs[j]? = some x) => show xs.take (j + 1) = xs.take j ++ [x] from by
    rw [List.take_add_one, hx]; rfl)
  have HE : Hid (xs.take xs.length = xs) := Lib.hid List.take_length
  have HTL := Lib.hid (fun j (hj : j ≤ xs.length) => show (xs.take j).length = j from by rw [List.length_take]; omega)
  have HC := Lib.hid hcell
  have he : OwnMp (w.alloc (.cells #[] 29)) w.heap.size (.slice (some ⟨w.heap.size, 0, none⟩) 0 0) [] [] := ⟨World.ownsRow_lit (e := 29) (size := 2) w #[] 0 (Nat.le_refl _) (by omega) rfl, fun j u h => by simp at h, List.Pairwise.nil⟩
  have hg0 := (Grew.refl w).alloc (.cells #[] 29)
  clear hcell hl
  generalize hN : xs.length = n at *
  have HN := Lib.hid hN
  clear hN
  generalize hn2 : n * 2 = n2 at *
  have HN2 := Lib.hid hn2
  clear hn2
  go_enter Tryz.func31, Tryz.ntmps31
  go_wp2_with fail
  go_loopw [3, 4] (fun q i wr => ∃ (j jj : Nat) (us : List Value), j ≤ n ∧ i = .int .i64 (jj : Int) ∧ Hid (jj = j * 2) ∧ Hid (OwnMp wr w.heap.size q (xs.take j) us) ∧ Grew w wr) (fun _ i _ => n2 - (intOf i).toNat)
  case atStart => exact ⟨0, 0, [], Nat.zero_le _, rfl, Lib.hid rfl, Lib.hid he, hg0⟩
  case round =>
    obtain ⟨j, jj, us, hj, rfl, HJ, HO, hB⟩ := hrel
    obtain ⟨AQ, cQ, rfl⟩ := HO.out.slice
    have htl := HTL.out j hj
    rw [htl] at HO ⊢
    by_cases hlt : j < n
    · obtain ⟨x, hx, hl1, hl2⟩ := HX.out j hlt
      obtain ⟨A1, c1, A2, c2, hcl, hs1, hs2⟩ := HC.out j x hx
      have k0 := fun W (hW : Grew w W) => (hcl W hW).1
      have k1 := fun W (hW : Grew w W) => (hcl W hW).2
      have ht := Lib.hid (HT.out j x hx)
      have K1 := Lib.hid (fun W (hW : Grew w W) => copyL_c _ x.1 W (hs1.grew hW) (by omega))
      have K2 := Lib.hid (fun W (hW : Grew w W) => copyL_c _ x.2 W (hs2.grew hW) (by omega))
      have hdd : Grew w wr.drew := hB.drew
      have hO := HO.out.grew (Grew.refl wr).drew
      have hzz : wr.drew.heap.size = wr.heap.size := rfl
      have hwz := hB.size
      have hbel := fun u hu b hb => HO.out.below u hu b hb
      have HBEL := Lib.hid hbel
      clear hbel
      have hjn : jj + 1 < n2 := by have := HJ.out; have := HN2.out; omega
      have hj2 : n2 ≤ 2000 := by have := HN2.out; omega
      have hjl : jj < n2 := by omega
      have hwr : IntKind.i64.wrap ((jj : Int) + 1) = (jj : Int) + 1 := by rw [IntKind.wrap_i64]; omega
      have htn : ((jj : Int) + 1).toNat = jj + 1 := by omega
      have hb0 : (0 : Int) ≤ (jj : Int) + 1 := by omega
      rw [← HJ.out] at k0 k1
      clear hcl hx hs1 hs2
      go_wp2_with fail
      refine wp_region_held_drew (S := fun w' => Grew w w') (by kernel_rfl) hdd (fun hHeld => ?_)
      refine wpAnyH_take (i := 0) (oi := ?on1) (v := ?vn1) ?hin1 ?an1 ?bn1 ?cn1 ?qn1 (Or.inl ⟨?dn1, ?hyn1⟩) hHeld ?restn1
      case hin1 => (simp only [List.getElem?_toArray, List.getElem?_cons_zero]; exact rfl)
      case an1 => kernel_rfl
      case bn1 => kernel_rfl
      case cn1 => kernel_rfl
      case qn1 => exact fun _ _ _ h => h
      case dn1 => rfl
      case hyn1 => (intro z hSw; (try dsimp only at hSw); go_simp; (try with_reducible rfl))
      try simp only [Act.put, List.setIfInBounds_toArray, List.set_cons_zero, List.set_cons_succ]
      refine wpAnyH_take (i := 1) (oi := ?on2) (v := ?vn2) ?hin2 ?an2 ?bn2 ?cn2 ?qn2 (Or.inl ⟨?dn2, ?hyn2⟩) hHeld ?restn2
      case hin2 => (simp only [List.getElem?_toArray, List.getElem?_cons_succ, List.getElem?_cons_zero]; exact rfl)
      case an2 => kernel_rfl
      case bn2 => kernel_rfl
      case cn2 => kernel_rfl
      case qn2 => exact fun _ _ _ h => h
      case dn2 => rfl
      case hyn2 => (intro z hSw; (try dsimp only at hSw); go_simp; (try with_reducible rfl))
      try simp only [Act.put, List.setIfInBounds_toArray, List.set_cons_zero, List.set_cons_succ]
      refine wpAnyH_take (i := 2) (oi := ?on3) (v := ?vn3) ?hin3 ?an3 ?bn3 ?cn3 ?qn3 (Or.inl ⟨?dn3, ?hyn3⟩) hHeld ?restn3
      case hin3 => (simp only [List.getElem?_toArray, List.getElem?_cons_succ, List.getElem?_cons_zero]; exact rfl)
      case an3 => kernel_rfl
      case bn3 => kernel_rfl
      case cn3 => kernel_rfl
      case qn3 => exact fun _ _ _ h => h
      case dn3 => rfl
      case hyn3 => (intro z hSw; (try dsimp only at hSw); go_simp; (try with_reducible rfl))
      try simp only [Act.put, List.setIfInBounds_toArray, List.set_cons_zero, List.set_cons_succ]
      refine wpAnyH_take (i := 3) (oi := ?on4) (v := ?vn4) ?hin4 ?an4 ?bn4 ?cn4 ?qn4 (Or.inl ⟨?dn4, ?hyn4⟩) hHeld ?restn4
      case hin4 => (simp only [List.getElem?_toArray, List.getElem?_cons_succ, List.getElem?_cons_zero]; exact rfl)
      case an4 => kernel_rfl
      case bn4 => kernel_rfl
      case cn4 => kernel_rfl
      case qn4 => exact fun _ _ _ h => h
      case dn4 => rfl
      case hyn4 => (intro z hSw; (try dsimp only at hSw); go_simp; (try with_reducible rfl))
      try simp only [Act.put, List.setIfInBounds_toArray, List.set_cons_zero, List.set_cons_succ]
      refine wpAnyH_take (i := 4) (oi := ?on5) (v := ?vn5) ?hin5 ?an5 ?bn5 ?cn5 ?qn5 (Or.inl ⟨?dn5, ?hyn5⟩) hHeld ?restn5
      case hin5 => (simp only [List.getElem?_toArray, List.getElem?_cons_succ, List.getElem?_cons_zero]; exact rfl)
      case an5 => kernel_rfl
      case bn5 => kernel_rfl
      case cn5 => kernel_rfl
      case qn5 => exact fun _ _ _ h => h
      case dn5 => rfl
      case hyn5 => (intro z hSw; (try dsimp only at hSw); go_simp; (try with_reducible rfl))
      try simp only [Act.put, List.setIfInBounds_toArray, List.set_cons_zero, List.set_cons_succ]
      refine wpAnyH_take (i := 6) (oi := ?on6) (v := ?vn6) ?hin6 ?an6 ?bn6 ?cn6 ?qn6 (Or.inl ⟨?dn6, ?hyn6⟩) hHeld ?restn6
      case hin6 => (simp only [List.getElem?_toArray, List.getElem?_cons_succ, List.getElem?_cons_zero]; exact rfl)
      case an6 => kernel_rfl
      case bn6 => kernel_rfl
      case cn6 => kernel_rfl
      case qn6 => exact fun _ _ _ h => h
      case dn6 => rfl
      case hyn6 => (intro z hSw; (try dsimp only at hSw); go_simp; (try with_reducible rfl))
      try simp only [Act.put, List.setIfInBounds_toArray, List.set_cons_zero, List.set_cons_succ]
      refine wpAnyH_take (i := 7) (oi := ?on7) (v := ?vn7) ?hin7 ?an7 ?bn7 ?cn7 ?qn7 (Or.inl ⟨?dn7, ?hyn7⟩) hHeld ?restn7
      case hin7 => (simp only [List.getElem?_toArray, List.getElem?_cons_succ, List.getElem?_cons_zero]; exact rfl)
      case an7 => kernel_rfl
      case bn7 => kernel_rfl
      case cn7 => kernel_rfl
      case qn7 => exact fun _ _ _ h => h
      case dn7 => rfl
      case hyn7 => (intro z hSw; (try dsimp only at hSw); go_simp; (try with_reducible rfl))
      try simp only [Act.put, List.setIfInBounds_toArray, List.set_cons_zero, List.set_cons_succ]
      refine wpAnyH_take (i := 8) (oi := ?on8) (v := ?vn8) ?hin8 ?an8 ?bn8 ?cn8 ?qn8 (Or.inl ⟨?dn8, ?hyn8⟩) hHeld ?restn8
      case hin8 => (simp only [List.getElem?_toArray, List.getElem?_cons_succ, List.getElem?_cons_zero]; exact rfl)
      case an8 => kernel_rfl
      case bn8 => kernel_rfl
      case cn8 => kernel_rfl
      case qn8 => exact fun _ _ _ h => h
      case dn8 => rfl
      case hyn8 => (intro z hSw; (try dsimp only at hSw); go_simp; (try with_reducible rfl))
      try simp only [Act.put, List.setIfInBounds_toArray, List.set_cons_zero, List.set_cons_succ]
      refine wpAnyH_take (i := 9) (oi := ?on9) (v := ?vn9) ?hin9 ?an9 ?bn9 ?cn9 ?qn9 (Or.inl ⟨?dn9, ?hyn9⟩) hHeld ?restn9
      case hin9 => (simp only [List.getElem?_toArray, List.getElem?_cons_succ, List.getElem?_cons_zero]; exact rfl)
      case an9 => kernel_rfl
      case bn9 => kernel_rfl
      case cn9 => kernel_rfl
      case qn9 => exact fun _ _ _ h => h
      case dn9 => rfl
      case hyn9 => (intro z hSw; (try dsimp only at hSw); go_simp; (try with_reducible rfl))
      try simp only [Act.put, List.setIfInBounds_toArray, List.set_cons_zero, List.set_cons_succ]
      refine wpAnyH_take (i := 10) (oi := ?on10) (v := ?vn10) ?hin10 ?an10 ?bn10 ?cn10 ?qn10 (Or.inl ⟨?dn10, ?hyn10⟩) hHeld ?restn10
      case hin10 => (simp only [List.getElem?_toArray, List.getElem?_cons_succ, List.getElem?_cons_zero]; exact rfl)
      case an10 => kernel_rfl
      case bn10 => kernel_rfl
      case cn10 => kernel_rfl
      case qn10 => exact fun _ _ _ h => h
      case dn10 => rfl
      case hyn10 => (intro z hSw; (try dsimp only at hSw); go_simp; (try with_reducible rfl))
      try simp only [Act.put, List.setIfInBounds_toArray, List.set_cons_zero, List.set_cons_succ]
      refine wpAnyH_ready (rs := [5]) (by kernel_rfl) (by simp) ?_
      refine AllReadyH.cons (o := ?on11) ?hin11 ?restn11 AllReadyH.nil
      case hin11 => (simp only [List.getElem?_toArray, List.getElem?_cons_succ, List.getElem?_cons_zero]; exact rfl)
      intro K hK
      go_simp
      go_at_call 51
      refine (K1.out _ hdd).mono ?_
      rintro e x1 ⟨u1, rfl, hu1, hgx1⟩
      have hx1 : Grew w x1 := hdd.trans hgx1
      have zx1 := hgx1.size
      obtain ⟨B1, d1, rfl⟩ := strs_slice hu1.strs
      replace hO := hO.grew hgx1
      refine hK.out _ _ ?_ (fun hHeld => ?_)
      · (try dsimp only); first | with_reducible assumption | exact hx1
      clear hK K
      try simp only [Act.put, List.setIfInBounds_toArray, List.set_cons_zero, List.set_cons_succ]
      refine wpAnyH_ready (rs := [11]) (by kernel_rfl) (by simp) ?_
      refine AllReadyH.cons (o := ?on12) ?hin12 ?restn12 AllReadyH.nil
      case hin12 => (simp only [List.getElem?_toArray, List.getElem?_cons_succ, List.getElem?_cons_zero]; exact rfl)
      intro K hK
      go_simp
      go_at_call 51
      refine (K2.out _ hx1).mono ?_
      rintro e x2 ⟨u2, rfl, hu2, hgx2⟩
      have hx2 : Grew w x2 := hx1.trans hgx2
      have zx2 := hgx2.size
      obtain ⟨B2, d2, rfl⟩ := strs_slice hu2.strs
      replace hO := hO.grew hgx2
      have hap : Apart (.slice B1 x.1.length d1) (.slice B2 x.2.length d2) := fun g hg hg2 => by have h1 := (World.ownsRow.lt hu1 g hg).2; have h2 := own_of_ge hu2 hg2; omega
      replace hu1 := hu1.grew hgx2
      refine hK.out _ _ ?_ (fun hHeld => ?_)
      · (try dsimp only); first | with_reducible assumption | exact hx2
      clear hK K
      try simp only [Act.put, List.setIfInBounds_toArray, List.set_cons_zero, List.set_cons_succ]
      refine wpAnyH_take (i := 12) (oi := ?on13) (v := ?vn13) ?hin13 ?an13 ?bn13 ?cn13 ?qn13 (Or.inl ⟨?dn13, ?hyn13⟩) hHeld ?restn13
      case hin13 => (simp only [List.getElem?_toArray, List.getElem?_cons_succ, List.getElem?_cons_zero]; exact rfl)
      case an13 => kernel_rfl
      case bn13 => kernel_rfl
      case cn13 => kernel_rfl
      case qn13 => exact fun _ _ _ h => h
      case dn13 => rfl
      case hyn13 => (intro z hSw; (try dsimp only at hSw); go_simp; (try with_reducible rfl))
      try simp only [Act.put, List.setIfInBounds_toArray, List.set_cons_zero, List.set_cons_succ]
      refine wpAnyH_ready (rs := [13]) (by kernel_rfl) (by simp) ?_
      refine AllReadyH.cons (o := ?on14) ?hin14 ?restn14 AllReadyH.nil
      case hin14 => (simp only [List.getElem?_toArray, List.getElem?_cons_succ, List.getElem?_cons_zero]; exact rfl)
      intro K hK
      go_simp
      obtain ⟨x3, hwx3⟩ : ∃ W, W = x2.alloc (.cells #[.slice B1 x.1.length d1, .slice B2 x.2.length d2] 29) := ⟨_, rfl⟩
      have hgx3 : Grew x2 x3 := by rw [hwx3]; exact (Grew.refl _).alloc _
      have hx3 : Grew w x3 := hx2.trans hgx3
      have zx3 := hgx3.size
      have hlit : Rd x3 2 (.slice (some ⟨x2.heap.size, 0, none⟩) 1 1) 1 [.slice B1 x.1.length d1, .slice B2 x.2.length d2] := by
        refine ⟨rfl, by omega, .inr ⟨x2.heap.size, 0, 1, rfl, by omega, by omega, by rw [hwx3]; simp, fun i u hi => ?_⟩⟩
        rw [hwx3, blk_cell (blk_new x2 _), Nat.zero_add]
        simpa using hi
      try simp only [← hwx3]
      clear hwx3
      replace hO := hO.grew hgx3
      replace hu1 := hu1.grew hgx3
      replace hu2 := hu2.grew hgx3
      refine hK.out _ _ ?_ (fun hHeld => ?_)
      · (try dsimp only); first | with_reducible assumption | exact hx3
      clear hK K
      try simp only [Act.put, List.setIfInBounds_toArray, List.set_cons_zero, List.set_cons_succ]
      refine wpAnyH_ready (rs := [14]) (by kernel_rfl) (by simp) ?_
      refine AllReadyH.cons (o := ?on15) ?hin15 ?restn15 AllReadyH.nil
      case hin15 => (simp only [List.getElem?_toArray, List.getElem?_cons_succ, List.getElem?_cons_zero]; exact rfl)
      intro K hK
      refine step_appM w.heap.size wr.heap.size rfl (.tmp 13) (.tmp 26) rfl (.slice AQ j cQ) (xs.take j) us rfl hO (by omega) (.slice (some ⟨x2.heap.size, 0, none⟩) 1 1) _ _ x rfl hlit (own_base hu1 (by omega)) (own_base hu2 (by omega)) hap (by omega) (fun u hu b hb => HBEL.out u hu b hb) (by omega) ?_
      intro v5 x4 hown5 hg5
      obtain ⟨A5, c5, rfl⟩ := hown5.slice
      have hx4 : Grew w x4 := hx3.grown hg5 (fun g hg => by have := own_of_ge hO.row hg; omega)
      have HFIN := Lib.hid hown5
      clear hown5 hg5
      refine hK.out _ _ ?_ (fun hHeld => ?_)
      · (try dsimp only); first | with_reducible assumption | exact hx4
      clear hK K
      try simp only [Act.put, List.setIfInBounds_toArray, List.set_cons_zero, List.set_cons_succ]
      refine wpAnyH_take (i := 15) (oi := ?on16) (v := ?vn16) ?hin16 ?an16 ?bn16 ?cn16 ?qn16 (Or.inl ⟨?dn16, ?hyn16⟩) hHeld ?restn16
      case hin16 => (simp only [List.getElem?_toArray, List.getElem?_cons_succ, List.getElem?_cons_zero]; exact rfl)
      case an16 => kernel_rfl
      case bn16 => kernel_rfl
      case cn16 => kernel_rfl
      case qn16 => exact fun _ _ _ h => h
      case dn16 => rfl
      case hyn16 => (intro z hSw; (try dsimp only at hSw); go_simp; (try with_reducible rfl))
      try simp only [Act.put, List.setIfInBounds_toArray, List.set_cons_zero, List.set_cons_succ]
      refine wpAnyH_done (by kernel_rfl) ?_ _
      clear hO hu1 hu2 hlit hap
      go_wp2_with fail
      go_roundw
      case rel =>
        have hF := HFIN.out
        have e1 : (xs.take j ++ [x]).length = j + 1 := by rw [List.length_append, HTL.out j hj]; rfl
        rw [e1] at hF
        exact ⟨j + 1, jj + 2, _, by omega, by go_num, Lib.hid (by have := HJ.out; omega), Lib.hid (by rw [ht.out]; simpa using hF), hx4⟩
      case measure => simp [intOf] <;> omega
    · obtain rfl : j = n := by omega
      have hge : ¬ (jj + 1 < n2) := by have := HJ.out; have := HN2.out; omega
      have hj2 : jj ≤ 2000 := by have := HJ.out; omega
      have ho := HO.out
      rw [HE.out] at ho
      have R := Lib.hid ho.rd
      clear ho HO
      go_wp2_with fail
      go_ret
      exact ⟨_, rfl, R.out, hB⟩
end Go.Proofs.YtjcehejnolbkgaaGreat

/- l11Local of the reference. -/
namespace Go.Proofs.YtjcehejnolbkgaaGreat
open Go.RowKit
open Fm (Nd Tree)

def GivesSl (w : World) (K : List ByteArray) (e : Ending) (w' : World) : Prop := ∃ A n c, e = .returned (.slice A n c) ∧ Strs w' (.slice A n c) K ∧ Grew w w'
theorem GivesPm.turn {w w' : World} {x y : List Ms × Bool} {e : Ending} (h : GivesPm w x e w') (h2 : x.2 = y.2) (h1 : x.2 = true → x.1 = y.1) : GivesPm w y e w' := by
  obtain ⟨A, n, c, e1, e2, e3⟩ := h
  exact ⟨A, n, c, by rw [← h2]; exact e1, fun hb => by rw [← h1 (h2.trans hb)]; exact e2 (h2.trans hb), e3⟩
theorem rdM_slice {w : World} {v : Value} {xs : List Ms} (h : RdM w v xs) : ∃ A n c, v = .slice A n c := by
  rcases h with ⟨h, _⟩ | ⟨b, o, c, h, _⟩
  · exact ⟨_, _, _, h⟩
  · exact ⟨_, _, _, h⟩
theorem ins_sl (A : Option Addr) (n c : Nat) (K : List ByteArray) (s : ByteArray) (W : World) (h : Strs W (.slice A n c) K) (hn : K.length ≤ 1048576) : Calls Tryz.prog 32 #[.slice A n c, .string s] W (GivesSl W (insA K s)) := by
  refine (l02InsertA_c _ K s W h hn).mono ?_
  rintro e w' ⟨u, rfl, hu, hg⟩
  obtain ⟨A', c', rfl⟩ := strs_slice hu
  exact ⟨_, _, _, rfl, hu, hg⟩
theorem wo_sl (A : Option Addr) (n c : Nat) (K : List ByteArray) (s : ByteArray) (W : World) (h : Strs W (.slice A n c) K) (hn : K.length ≤ 1048576) : Calls Tryz.prog 53 #[.slice A n c, .string s] W (GivesSl W (dropS K s)) := by
  refine (l11Without_c _ K s W h hn).mono ?_
  rintro e w' ⟨u, rfl, hu, hg⟩
  obtain ⟨A', c', rfl⟩ := strs_slice hu
  exact ⟨_, _, _, rfl, hu, hg⟩
theorem sq_sl (g n : Nat) (xs : List Ms) (W : World) (hz : n = xs.length * 2) (h : SdR W (.slice (some ⟨g, 0, none⟩) (xs.length * 2) (xs.length * 2)) xs) (hn : xs.length ≤ 1000) (hl : ∀ x ∈ xs, x.1.length ≤ 1048576 ∧ x.2.length ≤ 1048576) :
    Calls Tryz.prog 31 #[.slice (some ⟨g, 0, none⟩) n n] W fun e w' => ∃ A n c, e = .returned (.slice A n c) ∧ RdM w' (.slice A n c) xs ∧ Grew W w' := by
  rw [hz]
  refine (l11Sequents_c _ xs W h hn hl).mono ?_
  rintro e w' ⟨u, rfl, hu, hg⟩
  obtain ⟨A', n', c', rfl⟩ := rdM_slice hu
  exact ⟨_, _, _, rfl, hu, hg⟩
theorem sl_of {w : World} {A : Option Addr} {n c : Nat} {K : List ByteArray} (h : Strs w (.slice A n c) K) : n = K.length := by
  obtain ⟨A', c', e⟩ := strs_slice h
  injection e
theorem sdR_one {w : World} {g : Nat} {t : TypeId} {A1 A2 : Option Addr} {n1 c1 n2 c2 : Nat} {K1 K2 : List ByteArray} (h : w.heap[g]? = some (.cells #[.slice A1 n1 c1, .slice A2 n2 c2] t (0, 0))) (h1 : Strs w (.slice A1 n1 c1) K1) (h2 : Strs w (.slice A2 n2 c2) K2) :
    SdR w (.slice (some ⟨g, 0, none⟩) ([(K1, K2)].length * 2) ([(K1, K2)].length * 2)) [(K1, K2)] := by
  have e1 := sl_of h1
  have e2 := sl_of h2
  subst e1 e2
  refine ⟨g, rfl, fun i x hx => ?_⟩
  match i, hx with
  | 0, hx =>
    obtain rfl : (K1, K2) = x := by simpa using hx
    exact ⟨A1, c1, A2, c2, fun W hW => ⟨by rw [blk_cell ((hW.block (blk_lt h)).trans h)]; rfl, by rw [blk_cell ((hW.block (blk_lt h)).trans h)]; rfl⟩, h1, h2⟩
  | i + 1, hx => simp at hx
theorem sdR_two {w : World} {g : Nat} {t : TypeId} {A1 A2 A3 A4 : Option Addr} {n1 c1 n2 c2 n3 c3 n4 c4 : Nat} {K1 K2 K3 K4 : List ByteArray} (h : w.heap[g]? = some (.cells #[.slice A1 n1 c1, .slice A2 n2 c2, .slice A3 n3 c3, .slice A4 n4 c4] t (0, 0))) (h1 : Strs w (.slice A1 n1 c1) K1) (h2 : Strs w (.slice A2 n2 c2) K2) (h3 : Strs w (.slice A3 n3 c3) K3) (h4 : Strs w (.slice A4 n4 c4) K4) :
    SdR w (.slice (some ⟨g, 0, none⟩) ([(K1, K2), (K3, K4)].length * 2) ([(K1, K2), (K3, K4)].length * 2)) [(K1, K2), (K3, K4)] := by
  have e1 := sl_of h1
  have e2 := sl_of h2
  have e3 := sl_of h3
  have e4 := sl_of h4
  subst e1 e2 e3 e4
  refine ⟨g, rfl, fun i x hx => ?_⟩
  match i, hx with
  | 0, hx =>
    obtain rfl : (K1, K2) = x := by simpa using hx
    exact ⟨A1, c1, A2, c2, fun W hW => ⟨by rw [blk_cell ((hW.block (blk_lt h)).trans h)]; rfl, by rw [blk_cell ((hW.block (blk_lt h)).trans h)]; rfl⟩, h1, h2⟩
  | 1, hx =>
    obtain rfl : (K3, K4) = x := by simpa using hx
    exact ⟨A3, c3, A4, c4, fun W hW => ⟨by rw [blk_cell ((hW.block (blk_lt h)).trans h)]; rfl, by rw [blk_cell ((hW.block (blk_lt h)).trans h)]; rfl⟩, h3, h4⟩
  | i + 2, hx => simp at hx

set_option maxHeartbeats 4000000 in
set_option maxRecDepth 8192 in
theorem l11Local_1 (m : ByteArray) (va vb : Value) (L R : List ByteArray) (w : World) (ha : Strs w va L) (hb : Strs w vb R) (hnL : L.length ≤ 16) (hnR : R.length ≤ 16) :
    Calls Tryz.prog 34 #[.int .i64 1, .agg #[va, vb], .string m] w (GivesPm w ([], dc (m ∈ L) && dc (m ∈ R))) := by
  have hdL : (dropS L m).length ≤ 16 := Nat.le_trans (List.length_filter_le _ _) hnL
  have hdR : (dropS R m).length ≤ 16 := Nat.le_trans (List.length_filter_le _ _) hnR
  have KS0 := Lib.hid (fun W (hW : Grew w W) => l01Says_c va L m W (ha.grew hW) (by omega))
  have KS1 := Lib.hid (fun W (hW : Grew w W) => l01Says_c vb R m W (hb.grew hW) (by omega))
  obtain ⟨A1, c1, rfl⟩ := strs_slice ha
  obtain ⟨A2, c2, rfl⟩ := strs_slice hb
  obtain ⟨w1, hw1⟩ : ∃ w1, w1 = w.alloc (.cells #[.slice A1 L.length c1, .slice A2 R.length c2] 29) := ⟨_, rfl⟩
  have hg1 : Grew w w1 := by rw [hw1]; exact (Grew.refl w).alloc _
  have hb0 : w1.heap[w.heap.size]? = some (.cells #[.slice A1 L.length c1, .slice A2 R.length c2] 29 (0, 0)) := by rw [hw1]; exact blk_new w _
  have p0 : ∀ W, Grew w1 W → W.cell? ⟨w.heap.size, 0, none⟩ = some (.slice A1 L.length c1) := fun W hW => by rw [blk_cell ((hW.block (blk_lt hb0)).trans hb0)]; rfl
  have p1 : ∀ W, Grew w1 W → W.cell? ⟨w.heap.size, 1, none⟩ = some (.slice A2 R.length c2) := fun W hW => by rw [blk_cell ((hW.block (blk_lt hb0)).trans hb0)]; rfl
  have hL := ha.grew hg1
  have hR := hb.grew hg1
  have HG1 := Lib.hid hg1
  have r1 := Grew.refl w1
  have d1 := r1.drew
  clear ha hb hb0 hg1
  have HnL := Lib.hid hnL
  have HnR := Lib.hid hnR
  have HdL := Lib.hid hdL
  have HdR := Lib.hid hdR
  generalize dc (m ∈ L) = BL at *
  generalize dc (m ∈ R) = BR at *
  generalize hn1 : L.length = n1 at p0 hL hw1 KS0 ⊢
  generalize hn2 : R.length = n2 at p1 hR hw1 KS1 ⊢
  have HN1 := Lib.hid hn1
  have HN2 := Lib.hid hn2
  clear hn1 hn2 hnL hnR hdL hdR
  cases BL with
  | false =>
    go_enter Tryz.func34, Tryz.ntmps34
    go_wp2_with fail
    simp only [← hw1]
    clear hw1
    replace hL := hL.grew r1.drew
    replace hR := hR.grew r1.drew
    refine wp_region_held_drew (S := fun w' => Grew w1 w') (by kernel_rfl) d1 (fun hHeld => ?_)
    refine wpAnyH_take (i := 0) (oi := ?on1001) (v := ?vn1001) ?hin1001 ?an1001 ?bn1001 ?cn1001 ?qn1001 (Or.inl ⟨?dn1001, ?hyn1001⟩) hHeld ?restn1001
    case hin1001 => (simp only [List.getElem?_toArray, List.getElem?_cons_zero]; exact rfl)
    case an1001 => kernel_rfl
    case bn1001 => kernel_rfl
    case cn1001 => kernel_rfl
    case qn1001 => exact fun _ _ _ h => h
    case dn1001 => rfl
    case hyn1001 => (intro z hSw; (try dsimp only at hSw); go_simp; (try with_reducible rfl))
    try simp only [Act.put, List.setIfInBounds_toArray, List.set_cons_zero, List.set_cons_succ]
    refine wpAnyH_take (i := 1) (oi := ?on1002) (v := ?vn1002) ?hin1002 ?an1002 ?bn1002 ?cn1002 ?qn1002 (Or.inl ⟨?dn1002, ?hyn1002⟩) hHeld ?restn1002
    case hin1002 => (simp only [List.getElem?_toArray, List.getElem?_cons_succ, List.getElem?_cons_zero]; exact rfl)
    case an1002 => kernel_rfl
    case bn1002 => kernel_rfl
    case cn1002 => kernel_rfl
    case qn1002 => exact fun _ _ _ h => h
    case dn1002 => rfl
    case hyn1002 => (intro z hSw; (try dsimp only at hSw); go_simp; (try with_reducible rfl))
    try simp only [Act.put, List.setIfInBounds_toArray, List.set_cons_zero, List.set_cons_succ]
    refine wpAnyH_take (i := 2) (oi := ?on1003) (v := ?vn1003) ?hin1003 ?an1003 ?bn1003 ?cn1003 ?qn1003 (Or.inl ⟨?dn1003, ?hyn1003⟩) hHeld ?restn1003
    case hin1003 => (simp only [List.getElem?_toArray, List.getElem?_cons_succ, List.getElem?_cons_zero]; exact rfl)
    case an1003 => kernel_rfl
    case bn1003 => kernel_rfl
    case cn1003 => kernel_rfl
    case qn1003 => exact fun _ _ _ h => h
    case dn1003 => rfl
    case hyn1003 => (intro z hSw; (try dsimp only at hSw); go_simp; (try with_reducible rfl))
    try simp only [Act.put, List.setIfInBounds_toArray, List.set_cons_zero, List.set_cons_succ]
    refine wpAnyH_take (i := 4) (oi := ?on1004) (v := ?vn1004) ?hin1004 ?an1004 ?bn1004 ?cn1004 ?qn1004 (Or.inl ⟨?dn1004, ?hyn1004⟩) hHeld ?restn1004
    case hin1004 => (simp only [List.getElem?_toArray, List.getElem?_cons_succ, List.getElem?_cons_zero]; exact rfl)
    case an1004 => kernel_rfl
    case bn1004 => kernel_rfl
    case cn1004 => kernel_rfl
    case qn1004 => exact fun _ _ _ h => h
    case dn1004 => rfl
    case hyn1004 => (intro z hSw; (try dsimp only at hSw); go_simp; (try with_reducible rfl))
    try simp only [Act.put, List.setIfInBounds_toArray, List.set_cons_zero, List.set_cons_succ]
    refine wpAnyH_take (i := 5) (oi := ?on1005) (v := ?vn1005) ?hin1005 ?an1005 ?bn1005 ?cn1005 ?qn1005 (Or.inl ⟨?dn1005, ?hyn1005⟩) hHeld ?restn1005
    case hin1005 => (simp only [List.getElem?_toArray, List.getElem?_cons_succ, List.getElem?_cons_zero]; exact rfl)
    case an1005 => kernel_rfl
    case bn1005 => kernel_rfl
    case cn1005 => kernel_rfl
    case qn1005 => exact fun _ _ _ h => h
    case dn1005 => rfl
    case hyn1005 => (intro z hSw; (try dsimp only at hSw); go_simp; (try with_reducible rfl))
    try simp only [Act.put, List.setIfInBounds_toArray, List.set_cons_zero, List.set_cons_succ]
    refine wpAnyH_take (i := 6) (oi := ?on1006) (v := ?vn1006) ?hin1006 ?an1006 ?bn1006 ?cn1006 ?qn1006 (Or.inl ⟨?dn1006, ?hyn1006⟩) hHeld ?restn1006
    case hin1006 => (simp only [List.getElem?_toArray, List.getElem?_cons_succ, List.getElem?_cons_zero]; exact rfl)
    case an1006 => kernel_rfl
    case bn1006 => kernel_rfl
    case cn1006 => kernel_rfl
    case qn1006 => exact fun _ _ _ h => h
    case dn1006 => rfl
    case hyn1006 => (intro z hSw; (try dsimp only at hSw); go_simp; (try with_reducible rfl))
    try simp only [Act.put, List.setIfInBounds_toArray, List.set_cons_zero, List.set_cons_succ]
    refine wpAnyH_ready (rs := [3]) (by kernel_rfl) (by simp) ?_
    refine AllReadyH.cons (o := ?on1007) ?hin1007 ?restn1007 AllReadyH.nil
    case hin1007 => (simp only [List.getElem?_toArray, List.getElem?_cons_succ, List.getElem?_cons_zero]; exact rfl)
    intro K hK
    go_simp
    go_at_call 53
    refine (wo_sl _ _ _ L m _ hL (by have := HnL.out; omega)).mono ?_
    rintro e x1 ⟨Bsl, msl, dsl, rfl, hsl, hgx1⟩
    have hx1 : Grew w1 x1 := d1.trans hgx1
    have zx1 := hgx1.size
    replace hL := hL.grew hgx1
    replace hR := hR.grew hgx1
    refine hK.out _ _ ?_ (fun hHeld => ?_)
    · (try dsimp only); first | with_reducible assumption | exact hx1
    clear hK K
    try simp only [Act.put, List.setIfInBounds_toArray, List.set_cons_zero, List.set_cons_succ]
    refine wpAnyH_ready (rs := [7]) (by kernel_rfl) (by simp) ?_
    refine AllReadyH.cons (o := ?on1008) ?hin1008 ?restn1008 AllReadyH.nil
    case hin1008 => (simp only [List.getElem?_toArray, List.getElem?_cons_succ, List.getElem?_cons_zero]; exact rfl)
    intro K hK
    go_simp
    go_at_call 53
    refine (wo_sl _ _ _ R m _ hR (by have := HnR.out; omega)).mono ?_
    rintro e x2 ⟨Bsr, msr, dsr, rfl, hsr, hgx2⟩
    have hx2 : Grew w1 x2 := hx1.trans hgx2
    have zx2 := hgx2.size
    replace hL := hL.grew hgx2
    replace hR := hR.grew hgx2
    replace hsl := hsl.grew hgx2
    refine hK.out _ _ ?_ (fun hHeld => ?_)
    · (try dsimp only); first | with_reducible assumption | exact hx2
    clear hK K
    try simp only [Act.put, List.setIfInBounds_toArray, List.set_cons_zero, List.set_cons_succ]
    refine wpAnyH_take (i := 8) (oi := ?on1009) (v := ?vn1009) ?hin1009 ?an1009 ?bn1009 ?cn1009 ?qn1009 (Or.inl ⟨?dn1009, ?hyn1009⟩) hHeld ?restn1009
    case hin1009 => (simp only [List.getElem?_toArray, List.getElem?_cons_succ, List.getElem?_cons_zero]; exact rfl)
    case an1009 => kernel_rfl
    case bn1009 => kernel_rfl
    case cn1009 => kernel_rfl
    case qn1009 => exact fun _ _ _ h => h
    case dn1009 => rfl
    case hyn1009 => (intro z hSw; (try dsimp only at hSw); go_simp; (try with_reducible rfl))
    try simp only [Act.put, List.setIfInBounds_toArray, List.set_cons_zero, List.set_cons_succ]
    refine wpAnyH_take (i := 9) (oi := ?on1010) (v := ?vn1010) ?hin1010 ?an1010 ?bn1010 ?cn1010 ?qn1010 (Or.inl ⟨?dn1010, ?hyn1010⟩) hHeld ?restn1010
    case hin1010 => (simp only [List.getElem?_toArray, List.getElem?_cons_succ, List.getElem?_cons_zero]; exact rfl)
    case an1010 => kernel_rfl
    case bn1010 => kernel_rfl
    case cn1010 => kernel_rfl
    case qn1010 => exact fun _ _ _ h => h
    case dn1010 => rfl
    case hyn1010 => (intro z hSw; (try dsimp only at hSw); go_simp; (try with_reducible rfl))
    try simp only [Act.put, List.setIfInBounds_toArray, List.set_cons_zero, List.set_cons_succ]
    refine wpAnyH_done (by kernel_rfl) ?_ _
    have k0 := fun o => p0 _ (hx2.alloc o)
    have hnil : RdM (x2.alloc (.cells #[] 29)) (.slice (some ⟨x2.heap.size, 0, none⟩) 0 0) [] := .inr ⟨x2.heap.size, 0, 0, rfl, Nat.le_refl _, by omega, by simp, fun i x hx => by simp at hx⟩
    have hal := hx2.alloc (.cells #[] 29)
    go_wp2_with fail
    refine (KS0.out _ (HG1.out.trans hal)).mono ?_
    rintro e y0 ⟨rfl, hgy0⟩
    have hy0 := hal.trans hgy0
    replace hnil := hnil.grew hgy0
    go_wp2_with fail
    go_ret2
    exact ⟨_, _, _, rfl, fun _ => hnil, HG1.out.trans hy0⟩
  | true =>
    go_enter Tryz.func34, Tryz.ntmps34
    go_wp2_with fail
    simp only [← hw1]
    clear hw1
    replace hL := hL.grew r1.drew
    replace hR := hR.grew r1.drew
    refine wp_region_held_drew (S := fun w' => Grew w1 w') (by kernel_rfl) d1 (fun hHeld => ?_)
    refine wpAnyH_take (i := 0) (oi := ?on2001) (v := ?vn2001) ?hin2001 ?an2001 ?bn2001 ?cn2001 ?qn2001 (Or.inl ⟨?dn2001, ?hyn2001⟩) hHeld ?restn2001
    case hin2001 => (simp only [List.getElem?_toArray, List.getElem?_cons_zero]; exact rfl)
    case an2001 => kernel_rfl
    case bn2001 => kernel_rfl
    case cn2001 => kernel_rfl
    case qn2001 => exact fun _ _ _ h => h
    case dn2001 => rfl
    case hyn2001 => (intro z hSw; (try dsimp only at hSw); go_simp; (try with_reducible rfl))
    try simp only [Act.put, List.setIfInBounds_toArray, List.set_cons_zero, List.set_cons_succ]
    refine wpAnyH_take (i := 1) (oi := ?on2002) (v := ?vn2002) ?hin2002 ?an2002 ?bn2002 ?cn2002 ?qn2002 (Or.inl ⟨?dn2002, ?hyn2002⟩) hHeld ?restn2002
    case hin2002 => (simp only [List.getElem?_toArray, List.getElem?_cons_succ, List.getElem?_cons_zero]; exact rfl)
    case an2002 => kernel_rfl
    case bn2002 => kernel_rfl
    case cn2002 => kernel_rfl
    case qn2002 => exact fun _ _ _ h => h
    case dn2002 => rfl
    case hyn2002 => (intro z hSw; (try dsimp only at hSw); go_simp; (try with_reducible rfl))
    try simp only [Act.put, List.setIfInBounds_toArray, List.set_cons_zero, List.set_cons_succ]
    refine wpAnyH_take (i := 2) (oi := ?on2003) (v := ?vn2003) ?hin2003 ?an2003 ?bn2003 ?cn2003 ?qn2003 (Or.inl ⟨?dn2003, ?hyn2003⟩) hHeld ?restn2003
    case hin2003 => (simp only [List.getElem?_toArray, List.getElem?_cons_succ, List.getElem?_cons_zero]; exact rfl)
    case an2003 => kernel_rfl
    case bn2003 => kernel_rfl
    case cn2003 => kernel_rfl
    case qn2003 => exact fun _ _ _ h => h
    case dn2003 => rfl
    case hyn2003 => (intro z hSw; (try dsimp only at hSw); go_simp; (try with_reducible rfl))
    try simp only [Act.put, List.setIfInBounds_toArray, List.set_cons_zero, List.set_cons_succ]
    refine wpAnyH_take (i := 4) (oi := ?on2004) (v := ?vn2004) ?hin2004 ?an2004 ?bn2004 ?cn2004 ?qn2004 (Or.inl ⟨?dn2004, ?hyn2004⟩) hHeld ?restn2004
    case hin2004 => (simp only [List.getElem?_toArray, List.getElem?_cons_succ, List.getElem?_cons_zero]; exact rfl)
    case an2004 => kernel_rfl
    case bn2004 => kernel_rfl
    case cn2004 => kernel_rfl
    case qn2004 => exact fun _ _ _ h => h
    case dn2004 => rfl
    case hyn2004 => (intro z hSw; (try dsimp only at hSw); go_simp; (try with_reducible rfl))
    try simp only [Act.put, List.setIfInBounds_toArray, List.set_cons_zero, List.set_cons_succ]
    refine wpAnyH_take (i := 5) (oi := ?on2005) (v := ?vn2005) ?hin2005 ?an2005 ?bn2005 ?cn2005 ?qn2005 (Or.inl ⟨?dn2005, ?hyn2005⟩) hHeld ?restn2005
    case hin2005 => (simp only [List.getElem?_toArray, List.getElem?_cons_succ, List.getElem?_cons_zero]; exact rfl)
    case an2005 => kernel_rfl
    case bn2005 => kernel_rfl
    case cn2005 => kernel_rfl
    case qn2005 => exact fun _ _ _ h => h
    case dn2005 => rfl
    case hyn2005 => (intro z hSw; (try dsimp only at hSw); go_simp; (try with_reducible rfl))
    try simp only [Act.put, List.setIfInBounds_toArray, List.set_cons_zero, List.set_cons_succ]
    refine wpAnyH_take (i := 6) (oi := ?on2006) (v := ?vn2006) ?hin2006 ?an2006 ?bn2006 ?cn2006 ?qn2006 (Or.inl ⟨?dn2006, ?hyn2006⟩) hHeld ?restn2006
    case hin2006 => (simp only [List.getElem?_toArray, List.getElem?_cons_succ, List.getElem?_cons_zero]; exact rfl)
    case an2006 => kernel_rfl
    case bn2006 => kernel_rfl
    case cn2006 => kernel_rfl
    case qn2006 => exact fun _ _ _ h => h
    case dn2006 => rfl
    case hyn2006 => (intro z hSw; (try dsimp only at hSw); go_simp; (try with_reducible rfl))
    try simp only [Act.put, List.setIfInBounds_toArray, List.set_cons_zero, List.set_cons_succ]
    refine wpAnyH_ready (rs := [3]) (by kernel_rfl) (by simp) ?_
    refine AllReadyH.cons (o := ?on2007) ?hin2007 ?restn2007 AllReadyH.nil
    case hin2007 => (simp only [List.getElem?_toArray, List.getElem?_cons_succ, List.getElem?_cons_zero]; exact rfl)
    intro K hK
    go_simp
    go_at_call 53
    refine (wo_sl _ _ _ L m _ hL (by have := HnL.out; omega)).mono ?_
    rintro e x1 ⟨Bsl, msl, dsl, rfl, hsl, hgx1⟩
    have hx1 : Grew w1 x1 := d1.trans hgx1
    have zx1 := hgx1.size
    replace hL := hL.grew hgx1
    replace hR := hR.grew hgx1
    refine hK.out _ _ ?_ (fun hHeld => ?_)
    · (try dsimp only); first | with_reducible assumption | exact hx1
    clear hK K
    try simp only [Act.put, List.setIfInBounds_toArray, List.set_cons_zero, List.set_cons_succ]
    refine wpAnyH_ready (rs := [7]) (by kernel_rfl) (by simp) ?_
    refine AllReadyH.cons (o := ?on2008) ?hin2008 ?restn2008 AllReadyH.nil
    case hin2008 => (simp only [List.getElem?_toArray, List.getElem?_cons_succ, List.getElem?_cons_zero]; exact rfl)
    intro K hK
    go_simp
    go_at_call 53
    refine (wo_sl _ _ _ R m _ hR (by have := HnR.out; omega)).mono ?_
    rintro e x2 ⟨Bsr, msr, dsr, rfl, hsr, hgx2⟩
    have hx2 : Grew w1 x2 := hx1.trans hgx2
    have zx2 := hgx2.size
    replace hL := hL.grew hgx2
    replace hR := hR.grew hgx2
    replace hsl := hsl.grew hgx2
    refine hK.out _ _ ?_ (fun hHeld => ?_)
    · (try dsimp only); first | with_reducible assumption | exact hx2
    clear hK K
    try simp only [Act.put, List.setIfInBounds_toArray, List.set_cons_zero, List.set_cons_succ]
    refine wpAnyH_take (i := 8) (oi := ?on2009) (v := ?vn2009) ?hin2009 ?an2009 ?bn2009 ?cn2009 ?qn2009 (Or.inl ⟨?dn2009, ?hyn2009⟩) hHeld ?restn2009
    case hin2009 => (simp only [List.getElem?_toArray, List.getElem?_cons_succ, List.getElem?_cons_zero]; exact rfl)
    case an2009 => kernel_rfl
    case bn2009 => kernel_rfl
    case cn2009 => kernel_rfl
    case qn2009 => exact fun _ _ _ h => h
    case dn2009 => rfl
    case hyn2009 => (intro z hSw; (try dsimp only at hSw); go_simp; (try with_reducible rfl))
    try simp only [Act.put, List.setIfInBounds_toArray, List.set_cons_zero, List.set_cons_succ]
    refine wpAnyH_take (i := 9) (oi := ?on2010) (v := ?vn2010) ?hin2010 ?an2010 ?bn2010 ?cn2010 ?qn2010 (Or.inl ⟨?dn2010, ?hyn2010⟩) hHeld ?restn2010
    case hin2010 => (simp only [List.getElem?_toArray, List.getElem?_cons_succ, List.getElem?_cons_zero]; exact rfl)
    case an2010 => kernel_rfl
    case bn2010 => kernel_rfl
    case cn2010 => kernel_rfl
    case qn2010 => exact fun _ _ _ h => h
    case dn2010 => rfl
    case hyn2010 => (intro z hSw; (try dsimp only at hSw); go_simp; (try with_reducible rfl))
    try simp only [Act.put, List.setIfInBounds_toArray, List.set_cons_zero, List.set_cons_succ]
    refine wpAnyH_done (by kernel_rfl) ?_ _
    have k0 := fun o => p0 _ (hx2.alloc o)
    have hnil : RdM (x2.alloc (.cells #[] 29)) (.slice (some ⟨x2.heap.size, 0, none⟩) 0 0) [] := .inr ⟨x2.heap.size, 0, 0, rfl, Nat.le_refl _, by omega, by simp, fun i x hx => by simp at hx⟩
    have hal := hx2.alloc (.cells #[] 29)
    go_wp2_with fail
    refine (KS0.out _ (HG1.out.trans hal)).mono ?_
    rintro e y0 ⟨rfl, hgy0⟩
    have hy0 := hal.trans hgy0
    replace hnil := hnil.grew hgy0
    go_wp2_with fail
    refine (KS1.out _ (HG1.out.trans hy0)).mono ?_
    rintro e y1 ⟨rfl, hgy1⟩
    have hy1 := hy0.trans hgy1
    replace hnil := hnil.grew hgy1
    go_wp2_with fail
    go_ret2
    exact ⟨_, _, _, rfl, fun _ => hnil, HG1.out.trans hy1⟩

set_option maxHeartbeats 4000000 in
set_option maxRecDepth 8192 in
theorem l11Local_2 (m : ByteArray) (va vb : Value) (L R : List ByteArray) (w : World) (ha : Strs w va L) (hb : Strs w vb R) (hnL : L.length ≤ 16) (hnR : R.length ≤ 16) :
    Calls Tryz.prog 34 #[.int .i64 2, .agg #[va, vb], .string m] w (GivesPm w ([], m.toList.isEmpty && dc ((⟨#[70]⟩ : ByteArray) ∈ L))) := by
  have hdL : (dropS L m).length ≤ 16 := Nat.le_trans (List.length_filter_le _ _) hnL
  have hdR : (dropS R m).length ≤ 16 := Nat.le_trans (List.length_filter_le _ _) hnR
  have KS0 := Lib.hid (fun W (hW : Grew w W) => l01Says_c va L ⟨#[70]⟩ W (ha.grew hW) (by omega))
  obtain ⟨A1, c1, rfl⟩ := strs_slice ha
  obtain ⟨A2, c2, rfl⟩ := strs_slice hb
  obtain ⟨w1, hw1⟩ : ∃ w1, w1 = w.alloc (.cells #[.slice A1 L.length c1, .slice A2 R.length c2] 29) := ⟨_, rfl⟩
  have hg1 : Grew w w1 := by rw [hw1]; exact (Grew.refl w).alloc _
  have hb0 : w1.heap[w.heap.size]? = some (.cells #[.slice A1 L.length c1, .slice A2 R.length c2] 29 (0, 0)) := by rw [hw1]; exact blk_new w _
  have p0 : ∀ W, Grew w1 W → W.cell? ⟨w.heap.size, 0, none⟩ = some (.slice A1 L.length c1) := fun W hW => by rw [blk_cell ((hW.block (blk_lt hb0)).trans hb0)]; rfl
  have p1 : ∀ W, Grew w1 W → W.cell? ⟨w.heap.size, 1, none⟩ = some (.slice A2 R.length c2) := fun W hW => by rw [blk_cell ((hW.block (blk_lt hb0)).trans hb0)]; rfl
  have hL := ha.grew hg1
  have hR := hb.grew hg1
  have HG1 := Lib.hid hg1
  have r1 := Grew.refl w1
  have d1 := r1.drew
  clear ha hb hb0 hg1
  have HnL := Lib.hid hnL
  have HnR := Lib.hid hnR
  have HdL := Lib.hid hdL
  have HdR := Lib.hid hdR
  generalize dc ((⟨#[70]⟩ : ByteArray) ∈ L) = BL at *
  generalize hn1 : L.length = n1 at p0 hL hw1 KS0 ⊢
  generalize hn2 : R.length = n2 at p1 hR hw1 ⊢
  have HN1 := Lib.hid hn1
  have HN2 := Lib.hid hn2
  clear hn1 hn2 hnL hnR hdL hdR
  cases hme : m.toList.isEmpty with
  | false =>
    go_enter Tryz.func34, Tryz.ntmps34
    go_wp2_with fail
    simp only [← hw1]
    clear hw1
    replace hL := hL.grew r1.drew
    replace hR := hR.grew r1.drew
    refine wp_region_held_drew (S := fun w' => Grew w1 w') (by kernel_rfl) d1 (fun hHeld => ?_)
    refine wpAnyH_take (i := 0) (oi := ?on1011) (v := ?vn1011) ?hin1011 ?an1011 ?bn1011 ?cn1011 ?qn1011 (Or.inl ⟨?dn1011, ?hyn1011⟩) hHeld ?restn1011
    case hin1011 => (simp only [List.getElem?_toArray, List.getElem?_cons_zero]; exact rfl)
    case an1011 => kernel_rfl
    case bn1011 => kernel_rfl
    case cn1011 => kernel_rfl
    case qn1011 => exact fun _ _ _ h => h
    case dn1011 => rfl
    case hyn1011 => (intro z hSw; (try dsimp only at hSw); go_simp; (try with_reducible rfl))
    try simp only [Act.put, List.setIfInBounds_toArray, List.set_cons_zero, List.set_cons_succ]
    refine wpAnyH_take (i := 1) (oi := ?on1012) (v := ?vn1012) ?hin1012 ?an1012 ?bn1012 ?cn1012 ?qn1012 (Or.inl ⟨?dn1012, ?hyn1012⟩) hHeld ?restn1012
    case hin1012 => (simp only [List.getElem?_toArray, List.getElem?_cons_succ, List.getElem?_cons_zero]; exact rfl)
    case an1012 => kernel_rfl
    case bn1012 => kernel_rfl
    case cn1012 => kernel_rfl
    case qn1012 => exact fun _ _ _ h => h
    case dn1012 => rfl
    case hyn1012 => (intro z hSw; (try dsimp only at hSw); go_simp; (try with_reducible rfl))
    try simp only [Act.put, List.setIfInBounds_toArray, List.set_cons_zero, List.set_cons_succ]
    refine wpAnyH_take (i := 2) (oi := ?on1013) (v := ?vn1013) ?hin1013 ?an1013 ?bn1013 ?cn1013 ?qn1013 (Or.inl ⟨?dn1013, ?hyn1013⟩) hHeld ?restn1013
    case hin1013 => (simp only [List.getElem?_toArray, List.getElem?_cons_succ, List.getElem?_cons_zero]; exact rfl)
    case an1013 => kernel_rfl
    case bn1013 => kernel_rfl
    case cn1013 => kernel_rfl
    case qn1013 => exact fun _ _ _ h => h
    case dn1013 => rfl
    case hyn1013 => (intro z hSw; (try dsimp only at hSw); go_simp; (try with_reducible rfl))
    try simp only [Act.put, List.setIfInBounds_toArray, List.set_cons_zero, List.set_cons_succ]
    refine wpAnyH_take (i := 4) (oi := ?on1014) (v := ?vn1014) ?hin1014 ?an1014 ?bn1014 ?cn1014 ?qn1014 (Or.inl ⟨?dn1014, ?hyn1014⟩) hHeld ?restn1014
    case hin1014 => (simp only [List.getElem?_toArray, List.getElem?_cons_succ, List.getElem?_cons_zero]; exact rfl)
    case an1014 => kernel_rfl
    case bn1014 => kernel_rfl
    case cn1014 => kernel_rfl
    case qn1014 => exact fun _ _ _ h => h
    case dn1014 => rfl
    case hyn1014 => (intro z hSw; (try dsimp only at hSw); go_simp; (try with_reducible rfl))
    try simp only [Act.put, List.setIfInBounds_toArray, List.set_cons_zero, List.set_cons_succ]
    refine wpAnyH_take (i := 5) (oi := ?on1015) (v := ?vn1015) ?hin1015 ?an1015 ?bn1015 ?cn1015 ?qn1015 (Or.inl ⟨?dn1015, ?hyn1015⟩) hHeld ?restn1015
    case hin1015 => (simp only [List.getElem?_toArray, List.getElem?_cons_succ, List.getElem?_cons_zero]; exact rfl)
    case an1015 => kernel_rfl
    case bn1015 => kernel_rfl
    case cn1015 => kernel_rfl
    case qn1015 => exact fun _ _ _ h => h
    case dn1015 => rfl
    case hyn1015 => (intro z hSw; (try dsimp only at hSw); go_simp; (try with_reducible rfl))
    try simp only [Act.put, List.setIfInBounds_toArray, List.set_cons_zero, List.set_cons_succ]
    refine wpAnyH_take (i := 6) (oi := ?on1016) (v := ?vn1016) ?hin1016 ?an1016 ?bn1016 ?cn1016 ?qn1016 (Or.inl ⟨?dn1016, ?hyn1016⟩) hHeld ?restn1016
    case hin1016 => (simp only [List.getElem?_toArray, List.getElem?_cons_succ, List.getElem?_cons_zero]; exact rfl)
    case an1016 => kernel_rfl
    case bn1016 => kernel_rfl
    case cn1016 => kernel_rfl
    case qn1016 => exact fun _ _ _ h => h
    case dn1016 => rfl
    case hyn1016 => (intro z hSw; (try dsimp only at hSw); go_simp; (try with_reducible rfl))
    try simp only [Act.put, List.setIfInBounds_toArray, List.set_cons_zero, List.set_cons_succ]
    refine wpAnyH_ready (rs := [3]) (by kernel_rfl) (by simp) ?_
    refine AllReadyH.cons (o := ?on1017) ?hin1017 ?restn1017 AllReadyH.nil
    case hin1017 => (simp only [List.getElem?_toArray, List.getElem?_cons_succ, List.getElem?_cons_zero]; exact rfl)
    intro K hK
    go_simp
    go_at_call 53
    refine (wo_sl _ _ _ L m _ hL (by have := HnL.out; omega)).mono ?_
    rintro e x1 ⟨Bsl, msl, dsl, rfl, hsl, hgx1⟩
    have hx1 : Grew w1 x1 := d1.trans hgx1
    have zx1 := hgx1.size
    replace hL := hL.grew hgx1
    replace hR := hR.grew hgx1
    refine hK.out _ _ ?_ (fun hHeld => ?_)
    · (try dsimp only); first | with_reducible assumption | exact hx1
    clear hK K
    try simp only [Act.put, List.setIfInBounds_toArray, List.set_cons_zero, List.set_cons_succ]
    refine wpAnyH_ready (rs := [7]) (by kernel_rfl) (by simp) ?_
    refine AllReadyH.cons (o := ?on1018) ?hin1018 ?restn1018 AllReadyH.nil
    case hin1018 => (simp only [List.getElem?_toArray, List.getElem?_cons_succ, List.getElem?_cons_zero]; exact rfl)
    intro K hK
    go_simp
    go_at_call 53
    refine (wo_sl _ _ _ R m _ hR (by have := HnR.out; omega)).mono ?_
    rintro e x2 ⟨Bsr, msr, dsr, rfl, hsr, hgx2⟩
    have hx2 : Grew w1 x2 := hx1.trans hgx2
    have zx2 := hgx2.size
    replace hL := hL.grew hgx2
    replace hR := hR.grew hgx2
    replace hsl := hsl.grew hgx2
    refine hK.out _ _ ?_ (fun hHeld => ?_)
    · (try dsimp only); first | with_reducible assumption | exact hx2
    clear hK K
    try simp only [Act.put, List.setIfInBounds_toArray, List.set_cons_zero, List.set_cons_succ]
    refine wpAnyH_take (i := 8) (oi := ?on1019) (v := ?vn1019) ?hin1019 ?an1019 ?bn1019 ?cn1019 ?qn1019 (Or.inl ⟨?dn1019, ?hyn1019⟩) hHeld ?restn1019
    case hin1019 => (simp only [List.getElem?_toArray, List.getElem?_cons_succ, List.getElem?_cons_zero]; exact rfl)
    case an1019 => kernel_rfl
    case bn1019 => kernel_rfl
    case cn1019 => kernel_rfl
    case qn1019 => exact fun _ _ _ h => h
    case dn1019 => rfl
    case hyn1019 => (intro z hSw; (try dsimp only at hSw); go_simp; (try with_reducible rfl))
    try simp only [Act.put, List.setIfInBounds_toArray, List.set_cons_zero, List.set_cons_succ]
    refine wpAnyH_take (i := 9) (oi := ?on1020) (v := ?vn1020) ?hin1020 ?an1020 ?bn1020 ?cn1020 ?qn1020 (Or.inl ⟨?dn1020, ?hyn1020⟩) hHeld ?restn1020
    case hin1020 => (simp only [List.getElem?_toArray, List.getElem?_cons_succ, List.getElem?_cons_zero]; exact rfl)
    case an1020 => kernel_rfl
    case bn1020 => kernel_rfl
    case cn1020 => kernel_rfl
    case qn1020 => exact fun _ _ _ h => h
    case dn1020 => rfl
    case hyn1020 => (intro z hSw; (try dsimp only at hSw); go_simp; (try with_reducible rfl))
    try simp only [Act.put, List.setIfInBounds_toArray, List.set_cons_zero, List.set_cons_succ]
    refine wpAnyH_done (by kernel_rfl) ?_ _
    have k0 := fun o => p0 _ (hx2.alloc o)
    have hnil : RdM (x2.alloc (.cells #[] 29)) (.slice (some ⟨x2.heap.size, 0, none⟩) 0 0) [] := .inr ⟨x2.heap.size, 0, 0, rfl, Nat.le_refl _, by omega, by simp, fun i x hx => by simp at hx⟩
    have hal := hx2.alloc (.cells #[] 29)
    go_wp2_with fail
    go_ret2
    exact ⟨_, _, _, rfl, fun _ => hnil, HG1.out.trans hal⟩
  | true =>
    go_enter Tryz.func34, Tryz.ntmps34
    go_wp2_with fail
    simp only [← hw1]
    clear hw1
    replace hL := hL.grew r1.drew
    replace hR := hR.grew r1.drew
    refine wp_region_held_drew (S := fun w' => Grew w1 w') (by kernel_rfl) d1 (fun hHeld => ?_)
    refine wpAnyH_take (i := 0) (oi := ?on2011) (v := ?vn2011) ?hin2011 ?an2011 ?bn2011 ?cn2011 ?qn2011 (Or.inl ⟨?dn2011, ?hyn2011⟩) hHeld ?restn2011
    case hin2011 => (simp only [List.getElem?_toArray, List.getElem?_cons_zero]; exact rfl)
    case an2011 => kernel_rfl
    case bn2011 => kernel_rfl
    case cn2011 => kernel_rfl
    case qn2011 => exact fun _ _ _ h => h
    case dn2011 => rfl
    case hyn2011 => (intro z hSw; (try dsimp only at hSw); go_simp; (try with_reducible rfl))
    try simp only [Act.put, List.setIfInBounds_toArray, List.set_cons_zero, List.set_cons_succ]
    refine wpAnyH_take (i := 1) (oi := ?on2012) (v := ?vn2012) ?hin2012 ?an2012 ?bn2012 ?cn2012 ?qn2012 (Or.inl ⟨?dn2012, ?hyn2012⟩) hHeld ?restn2012
    case hin2012 => (simp only [List.getElem?_toArray, List.getElem?_cons_succ, List.getElem?_cons_zero]; exact rfl)
    case an2012 => kernel_rfl
    case bn2012 => kernel_rfl
    case cn2012 => kernel_rfl
    case qn2012 => exact fun _ _ _ h => h
    case dn2012 => rfl
    case hyn2012 => (intro z hSw; (try dsimp only at hSw); go_simp; (try with_reducible rfl))
    try simp only [Act.put, List.setIfInBounds_toArray, List.set_cons_zero, List.set_cons_succ]
    refine wpAnyH_take (i := 2) (oi := ?on2013) (v := ?vn2013) ?hin2013 ?an2013 ?bn2013 ?cn2013 ?qn2013 (Or.inl ⟨?dn2013, ?hyn2013⟩) hHeld ?restn2013
    case hin2013 => (simp only [List.getElem?_toArray, List.getElem?_cons_succ, List.getElem?_cons_zero]; exact rfl)
    case an2013 => kernel_rfl
    case bn2013 => kernel_rfl
    case cn2013 => kernel_rfl
    case qn2013 => exact fun _ _ _ h => h
    case dn2013 => rfl
    case hyn2013 => (intro z hSw; (try dsimp only at hSw); go_simp; (try with_reducible rfl))
    try simp only [Act.put, List.setIfInBounds_toArray, List.set_cons_zero, List.set_cons_succ]
    refine wpAnyH_take (i := 4) (oi := ?on2014) (v := ?vn2014) ?hin2014 ?an2014 ?bn2014 ?cn2014 ?qn2014 (Or.inl ⟨?dn2014, ?hyn2014⟩) hHeld ?restn2014
    case hin2014 => (simp only [List.getElem?_toArray, List.getElem?_cons_succ, List.getElem?_cons_zero]; exact rfl)
    case an2014 => kernel_rfl
    case bn2014 => kernel_rfl
    case cn2014 => kernel_rfl
    case qn2014 => exact fun _ _ _ h => h
    case dn2014 => rfl
    case hyn2014 => (intro z hSw; (try dsimp only at hSw); go_simp; (try with_reducible rfl))
    try simp only [Act.put, List.setIfInBounds_toArray, List.set_cons_zero, List.set_cons_succ]
    refine wpAnyH_take (i := 5) (oi := ?on2015) (v := ?vn2015) ?hin2015 ?an2015 ?bn2015 ?cn2015 ?qn2015 (Or.inl ⟨?dn2015, ?hyn2015⟩) hHeld ?restn2015
    case hin2015 => (simp only [List.getElem?_toArray, List.getElem?_cons_succ, List.getElem?_cons_zero]; exact rfl)
    case an2015 => kernel_rfl
    case bn2015 => kernel_rfl
    case cn2015 => kernel_rfl
    case qn2015 => exact fun _ _ _ h => h
    case dn2015 => rfl
    case hyn2015 => (intro z hSw; (try dsimp only at hSw); go_simp; (try with_reducible rfl))
    try simp only [Act.put, List.setIfInBounds_toArray, List.set_cons_zero, List.set_cons_succ]
    refine wpAnyH_take (i := 6) (oi := ?on2016) (v := ?vn2016) ?hin2016 ?an2016 ?bn2016 ?cn2016 ?qn2016 (Or.inl ⟨?dn2016, ?hyn2016⟩) hHeld ?restn2016
    case hin2016 => (simp only [List.getElem?_toArray, List.getElem?_cons_succ, List.getElem?_cons_zero]; exact rfl)
    case an2016 => kernel_rfl
    case bn2016 => kernel_rfl
    case cn2016 => kernel_rfl
    case qn2016 => exact fun _ _ _ h => h
    case dn2016 => rfl
    case hyn2016 => (intro z hSw; (try dsimp only at hSw); go_simp; (try with_reducible rfl))
    try simp only [Act.put, List.setIfInBounds_toArray, List.set_cons_zero, List.set_cons_succ]
    refine wpAnyH_ready (rs := [3]) (by kernel_rfl) (by simp) ?_
    refine AllReadyH.cons (o := ?on2017) ?hin2017 ?restn2017 AllReadyH.nil
    case hin2017 => (simp only [List.getElem?_toArray, List.getElem?_cons_succ, List.getElem?_cons_zero]; exact rfl)
    intro K hK
    go_simp
    go_at_call 53
    refine (wo_sl _ _ _ L m _ hL (by have := HnL.out; omega)).mono ?_
    rintro e x1 ⟨Bsl, msl, dsl, rfl, hsl, hgx1⟩
    have hx1 : Grew w1 x1 := d1.trans hgx1
    have zx1 := hgx1.size
    replace hL := hL.grew hgx1
    replace hR := hR.grew hgx1
    refine hK.out _ _ ?_ (fun hHeld => ?_)
    · (try dsimp only); first | with_reducible assumption | exact hx1
    clear hK K
    try simp only [Act.put, List.setIfInBounds_toArray, List.set_cons_zero, List.set_cons_succ]
    refine wpAnyH_ready (rs := [7]) (by kernel_rfl) (by simp) ?_
    refine AllReadyH.cons (o := ?on2018) ?hin2018 ?restn2018 AllReadyH.nil
    case hin2018 => (simp only [List.getElem?_toArray, List.getElem?_cons_succ, List.getElem?_cons_zero]; exact rfl)
    intro K hK
    go_simp
    go_at_call 53
    refine (wo_sl _ _ _ R m _ hR (by have := HnR.out; omega)).mono ?_
    rintro e x2 ⟨Bsr, msr, dsr, rfl, hsr, hgx2⟩
    have hx2 : Grew w1 x2 := hx1.trans hgx2
    have zx2 := hgx2.size
    replace hL := hL.grew hgx2
    replace hR := hR.grew hgx2
    replace hsl := hsl.grew hgx2
    refine hK.out _ _ ?_ (fun hHeld => ?_)
    · (try dsimp only); first | with_reducible assumption | exact hx2
    clear hK K
    try simp only [Act.put, List.setIfInBounds_toArray, List.set_cons_zero, List.set_cons_succ]
    refine wpAnyH_take (i := 8) (oi := ?on2019) (v := ?vn2019) ?hin2019 ?an2019 ?bn2019 ?cn2019 ?qn2019 (Or.inl ⟨?dn2019, ?hyn2019⟩) hHeld ?restn2019
    case hin2019 => (simp only [List.getElem?_toArray, List.getElem?_cons_succ, List.getElem?_cons_zero]; exact rfl)
    case an2019 => kernel_rfl
    case bn2019 => kernel_rfl
    case cn2019 => kernel_rfl
    case qn2019 => exact fun _ _ _ h => h
    case dn2019 => rfl
    case hyn2019 => (intro z hSw; (try dsimp only at hSw); go_simp; (try with_reducible rfl))
    try simp only [Act.put, List.setIfInBounds_toArray, List.set_cons_zero, List.set_cons_succ]
    refine wpAnyH_take (i := 9) (oi := ?on2020) (v := ?vn2020) ?hin2020 ?an2020 ?bn2020 ?cn2020 ?qn2020 (Or.inl ⟨?dn2020, ?hyn2020⟩) hHeld ?restn2020
    case hin2020 => (simp only [List.getElem?_toArray, List.getElem?_cons_succ, List.getElem?_cons_zero]; exact rfl)
    case an2020 => kernel_rfl
    case bn2020 => kernel_rfl
    case cn2020 => kernel_rfl
    case qn2020 => exact fun _ _ _ h => h
    case dn2020 => rfl
    case hyn2020 => (intro z hSw; (try dsimp only at hSw); go_simp; (try with_reducible rfl))
    try simp only [Act.put, List.setIfInBounds_toArray, List.set_cons_zero, List.set_cons_succ]
    refine wpAnyH_done (by kernel_rfl) ?_ _
    have k0 := fun o => p0 _ (hx2.alloc o)
    have hnil : RdM (x2.alloc (.cells #[] 29)) (.slice (some ⟨x2.heap.size, 0, none⟩) 0 0) [] := .inr ⟨x2.heap.size, 0, 0, rfl, Nat.le_refl _, by omega, by simp, fun i x hx => by simp at hx⟩
    have hal := hx2.alloc (.cells #[] 29)
    go_wp2_with fail
    refine (KS0.out _ (HG1.out.trans hal)).mono ?_
    rintro e y0 ⟨rfl, hgy0⟩
    have hy0 := hal.trans hgy0
    replace hnil := hnil.grew hgy0
    go_wp2_with fail
    go_ret2
    exact ⟨_, _, _, rfl, fun _ => hnil, HG1.out.trans hy0⟩

set_option maxHeartbeats 4000000 in
set_option maxRecDepth 8192 in
theorem l11Local_3 (m : ByteArray) (va vb : Value) (L R : List ByteArray) (w : World) (ha : Strs w va L) (hb : Strs w vb R) (hgL : ∀ i, i < L.length → gd (st L i) = true) (hgR : ∀ i, i < R.length → gd (st R i) = true) (hnL : L.length ≤ 16) (hnR : R.length ≤ 16) (hmz : m.size ≤ 1048576) :
    Calls Tryz.prog 34 #[.int .i64 3, .agg #[va, vb], .string m] w (GivesPm w ([((insA (insA (dropS L m) (onF L m 2).1) (onF L m 2).2.1), R)], (onF L m 2).2.2)) := by
  have hdL : (dropS L m).length ≤ 16 := Nat.le_trans (List.length_filter_le _ _) hnL
  have hdR : (dropS R m).length ≤ 16 := Nat.le_trans (List.length_filter_le _ _) hnR
  have KO := Lib.hid (fun W (hW : Grew w W) => l11On_c va L m 2 W (ha.grew hW) hgL (by omega) hmz (by omega))
  obtain ⟨A1, c1, rfl⟩ := strs_slice ha
  obtain ⟨A2, c2, rfl⟩ := strs_slice hb
  obtain ⟨w1, hw1⟩ : ∃ w1, w1 = w.alloc (.cells #[.slice A1 L.length c1, .slice A2 R.length c2] 29) := ⟨_, rfl⟩
  have hg1 : Grew w w1 := by rw [hw1]; exact (Grew.refl w).alloc _
  have hb0 : w1.heap[w.heap.size]? = some (.cells #[.slice A1 L.length c1, .slice A2 R.length c2] 29 (0, 0)) := by rw [hw1]; exact blk_new w _
  have p0 : ∀ W, Grew w1 W → W.cell? ⟨w.heap.size, 0, none⟩ = some (.slice A1 L.length c1) := fun W hW => by rw [blk_cell ((hW.block (blk_lt hb0)).trans hb0)]; rfl
  have p1 : ∀ W, Grew w1 W → W.cell? ⟨w.heap.size, 1, none⟩ = some (.slice A2 R.length c2) := fun W hW => by rw [blk_cell ((hW.block (blk_lt hb0)).trans hb0)]; rfl
  have hL := ha.grew hg1
  have hR := hb.grew hg1
  have HG1 := Lib.hid hg1
  have r1 := Grew.refl w1
  have d1 := r1.drew
  clear ha hb hgL hgR hb0 hg1
  have HnL := Lib.hid hnL
  have HnR := Lib.hid hnR
  have HdL := Lib.hid hdL
  have HdR := Lib.hid hdR
  generalize hX : onF L m 2 = X at *
  clear hX
  obtain ⟨XA, XB, XC⟩ := X
  generalize hn1 : L.length = n1 at p0 hL hw1 KO ⊢
  generalize hn2 : R.length = n2 at p1 hR hw1 ⊢
  have HN1 := Lib.hid hn1
  have HN2 := Lib.hid hn2
  clear hn1 hn2 hnL hnR hdL hdR
  go_enter Tryz.func34, Tryz.ntmps34
  go_wp2_with fail
  simp only [← hw1]
  clear hw1
  replace hL := hL.grew r1.drew
  replace hR := hR.grew r1.drew
  refine wp_region_held_drew (S := fun w' => Grew w1 w') (by kernel_rfl) d1 (fun hHeld => ?_)
  refine wpAnyH_take (i := 0) (oi := ?on21) (v := ?vn21) ?hin21 ?an21 ?bn21 ?cn21 ?qn21 (Or.inl ⟨?dn21, ?hyn21⟩) hHeld ?restn21
  case hin21 => (simp only [List.getElem?_toArray, List.getElem?_cons_zero]; exact rfl)
  case an21 => kernel_rfl
  case bn21 => kernel_rfl
  case cn21 => kernel_rfl
  case qn21 => exact fun _ _ _ h => h
  case dn21 => rfl
  case hyn21 => (intro z hSw; (try dsimp only at hSw); go_simp; (try with_reducible rfl))
  try simp only [Act.put, List.setIfInBounds_toArray, List.set_cons_zero, List.set_cons_succ]
  refine wpAnyH_take (i := 1) (oi := ?on22) (v := ?vn22) ?hin22 ?an22 ?bn22 ?cn22 ?qn22 (Or.inl ⟨?dn22, ?hyn22⟩) hHeld ?restn22
  case hin22 => (simp only [List.getElem?_toArray, List.getElem?_cons_succ, List.getElem?_cons_zero]; exact rfl)
  case an22 => kernel_rfl
  case bn22 => kernel_rfl
  case cn22 => kernel_rfl
  case qn22 => exact fun _ _ _ h => h
  case dn22 => rfl
  case hyn22 => (intro z hSw; (try dsimp only at hSw); go_simp; (try with_reducible rfl))
  try simp only [Act.put, List.setIfInBounds_toArray, List.set_cons_zero, List.set_cons_succ]
  refine wpAnyH_take (i := 2) (oi := ?on23) (v := ?vn23) ?hin23 ?an23 ?bn23 ?cn23 ?qn23 (Or.inl ⟨?dn23, ?hyn23⟩) hHeld ?restn23
  case hin23 => (simp only [List.getElem?_toArray, List.getElem?_cons_succ, List.getElem?_cons_zero]; exact rfl)
  case an23 => kernel_rfl
  case bn23 => kernel_rfl
  case cn23 => kernel_rfl
  case qn23 => exact fun _ _ _ h => h
  case dn23 => rfl
  case hyn23 => (intro z hSw; (try dsimp only at hSw); go_simp; (try with_reducible rfl))
  try simp only [Act.put, List.setIfInBounds_toArray, List.set_cons_zero, List.set_cons_succ]
  refine wpAnyH_take (i := 4) (oi := ?on24) (v := ?vn24) ?hin24 ?an24 ?bn24 ?cn24 ?qn24 (Or.inl ⟨?dn24, ?hyn24⟩) hHeld ?restn24
  case hin24 => (simp only [List.getElem?_toArray, List.getElem?_cons_succ, List.getElem?_cons_zero]; exact rfl)
  case an24 => kernel_rfl
  case bn24 => kernel_rfl
  case cn24 => kernel_rfl
  case qn24 => exact fun _ _ _ h => h
  case dn24 => rfl
  case hyn24 => (intro z hSw; (try dsimp only at hSw); go_simp; (try with_reducible rfl))
  try simp only [Act.put, List.setIfInBounds_toArray, List.set_cons_zero, List.set_cons_succ]
  refine wpAnyH_take (i := 5) (oi := ?on25) (v := ?vn25) ?hin25 ?an25 ?bn25 ?cn25 ?qn25 (Or.inl ⟨?dn25, ?hyn25⟩) hHeld ?restn25
  case hin25 => (simp only [List.getElem?_toArray, List.getElem?_cons_succ, List.getElem?_cons_zero]; exact rfl)
  case an25 => kernel_rfl
  case bn25 => kernel_rfl
  case cn25 => kernel_rfl
  case qn25 => exact fun _ _ _ h => h
  case dn25 => rfl
  case hyn25 => (intro z hSw; (try dsimp only at hSw); go_simp; (try with_reducible rfl))
  try simp only [Act.put, List.setIfInBounds_toArray, List.set_cons_zero, List.set_cons_succ]
  refine wpAnyH_take (i := 6) (oi := ?on26) (v := ?vn26) ?hin26 ?an26 ?bn26 ?cn26 ?qn26 (Or.inl ⟨?dn26, ?hyn26⟩) hHeld ?restn26
  case hin26 => (simp only [List.getElem?_toArray, List.getElem?_cons_succ, List.getElem?_cons_zero]; exact rfl)
  case an26 => kernel_rfl
  case bn26 => kernel_rfl
  case cn26 => kernel_rfl
  case qn26 => exact fun _ _ _ h => h
  case dn26 => rfl
  case hyn26 => (intro z hSw; (try dsimp only at hSw); go_simp; (try with_reducible rfl))
  try simp only [Act.put, List.setIfInBounds_toArray, List.set_cons_zero, List.set_cons_succ]
  refine wpAnyH_ready (rs := [3]) (by kernel_rfl) (by simp) ?_
  refine AllReadyH.cons (o := ?on27) ?hin27 ?restn27 AllReadyH.nil
  case hin27 => (simp only [List.getElem?_toArray, List.getElem?_cons_succ, List.getElem?_cons_zero]; exact rfl)
  intro K hK
  go_simp
  go_at_call 53
  refine (wo_sl _ _ _ L m _ hL (by have := HnL.out; omega)).mono ?_
  rintro e x1 ⟨Bsl, msl, dsl, rfl, hsl, hgx1⟩
  have hx1 : Grew w1 x1 := d1.trans hgx1
  replace hL := hL.grew hgx1
  replace hR := hR.grew hgx1
  refine hK.out _ _ ?_ (fun hHeld => ?_)
  · (try dsimp only); first | with_reducible assumption | exact hx1
  clear hK K
  try simp only [Act.put, List.setIfInBounds_toArray, List.set_cons_zero, List.set_cons_succ]
  refine wpAnyH_ready (rs := [7]) (by kernel_rfl) (by simp) ?_
  refine AllReadyH.cons (o := ?on28) ?hin28 ?restn28 AllReadyH.nil
  case hin28 => (simp only [List.getElem?_toArray, List.getElem?_cons_succ, List.getElem?_cons_zero]; exact rfl)
  intro K hK
  go_simp
  go_at_call 53
  refine (wo_sl _ _ _ R m _ hR (by have := HnR.out; omega)).mono ?_
  rintro e x2 ⟨Bsr, msr, dsr, rfl, hsr, hgx2⟩
  have hx2 : Grew w1 x2 := hx1.trans hgx2
  replace hL := hL.grew hgx2
  replace hR := hR.grew hgx2
  replace hsl := hsl.grew hgx2
  refine hK.out _ _ ?_ (fun hHeld => ?_)
  · (try dsimp only); first | with_reducible assumption | exact hx2
  clear hK K
  try simp only [Act.put, List.setIfInBounds_toArray, List.set_cons_zero, List.set_cons_succ]
  refine wpAnyH_take (i := 8) (oi := ?on29) (v := ?vn29) ?hin29 ?an29 ?bn29 ?cn29 ?qn29 (Or.inl ⟨?dn29, ?hyn29⟩) hHeld ?restn29
  case hin29 => (simp only [List.getElem?_toArray, List.getElem?_cons_succ, List.getElem?_cons_zero]; exact rfl)
  case an29 => kernel_rfl
  case bn29 => kernel_rfl
  case cn29 => kernel_rfl
  case qn29 => exact fun _ _ _ h => h
  case dn29 => rfl
  case hyn29 => (intro z hSw; (try dsimp only at hSw); go_simp; (try with_reducible rfl))
  try simp only [Act.put, List.setIfInBounds_toArray, List.set_cons_zero, List.set_cons_succ]
  refine wpAnyH_take (i := 9) (oi := ?on30) (v := ?vn30) ?hin30 ?an30 ?bn30 ?cn30 ?qn30 (Or.inl ⟨?dn30, ?hyn30⟩) hHeld ?restn30
  case hin30 => (simp only [List.getElem?_toArray, List.getElem?_cons_succ, List.getElem?_cons_zero]; exact rfl)
  case an30 => kernel_rfl
  case bn30 => kernel_rfl
  case cn30 => kernel_rfl
  case qn30 => exact fun _ _ _ h => h
  case dn30 => rfl
  case hyn30 => (intro z hSw; (try dsimp only at hSw); go_simp; (try with_reducible rfl))
  try simp only [Act.put, List.setIfInBounds_toArray, List.set_cons_zero, List.set_cons_succ]
  refine wpAnyH_done (by kernel_rfl) ?_ _
  go_wp2_with fail
  refine (KO.out _ (HG1.out.trans hx2)).mono ?_
  rintro e x3 ⟨rfl, hgx3⟩
  have hx3 : Grew w1 x3 := hx2.trans hgx3
  replace hL := hL.grew hgx3
  replace hR := hR.grew hgx3
  replace hsl := hsl.grew hgx3
  replace hsr := hsr.grew hgx3
  go_wp2_with fail
  have hd9 := hx3.drew
  replace hL := hL.grew (Grew.refl _).drew
  replace hR := hR.grew (Grew.refl _).drew
  replace hsl := hsl.grew (Grew.refl _).drew
  replace hsr := hsr.grew (Grew.refl _).drew
  refine wp_region_held_drew (S := fun w' => Grew w1 w') (by kernel_rfl) hd9 (fun hHeld => ?_)
  refine wpAnyH_take (i := 0) (oi := ?on31) (v := ?vn31) ?hin31 ?an31 ?bn31 ?cn31 ?qn31 (Or.inl ⟨?dn31, ?hyn31⟩) hHeld ?restn31
  case hin31 => (simp only [List.getElem?_toArray, List.getElem?_cons_zero]; exact rfl)
  case an31 => kernel_rfl
  case bn31 => kernel_rfl
  case cn31 => kernel_rfl
  case qn31 => exact fun _ _ _ h => h
  case dn31 => rfl
  case hyn31 => (intro z hSw; (try dsimp only at hSw); go_simp; (try with_reducible rfl))
  try simp only [Act.put, List.setIfInBounds_toArray, List.set_cons_zero, List.set_cons_succ]
  refine wpAnyH_take (i := 1) (oi := ?on32) (v := ?vn32) ?hin32 ?an32 ?bn32 ?cn32 ?qn32 (Or.inl ⟨?dn32, ?hyn32⟩) hHeld ?restn32
  case hin32 => (simp only [List.getElem?_toArray, List.getElem?_cons_succ, List.getElem?_cons_zero]; exact rfl)
  case an32 => kernel_rfl
  case bn32 => kernel_rfl
  case cn32 => kernel_rfl
  case qn32 => exact fun _ _ _ h => h
  case dn32 => rfl
  case hyn32 => (intro z hSw; (try dsimp only at hSw); go_simp; (try with_reducible rfl))
  try simp only [Act.put, List.setIfInBounds_toArray, List.set_cons_zero, List.set_cons_succ]
  refine wpAnyH_take (i := 3) (oi := ?on33) (v := ?vn33) ?hin33 ?an33 ?bn33 ?cn33 ?qn33 (Or.inl ⟨?dn33, ?hyn33⟩) hHeld ?restn33
  case hin33 => (simp only [List.getElem?_toArray, List.getElem?_cons_succ, List.getElem?_cons_zero]; exact rfl)
  case an33 => kernel_rfl
  case bn33 => kernel_rfl
  case cn33 => kernel_rfl
  case qn33 => exact fun _ _ _ h => h
  case dn33 => rfl
  case hyn33 => (intro z hSw; (try dsimp only at hSw); go_simp; (try with_reducible rfl))
  try simp only [Act.put, List.setIfInBounds_toArray, List.set_cons_zero, List.set_cons_succ]
  refine wpAnyH_take (i := 5) (oi := ?on34) (v := ?vn34) ?hin34 ?an34 ?bn34 ?cn34 ?qn34 (Or.inl ⟨?dn34, ?hyn34⟩) hHeld ?restn34
  case hin34 => (simp only [List.getElem?_toArray, List.getElem?_cons_succ, List.getElem?_cons_zero]; exact rfl)
  case an34 => kernel_rfl
  case bn34 => kernel_rfl
  case cn34 => kernel_rfl
  case qn34 => exact fun _ _ _ h => h
  case dn34 => rfl
  case hyn34 => (intro z hSw; (try dsimp only at hSw); go_simp; (try with_reducible rfl))
  try simp only [Act.put, List.setIfInBounds_toArray, List.set_cons_zero, List.set_cons_succ]
  refine wpAnyH_take (i := 6) (oi := ?on35) (v := ?vn35) ?hin35 ?an35 ?bn35 ?cn35 ?qn35 (Or.inl ⟨?dn35, ?hyn35⟩) hHeld ?restn35
  case hin35 => (simp only [List.getElem?_toArray, List.getElem?_cons_succ, List.getElem?_cons_zero]; exact rfl)
  case an35 => kernel_rfl
  case bn35 => kernel_rfl
  case cn35 => kernel_rfl
  case qn35 => exact fun _ _ _ h => h
  case dn35 => rfl
  case hyn35 => (intro z hSw; (try dsimp only at hSw); go_simp; (try with_reducible rfl))
  try simp only [Act.put, List.setIfInBounds_toArray, List.set_cons_zero, List.set_cons_succ]
  refine wpAnyH_take (i := 9) (oi := ?on36) (v := ?vn36) ?hin36 ?an36 ?bn36 ?cn36 ?qn36 (Or.inl ⟨?dn36, ?hyn36⟩) hHeld ?restn36
  case hin36 => (simp only [List.getElem?_toArray, List.getElem?_cons_succ, List.getElem?_cons_zero]; exact rfl)
  case an36 => kernel_rfl
  case bn36 => kernel_rfl
  case cn36 => kernel_rfl
  case qn36 => exact fun _ _ _ h => h
  case dn36 => rfl
  case hyn36 => (intro z hSw; (try dsimp only at hSw); go_simp; (try with_reducible rfl))
  try simp only [Act.put, List.setIfInBounds_toArray, List.set_cons_zero, List.set_cons_succ]
  refine wpAnyH_ready (rs := [2]) (by kernel_rfl) (by simp) ?_
  refine AllReadyH.cons (o := ?on37) ?hin37 ?restn37 AllReadyH.nil
  case hin37 => (simp only [List.getElem?_toArray, List.getElem?_cons_succ, List.getElem?_cons_zero]; exact rfl)
  intro K hK
  go_simp
  go_at_call 32
  refine (ins_sl _ _ _ (dropS L m) XA _ hsl (by have := HdL.out; omega)).mono ?_
  rintro e x4 ⟨Bs1, ms1, ds1, rfl, hs1, hgx4⟩
  have hx4 : Grew w1 x4 := hd9.trans hgx4
  replace hL := hL.grew hgx4
  replace hR := hR.grew hgx4
  replace hsl := hsl.grew hgx4
  replace hsr := hsr.grew hgx4
  refine hK.out _ _ ?_ (fun hHeld => ?_)
  · (try dsimp only); first | with_reducible assumption | exact hx4
  clear hK K
  try simp only [Act.put, List.setIfInBounds_toArray, List.set_cons_zero, List.set_cons_succ]
  refine wpAnyH_ready (rs := [4]) (by kernel_rfl) (by simp) ?_
  refine AllReadyH.cons (o := ?on38) ?hin38 ?restn38 AllReadyH.nil
  case hin38 => (simp only [List.getElem?_toArray, List.getElem?_cons_succ, List.getElem?_cons_zero]; exact rfl)
  intro K hK
  go_simp
  go_at_call 32
  refine (ins_sl _ _ _ (insA (dropS L m) XA) XB _ hs1 (by have := insA_len (dropS L m) XA; have : ((dropS L m)).length ≤ 1048575 := (by have := HdL.out; omega); omega)).mono ?_
  rintro e x5 ⟨Bs2, ms2, ds2, rfl, hs2, hgx5⟩
  have hx5 : Grew w1 x5 := hx4.trans hgx5
  replace hL := hL.grew hgx5
  replace hR := hR.grew hgx5
  replace hsl := hsl.grew hgx5
  replace hsr := hsr.grew hgx5
  replace hs1 := hs1.grew hgx5
  refine hK.out _ _ ?_ (fun hHeld => ?_)
  · (try dsimp only); first | with_reducible assumption | exact hx5
  clear hK K
  try simp only [Act.put, List.setIfInBounds_toArray, List.set_cons_zero, List.set_cons_succ]
  refine wpAnyH_ready (rs := [7]) (by kernel_rfl) (by simp) ?_
  refine AllReadyH.cons (o := ?on39) ?hin39 ?restn39 AllReadyH.nil
  case hin39 => (simp only [List.getElem?_toArray, List.getElem?_cons_succ, List.getElem?_cons_zero]; exact rfl)
  intro K hK
  go_simp
  obtain ⟨x6, hwx6⟩ : ∃ W, W = x5.alloc (.cells #[.slice Bs2 ms2 ds2, .slice A2 n2 c2] 22) := ⟨_, rfl⟩
  have hgx6 : Grew x5 x6 := by rw [hwx6]; exact (Grew.refl _).alloc _
  have hx6 : Grew w1 x6 := hx5.trans hgx6
  have hlit : x6.heap[x5.heap.size]? = some (.cells #[.slice Bs2 ms2 ds2, .slice A2 n2 c2] 22 (0, 0)) := by rw [hwx6]; exact blk_new _ _
  try simp only [← hwx6]
  clear hwx6
  replace hL := hL.grew hgx6
  replace hR := hR.grew hgx6
  replace hsl := hsl.grew hgx6
  replace hsr := hsr.grew hgx6
  replace hs1 := hs1.grew hgx6
  replace hs2 := hs2.grew hgx6
  refine hK.out _ _ ?_ (fun hHeld => ?_)
  · (try dsimp only); first | with_reducible assumption | exact hx6
  clear hK K
  try simp only [Act.put, List.setIfInBounds_toArray, List.set_cons_zero, List.set_cons_succ]
  refine wpAnyH_ready (rs := [8]) (by kernel_rfl) (by simp) ?_
  refine AllReadyH.cons (o := ?on40) ?hin40 ?restn40 AllReadyH.nil
  case hin40 => (simp only [List.getElem?_toArray, List.getElem?_cons_succ, List.getElem?_cons_zero]; exact rfl)
  intro K hK
  go_simp
  have hsd := sdR_one hlit hs2 hR
  have hll : ∀ x ∈ ([((insA (insA (dropS L m) XA) XB), R)] : List Ms), x.1.length ≤ 1048576 ∧ x.2.length ≤ 1048576 := by
    intro x hx; simp only [List.mem_cons, List.not_mem_nil, or_false] at hx; rcases hx with rfl <;> refine ⟨?_, ?_⟩ <;> dsimp only
    · exact (by have := insA_len (insA (dropS L m) XA) XB; have : ((insA (dropS L m) XA)).length ≤ 1048575 := (by have := insA_len (dropS L m) XA; have : ((dropS L m)).length ≤ 1048574 := (by have := HdL.out; omega); omega); omega)
    · exact (by have := HnR.out; omega)
  go_at_call 31
  refine (sq_sl _ 2 [((insA (insA (dropS L m) XA) XB), R)] _ rfl hsd (by simp) hll).mono ?_
  rintro e x7 ⟨Bq, mq, dq, rfl, hq, hgx7⟩
  have hx7 : Grew w1 x7 := hx6.trans hgx7
  replace hL := hL.grew hgx7
  replace hR := hR.grew hgx7
  replace hsl := hsl.grew hgx7
  replace hsr := hsr.grew hgx7
  replace hs1 := hs1.grew hgx7
  replace hs2 := hs2.grew hgx7
  refine hK.out _ _ ?_ (fun hHeld => ?_)
  · (try dsimp only); first | with_reducible assumption | exact hx7
  clear hK K
  try simp only [Act.put, List.setIfInBounds_toArray, List.set_cons_zero, List.set_cons_succ]
  refine wpAnyH_take (i := 10) (oi := ?on41) (v := ?vn41) ?hin41 ?an41 ?bn41 ?cn41 ?qn41 (Or.inl ⟨?dn41, ?hyn41⟩) hHeld ?restn41
  case hin41 => (simp only [List.getElem?_toArray, List.getElem?_cons_succ, List.getElem?_cons_zero]; exact rfl)
  case an41 => kernel_rfl
  case bn41 => kernel_rfl
  case cn41 => kernel_rfl
  case qn41 => exact fun _ _ _ h => h
  case dn41 => rfl
  case hyn41 => (intro z hSw; (try dsimp only at hSw); go_simp; (try with_reducible rfl))
  try simp only [Act.put, List.setIfInBounds_toArray, List.set_cons_zero, List.set_cons_succ]
  refine wpAnyH_take (i := 11) (oi := ?on42) (v := ?vn42) ?hin42 ?an42 ?bn42 ?cn42 ?qn42 (Or.inl ⟨?dn42, ?hyn42⟩) hHeld ?restn42
  case hin42 => (simp only [List.getElem?_toArray, List.getElem?_cons_succ, List.getElem?_cons_zero]; exact rfl)
  case an42 => kernel_rfl
  case bn42 => kernel_rfl
  case cn42 => kernel_rfl
  case qn42 => exact fun _ _ _ h => h
  case dn42 => rfl
  case hyn42 => (intro z hSw; (try dsimp only at hSw); go_simp; (try with_reducible rfl))
  try simp only [Act.put, List.setIfInBounds_toArray, List.set_cons_zero, List.set_cons_succ]
  refine wpAnyH_done (by kernel_rfl) ?_ _
  go_wp2_with fail
  go_ret2
  exact ⟨_, _, _, rfl, fun _ => hq, HG1.out.trans hx7⟩

set_option maxHeartbeats 4000000 in
set_option maxRecDepth 8192 in
theorem l11Local_4 (m : ByteArray) (va vb : Value) (L R : List ByteArray) (w : World) (ha : Strs w va L) (hb : Strs w vb R) (hgL : ∀ i, i < L.length → gd (st L i) = true) (hgR : ∀ i, i < R.length → gd (st R i) = true) (hnL : L.length ≤ 16) (hnR : R.length ≤ 16) (hmz : m.size ≤ 1048576) :
    Calls Tryz.prog 34 #[.int .i64 4, .agg #[va, vb], .string m] w (GivesPm w ([(L, (insA (dropS R m) (onF R m 2).1)), (L, (insA (dropS R m) (onF R m 2).2.1))], (onF R m 2).2.2)) := by
  have hdL : (dropS L m).length ≤ 16 := Nat.le_trans (List.length_filter_le _ _) hnL
  have hdR : (dropS R m).length ≤ 16 := Nat.le_trans (List.length_filter_le _ _) hnR
  have KO := Lib.hid (fun W (hW : Grew w W) => l11On_c vb R m 2 W (hb.grew hW) hgR (by omega) hmz (by omega))
  obtain ⟨A1, c1, rfl⟩ := strs_slice ha
  obtain ⟨A2, c2, rfl⟩ := strs_slice hb
  obtain ⟨w1, hw1⟩ : ∃ w1, w1 = w.alloc (.cells #[.slice A1 L.length c1, .slice A2 R.length c2] 29) := ⟨_, rfl⟩
  have hg1 : Grew w w1 := by rw [hw1]; exact (Grew.refl w).alloc _
  have hb0 : w1.heap[w.heap.size]? = some (.cells #[.slice A1 L.length c1, .slice A2 R.length c2] 29 (0, 0)) := by rw [hw1]; exact blk_new w _
  have p0 : ∀ W, Grew w1 W → W.cell? ⟨w.heap.size, 0, none⟩ = some (.slice A1 L.length c1) := fun W hW => by rw [blk_cell ((hW.block (blk_lt hb0)).trans hb0)]; rfl
  have p1 : ∀ W, Grew w1 W → W.cell? ⟨w.heap.size, 1, none⟩ = some (.slice A2 R.length c2) := fun W hW => by rw [blk_cell ((hW.block (blk_lt hb0)).trans hb0)]; rfl
  have hL := ha.grew hg1
  have hR := hb.grew hg1
  have HG1 := Lib.hid hg1
  have r1 := Grew.refl w1
  have d1 := r1.drew
  clear ha hb hgL hgR hb0 hg1
  have HnL := Lib.hid hnL
  have HnR := Lib.hid hnR
  have HdL := Lib.hid hdL
  have HdR := Lib.hid hdR
  generalize hX : onF R m 2 = X at *
  clear hX
  obtain ⟨XA, XB, XC⟩ := X
  generalize hn1 : L.length = n1 at p0 hL hw1 ⊢
  generalize hn2 : R.length = n2 at p1 hR hw1 KO ⊢
  have HN1 := Lib.hid hn1
  have HN2 := Lib.hid hn2
  clear hn1 hn2 hnL hnR hdL hdR
  go_enter Tryz.func34, Tryz.ntmps34
  go_wp2_with fail
  simp only [← hw1]
  clear hw1
  replace hL := hL.grew r1.drew
  replace hR := hR.grew r1.drew
  refine wp_region_held_drew (S := fun w' => Grew w1 w') (by kernel_rfl) d1 (fun hHeld => ?_)
  refine wpAnyH_take (i := 0) (oi := ?on43) (v := ?vn43) ?hin43 ?an43 ?bn43 ?cn43 ?qn43 (Or.inl ⟨?dn43, ?hyn43⟩) hHeld ?restn43
  case hin43 => (simp only [List.getElem?_toArray, List.getElem?_cons_zero]; exact rfl)
  case an43 => kernel_rfl
  case bn43 => kernel_rfl
  case cn43 => kernel_rfl
  case qn43 => exact fun _ _ _ h => h
  case dn43 => rfl
  case hyn43 => (intro z hSw; (try dsimp only at hSw); go_simp; (try with_reducible rfl))
  try simp only [Act.put, List.setIfInBounds_toArray, List.set_cons_zero, List.set_cons_succ]
  refine wpAnyH_take (i := 1) (oi := ?on44) (v := ?vn44) ?hin44 ?an44 ?bn44 ?cn44 ?qn44 (Or.inl ⟨?dn44, ?hyn44⟩) hHeld ?restn44
  case hin44 => (simp only [List.getElem?_toArray, List.getElem?_cons_succ, List.getElem?_cons_zero]; exact rfl)
  case an44 => kernel_rfl
  case bn44 => kernel_rfl
  case cn44 => kernel_rfl
  case qn44 => exact fun _ _ _ h => h
  case dn44 => rfl
  case hyn44 => (intro z hSw; (try dsimp only at hSw); go_simp; (try with_reducible rfl))
  try simp only [Act.put, List.setIfInBounds_toArray, List.set_cons_zero, List.set_cons_succ]
  refine wpAnyH_take (i := 2) (oi := ?on45) (v := ?vn45) ?hin45 ?an45 ?bn45 ?cn45 ?qn45 (Or.inl ⟨?dn45, ?hyn45⟩) hHeld ?restn45
  case hin45 => (simp only [List.getElem?_toArray, List.getElem?_cons_succ, List.getElem?_cons_zero]; exact rfl)
  case an45 => kernel_rfl
  case bn45 => kernel_rfl
  case cn45 => kernel_rfl
  case qn45 => exact fun _ _ _ h => h
  case dn45 => rfl
  case hyn45 => (intro z hSw; (try dsimp only at hSw); go_simp; (try with_reducible rfl))
  try simp only [Act.put, List.setIfInBounds_toArray, List.set_cons_zero, List.set_cons_succ]
  refine wpAnyH_take (i := 4) (oi := ?on46) (v := ?vn46) ?hin46 ?an46 ?bn46 ?cn46 ?qn46 (Or.inl ⟨?dn46, ?hyn46⟩) hHeld ?restn46
  case hin46 => (simp only [List.getElem?_toArray, List.getElem?_cons_succ, List.getElem?_cons_zero]; exact rfl)
  case an46 => kernel_rfl
  case bn46 => kernel_rfl
  case cn46 => kernel_rfl
  case qn46 => exact fun _ _ _ h => h
  case dn46 => rfl
  case hyn46 => (intro z hSw; (try dsimp only at hSw); go_simp; (try with_reducible rfl))
  try simp only [Act.put, List.setIfInBounds_toArray, List.set_cons_zero, List.set_cons_succ]
  refine wpAnyH_take (i := 5) (oi := ?on47) (v := ?vn47) ?hin47 ?an47 ?bn47 ?cn47 ?qn47 (Or.inl ⟨?dn47, ?hyn47⟩) hHeld ?restn47
  case hin47 => (simp only [List.getElem?_toArray, List.getElem?_cons_succ, List.getElem?_cons_zero]; exact rfl)
  case an47 => kernel_rfl
  case bn47 => kernel_rfl
  case cn47 => kernel_rfl
  case qn47 => exact fun _ _ _ h => h
  case dn47 => rfl
  case hyn47 => (intro z hSw; (try dsimp only at hSw); go_simp; (try with_reducible rfl))
  try simp only [Act.put, List.setIfInBounds_toArray, List.set_cons_zero, List.set_cons_succ]
  refine wpAnyH_take (i := 6) (oi := ?on48) (v := ?vn48) ?hin48 ?an48 ?bn48 ?cn48 ?qn48 (Or.inl ⟨?dn48, ?hyn48⟩) hHeld ?restn48
  case hin48 => (simp only [List.getElem?_toArray, List.getElem?_cons_succ, List.getElem?_cons_zero]; exact rfl)
  case an48 => kernel_rfl
  case bn48 => kernel_rfl
  case cn48 => kernel_rfl
  case qn48 => exact fun _ _ _ h => h
  case dn48 => rfl
  case hyn48 => (intro z hSw; (try dsimp only at hSw); go_simp; (try with_reducible rfl))
  try simp only [Act.put, List.setIfInBounds_toArray, List.set_cons_zero, List.set_cons_succ]
  refine wpAnyH_ready (rs := [3]) (by kernel_rfl) (by simp) ?_
  refine AllReadyH.cons (o := ?on49) ?hin49 ?restn49 AllReadyH.nil
  case hin49 => (simp only [List.getElem?_toArray, List.getElem?_cons_succ, List.getElem?_cons_zero]; exact rfl)
  intro K hK
  go_simp
  go_at_call 53
  refine (wo_sl _ _ _ L m _ hL (by have := HnL.out; omega)).mono ?_
  rintro e x1 ⟨Bsl, msl, dsl, rfl, hsl, hgx1⟩
  have hx1 : Grew w1 x1 := d1.trans hgx1
  replace hL := hL.grew hgx1
  replace hR := hR.grew hgx1
  refine hK.out _ _ ?_ (fun hHeld => ?_)
  · (try dsimp only); first | with_reducible assumption | exact hx1
  clear hK K
  try simp only [Act.put, List.setIfInBounds_toArray, List.set_cons_zero, List.set_cons_succ]
  refine wpAnyH_ready (rs := [7]) (by kernel_rfl) (by simp) ?_
  refine AllReadyH.cons (o := ?on50) ?hin50 ?restn50 AllReadyH.nil
  case hin50 => (simp only [List.getElem?_toArray, List.getElem?_cons_succ, List.getElem?_cons_zero]; exact rfl)
  intro K hK
  go_simp
  go_at_call 53
  refine (wo_sl _ _ _ R m _ hR (by have := HnR.out; omega)).mono ?_
  rintro e x2 ⟨Bsr, msr, dsr, rfl, hsr, hgx2⟩
  have hx2 : Grew w1 x2 := hx1.trans hgx2
  replace hL := hL.grew hgx2
  replace hR := hR.grew hgx2
  replace hsl := hsl.grew hgx2
  refine hK.out _ _ ?_ (fun hHeld => ?_)
  · (try dsimp only); first | with_reducible assumption | exact hx2
  clear hK K
  try simp only [Act.put, List.setIfInBounds_toArray, List.set_cons_zero, List.set_cons_succ]
  refine wpAnyH_take (i := 8) (oi := ?on51) (v := ?vn51) ?hin51 ?an51 ?bn51 ?cn51 ?qn51 (Or.inl ⟨?dn51, ?hyn51⟩) hHeld ?restn51
  case hin51 => (simp only [List.getElem?_toArray, List.getElem?_cons_succ, List.getElem?_cons_zero]; exact rfl)
  case an51 => kernel_rfl
  case bn51 => kernel_rfl
  case cn51 => kernel_rfl
  case qn51 => exact fun _ _ _ h => h
  case dn51 => rfl
  case hyn51 => (intro z hSw; (try dsimp only at hSw); go_simp; (try with_reducible rfl))
  try simp only [Act.put, List.setIfInBounds_toArray, List.set_cons_zero, List.set_cons_succ]
  refine wpAnyH_take (i := 9) (oi := ?on52) (v := ?vn52) ?hin52 ?an52 ?bn52 ?cn52 ?qn52 (Or.inl ⟨?dn52, ?hyn52⟩) hHeld ?restn52
  case hin52 => (simp only [List.getElem?_toArray, List.getElem?_cons_succ, List.getElem?_cons_zero]; exact rfl)
  case an52 => kernel_rfl
  case bn52 => kernel_rfl
  case cn52 => kernel_rfl
  case qn52 => exact fun _ _ _ h => h
  case dn52 => rfl
  case hyn52 => (intro z hSw; (try dsimp only at hSw); go_simp; (try with_reducible rfl))
  try simp only [Act.put, List.setIfInBounds_toArray, List.set_cons_zero, List.set_cons_succ]
  refine wpAnyH_done (by kernel_rfl) ?_ _
  go_wp2_with fail
  refine (KO.out _ (HG1.out.trans hx2)).mono ?_
  rintro e x3 ⟨rfl, hgx3⟩
  have hx3 : Grew w1 x3 := hx2.trans hgx3
  replace hL := hL.grew hgx3
  replace hR := hR.grew hgx3
  replace hsl := hsl.grew hgx3
  replace hsr := hsr.grew hgx3
  go_wp2_with fail
  have hd12 := hx3.drew
  replace hL := hL.grew (Grew.refl _).drew
  replace hR := hR.grew (Grew.refl _).drew
  replace hsl := hsl.grew (Grew.refl _).drew
  replace hsr := hsr.grew (Grew.refl _).drew
  refine wp_region_held_drew (S := fun w' => Grew w1 w') (by kernel_rfl) hd12 (fun hHeld => ?_)
  refine wpAnyH_take (i := 0) (oi := ?on53) (v := ?vn53) ?hin53 ?an53 ?bn53 ?cn53 ?qn53 (Or.inl ⟨?dn53, ?hyn53⟩) hHeld ?restn53
  case hin53 => (simp only [List.getElem?_toArray, List.getElem?_cons_zero]; exact rfl)
  case an53 => kernel_rfl
  case bn53 => kernel_rfl
  case cn53 => kernel_rfl
  case qn53 => exact fun _ _ _ h => h
  case dn53 => rfl
  case hyn53 => (intro z hSw; (try dsimp only at hSw); go_simp; (try with_reducible rfl))
  try simp only [Act.put, List.setIfInBounds_toArray, List.set_cons_zero, List.set_cons_succ]
  refine wpAnyH_take (i := 1) (oi := ?on54) (v := ?vn54) ?hin54 ?an54 ?bn54 ?cn54 ?qn54 (Or.inl ⟨?dn54, ?hyn54⟩) hHeld ?restn54
  case hin54 => (simp only [List.getElem?_toArray, List.getElem?_cons_succ, List.getElem?_cons_zero]; exact rfl)
  case an54 => kernel_rfl
  case bn54 => kernel_rfl
  case cn54 => kernel_rfl
  case qn54 => exact fun _ _ _ h => h
  case dn54 => rfl
  case hyn54 => (intro z hSw; (try dsimp only at hSw); go_simp; (try with_reducible rfl))
  try simp only [Act.put, List.setIfInBounds_toArray, List.set_cons_zero, List.set_cons_succ]
  refine wpAnyH_take (i := 2) (oi := ?on55) (v := ?vn55) ?hin55 ?an55 ?bn55 ?cn55 ?qn55 (Or.inl ⟨?dn55, ?hyn55⟩) hHeld ?restn55
  case hin55 => (simp only [List.getElem?_toArray, List.getElem?_cons_succ, List.getElem?_cons_zero]; exact rfl)
  case an55 => kernel_rfl
  case bn55 => kernel_rfl
  case cn55 => kernel_rfl
  case qn55 => exact fun _ _ _ h => h
  case dn55 => rfl
  case hyn55 => (intro z hSw; (try dsimp only at hSw); go_simp; (try with_reducible rfl))
  try simp only [Act.put, List.setIfInBounds_toArray, List.set_cons_zero, List.set_cons_succ]
  refine wpAnyH_take (i := 3) (oi := ?on56) (v := ?vn56) ?hin56 ?an56 ?bn56 ?cn56 ?qn56 (Or.inl ⟨?dn56, ?hyn56⟩) hHeld ?restn56
  case hin56 => (simp only [List.getElem?_toArray, List.getElem?_cons_succ, List.getElem?_cons_zero]; exact rfl)
  case an56 => kernel_rfl
  case bn56 => kernel_rfl
  case cn56 => kernel_rfl
  case qn56 => exact fun _ _ _ h => h
  case dn56 => rfl
  case hyn56 => (intro z hSw; (try dsimp only at hSw); go_simp; (try with_reducible rfl))
  try simp only [Act.put, List.setIfInBounds_toArray, List.set_cons_zero, List.set_cons_succ]
  refine wpAnyH_take (i := 5) (oi := ?on57) (v := ?vn57) ?hin57 ?an57 ?bn57 ?cn57 ?qn57 (Or.inl ⟨?dn57, ?hyn57⟩) hHeld ?restn57
  case hin57 => (simp only [List.getElem?_toArray, List.getElem?_cons_succ, List.getElem?_cons_zero]; exact rfl)
  case an57 => kernel_rfl
  case bn57 => kernel_rfl
  case cn57 => kernel_rfl
  case qn57 => exact fun _ _ _ h => h
  case dn57 => rfl
  case hyn57 => (intro z hSw; (try dsimp only at hSw); go_simp; (try with_reducible rfl))
  try simp only [Act.put, List.setIfInBounds_toArray, List.set_cons_zero, List.set_cons_succ]
  refine wpAnyH_take (i := 6) (oi := ?on58) (v := ?vn58) ?hin58 ?an58 ?bn58 ?cn58 ?qn58 (Or.inl ⟨?dn58, ?hyn58⟩) hHeld ?restn58
  case hin58 => (simp only [List.getElem?_toArray, List.getElem?_cons_succ, List.getElem?_cons_zero]; exact rfl)
  case an58 => kernel_rfl
  case bn58 => kernel_rfl
  case cn58 => kernel_rfl
  case qn58 => exact fun _ _ _ h => h
  case dn58 => rfl
  case hyn58 => (intro z hSw; (try dsimp only at hSw); go_simp; (try with_reducible rfl))
  try simp only [Act.put, List.setIfInBounds_toArray, List.set_cons_zero, List.set_cons_succ]
  refine wpAnyH_take (i := 7) (oi := ?on59) (v := ?vn59) ?hin59 ?an59 ?bn59 ?cn59 ?qn59 (Or.inl ⟨?dn59, ?hyn59⟩) hHeld ?restn59
  case hin59 => (simp only [List.getElem?_toArray, List.getElem?_cons_succ, List.getElem?_cons_zero]; exact rfl)
  case an59 => kernel_rfl
  case bn59 => kernel_rfl
  case cn59 => kernel_rfl
  case qn59 => exact fun _ _ _ h => h
  case dn59 => rfl
  case hyn59 => (intro z hSw; (try dsimp only at hSw); go_simp; (try with_reducible rfl))
  try simp only [Act.put, List.setIfInBounds_toArray, List.set_cons_zero, List.set_cons_succ]
  refine wpAnyH_take (i := 8) (oi := ?on60) (v := ?vn60) ?hin60 ?an60 ?bn60 ?cn60 ?qn60 (Or.inl ⟨?dn60, ?hyn60⟩) hHeld ?restn60
  case hin60 => (simp only [List.getElem?_toArray, List.getElem?_cons_succ, List.getElem?_cons_zero]; exact rfl)
  case an60 => kernel_rfl
  case bn60 => kernel_rfl
  case cn60 => kernel_rfl
  case qn60 => exact fun _ _ _ h => h
  case dn60 => rfl
  case hyn60 => (intro z hSw; (try dsimp only at hSw); go_simp; (try with_reducible rfl))
  try simp only [Act.put, List.setIfInBounds_toArray, List.set_cons_zero, List.set_cons_succ]
  refine wpAnyH_take (i := 12) (oi := ?on61) (v := ?vn61) ?hin61 ?an61 ?bn61 ?cn61 ?qn61 (Or.inl ⟨?dn61, ?hyn61⟩) hHeld ?restn61
  case hin61 => (simp only [List.getElem?_toArray, List.getElem?_cons_succ, List.getElem?_cons_zero]; exact rfl)
  case an61 => kernel_rfl
  case bn61 => kernel_rfl
  case cn61 => kernel_rfl
  case qn61 => exact fun _ _ _ h => h
  case dn61 => rfl
  case hyn61 => (intro z hSw; (try dsimp only at hSw); go_simp; (try with_reducible rfl))
  try simp only [Act.put, List.setIfInBounds_toArray, List.set_cons_zero, List.set_cons_succ]
  refine wpAnyH_ready (rs := [4]) (by kernel_rfl) (by simp) ?_
  refine AllReadyH.cons (o := ?on62) ?hin62 ?restn62 AllReadyH.nil
  case hin62 => (simp only [List.getElem?_toArray, List.getElem?_cons_succ, List.getElem?_cons_zero]; exact rfl)
  intro K hK
  go_simp
  go_at_call 32
  refine (ins_sl _ _ _ (dropS R m) XA _ hsr (by have := HdR.out; omega)).mono ?_
  rintro e x4 ⟨Bs1, ms1, ds1, rfl, hs1, hgx4⟩
  have hx4 : Grew w1 x4 := hd12.trans hgx4
  replace hL := hL.grew hgx4
  replace hR := hR.grew hgx4
  replace hsl := hsl.grew hgx4
  replace hsr := hsr.grew hgx4
  refine hK.out _ _ ?_ (fun hHeld => ?_)
  · (try dsimp only); first | with_reducible assumption | exact hx4
  clear hK K
  try simp only [Act.put, List.setIfInBounds_toArray, List.set_cons_zero, List.set_cons_succ]
  refine wpAnyH_ready (rs := [9]) (by kernel_rfl) (by simp) ?_
  refine AllReadyH.cons (o := ?on63) ?hin63 ?restn63 AllReadyH.nil
  case hin63 => (simp only [List.getElem?_toArray, List.getElem?_cons_succ, List.getElem?_cons_zero]; exact rfl)
  intro K hK
  go_simp
  go_at_call 32
  refine (ins_sl _ _ _ (dropS R m) XB _ hsr (by have := HdR.out; omega)).mono ?_
  rintro e x5 ⟨Bs2, ms2, ds2, rfl, hs2, hgx5⟩
  have hx5 : Grew w1 x5 := hx4.trans hgx5
  replace hL := hL.grew hgx5
  replace hR := hR.grew hgx5
  replace hsl := hsl.grew hgx5
  replace hsr := hsr.grew hgx5
  replace hs1 := hs1.grew hgx5
  refine hK.out _ _ ?_ (fun hHeld => ?_)
  · (try dsimp only); first | with_reducible assumption | exact hx5
  clear hK K
  try simp only [Act.put, List.setIfInBounds_toArray, List.set_cons_zero, List.set_cons_succ]
  refine wpAnyH_ready (rs := [10]) (by kernel_rfl) (by simp) ?_
  refine AllReadyH.cons (o := ?on64) ?hin64 ?restn64 AllReadyH.nil
  case hin64 => (simp only [List.getElem?_toArray, List.getElem?_cons_succ, List.getElem?_cons_zero]; exact rfl)
  intro K hK
  go_simp
  obtain ⟨x6, hwx6⟩ : ∃ W, W = x5.alloc (.cells #[.slice A1 n1 c1, .slice Bs1 ms1 ds1, .slice A1 n1 c1, .slice Bs2 ms2 ds2] 22) := ⟨_, rfl⟩
  have hgx6 : Grew x5 x6 := by rw [hwx6]; exact (Grew.refl _).alloc _
  have hx6 : Grew w1 x6 := hx5.trans hgx6
  have hlit : x6.heap[x5.heap.size]? = some (.cells #[.slice A1 n1 c1, .slice Bs1 ms1 ds1, .slice A1 n1 c1, .slice Bs2 ms2 ds2] 22 (0, 0)) := by rw [hwx6]; exact blk_new _ _
  try simp only [← hwx6]
  clear hwx6
  replace hL := hL.grew hgx6
  replace hR := hR.grew hgx6
  replace hsl := hsl.grew hgx6
  replace hsr := hsr.grew hgx6
  replace hs1 := hs1.grew hgx6
  replace hs2 := hs2.grew hgx6
  refine hK.out _ _ ?_ (fun hHeld => ?_)
  · (try dsimp only); first | with_reducible assumption | exact hx6
  clear hK K
  try simp only [Act.put, List.setIfInBounds_toArray, List.set_cons_zero, List.set_cons_succ]
  refine wpAnyH_ready (rs := [11]) (by kernel_rfl) (by simp) ?_
  refine AllReadyH.cons (o := ?on65) ?hin65 ?restn65 AllReadyH.nil
  case hin65 => (simp only [List.getElem?_toArray, List.getElem?_cons_succ, List.getElem?_cons_zero]; exact rfl)
  intro K hK
  go_simp
  have hsd := sdR_two hlit hL hs1 hL hs2
  have hll : ∀ x ∈ ([(L, (insA (dropS R m) XA)), (L, (insA (dropS R m) XB))] : List Ms), x.1.length ≤ 1048576 ∧ x.2.length ≤ 1048576 := by
    intro x hx; simp only [List.mem_cons, List.not_mem_nil, or_false] at hx; rcases hx with rfl | rfl <;> refine ⟨?_, ?_⟩ <;> dsimp only
    · exact (by have := HnL.out; omega)
    · exact (by have := insA_len (dropS R m) XA; have : ((dropS R m)).length ≤ 1048575 := (by have := HdR.out; omega); omega)
    · exact (by have := HnL.out; omega)
    · exact (by have := insA_len (dropS R m) XB; have : ((dropS R m)).length ≤ 1048575 := (by have := HdR.out; omega); omega)
  go_at_call 31
  refine (sq_sl _ 4 [(L, (insA (dropS R m) XA)), (L, (insA (dropS R m) XB))] _ rfl hsd (by simp) hll).mono ?_
  rintro e x7 ⟨Bq, mq, dq, rfl, hq, hgx7⟩
  have hx7 : Grew w1 x7 := hx6.trans hgx7
  replace hL := hL.grew hgx7
  replace hR := hR.grew hgx7
  replace hsl := hsl.grew hgx7
  replace hsr := hsr.grew hgx7
  replace hs1 := hs1.grew hgx7
  replace hs2 := hs2.grew hgx7
  refine hK.out _ _ ?_ (fun hHeld => ?_)
  · (try dsimp only); first | with_reducible assumption | exact hx7
  clear hK K
  try simp only [Act.put, List.setIfInBounds_toArray, List.set_cons_zero, List.set_cons_succ]
  refine wpAnyH_take (i := 13) (oi := ?on66) (v := ?vn66) ?hin66 ?an66 ?bn66 ?cn66 ?qn66 (Or.inl ⟨?dn66, ?hyn66⟩) hHeld ?restn66
  case hin66 => (simp only [List.getElem?_toArray, List.getElem?_cons_succ, List.getElem?_cons_zero]; exact rfl)
  case an66 => kernel_rfl
  case bn66 => kernel_rfl
  case cn66 => kernel_rfl
  case qn66 => exact fun _ _ _ h => h
  case dn66 => rfl
  case hyn66 => (intro z hSw; (try dsimp only at hSw); go_simp; (try with_reducible rfl))
  try simp only [Act.put, List.setIfInBounds_toArray, List.set_cons_zero, List.set_cons_succ]
  refine wpAnyH_take (i := 14) (oi := ?on67) (v := ?vn67) ?hin67 ?an67 ?bn67 ?cn67 ?qn67 (Or.inl ⟨?dn67, ?hyn67⟩) hHeld ?restn67
  case hin67 => (simp only [List.getElem?_toArray, List.getElem?_cons_succ, List.getElem?_cons_zero]; exact rfl)
  case an67 => kernel_rfl
  case bn67 => kernel_rfl
  case cn67 => kernel_rfl
  case qn67 => exact fun _ _ _ h => h
  case dn67 => rfl
  case hyn67 => (intro z hSw; (try dsimp only at hSw); go_simp; (try with_reducible rfl))
  try simp only [Act.put, List.setIfInBounds_toArray, List.set_cons_zero, List.set_cons_succ]
  refine wpAnyH_done (by kernel_rfl) ?_ _
  go_wp2_with fail
  go_ret2
  exact ⟨_, _, _, rfl, fun _ => hq, HG1.out.trans hx7⟩

set_option maxHeartbeats 4000000 in
set_option maxRecDepth 8192 in
theorem l11Local_5 (m : ByteArray) (va vb : Value) (L R : List ByteArray) (w : World) (ha : Strs w va L) (hb : Strs w vb R) (hgL : ∀ i, i < L.length → gd (st L i) = true) (hgR : ∀ i, i < R.length → gd (st R i) = true) (hnL : L.length ≤ 16) (hnR : R.length ≤ 16) (hmz : m.size ≤ 1048576) :
    Calls Tryz.prog 34 #[.int .i64 5, .agg #[va, vb], .string m] w (GivesPm w ([((insA (dropS L m) (onF L m 3).1), R), ((insA (dropS L m) (onF L m 3).2.1), R)], (onF L m 3).2.2)) := by
  have hdL : (dropS L m).length ≤ 16 := Nat.le_trans (List.length_filter_le _ _) hnL
  have hdR : (dropS R m).length ≤ 16 := Nat.le_trans (List.length_filter_le _ _) hnR
  have KO := Lib.hid (fun W (hW : Grew w W) => l11On_c va L m 3 W (ha.grew hW) hgL (by omega) hmz (by omega))
  obtain ⟨A1, c1, rfl⟩ := strs_slice ha
  obtain ⟨A2, c2, rfl⟩ := strs_slice hb
  obtain ⟨w1, hw1⟩ : ∃ w1, w1 = w.alloc (.cells #[.slice A1 L.length c1, .slice A2 R.length c2] 29) := ⟨_, rfl⟩
  have hg1 : Grew w w1 := by rw [hw1]; exact (Grew.refl w).alloc _
  have hb0 : w1.heap[w.heap.size]? = some (.cells #[.slice A1 L.length c1, .slice A2 R.length c2] 29 (0, 0)) := by rw [hw1]; exact blk_new w _
  have p0 : ∀ W, Grew w1 W → W.cell? ⟨w.heap.size, 0, none⟩ = some (.slice A1 L.length c1) := fun W hW => by rw [blk_cell ((hW.block (blk_lt hb0)).trans hb0)]; rfl
  have p1 : ∀ W, Grew w1 W → W.cell? ⟨w.heap.size, 1, none⟩ = some (.slice A2 R.length c2) := fun W hW => by rw [blk_cell ((hW.block (blk_lt hb0)).trans hb0)]; rfl
  have hL := ha.grew hg1
  have hR := hb.grew hg1
  have HG1 := Lib.hid hg1
  have r1 := Grew.refl w1
  have d1 := r1.drew
  clear ha hb hgL hgR hb0 hg1
  have HnL := Lib.hid hnL
  have HnR := Lib.hid hnR
  have HdL := Lib.hid hdL
  have HdR := Lib.hid hdR
  generalize hX : onF L m 3 = X at *
  clear hX
  obtain ⟨XA, XB, XC⟩ := X
  generalize hn1 : L.length = n1 at p0 hL hw1 KO ⊢
  generalize hn2 : R.length = n2 at p1 hR hw1 ⊢
  have HN1 := Lib.hid hn1
  have HN2 := Lib.hid hn2
  clear hn1 hn2 hnL hnR hdL hdR
  go_enter Tryz.func34, Tryz.ntmps34
  go_wp2_with fail
  simp only [← hw1]
  clear hw1
  replace hL := hL.grew r1.drew
  replace hR := hR.grew r1.drew
  refine wp_region_held_drew (S := fun w' => Grew w1 w') (by kernel_rfl) d1 (fun hHeld => ?_)
  refine wpAnyH_take (i := 0) (oi := ?on68) (v := ?vn68) ?hin68 ?an68 ?bn68 ?cn68 ?qn68 (Or.inl ⟨?dn68, ?hyn68⟩) hHeld ?restn68
  case hin68 => (simp only [List.getElem?_toArray, List.getElem?_cons_zero]; exact rfl)
  case an68 => kernel_rfl
  case bn68 => kernel_rfl
  case cn68 => kernel_rfl
  case qn68 => exact fun _ _ _ h => h
  case dn68 => rfl
  case hyn68 => (intro z hSw; (try dsimp only at hSw); go_simp; (try with_reducible rfl))
  try simp only [Act.put, List.setIfInBounds_toArray, List.set_cons_zero, List.set_cons_succ]
  refine wpAnyH_take (i := 1) (oi := ?on69) (v := ?vn69) ?hin69 ?an69 ?bn69 ?cn69 ?qn69 (Or.inl ⟨?dn69, ?hyn69⟩) hHeld ?restn69
  case hin69 => (simp only [List.getElem?_toArray, List.getElem?_cons_succ, List.getElem?_cons_zero]; exact rfl)
  case an69 => kernel_rfl
  case bn69 => kernel_rfl
  case cn69 => kernel_rfl
  case qn69 => exact fun _ _ _ h => h
  case dn69 => rfl
  case hyn69 => (intro z hSw; (try dsimp only at hSw); go_simp; (try with_reducible rfl))
  try simp only [Act.put, List.setIfInBounds_toArray, List.set_cons_zero, List.set_cons_succ]
  refine wpAnyH_take (i := 2) (oi := ?on70) (v := ?vn70) ?hin70 ?an70 ?bn70 ?cn70 ?qn70 (Or.inl ⟨?dn70, ?hyn70⟩) hHeld ?restn70
  case hin70 => (simp only [List.getElem?_toArray, List.getElem?_cons_succ, List.getElem?_cons_zero]; exact rfl)
  case an70 => kernel_rfl
  case bn70 => kernel_rfl
  case cn70 => kernel_rfl
  case qn70 => exact fun _ _ _ h => h
  case dn70 => rfl
  case hyn70 => (intro z hSw; (try dsimp only at hSw); go_simp; (try with_reducible rfl))
  try simp only [Act.put, List.setIfInBounds_toArray, List.set_cons_zero, List.set_cons_succ]
  refine wpAnyH_take (i := 4) (oi := ?on71) (v := ?vn71) ?hin71 ?an71 ?bn71 ?cn71 ?qn71 (Or.inl ⟨?dn71, ?hyn71⟩) hHeld ?restn71
  case hin71 => (simp only [List.getElem?_toArray, List.getElem?_cons_succ, List.getElem?_cons_zero]; exact rfl)
  case an71 => kernel_rfl
  case bn71 => kernel_rfl
  case cn71 => kernel_rfl
  case qn71 => exact fun _ _ _ h => h
  case dn71 => rfl
  case hyn71 => (intro z hSw; (try dsimp only at hSw); go_simp; (try with_reducible rfl))
  try simp only [Act.put, List.setIfInBounds_toArray, List.set_cons_zero, List.set_cons_succ]
  refine wpAnyH_take (i := 5) (oi := ?on72) (v := ?vn72) ?hin72 ?an72 ?bn72 ?cn72 ?qn72 (Or.inl ⟨?dn72, ?hyn72⟩) hHeld ?restn72
  case hin72 => (simp only [List.getElem?_toArray, List.getElem?_cons_succ, List.getElem?_cons_zero]; exact rfl)
  case an72 => kernel_rfl
  case bn72 => kernel_rfl
  case cn72 => kernel_rfl
  case qn72 => exact fun _ _ _ h => h
  case dn72 => rfl
  case hyn72 => (intro z hSw; (try dsimp only at hSw); go_simp; (try with_reducible rfl))
  try simp only [Act.put, List.setIfInBounds_toArray, List.set_cons_zero, List.set_cons_succ]
  refine wpAnyH_take (i := 6) (oi := ?on73) (v := ?vn73) ?hin73 ?an73 ?bn73 ?cn73 ?qn73 (Or.inl ⟨?dn73, ?hyn73⟩) hHeld ?restn73
  case hin73 => (simp only [List.getElem?_toArray, List.getElem?_cons_succ, List.getElem?_cons_zero]; exact rfl)
  case an73 => kernel_rfl
  case bn73 => kernel_rfl
  case cn73 => kernel_rfl
  case qn73 => exact fun _ _ _ h => h
  case dn73 => rfl
  case hyn73 => (intro z hSw; (try dsimp only at hSw); go_simp; (try with_reducible rfl))
  try simp only [Act.put, List.setIfInBounds_toArray, List.set_cons_zero, List.set_cons_succ]
  refine wpAnyH_ready (rs := [3]) (by kernel_rfl) (by simp) ?_
  refine AllReadyH.cons (o := ?on74) ?hin74 ?restn74 AllReadyH.nil
  case hin74 => (simp only [List.getElem?_toArray, List.getElem?_cons_succ, List.getElem?_cons_zero]; exact rfl)
  intro K hK
  go_simp
  go_at_call 53
  refine (wo_sl _ _ _ L m _ hL (by have := HnL.out; omega)).mono ?_
  rintro e x1 ⟨Bsl, msl, dsl, rfl, hsl, hgx1⟩
  have hx1 : Grew w1 x1 := d1.trans hgx1
  replace hL := hL.grew hgx1
  replace hR := hR.grew hgx1
  refine hK.out _ _ ?_ (fun hHeld => ?_)
  · (try dsimp only); first | with_reducible assumption | exact hx1
  clear hK K
  try simp only [Act.put, List.setIfInBounds_toArray, List.set_cons_zero, List.set_cons_succ]
  refine wpAnyH_ready (rs := [7]) (by kernel_rfl) (by simp) ?_
  refine AllReadyH.cons (o := ?on75) ?hin75 ?restn75 AllReadyH.nil
  case hin75 => (simp only [List.getElem?_toArray, List.getElem?_cons_succ, List.getElem?_cons_zero]; exact rfl)
  intro K hK
  go_simp
  go_at_call 53
  refine (wo_sl _ _ _ R m _ hR (by have := HnR.out; omega)).mono ?_
  rintro e x2 ⟨Bsr, msr, dsr, rfl, hsr, hgx2⟩
  have hx2 : Grew w1 x2 := hx1.trans hgx2
  replace hL := hL.grew hgx2
  replace hR := hR.grew hgx2
  replace hsl := hsl.grew hgx2
  refine hK.out _ _ ?_ (fun hHeld => ?_)
  · (try dsimp only); first | with_reducible assumption | exact hx2
  clear hK K
  try simp only [Act.put, List.setIfInBounds_toArray, List.set_cons_zero, List.set_cons_succ]
  refine wpAnyH_take (i := 8) (oi := ?on76) (v := ?vn76) ?hin76 ?an76 ?bn76 ?cn76 ?qn76 (Or.inl ⟨?dn76, ?hyn76⟩) hHeld ?restn76
  case hin76 => (simp only [List.getElem?_toArray, List.getElem?_cons_succ, List.getElem?_cons_zero]; exact rfl)
  case an76 => kernel_rfl
  case bn76 => kernel_rfl
  case cn76 => kernel_rfl
  case qn76 => exact fun _ _ _ h => h
  case dn76 => rfl
  case hyn76 => (intro z hSw; (try dsimp only at hSw); go_simp; (try with_reducible rfl))
  try simp only [Act.put, List.setIfInBounds_toArray, List.set_cons_zero, List.set_cons_succ]
  refine wpAnyH_take (i := 9) (oi := ?on77) (v := ?vn77) ?hin77 ?an77 ?bn77 ?cn77 ?qn77 (Or.inl ⟨?dn77, ?hyn77⟩) hHeld ?restn77
  case hin77 => (simp only [List.getElem?_toArray, List.getElem?_cons_succ, List.getElem?_cons_zero]; exact rfl)
  case an77 => kernel_rfl
  case bn77 => kernel_rfl
  case cn77 => kernel_rfl
  case qn77 => exact fun _ _ _ h => h
  case dn77 => rfl
  case hyn77 => (intro z hSw; (try dsimp only at hSw); go_simp; (try with_reducible rfl))
  try simp only [Act.put, List.setIfInBounds_toArray, List.set_cons_zero, List.set_cons_succ]
  refine wpAnyH_done (by kernel_rfl) ?_ _
  go_wp2_with fail
  refine (KO.out _ (HG1.out.trans hx2)).mono ?_
  rintro e x3 ⟨rfl, hgx3⟩
  have hx3 : Grew w1 x3 := hx2.trans hgx3
  replace hL := hL.grew hgx3
  replace hR := hR.grew hgx3
  replace hsl := hsl.grew hgx3
  replace hsr := hsr.grew hgx3
  go_wp2_with fail
  have hd15 := hx3.drew
  replace hL := hL.grew (Grew.refl _).drew
  replace hR := hR.grew (Grew.refl _).drew
  replace hsl := hsl.grew (Grew.refl _).drew
  replace hsr := hsr.grew (Grew.refl _).drew
  refine wp_region_held_drew (S := fun w' => Grew w1 w') (by kernel_rfl) hd15 (fun hHeld => ?_)
  refine wpAnyH_take (i := 0) (oi := ?on78) (v := ?vn78) ?hin78 ?an78 ?bn78 ?cn78 ?qn78 (Or.inl ⟨?dn78, ?hyn78⟩) hHeld ?restn78
  case hin78 => (simp only [List.getElem?_toArray, List.getElem?_cons_zero]; exact rfl)
  case an78 => kernel_rfl
  case bn78 => kernel_rfl
  case cn78 => kernel_rfl
  case qn78 => exact fun _ _ _ h => h
  case dn78 => rfl
  case hyn78 => (intro z hSw; (try dsimp only at hSw); go_simp; (try with_reducible rfl))
  try simp only [Act.put, List.setIfInBounds_toArray, List.set_cons_zero, List.set_cons_succ]
  refine wpAnyH_take (i := 1) (oi := ?on79) (v := ?vn79) ?hin79 ?an79 ?bn79 ?cn79 ?qn79 (Or.inl ⟨?dn79, ?hyn79⟩) hHeld ?restn79
  case hin79 => (simp only [List.getElem?_toArray, List.getElem?_cons_succ, List.getElem?_cons_zero]; exact rfl)
  case an79 => kernel_rfl
  case bn79 => kernel_rfl
  case cn79 => kernel_rfl
  case qn79 => exact fun _ _ _ h => h
  case dn79 => rfl
  case hyn79 => (intro z hSw; (try dsimp only at hSw); go_simp; (try with_reducible rfl))
  try simp only [Act.put, List.setIfInBounds_toArray, List.set_cons_zero, List.set_cons_succ]
  refine wpAnyH_take (i := 3) (oi := ?on80) (v := ?vn80) ?hin80 ?an80 ?bn80 ?cn80 ?qn80 (Or.inl ⟨?dn80, ?hyn80⟩) hHeld ?restn80
  case hin80 => (simp only [List.getElem?_toArray, List.getElem?_cons_succ, List.getElem?_cons_zero]; exact rfl)
  case an80 => kernel_rfl
  case bn80 => kernel_rfl
  case cn80 => kernel_rfl
  case qn80 => exact fun _ _ _ h => h
  case dn80 => rfl
  case hyn80 => (intro z hSw; (try dsimp only at hSw); go_simp; (try with_reducible rfl))
  try simp only [Act.put, List.setIfInBounds_toArray, List.set_cons_zero, List.set_cons_succ]
  refine wpAnyH_take (i := 4) (oi := ?on81) (v := ?vn81) ?hin81 ?an81 ?bn81 ?cn81 ?qn81 (Or.inl ⟨?dn81, ?hyn81⟩) hHeld ?restn81
  case hin81 => (simp only [List.getElem?_toArray, List.getElem?_cons_succ, List.getElem?_cons_zero]; exact rfl)
  case an81 => kernel_rfl
  case bn81 => kernel_rfl
  case cn81 => kernel_rfl
  case qn81 => exact fun _ _ _ h => h
  case dn81 => rfl
  case hyn81 => (intro z hSw; (try dsimp only at hSw); go_simp; (try with_reducible rfl))
  try simp only [Act.put, List.setIfInBounds_toArray, List.set_cons_zero, List.set_cons_succ]
  refine wpAnyH_take (i := 5) (oi := ?on82) (v := ?vn82) ?hin82 ?an82 ?bn82 ?cn82 ?qn82 (Or.inl ⟨?dn82, ?hyn82⟩) hHeld ?restn82
  case hin82 => (simp only [List.getElem?_toArray, List.getElem?_cons_succ, List.getElem?_cons_zero]; exact rfl)
  case an82 => kernel_rfl
  case bn82 => kernel_rfl
  case cn82 => kernel_rfl
  case qn82 => exact fun _ _ _ h => h
  case dn82 => rfl
  case hyn82 => (intro z hSw; (try dsimp only at hSw); go_simp; (try with_reducible rfl))
  try simp only [Act.put, List.setIfInBounds_toArray, List.set_cons_zero, List.set_cons_succ]
  refine wpAnyH_take (i := 6) (oi := ?on83) (v := ?vn83) ?hin83 ?an83 ?bn83 ?cn83 ?qn83 (Or.inl ⟨?dn83, ?hyn83⟩) hHeld ?restn83
  case hin83 => (simp only [List.getElem?_toArray, List.getElem?_cons_succ, List.getElem?_cons_zero]; exact rfl)
  case an83 => kernel_rfl
  case bn83 => kernel_rfl
  case cn83 => kernel_rfl
  case qn83 => exact fun _ _ _ h => h
  case dn83 => rfl
  case hyn83 => (intro z hSw; (try dsimp only at hSw); go_simp; (try with_reducible rfl))
  try simp only [Act.put, List.setIfInBounds_toArray, List.set_cons_zero, List.set_cons_succ]
  refine wpAnyH_take (i := 8) (oi := ?on84) (v := ?vn84) ?hin84 ?an84 ?bn84 ?cn84 ?qn84 (Or.inl ⟨?dn84, ?hyn84⟩) hHeld ?restn84
  case hin84 => (simp only [List.getElem?_toArray, List.getElem?_cons_succ, List.getElem?_cons_zero]; exact rfl)
  case an84 => kernel_rfl
  case bn84 => kernel_rfl
  case cn84 => kernel_rfl
  case qn84 => exact fun _ _ _ h => h
  case dn84 => rfl
  case hyn84 => (intro z hSw; (try dsimp only at hSw); go_simp; (try with_reducible rfl))
  try simp only [Act.put, List.setIfInBounds_toArray, List.set_cons_zero, List.set_cons_succ]
  refine wpAnyH_take (i := 9) (oi := ?on85) (v := ?vn85) ?hin85 ?an85 ?bn85 ?cn85 ?qn85 (Or.inl ⟨?dn85, ?hyn85⟩) hHeld ?restn85
  case hin85 => (simp only [List.getElem?_toArray, List.getElem?_cons_succ, List.getElem?_cons_zero]; exact rfl)
  case an85 => kernel_rfl
  case bn85 => kernel_rfl
  case cn85 => kernel_rfl
  case qn85 => exact fun _ _ _ h => h
  case dn85 => rfl
  case hyn85 => (intro z hSw; (try dsimp only at hSw); go_simp; (try with_reducible rfl))
  try simp only [Act.put, List.setIfInBounds_toArray, List.set_cons_zero, List.set_cons_succ]
  refine wpAnyH_take (i := 12) (oi := ?on86) (v := ?vn86) ?hin86 ?an86 ?bn86 ?cn86 ?qn86 (Or.inl ⟨?dn86, ?hyn86⟩) hHeld ?restn86
  case hin86 => (simp only [List.getElem?_toArray, List.getElem?_cons_succ, List.getElem?_cons_zero]; exact rfl)
  case an86 => kernel_rfl
  case bn86 => kernel_rfl
  case cn86 => kernel_rfl
  case qn86 => exact fun _ _ _ h => h
  case dn86 => rfl
  case hyn86 => (intro z hSw; (try dsimp only at hSw); go_simp; (try with_reducible rfl))
  try simp only [Act.put, List.setIfInBounds_toArray, List.set_cons_zero, List.set_cons_succ]
  refine wpAnyH_ready (rs := [2]) (by kernel_rfl) (by simp) ?_
  refine AllReadyH.cons (o := ?on87) ?hin87 ?restn87 AllReadyH.nil
  case hin87 => (simp only [List.getElem?_toArray, List.getElem?_cons_succ, List.getElem?_cons_zero]; exact rfl)
  intro K hK
  go_simp
  go_at_call 32
  refine (ins_sl _ _ _ (dropS L m) XA _ hsl (by have := HdL.out; omega)).mono ?_
  rintro e x4 ⟨Bs1, ms1, ds1, rfl, hs1, hgx4⟩
  have hx4 : Grew w1 x4 := hd15.trans hgx4
  replace hL := hL.grew hgx4
  replace hR := hR.grew hgx4
  replace hsl := hsl.grew hgx4
  replace hsr := hsr.grew hgx4
  refine hK.out _ _ ?_ (fun hHeld => ?_)
  · (try dsimp only); first | with_reducible assumption | exact hx4
  clear hK K
  try simp only [Act.put, List.setIfInBounds_toArray, List.set_cons_zero, List.set_cons_succ]
  refine wpAnyH_ready (rs := [7]) (by kernel_rfl) (by simp) ?_
  refine AllReadyH.cons (o := ?on88) ?hin88 ?restn88 AllReadyH.nil
  case hin88 => (simp only [List.getElem?_toArray, List.getElem?_cons_succ, List.getElem?_cons_zero]; exact rfl)
  intro K hK
  go_simp
  go_at_call 32
  refine (ins_sl _ _ _ (dropS L m) XB _ hsl (by have := HdL.out; omega)).mono ?_
  rintro e x5 ⟨Bs2, ms2, ds2, rfl, hs2, hgx5⟩
  have hx5 : Grew w1 x5 := hx4.trans hgx5
  replace hL := hL.grew hgx5
  replace hR := hR.grew hgx5
  replace hsl := hsl.grew hgx5
  replace hsr := hsr.grew hgx5
  replace hs1 := hs1.grew hgx5
  refine hK.out _ _ ?_ (fun hHeld => ?_)
  · (try dsimp only); first | with_reducible assumption | exact hx5
  clear hK K
  try simp only [Act.put, List.setIfInBounds_toArray, List.set_cons_zero, List.set_cons_succ]
  refine wpAnyH_ready (rs := [10]) (by kernel_rfl) (by simp) ?_
  refine AllReadyH.cons (o := ?on89) ?hin89 ?restn89 AllReadyH.nil
  case hin89 => (simp only [List.getElem?_toArray, List.getElem?_cons_succ, List.getElem?_cons_zero]; exact rfl)
  intro K hK
  go_simp
  obtain ⟨x6, hwx6⟩ : ∃ W, W = x5.alloc (.cells #[.slice Bs1 ms1 ds1, .slice A2 n2 c2, .slice Bs2 ms2 ds2, .slice A2 n2 c2] 22) := ⟨_, rfl⟩
  have hgx6 : Grew x5 x6 := by rw [hwx6]; exact (Grew.refl _).alloc _
  have hx6 : Grew w1 x6 := hx5.trans hgx6
  have hlit : x6.heap[x5.heap.size]? = some (.cells #[.slice Bs1 ms1 ds1, .slice A2 n2 c2, .slice Bs2 ms2 ds2, .slice A2 n2 c2] 22 (0, 0)) := by rw [hwx6]; exact blk_new _ _
  try simp only [← hwx6]
  clear hwx6
  replace hL := hL.grew hgx6
  replace hR := hR.grew hgx6
  replace hsl := hsl.grew hgx6
  replace hsr := hsr.grew hgx6
  replace hs1 := hs1.grew hgx6
  replace hs2 := hs2.grew hgx6
  refine hK.out _ _ ?_ (fun hHeld => ?_)
  · (try dsimp only); first | with_reducible assumption | exact hx6
  clear hK K
  try simp only [Act.put, List.setIfInBounds_toArray, List.set_cons_zero, List.set_cons_succ]
  refine wpAnyH_ready (rs := [11]) (by kernel_rfl) (by simp) ?_
  refine AllReadyH.cons (o := ?on90) ?hin90 ?restn90 AllReadyH.nil
  case hin90 => (simp only [List.getElem?_toArray, List.getElem?_cons_succ, List.getElem?_cons_zero]; exact rfl)
  intro K hK
  go_simp
  have hsd := sdR_two hlit hs1 hR hs2 hR
  have hll : ∀ x ∈ ([((insA (dropS L m) XA), R), ((insA (dropS L m) XB), R)] : List Ms), x.1.length ≤ 1048576 ∧ x.2.length ≤ 1048576 := by
    intro x hx; simp only [List.mem_cons, List.not_mem_nil, or_false] at hx; rcases hx with rfl | rfl <;> refine ⟨?_, ?_⟩ <;> dsimp only
    · exact (by have := insA_len (dropS L m) XA; have : ((dropS L m)).length ≤ 1048575 := (by have := HdL.out; omega); omega)
    · exact (by have := HnR.out; omega)
    · exact (by have := insA_len (dropS L m) XB; have : ((dropS L m)).length ≤ 1048575 := (by have := HdL.out; omega); omega)
    · exact (by have := HnR.out; omega)
  go_at_call 31
  refine (sq_sl _ 4 [((insA (dropS L m) XA), R), ((insA (dropS L m) XB), R)] _ rfl hsd (by simp) hll).mono ?_
  rintro e x7 ⟨Bq, mq, dq, rfl, hq, hgx7⟩
  have hx7 : Grew w1 x7 := hx6.trans hgx7
  replace hL := hL.grew hgx7
  replace hR := hR.grew hgx7
  replace hsl := hsl.grew hgx7
  replace hsr := hsr.grew hgx7
  replace hs1 := hs1.grew hgx7
  replace hs2 := hs2.grew hgx7
  refine hK.out _ _ ?_ (fun hHeld => ?_)
  · (try dsimp only); first | with_reducible assumption | exact hx7
  clear hK K
  try simp only [Act.put, List.setIfInBounds_toArray, List.set_cons_zero, List.set_cons_succ]
  refine wpAnyH_take (i := 13) (oi := ?on91) (v := ?vn91) ?hin91 ?an91 ?bn91 ?cn91 ?qn91 (Or.inl ⟨?dn91, ?hyn91⟩) hHeld ?restn91
  case hin91 => (simp only [List.getElem?_toArray, List.getElem?_cons_succ, List.getElem?_cons_zero]; exact rfl)
  case an91 => kernel_rfl
  case bn91 => kernel_rfl
  case cn91 => kernel_rfl
  case qn91 => exact fun _ _ _ h => h
  case dn91 => rfl
  case hyn91 => (intro z hSw; (try dsimp only at hSw); go_simp; (try with_reducible rfl))
  try simp only [Act.put, List.setIfInBounds_toArray, List.set_cons_zero, List.set_cons_succ]
  refine wpAnyH_take (i := 14) (oi := ?on92) (v := ?vn92) ?hin92 ?an92 ?bn92 ?cn92 ?qn92 (Or.inl ⟨?dn92, ?hyn92⟩) hHeld ?restn92
  case hin92 => (simp only [List.getElem?_toArray, List.getElem?_cons_succ, List.getElem?_cons_zero]; exact rfl)
  case an92 => kernel_rfl
  case bn92 => kernel_rfl
  case cn92 => kernel_rfl
  case qn92 => exact fun _ _ _ h => h
  case dn92 => rfl
  case hyn92 => (intro z hSw; (try dsimp only at hSw); go_simp; (try with_reducible rfl))
  try simp only [Act.put, List.setIfInBounds_toArray, List.set_cons_zero, List.set_cons_succ]
  refine wpAnyH_done (by kernel_rfl) ?_ _
  go_wp2_with fail
  go_ret2
  exact ⟨_, _, _, rfl, fun _ => hq, HG1.out.trans hx7⟩
end Go.Proofs.YtjcehejnolbkgaaGreat

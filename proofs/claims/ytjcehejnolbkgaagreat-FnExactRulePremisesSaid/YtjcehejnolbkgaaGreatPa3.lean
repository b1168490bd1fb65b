/- Texts in one file: RpL RpR. -/
import Derived.Test.YtjcehejnolbkgaaGreatPa1
import Derived.Test.YtjcehejnolbkgaaGreatPa2
set_option linter.all false

/- leftPremises of the program. -/
namespace Go.Proofs.YtjcehejnolbkgaaGreat
open Go.RowKit
open Fm (Nd Tree)

theorem lfF_3 {lg m : ByteArray} {L R : List ByteArray} (hk : kS m = 2) : lfF lg 3 L R m = ([(putS (dropS L m ++ [p1S m, p2S m]), R)], true) := by
  unfold lfF
  rw [if_pos ⟨rfl, hk⟩]
theorem lfF_3n {lg m : ByteArray} {L R : List ByteArray} (hk : ¬ kS m = 2) : lfF lg 3 L R m = ([], false) := by
  unfold lfF
  rw [if_neg (by rintro ⟨h, h2⟩; exact hk h2)]
  rw [if_neg (by rintro ⟨h, h2⟩; exact absurd h (by decide))]
  rw [if_neg (by rintro ⟨h, h2⟩; exact absurd h (by decide))]
  rw [if_neg (by rintro ⟨h, h2, _⟩; exact absurd h (by decide))]
  rw [if_neg (by rintro ⟨h, h2⟩; exact absurd h (by decide))]
theorem lfF_5 {lg m : ByteArray} {L R : List ByteArray} (hk : kS m = 3) : lfF lg 5 L R m = ([(putS (dropS L m ++ [p1S m]), R), (putS (dropS L m ++ [p2S m]), R)], true) := by
  unfold lfF
  rw [if_neg (by rintro ⟨h, _⟩; exact absurd h (by decide))]
  rw [if_pos ⟨rfl, hk⟩]
theorem lfF_5n {lg m : ByteArray} {L R : List ByteArray} (hk : ¬ kS m = 3) : lfF lg 5 L R m = ([], false) := by
  unfold lfF
  rw [if_neg (by rintro ⟨h, h2⟩; exact absurd h (by decide))]
  rw [if_neg (by rintro ⟨h, h2⟩; exact hk h2)]
  rw [if_neg (by rintro ⟨h, h2⟩; exact absurd h (by decide))]
  rw [if_neg (by rintro ⟨h, h2, _⟩; exact absurd h (by decide))]
  rw [if_neg (by rintro ⟨h, h2⟩; exact absurd h (by decide))]
theorem lfF_7 {lg m : ByteArray} {L R : List ByteArray} (hk : kS m = 4) : lfF lg 7 L R m = ([(dropS L m, putS (R ++ [p1S m])), (putS (dropS L m ++ [p2S m]), R)], true) := by
  unfold lfF
  rw [if_neg (by rintro ⟨h, _⟩; exact absurd h (by decide))]
  rw [if_neg (by rintro ⟨h, _⟩; exact absurd h (by decide))]
  rw [if_pos ⟨rfl, hk⟩]
theorem lfF_7n {lg m : ByteArray} {L R : List ByteArray} (hk : ¬ kS m = 4) : lfF lg 7 L R m = ([], false) := by
  unfold lfF
  rw [if_neg (by rintro ⟨h, h2⟩; exact absurd h (by decide))]
  rw [if_neg (by rintro ⟨h, h2⟩; exact absurd h (by decide))]
  rw [if_neg (by rintro ⟨h, h2⟩; exact hk h2)]
  rw [if_neg (by rintro ⟨h, h2, _⟩; exact absurd h (by decide))]
  rw [if_neg (by rintro ⟨h, h2⟩; exact absurd h (by decide))]
theorem lfF_9 {lg m : ByteArray} {L R : List ByteArray} (hk : kS m = 5) (hr : rfx lg = true) : lfF lg 9 L R m = ([(putS (L ++ [p1S m]), R)], true) := by
  unfold lfF
  rw [if_neg (by rintro ⟨h, _⟩; exact absurd h (by decide))]
  rw [if_neg (by rintro ⟨h, _⟩; exact absurd h (by decide))]
  rw [if_neg (by rintro ⟨h, _⟩; exact absurd h (by decide))]
  rw [if_pos ⟨rfl, hk, hr⟩]
theorem lfF_9n {lg m : ByteArray} {L R : List ByteArray} (hk : ¬ kS m = 5) : lfF lg 9 L R m = ([], false) := by
  unfold lfF
  rw [if_neg (by rintro ⟨h, h2⟩; exact absurd h (by decide))]
  rw [if_neg (by rintro ⟨h, h2⟩; exact absurd h (by decide))]
  rw [if_neg (by rintro ⟨h, h2⟩; exact absurd h (by decide))]
  rw [if_neg (by rintro ⟨h, h2, _⟩; exact hk h2)]
  rw [if_neg (by rintro ⟨h, h2⟩; exact absurd h (by decide))]
theorem lfF_9r {lg m : ByteArray} {L R : List ByteArray} (hr : rfx lg = false) : lfF lg 9 L R m = ([], false) := by
  unfold lfF
  rw [if_neg (by rintro ⟨h, _⟩; exact absurd h (by decide))]
  rw [if_neg (by rintro ⟨h, _⟩; exact absurd h (by decide))]
  rw [if_neg (by rintro ⟨h, _⟩; exact absurd h (by decide))]
  rw [if_neg (by rintro ⟨_, _, h⟩; rw [hr] at h; cases h)]
  rw [if_neg (by rintro ⟨h, _⟩; exact absurd h (by decide))]
theorem lfF_11 {lg m : ByteArray} {L R : List ByteArray} (hk : kS m = 6) : lfF lg 11 L R m = ([mpF lg L R m], true) := by
  unfold lfF
  rw [if_neg (by rintro ⟨h, _⟩; exact absurd h (by decide))]
  rw [if_neg (by rintro ⟨h, _⟩; exact absurd h (by decide))]
  rw [if_neg (by rintro ⟨h, _⟩; exact absurd h (by decide))]
  rw [if_neg (by rintro ⟨h, _⟩; exact absurd h (by decide))]
  rw [if_pos ⟨rfl, hk⟩]
theorem lfF_11n {lg m : ByteArray} {L R : List ByteArray} (hk : ¬ kS m = 6) : lfF lg 11 L R m = ([], false) := by
  unfold lfF
  rw [if_neg (by rintro ⟨h, h2⟩; exact absurd h (by decide))]
  rw [if_neg (by rintro ⟨h, h2⟩; exact absurd h (by decide))]
  rw [if_neg (by rintro ⟨h, h2⟩; exact absurd h (by decide))]
  rw [if_neg (by rintro ⟨h, h2, _⟩; exact absurd h (by decide))]
  rw [if_neg (by rintro ⟨h, h2⟩; exact hk h2)]
theorem lfF_o {lg m : ByteArray} {L R : List ByteArray} {r : Int} (h3 : ¬ r = 3) (h5 : ¬ r = 5) (h7 : ¬ r = 7) (h9 : ¬ r = 9) (h11 : ¬ r = 11) : lfF lg r L R m = ([], false) := by
  unfold lfF
  rw [if_neg (fun h => h3 h.1)]
  rw [if_neg (fun h => h5 h.1)]
  rw [if_neg (fun h => h7 h.1)]
  rw [if_neg (fun h => h9 h.1)]
  rw [if_neg (fun h => h11 h.1)]

set_option maxHeartbeats 8000000 in
set_option maxRecDepth 8192 in
theorem leftPremises_c (lg m : ByteArray) (r : Int) (va vb vn : Value) (L R : List ByteArray) (w : World) (ha : Strs w va L) (hb : Strs w vb R) (hn : Nodes w vn (Fm.enc (fg m))) (hgL : ∀ i, i < L.length → gd (st L i) = true) (hgR : ∀ i, i < R.length → gd (st R i) = true) (hFL : Fits L) (hFR : Fits R) (hnL : L.length ≤ 16) (hnR : R.length ≤ 16)
    (hm : gd m = true) (hmz : m.size ≤ 1048576) :
    Calls Tryz.prog 40 #[.string lg, .int .i64 r, .agg #[va, vb], vn] w (GivesPm w (lfF lg r L R m)) := by
  obtain ⟨e1, e2, e3⟩ := fg_ok hm
  have KT := Lib.hid (fun W (hW : Grew w W) => show Calls Tryz.prog 56 #[vn] W (fun e w' => e = .returned (.string m) ∧ Grew W w') from (text0_c (fg m) vn W (hn.grew hW) (by omega)).mono fun e w' (h : _ ∧ _) => ⟨h.1.trans (by rw [show bs (Fm.txt (fg m) 0) = m from e2]), h.2⟩)
  have KP := Lib.hid (fun W (hW : Grew w W) => partTexts_g vn (fg m) W (hn.grew hW) e3)
  have KD := Lib.hid (fun W (hW : Grew w W) => drop_c va L m W (ha.grew hW) (by omega))
  have KM := Lib.hid (fun W (hW : Grew w W) hk => modalPremise_c lg m va vb L R W (ha.grew hW) (hb.grew hW) hgL hgR hFL hFR (by omega) (by omega) (.inr ⟨hm, hk, hmz⟩))
  have HA := Lib.hid ha
  have HB := Lib.hid hb
  have hdl : (dropS L m).length ≤ 16 := Nat.le_trans (List.length_filter_le _ _) hnL
  have HK : Hid (kS m = kindOf (fg m)) := Lib.hid rfl
  have HP : Hid (ptL (fg m) = if kS m = 2 ∨ kS m = 3 ∨ kS m = 4 then [p1S m, p2S m] else if kS m = 5 ∨ kS m = 6 then [p1S m] else []) := Lib.hid rfl
  obtain ⟨ba, oa, ca, rfl, hca, hcm, hk0⟩ := nodes_head hn
  obtain ⟨A1, c1, rfl⟩ := strs_slice ha
  obtain ⟨A2, c2, rfl⟩ := strs_slice hb
  have hpos := Fm.enc_pos (fg m)
  have hpi : (0 : Int) < ((Fm.enc (fg m)).length : Int) := by omega
  clear ha hb hn hgL hgR hFL hFR e1 e2 hm hmz
  rw [← HK.out] at hk0
  obtain ⟨w1, hw1⟩ : ∃ w1, w1 = w.alloc (.cells #[.slice A1 L.length c1, .slice A2 R.length c2] 29) := ⟨_, rfl⟩
  have hg1 : Grew w w1 := by rw [hw1]; exact (Grew.refl w).alloc _
  have hb0 : w1.heap[w.heap.size]? = some (.cells #[.slice A1 L.length c1, .slice A2 R.length c2] 29 (0, 0)) := by rw [hw1]; exact blk_new w _
  have p0 : ∀ W, Grew w1 W → W.cell? ⟨w.heap.size, 0, none⟩ = some (.slice A1 L.length c1) := fun W hW => by rw [blk_cell ((hW.block (blk_lt hb0)).trans hb0)]; rfl
  have p1 : ∀ W, Grew w1 W → W.cell? ⟨w.heap.size, 1, none⟩ = some (.slice A2 R.length c2) := fun W hW => by rw [blk_cell ((hW.block (blk_lt hb0)).trans hb0)]; rfl
  have HG1 := Lib.hid hg1
  have hk1 := fun W (hW : Grew w1 W) => hk0 W (hg1.trans hW)
  have hr1 := Grew.refl w1
  have hd1 := hr1.drew
  clear hg1 hb0 hk0
  generalize hkk : kS m = kk at *
  have HKS := Lib.hid hkk
  clear hkk
  generalize hG : lfF lg r L R m = X at *
  have HX := Lib.hid hG
  clear hG
  generalize ptL (fg m) = pt at *
  go_enter Tryz.func40, Tryz.ntmps40
  go_wp2_with fail
  simp only [← hw1]
  clear hw1
  refine wp_region_held_drew (S := fun w' => Grew w1 w') (by kernel_rfl) hd1 (fun hHeld => ?_)
  refine wpAnyH_take (i := 0) (oi := ?on1) (v := ?vn1) ?hin1 ?an1 ?bn1 ?cn1 ?qn1 (Or.inl ⟨?dn1, ?hyn1⟩) hHeld ?restn1
  case hin1 => (simp only [List.getElem?_toArray, List.getElem?_cons_zero]; exact rfl)
  case an1 => kernel_rfl
  case bn1 => kernel_rfl
  case cn1 => kernel_rfl
  case qn1 => exact fun _ _ _ h => h
  case dn1 => rfl
  case hyn1 => (intro z hSw; (try dsimp only at hSw); go_simp; (try with_reducible rfl))
  try simp only [Act.put, List.setIfInBounds_toArray, List.set_cons_zero, List.set_cons_succ]
  refine wpAnyH_take (i := 1) (oi := ?on2) (v := ?vn2) ?hin2 ?an2 ?bn2 ?cn2 ?qn2 (Or.inl ⟨?dn2, ?hyn2⟩) hHeld ?restn2
  case hin2 => (simp only [List.getElem?_toArray, List.getElem?_cons_succ, List.getElem?_cons_zero]; exact rfl)
  case an2 => kernel_rfl
  case bn2 => kernel_rfl
  case cn2 => kernel_rfl
  case qn2 => exact fun _ _ _ h => h
  case dn2 => rfl
  case hyn2 => (intro z hSw; (try dsimp only at hSw); go_simp; (try with_reducible rfl))
  try simp only [Act.put, List.setIfInBounds_toArray, List.set_cons_zero, List.set_cons_succ]
  refine wpAnyH_take (i := 2) (oi := ?on3) (v := ?vn3) ?hin3 ?an3 ?bn3 ?cn3 ?qn3 (Or.inl ⟨?dn3, ?hyn3⟩) hHeld ?restn3
  case hin3 => (simp only [List.getElem?_toArray, List.getElem?_cons_succ, List.getElem?_cons_zero]; exact rfl)
  case an3 => kernel_rfl
  case bn3 => kernel_rfl
  case cn3 => kernel_rfl
  case qn3 => exact fun _ _ _ h => h
  case dn3 => rfl
  case hyn3 => (intro z hSw; (try dsimp only at hSw); go_simp; (try with_reducible rfl))
  try simp only [Act.put, List.setIfInBounds_toArray, List.set_cons_zero, List.set_cons_succ]
  refine wpAnyH_take (i := 5) (oi := ?on4) (v := ?vn4) ?hin4 ?an4 ?bn4 ?cn4 ?qn4 (Or.inl ⟨?dn4, ?hyn4⟩) hHeld ?restn4
  case hin4 => (simp only [List.getElem?_toArray, List.getElem?_cons_succ, List.getElem?_cons_zero]; exact rfl)
  case an4 => kernel_rfl
  case bn4 => kernel_rfl
  case cn4 => kernel_rfl
  case qn4 => exact fun _ _ _ h => h
  case dn4 => rfl
  case hyn4 => (intro z hSw; (try dsimp only at hSw); go_simp; (try with_reducible rfl))
  try simp only [Act.put, List.setIfInBounds_toArray, List.set_cons_zero, List.set_cons_succ]
  refine wpAnyH_ready (rs := [3]) (by kernel_rfl) (by simp) ?_
  refine AllReadyH.cons (o := ?on5) ?hin5 ?restn5 AllReadyH.nil
  case hin5 => (simp only [List.getElem?_toArray, List.getElem?_cons_succ, List.getElem?_cons_zero]; exact rfl)
  intro K hK
  go_simp
  go_at_call 56
  refine (KT.out _ (HG1.out.trans hd1)).mono ?_
  rintro e w2 ⟨rfl, hgw2⟩
  have h2 : Grew w1 w2 := hd1.trans hgw2
  refine hK.out _ _ ?_ (fun hHeld => ?_)
  · (try dsimp only); first | with_reducible assumption | exact Grew.alloc ‹_› _
  clear hK K
  try simp only [Act.put, List.setIfInBounds_toArray, List.set_cons_zero, List.set_cons_succ]
  refine wpAnyH_ready (rs := [4]) (by kernel_rfl) (by simp) ?_
  refine AllReadyH.cons (o := ?on6) ?hin6 ?restn6 AllReadyH.nil
  case hin6 => (simp only [List.getElem?_toArray, List.getElem?_cons_succ, List.getElem?_cons_zero]; exact rfl)
  intro K hK
  go_simp
  go_at_call 61
  refine (KD.out _ (HG1.out.trans h2)).mono ?_
  rintro e w3 ⟨ud, rfl, hud, hgw3⟩
  have h3 : Grew w1 w3 := h2.trans hgw3
  obtain ⟨A3, c3, rfl⟩ := strs_slice hud
  refine hK.out _ _ ?_ (fun hHeld => ?_)
  · (try dsimp only); first | with_reducible assumption | exact Grew.alloc ‹_› _
  clear hK K
  try simp only [Act.put, List.setIfInBounds_toArray, List.set_cons_zero, List.set_cons_succ]
  refine wpAnyH_ready (rs := [6]) (by kernel_rfl) (by simp) ?_
  refine AllReadyH.cons (o := ?on7) ?hin7 ?restn7 AllReadyH.nil
  case hin7 => (simp only [List.getElem?_toArray, List.getElem?_cons_succ, List.getElem?_cons_zero]; exact rfl)
  intro K hK
  go_simp
  go_at_call 62
  refine (KP.out _ (HG1.out.trans h3)).mono ?_
  rintro e w4 ⟨up, rfl, hup, hgw4⟩
  have h4 : Grew w1 w4 := h3.trans hgw4
  obtain ⟨A4, c4, rfl⟩ := strs_slice hup
  refine hK.out _ _ ?_ (fun hHeld => ?_)
  · (try dsimp only); first | with_reducible assumption | exact Grew.alloc ‹_› _
  clear hK K
  try simp only [Act.put, List.setIfInBounds_toArray, List.set_cons_zero, List.set_cons_succ]
  refine wpAnyH_take (i := 7) (oi := ?on8) (v := ?vn8) ?hin8 ?an8 ?bn8 ?cn8 ?qn8 (Or.inl ⟨?dn8, ?hyn8⟩) hHeld ?restn8
  case hin8 => (simp only [List.getElem?_toArray, List.getElem?_cons_succ, List.getElem?_cons_zero]; exact rfl)
  case an8 => kernel_rfl
  case bn8 => kernel_rfl
  case cn8 => kernel_rfl
  case qn8 => exact fun _ _ _ h => h
  case dn8 => rfl
  case hyn8 => (intro z hSw; (try dsimp only at hSw); go_simp; (try with_reducible rfl))
  try simp only [Act.put, List.setIfInBounds_toArray, List.set_cons_zero, List.set_cons_succ]
  refine wpAnyH_take (i := 8) (oi := ?on9) (v := ?vn9) ?hin9 ?an9 ?bn9 ?cn9 ?qn9 (Or.inl ⟨?dn9, ?hyn9⟩) hHeld ?restn9
  case hin9 => (simp only [List.getElem?_toArray, List.getElem?_cons_succ, List.getElem?_cons_zero]; exact rfl)
  case an9 => kernel_rfl
  case bn9 => kernel_rfl
  case cn9 => kernel_rfl
  case qn9 => exact fun _ _ _ h => h
  case dn9 => rfl
  case hyn9 => (intro z hSw; (try dsimp only at hSw); go_simp; (try with_reducible rfl))
  try simp only [Act.put, List.setIfInBounds_toArray, List.set_cons_zero, List.set_cons_succ]
  refine wpAnyH_done (by kernel_rfl) ?_ _
  have HD := Lib.hid (hud.grew hgw4)
  have HPr := Lib.hid hup
  have q0 := fun W (hW : Grew w4 W) => p0 W (h4.trans hW)
  have q1 := fun W (hW : Grew w4 W) => p1 W (h4.trans hW)
  have HG4 := Lib.hid (HG1.out.trans h4)
  have hk4 := fun W (hW : Grew w4 W) => hk1 W (h4.trans hW)
  have hr4 := Grew.refl w4
  have hd4 := hr4.drew
  have kk0 := hk4 _ hr4
  clear hud hup hgw2 hgw3 hgw4 h2 h3 p0 p1 hk1 hr1 hd1 KP KD
  by_cases h3 : r = 3
  · subst h3
    by_cases hk : kk = 2
    · subst hk
      obtain rfl : pt = [p1S m, p2S m] := by have := HP.out; simpa using this
      obtain ⟨bp, op, cp, hpv, hcp, hcp2, hbp, hpc⟩ := strs_two HPr.out
      obtain ⟨rfl, rfl⟩ : A4 = some ⟨bp, op, none⟩ ∧ c4 = cp := by simpa using hpv
      have hp1c := fun W (hW : Grew w4 W) => (hpc W hW).1
      have hp2c := fun W (hW : Grew w4 W) => (hpc W hW).2
      clear hpv hpc
      go_wp2_with fail
      refine wp_region_held_drew (S := fun w' => Grew w4 w') (by kernel_rfl) hd4 (fun hHeld => ?_)
      refine wpAnyH_take (i := 0) (oi := ?on10) (v := ?vn10) ?hin10 ?an10 ?bn10 ?cn10 ?qn10 (Or.inl ⟨?dn10, ?hyn10⟩) hHeld ?restn10
      case hin10 => (simp only [List.getElem?_toArray, List.getElem?_cons_zero]; exact rfl)
      case an10 => kernel_rfl
      case bn10 => kernel_rfl
      case cn10 => kernel_rfl
      case qn10 => exact fun _ _ _ h => h
      case dn10 => rfl
      case hyn10 => (intro z hSw; (try dsimp only at hSw); go_simp; (try with_reducible rfl))
      try simp only [Act.put, List.setIfInBounds_toArray, List.set_cons_zero, List.set_cons_succ]
      refine wpAnyH_take (i := 1) (oi := ?on11) (v := ?vn11) ?hin11 ?an11 ?bn11 ?cn11 ?qn11 (Or.inl ⟨?dn11, ?hyn11⟩) hHeld ?restn11
      case hin11 => (simp only [List.getElem?_toArray, List.getElem?_cons_succ, List.getElem?_cons_zero]; exact rfl)
      case an11 => kernel_rfl
      case bn11 => kernel_rfl
      case cn11 => kernel_rfl
      case qn11 => exact fun _ _ _ h => h
      case dn11 => rfl
      case hyn11 => (intro z hSw; (try dsimp only at hSw); go_simp; (try with_reducible rfl))
      try simp only [Act.put, List.setIfInBounds_toArray, List.set_cons_zero, List.set_cons_succ]
      refine wpAnyH_take (i := 3) (oi := ?on12) (v := ?vn12) ?hin12 ?an12 ?bn12 ?cn12 ?qn12 (Or.inl ⟨?dn12, ?hyn12⟩) hHeld ?restn12
      case hin12 => (simp only [List.getElem?_toArray, List.getElem?_cons_succ, List.getElem?_cons_zero]; exact rfl)
      case an12 => kernel_rfl
      case bn12 => kernel_rfl
      case cn12 => kernel_rfl
      case qn12 => exact fun _ _ _ h => h
      case dn12 => rfl
      case hyn12 => (intro z hSw; (try dsimp only at hSw); go_simp; (try with_reducible rfl))
      try simp only [Act.put, List.setIfInBounds_toArray, List.set_cons_zero, List.set_cons_succ]
      refine wpAnyH_take (i := 4) (oi := ?on13) (v := ?vn13) ?hin13 ?an13 ?bn13 ?cn13 ?qn13 (Or.inl ⟨?dn13, ?hyn13⟩) hHeld ?restn13
      case hin13 => (simp only [List.getElem?_toArray, List.getElem?_cons_succ, List.getElem?_cons_zero]; exact rfl)
      case an13 => kernel_rfl
      case bn13 => kernel_rfl
      case cn13 => kernel_rfl
      case qn13 => exact fun _ _ _ h => h
      case dn13 => rfl
      case hyn13 => (intro z hSw; (try dsimp only at hSw); go_simp; (try with_reducible rfl))
      try simp only [Act.put, List.setIfInBounds_toArray, List.set_cons_zero, List.set_cons_succ]
      refine wpAnyH_ready (rs := [2]) (by kernel_rfl) (by simp) ?_
      refine AllReadyH.cons (o := ?on14) ?hin14 ?restn14 AllReadyH.nil
      case hin14 => (simp only [List.getElem?_toArray, List.getElem?_cons_succ, List.getElem?_cons_zero]; exact rfl)
      intro K hK
      go_simp
      go_at_call 38
      refine (put_c _ _ (dropS L m) [p1S m, p2S m] _ (HD.out.grew hd4) (HPr.out.grew hd4) (by simp; omega)).mono ?_
      rintro e x1 ⟨u0, rfl, hu0, hgx1⟩
      have hx1 : Grew w4 x1 := hd4.trans hgx1
      obtain ⟨AU0, cU0, rfl⟩ := strs_slice hu0.strs
      have hs0 := hu0.strs
      clear hu0
      refine hK.out _ _ ?_ (fun hHeld => ?_)
      · (try dsimp only); first | with_reducible assumption | exact hx1
      clear hK K
      try simp only [Act.put, List.setIfInBounds_toArray, List.set_cons_zero, List.set_cons_succ]
      refine wpAnyH_take (i := 5) (oi := ?on15) (v := ?vn15) ?hin15 ?an15 ?bn15 ?cn15 ?qn15 (Or.inl ⟨?dn15, ?hyn15⟩) hHeld ?restn15
      case hin15 => (simp only [List.getElem?_toArray, List.getElem?_cons_succ, List.getElem?_cons_zero]; exact rfl)
      case an15 => kernel_rfl
      case bn15 => kernel_rfl
      case cn15 => kernel_rfl
      case qn15 => exact fun _ _ _ h => h
      case dn15 => rfl
      case hyn15 => (intro z hSw; (try dsimp only at hSw); go_simp; (try with_reducible rfl))
      try simp only [Act.put, List.setIfInBounds_toArray, List.set_cons_zero, List.set_cons_succ]
      refine wpAnyH_ready (rs := [6]) (by kernel_rfl) (by simp) ?_
      refine AllReadyH.cons (o := ?on16) ?hin16 ?restn16 AllReadyH.nil
      case hin16 => (simp only [List.getElem?_toArray, List.getElem?_cons_succ, List.getElem?_cons_zero]; exact rfl)
      intro K hK
      go_simp
      refine hK.out _ _ ?_ (fun hHeld => ?_)
      · (try dsimp only); first | with_reducible assumption | exact (hx1.alloc _)
      clear hK K
      try simp only [Act.put, List.setIfInBounds_toArray, List.set_cons_zero, List.set_cons_succ]
      refine wpAnyH_take (i := 7) (oi := ?on17) (v := ?vn17) ?hin17 ?an17 ?bn17 ?cn17 ?qn17 (Or.inl ⟨?dn17, ?hyn17⟩) hHeld ?restn17
      case hin17 => (simp only [List.getElem?_toArray, List.getElem?_cons_succ, List.getElem?_cons_zero]; exact rfl)
      case an17 => kernel_rfl
      case bn17 => kernel_rfl
      case cn17 => kernel_rfl
      case qn17 => exact fun _ _ _ h => h
      case dn17 => rfl
      case hyn17 => (intro z hSw; (try dsimp only at hSw); go_simp; (try with_reducible rfl))
      try simp only [Act.put, List.setIfInBounds_toArray, List.set_cons_zero, List.set_cons_succ]
      refine wpAnyH_take (i := 8) (oi := ?on18) (v := ?vn18) ?hin18 ?an18 ?bn18 ?cn18 ?qn18 (Or.inl ⟨?dn18, ?hyn18⟩) hHeld ?restn18
      case hin18 => (simp only [List.getElem?_toArray, List.getElem?_cons_succ, List.getElem?_cons_zero]; exact rfl)
      case an18 => kernel_rfl
      case bn18 => kernel_rfl
      case cn18 => kernel_rfl
      case qn18 => exact fun _ _ _ h => h
      case dn18 => rfl
      case hyn18 => (intro z hSw; (try dsimp only at hSw); go_simp; (try with_reducible rfl))
      try simp only [Act.put, List.setIfInBounds_toArray, List.set_cons_zero, List.set_cons_succ]
      refine wpAnyH_done (by kernel_rfl) ?_ _
      go_wp2_with fail
      go_ret2
      have hX := HX.out
      rw [lfF_3 HKS.out] at hX
      rw [← hX]
      exact ⟨_, _, _, rfl, fun _ => rdM_one (blk_new x1 _) (Strs.grew hs0 ((Grew.refl _).alloc _)) (Strs.grew (HB.out.grew (HG4.out.trans hx1)) ((Grew.refl _).alloc _)), HG4.out.trans (hx1.alloc _)⟩
    · have hkb : (kk == 2) = false := by simpa using hk
      go_wp2_with fail
      go_ret2
      have hX := HX.out
      rw [lfF_3n (by rw [HKS.out]; exact hk)] at hX
      rw [← hX]
      exact ⟨_, _, _, rfl, (fun h => by cases h), HG4.out⟩
  by_cases h5 : r = 5
  · subst h5
    by_cases hk : kk = 3
    · subst hk
      obtain rfl : pt = [p1S m, p2S m] := by have := HP.out; simpa using this
      obtain ⟨bp, op, cp, hpv, hcp, hcp2, hbp, hpc⟩ := strs_two HPr.out
      obtain ⟨rfl, rfl⟩ : A4 = some ⟨bp, op, none⟩ ∧ c4 = cp := by simpa using hpv
      have hp1c := fun W (hW : Grew w4 W) => (hpc W hW).1
      have hp2c := fun W (hW : Grew w4 W) => (hpc W hW).2
      clear hpv hpc
      go_wp2_with fail
      refine wp_region_held_drew (S := fun w' => Grew w4 w') (by kernel_rfl) hd4 (fun hHeld => ?_)
      refine wpAnyH_take (i := 0) (oi := ?on19) (v := ?vn19) ?hin19 ?an19 ?bn19 ?cn19 ?qn19 (Or.inl ⟨?dn19, ?hyn19⟩) hHeld ?restn19
      case hin19 => (simp only [List.getElem?_toArray, List.getElem?_cons_zero]; exact rfl)
      case an19 => kernel_rfl
      case bn19 => kernel_rfl
      case cn19 => kernel_rfl
      case qn19 => exact fun _ _ _ h => h
      case dn19 => rfl
      case hyn19 => (intro z hSw; (try dsimp only at hSw); go_simp; (try with_reducible rfl))
      try simp only [Act.put, List.setIfInBounds_toArray, List.set_cons_zero, List.set_cons_succ]
      refine wpAnyH_take (i := 1) (oi := ?on20) (v := ?vn20) ?hin20 ?an20 ?bn20 ?cn20 ?qn20 (Or.inl ⟨?dn20, ?hyn20⟩) hHeld ?restn20
      case hin20 => (simp only [List.getElem?_toArray, List.getElem?_cons_succ, List.getElem?_cons_zero]; exact rfl)
      case an20 => kernel_rfl
      case bn20 => kernel_rfl
      case cn20 => kernel_rfl
      case qn20 => exact fun _ _ _ h => h
      case dn20 => rfl
      case hyn20 => (intro z hSw; (try dsimp only at hSw); go_simp; (try with_reducible rfl))
      try simp only [Act.put, List.setIfInBounds_toArray, List.set_cons_zero, List.set_cons_succ]
      refine wpAnyH_take (i := 2) (oi := ?on21) (v := ?vn21) ?hin21 ?an21 ?bn21 ?cn21 ?qn21 (Or.inl ⟨?dn21, ?hyn21⟩) hHeld ?restn21
      case hin21 => (simp only [List.getElem?_toArray, List.getElem?_cons_succ, List.getElem?_cons_zero]; exact rfl)
      case an21 => kernel_rfl
      case bn21 => kernel_rfl
      case cn21 => kernel_rfl
      case qn21 => exact fun _ _ _ h => h
      case dn21 => rfl
      case hyn21 => (intro z hSw; (try dsimp only at hSw); go_simp; (try with_reducible rfl))
      try simp only [Act.put, List.setIfInBounds_toArray, List.set_cons_zero, List.set_cons_succ]
      refine wpAnyH_take (i := 3) (oi := ?on22) (v := ?vn22) ?hin22 ?an22 ?bn22 ?cn22 ?qn22 (Or.inl ⟨?dn22, ?hyn22⟩) hHeld ?restn22
      case hin22 => (simp only [List.getElem?_toArray, List.getElem?_cons_succ, List.getElem?_cons_zero]; exact rfl)
      case an22 => kernel_rfl
      case bn22 => kernel_rfl
      case cn22 => kernel_rfl
      case qn22 => exact fun _ _ _ h => h
      case dn22 => rfl
      case hyn22 => (intro z hSw; (try dsimp only at hSw); go_simp; (try with_reducible rfl))
      try simp only [Act.put, List.setIfInBounds_toArray, List.set_cons_zero, List.set_cons_succ]
      refine wpAnyH_take (i := 6) (oi := ?on23) (v := ?vn23) ?hin23 ?an23 ?bn23 ?cn23 ?qn23 (Or.inl ⟨?dn23, ?hyn23⟩) hHeld ?restn23
      case hin23 => (simp only [List.getElem?_toArray, List.getElem?_cons_succ, List.getElem?_cons_zero]; exact rfl)
      case an23 => kernel_rfl
      case bn23 => kernel_rfl
      case cn23 => kernel_rfl
      case qn23 => exact fun _ _ _ h => h
      case dn23 => rfl
      case hyn23 => (intro z hSw; (try dsimp only at hSw); go_simp; (try with_reducible rfl))
      try simp only [Act.put, List.setIfInBounds_toArray, List.set_cons_zero, List.set_cons_succ]
      refine wpAnyH_take (i := 7) (oi := ?on24) (v := ?vn24) ?hin24 ?an24 ?bn24 ?cn24 ?qn24 (Or.inl ⟨?dn24, ?hyn24⟩) hHeld ?restn24
      case hin24 => (simp only [List.getElem?_toArray, List.getElem?_cons_succ, List.getElem?_cons_zero]; exact rfl)
      case an24 => kernel_rfl
      case bn24 => kernel_rfl
      case cn24 => kernel_rfl
      case qn24 => exact fun _ _ _ h => h
      case dn24 => rfl
      case hyn24 => (intro z hSw; (try dsimp only at hSw); go_simp; (try with_reducible rfl))
      try simp only [Act.put, List.setIfInBounds_toArray, List.set_cons_zero, List.set_cons_succ]
      refine wpAnyH_take (i := 9) (oi := ?on25) (v := ?vn25) ?hin25 ?an25 ?bn25 ?cn25 ?qn25 (Or.inl ⟨?dn25, ?hyn25⟩) hHeld ?restn25
      case hin25 => (simp only [List.getElem?_toArray, List.getElem?_cons_succ, List.getElem?_cons_zero]; exact rfl)
      case an25 => kernel_rfl
      case bn25 => kernel_rfl
      case cn25 => kernel_rfl
      case qn25 => exact fun _ _ _ h => h
      case dn25 => rfl
      case hyn25 => (intro z hSw; (try dsimp only at hSw); go_simp; (try with_reducible rfl))
      try simp only [Act.put, List.setIfInBounds_toArray, List.set_cons_zero, List.set_cons_succ]
      refine wpAnyH_take (i := 10) (oi := ?on26) (v := ?vn26) ?hin26 ?an26 ?bn26 ?cn26 ?qn26 (Or.inl ⟨?dn26, ?hyn26⟩) hHeld ?restn26
      case hin26 => (simp only [List.getElem?_toArray, List.getElem?_cons_succ, List.getElem?_cons_zero]; exact rfl)
      case an26 => kernel_rfl
      case bn26 => kernel_rfl
      case cn26 => kernel_rfl
      case qn26 => exact fun _ _ _ h => h
      case dn26 => rfl
      case hyn26 => (intro z hSw; (try dsimp only at hSw); go_simp; (try with_reducible rfl))
      try simp only [Act.put, List.setIfInBounds_toArray, List.set_cons_zero, List.set_cons_succ]
      refine wpAnyH_take (i := 11) (oi := ?on27) (v := ?vn27) ?hin27 ?an27 ?bn27 ?cn27 ?qn27 (Or.inl ⟨?dn27, ?hyn27⟩) hHeld ?restn27
      case hin27 => (simp only [List.getElem?_toArray, List.getElem?_cons_succ, List.getElem?_cons_zero]; exact rfl)
      case an27 => kernel_rfl
      case bn27 => kernel_rfl
      case cn27 => kernel_rfl
      case qn27 => exact fun _ _ _ h => h
      case dn27 => rfl
      case hyn27 => (intro z hSw; (try dsimp only at hSw); go_simp; (try with_reducible rfl))
      try simp only [Act.put, List.setIfInBounds_toArray, List.set_cons_zero, List.set_cons_succ]
      refine wpAnyH_take (i := 12) (oi := ?on28) (v := ?vn28) ?hin28 ?an28 ?bn28 ?cn28 ?qn28 (Or.inl ⟨?dn28, ?hyn28⟩) hHeld ?restn28
      case hin28 => (simp only [List.getElem?_toArray, List.getElem?_cons_succ, List.getElem?_cons_zero]; exact rfl)
      case an28 => kernel_rfl
      case bn28 => kernel_rfl
      case cn28 => kernel_rfl
      case qn28 => exact fun _ _ _ h => h
      case dn28 => rfl
      case hyn28 => (intro z hSw; (try dsimp only at hSw); go_simp; (try with_reducible rfl))
      try simp only [Act.put, List.setIfInBounds_toArray, List.set_cons_zero, List.set_cons_succ]
      refine wpAnyH_take (i := 15) (oi := ?on29) (v := ?vn29) ?hin29 ?an29 ?bn29 ?cn29 ?qn29 (Or.inl ⟨?dn29, ?hyn29⟩) hHeld ?restn29
      case hin29 => (simp only [List.getElem?_toArray, List.getElem?_cons_succ, List.getElem?_cons_zero]; exact rfl)
      case an29 => kernel_rfl
      case bn29 => kernel_rfl
      case cn29 => kernel_rfl
      case qn29 => exact fun _ _ _ h => h
      case dn29 => rfl
      case hyn29 => (intro z hSw; (try dsimp only at hSw); go_simp; (try with_reducible rfl))
      try simp only [Act.put, List.setIfInBounds_toArray, List.set_cons_zero, List.set_cons_succ]
      refine wpAnyH_take (i := 16) (oi := ?on30) (v := ?vn30) ?hin30 ?an30 ?bn30 ?cn30 ?qn30 (Or.inl ⟨?dn30, ?hyn30⟩) hHeld ?restn30
      case hin30 => (simp only [List.getElem?_toArray, List.getElem?_cons_succ, List.getElem?_cons_zero]; exact rfl)
      case an30 => kernel_rfl
      case bn30 => kernel_rfl
      case cn30 => kernel_rfl
      case qn30 => exact fun _ _ _ h => h
      case dn30 => rfl
      case hyn30 => (intro z hSw; (try dsimp only at hSw); go_simp; (try with_reducible rfl))
      try simp only [Act.put, List.setIfInBounds_toArray, List.set_cons_zero, List.set_cons_succ]
      refine wpAnyH_ready (rs := [4, 13]) (by kernel_rfl) (by simp) ?_
      refine AllReadyH.cons (o := ?on31) ?hin31 ?restn31 (AllReadyH.cons (o := ?on32) ?hin32 ?restn32 AllReadyH.nil)
      case hin31 => (simp only [List.getElem?_toArray, List.getElem?_cons_succ, List.getElem?_cons_zero]; exact rfl)
      case hin32 => (simp only [List.getElem?_toArray, List.getElem?_cons_succ, List.getElem?_cons_zero]; exact rfl)
      case restn31 =>
        intro K hK
        go_simp
        obtain ⟨x1, hwx1⟩ : ∃ W, W = (w4.alloc (.cells #[.string (p1S m)] 9)).drew := ⟨_, rfl⟩
        have hgx1 : Grew w4 x1 := by rw [hwx1]; exact ((Grew.refl _).alloc _).drew
        have hx1 : Grew w4 x1 := hgx1
        have hl0 : Strs x1 (.slice (some ⟨w4.heap.size, 0, none⟩) 1 1) [p1S m] := lit_str (t := 9) (by rw [hwx1]; exact blk_new w4 _) (Grew.refl _)
        try simp only [← hwx1]
        clear hwx1
        refine hK.out _ _ ?_ (fun hHeld => ?_)
        · (try dsimp only); first | with_reducible assumption | exact hx1
        clear hK K
        try simp only [Act.put, List.setIfInBounds_toArray, List.set_cons_zero, List.set_cons_succ]
        refine wpAnyH_ready (rs := [5, 13]) (by kernel_rfl) (by simp) ?_
        refine AllReadyH.cons (o := ?on33) ?hin33 ?restn33 (AllReadyH.cons (o := ?on34) ?hin34 ?restn34 AllReadyH.nil)
        case hin33 => (simp only [List.getElem?_toArray, List.getElem?_cons_succ, List.getElem?_cons_zero]; exact rfl)
        case hin34 => (simp only [List.getElem?_toArray, List.getElem?_cons_succ, List.getElem?_cons_zero]; exact rfl)
        case restn33 =>
          intro K hK
          go_simp
          go_at_call 38
          refine (put_c _ _ (dropS L m) [p1S m] _ (HD.out.grew hx1) hl0 (by simp; omega)).mono ?_
          rintro e x2 ⟨u0, rfl, hu0, hgx2⟩
          have hx2 : Grew w4 x2 := hx1.trans hgx2
          obtain ⟨AU0, cU0, rfl⟩ := strs_slice hu0.strs
          have hs0 := hu0.strs
          clear hu0
          replace hl0 := hl0.grew hgx2
          refine hK.out _ _ ?_ (fun hHeld => ?_)
          · (try dsimp only); first | with_reducible assumption | exact hx2
          clear hK K
          try simp only [Act.put, List.setIfInBounds_toArray, List.set_cons_zero, List.set_cons_succ]
          refine wpAnyH_take (i := 8) (oi := ?on35) (v := ?vn35) ?hin35 ?an35 ?bn35 ?cn35 ?qn35 (Or.inl ⟨?dn35, ?hyn35⟩) hHeld ?restn35
          case hin35 => (simp only [List.getElem?_toArray, List.getElem?_cons_succ, List.getElem?_cons_zero]; exact rfl)
          case an35 => kernel_rfl
          case bn35 => kernel_rfl
          case cn35 => kernel_rfl
          case qn35 => exact fun _ _ _ h => h
          case dn35 => rfl
          case hyn35 => (intro z hSw; (try dsimp only at hSw); go_simp; (try with_reducible rfl))
          try simp only [Act.put, List.setIfInBounds_toArray, List.set_cons_zero, List.set_cons_succ]
          refine wpAnyH_ready (rs := [13]) (by kernel_rfl) (by simp) ?_
          refine AllReadyH.cons (o := ?on36) ?hin36 ?restn36 AllReadyH.nil
          case hin36 => (simp only [List.getElem?_toArray, List.getElem?_cons_succ, List.getElem?_cons_zero]; exact rfl)
          intro K hK
          go_simp
          obtain ⟨x3, hwx3⟩ : ∃ W, W = x2.alloc (.cells #[.string (p2S m)] 9) := ⟨_, rfl⟩
          have hgx3 : Grew x2 x3 := by rw [hwx3]; exact (Grew.refl _).alloc _
          have hx3 : Grew w4 x3 := hx2.trans hgx3
          have hl1 : Strs x3 (.slice (some ⟨x2.heap.size, 0, none⟩) 1 1) [p2S m] := lit_str (t := 9) (by rw [hwx3]; exact blk_new x2 _) (Grew.refl _)
          try simp only [← hwx3]
          clear hwx3
          replace hl0 := hl0.grew hgx3
          replace hs0 := hs0.grew hgx3
          refine hK.out _ _ ?_ (fun hHeld => ?_)
          · (try dsimp only); first | with_reducible assumption | exact hx3
          clear hK K
          try simp only [Act.put, List.setIfInBounds_toArray, List.set_cons_zero, List.set_cons_succ]
          refine wpAnyH_ready (rs := [14]) (by kernel_rfl) (by simp) ?_
          refine AllReadyH.cons (o := ?on37) ?hin37 ?restn37 AllReadyH.nil
          case hin37 => (simp only [List.getElem?_toArray, List.getElem?_cons_succ, List.getElem?_cons_zero]; exact rfl)
          intro K hK
          go_simp
          go_at_call 38
          refine (put_c _ _ (dropS L m) [p2S m] _ (HD.out.grew hx3) hl1 (by simp; omega)).mono ?_
          rintro e x4 ⟨u1, rfl, hu1, hgx4⟩
          have hx4 : Grew w4 x4 := hx3.trans hgx4
          obtain ⟨AU1, cU1, rfl⟩ := strs_slice hu1.strs
          have hs1 := hu1.strs
          clear hu1
          replace hl0 := hl0.grew hgx4
          replace hs0 := hs0.grew hgx4
          replace hl1 := hl1.grew hgx4
          refine hK.out _ _ ?_ (fun hHeld => ?_)
          · (try dsimp only); first | with_reducible assumption | exact hx4
          clear hK K
          try simp only [Act.put, List.setIfInBounds_toArray, List.set_cons_zero, List.set_cons_succ]
          refine wpAnyH_take (i := 17) (oi := ?on38) (v := ?vn38) ?hin38 ?an38 ?bn38 ?cn38 ?qn38 (Or.inl ⟨?dn38, ?hyn38⟩) hHeld ?restn38
          case hin38 => (simp only [List.getElem?_toArray, List.getElem?_cons_succ, List.getElem?_cons_zero]; exact rfl)
          case an38 => kernel_rfl
          case bn38 => kernel_rfl
          case cn38 => kernel_rfl
          case qn38 => exact fun _ _ _ h => h
          case dn38 => rfl
          case hyn38 => (intro z hSw; (try dsimp only at hSw); go_simp; (try with_reducible rfl))
          try simp only [Act.put, List.setIfInBounds_toArray, List.set_cons_zero, List.set_cons_succ]
          refine wpAnyH_ready (rs := [18]) (by kernel_rfl) (by simp) ?_
          refine AllReadyH.cons (o := ?on39) ?hin39 ?restn39 AllReadyH.nil
          case hin39 => (simp only [List.getElem?_toArray, List.getElem?_cons_succ, List.getElem?_cons_zero]; exact rfl)
          intro K hK
          go_simp
          refine hK.out _ _ ?_ (fun hHeld => ?_)
          · (try dsimp only); first | with_reducible assumption | exact (hx4.alloc _)
          clear hK K
          try simp only [Act.put, List.setIfInBounds_toArray, List.set_cons_zero, List.set_cons_succ]
          refine wpAnyH_take (i := 19) (oi := ?on40) (v := ?vn40) ?hin40 ?an40 ?bn40 ?cn40 ?qn40 (Or.inl ⟨?dn40, ?hyn40⟩) hHeld ?restn40
          case hin40 => (simp only [List.getElem?_toArray, List.getElem?_cons_succ, List.getElem?_cons_zero]; exact rfl)
          case an40 => kernel_rfl
          case bn40 => kernel_rfl
          case cn40 => kernel_rfl
          case qn40 => exact fun _ _ _ h => h
          case dn40 => rfl
          case hyn40 => (intro z hSw; (try dsimp only at hSw); go_simp; (try with_reducible rfl))
          try simp only [Act.put, List.setIfInBounds_toArray, List.set_cons_zero, List.set_cons_succ]
          refine wpAnyH_take (i := 20) (oi := ?on41) (v := ?vn41) ?hin41 ?an41 ?bn41 ?cn41 ?qn41 (Or.inl ⟨?dn41, ?hyn41⟩) hHeld ?restn41
          case hin41 => (simp only [List.getElem?_toArray, List.getElem?_cons_succ, List.getElem?_cons_zero]; exact rfl)
          case an41 => kernel_rfl
          case bn41 => kernel_rfl
          case cn41 => kernel_rfl
          case qn41 => exact fun _ _ _ h => h
          case dn41 => rfl
          case hyn41 => (intro z hSw; (try dsimp only at hSw); go_simp; (try with_reducible rfl))
          try simp only [Act.put, List.setIfInBounds_toArray, List.set_cons_zero, List.set_cons_succ]
          refine wpAnyH_done (by kernel_rfl) ?_ _
          go_wp2_with fail
          go_ret2
          have hX := HX.out
          rw [lfF_5 HKS.out] at hX
          rw [← hX]
          exact ⟨_, _, _, rfl, fun _ => rdM_two (blk_new x4 _) (Strs.grew hs0 ((Grew.refl _).alloc _)) (Strs.grew (HB.out.grew (HG4.out.trans hx4)) ((Grew.refl _).alloc _)) (Strs.grew hs1 ((Grew.refl _).alloc _)) (Strs.grew (HB.out.grew (HG4.out.trans hx4)) ((Grew.refl _).alloc _)), HG4.out.trans (hx4.alloc _)⟩
        case restn34 =>
          intro K hK
          go_simp
          obtain ⟨x2, hwx2⟩ : ∃ W, W = x1.alloc (.cells #[.string (p2S m)] 9) := ⟨_, rfl⟩
          have hgx2 : Grew x1 x2 := by rw [hwx2]; exact (Grew.refl _).alloc _
          have hx2 : Grew w4 x2 := hx1.trans hgx2
          have hl1 : Strs x2 (.slice (some ⟨x1.heap.size, 0, none⟩) 1 1) [p2S m] := lit_str (t := 9) (by rw [hwx2]; exact blk_new x1 _) (Grew.refl _)
          try simp only [← hwx2]
          clear hwx2
          replace hl0 := hl0.grew hgx2
          refine hK.out _ _ ?_ (fun hHeld => ?_)
          · (try dsimp only); first | with_reducible assumption | exact hx2
          clear hK K
          try simp only [Act.put, List.setIfInBounds_toArray, List.set_cons_zero, List.set_cons_succ]
          refine wpAnyH_ready (rs := [5]) (by kernel_rfl) (by simp) ?_
          refine AllReadyH.cons (o := ?on42) ?hin42 ?restn42 AllReadyH.nil
          case hin42 => (simp only [List.getElem?_toArray, List.getElem?_cons_succ, List.getElem?_cons_zero]; exact rfl)
          intro K hK
          go_simp
          go_at_call 38
          refine (put_c _ _ (dropS L m) [p1S m] _ (HD.out.grew hx2) hl0 (by simp; omega)).mono ?_
          rintro e x3 ⟨u0, rfl, hu0, hgx3⟩
          have hx3 : Grew w4 x3 := hx2.trans hgx3
          obtain ⟨AU0, cU0, rfl⟩ := strs_slice hu0.strs
          have hs0 := hu0.strs
          clear hu0
          replace hl0 := hl0.grew hgx3
          replace hl1 := hl1.grew hgx3
          refine hK.out _ _ ?_ (fun hHeld => ?_)
          · (try dsimp only); first | with_reducible assumption | exact hx3
          clear hK K
          try simp only [Act.put, List.setIfInBounds_toArray, List.set_cons_zero, List.set_cons_succ]
          refine wpAnyH_take (i := 8) (oi := ?on43) (v := ?vn43) ?hin43 ?an43 ?bn43 ?cn43 ?qn43 (Or.inl ⟨?dn43, ?hyn43⟩) hHeld ?restn43
          case hin43 => (simp only [List.getElem?_toArray, List.getElem?_cons_succ, List.getElem?_cons_zero]; exact rfl)
          case an43 => kernel_rfl
          case bn43 => kernel_rfl
          case cn43 => kernel_rfl
          case qn43 => exact fun _ _ _ h => h
          case dn43 => rfl
          case hyn43 => (intro z hSw; (try dsimp only at hSw); go_simp; (try with_reducible rfl))
          try simp only [Act.put, List.setIfInBounds_toArray, List.set_cons_zero, List.set_cons_succ]
          refine wpAnyH_ready (rs := [14]) (by kernel_rfl) (by simp) ?_
          refine AllReadyH.cons (o := ?on44) ?hin44 ?restn44 AllReadyH.nil
          case hin44 => (simp only [List.getElem?_toArray, List.getElem?_cons_succ, List.getElem?_cons_zero]; exact rfl)
          intro K hK
          go_simp
          go_at_call 38
          refine (put_c _ _ (dropS L m) [p2S m] _ (HD.out.grew hx3) hl1 (by simp; omega)).mono ?_
          rintro e x4 ⟨u1, rfl, hu1, hgx4⟩
          have hx4 : Grew w4 x4 := hx3.trans hgx4
          obtain ⟨AU1, cU1, rfl⟩ := strs_slice hu1.strs
          have hs1 := hu1.strs
          clear hu1
          replace hl0 := hl0.grew hgx4
          replace hl1 := hl1.grew hgx4
          replace hs0 := hs0.grew hgx4
          refine hK.out _ _ ?_ (fun hHeld => ?_)
          · (try dsimp only); first | with_reducible assumption | exact hx4
          clear hK K
          try simp only [Act.put, List.setIfInBounds_toArray, List.set_cons_zero, List.set_cons_succ]
          refine wpAnyH_take (i := 17) (oi := ?on45) (v := ?vn45) ?hin45 ?an45 ?bn45 ?cn45 ?qn45 (Or.inl ⟨?dn45, ?hyn45⟩) hHeld ?restn45
          case hin45 => (simp only [List.getElem?_toArray, List.getElem?_cons_succ, List.getElem?_cons_zero]; exact rfl)
          case an45 => kernel_rfl
          case bn45 => kernel_rfl
          case cn45 => kernel_rfl
          case qn45 => exact fun _ _ _ h => h
          case dn45 => rfl
          case hyn45 => (intro z hSw; (try dsimp only at hSw); go_simp; (try with_reducible rfl))
          try simp only [Act.put, List.setIfInBounds_toArray, List.set_cons_zero, List.set_cons_succ]
          refine wpAnyH_ready (rs := [18]) (by kernel_rfl) (by simp) ?_
          refine AllReadyH.cons (o := ?on46) ?hin46 ?restn46 AllReadyH.nil
          case hin46 => (simp only [List.getElem?_toArray, List.getElem?_cons_succ, List.getElem?_cons_zero]; exact rfl)
          intro K hK
          go_simp
          refine hK.out _ _ ?_ (fun hHeld => ?_)
          · (try dsimp only); first | with_reducible assumption | exact (hx4.alloc _)
          clear hK K
          try simp only [Act.put, List.setIfInBounds_toArray, List.set_cons_zero, List.set_cons_succ]
          refine wpAnyH_take (i := 19) (oi := ?on47) (v := ?vn47) ?hin47 ?an47 ?bn47 ?cn47 ?qn47 (Or.inl ⟨?dn47, ?hyn47⟩) hHeld ?restn47
          case hin47 => (simp only [List.getElem?_toArray, List.getElem?_cons_succ, List.getElem?_cons_zero]; exact rfl)
          case an47 => kernel_rfl
          case bn47 => kernel_rfl
          case cn47 => kernel_rfl
          case qn47 => exact fun _ _ _ h => h
          case dn47 => rfl
          case hyn47 => (intro z hSw; (try dsimp only at hSw); go_simp; (try with_reducible rfl))
          try simp only [Act.put, List.setIfInBounds_toArray, List.set_cons_zero, List.set_cons_succ]
          refine wpAnyH_take (i := 20) (oi := ?on48) (v := ?vn48) ?hin48 ?an48 ?bn48 ?cn48 ?qn48 (Or.inl ⟨?dn48, ?hyn48⟩) hHeld ?restn48
          case hin48 => (simp only [List.getElem?_toArray, List.getElem?_cons_succ, List.getElem?_cons_zero]; exact rfl)
          case an48 => kernel_rfl
          case bn48 => kernel_rfl
          case cn48 => kernel_rfl
          case qn48 => exact fun _ _ _ h => h
          case dn48 => rfl
          case hyn48 => (intro z hSw; (try dsimp only at hSw); go_simp; (try with_reducible rfl))
          try simp only [Act.put, List.setIfInBounds_toArray, List.set_cons_zero, List.set_cons_succ]
          refine wpAnyH_done (by kernel_rfl) ?_ _
          go_wp2_with fail
          go_ret2
          have hX := HX.out
          rw [lfF_5 HKS.out] at hX
          rw [← hX]
          exact ⟨_, _, _, rfl, fun _ => rdM_two (blk_new x4 _) (Strs.grew hs0 ((Grew.refl _).alloc _)) (Strs.grew (HB.out.grew (HG4.out.trans hx4)) ((Grew.refl _).alloc _)) (Strs.grew hs1 ((Grew.refl _).alloc _)) (Strs.grew (HB.out.grew (HG4.out.trans hx4)) ((Grew.refl _).alloc _)), HG4.out.trans (hx4.alloc _)⟩
      case restn32 =>
        intro K hK
        go_simp
        obtain ⟨x1, hwx1⟩ : ∃ W, W = (w4.alloc (.cells #[.string (p2S m)] 9)).drew := ⟨_, rfl⟩
        have hgx1 : Grew w4 x1 := by rw [hwx1]; exact ((Grew.refl _).alloc _).drew
        have hx1 : Grew w4 x1 := hgx1
        have hl1 : Strs x1 (.slice (some ⟨w4.heap.size, 0, none⟩) 1 1) [p2S m] := lit_str (t := 9) (by rw [hwx1]; exact blk_new w4 _) (Grew.refl _)
        try simp only [← hwx1]
        clear hwx1
        refine hK.out _ _ ?_ (fun hHeld => ?_)
        · (try dsimp only); first | with_reducible assumption | exact hx1
        clear hK K
        try simp only [Act.put, List.setIfInBounds_toArray, List.set_cons_zero, List.set_cons_succ]
        refine wpAnyH_ready (rs := [4]) (by kernel_rfl) (by simp) ?_
        refine AllReadyH.cons (o := ?on49) ?hin49 ?restn49 AllReadyH.nil
        case hin49 => (simp only [List.getElem?_toArray, List.getElem?_cons_succ, List.getElem?_cons_zero]; exact rfl)
        intro K hK
        go_simp
        obtain ⟨x2, hwx2⟩ : ∃ W, W = x1.alloc (.cells #[.string (p1S m)] 9) := ⟨_, rfl⟩
        have hgx2 : Grew x1 x2 := by rw [hwx2]; exact (Grew.refl _).alloc _
        have hx2 : Grew w4 x2 := hx1.trans hgx2
        have hl0 : Strs x2 (.slice (some ⟨x1.heap.size, 0, none⟩) 1 1) [p1S m] := lit_str (t := 9) (by rw [hwx2]; exact blk_new x1 _) (Grew.refl _)
        try simp only [← hwx2]
        clear hwx2
        replace hl1 := hl1.grew hgx2
        refine hK.out _ _ ?_ (fun hHeld => ?_)
        · (try dsimp only); first | with_reducible assumption | exact hx2
        clear hK K
        try simp only [Act.put, List.setIfInBounds_toArray, List.set_cons_zero, List.set_cons_succ]
        refine wpAnyH_ready (rs := [5]) (by kernel_rfl) (by simp) ?_
        refine AllReadyH.cons (o := ?on50) ?hin50 ?restn50 AllReadyH.nil
        case hin50 => (simp only [List.getElem?_toArray, List.getElem?_cons_succ, List.getElem?_cons_zero]; exact rfl)
        intro K hK
        go_simp
        go_at_call 38
        refine (put_c _ _ (dropS L m) [p1S m] _ (HD.out.grew hx2) hl0 (by simp; omega)).mono ?_
        rintro e x3 ⟨u0, rfl, hu0, hgx3⟩
        have hx3 : Grew w4 x3 := hx2.trans hgx3
        obtain ⟨AU0, cU0, rfl⟩ := strs_slice hu0.strs
        have hs0 := hu0.strs
        clear hu0
        replace hl1 := hl1.grew hgx3
        replace hl0 := hl0.grew hgx3
        refine hK.out _ _ ?_ (fun hHeld => ?_)
        · (try dsimp only); first | with_reducible assumption | exact hx3
        clear hK K
        try simp only [Act.put, List.setIfInBounds_toArray, List.set_cons_zero, List.set_cons_succ]
        refine wpAnyH_take (i := 8) (oi := ?on51) (v := ?vn51) ?hin51 ?an51 ?bn51 ?cn51 ?qn51 (Or.inl ⟨?dn51, ?hyn51⟩) hHeld ?restn51
        case hin51 => (simp only [List.getElem?_toArray, List.getElem?_cons_succ, List.getElem?_cons_zero]; exact rfl)
        case an51 => kernel_rfl
        case bn51 => kernel_rfl
        case cn51 => kernel_rfl
        case qn51 => exact fun _ _ _ h => h
        case dn51 => rfl
        case hyn51 => (intro z hSw; (try dsimp only at hSw); go_simp; (try with_reducible rfl))
        try simp only [Act.put, List.setIfInBounds_toArray, List.set_cons_zero, List.set_cons_succ]
        refine wpAnyH_ready (rs := [14]) (by kernel_rfl) (by simp) ?_
        refine AllReadyH.cons (o := ?on52) ?hin52 ?restn52 AllReadyH.nil
        case hin52 => (simp only [List.getElem?_toArray, List.getElem?_cons_succ, List.getElem?_cons_zero]; exact rfl)
        intro K hK
        go_simp
        go_at_call 38
        refine (put_c _ _ (dropS L m) [p2S m] _ (HD.out.grew hx3) hl1 (by simp; omega)).mono ?_
        rintro e x4 ⟨u1, rfl, hu1, hgx4⟩
        have hx4 : Grew w4 x4 := hx3.trans hgx4
        obtain ⟨AU1, cU1, rfl⟩ := strs_slice hu1.strs
        have hs1 := hu1.strs
        clear hu1
        replace hl1 := hl1.grew hgx4
        replace hl0 := hl0.grew hgx4
        replace hs0 := hs0.grew hgx4
        refine hK.out _ _ ?_ (fun hHeld => ?_)
        · (try dsimp only); first | with_reducible assumption | exact hx4
        clear hK K
        try simp only [Act.put, List.setIfInBounds_toArray, List.set_cons_zero, List.set_cons_succ]
        refine wpAnyH_take (i := 17) (oi := ?on53) (v := ?vn53) ?hin53 ?an53 ?bn53 ?cn53 ?qn53 (Or.inl ⟨?dn53, ?hyn53⟩) hHeld ?restn53
        case hin53 => (simp only [List.getElem?_toArray, List.getElem?_cons_succ, List.getElem?_cons_zero]; exact rfl)
        case an53 => kernel_rfl
        case bn53 => kernel_rfl
        case cn53 => kernel_rfl
        case qn53 => exact fun _ _ _ h => h
        case dn53 => rfl
        case hyn53 => (intro z hSw; (try dsimp only at hSw); go_simp; (try with_reducible rfl))
        try simp only [Act.put, List.setIfInBounds_toArray, List.set_cons_zero, List.set_cons_succ]
        refine wpAnyH_ready (rs := [18]) (by kernel_rfl) (by simp) ?_
        refine AllReadyH.cons (o := ?on54) ?hin54 ?restn54 AllReadyH.nil
        case hin54 => (simp only [List.getElem?_toArray, List.getElem?_cons_succ, List.getElem?_cons_zero]; exact rfl)
        intro K hK
        go_simp
        refine hK.out _ _ ?_ (fun hHeld => ?_)
        · (try dsimp only); first | with_reducible assumption | exact (hx4.alloc _)
        clear hK K
        try simp only [Act.put, List.setIfInBounds_toArray, List.set_cons_zero, List.set_cons_succ]
        refine wpAnyH_take (i := 19) (oi := ?on55) (v := ?vn55) ?hin55 ?an55 ?bn55 ?cn55 ?qn55 (Or.inl ⟨?dn55, ?hyn55⟩) hHeld ?restn55
        case hin55 => (simp only [List.getElem?_toArray, List.getElem?_cons_succ, List.getElem?_cons_zero]; exact rfl)
        case an55 => kernel_rfl
        case bn55 => kernel_rfl
        case cn55 => kernel_rfl
        case qn55 => exact fun _ _ _ h => h
        case dn55 => rfl
        case hyn55 => (intro z hSw; (try dsimp only at hSw); go_simp; (try with_reducible rfl))
        try simp only [Act.put, List.setIfInBounds_toArray, List.set_cons_zero, List.set_cons_succ]
        refine wpAnyH_take (i := 20) (oi := ?on56) (v := ?vn56) ?hin56 ?an56 ?bn56 ?cn56 ?qn56 (Or.inl ⟨?dn56, ?hyn56⟩) hHeld ?restn56
        case hin56 => (simp only [List.getElem?_toArray, List.getElem?_cons_succ, List.getElem?_cons_zero]; exact rfl)
        case an56 => kernel_rfl
        case bn56 => kernel_rfl
        case cn56 => kernel_rfl
        case qn56 => exact fun _ _ _ h => h
        case dn56 => rfl
        case hyn56 => (intro z hSw; (try dsimp only at hSw); go_simp; (try with_reducible rfl))
        try simp only [Act.put, List.setIfInBounds_toArray, List.set_cons_zero, List.set_cons_succ]
        refine wpAnyH_done (by kernel_rfl) ?_ _
        go_wp2_with fail
        go_ret2
        have hX := HX.out
        rw [lfF_5 HKS.out] at hX
        rw [← hX]
        exact ⟨_, _, _, rfl, fun _ => rdM_two (blk_new x4 _) (Strs.grew hs0 ((Grew.refl _).alloc _)) (Strs.grew (HB.out.grew (HG4.out.trans hx4)) ((Grew.refl _).alloc _)) (Strs.grew hs1 ((Grew.refl _).alloc _)) (Strs.grew (HB.out.grew (HG4.out.trans hx4)) ((Grew.refl _).alloc _)), HG4.out.trans (hx4.alloc _)⟩
    · have hkb : (kk == 3) = false := by simpa using hk
      go_wp2_with fail
      go_ret2
      have hX := HX.out
      rw [lfF_5n (by rw [HKS.out]; exact hk)] at hX
      rw [← hX]
      exact ⟨_, _, _, rfl, (fun h => by cases h), HG4.out⟩
  by_cases h7 : r = 7
  · subst h7
    by_cases hk : kk = 4
    · subst hk
      obtain rfl : pt = [p1S m, p2S m] := by have := HP.out; simpa using this
      obtain ⟨bp, op, cp, hpv, hcp, hcp2, hbp, hpc⟩ := strs_two HPr.out
      obtain ⟨rfl, rfl⟩ : A4 = some ⟨bp, op, none⟩ ∧ c4 = cp := by simpa using hpv
      have hp1c := fun W (hW : Grew w4 W) => (hpc W hW).1
      have hp2c := fun W (hW : Grew w4 W) => (hpc W hW).2
      clear hpv hpc
      go_wp2_with fail
      refine wp_region_held_drew (S := fun w' => Grew w4 w') (by kernel_rfl) hd4 (fun hHeld => ?_)
      refine wpAnyH_take (i := 0) (oi := ?on57) (v := ?vn57) ?hin57 ?an57 ?bn57 ?cn57 ?qn57 (Or.inl ⟨?dn57, ?hyn57⟩) hHeld ?restn57
      case hin57 => (simp only [List.getElem?_toArray, List.getElem?_cons_zero]; exact rfl)
      case an57 => kernel_rfl
      case bn57 => kernel_rfl
      case cn57 => kernel_rfl
      case qn57 => exact fun _ _ _ h => h
      case dn57 => rfl
      case hyn57 => (intro z hSw; (try dsimp only at hSw); go_simp; (try with_reducible rfl))
      try simp only [Act.put, List.setIfInBounds_toArray, List.set_cons_zero, List.set_cons_succ]
      refine wpAnyH_take (i := 1) (oi := ?on58) (v := ?vn58) ?hin58 ?an58 ?bn58 ?cn58 ?qn58 (Or.inl ⟨?dn58, ?hyn58⟩) hHeld ?restn58
      case hin58 => (simp only [List.getElem?_toArray, List.getElem?_cons_succ, List.getElem?_cons_zero]; exact rfl)
      case an58 => kernel_rfl
      case bn58 => kernel_rfl
      case cn58 => kernel_rfl
      case qn58 => exact fun _ _ _ h => h
      case dn58 => rfl
      case hyn58 => (intro z hSw; (try dsimp only at hSw); go_simp; (try with_reducible rfl))
      try simp only [Act.put, List.setIfInBounds_toArray, List.set_cons_zero, List.set_cons_succ]
      refine wpAnyH_take (i := 2) (oi := ?on59) (v := ?vn59) ?hin59 ?an59 ?bn59 ?cn59 ?qn59 (Or.inl ⟨?dn59, ?hyn59⟩) hHeld ?restn59
      case hin59 => (simp only [List.getElem?_toArray, List.getElem?_cons_succ, List.getElem?_cons_zero]; exact rfl)
      case an59 => kernel_rfl
      case bn59 => kernel_rfl
      case cn59 => kernel_rfl
      case qn59 => exact fun _ _ _ h => h
      case dn59 => rfl
      case hyn59 => (intro z hSw; (try dsimp only at hSw); go_simp; (try with_reducible rfl))
      try simp only [Act.put, List.setIfInBounds_toArray, List.set_cons_zero, List.set_cons_succ]
      refine wpAnyH_take (i := 3) (oi := ?on60) (v := ?vn60) ?hin60 ?an60 ?bn60 ?cn60 ?qn60 (Or.inl ⟨?dn60, ?hyn60⟩) hHeld ?restn60
      case hin60 => (simp only [List.getElem?_toArray, List.getElem?_cons_succ, List.getElem?_cons_zero]; exact rfl)
      case an60 => kernel_rfl
      case bn60 => kernel_rfl
      case cn60 => kernel_rfl
      case qn60 => exact fun _ _ _ h => h
      case dn60 => rfl
      case hyn60 => (intro z hSw; (try dsimp only at hSw); go_simp; (try with_reducible rfl))
      try simp only [Act.put, List.setIfInBounds_toArray, List.set_cons_zero, List.set_cons_succ]
      refine wpAnyH_take (i := 4) (oi := ?on61) (v := ?vn61) ?hin61 ?an61 ?bn61 ?cn61 ?qn61 (Or.inl ⟨?dn61, ?hyn61⟩) hHeld ?restn61
      case hin61 => (simp only [List.getElem?_toArray, List.getElem?_cons_succ, List.getElem?_cons_zero]; exact rfl)
      case an61 => kernel_rfl
      case bn61 => kernel_rfl
      case cn61 => kernel_rfl
      case qn61 => exact fun _ _ _ h => h
      case dn61 => rfl
      case hyn61 => (intro z hSw; (try dsimp only at hSw); go_simp; (try with_reducible rfl))
      try simp only [Act.put, List.setIfInBounds_toArray, List.set_cons_zero, List.set_cons_succ]
      refine wpAnyH_take (i := 5) (oi := ?on62) (v := ?vn62) ?hin62 ?an62 ?bn62 ?cn62 ?qn62 (Or.inl ⟨?dn62, ?hyn62⟩) hHeld ?restn62
      case hin62 => (simp only [List.getElem?_toArray, List.getElem?_cons_succ, List.getElem?_cons_zero]; exact rfl)
      case an62 => kernel_rfl
      case bn62 => kernel_rfl
      case cn62 => kernel_rfl
      case qn62 => exact fun _ _ _ h => h
      case dn62 => rfl
      case hyn62 => (intro z hSw; (try dsimp only at hSw); go_simp; (try with_reducible rfl))
      try simp only [Act.put, List.setIfInBounds_toArray, List.set_cons_zero, List.set_cons_succ]
      refine wpAnyH_take (i := 9) (oi := ?on63) (v := ?vn63) ?hin63 ?an63 ?bn63 ?cn63 ?qn63 (Or.inl ⟨?dn63, ?hyn63⟩) hHeld ?restn63
      case hin63 => (simp only [List.getElem?_toArray, List.getElem?_cons_succ, List.getElem?_cons_zero]; exact rfl)
      case an63 => kernel_rfl
      case bn63 => kernel_rfl
      case cn63 => kernel_rfl
      case qn63 => exact fun _ _ _ h => h
      case dn63 => rfl
      case hyn63 => (intro z hSw; (try dsimp only at hSw); go_simp; (try with_reducible rfl))
      try simp only [Act.put, List.setIfInBounds_toArray, List.set_cons_zero, List.set_cons_succ]
      refine wpAnyH_take (i := 10) (oi := ?on64) (v := ?vn64) ?hin64 ?an64 ?bn64 ?cn64 ?qn64 (Or.inl ⟨?dn64, ?hyn64⟩) hHeld ?restn64
      case hin64 => (simp only [List.getElem?_toArray, List.getElem?_cons_succ, List.getElem?_cons_zero]; exact rfl)
      case an64 => kernel_rfl
      case bn64 => kernel_rfl
      case cn64 => kernel_rfl
      case qn64 => exact fun _ _ _ h => h
      case dn64 => rfl
      case hyn64 => (intro z hSw; (try dsimp only at hSw); go_simp; (try with_reducible rfl))
      try simp only [Act.put, List.setIfInBounds_toArray, List.set_cons_zero, List.set_cons_succ]
      refine wpAnyH_take (i := 11) (oi := ?on65) (v := ?vn65) ?hin65 ?an65 ?bn65 ?cn65 ?qn65 (Or.inl ⟨?dn65, ?hyn65⟩) hHeld ?restn65
      case hin65 => (simp only [List.getElem?_toArray, List.getElem?_cons_succ, List.getElem?_cons_zero]; exact rfl)
      case an65 => kernel_rfl
      case bn65 => kernel_rfl
      case cn65 => kernel_rfl
      case qn65 => exact fun _ _ _ h => h
      case dn65 => rfl
      case hyn65 => (intro z hSw; (try dsimp only at hSw); go_simp; (try with_reducible rfl))
      try simp only [Act.put, List.setIfInBounds_toArray, List.set_cons_zero, List.set_cons_succ]
      refine wpAnyH_take (i := 12) (oi := ?on66) (v := ?vn66) ?hin66 ?an66 ?bn66 ?cn66 ?qn66 (Or.inl ⟨?dn66, ?hyn66⟩) hHeld ?restn66
      case hin66 => (simp only [List.getElem?_toArray, List.getElem?_cons_succ, List.getElem?_cons_zero]; exact rfl)
      case an66 => kernel_rfl
      case bn66 => kernel_rfl
      case cn66 => kernel_rfl
      case qn66 => exact fun _ _ _ h => h
      case dn66 => rfl
      case hyn66 => (intro z hSw; (try dsimp only at hSw); go_simp; (try with_reducible rfl))
      try simp only [Act.put, List.setIfInBounds_toArray, List.set_cons_zero, List.set_cons_succ]
      refine wpAnyH_take (i := 15) (oi := ?on67) (v := ?vn67) ?hin67 ?an67 ?bn67 ?cn67 ?qn67 (Or.inl ⟨?dn67, ?hyn67⟩) hHeld ?restn67
      case hin67 => (simp only [List.getElem?_toArray, List.getElem?_cons_succ, List.getElem?_cons_zero]; exact rfl)
      case an67 => kernel_rfl
      case bn67 => kernel_rfl
      case cn67 => kernel_rfl
      case qn67 => exact fun _ _ _ h => h
      case dn67 => rfl
      case hyn67 => (intro z hSw; (try dsimp only at hSw); go_simp; (try with_reducible rfl))
      try simp only [Act.put, List.setIfInBounds_toArray, List.set_cons_zero, List.set_cons_succ]
      refine wpAnyH_take (i := 16) (oi := ?on68) (v := ?vn68) ?hin68 ?an68 ?bn68 ?cn68 ?qn68 (Or.inl ⟨?dn68, ?hyn68⟩) hHeld ?restn68
      case hin68 => (simp only [List.getElem?_toArray, List.getElem?_cons_succ, List.getElem?_cons_zero]; exact rfl)
      case an68 => kernel_rfl
      case bn68 => kernel_rfl
      case cn68 => kernel_rfl
      case qn68 => exact fun _ _ _ h => h
      case dn68 => rfl
      case hyn68 => (intro z hSw; (try dsimp only at hSw); go_simp; (try with_reducible rfl))
      try simp only [Act.put, List.setIfInBounds_toArray, List.set_cons_zero, List.set_cons_succ]
      refine wpAnyH_ready (rs := [6, 13]) (by kernel_rfl) (by simp) ?_
      refine AllReadyH.cons (o := ?on69) ?hin69 ?restn69 (AllReadyH.cons (o := ?on70) ?hin70 ?restn70 AllReadyH.nil)
      case hin69 => (simp only [List.getElem?_toArray, List.getElem?_cons_succ, List.getElem?_cons_zero]; exact rfl)
      case hin70 => (simp only [List.getElem?_toArray, List.getElem?_cons_succ, List.getElem?_cons_zero]; exact rfl)
      case restn69 =>
        intro K hK
        go_simp
        obtain ⟨x1, hwx1⟩ : ∃ W, W = (w4.alloc (.cells #[.string (p1S m)] 9)).drew := ⟨_, rfl⟩
        have hgx1 : Grew w4 x1 := by rw [hwx1]; exact ((Grew.refl _).alloc _).drew
        have hx1 : Grew w4 x1 := hgx1
        have hl0 : Strs x1 (.slice (some ⟨w4.heap.size, 0, none⟩) 1 1) [p1S m] := lit_str (t := 9) (by rw [hwx1]; exact blk_new w4 _) (Grew.refl _)
        try simp only [← hwx1]
        clear hwx1
        refine hK.out _ _ ?_ (fun hHeld => ?_)
        · (try dsimp only); first | with_reducible assumption | exact hx1
        clear hK K
        try simp only [Act.put, List.setIfInBounds_toArray, List.set_cons_zero, List.set_cons_succ]
        refine wpAnyH_ready (rs := [7, 13]) (by kernel_rfl) (by simp) ?_
        refine AllReadyH.cons (o := ?on71) ?hin71 ?restn71 (AllReadyH.cons (o := ?on72) ?hin72 ?restn72 AllReadyH.nil)
        case hin71 => (simp only [List.getElem?_toArray, List.getElem?_cons_succ, List.getElem?_cons_zero]; exact rfl)
        case hin72 => (simp only [List.getElem?_toArray, List.getElem?_cons_succ, List.getElem?_cons_zero]; exact rfl)
        case restn71 =>
          intro K hK
          go_simp
          go_at_call 38
          refine (put_c _ _ R [p1S m] _ (HB.out.grew (HG4.out.trans hx1)) hl0 (by simp; omega)).mono ?_
          rintro e x2 ⟨u0, rfl, hu0, hgx2⟩
          have hx2 : Grew w4 x2 := hx1.trans hgx2
          obtain ⟨AU0, cU0, rfl⟩ := strs_slice hu0.strs
          have hs0 := hu0.strs
          clear hu0
          replace hl0 := hl0.grew hgx2
          refine hK.out _ _ ?_ (fun hHeld => ?_)
          · (try dsimp only); first | with_reducible assumption | exact hx2
          clear hK K
          try simp only [Act.put, List.setIfInBounds_toArray, List.set_cons_zero, List.set_cons_succ]
          refine wpAnyH_take (i := 8) (oi := ?on73) (v := ?vn73) ?hin73 ?an73 ?bn73 ?cn73 ?qn73 (Or.inl ⟨?dn73, ?hyn73⟩) hHeld ?restn73
          case hin73 => (simp only [List.getElem?_toArray, List.getElem?_cons_succ, List.getElem?_cons_zero]; exact rfl)
          case an73 => kernel_rfl
          case bn73 => kernel_rfl
          case cn73 => kernel_rfl
          case qn73 => exact fun _ _ _ h => h
          case dn73 => rfl
          case hyn73 => (intro z hSw; (try dsimp only at hSw); go_simp; (try with_reducible rfl))
          try simp only [Act.put, List.setIfInBounds_toArray, List.set_cons_zero, List.set_cons_succ]
          refine wpAnyH_ready (rs := [13]) (by kernel_rfl) (by simp) ?_
          refine AllReadyH.cons (o := ?on74) ?hin74 ?restn74 AllReadyH.nil
          case hin74 => (simp only [List.getElem?_toArray, List.getElem?_cons_succ, List.getElem?_cons_zero]; exact rfl)
          intro K hK
          go_simp
          obtain ⟨x3, hwx3⟩ : ∃ W, W = x2.alloc (.cells #[.string (p2S m)] 9) := ⟨_, rfl⟩
          have hgx3 : Grew x2 x3 := by rw [hwx3]; exact (Grew.refl _).alloc _
          have hx3 : Grew w4 x3 := hx2.trans hgx3
          have hl1 : Strs x3 (.slice (some ⟨x2.heap.size, 0, none⟩) 1 1) [p2S m] := lit_str (t := 9) (by rw [hwx3]; exact blk_new x2 _) (Grew.refl _)
          try simp only [← hwx3]
          clear hwx3
          replace hl0 := hl0.grew hgx3
          replace hs0 := hs0.grew hgx3
          refine hK.out _ _ ?_ (fun hHeld => ?_)
          · (try dsimp only); first | with_reducible assumption | exact hx3
          clear hK K
          try simp only [Act.put, List.setIfInBounds_toArray, List.set_cons_zero, List.set_cons_succ]
          refine wpAnyH_ready (rs := [14]) (by kernel_rfl) (by simp) ?_
          refine AllReadyH.cons (o := ?on75) ?hin75 ?restn75 AllReadyH.nil
          case hin75 => (simp only [List.getElem?_toArray, List.getElem?_cons_succ, List.getElem?_cons_zero]; exact rfl)
          intro K hK
          go_simp
          go_at_call 38
          refine (put_c _ _ (dropS L m) [p2S m] _ (HD.out.grew hx3) hl1 (by simp; omega)).mono ?_
          rintro e x4 ⟨u1, rfl, hu1, hgx4⟩
          have hx4 : Grew w4 x4 := hx3.trans hgx4
          obtain ⟨AU1, cU1, rfl⟩ := strs_slice hu1.strs
          have hs1 := hu1.strs
          clear hu1
          replace hl0 := hl0.grew hgx4
          replace hs0 := hs0.grew hgx4
          replace hl1 := hl1.grew hgx4
          refine hK.out _ _ ?_ (fun hHeld => ?_)
          · (try dsimp only); first | with_reducible assumption | exact hx4
          clear hK K
          try simp only [Act.put, List.setIfInBounds_toArray, List.set_cons_zero, List.set_cons_succ]
          refine wpAnyH_take (i := 17) (oi := ?on76) (v := ?vn76) ?hin76 ?an76 ?bn76 ?cn76 ?qn76 (Or.inl ⟨?dn76, ?hyn76⟩) hHeld ?restn76
          case hin76 => (simp only [List.getElem?_toArray, List.getElem?_cons_succ, List.getElem?_cons_zero]; exact rfl)
          case an76 => kernel_rfl
          case bn76 => kernel_rfl
          case cn76 => kernel_rfl
          case qn76 => exact fun _ _ _ h => h
          case dn76 => rfl
          case hyn76 => (intro z hSw; (try dsimp only at hSw); go_simp; (try with_reducible rfl))
          try simp only [Act.put, List.setIfInBounds_toArray, List.set_cons_zero, List.set_cons_succ]
          refine wpAnyH_ready (rs := [18]) (by kernel_rfl) (by simp) ?_
          refine AllReadyH.cons (o := ?on77) ?hin77 ?restn77 AllReadyH.nil
          case hin77 => (simp only [List.getElem?_toArray, List.getElem?_cons_succ, List.getElem?_cons_zero]; exact rfl)
          intro K hK
          go_simp
          refine hK.out _ _ ?_ (fun hHeld => ?_)
          · (try dsimp only); first | with_reducible assumption | exact (hx4.alloc _)
          clear hK K
          try simp only [Act.put, List.setIfInBounds_toArray, List.set_cons_zero, List.set_cons_succ]
          refine wpAnyH_take (i := 19) (oi := ?on78) (v := ?vn78) ?hin78 ?an78 ?bn78 ?cn78 ?qn78 (Or.inl ⟨?dn78, ?hyn78⟩) hHeld ?restn78
          case hin78 => (simp only [List.getElem?_toArray, List.getElem?_cons_succ, List.getElem?_cons_zero]; exact rfl)
          case an78 => kernel_rfl
          case bn78 => kernel_rfl
          case cn78 => kernel_rfl
          case qn78 => exact fun _ _ _ h => h
          case dn78 => rfl
          case hyn78 => (intro z hSw; (try dsimp only at hSw); go_simp; (try with_reducible rfl))
          try simp only [Act.put, List.setIfInBounds_toArray, List.set_cons_zero, List.set_cons_succ]
          refine wpAnyH_take (i := 20) (oi := ?on79) (v := ?vn79) ?hin79 ?an79 ?bn79 ?cn79 ?qn79 (Or.inl ⟨?dn79, ?hyn79⟩) hHeld ?restn79
          case hin79 => (simp only [List.getElem?_toArray, List.getElem?_cons_succ, List.getElem?_cons_zero]; exact rfl)
          case an79 => kernel_rfl
          case bn79 => kernel_rfl
          case cn79 => kernel_rfl
          case qn79 => exact fun _ _ _ h => h
          case dn79 => rfl
          case hyn79 => (intro z hSw; (try dsimp only at hSw); go_simp; (try with_reducible rfl))
          try simp only [Act.put, List.setIfInBounds_toArray, List.set_cons_zero, List.set_cons_succ]
          refine wpAnyH_done (by kernel_rfl) ?_ _
          go_wp2_with fail
          go_ret2
          have hX := HX.out
          rw [lfF_7 HKS.out] at hX
          rw [← hX]
          exact ⟨_, _, _, rfl, fun _ => rdM_two (blk_new x4 _) (Strs.grew (HD.out.grew hx4) ((Grew.refl _).alloc _)) (Strs.grew hs0 ((Grew.refl _).alloc _)) (Strs.grew hs1 ((Grew.refl _).alloc _)) (Strs.grew (HB.out.grew (HG4.out.trans hx4)) ((Grew.refl _).alloc _)), HG4.out.trans (hx4.alloc _)⟩
        case restn72 =>
          intro K hK
          go_simp
          obtain ⟨x2, hwx2⟩ : ∃ W, W = x1.alloc (.cells #[.string (p2S m)] 9) := ⟨_, rfl⟩
          have hgx2 : Grew x1 x2 := by rw [hwx2]; exact (Grew.refl _).alloc _
          have hx2 : Grew w4 x2 := hx1.trans hgx2
          have hl1 : Strs x2 (.slice (some ⟨x1.heap.size, 0, none⟩) 1 1) [p2S m] := lit_str (t := 9) (by rw [hwx2]; exact blk_new x1 _) (Grew.refl _)
          try simp only [← hwx2]
          clear hwx2
          replace hl0 := hl0.grew hgx2
          refine hK.out _ _ ?_ (fun hHeld => ?_)
          · (try dsimp only); first | with_reducible assumption | exact hx2
          clear hK K
          try simp only [Act.put, List.setIfInBounds_toArray, List.set_cons_zero, List.set_cons_succ]
          refine wpAnyH_ready (rs := [7]) (by kernel_rfl) (by simp) ?_
          refine AllReadyH.cons (o := ?on80) ?hin80 ?restn80 AllReadyH.nil
          case hin80 => (simp only [List.getElem?_toArray, List.getElem?_cons_succ, List.getElem?_cons_zero]; exact rfl)
          intro K hK
          go_simp
          go_at_call 38
          refine (put_c _ _ R [p1S m] _ (HB.out.grew (HG4.out.trans hx2)) hl0 (by simp; omega)).mono ?_
          rintro e x3 ⟨u0, rfl, hu0, hgx3⟩
          have hx3 : Grew w4 x3 := hx2.trans hgx3
          obtain ⟨AU0, cU0, rfl⟩ := strs_slice hu0.strs
          have hs0 := hu0.strs
          clear hu0
          replace hl0 := hl0.grew hgx3
          replace hl1 := hl1.grew hgx3
          refine hK.out _ _ ?_ (fun hHeld => ?_)
          · (try dsimp only); first | with_reducible assumption | exact hx3
          clear hK K
          try simp only [Act.put, List.setIfInBounds_toArray, List.set_cons_zero, List.set_cons_succ]
          refine wpAnyH_take (i := 8) (oi := ?on81) (v := ?vn81) ?hin81 ?an81 ?bn81 ?cn81 ?qn81 (Or.inl ⟨?dn81, ?hyn81⟩) hHeld ?restn81
          case hin81 => (simp only [List.getElem?_toArray, List.getElem?_cons_succ, List.getElem?_cons_zero]; exact rfl)
          case an81 => kernel_rfl
          case bn81 => kernel_rfl
          case cn81 => kernel_rfl
          case qn81 => exact fun _ _ _ h => h
          case dn81 => rfl
          case hyn81 => (intro z hSw; (try dsimp only at hSw); go_simp; (try with_reducible rfl))
          try simp only [Act.put, List.setIfInBounds_toArray, List.set_cons_zero, List.set_cons_succ]
          refine wpAnyH_ready (rs := [14]) (by kernel_rfl) (by simp) ?_
          refine AllReadyH.cons (o := ?on82) ?hin82 ?restn82 AllReadyH.nil
          case hin82 => (simp only [List.getElem?_toArray, List.getElem?_cons_succ, List.getElem?_cons_zero]; exact rfl)
          intro K hK
          go_simp
          go_at_call 38
          refine (put_c _ _ (dropS L m) [p2S m] _ (HD.out.grew hx3) hl1 (by simp; omega)).mono ?_
          rintro e x4 ⟨u1, rfl, hu1, hgx4⟩
          have hx4 : Grew w4 x4 := hx3.trans hgx4
          obtain ⟨AU1, cU1, rfl⟩ := strs_slice hu1.strs
          have hs1 := hu1.strs
          clear hu1
          replace hl0 := hl0.grew hgx4
          replace hl1 := hl1.grew hgx4
          replace hs0 := hs0.grew hgx4
          refine hK.out _ _ ?_ (fun hHeld => ?_)
          · (try dsimp only); first | with_reducible assumption | exact hx4
          clear hK K
          try simp only [Act.put, List.setIfInBounds_toArray, List.set_cons_zero, List.set_cons_succ]
          refine wpAnyH_take (i := 17) (oi := ?on83) (v := ?vn83) ?hin83 ?an83 ?bn83 ?cn83 ?qn83 (Or.inl ⟨?dn83, ?hyn83⟩) hHeld ?restn83
          case hin83 => (simp only [List.getElem?_toArray, List.getElem?_cons_succ, List.getElem?_cons_zero]; exact rfl)
          case an83 => kernel_rfl
          case bn83 => kernel_rfl
          case cn83 => kernel_rfl
          case qn83 => exact fun _ _ _ h => h
          case dn83 => rfl
          case hyn83 => (intro z hSw; (try dsimp only at hSw); go_simp; (try with_reducible rfl))
          try simp only [Act.put, List.setIfInBounds_toArray, List.set_cons_zero, List.set_cons_succ]
          refine wpAnyH_ready (rs := [18]) (by kernel_rfl) (by simp) ?_
          refine AllReadyH.cons (o := ?on84) ?hin84 ?restn84 AllReadyH.nil
          case hin84 => (simp only [List.getElem?_toArray, List.getElem?_cons_succ, List.getElem?_cons_zero]; exact rfl)
          intro K hK
          go_simp
          refine hK.out _ _ ?_ (fun hHeld => ?_)
          · (try dsimp only); first | with_reducible assumption | exact (hx4.alloc _)
          clear hK K
          try simp only [Act.put, List.setIfInBounds_toArray, List.set_cons_zero, List.set_cons_succ]
          refine wpAnyH_take (i := 19) (oi := ?on85) (v := ?vn85) ?hin85 ?an85 ?bn85 ?cn85 ?qn85 (Or.inl ⟨?dn85, ?hyn85⟩) hHeld ?restn85
          case hin85 => (simp only [List.getElem?_toArray, List.getElem?_cons_succ, List.getElem?_cons_zero]; exact rfl)
          case an85 => kernel_rfl
          case bn85 => kernel_rfl
          case cn85 => kernel_rfl
          case qn85 => exact fun _ _ _ h => h
          case dn85 => rfl
          case hyn85 => (intro z hSw; (try dsimp only at hSw); go_simp; (try with_reducible rfl))
          try simp only [Act.put, List.setIfInBounds_toArray, List.set_cons_zero, List.set_cons_succ]
          refine wpAnyH_take (i := 20) (oi := ?on86) (v := ?vn86) ?hin86 ?an86 ?bn86 ?cn86 ?qn86 (Or.inl ⟨?dn86, ?hyn86⟩) hHeld ?restn86
          case hin86 => (simp only [List.getElem?_toArray, List.getElem?_cons_succ, List.getElem?_cons_zero]; exact rfl)
          case an86 => kernel_rfl
          case bn86 => kernel_rfl
          case cn86 => kernel_rfl
          case qn86 => exact fun _ _ _ h => h
          case dn86 => rfl
          case hyn86 => (intro z hSw; (try dsimp only at hSw); go_simp; (try with_reducible rfl))
          try simp only [Act.put, List.setIfInBounds_toArray, List.set_cons_zero, List.set_cons_succ]
          refine wpAnyH_done (by kernel_rfl) ?_ _
          go_wp2_with fail
          go_ret2
          have hX := HX.out
          rw [lfF_7 HKS.out] at hX
          rw [← hX]
          exact ⟨_, _, _, rfl, fun _ => rdM_two (blk_new x4 _) (Strs.grew (HD.out.grew hx4) ((Grew.refl _).alloc _)) (Strs.grew hs0 ((Grew.refl _).alloc _)) (Strs.grew hs1 ((Grew.refl _).alloc _)) (Strs.grew (HB.out.grew (HG4.out.trans hx4)) ((Grew.refl _).alloc _)), HG4.out.trans (hx4.alloc _)⟩
      case restn70 =>
        intro K hK
        go_simp
        obtain ⟨x1, hwx1⟩ : ∃ W, W = (w4.alloc (.cells #[.string (p2S m)] 9)).drew := ⟨_, rfl⟩
        have hgx1 : Grew w4 x1 := by rw [hwx1]; exact ((Grew.refl _).alloc _).drew
        have hx1 : Grew w4 x1 := hgx1
        have hl1 : Strs x1 (.slice (some ⟨w4.heap.size, 0, none⟩) 1 1) [p2S m] := lit_str (t := 9) (by rw [hwx1]; exact blk_new w4 _) (Grew.refl _)
        try simp only [← hwx1]
        clear hwx1
        refine hK.out _ _ ?_ (fun hHeld => ?_)
        · (try dsimp only); first | with_reducible assumption | exact hx1
        clear hK K
        try simp only [Act.put, List.setIfInBounds_toArray, List.set_cons_zero, List.set_cons_succ]
        refine wpAnyH_ready (rs := [6]) (by kernel_rfl) (by simp) ?_
        refine AllReadyH.cons (o := ?on87) ?hin87 ?restn87 AllReadyH.nil
        case hin87 => (simp only [List.getElem?_toArray, List.getElem?_cons_succ, List.getElem?_cons_zero]; exact rfl)
        intro K hK
        go_simp
        obtain ⟨x2, hwx2⟩ : ∃ W, W = x1.alloc (.cells #[.string (p1S m)] 9) := ⟨_, rfl⟩
        have hgx2 : Grew x1 x2 := by rw [hwx2]; exact (Grew.refl _).alloc _
        have hx2 : Grew w4 x2 := hx1.trans hgx2
        have hl0 : Strs x2 (.slice (some ⟨x1.heap.size, 0, none⟩) 1 1) [p1S m] := lit_str (t := 9) (by rw [hwx2]; exact blk_new x1 _) (Grew.refl _)
        try simp only [← hwx2]
        clear hwx2
        replace hl1 := hl1.grew hgx2
        refine hK.out _ _ ?_ (fun hHeld => ?_)
        · (try dsimp only); first | with_reducible assumption | exact hx2
        clear hK K
        try simp only [Act.put, List.setIfInBounds_toArray, List.set_cons_zero, List.set_cons_succ]
        refine wpAnyH_ready (rs := [7]) (by kernel_rfl) (by simp) ?_
        refine AllReadyH.cons (o := ?on88) ?hin88 ?restn88 AllReadyH.nil
        case hin88 => (simp only [List.getElem?_toArray, List.getElem?_cons_succ, List.getElem?_cons_zero]; exact rfl)
        intro K hK
        go_simp
        go_at_call 38
        refine (put_c _ _ R [p1S m] _ (HB.out.grew (HG4.out.trans hx2)) hl0 (by simp; omega)).mono ?_
        rintro e x3 ⟨u0, rfl, hu0, hgx3⟩
        have hx3 : Grew w4 x3 := hx2.trans hgx3
        obtain ⟨AU0, cU0, rfl⟩ := strs_slice hu0.strs
        have hs0 := hu0.strs
        clear hu0
        replace hl1 := hl1.grew hgx3
        replace hl0 := hl0.grew hgx3
        refine hK.out _ _ ?_ (fun hHeld => ?_)
        · (try dsimp only); first | with_reducible assumption | exact hx3
        clear hK K
        try simp only [Act.put, List.setIfInBounds_toArray, List.set_cons_zero, List.set_cons_succ]
        refine wpAnyH_take (i := 8) (oi := ?on89) (v := ?vn89) ?hin89 ?an89 ?bn89 ?cn89 ?qn89 (Or.inl ⟨?dn89, ?hyn89⟩) hHeld ?restn89
        case hin89 => (simp only [List.getElem?_toArray, List.getElem?_cons_succ, List.getElem?_cons_zero]; exact rfl)
        case an89 => kernel_rfl
        case bn89 => kernel_rfl
        case cn89 => kernel_rfl
        case qn89 => exact fun _ _ _ h => h
        case dn89 => rfl
        case hyn89 => (intro z hSw; (try dsimp only at hSw); go_simp; (try with_reducible rfl))
        try simp only [Act.put, List.setIfInBounds_toArray, List.set_cons_zero, List.set_cons_succ]
        refine wpAnyH_ready (rs := [14]) (by kernel_rfl) (by simp) ?_
        refine AllReadyH.cons (o := ?on90) ?hin90 ?restn90 AllReadyH.nil
        case hin90 => (simp only [List.getElem?_toArray, List.getElem?_cons_succ, List.getElem?_cons_zero]; exact rfl)
        intro K hK
        go_simp
        go_at_call 38
        refine (put_c _ _ (dropS L m) [p2S m] _ (HD.out.grew hx3) hl1 (by simp; omega)).mono ?_
        rintro e x4 ⟨u1, rfl, hu1, hgx4⟩
        have hx4 : Grew w4 x4 := hx3.trans hgx4
        obtain ⟨AU1, cU1, rfl⟩ := strs_slice hu1.strs
        have hs1 := hu1.strs
        clear hu1
        replace hl1 := hl1.grew hgx4
        replace hl0 := hl0.grew hgx4
        replace hs0 := hs0.grew hgx4
        refine hK.out _ _ ?_ (fun hHeld => ?_)
        · (try dsimp only); first | with_reducible assumption | exact hx4
        clear hK K
        try simp only [Act.put, List.setIfInBounds_toArray, List.set_cons_zero, List.set_cons_succ]
        refine wpAnyH_take (i := 17) (oi := ?on91) (v := ?vn91) ?hin91 ?an91 ?bn91 ?cn91 ?qn91 (Or.inl ⟨?dn91, ?hyn91⟩) hHeld ?restn91
        case hin91 => (simp only [List.getElem?_toArray, List.getElem?_cons_succ, List.getElem?_cons_zero]; exact rfl)
        case an91 => kernel_rfl
        case bn91 => kernel_rfl
        case cn91 => kernel_rfl
        case qn91 => exact fun _ _ _ h => h
        case dn91 => rfl
        case hyn91 => (intro z hSw; (try dsimp only at hSw); go_simp; (try with_reducible rfl))
        try simp only [Act.put, List.setIfInBounds_toArray, List.set_cons_zero, List.set_cons_succ]
        refine wpAnyH_ready (rs := [18]) (by kernel_rfl) (by simp) ?_
        refine AllReadyH.cons (o := ?on92) ?hin92 ?restn92 AllReadyH.nil
        case hin92 => (simp only [List.getElem?_toArray, List.getElem?_cons_succ, List.getElem?_cons_zero]; exact rfl)
        intro K hK
        go_simp
        refine hK.out _ _ ?_ (fun hHeld => ?_)
        · (try dsimp only); first | with_reducible assumption | exact (hx4.alloc _)
        clear hK K
        try simp only [Act.put, List.setIfInBounds_toArray, List.set_cons_zero, List.set_cons_succ]
        refine wpAnyH_take (i := 19) (oi := ?on93) (v := ?vn93) ?hin93 ?an93 ?bn93 ?cn93 ?qn93 (Or.inl ⟨?dn93, ?hyn93⟩) hHeld ?restn93
        case hin93 => (simp only [List.getElem?_toArray, List.getElem?_cons_succ, List.getElem?_cons_zero]; exact rfl)
        case an93 => kernel_rfl
        case bn93 => kernel_rfl
        case cn93 => kernel_rfl
        case qn93 => exact fun _ _ _ h => h
        case dn93 => rfl
        case hyn93 => (intro z hSw; (try dsimp only at hSw); go_simp; (try with_reducible rfl))
        try simp only [Act.put, List.setIfInBounds_toArray, List.set_cons_zero, List.set_cons_succ]
        refine wpAnyH_take (i := 20) (oi := ?on94) (v := ?vn94) ?hin94 ?an94 ?bn94 ?cn94 ?qn94 (Or.inl ⟨?dn94, ?hyn94⟩) hHeld ?restn94
        case hin94 => (simp only [List.getElem?_toArray, List.getElem?_cons_succ, List.getElem?_cons_zero]; exact rfl)
        case an94 => kernel_rfl
        case bn94 => kernel_rfl
        case cn94 => kernel_rfl
        case qn94 => exact fun _ _ _ h => h
        case dn94 => rfl
        case hyn94 => (intro z hSw; (try dsimp only at hSw); go_simp; (try with_reducible rfl))
        try simp only [Act.put, List.setIfInBounds_toArray, List.set_cons_zero, List.set_cons_succ]
        refine wpAnyH_done (by kernel_rfl) ?_ _
        go_wp2_with fail
        go_ret2
        have hX := HX.out
        rw [lfF_7 HKS.out] at hX
        rw [← hX]
        exact ⟨_, _, _, rfl, fun _ => rdM_two (blk_new x4 _) (Strs.grew (HD.out.grew hx4) ((Grew.refl _).alloc _)) (Strs.grew hs0 ((Grew.refl _).alloc _)) (Strs.grew hs1 ((Grew.refl _).alloc _)) (Strs.grew (HB.out.grew (HG4.out.trans hx4)) ((Grew.refl _).alloc _)), HG4.out.trans (hx4.alloc _)⟩
    · have hkb : (kk == 4) = false := by simpa using hk
      go_wp2_with fail
      go_ret2
      have hX := HX.out
      rw [lfF_7n (by rw [HKS.out]; exact hk)] at hX
      rw [← hX]
      exact ⟨_, _, _, rfl, (fun h => by cases h), HG4.out⟩
  by_cases h9 : r = 9
  · subst h9
    by_cases hk : kk = 5
    · subst hk
      obtain rfl : pt = [p1S m] := by have := HP.out; simpa using this
      obtain ⟨bp, op, cp, hpv, hcp, hcp2, hbp, hp1c⟩ := strs_one HPr.out
      obtain ⟨rfl, rfl⟩ : A4 = some ⟨bp, op, none⟩ ∧ c4 = cp := by simpa using hpv
      clear hpv
      have KR := Lib.hid (fun W => isReflexive_c lg W)
      go_wp2_with fail
      refine (KR.out _).mono ?_
      rintro e w5 ⟨rfl, hg5⟩
      cases hrf : rfx lg with
      | false =>
        go_wp2_with fail
        go_ret2
        have hX := HX.out
        rw [lfF_9r hrf] at hX
        rw [← hX]
        exact ⟨_, _, _, rfl, (fun h => by cases h), HG4.out.trans hg5⟩
      | true =>
      obtain ⟨w6, hw6⟩ : ∃ W, W = w5 := ⟨_, rfl⟩
      have HGG := Lib.hid (HG4.out.trans hg5)
      have HDD := Lib.hid (HD.out.grew hg5)
      have HPP := Lib.hid (HPr.out.grew hg5)
      have qq0 := fun W (hW : Grew w5 W) => q0 W (hg5.trans hW)
      have qq1 := fun W (hW : Grew w5 W) => q1 W (hg5.trans hW)
      have hpp1 := fun W (hW : Grew w5 W) => hp1c W (hg5.trans hW)
      have hrr := Grew.refl w5
      have hdd := hrr.drew
      clear w6 hw6 hg5 HG4 HD HPr q0 q1 hp1c hr4 hd4 hk4 kk0 h4
      go_wp2_with fail
      refine wp_region_held_drew (S := fun w' => Grew w5 w') (by kernel_rfl) hdd (fun hHeld => ?_)
      refine wpAnyH_take (i := 0) (oi := ?on95) (v := ?vn95) ?hin95 ?an95 ?bn95 ?cn95 ?qn95 (Or.inl ⟨?dn95, ?hyn95⟩) hHeld ?restn95
      case hin95 => (simp only [List.getElem?_toArray, List.getElem?_cons_zero]; exact rfl)
      case an95 => kernel_rfl
      case bn95 => kernel_rfl
      case cn95 => kernel_rfl
      case qn95 => exact fun _ _ _ h => h
      case dn95 => rfl
      case hyn95 => (intro z hSw; (try dsimp only at hSw); go_simp; (try with_reducible rfl))
      try simp only [Act.put, List.setIfInBounds_toArray, List.set_cons_zero, List.set_cons_succ]
      refine wpAnyH_take (i := 1) (oi := ?on96) (v := ?vn96) ?hin96 ?an96 ?bn96 ?cn96 ?qn96 (Or.inl ⟨?dn96, ?hyn96⟩) hHeld ?restn96
      case hin96 => (simp only [List.getElem?_toArray, List.getElem?_cons_succ, List.getElem?_cons_zero]; exact rfl)
      case an96 => kernel_rfl
      case bn96 => kernel_rfl
      case cn96 => kernel_rfl
      case qn96 => exact fun _ _ _ h => h
      case dn96 => rfl
      case hyn96 => (intro z hSw; (try dsimp only at hSw); go_simp; (try with_reducible rfl))
      try simp only [Act.put, List.setIfInBounds_toArray, List.set_cons_zero, List.set_cons_succ]
      refine wpAnyH_take (i := 2) (oi := ?on97) (v := ?vn97) ?hin97 ?an97 ?bn97 ?cn97 ?qn97 (Or.inl ⟨?dn97, ?hyn97⟩) hHeld ?restn97
      case hin97 => (simp only [List.getElem?_toArray, List.getElem?_cons_succ, List.getElem?_cons_zero]; exact rfl)
      case an97 => kernel_rfl
      case bn97 => kernel_rfl
      case cn97 => kernel_rfl
      case qn97 => exact fun _ _ _ h => h
      case dn97 => rfl
      case hyn97 => (intro z hSw; (try dsimp only at hSw); go_simp; (try with_reducible rfl))
      try simp only [Act.put, List.setIfInBounds_toArray, List.set_cons_zero, List.set_cons_succ]
      refine wpAnyH_take (i := 3) (oi := ?on98) (v := ?vn98) ?hin98 ?an98 ?bn98 ?cn98 ?qn98 (Or.inl ⟨?dn98, ?hyn98⟩) hHeld ?restn98
      case hin98 => (simp only [List.getElem?_toArray, List.getElem?_cons_succ, List.getElem?_cons_zero]; exact rfl)
      case an98 => kernel_rfl
      case bn98 => kernel_rfl
      case cn98 => kernel_rfl
      case qn98 => exact fun _ _ _ h => h
      case dn98 => rfl
      case hyn98 => (intro z hSw; (try dsimp only at hSw); go_simp; (try with_reducible rfl))
      try simp only [Act.put, List.setIfInBounds_toArray, List.set_cons_zero, List.set_cons_succ]
      refine wpAnyH_take (i := 4) (oi := ?on99) (v := ?vn99) ?hin99 ?an99 ?bn99 ?cn99 ?qn99 (Or.inl ⟨?dn99, ?hyn99⟩) hHeld ?restn99
      case hin99 => (simp only [List.getElem?_toArray, List.getElem?_cons_succ, List.getElem?_cons_zero]; exact rfl)
      case an99 => kernel_rfl
      case bn99 => kernel_rfl
      case cn99 => kernel_rfl
      case qn99 => exact fun _ _ _ h => h
      case dn99 => rfl
      case hyn99 => (intro z hSw; (try dsimp only at hSw); go_simp; (try with_reducible rfl))
      try simp only [Act.put, List.setIfInBounds_toArray, List.set_cons_zero, List.set_cons_succ]
      refine wpAnyH_take (i := 7) (oi := ?on100) (v := ?vn100) ?hin100 ?an100 ?bn100 ?cn100 ?qn100 (Or.inl ⟨?dn100, ?hyn100⟩) hHeld ?restn100
      case hin100 => (simp only [List.getElem?_toArray, List.getElem?_cons_succ, List.getElem?_cons_zero]; exact rfl)
      case an100 => kernel_rfl
      case bn100 => kernel_rfl
      case cn100 => kernel_rfl
      case qn100 => exact fun _ _ _ h => h
      case dn100 => rfl
      case hyn100 => (intro z hSw; (try dsimp only at hSw); go_simp; (try with_reducible rfl))
      try simp only [Act.put, List.setIfInBounds_toArray, List.set_cons_zero, List.set_cons_succ]
      refine wpAnyH_take (i := 8) (oi := ?on101) (v := ?vn101) ?hin101 ?an101 ?bn101 ?cn101 ?qn101 (Or.inl ⟨?dn101, ?hyn101⟩) hHeld ?restn101
      case hin101 => (simp only [List.getElem?_toArray, List.getElem?_cons_succ, List.getElem?_cons_zero]; exact rfl)
      case an101 => kernel_rfl
      case bn101 => kernel_rfl
      case cn101 => kernel_rfl
      case qn101 => exact fun _ _ _ h => h
      case dn101 => rfl
      case hyn101 => (intro z hSw; (try dsimp only at hSw); go_simp; (try with_reducible rfl))
      try simp only [Act.put, List.setIfInBounds_toArray, List.set_cons_zero, List.set_cons_succ]
      refine wpAnyH_ready (rs := [5]) (by kernel_rfl) (by simp) ?_
      refine AllReadyH.cons (o := ?on102) ?hin102 ?restn102 AllReadyH.nil
      case hin102 => (simp only [List.getElem?_toArray, List.getElem?_cons_succ, List.getElem?_cons_zero]; exact rfl)
      intro K hK
      go_simp
      obtain ⟨x1, hwx1⟩ : ∃ W, W = (w5.alloc (.cells #[.string (p1S m)] 9)).drew := ⟨_, rfl⟩
      have hgx1 : Grew w5 x1 := by rw [hwx1]; exact ((Grew.refl _).alloc _).drew
      have hx1 : Grew w5 x1 := hgx1
      have hl0 : Strs x1 (.slice (some ⟨w5.heap.size, 0, none⟩) 1 1) [p1S m] := lit_str (t := 9) (by rw [hwx1]; exact blk_new w5 _) (Grew.refl _)
      try simp only [← hwx1]
      clear hwx1
      refine hK.out _ _ ?_ (fun hHeld => ?_)
      · (try dsimp only); first | with_reducible assumption | exact hx1
      clear hK K
      try simp only [Act.put, List.setIfInBounds_toArray, List.set_cons_zero, List.set_cons_succ]
      refine wpAnyH_ready (rs := [6]) (by kernel_rfl) (by simp) ?_
      refine AllReadyH.cons (o := ?on103) ?hin103 ?restn103 AllReadyH.nil
      case hin103 => (simp only [List.getElem?_toArray, List.getElem?_cons_succ, List.getElem?_cons_zero]; exact rfl)
      intro K hK
      go_simp
      go_at_call 38
      refine (put_c _ _ L [p1S m] _ (HA.out.grew (HGG.out.trans hx1)) hl0 (by simp; omega)).mono ?_
      rintro e x2 ⟨u0, rfl, hu0, hgx2⟩
      have hx2 : Grew w5 x2 := hx1.trans hgx2
      obtain ⟨AU0, cU0, rfl⟩ := strs_slice hu0.strs
      have hs0 := hu0.strs
      clear hu0
      replace hl0 := hl0.grew hgx2
      refine hK.out _ _ ?_ (fun hHeld => ?_)
      · (try dsimp only); first | with_reducible assumption | exact hx2
      clear hK K
      try simp only [Act.put, List.setIfInBounds_toArray, List.set_cons_zero, List.set_cons_succ]
      refine wpAnyH_take (i := 9) (oi := ?on104) (v := ?vn104) ?hin104 ?an104 ?bn104 ?cn104 ?qn104 (Or.inl ⟨?dn104, ?hyn104⟩) hHeld ?restn104
      case hin104 => (simp only [List.getElem?_toArray, List.getElem?_cons_succ, List.getElem?_cons_zero]; exact rfl)
      case an104 => kernel_rfl
      case bn104 => kernel_rfl
      case cn104 => kernel_rfl
      case qn104 => exact fun _ _ _ h => h
      case dn104 => rfl
      case hyn104 => (intro z hSw; (try dsimp only at hSw); go_simp; (try with_reducible rfl))
      try simp only [Act.put, List.setIfInBounds_toArray, List.set_cons_zero, List.set_cons_succ]
      refine wpAnyH_ready (rs := [10]) (by kernel_rfl) (by simp) ?_
      refine AllReadyH.cons (o := ?on105) ?hin105 ?restn105 AllReadyH.nil
      case hin105 => (simp only [List.getElem?_toArray, List.getElem?_cons_succ, List.getElem?_cons_zero]; exact rfl)
      intro K hK
      go_simp
      refine hK.out _ _ ?_ (fun hHeld => ?_)
      · (try dsimp only); first | with_reducible assumption | exact (hx2.alloc _)
      clear hK K
      try simp only [Act.put, List.setIfInBounds_toArray, List.set_cons_zero, List.set_cons_succ]
      refine wpAnyH_take (i := 11) (oi := ?on106) (v := ?vn106) ?hin106 ?an106 ?bn106 ?cn106 ?qn106 (Or.inl ⟨?dn106, ?hyn106⟩) hHeld ?restn106
      case hin106 => (simp only [List.getElem?_toArray, List.getElem?_cons_succ, List.getElem?_cons_zero]; exact rfl)
      case an106 => kernel_rfl
      case bn106 => kernel_rfl
      case cn106 => kernel_rfl
      case qn106 => exact fun _ _ _ h => h
      case dn106 => rfl
      case hyn106 => (intro z hSw; (try dsimp only at hSw); go_simp; (try with_reducible rfl))
      try simp only [Act.put, List.setIfInBounds_toArray, List.set_cons_zero, List.set_cons_succ]
      refine wpAnyH_take (i := 12) (oi := ?on107) (v := ?vn107) ?hin107 ?an107 ?bn107 ?cn107 ?qn107 (Or.inl ⟨?dn107, ?hyn107⟩) hHeld ?restn107
      case hin107 => (simp only [List.getElem?_toArray, List.getElem?_cons_succ, List.getElem?_cons_zero]; exact rfl)
      case an107 => kernel_rfl
      case bn107 => kernel_rfl
      case cn107 => kernel_rfl
      case qn107 => exact fun _ _ _ h => h
      case dn107 => rfl
      case hyn107 => (intro z hSw; (try dsimp only at hSw); go_simp; (try with_reducible rfl))
      try simp only [Act.put, List.setIfInBounds_toArray, List.set_cons_zero, List.set_cons_succ]
      refine wpAnyH_done (by kernel_rfl) ?_ _
      go_wp2_with fail
      go_ret2
      have hX := HX.out
      rw [lfF_9 HKS.out hrf] at hX
      rw [← hX]
      exact ⟨_, _, _, rfl, fun _ => rdM_one (blk_new x2 _) (Strs.grew hs0 ((Grew.refl _).alloc _)) (Strs.grew (HB.out.grew (HGG.out.trans hx2)) ((Grew.refl _).alloc _)), HGG.out.trans (hx2.alloc _)⟩
    · have hkb : (kk == 5) = false := by simpa using hk
      go_wp2_with fail
      go_ret2
      have hX := HX.out
      rw [lfF_9n (by rw [HKS.out]; exact hk)] at hX
      rw [← hX]
      exact ⟨_, _, _, rfl, (fun h => by cases h), HG4.out⟩
  by_cases h11 : r = 11
  · subst h11
    by_cases hk : kk = 6
    · subst hk
      obtain rfl : pt = [p1S m] := by have := HP.out; simpa using this
      obtain ⟨bp, op, cp, hpv, hcp, hcp2, hbp, hp1c⟩ := strs_one HPr.out
      obtain ⟨rfl, rfl⟩ : A4 = some ⟨bp, op, none⟩ ∧ c4 = cp := by simpa using hpv
      clear hpv
      go_wp2_with fail
      refine wp_region_held_drew (S := fun w' => Grew w4 w') (by kernel_rfl) hd4 (fun hHeld => ?_)
      refine wpAnyH_take (i := 0) (oi := ?on108) (v := ?vn108) ?hin108 ?an108 ?bn108 ?cn108 ?qn108 (Or.inl ⟨?dn108, ?hyn108⟩) hHeld ?restn108
      case hin108 => (simp only [List.getElem?_toArray, List.getElem?_cons_zero]; exact rfl)
      case an108 => kernel_rfl
      case bn108 => kernel_rfl
      case cn108 => kernel_rfl
      case qn108 => exact fun _ _ _ h => h
      case dn108 => rfl
      case hyn108 => (intro z hSw; (try dsimp only at hSw); go_simp; (try with_reducible rfl))
      try simp only [Act.put, List.setIfInBounds_toArray, List.set_cons_zero, List.set_cons_succ]
      refine wpAnyH_take (i := 1) (oi := ?on109) (v := ?vn109) ?hin109 ?an109 ?bn109 ?cn109 ?qn109 (Or.inl ⟨?dn109, ?hyn109⟩) hHeld ?restn109
      case hin109 => (simp only [List.getElem?_toArray, List.getElem?_cons_succ, List.getElem?_cons_zero]; exact rfl)
      case an109 => kernel_rfl
      case bn109 => kernel_rfl
      case cn109 => kernel_rfl
      case qn109 => exact fun _ _ _ h => h
      case dn109 => rfl
      case hyn109 => (intro z hSw; (try dsimp only at hSw); go_simp; (try with_reducible rfl))
      try simp only [Act.put, List.setIfInBounds_toArray, List.set_cons_zero, List.set_cons_succ]
      refine wpAnyH_take (i := 2) (oi := ?on110) (v := ?vn110) ?hin110 ?an110 ?bn110 ?cn110 ?qn110 (Or.inl ⟨?dn110, ?hyn110⟩) hHeld ?restn110
      case hin110 => (simp only [List.getElem?_toArray, List.getElem?_cons_succ, List.getElem?_cons_zero]; exact rfl)
      case an110 => kernel_rfl
      case bn110 => kernel_rfl
      case cn110 => kernel_rfl
      case qn110 => exact fun _ _ _ h => h
      case dn110 => rfl
      case hyn110 => (intro z hSw; (try dsimp only at hSw); go_simp; (try with_reducible rfl))
      try simp only [Act.put, List.setIfInBounds_toArray, List.set_cons_zero, List.set_cons_succ]
      refine wpAnyH_ready (rs := [3]) (by kernel_rfl) (by simp) ?_
      refine AllReadyH.cons (o := ?on111) ?hin111 ?restn111 AllReadyH.nil
      case hin111 => (simp only [List.getElem?_toArray, List.getElem?_cons_succ, List.getElem?_cons_zero]; exact rfl)
      intro K hK
      go_simp
      go_at_call 56
      refine (KT.out _ (HG4.out.trans hd4)).mono ?_
      rintro e x1 ⟨rfl, hgx1⟩
      have hx1 : Grew w4 x1 := hd4.trans hgx1
      refine hK.out _ _ ?_ (fun hHeld => ?_)
      · (try dsimp only); first | with_reducible assumption | exact hx1
      clear hK K
      try simp only [Act.put, List.setIfInBounds_toArray, List.set_cons_zero, List.set_cons_succ]
      refine wpAnyH_ready (rs := [4]) (by kernel_rfl) (by simp) ?_
      refine AllReadyH.cons (o := ?on112) ?hin112 ?restn112 AllReadyH.nil
      case hin112 => (simp only [List.getElem?_toArray, List.getElem?_cons_succ, List.getElem?_cons_zero]; exact rfl)
      intro K hK
      go_simp
      go_at_call 37
      refine (KM.out _ (HG4.out.trans hx1) (by simp)).mono ?_
      rintro e x2 ⟨B1, m1, d1, B2, m2, d2, rfl, hs0, hs1, hgx2⟩
      have hx2 : Grew w4 x2 := hx1.trans hgx2
      refine hK.out _ _ ?_ (fun hHeld => ?_)
      · (try dsimp only); first | with_reducible assumption | exact hx2
      clear hK K
      try simp only [Act.put, List.setIfInBounds_toArray, List.set_cons_zero, List.set_cons_succ]
      refine wpAnyH_ready (rs := [5]) (by kernel_rfl) (by simp) ?_
      refine AllReadyH.cons (o := ?on113) ?hin113 ?restn113 AllReadyH.nil
      case hin113 => (simp only [List.getElem?_toArray, List.getElem?_cons_succ, List.getElem?_cons_zero]; exact rfl)
      intro K hK
      go_simp
      refine hK.out _ _ ?_ (fun hHeld => ?_)
      · (try dsimp only); first | with_reducible assumption | exact (hx2.alloc _)
      clear hK K
      try simp only [Act.put, List.setIfInBounds_toArray, List.set_cons_zero, List.set_cons_succ]
      refine wpAnyH_take (i := 6) (oi := ?on114) (v := ?vn114) ?hin114 ?an114 ?bn114 ?cn114 ?qn114 (Or.inl ⟨?dn114, ?hyn114⟩) hHeld ?restn114
      case hin114 => (simp only [List.getElem?_toArray, List.getElem?_cons_succ, List.getElem?_cons_zero]; exact rfl)
      case an114 => kernel_rfl
      case bn114 => kernel_rfl
      case cn114 => kernel_rfl
      case qn114 => exact fun _ _ _ h => h
      case dn114 => rfl
      case hyn114 => (intro z hSw; (try dsimp only at hSw); go_simp; (try with_reducible rfl))
      try simp only [Act.put, List.setIfInBounds_toArray, List.set_cons_zero, List.set_cons_succ]
      refine wpAnyH_take (i := 7) (oi := ?on115) (v := ?vn115) ?hin115 ?an115 ?bn115 ?cn115 ?qn115 (Or.inl ⟨?dn115, ?hyn115⟩) hHeld ?restn115
      case hin115 => (simp only [List.getElem?_toArray, List.getElem?_cons_succ, List.getElem?_cons_zero]; exact rfl)
      case an115 => kernel_rfl
      case bn115 => kernel_rfl
      case cn115 => kernel_rfl
      case qn115 => exact fun _ _ _ h => h
      case dn115 => rfl
      case hyn115 => (intro z hSw; (try dsimp only at hSw); go_simp; (try with_reducible rfl))
      try simp only [Act.put, List.setIfInBounds_toArray, List.set_cons_zero, List.set_cons_succ]
      refine wpAnyH_done (by kernel_rfl) ?_ _
      go_wp2_with fail
      go_ret2
      have hX := HX.out
      rw [lfF_11 HKS.out] at hX
      rw [← hX]
      exact ⟨_, _, _, rfl, fun _ => rdM_one (blk_new x2 _) (Strs.grew hs0 ((Grew.refl _).alloc _)) (Strs.grew hs1 ((Grew.refl _).alloc _)), HG4.out.trans (hx2.alloc _)⟩
    · have hkb : (kk == 6) = false := by simpa using hk
      go_wp2_with fail
      go_ret2
      have hX := HX.out
      rw [lfF_11n (by rw [HKS.out]; exact hk)] at hX
      rw [← hX]
      exact ⟨_, _, _, rfl, (fun h => by cases h), HG4.out⟩
  have hb3 : (r == 3) = false := by simpa using h3
  have hb5 : (r == 5) = false := by simpa using h5
  have hb7 : (r == 7) = false := by simpa using h7
  have hb9 : (r == 9) = false := by simpa using h9
  have hb11 : (r == 11) = false := by simpa using h11
  go_wp2_with fail
  go_ret2
  have hX := HX.out
  rw [lfF_o h3 h5 h7 h9 h11] at hX
  rw [← hX]
  exact ⟨_, _, _, rfl, (fun h => by cases h), HG4.out⟩
end Go.Proofs.YtjcehejnolbkgaaGreat

/- rightPremises of the program. -/
namespace Go.Proofs.YtjcehejnolbkgaaGreat
open Go.RowKit
open Fm (Nd Tree)

theorem rgF_4 {lg m : ByteArray} {L R : List ByteArray} (hk : kS m = 2) : rgF lg 4 L R m = ([(L, putS (dropS R m ++ [p1S m])), (L, putS (dropS R m ++ [p2S m]))], true) := by
  unfold rgF
  rw [if_pos ⟨rfl, hk⟩]
theorem rgF_4n {lg m : ByteArray} {L R : List ByteArray} (hk : ¬ kS m = 2) : rgF lg 4 L R m = ([], false) := by
  unfold rgF
  rw [if_neg (by rintro ⟨h, h2⟩; exact hk h2)]
  rw [if_neg (by rintro ⟨h, h2⟩; exact absurd h (by decide))]
  rw [if_neg (by rintro ⟨h, h2⟩; exact absurd h (by decide))]
  rw [if_neg (by rintro ⟨h, h2, _⟩; exact absurd h (by decide))]
  rw [if_neg (by rintro ⟨h, h2⟩; exact absurd h (by decide))]
theorem rgF_6 {lg m : ByteArray} {L R : List ByteArray} (hk : kS m = 3) : rgF lg 6 L R m = ([(L, putS (dropS R m ++ [p1S m, p2S m]))], true) := by
  unfold rgF
  rw [if_neg (by rintro ⟨h, _⟩; exact absurd h (by decide))]
  rw [if_pos ⟨rfl, hk⟩]
theorem rgF_6n {lg m : ByteArray} {L R : List ByteArray} (hk : ¬ kS m = 3) : rgF lg 6 L R m = ([], false) := by
  unfold rgF
  rw [if_neg (by rintro ⟨h, h2⟩; exact absurd h (by decide))]
  rw [if_neg (by rintro ⟨h, h2⟩; exact hk h2)]
  rw [if_neg (by rintro ⟨h, h2⟩; exact absurd h (by decide))]
  rw [if_neg (by rintro ⟨h, h2, _⟩; exact absurd h (by decide))]
  rw [if_neg (by rintro ⟨h, h2⟩; exact absurd h (by decide))]
theorem rgF_8 {lg m : ByteArray} {L R : List ByteArray} (hk : kS m = 4) : rgF lg 8 L R m = ([(putS (L ++ [p1S m]), putS (dropS R m ++ [p2S m]))], true) := by
  unfold rgF
  rw [if_neg (by rintro ⟨h, _⟩; exact absurd h (by decide))]
  rw [if_neg (by rintro ⟨h, _⟩; exact absurd h (by decide))]
  rw [if_pos ⟨rfl, hk⟩]
theorem rgF_8n {lg m : ByteArray} {L R : List ByteArray} (hk : ¬ kS m = 4) : rgF lg 8 L R m = ([], false) := by
  unfold rgF
  rw [if_neg (by rintro ⟨h, h2⟩; exact absurd h (by decide))]
  rw [if_neg (by rintro ⟨h, h2⟩; exact absurd h (by decide))]
  rw [if_neg (by rintro ⟨h, h2⟩; exact hk h2)]
  rw [if_neg (by rintro ⟨h, h2, _⟩; exact absurd h (by decide))]
  rw [if_neg (by rintro ⟨h, h2⟩; exact absurd h (by decide))]
theorem rgF_10 {lg m : ByteArray} {L R : List ByteArray} (hk : kS m = 6) (hr : rfx lg = true) : rgF lg 10 L R m = ([(L, putS (R ++ [p1S m]))], true) := by
  unfold rgF
  rw [if_neg (by rintro ⟨h, _⟩; exact absurd h (by decide))]
  rw [if_neg (by rintro ⟨h, _⟩; exact absurd h (by decide))]
  rw [if_neg (by rintro ⟨h, _⟩; exact absurd h (by decide))]
  rw [if_pos ⟨rfl, hk, hr⟩]
theorem rgF_10n {lg m : ByteArray} {L R : List ByteArray} (hk : ¬ kS m = 6) : rgF lg 10 L R m = ([], false) := by
  unfold rgF
  rw [if_neg (by rintro ⟨h, h2⟩; exact absurd h (by decide))]
  rw [if_neg (by rintro ⟨h, h2⟩; exact absurd h (by decide))]
  rw [if_neg (by rintro ⟨h, h2⟩; exact absurd h (by decide))]
  rw [if_neg (by rintro ⟨h, h2, _⟩; exact hk h2)]
  rw [if_neg (by rintro ⟨h, h2⟩; exact absurd h (by decide))]
theorem rgF_10r {lg m : ByteArray} {L R : List ByteArray} (hr : rfx lg = false) : rgF lg 10 L R m = ([], false) := by
  unfold rgF
  rw [if_neg (by rintro ⟨h, _⟩; exact absurd h (by decide))]
  rw [if_neg (by rintro ⟨h, _⟩; exact absurd h (by decide))]
  rw [if_neg (by rintro ⟨h, _⟩; exact absurd h (by decide))]
  rw [if_neg (by rintro ⟨_, _, h⟩; rw [hr] at h; cases h)]
  rw [if_neg (by rintro ⟨h, _⟩; exact absurd h (by decide))]
theorem rgF_11 {lg m : ByteArray} {L R : List ByteArray} (hk : kS m = 5) : rgF lg 11 L R m = ([mpF lg L R m], true) := by
  unfold rgF
  rw [if_neg (by rintro ⟨h, _⟩; exact absurd h (by decide))]
  rw [if_neg (by rintro ⟨h, _⟩; exact absurd h (by decide))]
  rw [if_neg (by rintro ⟨h, _⟩; exact absurd h (by decide))]
  rw [if_neg (by rintro ⟨h, _⟩; exact absurd h (by decide))]
  rw [if_pos ⟨rfl, hk⟩]
theorem rgF_11n {lg m : ByteArray} {L R : List ByteArray} (hk : ¬ kS m = 5) : rgF lg 11 L R m = ([], false) := by
  unfold rgF
  rw [if_neg (by rintro ⟨h, h2⟩; exact absurd h (by decide))]
  rw [if_neg (by rintro ⟨h, h2⟩; exact absurd h (by decide))]
  rw [if_neg (by rintro ⟨h, h2⟩; exact absurd h (by decide))]
  rw [if_neg (by rintro ⟨h, h2, _⟩; exact absurd h (by decide))]
  rw [if_neg (by rintro ⟨h, h2⟩; exact hk h2)]
theorem rgF_o {lg m : ByteArray} {L R : List ByteArray} {r : Int} (h4 : ¬ r = 4) (h6 : ¬ r = 6) (h8 : ¬ r = 8) (h10 : ¬ r = 10) (h11 : ¬ r = 11) : rgF lg r L R m = ([], false) := by
  unfold rgF
  rw [if_neg (fun h => h4 h.1)]
  rw [if_neg (fun h => h6 h.1)]
  rw [if_neg (fun h => h8 h.1)]
  rw [if_neg (fun h => h10 h.1)]
  rw [if_neg (fun h => h11 h.1)]

set_option maxHeartbeats 8000000 in
set_option maxRecDepth 8192 in
theorem rightPremises_c (lg m : ByteArray) (r : Int) (va vb vn : Value) (L R : List ByteArray) (w : World) (ha : Strs w va L) (hb : Strs w vb R) (hn : Nodes w vn (Fm.enc (fg m))) (hgL : ∀ i, i < L.length → gd (st L i) = true) (hgR : ∀ i, i < R.length → gd (st R i) = true) (hFL : Fits L) (hFR : Fits R) (hnL : L.length ≤ 16) (hnR : R.length ≤ 16)
    (hm : gd m = true) (hmz : m.size ≤ 1048576) :
    Calls Tryz.prog 42 #[.string lg, .int .i64 r, .agg #[va, vb], vn] w (GivesPm w (rgF lg r L R m)) := by
  obtain ⟨e1, e2, e3⟩ := fg_ok hm
  have KT := Lib.hid (fun W (hW : Grew w W) => show Calls Tryz.prog 56 #[vn] W (fun e w' => e = .returned (.string m) ∧ Grew W w') from (text0_c (fg m) vn W (hn.grew hW) (by omega)).mono fun e w' (h : _ ∧ _) => ⟨h.1.trans (by rw [show bs (Fm.txt (fg m) 0) = m from e2]), h.2⟩)
  have KP := Lib.hid (fun W (hW : Grew w W) => partTexts_g vn (fg m) W (hn.grew hW) e3)
  have KD := Lib.hid (fun W (hW : Grew w W) => drop_c vb R m W (hb.grew hW) (by omega))
  have KM := Lib.hid (fun W (hW : Grew w W) hk => modalPremise_c lg m va vb L R W (ha.grew hW) (hb.grew hW) hgL hgR hFL hFR (by omega) (by omega) (.inr ⟨hm, hk, hmz⟩))
  have HA := Lib.hid ha
  have HB := Lib.hid hb
  have hdl : (dropS R m).length ≤ 16 := Nat.le_trans (List.length_filter_le _ _) hnR
  have HK : Hid (kS m = kindOf (fg m)) := Lib.hid rfl
  have HP : Hid (ptL (fg m) = if kS m = 2 ∨ kS m = 3 ∨ kS m = 4 then [p1S m, p2S m] else if kS m = 5 ∨ kS m = 6 then [p1S m] else []) := Lib.hid rfl
  obtain ⟨ba, oa, ca, rfl, hca, hcm, hk0⟩ := nodes_head hn
  obtain ⟨A1, c1, rfl⟩ := strs_slice ha
  obtain ⟨A2, c2, rfl⟩ := strs_slice hb
  have hpos := Fm.enc_pos (fg m)
  have hpi : (0 : Int) < ((Fm.enc (fg m)).length : Int) := by omega
  clear ha hb hn hgL hgR hFL hFR e1 e2 hm hmz
  rw [← HK.out] at hk0
  obtain ⟨w1, hw1⟩ : ∃ w1, w1 = w.alloc (.cells #[.slice A1 L.length c1, .slice A2 R.length c2] 29) := ⟨_, rfl⟩
  have hg1 : Grew w w1 := by rw [hw1]; exact (Grew.refl w).alloc _
  have hb0 : w1.heap[w.heap.size]? = some (.cells #[.slice A1 L.length c1, .slice A2 R.length c2] 29 (0, 0)) := by rw [hw1]; exact blk_new w _
  have p0 : ∀ W, Grew w1 W → W.cell? ⟨w.heap.size, 0, none⟩ = some (.slice A1 L.length c1) := fun W hW => by rw [blk_cell ((hW.block (blk_lt hb0)).trans hb0)]; rfl
  have p1 : ∀ W, Grew w1 W → W.cell? ⟨w.heap.size, 1, none⟩ = some (.slice A2 R.length c2) := fun W hW => by rw [blk_cell ((hW.block (blk_lt hb0)).trans hb0)]; rfl
  have HG1 := Lib.hid hg1
  have hk1 := fun W (hW : Grew w1 W) => hk0 W (hg1.trans hW)
  have hr1 := Grew.refl w1
  have hd1 := hr1.drew
  clear hg1 hb0 hk0
  generalize hkk : kS m = kk at *
  have HKS := Lib.hid hkk
  clear hkk
  generalize hG : rgF lg r L R m = X at *
  have HX := Lib.hid hG
  clear hG
  generalize ptL (fg m) = pt at *
  go_enter Tryz.func42, Tryz.ntmps42
  go_wp2_with fail
  simp only [← hw1]
  clear hw1
  refine wp_region_held_drew (S := fun w' => Grew w1 w') (by kernel_rfl) hd1 (fun hHeld => ?_)
  refine wpAnyH_take (i := 0) (oi := ?on116) (v := ?vn116) ?hin116 ?an116 ?bn116 ?cn116 ?qn116 (Or.inl ⟨?dn116, ?hyn116⟩) hHeld ?restn116
  case hin116 => (simp only [List.getElem?_toArray, List.getElem?_cons_zero]; exact rfl)
  case an116 => kernel_rfl
  case bn116 => kernel_rfl
  case cn116 => kernel_rfl
  case qn116 => exact fun _ _ _ h => h
  case dn116 => rfl
  case hyn116 => (intro z hSw; (try dsimp only at hSw); go_simp; (try with_reducible rfl))
  try simp only [Act.put, List.setIfInBounds_toArray, List.set_cons_zero, List.set_cons_succ]
  refine wpAnyH_take (i := 1) (oi := ?on117) (v := ?vn117) ?hin117 ?an117 ?bn117 ?cn117 ?qn117 (Or.inl ⟨?dn117, ?hyn117⟩) hHeld ?restn117
  case hin117 => (simp only [List.getElem?_toArray, List.getElem?_cons_succ, List.getElem?_cons_zero]; exact rfl)
  case an117 => kernel_rfl
  case bn117 => kernel_rfl
  case cn117 => kernel_rfl
  case qn117 => exact fun _ _ _ h => h
  case dn117 => rfl
  case hyn117 => (intro z hSw; (try dsimp only at hSw); go_simp; (try with_reducible rfl))
  try simp only [Act.put, List.setIfInBounds_toArray, List.set_cons_zero, List.set_cons_succ]
  refine wpAnyH_take (i := 2) (oi := ?on118) (v := ?vn118) ?hin118 ?an118 ?bn118 ?cn118 ?qn118 (Or.inl ⟨?dn118, ?hyn118⟩) hHeld ?restn118
  case hin118 => (simp only [List.getElem?_toArray, List.getElem?_cons_succ, List.getElem?_cons_zero]; exact rfl)
  case an118 => kernel_rfl
  case bn118 => kernel_rfl
  case cn118 => kernel_rfl
  case qn118 => exact fun _ _ _ h => h
  case dn118 => rfl
  case hyn118 => (intro z hSw; (try dsimp only at hSw); go_simp; (try with_reducible rfl))
  try simp only [Act.put, List.setIfInBounds_toArray, List.set_cons_zero, List.set_cons_succ]
  refine wpAnyH_take (i := 5) (oi := ?on119) (v := ?vn119) ?hin119 ?an119 ?bn119 ?cn119 ?qn119 (Or.inl ⟨?dn119, ?hyn119⟩) hHeld ?restn119
  case hin119 => (simp only [List.getElem?_toArray, List.getElem?_cons_succ, List.getElem?_cons_zero]; exact rfl)
  case an119 => kernel_rfl
  case bn119 => kernel_rfl
  case cn119 => kernel_rfl
  case qn119 => exact fun _ _ _ h => h
  case dn119 => rfl
  case hyn119 => (intro z hSw; (try dsimp only at hSw); go_simp; (try with_reducible rfl))
  try simp only [Act.put, List.setIfInBounds_toArray, List.set_cons_zero, List.set_cons_succ]
  refine wpAnyH_ready (rs := [3]) (by kernel_rfl) (by simp) ?_
  refine AllReadyH.cons (o := ?on120) ?hin120 ?restn120 AllReadyH.nil
  case hin120 => (simp only [List.getElem?_toArray, List.getElem?_cons_succ, List.getElem?_cons_zero]; exact rfl)
  intro K hK
  go_simp
  go_at_call 56
  refine (KT.out _ (HG1.out.trans hd1)).mono ?_
  rintro e w2 ⟨rfl, hgw2⟩
  have h2 : Grew w1 w2 := hd1.trans hgw2
  refine hK.out _ _ ?_ (fun hHeld => ?_)
  · (try dsimp only); first | with_reducible assumption | exact Grew.alloc ‹_› _
  clear hK K
  try simp only [Act.put, List.setIfInBounds_toArray, List.set_cons_zero, List.set_cons_succ]
  refine wpAnyH_ready (rs := [4]) (by kernel_rfl) (by simp) ?_
  refine AllReadyH.cons (o := ?on121) ?hin121 ?restn121 AllReadyH.nil
  case hin121 => (simp only [List.getElem?_toArray, List.getElem?_cons_succ, List.getElem?_cons_zero]; exact rfl)
  intro K hK
  go_simp
  go_at_call 61
  refine (KD.out _ (HG1.out.trans h2)).mono ?_
  rintro e w3 ⟨ud, rfl, hud, hgw3⟩
  have h3 : Grew w1 w3 := h2.trans hgw3
  obtain ⟨A3, c3, rfl⟩ := strs_slice hud
  refine hK.out _ _ ?_ (fun hHeld => ?_)
  · (try dsimp only); first | with_reducible assumption | exact Grew.alloc ‹_› _
  clear hK K
  try simp only [Act.put, List.setIfInBounds_toArray, List.set_cons_zero, List.set_cons_succ]
  refine wpAnyH_ready (rs := [6]) (by kernel_rfl) (by simp) ?_
  refine AllReadyH.cons (o := ?on122) ?hin122 ?restn122 AllReadyH.nil
  case hin122 => (simp only [List.getElem?_toArray, List.getElem?_cons_succ, List.getElem?_cons_zero]; exact rfl)
  intro K hK
  go_simp
  go_at_call 62
  refine (KP.out _ (HG1.out.trans h3)).mono ?_
  rintro e w4 ⟨up, rfl, hup, hgw4⟩
  have h4 : Grew w1 w4 := h3.trans hgw4
  obtain ⟨A4, c4, rfl⟩ := strs_slice hup
  refine hK.out _ _ ?_ (fun hHeld => ?_)
  · (try dsimp only); first | with_reducible assumption | exact Grew.alloc ‹_› _
  clear hK K
  try simp only [Act.put, List.setIfInBounds_toArray, List.set_cons_zero, List.set_cons_succ]
  refine wpAnyH_take (i := 7) (oi := ?on123) (v := ?vn123) ?hin123 ?an123 ?bn123 ?cn123 ?qn123 (Or.inl ⟨?dn123, ?hyn123⟩) hHeld ?restn123
  case hin123 => (simp only [List.getElem?_toArray, List.getElem?_cons_succ, List.getElem?_cons_zero]; exact rfl)
  case an123 => kernel_rfl
  case bn123 => kernel_rfl
  case cn123 => kernel_rfl
  case qn123 => exact fun _ _ _ h => h
  case dn123 => rfl
  case hyn123 => (intro z hSw; (try dsimp only at hSw); go_simp; (try with_reducible rfl))
  try simp only [Act.put, List.setIfInBounds_toArray, List.set_cons_zero, List.set_cons_succ]
  refine wpAnyH_take (i := 8) (oi := ?on124) (v := ?vn124) ?hin124 ?an124 ?bn124 ?cn124 ?qn124 (Or.inl ⟨?dn124, ?hyn124⟩) hHeld ?restn124
  case hin124 => (simp only [List.getElem?_toArray, List.getElem?_cons_succ, List.getElem?_cons_zero]; exact rfl)
  case an124 => kernel_rfl
  case bn124 => kernel_rfl
  case cn124 => kernel_rfl
  case qn124 => exact fun _ _ _ h => h
  case dn124 => rfl
  case hyn124 => (intro z hSw; (try dsimp only at hSw); go_simp; (try with_reducible rfl))
  try simp only [Act.put, List.setIfInBounds_toArray, List.set_cons_zero, List.set_cons_succ]
  refine wpAnyH_done (by kernel_rfl) ?_ _
  have HD := Lib.hid (hud.grew hgw4)
  have HPr := Lib.hid hup
  have q0 := fun W (hW : Grew w4 W) => p0 W (h4.trans hW)
  have q1 := fun W (hW : Grew w4 W) => p1 W (h4.trans hW)
  have HG4 := Lib.hid (HG1.out.trans h4)
  have hk4 := fun W (hW : Grew w4 W) => hk1 W (h4.trans hW)
  have hr4 := Grew.refl w4
  have hd4 := hr4.drew
  have kk0 := hk4 _ hr4
  clear hud hup hgw2 hgw3 hgw4 h2 h3 p0 p1 hk1 hr1 hd1 KP KD
  by_cases h4 : r = 4
  · subst h4
    by_cases hk : kk = 2
    · subst hk
      obtain rfl : pt = [p1S m, p2S m] := by have := HP.out; simpa using this
      obtain ⟨bp, op, cp, hpv, hcp, hcp2, hbp, hpc⟩ := strs_two HPr.out
      obtain ⟨rfl, rfl⟩ : A4 = some ⟨bp, op, none⟩ ∧ c4 = cp := by simpa using hpv
      have hp1c := fun W (hW : Grew w4 W) => (hpc W hW).1
      have hp2c := fun W (hW : Grew w4 W) => (hpc W hW).2
      clear hpv hpc
      go_wp2_with fail
      refine wp_region_held_drew (S := fun w' => Grew w4 w') (by kernel_rfl) hd4 (fun hHeld => ?_)
      refine wpAnyH_take (i := 0) (oi := ?on125) (v := ?vn125) ?hin125 ?an125 ?bn125 ?cn125 ?qn125 (Or.inl ⟨?dn125, ?hyn125⟩) hHeld ?restn125
      case hin125 => (simp only [List.getElem?_toArray, List.getElem?_cons_zero]; exact rfl)
      case an125 => kernel_rfl
      case bn125 => kernel_rfl
      case cn125 => kernel_rfl
      case qn125 => exact fun _ _ _ h => h
      case dn125 => rfl
      case hyn125 => (intro z hSw; (try dsimp only at hSw); go_simp; (try with_reducible rfl))
      try simp only [Act.put, List.setIfInBounds_toArray, List.set_cons_zero, List.set_cons_succ]
      refine wpAnyH_take (i := 1) (oi := ?on126) (v := ?vn126) ?hin126 ?an126 ?bn126 ?cn126 ?qn126 (Or.inl ⟨?dn126, ?hyn126⟩) hHeld ?restn126
      case hin126 => (simp only [List.getElem?_toArray, List.getElem?_cons_succ, List.getElem?_cons_zero]; exact rfl)
      case an126 => kernel_rfl
      case bn126 => kernel_rfl
      case cn126 => kernel_rfl
      case qn126 => exact fun _ _ _ h => h
      case dn126 => rfl
      case hyn126 => (intro z hSw; (try dsimp only at hSw); go_simp; (try with_reducible rfl))
      try simp only [Act.put, List.setIfInBounds_toArray, List.set_cons_zero, List.set_cons_succ]
      refine wpAnyH_take (i := 2) (oi := ?on127) (v := ?vn127) ?hin127 ?an127 ?bn127 ?cn127 ?qn127 (Or.inl ⟨?dn127, ?hyn127⟩) hHeld ?restn127
      case hin127 => (simp only [List.getElem?_toArray, List.getElem?_cons_succ, List.getElem?_cons_zero]; exact rfl)
      case an127 => kernel_rfl
      case bn127 => kernel_rfl
      case cn127 => kernel_rfl
      case qn127 => exact fun _ _ _ h => h
      case dn127 => rfl
      case hyn127 => (intro z hSw; (try dsimp only at hSw); go_simp; (try with_reducible rfl))
      try simp only [Act.put, List.setIfInBounds_toArray, List.set_cons_zero, List.set_cons_succ]
      refine wpAnyH_take (i := 3) (oi := ?on128) (v := ?vn128) ?hin128 ?an128 ?bn128 ?cn128 ?qn128 (Or.inl ⟨?dn128, ?hyn128⟩) hHeld ?restn128
      case hin128 => (simp only [List.getElem?_toArray, List.getElem?_cons_succ, List.getElem?_cons_zero]; exact rfl)
      case an128 => kernel_rfl
      case bn128 => kernel_rfl
      case cn128 => kernel_rfl
      case qn128 => exact fun _ _ _ h => h
      case dn128 => rfl
      case hyn128 => (intro z hSw; (try dsimp only at hSw); go_simp; (try with_reducible rfl))
      try simp only [Act.put, List.setIfInBounds_toArray, List.set_cons_zero, List.set_cons_succ]
      refine wpAnyH_take (i := 4) (oi := ?on129) (v := ?vn129) ?hin129 ?an129 ?bn129 ?cn129 ?qn129 (Or.inl ⟨?dn129, ?hyn129⟩) hHeld ?restn129
      case hin129 => (simp only [List.getElem?_toArray, List.getElem?_cons_succ, List.getElem?_cons_zero]; exact rfl)
      case an129 => kernel_rfl
      case bn129 => kernel_rfl
      case cn129 => kernel_rfl
      case qn129 => exact fun _ _ _ h => h
      case dn129 => rfl
      case hyn129 => (intro z hSw; (try dsimp only at hSw); go_simp; (try with_reducible rfl))
      try simp only [Act.put, List.setIfInBounds_toArray, List.set_cons_zero, List.set_cons_succ]
      refine wpAnyH_take (i := 5) (oi := ?on130) (v := ?vn130) ?hin130 ?an130 ?bn130 ?cn130 ?qn130 (Or.inl ⟨?dn130, ?hyn130⟩) hHeld ?restn130
      case hin130 => (simp only [List.getElem?_toArray, List.getElem?_cons_succ, List.getElem?_cons_zero]; exact rfl)
      case an130 => kernel_rfl
      case bn130 => kernel_rfl
      case cn130 => kernel_rfl
      case qn130 => exact fun _ _ _ h => h
      case dn130 => rfl
      case hyn130 => (intro z hSw; (try dsimp only at hSw); go_simp; (try with_reducible rfl))
      try simp only [Act.put, List.setIfInBounds_toArray, List.set_cons_zero, List.set_cons_succ]
      refine wpAnyH_take (i := 9) (oi := ?on131) (v := ?vn131) ?hin131 ?an131 ?bn131 ?cn131 ?qn131 (Or.inl ⟨?dn131, ?hyn131⟩) hHeld ?restn131
      case hin131 => (simp only [List.getElem?_toArray, List.getElem?_cons_succ, List.getElem?_cons_zero]; exact rfl)
      case an131 => kernel_rfl
      case bn131 => kernel_rfl
      case cn131 => kernel_rfl
      case qn131 => exact fun _ _ _ h => h
      case dn131 => rfl
      case hyn131 => (intro z hSw; (try dsimp only at hSw); go_simp; (try with_reducible rfl))
      try simp only [Act.put, List.setIfInBounds_toArray, List.set_cons_zero, List.set_cons_succ]
      refine wpAnyH_take (i := 10) (oi := ?on132) (v := ?vn132) ?hin132 ?an132 ?bn132 ?cn132 ?qn132 (Or.inl ⟨?dn132, ?hyn132⟩) hHeld ?restn132
      case hin132 => (simp only [List.getElem?_toArray, List.getElem?_cons_succ, List.getElem?_cons_zero]; exact rfl)
      case an132 => kernel_rfl
      case bn132 => kernel_rfl
      case cn132 => kernel_rfl
      case qn132 => exact fun _ _ _ h => h
      case dn132 => rfl
      case hyn132 => (intro z hSw; (try dsimp only at hSw); go_simp; (try with_reducible rfl))
      try simp only [Act.put, List.setIfInBounds_toArray, List.set_cons_zero, List.set_cons_succ]
      refine wpAnyH_take (i := 11) (oi := ?on133) (v := ?vn133) ?hin133 ?an133 ?bn133 ?cn133 ?qn133 (Or.inl ⟨?dn133, ?hyn133⟩) hHeld ?restn133
      case hin133 => (simp only [List.getElem?_toArray, List.getElem?_cons_succ, List.getElem?_cons_zero]; exact rfl)
      case an133 => kernel_rfl
      case bn133 => kernel_rfl
      case cn133 => kernel_rfl
      case qn133 => exact fun _ _ _ h => h
      case dn133 => rfl
      case hyn133 => (intro z hSw; (try dsimp only at hSw); go_simp; (try with_reducible rfl))
      try simp only [Act.put, List.setIfInBounds_toArray, List.set_cons_zero, List.set_cons_succ]
      refine wpAnyH_take (i := 12) (oi := ?on134) (v := ?vn134) ?hin134 ?an134 ?bn134 ?cn134 ?qn134 (Or.inl ⟨?dn134, ?hyn134⟩) hHeld ?restn134
      case hin134 => (simp only [List.getElem?_toArray, List.getElem?_cons_succ, List.getElem?_cons_zero]; exact rfl)
      case an134 => kernel_rfl
      case bn134 => kernel_rfl
      case cn134 => kernel_rfl
      case qn134 => exact fun _ _ _ h => h
      case dn134 => rfl
      case hyn134 => (intro z hSw; (try dsimp only at hSw); go_simp; (try with_reducible rfl))
      try simp only [Act.put, List.setIfInBounds_toArray, List.set_cons_zero, List.set_cons_succ]
      refine wpAnyH_take (i := 13) (oi := ?on135) (v := ?vn135) ?hin135 ?an135 ?bn135 ?cn135 ?qn135 (Or.inl ⟨?dn135, ?hyn135⟩) hHeld ?restn135
      case hin135 => (simp only [List.getElem?_toArray, List.getElem?_cons_succ, List.getElem?_cons_zero]; exact rfl)
      case an135 => kernel_rfl
      case bn135 => kernel_rfl
      case cn135 => kernel_rfl
      case qn135 => exact fun _ _ _ h => h
      case dn135 => rfl
      case hyn135 => (intro z hSw; (try dsimp only at hSw); go_simp; (try with_reducible rfl))
      try simp only [Act.put, List.setIfInBounds_toArray, List.set_cons_zero, List.set_cons_succ]
      refine wpAnyH_take (i := 14) (oi := ?on136) (v := ?vn136) ?hin136 ?an136 ?bn136 ?cn136 ?qn136 (Or.inl ⟨?dn136, ?hyn136⟩) hHeld ?restn136
      case hin136 => (simp only [List.getElem?_toArray, List.getElem?_cons_succ, List.getElem?_cons_zero]; exact rfl)
      case an136 => kernel_rfl
      case bn136 => kernel_rfl
      case cn136 => kernel_rfl
      case qn136 => exact fun _ _ _ h => h
      case dn136 => rfl
      case hyn136 => (intro z hSw; (try dsimp only at hSw); go_simp; (try with_reducible rfl))
      try simp only [Act.put, List.setIfInBounds_toArray, List.set_cons_zero, List.set_cons_succ]
      refine wpAnyH_ready (rs := [6, 15]) (by kernel_rfl) (by simp) ?_
      refine AllReadyH.cons (o := ?on137) ?hin137 ?restn137 (AllReadyH.cons (o := ?on138) ?hin138 ?restn138 AllReadyH.nil)
      case hin137 => (simp only [List.getElem?_toArray, List.getElem?_cons_succ, List.getElem?_cons_zero]; exact rfl)
      case hin138 => (simp only [List.getElem?_toArray, List.getElem?_cons_succ, List.getElem?_cons_zero]; exact rfl)
      case restn137 =>
        intro K hK
        go_simp
        obtain ⟨x1, hwx1⟩ : ∃ W, W = (w4.alloc (.cells #[.string (p1S m)] 9)).drew := ⟨_, rfl⟩
        have hgx1 : Grew w4 x1 := by rw [hwx1]; exact ((Grew.refl _).alloc _).drew
        have hx1 : Grew w4 x1 := hgx1
        have hl0 : Strs x1 (.slice (some ⟨w4.heap.size, 0, none⟩) 1 1) [p1S m] := lit_str (t := 9) (by rw [hwx1]; exact blk_new w4 _) (Grew.refl _)
        try simp only [← hwx1]
        clear hwx1
        refine hK.out _ _ ?_ (fun hHeld => ?_)
        · (try dsimp only); first | with_reducible assumption | exact hx1
        clear hK K
        try simp only [Act.put, List.setIfInBounds_toArray, List.set_cons_zero, List.set_cons_succ]
        refine wpAnyH_ready (rs := [7, 15]) (by kernel_rfl) (by simp) ?_
        refine AllReadyH.cons (o := ?on139) ?hin139 ?restn139 (AllReadyH.cons (o := ?on140) ?hin140 ?restn140 AllReadyH.nil)
        case hin139 => (simp only [List.getElem?_toArray, List.getElem?_cons_succ, List.getElem?_cons_zero]; exact rfl)
        case hin140 => (simp only [List.getElem?_toArray, List.getElem?_cons_succ, List.getElem?_cons_zero]; exact rfl)
        case restn139 =>
          intro K hK
          go_simp
          go_at_call 38
          refine (put_c _ _ (dropS R m) [p1S m] _ (HD.out.grew hx1) hl0 (by simp; omega)).mono ?_
          rintro e x2 ⟨u0, rfl, hu0, hgx2⟩
          have hx2 : Grew w4 x2 := hx1.trans hgx2
          obtain ⟨AU0, cU0, rfl⟩ := strs_slice hu0.strs
          have hs0 := hu0.strs
          clear hu0
          replace hl0 := hl0.grew hgx2
          refine hK.out _ _ ?_ (fun hHeld => ?_)
          · (try dsimp only); first | with_reducible assumption | exact hx2
          clear hK K
          try simp only [Act.put, List.setIfInBounds_toArray, List.set_cons_zero, List.set_cons_succ]
          refine wpAnyH_take (i := 8) (oi := ?on141) (v := ?vn141) ?hin141 ?an141 ?bn141 ?cn141 ?qn141 (Or.inl ⟨?dn141, ?hyn141⟩) hHeld ?restn141
          case hin141 => (simp only [List.getElem?_toArray, List.getElem?_cons_succ, List.getElem?_cons_zero]; exact rfl)
          case an141 => kernel_rfl
          case bn141 => kernel_rfl
          case cn141 => kernel_rfl
          case qn141 => exact fun _ _ _ h => h
          case dn141 => rfl
          case hyn141 => (intro z hSw; (try dsimp only at hSw); go_simp; (try with_reducible rfl))
          try simp only [Act.put, List.setIfInBounds_toArray, List.set_cons_zero, List.set_cons_succ]
          refine wpAnyH_ready (rs := [15]) (by kernel_rfl) (by simp) ?_
          refine AllReadyH.cons (o := ?on142) ?hin142 ?restn142 AllReadyH.nil
          case hin142 => (simp only [List.getElem?_toArray, List.getElem?_cons_succ, List.getElem?_cons_zero]; exact rfl)
          intro K hK
          go_simp
          obtain ⟨x3, hwx3⟩ : ∃ W, W = x2.alloc (.cells #[.string (p2S m)] 9) := ⟨_, rfl⟩
          have hgx3 : Grew x2 x3 := by rw [hwx3]; exact (Grew.refl _).alloc _
          have hx3 : Grew w4 x3 := hx2.trans hgx3
          have hl1 : Strs x3 (.slice (some ⟨x2.heap.size, 0, none⟩) 1 1) [p2S m] := lit_str (t := 9) (by rw [hwx3]; exact blk_new x2 _) (Grew.refl _)
          try simp only [← hwx3]
          clear hwx3
          replace hl0 := hl0.grew hgx3
          replace hs0 := hs0.grew hgx3
          refine hK.out _ _ ?_ (fun hHeld => ?_)
          · (try dsimp only); first | with_reducible assumption | exact hx3
          clear hK K
          try simp only [Act.put, List.setIfInBounds_toArray, List.set_cons_zero, List.set_cons_succ]
          refine wpAnyH_ready (rs := [16]) (by kernel_rfl) (by simp) ?_
          refine AllReadyH.cons (o := ?on143) ?hin143 ?restn143 AllReadyH.nil
          case hin143 => (simp only [List.getElem?_toArray, List.getElem?_cons_succ, List.getElem?_cons_zero]; exact rfl)
          intro K hK
          go_simp
          go_at_call 38
          refine (put_c _ _ (dropS R m) [p2S m] _ (HD.out.grew hx3) hl1 (by simp; omega)).mono ?_
          rintro e x4 ⟨u1, rfl, hu1, hgx4⟩
          have hx4 : Grew w4 x4 := hx3.trans hgx4
          obtain ⟨AU1, cU1, rfl⟩ := strs_slice hu1.strs
          have hs1 := hu1.strs
          clear hu1
          replace hl0 := hl0.grew hgx4
          replace hs0 := hs0.grew hgx4
          replace hl1 := hl1.grew hgx4
          refine hK.out _ _ ?_ (fun hHeld => ?_)
          · (try dsimp only); first | with_reducible assumption | exact hx4
          clear hK K
          try simp only [Act.put, List.setIfInBounds_toArray, List.set_cons_zero, List.set_cons_succ]
          refine wpAnyH_take (i := 17) (oi := ?on144) (v := ?vn144) ?hin144 ?an144 ?bn144 ?cn144 ?qn144 (Or.inl ⟨?dn144, ?hyn144⟩) hHeld ?restn144
          case hin144 => (simp only [List.getElem?_toArray, List.getElem?_cons_succ, List.getElem?_cons_zero]; exact rfl)
          case an144 => kernel_rfl
          case bn144 => kernel_rfl
          case cn144 => kernel_rfl
          case qn144 => exact fun _ _ _ h => h
          case dn144 => rfl
          case hyn144 => (intro z hSw; (try dsimp only at hSw); go_simp; (try with_reducible rfl))
          try simp only [Act.put, List.setIfInBounds_toArray, List.set_cons_zero, List.set_cons_succ]
          refine wpAnyH_ready (rs := [18]) (by kernel_rfl) (by simp) ?_
          refine AllReadyH.cons (o := ?on145) ?hin145 ?restn145 AllReadyH.nil
          case hin145 => (simp only [List.getElem?_toArray, List.getElem?_cons_succ, List.getElem?_cons_zero]; exact rfl)
          intro K hK
          go_simp
          refine hK.out _ _ ?_ (fun hHeld => ?_)
          · (try dsimp only); first | with_reducible assumption | exact (hx4.alloc _)
          clear hK K
          try simp only [Act.put, List.setIfInBounds_toArray, List.set_cons_zero, List.set_cons_succ]
          refine wpAnyH_take (i := 19) (oi := ?on146) (v := ?vn146) ?hin146 ?an146 ?bn146 ?cn146 ?qn146 (Or.inl ⟨?dn146, ?hyn146⟩) hHeld ?restn146
          case hin146 => (simp only [List.getElem?_toArray, List.getElem?_cons_succ, List.getElem?_cons_zero]; exact rfl)
          case an146 => kernel_rfl
          case bn146 => kernel_rfl
          case cn146 => kernel_rfl
          case qn146 => exact fun _ _ _ h => h
          case dn146 => rfl
          case hyn146 => (intro z hSw; (try dsimp only at hSw); go_simp; (try with_reducible rfl))
          try simp only [Act.put, List.setIfInBounds_toArray, List.set_cons_zero, List.set_cons_succ]
          refine wpAnyH_take (i := 20) (oi := ?on147) (v := ?vn147) ?hin147 ?an147 ?bn147 ?cn147 ?qn147 (Or.inl ⟨?dn147, ?hyn147⟩) hHeld ?restn147
          case hin147 => (simp only [List.getElem?_toArray, List.getElem?_cons_succ, List.getElem?_cons_zero]; exact rfl)
          case an147 => kernel_rfl
          case bn147 => kernel_rfl
          case cn147 => kernel_rfl
          case qn147 => exact fun _ _ _ h => h
          case dn147 => rfl
          case hyn147 => (intro z hSw; (try dsimp only at hSw); go_simp; (try with_reducible rfl))
          try simp only [Act.put, List.setIfInBounds_toArray, List.set_cons_zero, List.set_cons_succ]
          refine wpAnyH_done (by kernel_rfl) ?_ _
          go_wp2_with fail
          go_ret2
          have hX := HX.out
          rw [rgF_4 HKS.out] at hX
          rw [← hX]
          exact ⟨_, _, _, rfl, fun _ => rdM_two (blk_new x4 _) (Strs.grew (HA.out.grew (HG4.out.trans hx4)) ((Grew.refl _).alloc _)) (Strs.grew hs0 ((Grew.refl _).alloc _)) (Strs.grew (HA.out.grew (HG4.out.trans hx4)) ((Grew.refl _).alloc _)) (Strs.grew hs1 ((Grew.refl _).alloc _)), HG4.out.trans (hx4.alloc _)⟩
        case restn140 =>
          intro K hK
          go_simp
          obtain ⟨x2, hwx2⟩ : ∃ W, W = x1.alloc (.cells #[.string (p2S m)] 9) := ⟨_, rfl⟩
          have hgx2 : Grew x1 x2 := by rw [hwx2]; exact (Grew.refl _).alloc _
          have hx2 : Grew w4 x2 := hx1.trans hgx2
          have hl1 : Strs x2 (.slice (some ⟨x1.heap.size, 0, none⟩) 1 1) [p2S m] := lit_str (t := 9) (by rw [hwx2]; exact blk_new x1 _) (Grew.refl _)
          try simp only [← hwx2]
          clear hwx2
          replace hl0 := hl0.grew hgx2
          refine hK.out _ _ ?_ (fun hHeld => ?_)
          · (try dsimp only); first | with_reducible assumption | exact hx2
          clear hK K
          try simp only [Act.put, List.setIfInBounds_toArray, List.set_cons_zero, List.set_cons_succ]
          refine wpAnyH_ready (rs := [7]) (by kernel_rfl) (by simp) ?_
          refine AllReadyH.cons (o := ?on148) ?hin148 ?restn148 AllReadyH.nil
          case hin148 => (simp only [List.getElem?_toArray, List.getElem?_cons_succ, List.getElem?_cons_zero]; exact rfl)
          intro K hK
          go_simp
          go_at_call 38
          refine (put_c _ _ (dropS R m) [p1S m] _ (HD.out.grew hx2) hl0 (by simp; omega)).mono ?_
          rintro e x3 ⟨u0, rfl, hu0, hgx3⟩
          have hx3 : Grew w4 x3 := hx2.trans hgx3
          obtain ⟨AU0, cU0, rfl⟩ := strs_slice hu0.strs
          have hs0 := hu0.strs
          clear hu0
          replace hl0 := hl0.grew hgx3
          replace hl1 := hl1.grew hgx3
          refine hK.out _ _ ?_ (fun hHeld => ?_)
          · (try dsimp only); first | with_reducible assumption | exact hx3
          clear hK K
          try simp only [Act.put, List.setIfInBounds_toArray, List.set_cons_zero, List.set_cons_succ]
          refine wpAnyH_take (i := 8) (oi := ?on149) (v := ?vn149) ?hin149 ?an149 ?bn149 ?cn149 ?qn149 (Or.inl ⟨?dn149, ?hyn149⟩) hHeld ?restn149
          case hin149 => (simp only [List.getElem?_toArray, List.getElem?_cons_succ, List.getElem?_cons_zero]; exact rfl)
          case an149 => kernel_rfl
          case bn149 => kernel_rfl
          case cn149 => kernel_rfl
          case qn149 => exact fun _ _ _ h => h
          case dn149 => rfl
          case hyn149 => (intro z hSw; (try dsimp only at hSw); go_simp; (try with_reducible rfl))
          try simp only [Act.put, List.setIfInBounds_toArray, List.set_cons_zero, List.set_cons_succ]
          refine wpAnyH_ready (rs := [16]) (by kernel_rfl) (by simp) ?_
          refine AllReadyH.cons (o := ?on150) ?hin150 ?restn150 AllReadyH.nil
          case hin150 => (simp only [List.getElem?_toArray, List.getElem?_cons_succ, List.getElem?_cons_zero]; exact rfl)
          intro K hK
          go_simp
          go_at_call 38
          refine (put_c _ _ (dropS R m) [p2S m] _ (HD.out.grew hx3) hl1 (by simp; omega)).mono ?_
          rintro e x4 ⟨u1, rfl, hu1, hgx4⟩
          have hx4 : Grew w4 x4 := hx3.trans hgx4
          obtain ⟨AU1, cU1, rfl⟩ := strs_slice hu1.strs
          have hs1 := hu1.strs
          clear hu1
          replace hl0 := hl0.grew hgx4
          replace hl1 := hl1.grew hgx4
          replace hs0 := hs0.grew hgx4
          refine hK.out _ _ ?_ (fun hHeld => ?_)
          · (try dsimp only); first | with_reducible assumption | exact hx4
          clear hK K
          try simp only [Act.put, List.setIfInBounds_toArray, List.set_cons_zero, List.set_cons_succ]
          refine wpAnyH_take (i := 17) (oi := ?on151) (v := ?vn151) ?hin151 ?an151 ?bn151 ?cn151 ?qn151 (Or.inl ⟨?dn151, ?hyn151⟩) hHeld ?restn151
          case hin151 => (simp only [List.getElem?_toArray, List.getElem?_cons_succ, List.getElem?_cons_zero]; exact rfl)
          case an151 => kernel_rfl
          case bn151 => kernel_rfl
          case cn151 => kernel_rfl
          case qn151 => exact fun _ _ _ h => h
          case dn151 => rfl
          case hyn151 => (intro z hSw; (try dsimp only at hSw); go_simp; (try with_reducible rfl))
          try simp only [Act.put, List.setIfInBounds_toArray, List.set_cons_zero, List.set_cons_succ]
          refine wpAnyH_ready (rs := [18]) (by kernel_rfl) (by simp) ?_
          refine AllReadyH.cons (o := ?on152) ?hin152 ?restn152 AllReadyH.nil
          case hin152 => (simp only [List.getElem?_toArray, List.getElem?_cons_succ, List.getElem?_cons_zero]; exact rfl)
          intro K hK
          go_simp
          refine hK.out _ _ ?_ (fun hHeld => ?_)
          · (try dsimp only); first | with_reducible assumption | exact (hx4.alloc _)
          clear hK K
          try simp only [Act.put, List.setIfInBounds_toArray, List.set_cons_zero, List.set_cons_succ]
          refine wpAnyH_take (i := 19) (oi := ?on153) (v := ?vn153) ?hin153 ?an153 ?bn153 ?cn153 ?qn153 (Or.inl ⟨?dn153, ?hyn153⟩) hHeld ?restn153
          case hin153 => (simp only [List.getElem?_toArray, List.getElem?_cons_succ, List.getElem?_cons_zero]; exact rfl)
          case an153 => kernel_rfl
          case bn153 => kernel_rfl
          case cn153 => kernel_rfl
          case qn153 => exact fun _ _ _ h => h
          case dn153 => rfl
          case hyn153 => (intro z hSw; (try dsimp only at hSw); go_simp; (try with_reducible rfl))
          try simp only [Act.put, List.setIfInBounds_toArray, List.set_cons_zero, List.set_cons_succ]
          refine wpAnyH_take (i := 20) (oi := ?on154) (v := ?vn154) ?hin154 ?an154 ?bn154 ?cn154 ?qn154 (Or.inl ⟨?dn154, ?hyn154⟩) hHeld ?restn154
          case hin154 => (simp only [List.getElem?_toArray, List.getElem?_cons_succ, List.getElem?_cons_zero]; exact rfl)
          case an154 => kernel_rfl
          case bn154 => kernel_rfl
          case cn154 => kernel_rfl
          case qn154 => exact fun _ _ _ h => h
          case dn154 => rfl
          case hyn154 => (intro z hSw; (try dsimp only at hSw); go_simp; (try with_reducible rfl))
          try simp only [Act.put, List.setIfInBounds_toArray, List.set_cons_zero, List.set_cons_succ]
          refine wpAnyH_done (by kernel_rfl) ?_ _
          go_wp2_with fail
          go_ret2
          have hX := HX.out
          rw [rgF_4 HKS.out] at hX
          rw [← hX]
          exact ⟨_, _, _, rfl, fun _ => rdM_two (blk_new x4 _) (Strs.grew (HA.out.grew (HG4.out.trans hx4)) ((Grew.refl _).alloc _)) (Strs.grew hs0 ((Grew.refl _).alloc _)) (Strs.grew (HA.out.grew (HG4.out.trans hx4)) ((Grew.refl _).alloc _)) (Strs.grew hs1 ((Grew.refl _).alloc _)), HG4.out.trans (hx4.alloc _)⟩
      case restn138 =>
        intro K hK
        go_simp
        obtain ⟨x1, hwx1⟩ : ∃ W, W = (w4.alloc (.cells #[.string (p2S m)] 9)).drew := ⟨_, rfl⟩
        have hgx1 : Grew w4 x1 := by rw [hwx1]; exact ((Grew.refl _).alloc _).drew
        have hx1 : Grew w4 x1 := hgx1
        have hl1 : Strs x1 (.slice (some ⟨w4.heap.size, 0, none⟩) 1 1) [p2S m] := lit_str (t := 9) (by rw [hwx1]; exact blk_new w4 _) (Grew.refl _)
        try simp only [← hwx1]
        clear hwx1
        refine hK.out _ _ ?_ (fun hHeld => ?_)
        · (try dsimp only); first | with_reducible assumption | exact hx1
        clear hK K
        try simp only [Act.put, List.setIfInBounds_toArray, List.set_cons_zero, List.set_cons_succ]
        refine wpAnyH_ready (rs := [6]) (by kernel_rfl) (by simp) ?_
        refine AllReadyH.cons (o := ?on155) ?hin155 ?restn155 AllReadyH.nil
        case hin155 => (simp only [List.getElem?_toArray, List.getElem?_cons_succ, List.getElem?_cons_zero]; exact rfl)
        intro K hK
        go_simp
        obtain ⟨x2, hwx2⟩ : ∃ W, W = x1.alloc (.cells #[.string (p1S m)] 9) := ⟨_, rfl⟩
        have hgx2 : Grew x1 x2 := by rw [hwx2]; exact (Grew.refl _).alloc _
        have hx2 : Grew w4 x2 := hx1.trans hgx2
        have hl0 : Strs x2 (.slice (some ⟨x1.heap.size, 0, none⟩) 1 1) [p1S m] := lit_str (t := 9) (by rw [hwx2]; exact blk_new x1 _) (Grew.refl _)
        try simp only [← hwx2]
        clear hwx2
        replace hl1 := hl1.grew hgx2
        refine hK.out _ _ ?_ (fun hHeld => ?_)
        · (try dsimp only); first | with_reducible assumption | exact hx2
        clear hK K
        try simp only [Act.put, List.setIfInBounds_toArray, List.set_cons_zero, List.set_cons_succ]
        refine wpAnyH_ready (rs := [7]) (by kernel_rfl) (by simp) ?_
        refine AllReadyH.cons (o := ?on156) ?hin156 ?restn156 AllReadyH.nil
        case hin156 => (simp only [List.getElem?_toArray, List.getElem?_cons_succ, List.getElem?_cons_zero]; exact rfl)
        intro K hK
        go_simp
        go_at_call 38
        refine (put_c _ _ (dropS R m) [p1S m] _ (HD.out.grew hx2) hl0 (by simp; omega)).mono ?_
        rintro e x3 ⟨u0, rfl, hu0, hgx3⟩
        have hx3 : Grew w4 x3 := hx2.trans hgx3
        obtain ⟨AU0, cU0, rfl⟩ := strs_slice hu0.strs
        have hs0 := hu0.strs
        clear hu0
        replace hl1 := hl1.grew hgx3
        replace hl0 := hl0.grew hgx3
        refine hK.out _ _ ?_ (fun hHeld => ?_)
        · (try dsimp only); first | with_reducible assumption | exact hx3
        clear hK K
        try simp only [Act.put, List.setIfInBounds_toArray, List.set_cons_zero, List.set_cons_succ]
        refine wpAnyH_take (i := 8) (oi := ?on157) (v := ?vn157) ?hin157 ?an157 ?bn157 ?cn157 ?qn157 (Or.inl ⟨?dn157, ?hyn157⟩) hHeld ?restn157
        case hin157 => (simp only [List.getElem?_toArray, List.getElem?_cons_succ, List.getElem?_cons_zero]; exact rfl)
        case an157 => kernel_rfl
        case bn157 => kernel_rfl
        case cn157 => kernel_rfl
        case qn157 => exact fun _ _ _ h => h
        case dn157 => rfl
        case hyn157 => (intro z hSw; (try dsimp only at hSw); go_simp; (try with_reducible rfl))
        try simp only [Act.put, List.setIfInBounds_toArray, List.set_cons_zero, List.set_cons_succ]
        refine wpAnyH_ready (rs := [16]) (by kernel_rfl) (by simp) ?_
        refine AllReadyH.cons (o := ?on158) ?hin158 ?restn158 AllReadyH.nil
        case hin158 => (simp only [List.getElem?_toArray, List.getElem?_cons_succ, List.getElem?_cons_zero]; exact rfl)
        intro K hK
        go_simp
        go_at_call 38
        refine (put_c _ _ (dropS R m) [p2S m] _ (HD.out.grew hx3) hl1 (by simp; omega)).mono ?_
        rintro e x4 ⟨u1, rfl, hu1, hgx4⟩
        have hx4 : Grew w4 x4 := hx3.trans hgx4
        obtain ⟨AU1, cU1, rfl⟩ := strs_slice hu1.strs
        have hs1 := hu1.strs
        clear hu1
        replace hl1 := hl1.grew hgx4
        replace hl0 := hl0.grew hgx4
        replace hs0 := hs0.grew hgx4
        refine hK.out _ _ ?_ (fun hHeld => ?_)
        · (try dsimp only); first | with_reducible assumption | exact hx4
        clear hK K
        try simp only [Act.put, List.setIfInBounds_toArray, List.set_cons_zero, List.set_cons_succ]
        refine wpAnyH_take (i := 17) (oi := ?on159) (v := ?vn159) ?hin159 ?an159 ?bn159 ?cn159 ?qn159 (Or.inl ⟨?dn159, ?hyn159⟩) hHeld ?restn159
        case hin159 => (simp only [List.getElem?_toArray, List.getElem?_cons_succ, List.getElem?_cons_zero]; exact rfl)
        case an159 => kernel_rfl
        case bn159 => kernel_rfl
        case cn159 => kernel_rfl
        case qn159 => exact fun _ _ _ h => h
        case dn159 => rfl
        case hyn159 => (intro z hSw; (try dsimp only at hSw); go_simp; (try with_reducible rfl))
        try simp only [Act.put, List.setIfInBounds_toArray, List.set_cons_zero, List.set_cons_succ]
        refine wpAnyH_ready (rs := [18]) (by kernel_rfl) (by simp) ?_
        refine AllReadyH.cons (o := ?on160) ?hin160 ?restn160 AllReadyH.nil
        case hin160 => (simp only [List.getElem?_toArray, List.getElem?_cons_succ, List.getElem?_cons_zero]; exact rfl)
        intro K hK
        go_simp
        refine hK.out _ _ ?_ (fun hHeld => ?_)
        · (try dsimp only); first | with_reducible assumption | exact (hx4.alloc _)
        clear hK K
        try simp only [Act.put, List.setIfInBounds_toArray, List.set_cons_zero, List.set_cons_succ]
        refine wpAnyH_take (i := 19) (oi := ?on161) (v := ?vn161) ?hin161 ?an161 ?bn161 ?cn161 ?qn161 (Or.inl ⟨?dn161, ?hyn161⟩) hHeld ?restn161
        case hin161 => (simp only [List.getElem?_toArray, List.getElem?_cons_succ, List.getElem?_cons_zero]; exact rfl)
        case an161 => kernel_rfl
        case bn161 => kernel_rfl
        case cn161 => kernel_rfl
        case qn161 => exact fun _ _ _ h => h
        case dn161 => rfl
        case hyn161 => (intro z hSw; (try dsimp only at hSw); go_simp; (try with_reducible rfl))
        try simp only [Act.put, List.setIfInBounds_toArray, List.set_cons_zero, List.set_cons_succ]
        refine wpAnyH_take (i := 20) (oi := ?on162) (v := ?vn162) ?hin162 ?an162 ?bn162 ?cn162 ?qn162 (Or.inl ⟨?dn162, ?hyn162⟩) hHeld ?restn162
        case hin162 => (simp only [List.getElem?_toArray, List.getElem?_cons_succ, List.getElem?_cons_zero]; exact rfl)
        case an162 => kernel_rfl
        case bn162 => kernel_rfl
        case cn162 => kernel_rfl
        case qn162 => exact fun _ _ _ h => h
        case dn162 => rfl
        case hyn162 => (intro z hSw; (try dsimp only at hSw); go_simp; (try with_reducible rfl))
        try simp only [Act.put, List.setIfInBounds_toArray, List.set_cons_zero, List.set_cons_succ]
        refine wpAnyH_done (by kernel_rfl) ?_ _
        go_wp2_with fail
        go_ret2
        have hX := HX.out
        rw [rgF_4 HKS.out] at hX
        rw [← hX]
        exact ⟨_, _, _, rfl, fun _ => rdM_two (blk_new x4 _) (Strs.grew (HA.out.grew (HG4.out.trans hx4)) ((Grew.refl _).alloc _)) (Strs.grew hs0 ((Grew.refl _).alloc _)) (Strs.grew (HA.out.grew (HG4.out.trans hx4)) ((Grew.refl _).alloc _)) (Strs.grew hs1 ((Grew.refl _).alloc _)), HG4.out.trans (hx4.alloc _)⟩
    · have hkb : (kk == 2) = false := by simpa using hk
      go_wp2_with fail
      go_ret2
      have hX := HX.out
      rw [rgF_4n (by rw [HKS.out]; exact hk)] at hX
      rw [← hX]
      exact ⟨_, _, _, rfl, (fun h => by cases h), HG4.out⟩
  by_cases h6 : r = 6
  · subst h6
    by_cases hk : kk = 3
    · subst hk
      obtain rfl : pt = [p1S m, p2S m] := by have := HP.out; simpa using this
      obtain ⟨bp, op, cp, hpv, hcp, hcp2, hbp, hpc⟩ := strs_two HPr.out
      obtain ⟨rfl, rfl⟩ : A4 = some ⟨bp, op, none⟩ ∧ c4 = cp := by simpa using hpv
      have hp1c := fun W (hW : Grew w4 W) => (hpc W hW).1
      have hp2c := fun W (hW : Grew w4 W) => (hpc W hW).2
      clear hpv hpc
      go_wp2_with fail
      refine wp_region_held_drew (S := fun w' => Grew w4 w') (by kernel_rfl) hd4 (fun hHeld => ?_)
      refine wpAnyH_take (i := 0) (oi := ?on163) (v := ?vn163) ?hin163 ?an163 ?bn163 ?cn163 ?qn163 (Or.inl ⟨?dn163, ?hyn163⟩) hHeld ?restn163
      case hin163 => (simp only [List.getElem?_toArray, List.getElem?_cons_zero]; exact rfl)
      case an163 => kernel_rfl
      case bn163 => kernel_rfl
      case cn163 => kernel_rfl
      case qn163 => exact fun _ _ _ h => h
      case dn163 => rfl
      case hyn163 => (intro z hSw; (try dsimp only at hSw); go_simp; (try with_reducible rfl))
      try simp only [Act.put, List.setIfInBounds_toArray, List.set_cons_zero, List.set_cons_succ]
      refine wpAnyH_take (i := 1) (oi := ?on164) (v := ?vn164) ?hin164 ?an164 ?bn164 ?cn164 ?qn164 (Or.inl ⟨?dn164, ?hyn164⟩) hHeld ?restn164
      case hin164 => (simp only [List.getElem?_toArray, List.getElem?_cons_succ, List.getElem?_cons_zero]; exact rfl)
      case an164 => kernel_rfl
      case bn164 => kernel_rfl
      case cn164 => kernel_rfl
      case qn164 => exact fun _ _ _ h => h
      case dn164 => rfl
      case hyn164 => (intro z hSw; (try dsimp only at hSw); go_simp; (try with_reducible rfl))
      try simp only [Act.put, List.setIfInBounds_toArray, List.set_cons_zero, List.set_cons_succ]
      refine wpAnyH_take (i := 2) (oi := ?on165) (v := ?vn165) ?hin165 ?an165 ?bn165 ?cn165 ?qn165 (Or.inl ⟨?dn165, ?hyn165⟩) hHeld ?restn165
      case hin165 => (simp only [List.getElem?_toArray, List.getElem?_cons_succ, List.getElem?_cons_zero]; exact rfl)
      case an165 => kernel_rfl
      case bn165 => kernel_rfl
      case cn165 => kernel_rfl
      case qn165 => exact fun _ _ _ h => h
      case dn165 => rfl
      case hyn165 => (intro z hSw; (try dsimp only at hSw); go_simp; (try with_reducible rfl))
      try simp only [Act.put, List.setIfInBounds_toArray, List.set_cons_zero, List.set_cons_succ]
      refine wpAnyH_take (i := 3) (oi := ?on166) (v := ?vn166) ?hin166 ?an166 ?bn166 ?cn166 ?qn166 (Or.inl ⟨?dn166, ?hyn166⟩) hHeld ?restn166
      case hin166 => (simp only [List.getElem?_toArray, List.getElem?_cons_succ, List.getElem?_cons_zero]; exact rfl)
      case an166 => kernel_rfl
      case bn166 => kernel_rfl
      case cn166 => kernel_rfl
      case qn166 => exact fun _ _ _ h => h
      case dn166 => rfl
      case hyn166 => (intro z hSw; (try dsimp only at hSw); go_simp; (try with_reducible rfl))
      try simp only [Act.put, List.setIfInBounds_toArray, List.set_cons_zero, List.set_cons_succ]
      refine wpAnyH_ready (rs := [4]) (by kernel_rfl) (by simp) ?_
      refine AllReadyH.cons (o := ?on167) ?hin167 ?restn167 AllReadyH.nil
      case hin167 => (simp only [List.getElem?_toArray, List.getElem?_cons_succ, List.getElem?_cons_zero]; exact rfl)
      intro K hK
      go_simp
      go_at_call 38
      refine (put_c _ _ (dropS R m) [p1S m, p2S m] _ (HD.out.grew hd4) (HPr.out.grew hd4) (by simp; omega)).mono ?_
      rintro e x1 ⟨u0, rfl, hu0, hgx1⟩
      have hx1 : Grew w4 x1 := hd4.trans hgx1
      obtain ⟨AU0, cU0, rfl⟩ := strs_slice hu0.strs
      have hs0 := hu0.strs
      clear hu0
      refine hK.out _ _ ?_ (fun hHeld => ?_)
      · (try dsimp only); first | with_reducible assumption | exact hx1
      clear hK K
      try simp only [Act.put, List.setIfInBounds_toArray, List.set_cons_zero, List.set_cons_succ]
      refine wpAnyH_take (i := 5) (oi := ?on168) (v := ?vn168) ?hin168 ?an168 ?bn168 ?cn168 ?qn168 (Or.inl ⟨?dn168, ?hyn168⟩) hHeld ?restn168
      case hin168 => (simp only [List.getElem?_toArray, List.getElem?_cons_succ, List.getElem?_cons_zero]; exact rfl)
      case an168 => kernel_rfl
      case bn168 => kernel_rfl
      case cn168 => kernel_rfl
      case qn168 => exact fun _ _ _ h => h
      case dn168 => rfl
      case hyn168 => (intro z hSw; (try dsimp only at hSw); go_simp; (try with_reducible rfl))
      try simp only [Act.put, List.setIfInBounds_toArray, List.set_cons_zero, List.set_cons_succ]
      refine wpAnyH_ready (rs := [6]) (by kernel_rfl) (by simp) ?_
      refine AllReadyH.cons (o := ?on169) ?hin169 ?restn169 AllReadyH.nil
      case hin169 => (simp only [List.getElem?_toArray, List.getElem?_cons_succ, List.getElem?_cons_zero]; exact rfl)
      intro K hK
      go_simp
      refine hK.out _ _ ?_ (fun hHeld => ?_)
      · (try dsimp only); first | with_reducible assumption | exact (hx1.alloc _)
      clear hK K
      try simp only [Act.put, List.setIfInBounds_toArray, List.set_cons_zero, List.set_cons_succ]
      refine wpAnyH_take (i := 7) (oi := ?on170) (v := ?vn170) ?hin170 ?an170 ?bn170 ?cn170 ?qn170 (Or.inl ⟨?dn170, ?hyn170⟩) hHeld ?restn170
      case hin170 => (simp only [List.getElem?_toArray, List.getElem?_cons_succ, List.getElem?_cons_zero]; exact rfl)
      case an170 => kernel_rfl
      case bn170 => kernel_rfl
      case cn170 => kernel_rfl
      case qn170 => exact fun _ _ _ h => h
      case dn170 => rfl
      case hyn170 => (intro z hSw; (try dsimp only at hSw); go_simp; (try with_reducible rfl))
      try simp only [Act.put, List.setIfInBounds_toArray, List.set_cons_zero, List.set_cons_succ]
      refine wpAnyH_take (i := 8) (oi := ?on171) (v := ?vn171) ?hin171 ?an171 ?bn171 ?cn171 ?qn171 (Or.inl ⟨?dn171, ?hyn171⟩) hHeld ?restn171
      case hin171 => (simp only [List.getElem?_toArray, List.getElem?_cons_succ, List.getElem?_cons_zero]; exact rfl)
      case an171 => kernel_rfl
      case bn171 => kernel_rfl
      case cn171 => kernel_rfl
      case qn171 => exact fun _ _ _ h => h
      case dn171 => rfl
      case hyn171 => (intro z hSw; (try dsimp only at hSw); go_simp; (try with_reducible rfl))
      try simp only [Act.put, List.setIfInBounds_toArray, List.set_cons_zero, List.set_cons_succ]
      refine wpAnyH_done (by kernel_rfl) ?_ _
      go_wp2_with fail
      go_ret2
      have hX := HX.out
      rw [rgF_6 HKS.out] at hX
      rw [← hX]
      exact ⟨_, _, _, rfl, fun _ => rdM_one (blk_new x1 _) (Strs.grew (HA.out.grew (HG4.out.trans hx1)) ((Grew.refl _).alloc _)) (Strs.grew hs0 ((Grew.refl _).alloc _)), HG4.out.trans (hx1.alloc _)⟩
    · have hkb : (kk == 3) = false := by simpa using hk
      go_wp2_with fail
      go_ret2
      have hX := HX.out
      rw [rgF_6n (by rw [HKS.out]; exact hk)] at hX
      rw [← hX]
      exact ⟨_, _, _, rfl, (fun h => by cases h), HG4.out⟩
  by_cases h8 : r = 8
  · subst h8
    by_cases hk : kk = 4
    · subst hk
      obtain rfl : pt = [p1S m, p2S m] := by have := HP.out; simpa using this
      obtain ⟨bp, op, cp, hpv, hcp, hcp2, hbp, hpc⟩ := strs_two HPr.out
      obtain ⟨rfl, rfl⟩ : A4 = some ⟨bp, op, none⟩ ∧ c4 = cp := by simpa using hpv
      have hp1c := fun W (hW : Grew w4 W) => (hpc W hW).1
      have hp2c := fun W (hW : Grew w4 W) => (hpc W hW).2
      clear hpv hpc
      go_wp2_with fail
      refine wp_region_held_drew (S := fun w' => Grew w4 w') (by kernel_rfl) hd4 (fun hHeld => ?_)
      refine wpAnyH_take (i := 0) (oi := ?on172) (v := ?vn172) ?hin172 ?an172 ?bn172 ?cn172 ?qn172 (Or.inl ⟨?dn172, ?hyn172⟩) hHeld ?restn172
      case hin172 => (simp only [List.getElem?_toArray, List.getElem?_cons_zero]; exact rfl)
      case an172 => kernel_rfl
      case bn172 => kernel_rfl
      case cn172 => kernel_rfl
      case qn172 => exact fun _ _ _ h => h
      case dn172 => rfl
      case hyn172 => (intro z hSw; (try dsimp only at hSw); go_simp; (try with_reducible rfl))
      try simp only [Act.put, List.setIfInBounds_toArray, List.set_cons_zero, List.set_cons_succ]
      refine wpAnyH_take (i := 1) (oi := ?on173) (v := ?vn173) ?hin173 ?an173 ?bn173 ?cn173 ?qn173 (Or.inl ⟨?dn173, ?hyn173⟩) hHeld ?restn173
      case hin173 => (simp only [List.getElem?_toArray, List.getElem?_cons_succ, List.getElem?_cons_zero]; exact rfl)
      case an173 => kernel_rfl
      case bn173 => kernel_rfl
      case cn173 => kernel_rfl
      case qn173 => exact fun _ _ _ h => h
      case dn173 => rfl
      case hyn173 => (intro z hSw; (try dsimp only at hSw); go_simp; (try with_reducible rfl))
      try simp only [Act.put, List.setIfInBounds_toArray, List.set_cons_zero, List.set_cons_succ]
      refine wpAnyH_take (i := 2) (oi := ?on174) (v := ?vn174) ?hin174 ?an174 ?bn174 ?cn174 ?qn174 (Or.inl ⟨?dn174, ?hyn174⟩) hHeld ?restn174
      case hin174 => (simp only [List.getElem?_toArray, List.getElem?_cons_succ, List.getElem?_cons_zero]; exact rfl)
      case an174 => kernel_rfl
      case bn174 => kernel_rfl
      case cn174 => kernel_rfl
      case qn174 => exact fun _ _ _ h => h
      case dn174 => rfl
      case hyn174 => (intro z hSw; (try dsimp only at hSw); go_simp; (try with_reducible rfl))
      try simp only [Act.put, List.setIfInBounds_toArray, List.set_cons_zero, List.set_cons_succ]
      refine wpAnyH_take (i := 3) (oi := ?on175) (v := ?vn175) ?hin175 ?an175 ?bn175 ?cn175 ?qn175 (Or.inl ⟨?dn175, ?hyn175⟩) hHeld ?restn175
      case hin175 => (simp only [List.getElem?_toArray, List.getElem?_cons_succ, List.getElem?_cons_zero]; exact rfl)
      case an175 => kernel_rfl
      case bn175 => kernel_rfl
      case cn175 => kernel_rfl
      case qn175 => exact fun _ _ _ h => h
      case dn175 => rfl
      case hyn175 => (intro z hSw; (try dsimp only at hSw); go_simp; (try with_reducible rfl))
      try simp only [Act.put, List.setIfInBounds_toArray, List.set_cons_zero, List.set_cons_succ]
      refine wpAnyH_take (i := 4) (oi := ?on176) (v := ?vn176) ?hin176 ?an176 ?bn176 ?cn176 ?qn176 (Or.inl ⟨?dn176, ?hyn176⟩) hHeld ?restn176
      case hin176 => (simp only [List.getElem?_toArray, List.getElem?_cons_succ, List.getElem?_cons_zero]; exact rfl)
      case an176 => kernel_rfl
      case bn176 => kernel_rfl
      case cn176 => kernel_rfl
      case qn176 => exact fun _ _ _ h => h
      case dn176 => rfl
      case hyn176 => (intro z hSw; (try dsimp only at hSw); go_simp; (try with_reducible rfl))
      try simp only [Act.put, List.setIfInBounds_toArray, List.set_cons_zero, List.set_cons_succ]
      refine wpAnyH_take (i := 7) (oi := ?on177) (v := ?vn177) ?hin177 ?an177 ?bn177 ?cn177 ?qn177 (Or.inl ⟨?dn177, ?hyn177⟩) hHeld ?restn177
      case hin177 => (simp only [List.getElem?_toArray, List.getElem?_cons_succ, List.getElem?_cons_zero]; exact rfl)
      case an177 => kernel_rfl
      case bn177 => kernel_rfl
      case cn177 => kernel_rfl
      case qn177 => exact fun _ _ _ h => h
      case dn177 => rfl
      case hyn177 => (intro z hSw; (try dsimp only at hSw); go_simp; (try with_reducible rfl))
      try simp only [Act.put, List.setIfInBounds_toArray, List.set_cons_zero, List.set_cons_succ]
      refine wpAnyH_take (i := 8) (oi := ?on178) (v := ?vn178) ?hin178 ?an178 ?bn178 ?cn178 ?qn178 (Or.inl ⟨?dn178, ?hyn178⟩) hHeld ?restn178
      case hin178 => (simp only [List.getElem?_toArray, List.getElem?_cons_succ, List.getElem?_cons_zero]; exact rfl)
      case an178 => kernel_rfl
      case bn178 => kernel_rfl
      case cn178 => kernel_rfl
      case qn178 => exact fun _ _ _ h => h
      case dn178 => rfl
      case hyn178 => (intro z hSw; (try dsimp only at hSw); go_simp; (try with_reducible rfl))
      try simp only [Act.put, List.setIfInBounds_toArray, List.set_cons_zero, List.set_cons_succ]
      refine wpAnyH_take (i := 9) (oi := ?on179) (v := ?vn179) ?hin179 ?an179 ?bn179 ?cn179 ?qn179 (Or.inl ⟨?dn179, ?hyn179⟩) hHeld ?restn179
      case hin179 => (simp only [List.getElem?_toArray, List.getElem?_cons_succ, List.getElem?_cons_zero]; exact rfl)
      case an179 => kernel_rfl
      case bn179 => kernel_rfl
      case cn179 => kernel_rfl
      case qn179 => exact fun _ _ _ h => h
      case dn179 => rfl
      case hyn179 => (intro z hSw; (try dsimp only at hSw); go_simp; (try with_reducible rfl))
      try simp only [Act.put, List.setIfInBounds_toArray, List.set_cons_zero, List.set_cons_succ]
      refine wpAnyH_take (i := 10) (oi := ?on180) (v := ?vn180) ?hin180 ?an180 ?bn180 ?cn180 ?qn180 (Or.inl ⟨?dn180, ?hyn180⟩) hHeld ?restn180
      case hin180 => (simp only [List.getElem?_toArray, List.getElem?_cons_succ, List.getElem?_cons_zero]; exact rfl)
      case an180 => kernel_rfl
      case bn180 => kernel_rfl
      case cn180 => kernel_rfl
      case qn180 => exact fun _ _ _ h => h
      case dn180 => rfl
      case hyn180 => (intro z hSw; (try dsimp only at hSw); go_simp; (try with_reducible rfl))
      try simp only [Act.put, List.setIfInBounds_toArray, List.set_cons_zero, List.set_cons_succ]
      refine wpAnyH_ready (rs := [5, 11]) (by kernel_rfl) (by simp) ?_
      refine AllReadyH.cons (o := ?on181) ?hin181 ?restn181 (AllReadyH.cons (o := ?on182) ?hin182 ?restn182 AllReadyH.nil)
      case hin181 => (simp only [List.getElem?_toArray, List.getElem?_cons_succ, List.getElem?_cons_zero]; exact rfl)
      case hin182 => (simp only [List.getElem?_toArray, List.getElem?_cons_succ, List.getElem?_cons_zero]; exact rfl)
      case restn181 =>
        intro K hK
        go_simp
        obtain ⟨x1, hwx1⟩ : ∃ W, W = (w4.alloc (.cells #[.string (p1S m)] 9)).drew := ⟨_, rfl⟩
        have hgx1 : Grew w4 x1 := by rw [hwx1]; exact ((Grew.refl _).alloc _).drew
        have hx1 : Grew w4 x1 := hgx1
        have hl0 : Strs x1 (.slice (some ⟨w4.heap.size, 0, none⟩) 1 1) [p1S m] := lit_str (t := 9) (by rw [hwx1]; exact blk_new w4 _) (Grew.refl _)
        try simp only [← hwx1]
        clear hwx1
        refine hK.out _ _ ?_ (fun hHeld => ?_)
        · (try dsimp only); first | with_reducible assumption | exact hx1
        clear hK K
        try simp only [Act.put, List.setIfInBounds_toArray, List.set_cons_zero, List.set_cons_succ]
        refine wpAnyH_ready (rs := [6, 11]) (by kernel_rfl) (by simp) ?_
        refine AllReadyH.cons (o := ?on183) ?hin183 ?restn183 (AllReadyH.cons (o := ?on184) ?hin184 ?restn184 AllReadyH.nil)
        case hin183 => (simp only [List.getElem?_toArray, List.getElem?_cons_succ, List.getElem?_cons_zero]; exact rfl)
        case hin184 => (simp only [List.getElem?_toArray, List.getElem?_cons_succ, List.getElem?_cons_zero]; exact rfl)
        case restn183 =>
          intro K hK
          go_simp
          go_at_call 38
          refine (put_c _ _ L [p1S m] _ (HA.out.grew (HG4.out.trans hx1)) hl0 (by simp; omega)).mono ?_
          rintro e x2 ⟨u0, rfl, hu0, hgx2⟩
          have hx2 : Grew w4 x2 := hx1.trans hgx2
          obtain ⟨AU0, cU0, rfl⟩ := strs_slice hu0.strs
          have hs0 := hu0.strs
          clear hu0
          replace hl0 := hl0.grew hgx2
          refine hK.out _ _ ?_ (fun hHeld => ?_)
          · (try dsimp only); first | with_reducible assumption | exact hx2
          clear hK K
          try simp only [Act.put, List.setIfInBounds_toArray, List.set_cons_zero, List.set_cons_succ]
          refine wpAnyH_ready (rs := [11]) (by kernel_rfl) (by simp) ?_
          refine AllReadyH.cons (o := ?on185) ?hin185 ?restn185 AllReadyH.nil
          case hin185 => (simp only [List.getElem?_toArray, List.getElem?_cons_succ, List.getElem?_cons_zero]; exact rfl)
          intro K hK
          go_simp
          obtain ⟨x3, hwx3⟩ : ∃ W, W = x2.alloc (.cells #[.string (p2S m)] 9) := ⟨_, rfl⟩
          have hgx3 : Grew x2 x3 := by rw [hwx3]; exact (Grew.refl _).alloc _
          have hx3 : Grew w4 x3 := hx2.trans hgx3
          have hl1 : Strs x3 (.slice (some ⟨x2.heap.size, 0, none⟩) 1 1) [p2S m] := lit_str (t := 9) (by rw [hwx3]; exact blk_new x2 _) (Grew.refl _)
          try simp only [← hwx3]
          clear hwx3
          replace hl0 := hl0.grew hgx3
          replace hs0 := hs0.grew hgx3
          refine hK.out _ _ ?_ (fun hHeld => ?_)
          · (try dsimp only); first | with_reducible assumption | exact hx3
          clear hK K
          try simp only [Act.put, List.setIfInBounds_toArray, List.set_cons_zero, List.set_cons_succ]
          refine wpAnyH_ready (rs := [12]) (by kernel_rfl) (by simp) ?_
          refine AllReadyH.cons (o := ?on186) ?hin186 ?restn186 AllReadyH.nil
          case hin186 => (simp only [List.getElem?_toArray, List.getElem?_cons_succ, List.getElem?_cons_zero]; exact rfl)
          intro K hK
          go_simp
          go_at_call 38
          refine (put_c _ _ (dropS R m) [p2S m] _ (HD.out.grew hx3) hl1 (by simp; omega)).mono ?_
          rintro e x4 ⟨u1, rfl, hu1, hgx4⟩
          have hx4 : Grew w4 x4 := hx3.trans hgx4
          obtain ⟨AU1, cU1, rfl⟩ := strs_slice hu1.strs
          have hs1 := hu1.strs
          clear hu1
          replace hl0 := hl0.grew hgx4
          replace hs0 := hs0.grew hgx4
          replace hl1 := hl1.grew hgx4
          refine hK.out _ _ ?_ (fun hHeld => ?_)
          · (try dsimp only); first | with_reducible assumption | exact hx4
          clear hK K
          try simp only [Act.put, List.setIfInBounds_toArray, List.set_cons_zero, List.set_cons_succ]
          refine wpAnyH_take (i := 13) (oi := ?on187) (v := ?vn187) ?hin187 ?an187 ?bn187 ?cn187 ?qn187 (Or.inl ⟨?dn187, ?hyn187⟩) hHeld ?restn187
          case hin187 => (simp only [List.getElem?_toArray, List.getElem?_cons_succ, List.getElem?_cons_zero]; exact rfl)
          case an187 => kernel_rfl
          case bn187 => kernel_rfl
          case cn187 => kernel_rfl
          case qn187 => exact fun _ _ _ h => h
          case dn187 => rfl
          case hyn187 => (intro z hSw; (try dsimp only at hSw); go_simp; (try with_reducible rfl))
          try simp only [Act.put, List.setIfInBounds_toArray, List.set_cons_zero, List.set_cons_succ]
          refine wpAnyH_ready (rs := [14]) (by kernel_rfl) (by simp) ?_
          refine AllReadyH.cons (o := ?on188) ?hin188 ?restn188 AllReadyH.nil
          case hin188 => (simp only [List.getElem?_toArray, List.getElem?_cons_succ, List.getElem?_cons_zero]; exact rfl)
          intro K hK
          go_simp
          refine hK.out _ _ ?_ (fun hHeld => ?_)
          · (try dsimp only); first | with_reducible assumption | exact (hx4.alloc _)
          clear hK K
          try simp only [Act.put, List.setIfInBounds_toArray, List.set_cons_zero, List.set_cons_succ]
          refine wpAnyH_take (i := 15) (oi := ?on189) (v := ?vn189) ?hin189 ?an189 ?bn189 ?cn189 ?qn189 (Or.inl ⟨?dn189, ?hyn189⟩) hHeld ?restn189
          case hin189 => (simp only [List.getElem?_toArray, List.getElem?_cons_succ, List.getElem?_cons_zero]; exact rfl)
          case an189 => kernel_rfl
          case bn189 => kernel_rfl
          case cn189 => kernel_rfl
          case qn189 => exact fun _ _ _ h => h
          case dn189 => rfl
          case hyn189 => (intro z hSw; (try dsimp only at hSw); go_simp; (try with_reducible rfl))
          try simp only [Act.put, List.setIfInBounds_toArray, List.set_cons_zero, List.set_cons_succ]
          refine wpAnyH_take (i := 16) (oi := ?on190) (v := ?vn190) ?hin190 ?an190 ?bn190 ?cn190 ?qn190 (Or.inl ⟨?dn190, ?hyn190⟩) hHeld ?restn190
          case hin190 => (simp only [List.getElem?_toArray, List.getElem?_cons_succ, List.getElem?_cons_zero]; exact rfl)
          case an190 => kernel_rfl
          case bn190 => kernel_rfl
          case cn190 => kernel_rfl
          case qn190 => exact fun _ _ _ h => h
          case dn190 => rfl
          case hyn190 => (intro z hSw; (try dsimp only at hSw); go_simp; (try with_reducible rfl))
          try simp only [Act.put, List.setIfInBounds_toArray, List.set_cons_zero, List.set_cons_succ]
          refine wpAnyH_done (by kernel_rfl) ?_ _
          go_wp2_with fail
          go_ret2
          have hX := HX.out
          rw [rgF_8 HKS.out] at hX
          rw [← hX]
          exact ⟨_, _, _, rfl, fun _ => rdM_one (blk_new x4 _) (Strs.grew hs0 ((Grew.refl _).alloc _)) (Strs.grew hs1 ((Grew.refl _).alloc _)), HG4.out.trans (hx4.alloc _)⟩
        case restn184 =>
          intro K hK
          go_simp
          obtain ⟨x2, hwx2⟩ : ∃ W, W = x1.alloc (.cells #[.string (p2S m)] 9) := ⟨_, rfl⟩
          have hgx2 : Grew x1 x2 := by rw [hwx2]; exact (Grew.refl _).alloc _
          have hx2 : Grew w4 x2 := hx1.trans hgx2
          have hl1 : Strs x2 (.slice (some ⟨x1.heap.size, 0, none⟩) 1 1) [p2S m] := lit_str (t := 9) (by rw [hwx2]; exact blk_new x1 _) (Grew.refl _)
          try simp only [← hwx2]
          clear hwx2
          replace hl0 := hl0.grew hgx2
          refine hK.out _ _ ?_ (fun hHeld => ?_)
          · (try dsimp only); first | with_reducible assumption | exact hx2
          clear hK K
          try simp only [Act.put, List.setIfInBounds_toArray, List.set_cons_zero, List.set_cons_succ]
          refine wpAnyH_ready (rs := [6]) (by kernel_rfl) (by simp) ?_
          refine AllReadyH.cons (o := ?on191) ?hin191 ?restn191 AllReadyH.nil
          case hin191 => (simp only [List.getElem?_toArray, List.getElem?_cons_succ, List.getElem?_cons_zero]; exact rfl)
          intro K hK
          go_simp
          go_at_call 38
          refine (put_c _ _ L [p1S m] _ (HA.out.grew (HG4.out.trans hx2)) hl0 (by simp; omega)).mono ?_
          rintro e x3 ⟨u0, rfl, hu0, hgx3⟩
          have hx3 : Grew w4 x3 := hx2.trans hgx3
          obtain ⟨AU0, cU0, rfl⟩ := strs_slice hu0.strs
          have hs0 := hu0.strs
          clear hu0
          replace hl0 := hl0.grew hgx3
          replace hl1 := hl1.grew hgx3
          refine hK.out _ _ ?_ (fun hHeld => ?_)
          · (try dsimp only); first | with_reducible assumption | exact hx3
          clear hK K
          try simp only [Act.put, List.setIfInBounds_toArray, List.set_cons_zero, List.set_cons_succ]
          refine wpAnyH_ready (rs := [12]) (by kernel_rfl) (by simp) ?_
          refine AllReadyH.cons (o := ?on192) ?hin192 ?restn192 AllReadyH.nil
          case hin192 => (simp only [List.getElem?_toArray, List.getElem?_cons_succ, List.getElem?_cons_zero]; exact rfl)
          intro K hK
          go_simp
          go_at_call 38
          refine (put_c _ _ (dropS R m) [p2S m] _ (HD.out.grew hx3) hl1 (by simp; omega)).mono ?_
          rintro e x4 ⟨u1, rfl, hu1, hgx4⟩
          have hx4 : Grew w4 x4 := hx3.trans hgx4
          obtain ⟨AU1, cU1, rfl⟩ := strs_slice hu1.strs
          have hs1 := hu1.strs
          clear hu1
          replace hl0 := hl0.grew hgx4
          replace hl1 := hl1.grew hgx4
          replace hs0 := hs0.grew hgx4
          refine hK.out _ _ ?_ (fun hHeld => ?_)
          · (try dsimp only); first | with_reducible assumption | exact hx4
          clear hK K
          try simp only [Act.put, List.setIfInBounds_toArray, List.set_cons_zero, List.set_cons_succ]
          refine wpAnyH_take (i := 13) (oi := ?on193) (v := ?vn193) ?hin193 ?an193 ?bn193 ?cn193 ?qn193 (Or.inl ⟨?dn193, ?hyn193⟩) hHeld ?restn193
          case hin193 => (simp only [List.getElem?_toArray, List.getElem?_cons_succ, List.getElem?_cons_zero]; exact rfl)
          case an193 => kernel_rfl
          case bn193 => kernel_rfl
          case cn193 => kernel_rfl
          case qn193 => exact fun _ _ _ h => h
          case dn193 => rfl
          case hyn193 => (intro z hSw; (try dsimp only at hSw); go_simp; (try with_reducible rfl))
          try simp only [Act.put, List.setIfInBounds_toArray, List.set_cons_zero, List.set_cons_succ]
          refine wpAnyH_ready (rs := [14]) (by kernel_rfl) (by simp) ?_
          refine AllReadyH.cons (o := ?on194) ?hin194 ?restn194 AllReadyH.nil
          case hin194 => (simp only [List.getElem?_toArray, List.getElem?_cons_succ, List.getElem?_cons_zero]; exact rfl)
          intro K hK
          go_simp
          refine hK.out _ _ ?_ (fun hHeld => ?_)
          · (try dsimp only); first | with_reducible assumption | exact (hx4.alloc _)
          clear hK K
          try simp only [Act.put, List.setIfInBounds_toArray, List.set_cons_zero, List.set_cons_succ]
          refine wpAnyH_take (i := 15) (oi := ?on195) (v := ?vn195) ?hin195 ?an195 ?bn195 ?cn195 ?qn195 (Or.inl ⟨?dn195, ?hyn195⟩) hHeld ?restn195
          case hin195 => (simp only [List.getElem?_toArray, List.getElem?_cons_succ, List.getElem?_cons_zero]; exact rfl)
          case an195 => kernel_rfl
          case bn195 => kernel_rfl
          case cn195 => kernel_rfl
          case qn195 => exact fun _ _ _ h => h
          case dn195 => rfl
          case hyn195 => (intro z hSw; (try dsimp only at hSw); go_simp; (try with_reducible rfl))
          try simp only [Act.put, List.setIfInBounds_toArray, List.set_cons_zero, List.set_cons_succ]
          refine wpAnyH_take (i := 16) (oi := ?on196) (v := ?vn196) ?hin196 ?an196 ?bn196 ?cn196 ?qn196 (Or.inl ⟨?dn196, ?hyn196⟩) hHeld ?restn196
          case hin196 => (simp only [List.getElem?_toArray, List.getElem?_cons_succ, List.getElem?_cons_zero]; exact rfl)
          case an196 => kernel_rfl
          case bn196 => kernel_rfl
          case cn196 => kernel_rfl
          case qn196 => exact fun _ _ _ h => h
          case dn196 => rfl
          case hyn196 => (intro z hSw; (try dsimp only at hSw); go_simp; (try with_reducible rfl))
          try simp only [Act.put, List.setIfInBounds_toArray, List.set_cons_zero, List.set_cons_succ]
          refine wpAnyH_done (by kernel_rfl) ?_ _
          go_wp2_with fail
          go_ret2
          have hX := HX.out
          rw [rgF_8 HKS.out] at hX
          rw [← hX]
          exact ⟨_, _, _, rfl, fun _ => rdM_one (blk_new x4 _) (Strs.grew hs0 ((Grew.refl _).alloc _)) (Strs.grew hs1 ((Grew.refl _).alloc _)), HG4.out.trans (hx4.alloc _)⟩
      case restn182 =>
        intro K hK
        go_simp
        obtain ⟨x1, hwx1⟩ : ∃ W, W = (w4.alloc (.cells #[.string (p2S m)] 9)).drew := ⟨_, rfl⟩
        have hgx1 : Grew w4 x1 := by rw [hwx1]; exact ((Grew.refl _).alloc _).drew
        have hx1 : Grew w4 x1 := hgx1
        have hl1 : Strs x1 (.slice (some ⟨w4.heap.size, 0, none⟩) 1 1) [p2S m] := lit_str (t := 9) (by rw [hwx1]; exact blk_new w4 _) (Grew.refl _)
        try simp only [← hwx1]
        clear hwx1
        refine hK.out _ _ ?_ (fun hHeld => ?_)
        · (try dsimp only); first | with_reducible assumption | exact hx1
        clear hK K
        try simp only [Act.put, List.setIfInBounds_toArray, List.set_cons_zero, List.set_cons_succ]
        refine wpAnyH_ready (rs := [5]) (by kernel_rfl) (by simp) ?_
        refine AllReadyH.cons (o := ?on197) ?hin197 ?restn197 AllReadyH.nil
        case hin197 => (simp only [List.getElem?_toArray, List.getElem?_cons_succ, List.getElem?_cons_zero]; exact rfl)
        intro K hK
        go_simp
        obtain ⟨x2, hwx2⟩ : ∃ W, W = x1.alloc (.cells #[.string (p1S m)] 9) := ⟨_, rfl⟩
        have hgx2 : Grew x1 x2 := by rw [hwx2]; exact (Grew.refl _).alloc _
        have hx2 : Grew w4 x2 := hx1.trans hgx2
        have hl0 : Strs x2 (.slice (some ⟨x1.heap.size, 0, none⟩) 1 1) [p1S m] := lit_str (t := 9) (by rw [hwx2]; exact blk_new x1 _) (Grew.refl _)
        try simp only [← hwx2]
        clear hwx2
        replace hl1 := hl1.grew hgx2
        refine hK.out _ _ ?_ (fun hHeld => ?_)
        · (try dsimp only); first | with_reducible assumption | exact hx2
        clear hK K
        try simp only [Act.put, List.setIfInBounds_toArray, List.set_cons_zero, List.set_cons_succ]
        refine wpAnyH_ready (rs := [6]) (by kernel_rfl) (by simp) ?_
        refine AllReadyH.cons (o := ?on198) ?hin198 ?restn198 AllReadyH.nil
        case hin198 => (simp only [List.getElem?_toArray, List.getElem?_cons_succ, List.getElem?_cons_zero]; exact rfl)
        intro K hK
        go_simp
        go_at_call 38
        refine (put_c _ _ L [p1S m] _ (HA.out.grew (HG4.out.trans hx2)) hl0 (by simp; omega)).mono ?_
        rintro e x3 ⟨u0, rfl, hu0, hgx3⟩
        have hx3 : Grew w4 x3 := hx2.trans hgx3
        obtain ⟨AU0, cU0, rfl⟩ := strs_slice hu0.strs
        have hs0 := hu0.strs
        clear hu0
        replace hl1 := hl1.grew hgx3
        replace hl0 := hl0.grew hgx3
        refine hK.out _ _ ?_ (fun hHeld => ?_)
        · (try dsimp only); first | with_reducible assumption | exact hx3
        clear hK K
        try simp only [Act.put, List.setIfInBounds_toArray, List.set_cons_zero, List.set_cons_succ]
        refine wpAnyH_ready (rs := [12]) (by kernel_rfl) (by simp) ?_
        refine AllReadyH.cons (o := ?on199) ?hin199 ?restn199 AllReadyH.nil
        case hin199 => (simp only [List.getElem?_toArray, List.getElem?_cons_succ, List.getElem?_cons_zero]; exact rfl)
        intro K hK
        go_simp
        go_at_call 38
        refine (put_c _ _ (dropS R m) [p2S m] _ (HD.out.grew hx3) hl1 (by simp; omega)).mono ?_
        rintro e x4 ⟨u1, rfl, hu1, hgx4⟩
        have hx4 : Grew w4 x4 := hx3.trans hgx4
        obtain ⟨AU1, cU1, rfl⟩ := strs_slice hu1.strs
        have hs1 := hu1.strs
        clear hu1
        replace hl1 := hl1.grew hgx4
        replace hl0 := hl0.grew hgx4
        replace hs0 := hs0.grew hgx4
        refine hK.out _ _ ?_ (fun hHeld => ?_)
        · (try dsimp only); first | with_reducible assumption | exact hx4
        clear hK K
        try simp only [Act.put, List.setIfInBounds_toArray, List.set_cons_zero, List.set_cons_succ]
        refine wpAnyH_take (i := 13) (oi := ?on200) (v := ?vn200) ?hin200 ?an200 ?bn200 ?cn200 ?qn200 (Or.inl ⟨?dn200, ?hyn200⟩) hHeld ?restn200
        case hin200 => (simp only [List.getElem?_toArray, List.getElem?_cons_succ, List.getElem?_cons_zero]; exact rfl)
        case an200 => kernel_rfl
        case bn200 => kernel_rfl
        case cn200 => kernel_rfl
        case qn200 => exact fun _ _ _ h => h
        case dn200 => rfl
        case hyn200 => (intro z hSw; (try dsimp only at hSw); go_simp; (try with_reducible rfl))
        try simp only [Act.put, List.setIfInBounds_toArray, List.set_cons_zero, List.set_cons_succ]
        refine wpAnyH_ready (rs := [14]) (by kernel_rfl) (by simp) ?_
        refine AllReadyH.cons (o := ?on201) ?hin201 ?restn201 AllReadyH.nil
        case hin201 => (simp only [List.getElem?_toArray, List.getElem?_cons_succ, List.getElem?_cons_zero]; exact rfl)
        intro K hK
        go_simp
        refine hK.out _ _ ?_ (fun hHeld => ?_)
        · (try dsimp only); first | with_reducible assumption | exact (hx4.alloc _)
        clear hK K
        try simp only [Act.put, List.setIfInBounds_toArray, List.set_cons_zero, List.set_cons_succ]
        refine wpAnyH_take (i := 15) (oi := ?on202) (v := ?vn202) ?hin202 ?an202 ?bn202 ?cn202 ?qn202 (Or.inl ⟨?dn202, ?hyn202⟩) hHeld ?restn202
        case hin202 => (simp only [List.getElem?_toArray, List.getElem?_cons_succ, List.getElem?_cons_zero]; exact rfl)
        case an202 => kernel_rfl
        case bn202 => kernel_rfl
        case cn202 => kernel_rfl
        case qn202 => exact fun _ _ _ h => h
        case dn202 => rfl
        case hyn202 => (intro z hSw; (try dsimp only at hSw); go_simp; (try with_reducible rfl))
        try simp only [Act.put, List.setIfInBounds_toArray, List.set_cons_zero, List.set_cons_succ]
        refine wpAnyH_take (i := 16) (oi := ?on203) (v := ?vn203) ?hin203 ?an203 ?bn203 ?cn203 ?qn203 (Or.inl ⟨?dn203, ?hyn203⟩) hHeld ?restn203
        case hin203 => (simp only [List.getElem?_toArray, List.getElem?_cons_succ, List.getElem?_cons_zero]; exact rfl)
        case an203 => kernel_rfl
        case bn203 => kernel_rfl
        case cn203 => kernel_rfl
        case qn203 => exact fun _ _ _ h => h
        case dn203 => rfl
        case hyn203 => (intro z hSw; (try dsimp only at hSw); go_simp; (try with_reducible rfl))
        try simp only [Act.put, List.setIfInBounds_toArray, List.set_cons_zero, List.set_cons_succ]
        refine wpAnyH_done (by kernel_rfl) ?_ _
        go_wp2_with fail
        go_ret2
        have hX := HX.out
        rw [rgF_8 HKS.out] at hX
        rw [← hX]
        exact ⟨_, _, _, rfl, fun _ => rdM_one (blk_new x4 _) (Strs.grew hs0 ((Grew.refl _).alloc _)) (Strs.grew hs1 ((Grew.refl _).alloc _)), HG4.out.trans (hx4.alloc _)⟩
    · have hkb : (kk == 4) = false := by simpa using hk
      go_wp2_with fail
      go_ret2
      have hX := HX.out
      rw [rgF_8n (by rw [HKS.out]; exact hk)] at hX
      rw [← hX]
      exact ⟨_, _, _, rfl, (fun h => by cases h), HG4.out⟩
  by_cases h10 : r = 10
  · subst h10
    by_cases hk : kk = 6
    · subst hk
      obtain rfl : pt = [p1S m] := by have := HP.out; simpa using this
      obtain ⟨bp, op, cp, hpv, hcp, hcp2, hbp, hp1c⟩ := strs_one HPr.out
      obtain ⟨rfl, rfl⟩ : A4 = some ⟨bp, op, none⟩ ∧ c4 = cp := by simpa using hpv
      clear hpv
      have KR := Lib.hid (fun W => isReflexive_c lg W)
      go_wp2_with fail
      refine (KR.out _).mono ?_
      rintro e w5 ⟨rfl, hg5⟩
      cases hrf : rfx lg with
      | false =>
        go_wp2_with fail
        go_ret2
        have hX := HX.out
        rw [rgF_10r hrf] at hX
        rw [← hX]
        exact ⟨_, _, _, rfl, (fun h => by cases h), HG4.out.trans hg5⟩
      | true =>
      obtain ⟨w6, hw6⟩ : ∃ W, W = w5 := ⟨_, rfl⟩
      have HGG := Lib.hid (HG4.out.trans hg5)
      have HDD := Lib.hid (HD.out.grew hg5)
      have HPP := Lib.hid (HPr.out.grew hg5)
      have qq0 := fun W (hW : Grew w5 W) => q0 W (hg5.trans hW)
      have qq1 := fun W (hW : Grew w5 W) => q1 W (hg5.trans hW)
      have hpp1 := fun W (hW : Grew w5 W) => hp1c W (hg5.trans hW)
      have hrr := Grew.refl w5
      have hdd := hrr.drew
      clear w6 hw6 hg5 HG4 HD HPr q0 q1 hp1c hr4 hd4 hk4 kk0 h4
      go_wp2_with fail
      refine wp_region_held_drew (S := fun w' => Grew w5 w') (by kernel_rfl) hdd (fun hHeld => ?_)
      refine wpAnyH_take (i := 0) (oi := ?on204) (v := ?vn204) ?hin204 ?an204 ?bn204 ?cn204 ?qn204 (Or.inl ⟨?dn204, ?hyn204⟩) hHeld ?restn204
      case hin204 => (simp only [List.getElem?_toArray, List.getElem?_cons_zero]; exact rfl)
      case an204 => kernel_rfl
      case bn204 => kernel_rfl
      case cn204 => kernel_rfl
      case qn204 => exact fun _ _ _ h => h
      case dn204 => rfl
      case hyn204 => (intro z hSw; (try dsimp only at hSw); go_simp; (try with_reducible rfl))
      try simp only [Act.put, List.setIfInBounds_toArray, List.set_cons_zero, List.set_cons_succ]
      refine wpAnyH_take (i := 1) (oi := ?on205) (v := ?vn205) ?hin205 ?an205 ?bn205 ?cn205 ?qn205 (Or.inl ⟨?dn205, ?hyn205⟩) hHeld ?restn205
      case hin205 => (simp only [List.getElem?_toArray, List.getElem?_cons_succ, List.getElem?_cons_zero]; exact rfl)
      case an205 => kernel_rfl
      case bn205 => kernel_rfl
      case cn205 => kernel_rfl
      case qn205 => exact fun _ _ _ h => h
      case dn205 => rfl
      case hyn205 => (intro z hSw; (try dsimp only at hSw); go_simp; (try with_reducible rfl))
      try simp only [Act.put, List.setIfInBounds_toArray, List.set_cons_zero, List.set_cons_succ]
      refine wpAnyH_take (i := 2) (oi := ?on206) (v := ?vn206) ?hin206 ?an206 ?bn206 ?cn206 ?qn206 (Or.inl ⟨?dn206, ?hyn206⟩) hHeld ?restn206
      case hin206 => (simp only [List.getElem?_toArray, List.getElem?_cons_succ, List.getElem?_cons_zero]; exact rfl)
      case an206 => kernel_rfl
      case bn206 => kernel_rfl
      case cn206 => kernel_rfl
      case qn206 => exact fun _ _ _ h => h
      case dn206 => rfl
      case hyn206 => (intro z hSw; (try dsimp only at hSw); go_simp; (try with_reducible rfl))
      try simp only [Act.put, List.setIfInBounds_toArray, List.set_cons_zero, List.set_cons_succ]
      refine wpAnyH_take (i := 3) (oi := ?on207) (v := ?vn207) ?hin207 ?an207 ?bn207 ?cn207 ?qn207 (Or.inl ⟨?dn207, ?hyn207⟩) hHeld ?restn207
      case hin207 => (simp only [List.getElem?_toArray, List.getElem?_cons_succ, List.getElem?_cons_zero]; exact rfl)
      case an207 => kernel_rfl
      case bn207 => kernel_rfl
      case cn207 => kernel_rfl
      case qn207 => exact fun _ _ _ h => h
      case dn207 => rfl
      case hyn207 => (intro z hSw; (try dsimp only at hSw); go_simp; (try with_reducible rfl))
      try simp only [Act.put, List.setIfInBounds_toArray, List.set_cons_zero, List.set_cons_succ]
      refine wpAnyH_take (i := 4) (oi := ?on208) (v := ?vn208) ?hin208 ?an208 ?bn208 ?cn208 ?qn208 (Or.inl ⟨?dn208, ?hyn208⟩) hHeld ?restn208
      case hin208 => (simp only [List.getElem?_toArray, List.getElem?_cons_succ, List.getElem?_cons_zero]; exact rfl)
      case an208 => kernel_rfl
      case bn208 => kernel_rfl
      case cn208 => kernel_rfl
      case qn208 => exact fun _ _ _ h => h
      case dn208 => rfl
      case hyn208 => (intro z hSw; (try dsimp only at hSw); go_simp; (try with_reducible rfl))
      try simp only [Act.put, List.setIfInBounds_toArray, List.set_cons_zero, List.set_cons_succ]
      refine wpAnyH_take (i := 5) (oi := ?on209) (v := ?vn209) ?hin209 ?an209 ?bn209 ?cn209 ?qn209 (Or.inl ⟨?dn209, ?hyn209⟩) hHeld ?restn209
      case hin209 => (simp only [List.getElem?_toArray, List.getElem?_cons_succ, List.getElem?_cons_zero]; exact rfl)
      case an209 => kernel_rfl
      case bn209 => kernel_rfl
      case cn209 => kernel_rfl
      case qn209 => exact fun _ _ _ h => h
      case dn209 => rfl
      case hyn209 => (intro z hSw; (try dsimp only at hSw); go_simp; (try with_reducible rfl))
      try simp only [Act.put, List.setIfInBounds_toArray, List.set_cons_zero, List.set_cons_succ]
      refine wpAnyH_take (i := 6) (oi := ?on210) (v := ?vn210) ?hin210 ?an210 ?bn210 ?cn210 ?qn210 (Or.inl ⟨?dn210, ?hyn210⟩) hHeld ?restn210
      case hin210 => (simp only [List.getElem?_toArray, List.getElem?_cons_succ, List.getElem?_cons_zero]; exact rfl)
      case an210 => kernel_rfl
      case bn210 => kernel_rfl
      case cn210 => kernel_rfl
      case qn210 => exact fun _ _ _ h => h
      case dn210 => rfl
      case hyn210 => (intro z hSw; (try dsimp only at hSw); go_simp; (try with_reducible rfl))
      try simp only [Act.put, List.setIfInBounds_toArray, List.set_cons_zero, List.set_cons_succ]
      refine wpAnyH_ready (rs := [7]) (by kernel_rfl) (by simp) ?_
      refine AllReadyH.cons (o := ?on211) ?hin211 ?restn211 AllReadyH.nil
      case hin211 => (simp only [List.getElem?_toArray, List.getElem?_cons_succ, List.getElem?_cons_zero]; exact rfl)
      intro K hK
      go_simp
      obtain ⟨x1, hwx1⟩ : ∃ W, W = (w5.alloc (.cells #[.string (p1S m)] 9)).drew := ⟨_, rfl⟩
      have hgx1 : Grew w5 x1 := by rw [hwx1]; exact ((Grew.refl _).alloc _).drew
      have hx1 : Grew w5 x1 := hgx1
      have hl0 : Strs x1 (.slice (some ⟨w5.heap.size, 0, none⟩) 1 1) [p1S m] := lit_str (t := 9) (by rw [hwx1]; exact blk_new w5 _) (Grew.refl _)
      try simp only [← hwx1]
      clear hwx1
      refine hK.out _ _ ?_ (fun hHeld => ?_)
      · (try dsimp only); first | with_reducible assumption | exact hx1
      clear hK K
      try simp only [Act.put, List.setIfInBounds_toArray, List.set_cons_zero, List.set_cons_succ]
      refine wpAnyH_ready (rs := [8]) (by kernel_rfl) (by simp) ?_
      refine AllReadyH.cons (o := ?on212) ?hin212 ?restn212 AllReadyH.nil
      case hin212 => (simp only [List.getElem?_toArray, List.getElem?_cons_succ, List.getElem?_cons_zero]; exact rfl)
      intro K hK
      go_simp
      go_at_call 38
      refine (put_c _ _ R [p1S m] _ (HB.out.grew (HGG.out.trans hx1)) hl0 (by simp; omega)).mono ?_
      rintro e x2 ⟨u0, rfl, hu0, hgx2⟩
      have hx2 : Grew w5 x2 := hx1.trans hgx2
      obtain ⟨AU0, cU0, rfl⟩ := strs_slice hu0.strs
      have hs0 := hu0.strs
      clear hu0
      replace hl0 := hl0.grew hgx2
      refine hK.out _ _ ?_ (fun hHeld => ?_)
      · (try dsimp only); first | with_reducible assumption | exact hx2
      clear hK K
      try simp only [Act.put, List.setIfInBounds_toArray, List.set_cons_zero, List.set_cons_succ]
      refine wpAnyH_take (i := 9) (oi := ?on213) (v := ?vn213) ?hin213 ?an213 ?bn213 ?cn213 ?qn213 (Or.inl ⟨?dn213, ?hyn213⟩) hHeld ?restn213
      case hin213 => (simp only [List.getElem?_toArray, List.getElem?_cons_succ, List.getElem?_cons_zero]; exact rfl)
      case an213 => kernel_rfl
      case bn213 => kernel_rfl
      case cn213 => kernel_rfl
      case qn213 => exact fun _ _ _ h => h
      case dn213 => rfl
      case hyn213 => (intro z hSw; (try dsimp only at hSw); go_simp; (try with_reducible rfl))
      try simp only [Act.put, List.setIfInBounds_toArray, List.set_cons_zero, List.set_cons_succ]
      refine wpAnyH_ready (rs := [10]) (by kernel_rfl) (by simp) ?_
      refine AllReadyH.cons (o := ?on214) ?hin214 ?restn214 AllReadyH.nil
      case hin214 => (simp only [List.getElem?_toArray, List.getElem?_cons_succ, List.getElem?_cons_zero]; exact rfl)
      intro K hK
      go_simp
      refine hK.out _ _ ?_ (fun hHeld => ?_)
      · (try dsimp only); first | with_reducible assumption | exact (hx2.alloc _)
      clear hK K
      try simp only [Act.put, List.setIfInBounds_toArray, List.set_cons_zero, List.set_cons_succ]
      refine wpAnyH_take (i := 11) (oi := ?on215) (v := ?vn215) ?hin215 ?an215 ?bn215 ?cn215 ?qn215 (Or.inl ⟨?dn215, ?hyn215⟩) hHeld ?restn215
      case hin215 => (simp only [List.getElem?_toArray, List.getElem?_cons_succ, List.getElem?_cons_zero]; exact rfl)
      case an215 => kernel_rfl
      case bn215 => kernel_rfl
      case cn215 => kernel_rfl
      case qn215 => exact fun _ _ _ h => h
      case dn215 => rfl
      case hyn215 => (intro z hSw; (try dsimp only at hSw); go_simp; (try with_reducible rfl))
      try simp only [Act.put, List.setIfInBounds_toArray, List.set_cons_zero, List.set_cons_succ]
      refine wpAnyH_take (i := 12) (oi := ?on216) (v := ?vn216) ?hin216 ?an216 ?bn216 ?cn216 ?qn216 (Or.inl ⟨?dn216, ?hyn216⟩) hHeld ?restn216
      case hin216 => (simp only [List.getElem?_toArray, List.getElem?_cons_succ, List.getElem?_cons_zero]; exact rfl)
      case an216 => kernel_rfl
      case bn216 => kernel_rfl
      case cn216 => kernel_rfl
      case qn216 => exact fun _ _ _ h => h
      case dn216 => rfl
      case hyn216 => (intro z hSw; (try dsimp only at hSw); go_simp; (try with_reducible rfl))
      try simp only [Act.put, List.setIfInBounds_toArray, List.set_cons_zero, List.set_cons_succ]
      refine wpAnyH_done (by kernel_rfl) ?_ _
      go_wp2_with fail
      go_ret2
      have hX := HX.out
      rw [rgF_10 HKS.out hrf] at hX
      rw [← hX]
      exact ⟨_, _, _, rfl, fun _ => rdM_one (blk_new x2 _) (Strs.grew (HA.out.grew (HGG.out.trans hx2)) ((Grew.refl _).alloc _)) (Strs.grew hs0 ((Grew.refl _).alloc _)), HGG.out.trans (hx2.alloc _)⟩
    · have hkb : (kk == 6) = false := by simpa using hk
      go_wp2_with fail
      go_ret2
      have hX := HX.out
      rw [rgF_10n (by rw [HKS.out]; exact hk)] at hX
      rw [← hX]
      exact ⟨_, _, _, rfl, (fun h => by cases h), HG4.out⟩
  by_cases h11 : r = 11
  · subst h11
    by_cases hk : kk = 5
    · subst hk
      obtain rfl : pt = [p1S m] := by have := HP.out; simpa using this
      obtain ⟨bp, op, cp, hpv, hcp, hcp2, hbp, hp1c⟩ := strs_one HPr.out
      obtain ⟨rfl, rfl⟩ : A4 = some ⟨bp, op, none⟩ ∧ c4 = cp := by simpa using hpv
      clear hpv
      go_wp2_with fail
      refine wp_region_held_drew (S := fun w' => Grew w4 w') (by kernel_rfl) hd4 (fun hHeld => ?_)
      refine wpAnyH_take (i := 0) (oi := ?on217) (v := ?vn217) ?hin217 ?an217 ?bn217 ?cn217 ?qn217 (Or.inl ⟨?dn217, ?hyn217⟩) hHeld ?restn217
      case hin217 => (simp only [List.getElem?_toArray, List.getElem?_cons_zero]; exact rfl)
      case an217 => kernel_rfl
      case bn217 => kernel_rfl
      case cn217 => kernel_rfl
      case qn217 => exact fun _ _ _ h => h
      case dn217 => rfl
      case hyn217 => (intro z hSw; (try dsimp only at hSw); go_simp; (try with_reducible rfl))
      try simp only [Act.put, List.setIfInBounds_toArray, List.set_cons_zero, List.set_cons_succ]
      refine wpAnyH_take (i := 1) (oi := ?on218) (v := ?vn218) ?hin218 ?an218 ?bn218 ?cn218 ?qn218 (Or.inl ⟨?dn218, ?hyn218⟩) hHeld ?restn218
      case hin218 => (simp only [List.getElem?_toArray, List.getElem?_cons_succ, List.getElem?_cons_zero]; exact rfl)
      case an218 => kernel_rfl
      case bn218 => kernel_rfl
      case cn218 => kernel_rfl
      case qn218 => exact fun _ _ _ h => h
      case dn218 => rfl
      case hyn218 => (intro z hSw; (try dsimp only at hSw); go_simp; (try with_reducible rfl))
      try simp only [Act.put, List.setIfInBounds_toArray, List.set_cons_zero, List.set_cons_succ]
      refine wpAnyH_take (i := 2) (oi := ?on219) (v := ?vn219) ?hin219 ?an219 ?bn219 ?cn219 ?qn219 (Or.inl ⟨?dn219, ?hyn219⟩) hHeld ?restn219
      case hin219 => (simp only [List.getElem?_toArray, List.getElem?_cons_succ, List.getElem?_cons_zero]; exact rfl)
      case an219 => kernel_rfl
      case bn219 => kernel_rfl
      case cn219 => kernel_rfl
      case qn219 => exact fun _ _ _ h => h
      case dn219 => rfl
      case hyn219 => (intro z hSw; (try dsimp only at hSw); go_simp; (try with_reducible rfl))
      try simp only [Act.put, List.setIfInBounds_toArray, List.set_cons_zero, List.set_cons_succ]
      refine wpAnyH_ready (rs := [3]) (by kernel_rfl) (by simp) ?_
      refine AllReadyH.cons (o := ?on220) ?hin220 ?restn220 AllReadyH.nil
      case hin220 => (simp only [List.getElem?_toArray, List.getElem?_cons_succ, List.getElem?_cons_zero]; exact rfl)
      intro K hK
      go_simp
      go_at_call 56
      refine (KT.out _ (HG4.out.trans hd4)).mono ?_
      rintro e x1 ⟨rfl, hgx1⟩
      have hx1 : Grew w4 x1 := hd4.trans hgx1
      refine hK.out _ _ ?_ (fun hHeld => ?_)
      · (try dsimp only); first | with_reducible assumption | exact hx1
      clear hK K
      try simp only [Act.put, List.setIfInBounds_toArray, List.set_cons_zero, List.set_cons_succ]
      refine wpAnyH_ready (rs := [4]) (by kernel_rfl) (by simp) ?_
      refine AllReadyH.cons (o := ?on221) ?hin221 ?restn221 AllReadyH.nil
      case hin221 => (simp only [List.getElem?_toArray, List.getElem?_cons_succ, List.getElem?_cons_zero]; exact rfl)
      intro K hK
      go_simp
      go_at_call 37
      refine (KM.out _ (HG4.out.trans hx1) (by simp)).mono ?_
      rintro e x2 ⟨B1, m1, d1, B2, m2, d2, rfl, hs0, hs1, hgx2⟩
      have hx2 : Grew w4 x2 := hx1.trans hgx2
      refine hK.out _ _ ?_ (fun hHeld => ?_)
      · (try dsimp only); first | with_reducible assumption | exact hx2
      clear hK K
      try simp only [Act.put, List.setIfInBounds_toArray, List.set_cons_zero, List.set_cons_succ]
      refine wpAnyH_ready (rs := [5]) (by kernel_rfl) (by simp) ?_
      refine AllReadyH.cons (o := ?on222) ?hin222 ?restn222 AllReadyH.nil
      case hin222 => (simp only [List.getElem?_toArray, List.getElem?_cons_succ, List.getElem?_cons_zero]; exact rfl)
      intro K hK
      go_simp
      refine hK.out _ _ ?_ (fun hHeld => ?_)
      · (try dsimp only); first | with_reducible assumption | exact (hx2.alloc _)
      clear hK K
      try simp only [Act.put, List.setIfInBounds_toArray, List.set_cons_zero, List.set_cons_succ]
      refine wpAnyH_take (i := 6) (oi := ?on223) (v := ?vn223) ?hin223 ?an223 ?bn223 ?cn223 ?qn223 (Or.inl ⟨?dn223, ?hyn223⟩) hHeld ?restn223
      case hin223 => (simp only [List.getElem?_toArray, List.getElem?_cons_succ, List.getElem?_cons_zero]; exact rfl)
      case an223 => kernel_rfl
      case bn223 => kernel_rfl
      case cn223 => kernel_rfl
      case qn223 => exact fun _ _ _ h => h
      case dn223 => rfl
      case hyn223 => (intro z hSw; (try dsimp only at hSw); go_simp; (try with_reducible rfl))
      try simp only [Act.put, List.setIfInBounds_toArray, List.set_cons_zero, List.set_cons_succ]
      refine wpAnyH_take (i := 7) (oi := ?on224) (v := ?vn224) ?hin224 ?an224 ?bn224 ?cn224 ?qn224 (Or.inl ⟨?dn224, ?hyn224⟩) hHeld ?restn224
      case hin224 => (simp only [List.getElem?_toArray, List.getElem?_cons_succ, List.getElem?_cons_zero]; exact rfl)
      case an224 => kernel_rfl
      case bn224 => kernel_rfl
      case cn224 => kernel_rfl
      case qn224 => exact fun _ _ _ h => h
      case dn224 => rfl
      case hyn224 => (intro z hSw; (try dsimp only at hSw); go_simp; (try with_reducible rfl))
      try simp only [Act.put, List.setIfInBounds_toArray, List.set_cons_zero, List.set_cons_succ]
      refine wpAnyH_done (by kernel_rfl) ?_ _
      go_wp2_with fail
      go_ret2
      have hX := HX.out
      rw [rgF_11 HKS.out] at hX
      rw [← hX]
      exact ⟨_, _, _, rfl, fun _ => rdM_one (blk_new x2 _) (Strs.grew hs0 ((Grew.refl _).alloc _)) (Strs.grew hs1 ((Grew.refl _).alloc _)), HG4.out.trans (hx2.alloc _)⟩
    · have hkb : (kk == 5) = false := by simpa using hk
      go_wp2_with fail
      go_ret2
      have hX := HX.out
      rw [rgF_11n (by rw [HKS.out]; exact hk)] at hX
      rw [← hX]
      exact ⟨_, _, _, rfl, (fun h => by cases h), HG4.out⟩
  have hb4 : (r == 4) = false := by simpa using h4
  have hb6 : (r == 6) = false := by simpa using h6
  have hb8 : (r == 8) = false := by simpa using h8
  have hb10 : (r == 10) = false := by simpa using h10
  have hb11 : (r == 11) = false := by simpa using h11
  go_wp2_with fail
  go_ret2
  have hX := HX.out
  rw [rgF_o h4 h6 h8 h10 h11] at hX
  rw [← hX]
  exact ⟨_, _, _, rfl, (fun h => by cases h), HG4.out⟩
end Go.Proofs.YtjcehejnolbkgaaGreat

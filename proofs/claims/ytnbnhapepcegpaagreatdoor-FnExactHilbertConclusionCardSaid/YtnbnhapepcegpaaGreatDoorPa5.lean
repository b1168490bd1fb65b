/- Texts in one file: HpG. -/
import Derived.Test.YtnbnhapepcegpaaGreatDoorPa1
import Derived.Test.YtnbnhapepcegpaaGreatDoorPa2
import Derived.Test.YtnbnhapepcegpaaGreatDoorPa3
import Derived.Test.YtnbnhapepcegpaaGreatDoorPa4
set_option linter.all false

/- isGood of the program: is a line right behind some lines? -/
namespace Go.Proofs.YtnbnhapepcegpaaGreatDoor
open Go.RowKit
open Fm (Nd)

theorem earlier_c (x k : Int) (bi : Nat) (w : World) (hk0 : 0 ≤ k) (hk1 : k ≤ 1048576) (h : ∀ W, Grew w W → W.cell? ⟨bi, 0, none⟩ = some (.int .i64 k)) :
    Calls Tryz.prog 56 (#[.int .i64 x] ++ #[.pointer (some ⟨bi, 0, none⟩)]) w fun e w' => e = .returned (.bool (decide (0 ≤ x ∧ x ≤ k - 1))) ∧ Grew w w' := by
  have K := Lib.hid (fun W => inRange_c x 0 (k - 1) W)
  have h0 := h _ (Grew.refl w)
  clear h
  generalize decide (0 ≤ x ∧ x ≤ k - 1) = R at *
  go_enter Tryz.func56, Tryz.ntmps56
  go_wp2_with fail
  refine (K.out _).mono ?_
  rintro e w1 ⟨rfl, hg1⟩
  go_wp2_with fail
  go_ret
  exact ⟨rfl, hg1⟩
theorem fx_ax {s : ByteArray} {H : List (List Nd)} {L : List Hl} {k : Nat} {r a b : Int} {f : List Nd} (h : fmB f = true) (hr : r = 1 ∨ r = 2) : fineX s H L k (r, a, b, f) = axB s H (r, a, b, f) := by
  unfold fineX
  rcases hr with rfl | rfl
  · simp only [h, Bool.true_and, show ((1 : Int) == 1) = true from rfl, Bool.true_or, if_true]
  · simp only [h, Bool.true_and, show ((2 : Int) == 1) = false from rfl, show ((2 : Int) == 2) = true from rfl, Bool.false_or, if_true]

set_option maxHeartbeats 2000000 in
set_option maxRecDepth 100000 in
theorem isGood_c (D B : Nat) (s : ByteArray) (vH vL vU : Value) (H : List (List Nd)) (L : List Hl) (Us : List (List Int)) (k : Nat) (w : World) (hD : Der w D s vH vL vU) (hH : Nls w vH H) (hL : Hls w vL L) (hU : OwnU w B vU Us) (hfH : FitsNl H) (hfL : FitsHl L)
    (hX : TabAt w 0 schTexts) (hUl : Us.length = k) (hDp : DepsOk L Us) (hk : k < L.length) (hn : L.length ≤ 200) (hHn : H.length ≤ 1048576) :
    Calls Tryz.prog 41 #[.pointer (some ⟨D, 0, none⟩), .int .i64 k] w fun e w' => e = .returned (.bool (fine s H L k)) ∧ Grew w w' := by
  obtain ⟨R, hR⟩ : ∃ R, R = fine s H L k := ⟨_, rfl⟩
  rw [← hR]
  unfold fine at hR
  obtain ⟨b, o, c, rfl, hc, hm, hb, hcell⟩ := HlRd.open_ hL (by omega)
  obtain ⟨u, hcl, hu⟩ := hcell k _ (hl_some hk)
  have hfx : (hl L k).2.2.2.length ≤ 1048576 := hfL _ (hl_mem hk)
  have HX := Lib.hid (fun i (hi : i < L.length) => (⟨hcell i _ (hl_some hi), hfL _ (hl_mem hi)⟩ : (∃ u, (∀ W, Grew w W → HlCells W b (o + i * 4) (hl L i) u) ∧ Nodes w u (hl L i).2.2.2) ∧ (hl L i).2.2.2.length ≤ 1048576))
  have UA := Lib.hid (fun i (hi : i < k) => (⟨hU.at_ (i := i) (by omega), (hDp i (by omega)).emp⟩ : (∃ g c u, vU = .slice (some ⟨g, 0, none⟩) Us.length c ∧ (∀ W, Grew w W → W.cell? ⟨g, i, none⟩ = some u) ∧ OwnI w B u (Us.getD i [])) ∧ (Us.getD i [] = [] ↔ ne L i = false)))
  rw [hUl] at UA
  obtain ⟨d0, d1, d2, d3⟩ := hD.at_
  obtain ⟨x, hx⟩ : ∃ x, x = hl L k := ⟨_, rfl⟩
  rw [← hx] at hcl hu hfx hR
  clear hx
  obtain ⟨rr, fi, se, fo⟩ := x
  simp only at hu hfx
  have KA := Lib.hid (fun t W (hW : Grew w W) (he : fo = Fm.enc t) ht => isAxiomatic_c D s vH (.slice (some ⟨b, o, none⟩) L.length c) vU u H (rr, fi, se, fo) t W (hD.grew hW) (hH.grew hW) hfH hHn (hX.grew hW) (by rw [← he]; exact hu.grew hW) ht he)
  obtain ⟨A0, c0, rfl⟩ := nodes_slice hu
  have q0 := fun W (hW : Grew w W) => (hcl W hW).1
  have q1 := fun W (hW : Grew w W) => (hcl W hW).2.1
  have q2 := fun W (hW : Grew w W) => (hcl W hW).2.2.1
  have q3 := fun W (hW : Grew w W) => (hcl W hW).2.2.2
  simp only at q0 q1 q2 q3
  have KF := Lib.hid (fun W (hW : Grew w W) => isFormula_g _ fo W (hu.grew hW) (by omega))
  have HU := Lib.hid (fun W (hW : Grew w W) => hu.grew hW)
  clear hcell hD hL hcl hu hH hX hU hDp hfH hfL
  generalize hfl : fo.length = fl at *
  replace hfl := Lib.hid hfl
  have hkc : (k : Int) < (L.length : Int) := by omega
  generalize L.length = ln at *
  have hwr := Grew.refl w
  have hal1 := hwr.alloc (.cells #[.int .i64 k] 3)
  have hal1d := hal1.drew
  have hal2 := hal1.alloc (.cells #[.int .i64 0, .int .i64 0, .int .i64 0, .slice none 0 0] 51)
  have hal2d := hal2.drew
  go_enter Tryz.func41, Tryz.ntmps41
  go_wp2_with fail
  go_big_region
  go_wp2_with fail
  clear hal1 hal1d hal2 hal2d
  have hwb : Grew w (((w.alloc (.cells #[.int .i64 k] 3)).alloc (.cells #[.int .i64 rr, .int .i64 fi, .int .i64 se, .slice A0 fl c0] 51)).drew) := ((hwr.alloc _).alloc _).drew
  have f0 : ∀ W, Grew (((w.alloc (.cells #[.int .i64 k] 3)).alloc (.cells #[.int .i64 rr, .int .i64 fi, .int .i64 se, .slice A0 fl c0] 51)).drew) W → W.cell? ⟨w.heap.size + 1, 0, none⟩ = some (.int .i64 rr) := fun W hW => (hW.cell (p := ⟨w.heap.size + 1, 0, none⟩) (by simp)).trans (by simp)
  have f1 : ∀ W, Grew (((w.alloc (.cells #[.int .i64 k] 3)).alloc (.cells #[.int .i64 rr, .int .i64 fi, .int .i64 se, .slice A0 fl c0] 51)).drew) W → W.cell? ⟨w.heap.size + 1, 1, none⟩ = some (.int .i64 fi) := fun W hW => (hW.cell (p := ⟨w.heap.size + 1, 1, none⟩) (by simp)).trans (by simp)
  have f2 : ∀ W, Grew (((w.alloc (.cells #[.int .i64 k] 3)).alloc (.cells #[.int .i64 rr, .int .i64 fi, .int .i64 se, .slice A0 fl c0] 51)).drew) W → W.cell? ⟨w.heap.size + 1, 2, none⟩ = some (.int .i64 se) := fun W hW => (hW.cell (p := ⟨w.heap.size + 1, 2, none⟩) (by simp)).trans (by simp)
  have f3 : ∀ W, Grew (((w.alloc (.cells #[.int .i64 k] 3)).alloc (.cells #[.int .i64 rr, .int .i64 fi, .int .i64 se, .slice A0 fl c0] 51)).drew) W → W.cell? ⟨w.heap.size + 1, 3, none⟩ = some (.slice A0 fl c0) := fun W hW => (hW.cell (p := ⟨w.heap.size + 1, 3, none⟩) (by simp)).trans (by simp)
  have fk : ∀ W, Grew (((w.alloc (.cells #[.int .i64 k] 3)).alloc (.cells #[.int .i64 rr, .int .i64 fi, .int .i64 se, .slice A0 fl c0] 51)).drew) W → W.cell? ⟨w.heap.size, 0, none⟩ = some (.int .i64 k) := fun W hW => (hW.cell (p := ⟨w.heap.size, 0, none⟩) (by first | (simp; omega) | simp)).trans (by simp)
  generalize ((w.alloc (.cells #[.int .i64 k] 3)).alloc (.cells #[.int .i64 rr, .int .i64 fi, .int .i64 se, .slice A0 fl c0] 51)).drew = wb at *
  refine (KF.out _ hwb).mono ?_
  rintro e w1 ⟨rfl, hg1⟩
  have g1 := hwb.trans hg1
  have r1 := Grew.refl w1
  have r1d := r1.drew
  have a0 := fun W (hW : Grew w1 W) => f0 W (hg1.trans hW)
  have a1 := fun W (hW : Grew w1 W) => f1 W (hg1.trans hW)
  have a2 := fun W (hW : Grew w1 W) => f2 W (hg1.trans hW)
  have a3 := fun W (hW : Grew w1 W) => f3 W (hg1.trans hW)
  have KE0 := Lib.hid (fun (x : Int) W (hW : Grew w1 W) => earlier_c x k w.heap.size W (by omega) (by omega) (fun W' hW' => fk W' ((hg1.trans hW).trans hW')))
  have b0 := fun W (hW : Grew w1 W) => d0 W (g1.trans hW)
  have b2 := fun W (hW : Grew w1 W) => d2 W (g1.trans hW)
  have b3 := fun W (hW : Grew w1 W) => d3 W (g1.trans hW)
  clear f0 f1 f2 f3 fk q0 q1 q2 q3 d0 d1 d2 d3 KF
  cases hf : fmB fo with
  | false =>
    rw [fx_no hf] at hR
    go_wp2_with fail
    go_ret
    exact ⟨by rw [hR]; rfl, g1⟩
  | true =>
  by_cases h12 : rr = 1 ∨ rr = 2
  · rw [fx_ax hf h12] at hR
    obtain ⟨t, ht, htl⟩ := fmB_tree hf
    have K := Lib.hid (KA.out t _ g1 ht (by rw [← ht]; exact htl))
    rcases h12 with rfl | rfl
    all_goals
      generalize axB s H _ = ax at *
      go_wp2_with fail
      refine K.out.mono ?_
      rintro e w2 ⟨rfl, hg2⟩
      go_wp2_with fail
      go_ret
      exact ⟨by rw [hR]; rfl, g1.trans hg2⟩
  have z1 : (rr == 1) = false := by simpa using fun h => h12 (.inl h)
  have z2 : (rr == 2) = false := by simpa using fun h => h12 (.inr h)
  by_cases h3r : rr = 3
  · subst h3r
    rw [fx_3 hf] at hR
    cases hin : decide (0 ≤ fi ∧ fi ≤ (k : Int) - 1) with
    | false =>
      rw [hin, Bool.false_and] at hR
      have KE1 := fun W (hW : Grew w1 W) => KE0.out fi W hW
      rw [hin] at KE1
      replace KE1 := Lib.hid KE1
      go_wp2_with fail
      refine wp_region_held_drew (S := fun w' => Grew w1 w') (by kernel_rfl) r1d (fun hHeld => ?_)
      refine wpAnyH_take (i := 0) (oi := ?on1) (v := ?vn1) ?hin1 ?an1 ?bn1 ?cn1 ?qn1 (Or.inl ⟨?dn1, ?hyn1⟩) hHeld ?restn1
      case hin1 => (simp only [List.getElem?_toArray, List.getElem?_cons_zero]; exact rfl)
      case an1 => kernel_rfl
      case bn1 => kernel_rfl
      case cn1 => kernel_rfl
      case qn1 => exact fun _ _ _ h => h
      case dn1 => rfl
      case hyn1 => (intro z hSw; (try dsimp only at hSw); go_simp; (try with_reducible rfl))
      try simp only [Act.put, List.setIfInBounds_toArray, List.set_cons_zero, List.set_cons_succ]
      refine wpAnyH_take (i := 1) (oi := ?on2) (v := ?vn2) ?hin2 ?an2 ?bn2 ?cn2 ?qn2 (Or.inl ⟨?dn2, ?hyn2⟩) hHeld ?restn2
      case hin2 => (simp only [List.getElem?_toArray, List.getElem?_cons_succ, List.getElem?_cons_zero]; exact rfl)
      case an2 => kernel_rfl
      case bn2 => kernel_rfl
      case cn2 => kernel_rfl
      case qn2 => exact fun _ _ _ h => h
      case dn2 => rfl
      case hyn2 => (intro z hSw; (try dsimp only at hSw); go_simp; (try with_reducible rfl))
      try simp only [Act.put, List.setIfInBounds_toArray, List.set_cons_zero, List.set_cons_succ]
      refine wpAnyH_take (i := 2) (oi := ?on3) (v := ?vn3) ?hin3 ?an3 ?bn3 ?cn3 ?qn3 (Or.inl ⟨?dn3, ?hyn3⟩) hHeld ?restn3
      case hin3 => (simp only [List.getElem?_toArray, List.getElem?_cons_succ, List.getElem?_cons_zero]; exact rfl)
      case an3 => kernel_rfl
      case bn3 => kernel_rfl
      case cn3 => kernel_rfl
      case qn3 => exact fun _ _ _ h => h
      case dn3 => rfl
      case hyn3 => (intro z hSw; (try dsimp only at hSw); go_simp; (try with_reducible rfl))
      try simp only [Act.put, List.setIfInBounds_toArray, List.set_cons_zero, List.set_cons_succ]
      refine wpAnyH_ready (rs := [3]) (by kernel_rfl) (by simp) ?_
      refine AllReadyH.cons (o := ?on4) ?hin4 ?restn4 AllReadyH.nil
      case hin4 => (simp only [List.getElem?_toArray, List.getElem?_cons_succ, List.getElem?_cons_zero]; exact rfl)
      intro K hK
      go_simp
      go_at_call 56
      refine (KE1.out _ (by repeat (first | with_reducible assumption | with_reducible refine Grew.alloc ?_ _ | with_reducible refine Grew.drew ?_ | with_reducible refine Grew.drewN ?_ _))).mono ?_
      rintro e w2 ⟨rfl, hgw2⟩
      have h2 : Grew w1 w2 := Grew.trans (by repeat (first | with_reducible assumption | with_reducible refine Grew.alloc ?_ _ | with_reducible refine Grew.drew ?_ | with_reducible refine Grew.drewN ?_ _)) hgw2
      refine hK.out _ _ ?_ (fun hHeld => ?_)
      · (try dsimp only); first | with_reducible assumption | exact Grew.alloc ‹_› _
      clear hK K
      try simp only [Act.put, List.setIfInBounds_toArray, List.set_cons_zero, List.set_cons_succ]
      refine wpAnyH_take (i := 4) (oi := ?on5) (v := ?vn5) ?hin5 ?an5 ?bn5 ?cn5 ?qn5 (Or.inl ⟨?dn5, ?hyn5⟩) hHeld ?restn5
      case hin5 => (simp only [List.getElem?_toArray, List.getElem?_cons_succ, List.getElem?_cons_zero]; exact rfl)
      case an5 => kernel_rfl
      case bn5 => kernel_rfl
      case cn5 => kernel_rfl
      case qn5 => exact fun _ _ _ h => h
      case dn5 => rfl
      case hyn5 => (intro z hSw; (try dsimp only at hSw); go_simp; (try with_reducible rfl))
      try simp only [Act.put, List.setIfInBounds_toArray, List.set_cons_zero, List.set_cons_succ]
      refine wpAnyH_take (i := 5) (oi := ?on6) ?hin6 ?an6 ?bn6 ?cn6 ?qn6 (Or.inr ⟨?dn6, rfl⟩) hHeld ?restn6
      case hin6 => (simp only [List.getElem?_toArray, List.getElem?_cons_succ, List.getElem?_cons_zero]; exact rfl)
      case an6 => kernel_rfl
      case bn6 => kernel_rfl
      case cn6 => kernel_rfl
      case qn6 => exact fun _ _ _ h => h
      case dn6 => rfl
      try simp only [Act.put, List.setIfInBounds_toArray, List.set_cons_zero, List.set_cons_succ]
      refine wpAnyH_take (i := 6) (oi := ?on7) ?hin7 ?an7 ?bn7 ?cn7 ?qn7 (Or.inr ⟨?dn7, rfl⟩) hHeld ?restn7
      case hin7 => (simp only [List.getElem?_toArray, List.getElem?_cons_succ, List.getElem?_cons_zero]; exact rfl)
      case an7 => kernel_rfl
      case bn7 => kernel_rfl
      case cn7 => kernel_rfl
      case qn7 => exact fun _ _ _ h => h
      case dn7 => rfl
      try simp only [Act.put, List.setIfInBounds_toArray, List.set_cons_zero, List.set_cons_succ]
      refine wpAnyH_take (i := 7) (oi := ?on8) ?hin8 ?an8 ?bn8 ?cn8 ?qn8 (Or.inr ⟨?dn8, rfl⟩) hHeld ?restn8
      case hin8 => (simp only [List.getElem?_toArray, List.getElem?_cons_succ, List.getElem?_cons_zero]; exact rfl)
      case an8 => kernel_rfl
      case bn8 => kernel_rfl
      case cn8 => kernel_rfl
      case qn8 => exact fun _ _ _ h => h
      case dn8 => rfl
      try simp only [Act.put, List.setIfInBounds_toArray, List.set_cons_zero, List.set_cons_succ]
      refine wpAnyH_take (i := 8) (oi := ?on9) ?hin9 ?an9 ?bn9 ?cn9 ?qn9 (Or.inr ⟨?dn9, rfl⟩) hHeld ?restn9
      case hin9 => (simp only [List.getElem?_toArray, List.getElem?_cons_succ, List.getElem?_cons_zero]; exact rfl)
      case an9 => kernel_rfl
      case bn9 => kernel_rfl
      case cn9 => kernel_rfl
      case qn9 => exact fun _ _ _ h => h
      case dn9 => rfl
      try simp only [Act.put, List.setIfInBounds_toArray, List.set_cons_zero, List.set_cons_succ]
      refine wpAnyH_take (i := 9) (oi := ?on10) (v := ?vn10) ?hin10 ?an10 ?bn10 ?cn10 ?qn10 (Or.inl ⟨?dn10, ?hyn10⟩) hHeld ?restn10
      case hin10 => (simp only [List.getElem?_toArray, List.getElem?_cons_succ, List.getElem?_cons_zero]; exact rfl)
      case an10 => kernel_rfl
      case bn10 => kernel_rfl
      case cn10 => kernel_rfl
      case qn10 => exact fun _ _ _ h => h
      case dn10 => rfl
      case hyn10 => (intro z hSw; (try dsimp only at hSw); go_simp; (try with_reducible rfl))
      try simp only [Act.put, List.setIfInBounds_toArray, List.set_cons_zero, List.set_cons_succ]
      refine wpAnyH_take (i := 10) (oi := ?on11) (v := ?vn11) ?hin11 ?an11 ?bn11 ?cn11 ?qn11 (Or.inl ⟨?dn11, ?hyn11⟩) hHeld ?restn11
      case hin11 => (simp only [List.getElem?_toArray, List.getElem?_cons_succ, List.getElem?_cons_zero]; exact rfl)
      case an11 => kernel_rfl
      case bn11 => kernel_rfl
      case cn11 => kernel_rfl
      case qn11 => exact fun _ _ _ h => h
      case dn11 => rfl
      case hyn11 => (intro z hSw; (try dsimp only at hSw); go_simp; (try with_reducible rfl))
      try simp only [Act.put, List.setIfInBounds_toArray, List.set_cons_zero, List.set_cons_succ]
      refine wpAnyH_take (i := 11) (oi := ?on12) ?hin12 ?an12 ?bn12 ?cn12 ?qn12 (Or.inr ⟨?dn12, rfl⟩) hHeld ?restn12
      case hin12 => (simp only [List.getElem?_toArray, List.getElem?_cons_succ, List.getElem?_cons_zero]; exact rfl)
      case an12 => kernel_rfl
      case bn12 => kernel_rfl
      case cn12 => kernel_rfl
      case qn12 => exact fun _ _ _ h => h
      case dn12 => rfl
      try simp only [Act.put, List.setIfInBounds_toArray, List.set_cons_zero, List.set_cons_succ]
      refine wpAnyH_take (i := 12) (oi := ?on13) ?hin13 ?an13 ?bn13 ?cn13 ?qn13 (Or.inr ⟨?dn13, rfl⟩) hHeld ?restn13
      case hin13 => (simp only [List.getElem?_toArray, List.getElem?_cons_succ, List.getElem?_cons_zero]; exact rfl)
      case an13 => kernel_rfl
      case bn13 => kernel_rfl
      case cn13 => kernel_rfl
      case qn13 => exact fun _ _ _ h => h
      case dn13 => rfl
      try simp only [Act.put, List.setIfInBounds_toArray, List.set_cons_zero, List.set_cons_succ]
      refine wpAnyH_take (i := 13) (oi := ?on14) ?hin14 ?an14 ?bn14 ?cn14 ?qn14 (Or.inr ⟨?dn14, rfl⟩) hHeld ?restn14
      case hin14 => (simp only [List.getElem?_toArray, List.getElem?_cons_succ, List.getElem?_cons_zero]; exact rfl)
      case an14 => kernel_rfl
      case bn14 => kernel_rfl
      case cn14 => kernel_rfl
      case qn14 => exact fun _ _ _ h => h
      case dn14 => rfl
      try simp only [Act.put, List.setIfInBounds_toArray, List.set_cons_zero, List.set_cons_succ]
      refine wpAnyH_take (i := 14) (oi := ?on15) ?hin15 ?an15 ?bn15 ?cn15 ?qn15 (Or.inr ⟨?dn15, rfl⟩) hHeld ?restn15
      case hin15 => (simp only [List.getElem?_toArray, List.getElem?_cons_succ, List.getElem?_cons_zero]; exact rfl)
      case an15 => kernel_rfl
      case bn15 => kernel_rfl
      case cn15 => kernel_rfl
      case qn15 => exact fun _ _ _ h => h
      case dn15 => rfl
      try simp only [Act.put, List.setIfInBounds_toArray, List.set_cons_zero, List.set_cons_succ]
      refine wpAnyH_take (i := 15) (oi := ?on16) ?hin16 ?an16 ?bn16 ?cn16 ?qn16 (Or.inr ⟨?dn16, rfl⟩) hHeld ?restn16
      case hin16 => (simp only [List.getElem?_toArray, List.getElem?_cons_succ, List.getElem?_cons_zero]; exact rfl)
      case an16 => kernel_rfl
      case bn16 => kernel_rfl
      case cn16 => kernel_rfl
      case qn16 => exact fun _ _ _ h => h
      case dn16 => rfl
      try simp only [Act.put, List.setIfInBounds_toArray, List.set_cons_zero, List.set_cons_succ]
      refine wpAnyH_take (i := 16) (oi := ?on17) ?hin17 ?an17 ?bn17 ?cn17 ?qn17 (Or.inr ⟨?dn17, rfl⟩) hHeld ?restn17
      case hin17 => (simp only [List.getElem?_toArray, List.getElem?_cons_succ, List.getElem?_cons_zero]; exact rfl)
      case an17 => kernel_rfl
      case bn17 => kernel_rfl
      case cn17 => kernel_rfl
      case qn17 => exact fun _ _ _ h => h
      case dn17 => rfl
      try simp only [Act.put, List.setIfInBounds_toArray, List.set_cons_zero, List.set_cons_succ]
      refine wpAnyH_take (i := 17) (oi := ?on18) ?hin18 ?an18 ?bn18 ?cn18 ?qn18 (Or.inr ⟨?dn18, rfl⟩) hHeld ?restn18
      case hin18 => (simp only [List.getElem?_toArray, List.getElem?_cons_succ, List.getElem?_cons_zero]; exact rfl)
      case an18 => kernel_rfl
      case bn18 => kernel_rfl
      case cn18 => kernel_rfl
      case qn18 => exact fun _ _ _ h => h
      case dn18 => rfl
      try simp only [Act.put, List.setIfInBounds_toArray, List.set_cons_zero, List.set_cons_succ]
      refine wpAnyH_take (i := 18) (oi := ?on19) ?hin19 ?an19 ?bn19 ?cn19 ?qn19 (Or.inr ⟨?dn19, rfl⟩) hHeld ?restn19
      case hin19 => (simp only [List.getElem?_toArray, List.getElem?_cons_succ, List.getElem?_cons_zero]; exact rfl)
      case an19 => kernel_rfl
      case bn19 => kernel_rfl
      case cn19 => kernel_rfl
      case qn19 => exact fun _ _ _ h => h
      case dn19 => rfl
      try simp only [Act.put, List.setIfInBounds_toArray, List.set_cons_zero, List.set_cons_succ]
      refine wpAnyH_take (i := 19) (oi := ?on20) ?hin20 ?an20 ?bn20 ?cn20 ?qn20 (Or.inr ⟨?dn20, rfl⟩) hHeld ?restn20
      case hin20 => (simp only [List.getElem?_toArray, List.getElem?_cons_succ, List.getElem?_cons_zero]; exact rfl)
      case an20 => kernel_rfl
      case bn20 => kernel_rfl
      case cn20 => kernel_rfl
      case qn20 => exact fun _ _ _ h => h
      case dn20 => rfl
      try simp only [Act.put, List.setIfInBounds_toArray, List.set_cons_zero, List.set_cons_succ]
      refine wpAnyH_take (i := 20) (oi := ?on21) ?hin21 ?an21 ?bn21 ?cn21 ?qn21 (Or.inr ⟨?dn21, rfl⟩) hHeld ?restn21
      case hin21 => (simp only [List.getElem?_toArray, List.getElem?_cons_succ, List.getElem?_cons_zero]; exact rfl)
      case an21 => kernel_rfl
      case bn21 => kernel_rfl
      case cn21 => kernel_rfl
      case qn21 => exact fun _ _ _ h => h
      case dn21 => rfl
      try simp only [Act.put, List.setIfInBounds_toArray, List.set_cons_zero, List.set_cons_succ]
      refine wpAnyH_take (i := 21) (oi := ?on22) ?hin22 ?an22 ?bn22 ?cn22 ?qn22 (Or.inr ⟨?dn22, rfl⟩) hHeld ?restn22
      case hin22 => (simp only [List.getElem?_toArray, List.getElem?_cons_succ, List.getElem?_cons_zero]; exact rfl)
      case an22 => kernel_rfl
      case bn22 => kernel_rfl
      case cn22 => kernel_rfl
      case qn22 => exact fun _ _ _ h => h
      case dn22 => rfl
      try simp only [Act.put, List.setIfInBounds_toArray, List.set_cons_zero, List.set_cons_succ]
      refine wpAnyH_take (i := 22) (oi := ?on23) ?hin23 ?an23 ?bn23 ?cn23 ?qn23 (Or.inr ⟨?dn23, rfl⟩) hHeld ?restn23
      case hin23 => (simp only [List.getElem?_toArray, List.getElem?_cons_succ, List.getElem?_cons_zero]; exact rfl)
      case an23 => kernel_rfl
      case bn23 => kernel_rfl
      case cn23 => kernel_rfl
      case qn23 => exact fun _ _ _ h => h
      case dn23 => rfl
      try simp only [Act.put, List.setIfInBounds_toArray, List.set_cons_zero, List.set_cons_succ]
      refine wpAnyH_take (i := 23) (oi := ?on24) ?hin24 ?an24 ?bn24 ?cn24 ?qn24 (Or.inr ⟨?dn24, rfl⟩) hHeld ?restn24
      case hin24 => (simp only [List.getElem?_toArray, List.getElem?_cons_succ, List.getElem?_cons_zero]; exact rfl)
      case an24 => kernel_rfl
      case bn24 => kernel_rfl
      case cn24 => kernel_rfl
      case qn24 => exact fun _ _ _ h => h
      case dn24 => rfl
      try simp only [Act.put, List.setIfInBounds_toArray, List.set_cons_zero, List.set_cons_succ]
      refine wpAnyH_take (i := 24) (oi := ?on25) ?hin25 ?an25 ?bn25 ?cn25 ?qn25 (Or.inr ⟨?dn25, rfl⟩) hHeld ?restn25
      case hin25 => (simp only [List.getElem?_toArray, List.getElem?_cons_succ, List.getElem?_cons_zero]; exact rfl)
      case an25 => kernel_rfl
      case bn25 => kernel_rfl
      case cn25 => kernel_rfl
      case qn25 => exact fun _ _ _ h => h
      case dn25 => rfl
      try simp only [Act.put, List.setIfInBounds_toArray, List.set_cons_zero, List.set_cons_succ]
      refine wpAnyH_take (i := 25) (oi := ?on26) ?hin26 ?an26 ?bn26 ?cn26 ?qn26 (Or.inr ⟨?dn26, rfl⟩) hHeld ?restn26
      case hin26 => (simp only [List.getElem?_toArray, List.getElem?_cons_succ, List.getElem?_cons_zero]; exact rfl)
      case an26 => kernel_rfl
      case bn26 => kernel_rfl
      case cn26 => kernel_rfl
      case qn26 => exact fun _ _ _ h => h
      case dn26 => rfl
      try simp only [Act.put, List.setIfInBounds_toArray, List.set_cons_zero, List.set_cons_succ]
      refine wpAnyH_take (i := 26) (oi := ?on27) ?hin27 ?an27 ?bn27 ?cn27 ?qn27 (Or.inr ⟨?dn27, rfl⟩) hHeld ?restn27
      case hin27 => (simp only [List.getElem?_toArray, List.getElem?_cons_succ, List.getElem?_cons_zero]; exact rfl)
      case an27 => kernel_rfl
      case bn27 => kernel_rfl
      case cn27 => kernel_rfl
      case qn27 => exact fun _ _ _ h => h
      case dn27 => rfl
      try simp only [Act.put, List.setIfInBounds_toArray, List.set_cons_zero, List.set_cons_succ]
      refine wpAnyH_take (i := 27) (oi := ?on28) ?hin28 ?an28 ?bn28 ?cn28 ?qn28 (Or.inr ⟨?dn28, rfl⟩) hHeld ?restn28
      case hin28 => (simp only [List.getElem?_toArray, List.getElem?_cons_succ, List.getElem?_cons_zero]; exact rfl)
      case an28 => kernel_rfl
      case bn28 => kernel_rfl
      case cn28 => kernel_rfl
      case qn28 => exact fun _ _ _ h => h
      case dn28 => rfl
      try simp only [Act.put, List.setIfInBounds_toArray, List.set_cons_zero, List.set_cons_succ]
      refine wpAnyH_take (i := 28) (oi := ?on29) ?hin29 ?an29 ?bn29 ?cn29 ?qn29 (Or.inr ⟨?dn29, rfl⟩) hHeld ?restn29
      case hin29 => (simp only [List.getElem?_toArray, List.getElem?_cons_succ, List.getElem?_cons_zero]; exact rfl)
      case an29 => kernel_rfl
      case bn29 => kernel_rfl
      case cn29 => kernel_rfl
      case qn29 => exact fun _ _ _ h => h
      case dn29 => rfl
      try simp only [Act.put, List.setIfInBounds_toArray, List.set_cons_zero, List.set_cons_succ]
      refine wpAnyH_take (i := 29) (oi := ?on30) ?hin30 ?an30 ?bn30 ?cn30 ?qn30 (Or.inr ⟨?dn30, rfl⟩) hHeld ?restn30
      case hin30 => (simp only [List.getElem?_toArray, List.getElem?_cons_succ, List.getElem?_cons_zero]; exact rfl)
      case an30 => kernel_rfl
      case bn30 => kernel_rfl
      case cn30 => kernel_rfl
      case qn30 => exact fun _ _ _ h => h
      case dn30 => rfl
      try simp only [Act.put, List.setIfInBounds_toArray, List.set_cons_zero, List.set_cons_succ]
      refine wpAnyH_take (i := 30) (oi := ?on31) ?hin31 ?an31 ?bn31 ?cn31 ?qn31 (Or.inr ⟨?dn31, rfl⟩) hHeld ?restn31
      case hin31 => (simp only [List.getElem?_toArray, List.getElem?_cons_succ, List.getElem?_cons_zero]; exact rfl)
      case an31 => kernel_rfl
      case bn31 => kernel_rfl
      case cn31 => kernel_rfl
      case qn31 => exact fun _ _ _ h => h
      case dn31 => rfl
      try simp only [Act.put, List.setIfInBounds_toArray, List.set_cons_zero, List.set_cons_succ]
      refine wpAnyH_take (i := 31) (oi := ?on32) ?hin32 ?an32 ?bn32 ?cn32 ?qn32 (Or.inr ⟨?dn32, rfl⟩) hHeld ?restn32
      case hin32 => (simp only [List.getElem?_toArray, List.getElem?_cons_succ, List.getElem?_cons_zero]; exact rfl)
      case an32 => kernel_rfl
      case bn32 => kernel_rfl
      case cn32 => kernel_rfl
      case qn32 => exact fun _ _ _ h => h
      case dn32 => rfl
      try simp only [Act.put, List.setIfInBounds_toArray, List.set_cons_zero, List.set_cons_succ]
      refine wpAnyH_take (i := 32) (oi := ?on33) ?hin33 ?an33 ?bn33 ?cn33 ?qn33 (Or.inr ⟨?dn33, rfl⟩) hHeld ?restn33
      case hin33 => (simp only [List.getElem?_toArray, List.getElem?_cons_succ, List.getElem?_cons_zero]; exact rfl)
      case an33 => kernel_rfl
      case bn33 => kernel_rfl
      case cn33 => kernel_rfl
      case qn33 => exact fun _ _ _ h => h
      case dn33 => rfl
      try simp only [Act.put, List.setIfInBounds_toArray, List.set_cons_zero, List.set_cons_succ]
      refine wpAnyH_take (i := 33) (oi := ?on34) (v := ?vn34) ?hin34 ?an34 ?bn34 ?cn34 ?qn34 (Or.inl ⟨?dn34, ?hyn34⟩) hHeld ?restn34
      case hin34 => (simp only [List.getElem?_toArray, List.getElem?_cons_succ, List.getElem?_cons_zero]; exact rfl)
      case an34 => kernel_rfl
      case bn34 => kernel_rfl
      case cn34 => kernel_rfl
      case qn34 => exact fun _ _ _ h => h
      case dn34 => rfl
      case hyn34 => (intro z hSw; (try dsimp only at hSw); go_simp; (try with_reducible rfl))
      try simp only [Act.put, List.setIfInBounds_toArray, List.set_cons_zero, List.set_cons_succ]
      refine wpAnyH_take (i := 34) (oi := ?on35) (v := ?vn35) ?hin35 ?an35 ?bn35 ?cn35 ?qn35 (Or.inl ⟨?dn35, ?hyn35⟩) hHeld ?restn35
      case hin35 => (simp only [List.getElem?_toArray, List.getElem?_cons_succ, List.getElem?_cons_zero]; exact rfl)
      case an35 => kernel_rfl
      case bn35 => kernel_rfl
      case cn35 => kernel_rfl
      case qn35 => exact fun _ _ _ h => h
      case dn35 => rfl
      case hyn35 => (intro z hSw; (try dsimp only at hSw); go_simp; (try with_reducible rfl))
      try simp only [Act.put, List.setIfInBounds_toArray, List.set_cons_zero, List.set_cons_succ]
      refine wpAnyH_done (by kernel_rfl) ?_ _
      go_wp2_with fail
      go_ret
      exact ⟨by rw [hR]; rfl, g1.trans h2⟩
    | true =>
    rw [hin, Bool.true_and] at hR
    have hin1 : 0 ≤ fi ∧ fi ≤ (k : Int) - 1 := by simpa using hin
    have KE1 := fun W (hW : Grew w1 W) => KE0.out fi W hW
    rw [hin] at KE1
    replace KE1 := Lib.hid KE1
    cases hin2 : decide (0 ≤ se ∧ se ≤ (k : Int) - 1) with
    | false =>
      rw [hin2, Bool.false_and] at hR
      have KE2 := fun W (hW : Grew w1 W) => KE0.out se W hW
      rw [hin2] at KE2
      replace KE2 := Lib.hid KE2
      go_wp2_with fail
      refine wp_region_held_drew (S := fun w' => Grew w1 w') (by kernel_rfl) r1d (fun hHeld => ?_)
      refine wpAnyH_take (i := 0) (oi := ?on36) (v := ?vn36) ?hin36 ?an36 ?bn36 ?cn36 ?qn36 (Or.inl ⟨?dn36, ?hyn36⟩) hHeld ?restn36
      case hin36 => (simp only [List.getElem?_toArray, List.getElem?_cons_zero]; exact rfl)
      case an36 => kernel_rfl
      case bn36 => kernel_rfl
      case cn36 => kernel_rfl
      case qn36 => exact fun _ _ _ h => h
      case dn36 => rfl
      case hyn36 => (intro z hSw; (try dsimp only at hSw); go_simp; (try with_reducible rfl))
      try simp only [Act.put, List.setIfInBounds_toArray, List.set_cons_zero, List.set_cons_succ]
      refine wpAnyH_take (i := 1) (oi := ?on37) (v := ?vn37) ?hin37 ?an37 ?bn37 ?cn37 ?qn37 (Or.inl ⟨?dn37, ?hyn37⟩) hHeld ?restn37
      case hin37 => (simp only [List.getElem?_toArray, List.getElem?_cons_succ, List.getElem?_cons_zero]; exact rfl)
      case an37 => kernel_rfl
      case bn37 => kernel_rfl
      case cn37 => kernel_rfl
      case qn37 => exact fun _ _ _ h => h
      case dn37 => rfl
      case hyn37 => (intro z hSw; (try dsimp only at hSw); go_simp; (try with_reducible rfl))
      try simp only [Act.put, List.setIfInBounds_toArray, List.set_cons_zero, List.set_cons_succ]
      refine wpAnyH_take (i := 2) (oi := ?on38) (v := ?vn38) ?hin38 ?an38 ?bn38 ?cn38 ?qn38 (Or.inl ⟨?dn38, ?hyn38⟩) hHeld ?restn38
      case hin38 => (simp only [List.getElem?_toArray, List.getElem?_cons_succ, List.getElem?_cons_zero]; exact rfl)
      case an38 => kernel_rfl
      case bn38 => kernel_rfl
      case cn38 => kernel_rfl
      case qn38 => exact fun _ _ _ h => h
      case dn38 => rfl
      case hyn38 => (intro z hSw; (try dsimp only at hSw); go_simp; (try with_reducible rfl))
      try simp only [Act.put, List.setIfInBounds_toArray, List.set_cons_zero, List.set_cons_succ]
      refine wpAnyH_ready (rs := [3]) (by kernel_rfl) (by simp) ?_
      refine AllReadyH.cons (o := ?on39) ?hin39 ?restn39 AllReadyH.nil
      case hin39 => (simp only [List.getElem?_toArray, List.getElem?_cons_succ, List.getElem?_cons_zero]; exact rfl)
      intro K hK
      go_simp
      go_at_call 56
      refine (KE1.out _ (by repeat (first | with_reducible assumption | with_reducible refine Grew.alloc ?_ _ | with_reducible refine Grew.drew ?_ | with_reducible refine Grew.drewN ?_ _))).mono ?_
      rintro e w2 ⟨rfl, hgw2⟩
      have h2 : Grew w1 w2 := Grew.trans (by repeat (first | with_reducible assumption | with_reducible refine Grew.alloc ?_ _ | with_reducible refine Grew.drew ?_ | with_reducible refine Grew.drewN ?_ _)) hgw2
      refine hK.out _ _ ?_ (fun hHeld => ?_)
      · (try dsimp only); first | with_reducible assumption | exact Grew.alloc ‹_› _
      clear hK K
      try simp only [Act.put, List.setIfInBounds_toArray, List.set_cons_zero, List.set_cons_succ]
      refine wpAnyH_take (i := 4) (oi := ?on40) (v := ?vn40) ?hin40 ?an40 ?bn40 ?cn40 ?qn40 (Or.inl ⟨?dn40, ?hyn40⟩) hHeld ?restn40
      case hin40 => (simp only [List.getElem?_toArray, List.getElem?_cons_succ, List.getElem?_cons_zero]; exact rfl)
      case an40 => kernel_rfl
      case bn40 => kernel_rfl
      case cn40 => kernel_rfl
      case qn40 => exact fun _ _ _ h => h
      case dn40 => rfl
      case hyn40 => (intro z hSw; (try dsimp only at hSw); go_simp; (try with_reducible rfl))
      try simp only [Act.put, List.setIfInBounds_toArray, List.set_cons_zero, List.set_cons_succ]
      refine wpAnyH_take (i := 5) (oi := ?on41) (v := ?vn41) ?hin41 ?an41 ?bn41 ?cn41 ?qn41 (Or.inl ⟨?dn41, ?hyn41⟩) hHeld ?restn41
      case hin41 => (simp only [List.getElem?_toArray, List.getElem?_cons_succ, List.getElem?_cons_zero]; exact rfl)
      case an41 => kernel_rfl
      case bn41 => kernel_rfl
      case cn41 => kernel_rfl
      case qn41 => exact fun _ _ _ h => h
      case dn41 => rfl
      case hyn41 => (intro z hSw; (try dsimp only at hSw); go_simp; (try with_reducible rfl))
      try simp only [Act.put, List.setIfInBounds_toArray, List.set_cons_zero, List.set_cons_succ]
      refine wpAnyH_take (i := 6) (oi := ?on42) (v := ?vn42) ?hin42 ?an42 ?bn42 ?cn42 ?qn42 (Or.inl ⟨?dn42, ?hyn42⟩) hHeld ?restn42
      case hin42 => (simp only [List.getElem?_toArray, List.getElem?_cons_succ, List.getElem?_cons_zero]; exact rfl)
      case an42 => kernel_rfl
      case bn42 => kernel_rfl
      case cn42 => kernel_rfl
      case qn42 => exact fun _ _ _ h => h
      case dn42 => rfl
      case hyn42 => (intro z hSw; (try dsimp only at hSw); go_simp; (try with_reducible rfl))
      try simp only [Act.put, List.setIfInBounds_toArray, List.set_cons_zero, List.set_cons_succ]
      refine wpAnyH_take (i := 7) (oi := ?on43) (v := ?vn43) ?hin43 ?an43 ?bn43 ?cn43 ?qn43 (Or.inl ⟨?dn43, ?hyn43⟩) hHeld ?restn43
      case hin43 => (simp only [List.getElem?_toArray, List.getElem?_cons_succ, List.getElem?_cons_zero]; exact rfl)
      case an43 => kernel_rfl
      case bn43 => kernel_rfl
      case cn43 => kernel_rfl
      case qn43 => exact fun _ _ _ h => h
      case dn43 => rfl
      case hyn43 => (intro z hSw; (try dsimp only at hSw); go_simp; (try with_reducible rfl))
      try simp only [Act.put, List.setIfInBounds_toArray, List.set_cons_zero, List.set_cons_succ]
      refine wpAnyH_ready (rs := [8]) (by kernel_rfl) (by simp) ?_
      refine AllReadyH.cons (o := ?on44) ?hin44 ?restn44 AllReadyH.nil
      case hin44 => (simp only [List.getElem?_toArray, List.getElem?_cons_succ, List.getElem?_cons_zero]; exact rfl)
      intro K hK
      go_simp
      go_at_call 56
      refine (KE2.out _ h2).mono ?_
      rintro e w3 ⟨rfl, hgw3⟩
      have h3 : Grew w1 w3 := h2.trans hgw3
      refine hK.out _ _ ?_ (fun hHeld => ?_)
      · (try dsimp only); first | with_reducible assumption | exact Grew.alloc ‹_› _
      clear hK K
      try simp only [Act.put, List.setIfInBounds_toArray, List.set_cons_zero, List.set_cons_succ]
      refine wpAnyH_take (i := 9) (oi := ?on45) (v := ?vn45) ?hin45 ?an45 ?bn45 ?cn45 ?qn45 (Or.inl ⟨?dn45, ?hyn45⟩) hHeld ?restn45
      case hin45 => (simp only [List.getElem?_toArray, List.getElem?_cons_succ, List.getElem?_cons_zero]; exact rfl)
      case an45 => kernel_rfl
      case bn45 => kernel_rfl
      case cn45 => kernel_rfl
      case qn45 => exact fun _ _ _ h => h
      case dn45 => rfl
      case hyn45 => (intro z hSw; (try dsimp only at hSw); go_simp; (try with_reducible rfl))
      try simp only [Act.put, List.setIfInBounds_toArray, List.set_cons_zero, List.set_cons_succ]
      refine wpAnyH_take (i := 10) (oi := ?on46) (v := ?vn46) ?hin46 ?an46 ?bn46 ?cn46 ?qn46 (Or.inl ⟨?dn46, ?hyn46⟩) hHeld ?restn46
      case hin46 => (simp only [List.getElem?_toArray, List.getElem?_cons_succ, List.getElem?_cons_zero]; exact rfl)
      case an46 => kernel_rfl
      case bn46 => kernel_rfl
      case cn46 => kernel_rfl
      case qn46 => exact fun _ _ _ h => h
      case dn46 => rfl
      case hyn46 => (intro z hSw; (try dsimp only at hSw); go_simp; (try with_reducible rfl))
      try simp only [Act.put, List.setIfInBounds_toArray, List.set_cons_zero, List.set_cons_succ]
      refine wpAnyH_take (i := 11) (oi := ?on47) ?hin47 ?an47 ?bn47 ?cn47 ?qn47 (Or.inr ⟨?dn47, rfl⟩) hHeld ?restn47
      case hin47 => (simp only [List.getElem?_toArray, List.getElem?_cons_succ, List.getElem?_cons_zero]; exact rfl)
      case an47 => kernel_rfl
      case bn47 => kernel_rfl
      case cn47 => kernel_rfl
      case qn47 => exact fun _ _ _ h => h
      case dn47 => rfl
      try simp only [Act.put, List.setIfInBounds_toArray, List.set_cons_zero, List.set_cons_succ]
      refine wpAnyH_take (i := 12) (oi := ?on48) ?hin48 ?an48 ?bn48 ?cn48 ?qn48 (Or.inr ⟨?dn48, rfl⟩) hHeld ?restn48
      case hin48 => (simp only [List.getElem?_toArray, List.getElem?_cons_succ, List.getElem?_cons_zero]; exact rfl)
      case an48 => kernel_rfl
      case bn48 => kernel_rfl
      case cn48 => kernel_rfl
      case qn48 => exact fun _ _ _ h => h
      case dn48 => rfl
      try simp only [Act.put, List.setIfInBounds_toArray, List.set_cons_zero, List.set_cons_succ]
      refine wpAnyH_take (i := 13) (oi := ?on49) ?hin49 ?an49 ?bn49 ?cn49 ?qn49 (Or.inr ⟨?dn49, rfl⟩) hHeld ?restn49
      case hin49 => (simp only [List.getElem?_toArray, List.getElem?_cons_succ, List.getElem?_cons_zero]; exact rfl)
      case an49 => kernel_rfl
      case bn49 => kernel_rfl
      case cn49 => kernel_rfl
      case qn49 => exact fun _ _ _ h => h
      case dn49 => rfl
      try simp only [Act.put, List.setIfInBounds_toArray, List.set_cons_zero, List.set_cons_succ]
      refine wpAnyH_take (i := 14) (oi := ?on50) ?hin50 ?an50 ?bn50 ?cn50 ?qn50 (Or.inr ⟨?dn50, rfl⟩) hHeld ?restn50
      case hin50 => (simp only [List.getElem?_toArray, List.getElem?_cons_succ, List.getElem?_cons_zero]; exact rfl)
      case an50 => kernel_rfl
      case bn50 => kernel_rfl
      case cn50 => kernel_rfl
      case qn50 => exact fun _ _ _ h => h
      case dn50 => rfl
      try simp only [Act.put, List.setIfInBounds_toArray, List.set_cons_zero, List.set_cons_succ]
      refine wpAnyH_take (i := 15) (oi := ?on51) ?hin51 ?an51 ?bn51 ?cn51 ?qn51 (Or.inr ⟨?dn51, rfl⟩) hHeld ?restn51
      case hin51 => (simp only [List.getElem?_toArray, List.getElem?_cons_succ, List.getElem?_cons_zero]; exact rfl)
      case an51 => kernel_rfl
      case bn51 => kernel_rfl
      case cn51 => kernel_rfl
      case qn51 => exact fun _ _ _ h => h
      case dn51 => rfl
      try simp only [Act.put, List.setIfInBounds_toArray, List.set_cons_zero, List.set_cons_succ]
      refine wpAnyH_take (i := 16) (oi := ?on52) ?hin52 ?an52 ?bn52 ?cn52 ?qn52 (Or.inr ⟨?dn52, rfl⟩) hHeld ?restn52
      case hin52 => (simp only [List.getElem?_toArray, List.getElem?_cons_succ, List.getElem?_cons_zero]; exact rfl)
      case an52 => kernel_rfl
      case bn52 => kernel_rfl
      case cn52 => kernel_rfl
      case qn52 => exact fun _ _ _ h => h
      case dn52 => rfl
      try simp only [Act.put, List.setIfInBounds_toArray, List.set_cons_zero, List.set_cons_succ]
      refine wpAnyH_take (i := 17) (oi := ?on53) ?hin53 ?an53 ?bn53 ?cn53 ?qn53 (Or.inr ⟨?dn53, rfl⟩) hHeld ?restn53
      case hin53 => (simp only [List.getElem?_toArray, List.getElem?_cons_succ, List.getElem?_cons_zero]; exact rfl)
      case an53 => kernel_rfl
      case bn53 => kernel_rfl
      case cn53 => kernel_rfl
      case qn53 => exact fun _ _ _ h => h
      case dn53 => rfl
      try simp only [Act.put, List.setIfInBounds_toArray, List.set_cons_zero, List.set_cons_succ]
      refine wpAnyH_take (i := 18) (oi := ?on54) ?hin54 ?an54 ?bn54 ?cn54 ?qn54 (Or.inr ⟨?dn54, rfl⟩) hHeld ?restn54
      case hin54 => (simp only [List.getElem?_toArray, List.getElem?_cons_succ, List.getElem?_cons_zero]; exact rfl)
      case an54 => kernel_rfl
      case bn54 => kernel_rfl
      case cn54 => kernel_rfl
      case qn54 => exact fun _ _ _ h => h
      case dn54 => rfl
      try simp only [Act.put, List.setIfInBounds_toArray, List.set_cons_zero, List.set_cons_succ]
      refine wpAnyH_take (i := 19) (oi := ?on55) ?hin55 ?an55 ?bn55 ?cn55 ?qn55 (Or.inr ⟨?dn55, rfl⟩) hHeld ?restn55
      case hin55 => (simp only [List.getElem?_toArray, List.getElem?_cons_succ, List.getElem?_cons_zero]; exact rfl)
      case an55 => kernel_rfl
      case bn55 => kernel_rfl
      case cn55 => kernel_rfl
      case qn55 => exact fun _ _ _ h => h
      case dn55 => rfl
      try simp only [Act.put, List.setIfInBounds_toArray, List.set_cons_zero, List.set_cons_succ]
      refine wpAnyH_take (i := 20) (oi := ?on56) ?hin56 ?an56 ?bn56 ?cn56 ?qn56 (Or.inr ⟨?dn56, rfl⟩) hHeld ?restn56
      case hin56 => (simp only [List.getElem?_toArray, List.getElem?_cons_succ, List.getElem?_cons_zero]; exact rfl)
      case an56 => kernel_rfl
      case bn56 => kernel_rfl
      case cn56 => kernel_rfl
      case qn56 => exact fun _ _ _ h => h
      case dn56 => rfl
      try simp only [Act.put, List.setIfInBounds_toArray, List.set_cons_zero, List.set_cons_succ]
      refine wpAnyH_take (i := 21) (oi := ?on57) ?hin57 ?an57 ?bn57 ?cn57 ?qn57 (Or.inr ⟨?dn57, rfl⟩) hHeld ?restn57
      case hin57 => (simp only [List.getElem?_toArray, List.getElem?_cons_succ, List.getElem?_cons_zero]; exact rfl)
      case an57 => kernel_rfl
      case bn57 => kernel_rfl
      case cn57 => kernel_rfl
      case qn57 => exact fun _ _ _ h => h
      case dn57 => rfl
      try simp only [Act.put, List.setIfInBounds_toArray, List.set_cons_zero, List.set_cons_succ]
      refine wpAnyH_take (i := 22) (oi := ?on58) ?hin58 ?an58 ?bn58 ?cn58 ?qn58 (Or.inr ⟨?dn58, rfl⟩) hHeld ?restn58
      case hin58 => (simp only [List.getElem?_toArray, List.getElem?_cons_succ, List.getElem?_cons_zero]; exact rfl)
      case an58 => kernel_rfl
      case bn58 => kernel_rfl
      case cn58 => kernel_rfl
      case qn58 => exact fun _ _ _ h => h
      case dn58 => rfl
      try simp only [Act.put, List.setIfInBounds_toArray, List.set_cons_zero, List.set_cons_succ]
      refine wpAnyH_take (i := 23) (oi := ?on59) ?hin59 ?an59 ?bn59 ?cn59 ?qn59 (Or.inr ⟨?dn59, rfl⟩) hHeld ?restn59
      case hin59 => (simp only [List.getElem?_toArray, List.getElem?_cons_succ, List.getElem?_cons_zero]; exact rfl)
      case an59 => kernel_rfl
      case bn59 => kernel_rfl
      case cn59 => kernel_rfl
      case qn59 => exact fun _ _ _ h => h
      case dn59 => rfl
      try simp only [Act.put, List.setIfInBounds_toArray, List.set_cons_zero, List.set_cons_succ]
      refine wpAnyH_take (i := 24) (oi := ?on60) ?hin60 ?an60 ?bn60 ?cn60 ?qn60 (Or.inr ⟨?dn60, rfl⟩) hHeld ?restn60
      case hin60 => (simp only [List.getElem?_toArray, List.getElem?_cons_succ, List.getElem?_cons_zero]; exact rfl)
      case an60 => kernel_rfl
      case bn60 => kernel_rfl
      case cn60 => kernel_rfl
      case qn60 => exact fun _ _ _ h => h
      case dn60 => rfl
      try simp only [Act.put, List.setIfInBounds_toArray, List.set_cons_zero, List.set_cons_succ]
      refine wpAnyH_take (i := 25) (oi := ?on61) ?hin61 ?an61 ?bn61 ?cn61 ?qn61 (Or.inr ⟨?dn61, rfl⟩) hHeld ?restn61
      case hin61 => (simp only [List.getElem?_toArray, List.getElem?_cons_succ, List.getElem?_cons_zero]; exact rfl)
      case an61 => kernel_rfl
      case bn61 => kernel_rfl
      case cn61 => kernel_rfl
      case qn61 => exact fun _ _ _ h => h
      case dn61 => rfl
      try simp only [Act.put, List.setIfInBounds_toArray, List.set_cons_zero, List.set_cons_succ]
      refine wpAnyH_take (i := 26) (oi := ?on62) ?hin62 ?an62 ?bn62 ?cn62 ?qn62 (Or.inr ⟨?dn62, rfl⟩) hHeld ?restn62
      case hin62 => (simp only [List.getElem?_toArray, List.getElem?_cons_succ, List.getElem?_cons_zero]; exact rfl)
      case an62 => kernel_rfl
      case bn62 => kernel_rfl
      case cn62 => kernel_rfl
      case qn62 => exact fun _ _ _ h => h
      case dn62 => rfl
      try simp only [Act.put, List.setIfInBounds_toArray, List.set_cons_zero, List.set_cons_succ]
      refine wpAnyH_take (i := 27) (oi := ?on63) ?hin63 ?an63 ?bn63 ?cn63 ?qn63 (Or.inr ⟨?dn63, rfl⟩) hHeld ?restn63
      case hin63 => (simp only [List.getElem?_toArray, List.getElem?_cons_succ, List.getElem?_cons_zero]; exact rfl)
      case an63 => kernel_rfl
      case bn63 => kernel_rfl
      case cn63 => kernel_rfl
      case qn63 => exact fun _ _ _ h => h
      case dn63 => rfl
      try simp only [Act.put, List.setIfInBounds_toArray, List.set_cons_zero, List.set_cons_succ]
      refine wpAnyH_take (i := 28) (oi := ?on64) ?hin64 ?an64 ?bn64 ?cn64 ?qn64 (Or.inr ⟨?dn64, rfl⟩) hHeld ?restn64
      case hin64 => (simp only [List.getElem?_toArray, List.getElem?_cons_succ, List.getElem?_cons_zero]; exact rfl)
      case an64 => kernel_rfl
      case bn64 => kernel_rfl
      case cn64 => kernel_rfl
      case qn64 => exact fun _ _ _ h => h
      case dn64 => rfl
      try simp only [Act.put, List.setIfInBounds_toArray, List.set_cons_zero, List.set_cons_succ]
      refine wpAnyH_take (i := 29) (oi := ?on65) ?hin65 ?an65 ?bn65 ?cn65 ?qn65 (Or.inr ⟨?dn65, rfl⟩) hHeld ?restn65
      case hin65 => (simp only [List.getElem?_toArray, List.getElem?_cons_succ, List.getElem?_cons_zero]; exact rfl)
      case an65 => kernel_rfl
      case bn65 => kernel_rfl
      case cn65 => kernel_rfl
      case qn65 => exact fun _ _ _ h => h
      case dn65 => rfl
      try simp only [Act.put, List.setIfInBounds_toArray, List.set_cons_zero, List.set_cons_succ]
      refine wpAnyH_take (i := 30) (oi := ?on66) ?hin66 ?an66 ?bn66 ?cn66 ?qn66 (Or.inr ⟨?dn66, rfl⟩) hHeld ?restn66
      case hin66 => (simp only [List.getElem?_toArray, List.getElem?_cons_succ, List.getElem?_cons_zero]; exact rfl)
      case an66 => kernel_rfl
      case bn66 => kernel_rfl
      case cn66 => kernel_rfl
      case qn66 => exact fun _ _ _ h => h
      case dn66 => rfl
      try simp only [Act.put, List.setIfInBounds_toArray, List.set_cons_zero, List.set_cons_succ]
      refine wpAnyH_take (i := 31) (oi := ?on67) ?hin67 ?an67 ?bn67 ?cn67 ?qn67 (Or.inr ⟨?dn67, rfl⟩) hHeld ?restn67
      case hin67 => (simp only [List.getElem?_toArray, List.getElem?_cons_succ, List.getElem?_cons_zero]; exact rfl)
      case an67 => kernel_rfl
      case bn67 => kernel_rfl
      case cn67 => kernel_rfl
      case qn67 => exact fun _ _ _ h => h
      case dn67 => rfl
      try simp only [Act.put, List.setIfInBounds_toArray, List.set_cons_zero, List.set_cons_succ]
      refine wpAnyH_take (i := 32) (oi := ?on68) ?hin68 ?an68 ?bn68 ?cn68 ?qn68 (Or.inr ⟨?dn68, rfl⟩) hHeld ?restn68
      case hin68 => (simp only [List.getElem?_toArray, List.getElem?_cons_succ, List.getElem?_cons_zero]; exact rfl)
      case an68 => kernel_rfl
      case bn68 => kernel_rfl
      case cn68 => kernel_rfl
      case qn68 => exact fun _ _ _ h => h
      case dn68 => rfl
      try simp only [Act.put, List.setIfInBounds_toArray, List.set_cons_zero, List.set_cons_succ]
      refine wpAnyH_take (i := 33) (oi := ?on69) (v := ?vn69) ?hin69 ?an69 ?bn69 ?cn69 ?qn69 (Or.inl ⟨?dn69, ?hyn69⟩) hHeld ?restn69
      case hin69 => (simp only [List.getElem?_toArray, List.getElem?_cons_succ, List.getElem?_cons_zero]; exact rfl)
      case an69 => kernel_rfl
      case bn69 => kernel_rfl
      case cn69 => kernel_rfl
      case qn69 => exact fun _ _ _ h => h
      case dn69 => rfl
      case hyn69 => (intro z hSw; (try dsimp only at hSw); go_simp; (try with_reducible rfl))
      try simp only [Act.put, List.setIfInBounds_toArray, List.set_cons_zero, List.set_cons_succ]
      refine wpAnyH_take (i := 34) (oi := ?on70) (v := ?vn70) ?hin70 ?an70 ?bn70 ?cn70 ?qn70 (Or.inl ⟨?dn70, ?hyn70⟩) hHeld ?restn70
      case hin70 => (simp only [List.getElem?_toArray, List.getElem?_cons_succ, List.getElem?_cons_zero]; exact rfl)
      case an70 => kernel_rfl
      case bn70 => kernel_rfl
      case cn70 => kernel_rfl
      case qn70 => exact fun _ _ _ h => h
      case dn70 => rfl
      case hyn70 => (intro z hSw; (try dsimp only at hSw); go_simp; (try with_reducible rfl))
      try simp only [Act.put, List.setIfInBounds_toArray, List.set_cons_zero, List.set_cons_succ]
      refine wpAnyH_done (by kernel_rfl) ?_ _
      go_wp2_with fail
      go_ret
      exact ⟨by rw [hR]; rfl, g1.trans h3⟩
    | true =>
    rw [hin2, Bool.true_and] at hR
    have KE2 := fun W (hW : Grew w1 W) => KE0.out se W hW
    rw [hin2] at KE2
    replace KE2 := Lib.hid KE2
    have hin3 : 0 ≤ se ∧ se ≤ (k : Int) - 1 := by simpa using hin2
    obtain ⟨a, rfl⟩ : ∃ a : Nat, fi = (a : Int) := ⟨fi.toNat, by omega⟩
    obtain ⟨d, rfl⟩ : ∃ d : Nat, se = (d : Int) := ⟨se.toNat, by omega⟩
    rw [Int.toNat_natCast, Int.toNat_natCast] at hR
    obtain ⟨⟨ua, hca, hna⟩, hfa⟩ := HX.out a (by omega)
    obtain ⟨⟨ud, hcd, hnd⟩, hfd⟩ := HX.out d (by omega)
    have KJ := Lib.hid (fun W (hW : Grew w W) => join_c 4 _ _ _ fo W (hnd.grew hW) (HU.out W hW) (by have := hfl.out; omega))
    have KE := Lib.hid (fun W (hW : Grew w W) v2 ys (h2 : Nodes W v2 ys) => same_c _ v2 _ ys W (hna.grew hW) h2 (by omega))
    obtain ⟨Aa, ca, rfl⟩ := nodes_slice hna
    obtain ⟨Ad, cd, rfl⟩ := nodes_slice hnd
    have ha3 := fun W (hW : Grew w1 W) => (hca W (g1.trans hW)).2.2.2
    have hd3 := fun W (hW : Grew w1 W) => (hcd W (g1.trans hW)).2.2.2
    have haln : (a : Int) < (ln : Int) := by omega
    have hdln : (d : Int) < (ln : Int) := by omega
    clear hca hcd hna hnd HX
    generalize (hl L a).2.2.2 = xa at *
    generalize (hl L d).2.2.2 = xd at *
    generalize xa.length = la at *
    generalize xd.length = ld at *
    go_wp2_with fail
    refine wp_region_held_drew (S := fun w' => Grew w1 w') (by kernel_rfl) r1d (fun hHeld => ?_)
    refine wpAnyH_take (i := 0) (oi := ?on71) (v := ?vn71) ?hin71 ?an71 ?bn71 ?cn71 ?qn71 (Or.inl ⟨?dn71, ?hyn71⟩) hHeld ?restn71
    case hin71 => (simp only [List.getElem?_toArray, List.getElem?_cons_zero]; exact rfl)
    case an71 => kernel_rfl
    case bn71 => kernel_rfl
    case cn71 => kernel_rfl
    case qn71 => exact fun _ _ _ h => h
    case dn71 => rfl
    case hyn71 => (intro z hSw; (try dsimp only at hSw); go_simp; (try with_reducible rfl))
    try simp only [Act.put, List.setIfInBounds_toArray, List.set_cons_zero, List.set_cons_succ]
    refine wpAnyH_take (i := 1) (oi := ?on72) (v := ?vn72) ?hin72 ?an72 ?bn72 ?cn72 ?qn72 (Or.inl ⟨?dn72, ?hyn72⟩) hHeld ?restn72
    case hin72 => (simp only [List.getElem?_toArray, List.getElem?_cons_succ, List.getElem?_cons_zero]; exact rfl)
    case an72 => kernel_rfl
    case bn72 => kernel_rfl
    case cn72 => kernel_rfl
    case qn72 => exact fun _ _ _ h => h
    case dn72 => rfl
    case hyn72 => (intro z hSw; (try dsimp only at hSw); go_simp; (try with_reducible rfl))
    try simp only [Act.put, List.setIfInBounds_toArray, List.set_cons_zero, List.set_cons_succ]
    refine wpAnyH_take (i := 2) (oi := ?on73) (v := ?vn73) ?hin73 ?an73 ?bn73 ?cn73 ?qn73 (Or.inl ⟨?dn73, ?hyn73⟩) hHeld ?restn73
    case hin73 => (simp only [List.getElem?_toArray, List.getElem?_cons_succ, List.getElem?_cons_zero]; exact rfl)
    case an73 => kernel_rfl
    case bn73 => kernel_rfl
    case cn73 => kernel_rfl
    case qn73 => exact fun _ _ _ h => h
    case dn73 => rfl
    case hyn73 => (intro z hSw; (try dsimp only at hSw); go_simp; (try with_reducible rfl))
    try simp only [Act.put, List.setIfInBounds_toArray, List.set_cons_zero, List.set_cons_succ]
    refine wpAnyH_ready (rs := [3]) (by kernel_rfl) (by simp) ?_
    refine AllReadyH.cons (o := ?on74) ?hin74 ?restn74 AllReadyH.nil
    case hin74 => (simp only [List.getElem?_toArray, List.getElem?_cons_succ, List.getElem?_cons_zero]; exact rfl)
    intro K hK
    go_simp
    go_at_call 56
    refine (KE1.out _ (by repeat (first | with_reducible assumption | with_reducible refine Grew.alloc ?_ _ | with_reducible refine Grew.drew ?_ | with_reducible refine Grew.drewN ?_ _))).mono ?_
    rintro e w2 ⟨rfl, hgw2⟩
    have h2 : Grew w1 w2 := Grew.trans (by repeat (first | with_reducible assumption | with_reducible refine Grew.alloc ?_ _ | with_reducible refine Grew.drew ?_ | with_reducible refine Grew.drewN ?_ _)) hgw2
    refine hK.out _ _ ?_ (fun hHeld => ?_)
    · (try dsimp only); first | with_reducible assumption | exact Grew.alloc ‹_› _
    clear hK K
    try simp only [Act.put, List.setIfInBounds_toArray, List.set_cons_zero, List.set_cons_succ]
    refine wpAnyH_take (i := 4) (oi := ?on75) (v := ?vn75) ?hin75 ?an75 ?bn75 ?cn75 ?qn75 (Or.inl ⟨?dn75, ?hyn75⟩) hHeld ?restn75
    case hin75 => (simp only [List.getElem?_toArray, List.getElem?_cons_succ, List.getElem?_cons_zero]; exact rfl)
    case an75 => kernel_rfl
    case bn75 => kernel_rfl
    case cn75 => kernel_rfl
    case qn75 => exact fun _ _ _ h => h
    case dn75 => rfl
    case hyn75 => (intro z hSw; (try dsimp only at hSw); go_simp; (try with_reducible rfl))
    try simp only [Act.put, List.setIfInBounds_toArray, List.set_cons_zero, List.set_cons_succ]
    refine wpAnyH_take (i := 5) (oi := ?on76) (v := ?vn76) ?hin76 ?an76 ?bn76 ?cn76 ?qn76 (Or.inl ⟨?dn76, ?hyn76⟩) hHeld ?restn76
    case hin76 => (simp only [List.getElem?_toArray, List.getElem?_cons_succ, List.getElem?_cons_zero]; exact rfl)
    case an76 => kernel_rfl
    case bn76 => kernel_rfl
    case cn76 => kernel_rfl
    case qn76 => exact fun _ _ _ h => h
    case dn76 => rfl
    case hyn76 => (intro z hSw; (try dsimp only at hSw); go_simp; (try with_reducible rfl))
    try simp only [Act.put, List.setIfInBounds_toArray, List.set_cons_zero, List.set_cons_succ]
    refine wpAnyH_take (i := 6) (oi := ?on77) (v := ?vn77) ?hin77 ?an77 ?bn77 ?cn77 ?qn77 (Or.inl ⟨?dn77, ?hyn77⟩) hHeld ?restn77
    case hin77 => (simp only [List.getElem?_toArray, List.getElem?_cons_succ, List.getElem?_cons_zero]; exact rfl)
    case an77 => kernel_rfl
    case bn77 => kernel_rfl
    case cn77 => kernel_rfl
    case qn77 => exact fun _ _ _ h => h
    case dn77 => rfl
    case hyn77 => (intro z hSw; (try dsimp only at hSw); go_simp; (try with_reducible rfl))
    try simp only [Act.put, List.setIfInBounds_toArray, List.set_cons_zero, List.set_cons_succ]
    refine wpAnyH_take (i := 7) (oi := ?on78) (v := ?vn78) ?hin78 ?an78 ?bn78 ?cn78 ?qn78 (Or.inl ⟨?dn78, ?hyn78⟩) hHeld ?restn78
    case hin78 => (simp only [List.getElem?_toArray, List.getElem?_cons_succ, List.getElem?_cons_zero]; exact rfl)
    case an78 => kernel_rfl
    case bn78 => kernel_rfl
    case cn78 => kernel_rfl
    case qn78 => exact fun _ _ _ h => h
    case dn78 => rfl
    case hyn78 => (intro z hSw; (try dsimp only at hSw); go_simp; (try with_reducible rfl))
    try simp only [Act.put, List.setIfInBounds_toArray, List.set_cons_zero, List.set_cons_succ]
    refine wpAnyH_ready (rs := [8]) (by kernel_rfl) (by simp) ?_
    refine AllReadyH.cons (o := ?on79) ?hin79 ?restn79 AllReadyH.nil
    case hin79 => (simp only [List.getElem?_toArray, List.getElem?_cons_succ, List.getElem?_cons_zero]; exact rfl)
    intro K hK
    go_simp
    go_at_call 56
    refine (KE2.out _ h2).mono ?_
    rintro e w3 ⟨rfl, hgw3⟩
    have h3 : Grew w1 w3 := h2.trans hgw3
    refine hK.out _ _ ?_ (fun hHeld => ?_)
    · (try dsimp only); first | with_reducible assumption | exact Grew.alloc ‹_› _
    clear hK K
    try simp only [Act.put, List.setIfInBounds_toArray, List.set_cons_zero, List.set_cons_succ]
    refine wpAnyH_take (i := 9) (oi := ?on80) (v := ?vn80) ?hin80 ?an80 ?bn80 ?cn80 ?qn80 (Or.inl ⟨?dn80, ?hyn80⟩) hHeld ?restn80
    case hin80 => (simp only [List.getElem?_toArray, List.getElem?_cons_succ, List.getElem?_cons_zero]; exact rfl)
    case an80 => kernel_rfl
    case bn80 => kernel_rfl
    case cn80 => kernel_rfl
    case qn80 => exact fun _ _ _ h => h
    case dn80 => rfl
    case hyn80 => (intro z hSw; (try dsimp only at hSw); go_simp; (try with_reducible rfl))
    try simp only [Act.put, List.setIfInBounds_toArray, List.set_cons_zero, List.set_cons_succ]
    refine wpAnyH_take (i := 10) (oi := ?on81) (v := ?vn81) ?hin81 ?an81 ?bn81 ?cn81 ?qn81 (Or.inl ⟨?dn81, ?hyn81⟩) hHeld ?restn81
    case hin81 => (simp only [List.getElem?_toArray, List.getElem?_cons_succ, List.getElem?_cons_zero]; exact rfl)
    case an81 => kernel_rfl
    case bn81 => kernel_rfl
    case cn81 => kernel_rfl
    case qn81 => exact fun _ _ _ h => h
    case dn81 => rfl
    case hyn81 => (intro z hSw; (try dsimp only at hSw); go_simp; (try with_reducible rfl))
    try simp only [Act.put, List.setIfInBounds_toArray, List.set_cons_zero, List.set_cons_succ]
    refine wpAnyH_take (i := 11) (oi := ?on82) (v := ?vn82) ?hin82 ?an82 ?bn82 ?cn82 ?qn82 (Or.inl ⟨?dn82, ?hyn82⟩) hHeld ?restn82
    case hin82 => (simp only [List.getElem?_toArray, List.getElem?_cons_succ, List.getElem?_cons_zero]; exact rfl)
    case an82 => kernel_rfl
    case bn82 => kernel_rfl
    case cn82 => kernel_rfl
    case qn82 => exact fun _ _ _ h => h
    case dn82 => rfl
    case hyn82 => (intro z hSw; (try dsimp only at hSw); go_simp; (try with_reducible rfl))
    try simp only [Act.put, List.setIfInBounds_toArray, List.set_cons_zero, List.set_cons_succ]
    refine wpAnyH_take (i := 12) (oi := ?on83) (v := ?vn83) ?hin83 ?an83 ?bn83 ?cn83 ?qn83 (Or.inl ⟨?dn83, ?hyn83⟩) hHeld ?restn83
    case hin83 => (simp only [List.getElem?_toArray, List.getElem?_cons_succ, List.getElem?_cons_zero]; exact rfl)
    case an83 => kernel_rfl
    case bn83 => kernel_rfl
    case cn83 => kernel_rfl
    case qn83 => exact fun _ _ _ h => h
    case dn83 => rfl
    case hyn83 => (intro z hSw; (try dsimp only at hSw); go_simp; (try with_reducible rfl))
    try simp only [Act.put, List.setIfInBounds_toArray, List.set_cons_zero, List.set_cons_succ]
    refine wpAnyH_take (i := 13) (oi := ?on84) (v := ?vn84) ?hin84 ?an84 ?bn84 ?cn84 ?qn84 (Or.inl ⟨?dn84, ?hyn84⟩) hHeld ?restn84
    case hin84 => (simp only [List.getElem?_toArray, List.getElem?_cons_succ, List.getElem?_cons_zero]; exact rfl)
    case an84 => kernel_rfl
    case bn84 => kernel_rfl
    case cn84 => kernel_rfl
    case qn84 => exact fun _ _ _ h => h
    case dn84 => rfl
    case hyn84 => (intro z hSw; (try dsimp only at hSw); go_simp; (try with_reducible rfl))
    try simp only [Act.put, List.setIfInBounds_toArray, List.set_cons_zero, List.set_cons_succ]
    refine wpAnyH_take (i := 14) (oi := ?on85) (v := ?vn85) ?hin85 ?an85 ?bn85 ?cn85 ?qn85 (Or.inl ⟨?dn85, ?hyn85⟩) hHeld ?restn85
    case hin85 => (simp only [List.getElem?_toArray, List.getElem?_cons_succ, List.getElem?_cons_zero]; exact rfl)
    case an85 => kernel_rfl
    case bn85 => kernel_rfl
    case cn85 => kernel_rfl
    case qn85 => exact fun _ _ _ h => h
    case dn85 => rfl
    case hyn85 => (intro z hSw; (try dsimp only at hSw); go_simp; (try with_reducible rfl))
    try simp only [Act.put, List.setIfInBounds_toArray, List.set_cons_zero, List.set_cons_succ]
    refine wpAnyH_take (i := 15) (oi := ?on86) (v := ?vn86) ?hin86 ?an86 ?bn86 ?cn86 ?qn86 (Or.inl ⟨?dn86, ?hyn86⟩) hHeld ?restn86
    case hin86 => (simp only [List.getElem?_toArray, List.getElem?_cons_succ, List.getElem?_cons_zero]; exact rfl)
    case an86 => kernel_rfl
    case bn86 => kernel_rfl
    case cn86 => kernel_rfl
    case qn86 => exact fun _ _ _ h => h
    case dn86 => rfl
    case hyn86 => (intro z hSw; (try dsimp only at hSw); go_simp; (try with_reducible rfl))
    try simp only [Act.put, List.setIfInBounds_toArray, List.set_cons_zero, List.set_cons_succ]
    refine wpAnyH_take (i := 16) (oi := ?on87) (v := ?vn87) ?hin87 ?an87 ?bn87 ?cn87 ?qn87 (Or.inl ⟨?dn87, ?hyn87⟩) hHeld ?restn87
    case hin87 => (simp only [List.getElem?_toArray, List.getElem?_cons_succ, List.getElem?_cons_zero]; exact rfl)
    case an87 => kernel_rfl
    case bn87 => kernel_rfl
    case cn87 => kernel_rfl
    case qn87 => exact fun _ _ _ h => h
    case dn87 => rfl
    case hyn87 => (intro z hSw; (try dsimp only at hSw); go_simp; (try with_reducible rfl))
    try simp only [Act.put, List.setIfInBounds_toArray, List.set_cons_zero, List.set_cons_succ]
    refine wpAnyH_take (i := 17) (oi := ?on88) (v := ?vn88) ?hin88 ?an88 ?bn88 ?cn88 ?qn88 (Or.inl ⟨?dn88, ?hyn88⟩) hHeld ?restn88
    case hin88 => (simp only [List.getElem?_toArray, List.getElem?_cons_succ, List.getElem?_cons_zero]; exact rfl)
    case an88 => kernel_rfl
    case bn88 => kernel_rfl
    case cn88 => kernel_rfl
    case qn88 => exact fun _ _ _ h => h
    case dn88 => rfl
    case hyn88 => (intro z hSw; (try dsimp only at hSw); go_simp; (try with_reducible rfl))
    try simp only [Act.put, List.setIfInBounds_toArray, List.set_cons_zero, List.set_cons_succ]
    refine wpAnyH_take (i := 18) (oi := ?on89) (v := ?vn89) ?hin89 ?an89 ?bn89 ?cn89 ?qn89 (Or.inl ⟨?dn89, ?hyn89⟩) hHeld ?restn89
    case hin89 => (simp only [List.getElem?_toArray, List.getElem?_cons_succ, List.getElem?_cons_zero]; exact rfl)
    case an89 => kernel_rfl
    case bn89 => kernel_rfl
    case cn89 => kernel_rfl
    case qn89 => exact fun _ _ _ h => h
    case dn89 => rfl
    case hyn89 => (intro z hSw; (try dsimp only at hSw); go_simp; (try with_reducible rfl))
    try simp only [Act.put, List.setIfInBounds_toArray, List.set_cons_zero, List.set_cons_succ]
    refine wpAnyH_take (i := 19) (oi := ?on90) (v := ?vn90) ?hin90 ?an90 ?bn90 ?cn90 ?qn90 (Or.inl ⟨?dn90, ?hyn90⟩) hHeld ?restn90
    case hin90 => (simp only [List.getElem?_toArray, List.getElem?_cons_succ, List.getElem?_cons_zero]; exact rfl)
    case an90 => kernel_rfl
    case bn90 => kernel_rfl
    case cn90 => kernel_rfl
    case qn90 => exact fun _ _ _ h => h
    case dn90 => rfl
    case hyn90 => (intro z hSw; (try dsimp only at hSw); go_simp; (try with_reducible rfl))
    try simp only [Act.put, List.setIfInBounds_toArray, List.set_cons_zero, List.set_cons_succ]
    refine wpAnyH_take (i := 20) (oi := ?on91) (v := ?vn91) ?hin91 ?an91 ?bn91 ?cn91 ?qn91 (Or.inl ⟨?dn91, ?hyn91⟩) hHeld ?restn91
    case hin91 => (simp only [List.getElem?_toArray, List.getElem?_cons_succ, List.getElem?_cons_zero]; exact rfl)
    case an91 => kernel_rfl
    case bn91 => kernel_rfl
    case cn91 => kernel_rfl
    case qn91 => exact fun _ _ _ h => h
    case dn91 => rfl
    case hyn91 => (intro z hSw; (try dsimp only at hSw); go_simp; (try with_reducible rfl))
    try simp only [Act.put, List.setIfInBounds_toArray, List.set_cons_zero, List.set_cons_succ]
    refine wpAnyH_take (i := 21) (oi := ?on92) (v := ?vn92) ?hin92 ?an92 ?bn92 ?cn92 ?qn92 (Or.inl ⟨?dn92, ?hyn92⟩) hHeld ?restn92
    case hin92 => (simp only [List.getElem?_toArray, List.getElem?_cons_succ, List.getElem?_cons_zero]; exact rfl)
    case an92 => kernel_rfl
    case bn92 => kernel_rfl
    case cn92 => kernel_rfl
    case qn92 => exact fun _ _ _ h => h
    case dn92 => rfl
    case hyn92 => (intro z hSw; (try dsimp only at hSw); go_simp; (try with_reducible rfl))
    try simp only [Act.put, List.setIfInBounds_toArray, List.set_cons_zero, List.set_cons_succ]
    refine wpAnyH_take (i := 22) (oi := ?on93) (v := ?vn93) ?hin93 ?an93 ?bn93 ?cn93 ?qn93 (Or.inl ⟨?dn93, ?hyn93⟩) hHeld ?restn93
    case hin93 => (simp only [List.getElem?_toArray, List.getElem?_cons_succ, List.getElem?_cons_zero]; exact rfl)
    case an93 => kernel_rfl
    case bn93 => kernel_rfl
    case cn93 => kernel_rfl
    case qn93 => exact fun _ _ _ h => h
    case dn93 => rfl
    case hyn93 => (intro z hSw; (try dsimp only at hSw); go_simp; (try with_reducible rfl))
    try simp only [Act.put, List.setIfInBounds_toArray, List.set_cons_zero, List.set_cons_succ]
    refine wpAnyH_take (i := 23) (oi := ?on94) (v := ?vn94) ?hin94 ?an94 ?bn94 ?cn94 ?qn94 (Or.inl ⟨?dn94, ?hyn94⟩) hHeld ?restn94
    case hin94 => (simp only [List.getElem?_toArray, List.getElem?_cons_succ, List.getElem?_cons_zero]; exact rfl)
    case an94 => kernel_rfl
    case bn94 => kernel_rfl
    case cn94 => kernel_rfl
    case qn94 => exact fun _ _ _ h => h
    case dn94 => rfl
    case hyn94 => (intro z hSw; (try dsimp only at hSw); go_simp; (try with_reducible rfl))
    try simp only [Act.put, List.setIfInBounds_toArray, List.set_cons_zero, List.set_cons_succ]
    refine wpAnyH_take (i := 24) (oi := ?on95) (v := ?vn95) ?hin95 ?an95 ?bn95 ?cn95 ?qn95 (Or.inl ⟨?dn95, ?hyn95⟩) hHeld ?restn95
    case hin95 => (simp only [List.getElem?_toArray, List.getElem?_cons_succ, List.getElem?_cons_zero]; exact rfl)
    case an95 => kernel_rfl
    case bn95 => kernel_rfl
    case cn95 => kernel_rfl
    case qn95 => exact fun _ _ _ h => h
    case dn95 => rfl
    case hyn95 => (intro z hSw; (try dsimp only at hSw); go_simp; (try with_reducible rfl))
    try simp only [Act.put, List.setIfInBounds_toArray, List.set_cons_zero, List.set_cons_succ]
    refine wpAnyH_take (i := 25) (oi := ?on96) (v := ?vn96) ?hin96 ?an96 ?bn96 ?cn96 ?qn96 (Or.inl ⟨?dn96, ?hyn96⟩) hHeld ?restn96
    case hin96 => (simp only [List.getElem?_toArray, List.getElem?_cons_succ, List.getElem?_cons_zero]; exact rfl)
    case an96 => kernel_rfl
    case bn96 => kernel_rfl
    case cn96 => kernel_rfl
    case qn96 => exact fun _ _ _ h => h
    case dn96 => rfl
    case hyn96 => (intro z hSw; (try dsimp only at hSw); go_simp; (try with_reducible rfl))
    try simp only [Act.put, List.setIfInBounds_toArray, List.set_cons_zero, List.set_cons_succ]
    refine wpAnyH_take (i := 26) (oi := ?on97) (v := ?vn97) ?hin97 ?an97 ?bn97 ?cn97 ?qn97 (Or.inl ⟨?dn97, ?hyn97⟩) hHeld ?restn97
    case hin97 => (simp only [List.getElem?_toArray, List.getElem?_cons_succ, List.getElem?_cons_zero]; exact rfl)
    case an97 => kernel_rfl
    case bn97 => kernel_rfl
    case cn97 => kernel_rfl
    case qn97 => exact fun _ _ _ h => h
    case dn97 => rfl
    case hyn97 => (intro z hSw; (try dsimp only at hSw); go_simp; (try with_reducible rfl))
    try simp only [Act.put, List.setIfInBounds_toArray, List.set_cons_zero, List.set_cons_succ]
    refine wpAnyH_take (i := 27) (oi := ?on98) (v := ?vn98) ?hin98 ?an98 ?bn98 ?cn98 ?qn98 (Or.inl ⟨?dn98, ?hyn98⟩) hHeld ?restn98
    case hin98 => (simp only [List.getElem?_toArray, List.getElem?_cons_succ, List.getElem?_cons_zero]; exact rfl)
    case an98 => kernel_rfl
    case bn98 => kernel_rfl
    case cn98 => kernel_rfl
    case qn98 => exact fun _ _ _ h => h
    case dn98 => rfl
    case hyn98 => (intro z hSw; (try dsimp only at hSw); go_simp; (try with_reducible rfl))
    try simp only [Act.put, List.setIfInBounds_toArray, List.set_cons_zero, List.set_cons_succ]
    refine wpAnyH_take (i := 28) (oi := ?on99) (v := ?vn99) ?hin99 ?an99 ?bn99 ?cn99 ?qn99 (Or.inl ⟨?dn99, ?hyn99⟩) hHeld ?restn99
    case hin99 => (simp only [List.getElem?_toArray, List.getElem?_cons_succ, List.getElem?_cons_zero]; exact rfl)
    case an99 => kernel_rfl
    case bn99 => kernel_rfl
    case cn99 => kernel_rfl
    case qn99 => exact fun _ _ _ h => h
    case dn99 => rfl
    case hyn99 => (intro z hSw; (try dsimp only at hSw); go_simp; (try with_reducible rfl))
    try simp only [Act.put, List.setIfInBounds_toArray, List.set_cons_zero, List.set_cons_succ]
    refine wpAnyH_take (i := 29) (oi := ?on100) (v := ?vn100) ?hin100 ?an100 ?bn100 ?cn100 ?qn100 (Or.inl ⟨?dn100, ?hyn100⟩) hHeld ?restn100
    case hin100 => (simp only [List.getElem?_toArray, List.getElem?_cons_succ, List.getElem?_cons_zero]; exact rfl)
    case an100 => kernel_rfl
    case bn100 => kernel_rfl
    case cn100 => kernel_rfl
    case qn100 => exact fun _ _ _ h => h
    case dn100 => rfl
    case hyn100 => (intro z hSw; (try dsimp only at hSw); go_simp; (try with_reducible rfl))
    try simp only [Act.put, List.setIfInBounds_toArray, List.set_cons_zero, List.set_cons_succ]
    refine wpAnyH_take (i := 30) (oi := ?on101) (v := ?vn101) ?hin101 ?an101 ?bn101 ?cn101 ?qn101 (Or.inl ⟨?dn101, ?hyn101⟩) hHeld ?restn101
    case hin101 => (simp only [List.getElem?_toArray, List.getElem?_cons_succ, List.getElem?_cons_zero]; exact rfl)
    case an101 => kernel_rfl
    case bn101 => kernel_rfl
    case cn101 => kernel_rfl
    case qn101 => exact fun _ _ _ h => h
    case dn101 => rfl
    case hyn101 => (intro z hSw; (try dsimp only at hSw); go_simp; (try with_reducible rfl))
    try simp only [Act.put, List.setIfInBounds_toArray, List.set_cons_zero, List.set_cons_succ]
    refine wpAnyH_ready (rs := [31]) (by kernel_rfl) (by simp) ?_
    refine AllReadyH.cons (o := ?on102) ?hin102 ?restn102 AllReadyH.nil
    case hin102 => (simp only [List.getElem?_toArray, List.getElem?_cons_succ, List.getElem?_cons_zero]; exact rfl)
    intro K hK
    go_simp
    go_at_call 60
    refine (KJ.out _ (g1.trans h3)).mono ?_
    rintro e w4 ⟨v4, rfl, ho4, hg4⟩
    have h4 : Grew w1 w4 := h3.trans hg4
    have hn4 := ho4.nodes
    obtain ⟨A4, c4, rfl⟩ := nodes_slice ho4.nodes
    refine hK.out _ _ ?_ (fun hHeld => ?_)
    · (try dsimp only); first | with_reducible assumption | exact Grew.alloc ‹_› _
    clear hK K
    try simp only [Act.put, List.setIfInBounds_toArray, List.set_cons_zero, List.set_cons_succ]
    refine wpAnyH_ready (rs := [32]) (by kernel_rfl) (by simp) ?_
    refine AllReadyH.cons (o := ?on103) ?hin103 ?restn103 AllReadyH.nil
    case hin103 => (simp only [List.getElem?_toArray, List.getElem?_cons_succ, List.getElem?_cons_zero]; exact rfl)
    intro K hK
    go_simp
    go_at_call 59
    refine (KE.out _ (g1.trans h4) _ _ hn4).mono ?_
    rintro e w5 ⟨rfl, hg5⟩
    have h5 : Grew w1 w5 := h4.trans hg5
    refine hK.out _ _ ?_ (fun hHeld => ?_)
    · (try dsimp only); first | with_reducible assumption | exact Grew.alloc ‹_› _
    clear hK K
    try simp only [Act.put, List.setIfInBounds_toArray, List.set_cons_zero, List.set_cons_succ]
    refine wpAnyH_take (i := 33) (oi := ?on104) (v := ?vn104) ?hin104 ?an104 ?bn104 ?cn104 ?qn104 (Or.inl ⟨?dn104, ?hyn104⟩) hHeld ?restn104
    case hin104 => (simp only [List.getElem?_toArray, List.getElem?_cons_succ, List.getElem?_cons_zero]; exact rfl)
    case an104 => kernel_rfl
    case bn104 => kernel_rfl
    case cn104 => kernel_rfl
    case qn104 => exact fun _ _ _ h => h
    case dn104 => rfl
    case hyn104 => (intro z hSw; (try dsimp only at hSw); go_simp; (try with_reducible rfl))
    try simp only [Act.put, List.setIfInBounds_toArray, List.set_cons_zero, List.set_cons_succ]
    refine wpAnyH_take (i := 34) (oi := ?on105) (v := ?vn105) ?hin105 ?an105 ?bn105 ?cn105 ?qn105 (Or.inl ⟨?dn105, ?hyn105⟩) hHeld ?restn105
    case hin105 => (simp only [List.getElem?_toArray, List.getElem?_cons_succ, List.getElem?_cons_zero]; exact rfl)
    case an105 => kernel_rfl
    case bn105 => kernel_rfl
    case cn105 => kernel_rfl
    case qn105 => exact fun _ _ _ h => h
    case dn105 => rfl
    case hyn105 => (intro z hSw; (try dsimp only at hSw); go_simp; (try with_reducible rfl))
    try simp only [Act.put, List.setIfInBounds_toArray, List.set_cons_zero, List.set_cons_succ]
    refine wpAnyH_done (by kernel_rfl) ?_ _
    go_wp2_with fail
    go_ret
    exact ⟨by rw [hR]; rfl, g1.trans h5⟩
  have z3 : (rr == 3) = false := by simpa using h3r
  by_cases h4r : rr = 4
  · subst h4r
    rw [fx_4 hf] at hR
    cases hs1 : (s.toList == [73, 110, 116]) with
    | true =>
      simp only [hs1, Bool.not_true, Bool.false_and] at hR
      go_wp2_with fail
      refine wp_region_held_drew (S := fun w' => Grew w1 w') (by kernel_rfl) r1d (fun hHeld => ?_)
      refine wpAnyH_take (i := 0) (oi := ?on106) (v := ?vn106) ?hin106 ?an106 ?bn106 ?cn106 ?qn106 (Or.inl ⟨?dn106, ?hyn106⟩) hHeld ?restn106
      case hin106 => (simp only [List.getElem?_toArray, List.getElem?_cons_zero]; exact rfl)
      case an106 => kernel_rfl
      case bn106 => kernel_rfl
      case cn106 => kernel_rfl
      case qn106 => exact fun _ _ _ h => h
      case dn106 => rfl
      case hyn106 => (intro z hSw; (try dsimp only at hSw); go_simp; (try with_reducible rfl))
      try simp only [Act.put, List.setIfInBounds_toArray, List.set_cons_zero, List.set_cons_succ]
      refine wpAnyH_take (i := 1) (oi := ?on107) (v := ?vn107) ?hin107 ?an107 ?bn107 ?cn107 ?qn107 (Or.inl ⟨?dn107, ?hyn107⟩) hHeld ?restn107
      case hin107 => (simp only [List.getElem?_toArray, List.getElem?_cons_succ, List.getElem?_cons_zero]; exact rfl)
      case an107 => kernel_rfl
      case bn107 => kernel_rfl
      case cn107 => kernel_rfl
      case qn107 => exact fun _ _ _ h => h
      case dn107 => rfl
      case hyn107 => (intro z hSw; (try dsimp only at hSw); go_simp; (try with_reducible rfl))
      try simp only [Act.put, List.setIfInBounds_toArray, List.set_cons_zero, List.set_cons_succ]
      refine wpAnyH_take (i := 2) (oi := ?on108) (v := ?vn108) ?hin108 ?an108 ?bn108 ?cn108 ?qn108 (Or.inl ⟨?dn108, ?hyn108⟩) hHeld ?restn108
      case hin108 => (simp only [List.getElem?_toArray, List.getElem?_cons_succ, List.getElem?_cons_zero]; exact rfl)
      case an108 => kernel_rfl
      case bn108 => kernel_rfl
      case cn108 => kernel_rfl
      case qn108 => exact fun _ _ _ h => h
      case dn108 => rfl
      case hyn108 => (intro z hSw; (try dsimp only at hSw); go_simp; (try with_reducible rfl))
      try simp only [Act.put, List.setIfInBounds_toArray, List.set_cons_zero, List.set_cons_succ]
      refine wpAnyH_take (i := 3) (oi := ?on109) (v := ?vn109) ?hin109 ?an109 ?bn109 ?cn109 ?qn109 (Or.inl ⟨?dn109, ?hyn109⟩) hHeld ?restn109
      case hin109 => (simp only [List.getElem?_toArray, List.getElem?_cons_succ, List.getElem?_cons_zero]; exact rfl)
      case an109 => kernel_rfl
      case bn109 => kernel_rfl
      case cn109 => kernel_rfl
      case qn109 => exact fun _ _ _ h => h
      case dn109 => rfl
      case hyn109 => (intro z hSw; (try dsimp only at hSw); go_simp; (try with_reducible rfl))
      try simp only [Act.put, List.setIfInBounds_toArray, List.set_cons_zero, List.set_cons_succ]
      refine wpAnyH_take (i := 4) (oi := ?on110) (v := ?vn110) ?hin110 ?an110 ?bn110 ?cn110 ?qn110 (Or.inl ⟨?dn110, ?hyn110⟩) hHeld ?restn110
      case hin110 => (simp only [List.getElem?_toArray, List.getElem?_cons_succ, List.getElem?_cons_zero]; exact rfl)
      case an110 => kernel_rfl
      case bn110 => kernel_rfl
      case cn110 => kernel_rfl
      case qn110 => exact fun _ _ _ h => h
      case dn110 => rfl
      case hyn110 => (intro z hSw; (try dsimp only at hSw); go_simp; (try with_reducible rfl))
      try simp only [Act.put, List.setIfInBounds_toArray, List.set_cons_zero, List.set_cons_succ]
      refine wpAnyH_take (i := 5) (oi := ?on111) (v := ?vn111) ?hin111 ?an111 ?bn111 ?cn111 ?qn111 (Or.inl ⟨?dn111, ?hyn111⟩) hHeld ?restn111
      case hin111 => (simp only [List.getElem?_toArray, List.getElem?_cons_succ, List.getElem?_cons_zero]; exact rfl)
      case an111 => kernel_rfl
      case bn111 => kernel_rfl
      case cn111 => kernel_rfl
      case qn111 => exact fun _ _ _ h => h
      case dn111 => rfl
      case hyn111 => (intro z hSw; (try dsimp only at hSw); go_simp; (try with_reducible rfl))
      try simp only [Act.put, List.setIfInBounds_toArray, List.set_cons_zero, List.set_cons_succ]
      refine wpAnyH_take (i := 6) (oi := ?on112) ?hin112 ?an112 ?bn112 ?cn112 ?qn112 (Or.inr ⟨?dn112, rfl⟩) hHeld ?restn112
      case hin112 => (simp only [List.getElem?_toArray, List.getElem?_cons_succ, List.getElem?_cons_zero]; exact rfl)
      case an112 => kernel_rfl
      case bn112 => kernel_rfl
      case cn112 => kernel_rfl
      case qn112 => exact fun _ _ _ h => h
      case dn112 => rfl
      try simp only [Act.put, List.setIfInBounds_toArray, List.set_cons_zero, List.set_cons_succ]
      refine wpAnyH_take (i := 7) (oi := ?on113) ?hin113 ?an113 ?bn113 ?cn113 ?qn113 (Or.inr ⟨?dn113, rfl⟩) hHeld ?restn113
      case hin113 => (simp only [List.getElem?_toArray, List.getElem?_cons_succ, List.getElem?_cons_zero]; exact rfl)
      case an113 => kernel_rfl
      case bn113 => kernel_rfl
      case cn113 => kernel_rfl
      case qn113 => exact fun _ _ _ h => h
      case dn113 => rfl
      try simp only [Act.put, List.setIfInBounds_toArray, List.set_cons_zero, List.set_cons_succ]
      refine wpAnyH_take (i := 8) (oi := ?on114) ?hin114 ?an114 ?bn114 ?cn114 ?qn114 (Or.inr ⟨?dn114, rfl⟩) hHeld ?restn114
      case hin114 => (simp only [List.getElem?_toArray, List.getElem?_cons_succ, List.getElem?_cons_zero]; exact rfl)
      case an114 => kernel_rfl
      case bn114 => kernel_rfl
      case cn114 => kernel_rfl
      case qn114 => exact fun _ _ _ h => h
      case dn114 => rfl
      try simp only [Act.put, List.setIfInBounds_toArray, List.set_cons_zero, List.set_cons_succ]
      refine wpAnyH_take (i := 9) (oi := ?on115) ?hin115 ?an115 ?bn115 ?cn115 ?qn115 (Or.inr ⟨?dn115, rfl⟩) hHeld ?restn115
      case hin115 => (simp only [List.getElem?_toArray, List.getElem?_cons_succ, List.getElem?_cons_zero]; exact rfl)
      case an115 => kernel_rfl
      case bn115 => kernel_rfl
      case cn115 => kernel_rfl
      case qn115 => exact fun _ _ _ h => h
      case dn115 => rfl
      try simp only [Act.put, List.setIfInBounds_toArray, List.set_cons_zero, List.set_cons_succ]
      refine wpAnyH_take (i := 10) (oi := ?on116) ?hin116 ?an116 ?bn116 ?cn116 ?qn116 (Or.inr ⟨?dn116, rfl⟩) hHeld ?restn116
      case hin116 => (simp only [List.getElem?_toArray, List.getElem?_cons_succ, List.getElem?_cons_zero]; exact rfl)
      case an116 => kernel_rfl
      case bn116 => kernel_rfl
      case cn116 => kernel_rfl
      case qn116 => exact fun _ _ _ h => h
      case dn116 => rfl
      try simp only [Act.put, List.setIfInBounds_toArray, List.set_cons_zero, List.set_cons_succ]
      refine wpAnyH_take (i := 11) (oi := ?on117) (v := ?vn117) ?hin117 ?an117 ?bn117 ?cn117 ?qn117 (Or.inl ⟨?dn117, ?hyn117⟩) hHeld ?restn117
      case hin117 => (simp only [List.getElem?_toArray, List.getElem?_cons_succ, List.getElem?_cons_zero]; exact rfl)
      case an117 => kernel_rfl
      case bn117 => kernel_rfl
      case cn117 => kernel_rfl
      case qn117 => exact fun _ _ _ h => h
      case dn117 => rfl
      case hyn117 => (intro z hSw; (try dsimp only at hSw); go_simp; (try with_reducible rfl))
      try simp only [Act.put, List.setIfInBounds_toArray, List.set_cons_zero, List.set_cons_succ]
      refine wpAnyH_take (i := 12) (oi := ?on118) (v := ?vn118) ?hin118 ?an118 ?bn118 ?cn118 ?qn118 (Or.inl ⟨?dn118, ?hyn118⟩) hHeld ?restn118
      case hin118 => (simp only [List.getElem?_toArray, List.getElem?_cons_succ, List.getElem?_cons_zero]; exact rfl)
      case an118 => kernel_rfl
      case bn118 => kernel_rfl
      case cn118 => kernel_rfl
      case qn118 => exact fun _ _ _ h => h
      case dn118 => rfl
      case hyn118 => (intro z hSw; (try dsimp only at hSw); go_simp; (try with_reducible rfl))
      try simp only [Act.put, List.setIfInBounds_toArray, List.set_cons_zero, List.set_cons_succ]
      refine wpAnyH_take (i := 13) (oi := ?on119) ?hin119 ?an119 ?bn119 ?cn119 ?qn119 (Or.inr ⟨?dn119, rfl⟩) hHeld ?restn119
      case hin119 => (simp only [List.getElem?_toArray, List.getElem?_cons_succ, List.getElem?_cons_zero]; exact rfl)
      case an119 => kernel_rfl
      case bn119 => kernel_rfl
      case cn119 => kernel_rfl
      case qn119 => exact fun _ _ _ h => h
      case dn119 => rfl
      try simp only [Act.put, List.setIfInBounds_toArray, List.set_cons_zero, List.set_cons_succ]
      refine wpAnyH_take (i := 14) (oi := ?on120) ?hin120 ?an120 ?bn120 ?cn120 ?qn120 (Or.inr ⟨?dn120, rfl⟩) hHeld ?restn120
      case hin120 => (simp only [List.getElem?_toArray, List.getElem?_cons_succ, List.getElem?_cons_zero]; exact rfl)
      case an120 => kernel_rfl
      case bn120 => kernel_rfl
      case cn120 => kernel_rfl
      case qn120 => exact fun _ _ _ h => h
      case dn120 => rfl
      try simp only [Act.put, List.setIfInBounds_toArray, List.set_cons_zero, List.set_cons_succ]
      refine wpAnyH_take (i := 15) (oi := ?on121) ?hin121 ?an121 ?bn121 ?cn121 ?qn121 (Or.inr ⟨?dn121, rfl⟩) hHeld ?restn121
      case hin121 => (simp only [List.getElem?_toArray, List.getElem?_cons_succ, List.getElem?_cons_zero]; exact rfl)
      case an121 => kernel_rfl
      case bn121 => kernel_rfl
      case cn121 => kernel_rfl
      case qn121 => exact fun _ _ _ h => h
      case dn121 => rfl
      try simp only [Act.put, List.setIfInBounds_toArray, List.set_cons_zero, List.set_cons_succ]
      refine wpAnyH_take (i := 16) (oi := ?on122) ?hin122 ?an122 ?bn122 ?cn122 ?qn122 (Or.inr ⟨?dn122, rfl⟩) hHeld ?restn122
      case hin122 => (simp only [List.getElem?_toArray, List.getElem?_cons_succ, List.getElem?_cons_zero]; exact rfl)
      case an122 => kernel_rfl
      case bn122 => kernel_rfl
      case cn122 => kernel_rfl
      case qn122 => exact fun _ _ _ h => h
      case dn122 => rfl
      try simp only [Act.put, List.setIfInBounds_toArray, List.set_cons_zero, List.set_cons_succ]
      refine wpAnyH_take (i := 17) (oi := ?on123) (v := ?vn123) ?hin123 ?an123 ?bn123 ?cn123 ?qn123 (Or.inl ⟨?dn123, ?hyn123⟩) hHeld ?restn123
      case hin123 => (simp only [List.getElem?_toArray, List.getElem?_cons_succ, List.getElem?_cons_zero]; exact rfl)
      case an123 => kernel_rfl
      case bn123 => kernel_rfl
      case cn123 => kernel_rfl
      case qn123 => exact fun _ _ _ h => h
      case dn123 => rfl
      case hyn123 => (intro z hSw; (try dsimp only at hSw); go_simp; (try with_reducible rfl))
      try simp only [Act.put, List.setIfInBounds_toArray, List.set_cons_zero, List.set_cons_succ]
      refine wpAnyH_take (i := 18) (oi := ?on124) (v := ?vn124) ?hin124 ?an124 ?bn124 ?cn124 ?qn124 (Or.inl ⟨?dn124, ?hyn124⟩) hHeld ?restn124
      case hin124 => (simp only [List.getElem?_toArray, List.getElem?_cons_succ, List.getElem?_cons_zero]; exact rfl)
      case an124 => kernel_rfl
      case bn124 => kernel_rfl
      case cn124 => kernel_rfl
      case qn124 => exact fun _ _ _ h => h
      case dn124 => rfl
      case hyn124 => (intro z hSw; (try dsimp only at hSw); go_simp; (try with_reducible rfl))
      try simp only [Act.put, List.setIfInBounds_toArray, List.set_cons_zero, List.set_cons_succ]
      refine wpAnyH_take (i := 19) (oi := ?on125) ?hin125 ?an125 ?bn125 ?cn125 ?qn125 (Or.inr ⟨?dn125, rfl⟩) hHeld ?restn125
      case hin125 => (simp only [List.getElem?_toArray, List.getElem?_cons_succ, List.getElem?_cons_zero]; exact rfl)
      case an125 => kernel_rfl
      case bn125 => kernel_rfl
      case cn125 => kernel_rfl
      case qn125 => exact fun _ _ _ h => h
      case dn125 => rfl
      try simp only [Act.put, List.setIfInBounds_toArray, List.set_cons_zero, List.set_cons_succ]
      refine wpAnyH_take (i := 20) (oi := ?on126) ?hin126 ?an126 ?bn126 ?cn126 ?qn126 (Or.inr ⟨?dn126, rfl⟩) hHeld ?restn126
      case hin126 => (simp only [List.getElem?_toArray, List.getElem?_cons_succ, List.getElem?_cons_zero]; exact rfl)
      case an126 => kernel_rfl
      case bn126 => kernel_rfl
      case cn126 => kernel_rfl
      case qn126 => exact fun _ _ _ h => h
      case dn126 => rfl
      try simp only [Act.put, List.setIfInBounds_toArray, List.set_cons_zero, List.set_cons_succ]
      refine wpAnyH_take (i := 21) (oi := ?on127) ?hin127 ?an127 ?bn127 ?cn127 ?qn127 (Or.inr ⟨?dn127, rfl⟩) hHeld ?restn127
      case hin127 => (simp only [List.getElem?_toArray, List.getElem?_cons_succ, List.getElem?_cons_zero]; exact rfl)
      case an127 => kernel_rfl
      case bn127 => kernel_rfl
      case cn127 => kernel_rfl
      case qn127 => exact fun _ _ _ h => h
      case dn127 => rfl
      try simp only [Act.put, List.setIfInBounds_toArray, List.set_cons_zero, List.set_cons_succ]
      refine wpAnyH_take (i := 22) (oi := ?on128) (v := ?vn128) ?hin128 ?an128 ?bn128 ?cn128 ?qn128 (Or.inl ⟨?dn128, ?hyn128⟩) hHeld ?restn128
      case hin128 => (simp only [List.getElem?_toArray, List.getElem?_cons_succ, List.getElem?_cons_zero]; exact rfl)
      case an128 => kernel_rfl
      case bn128 => kernel_rfl
      case cn128 => kernel_rfl
      case qn128 => exact fun _ _ _ h => h
      case dn128 => rfl
      case hyn128 => (intro z hSw; (try dsimp only at hSw); go_simp; (try with_reducible rfl))
      try simp only [Act.put, List.setIfInBounds_toArray, List.set_cons_zero, List.set_cons_succ]
      refine wpAnyH_take (i := 23) (oi := ?on129) (v := ?vn129) ?hin129 ?an129 ?bn129 ?cn129 ?qn129 (Or.inl ⟨?dn129, ?hyn129⟩) hHeld ?restn129
      case hin129 => (simp only [List.getElem?_toArray, List.getElem?_cons_succ, List.getElem?_cons_zero]; exact rfl)
      case an129 => kernel_rfl
      case bn129 => kernel_rfl
      case cn129 => kernel_rfl
      case qn129 => exact fun _ _ _ h => h
      case dn129 => rfl
      case hyn129 => (intro z hSw; (try dsimp only at hSw); go_simp; (try with_reducible rfl))
      try simp only [Act.put, List.setIfInBounds_toArray, List.set_cons_zero, List.set_cons_succ]
      refine wpAnyH_take (i := 24) (oi := ?on130) ?hin130 ?an130 ?bn130 ?cn130 ?qn130 (Or.inr ⟨?dn130, rfl⟩) hHeld ?restn130
      case hin130 => (simp only [List.getElem?_toArray, List.getElem?_cons_succ, List.getElem?_cons_zero]; exact rfl)
      case an130 => kernel_rfl
      case bn130 => kernel_rfl
      case cn130 => kernel_rfl
      case qn130 => exact fun _ _ _ h => h
      case dn130 => rfl
      try simp only [Act.put, List.setIfInBounds_toArray, List.set_cons_zero, List.set_cons_succ]
      refine wpAnyH_take (i := 25) (oi := ?on131) ?hin131 ?an131 ?bn131 ?cn131 ?qn131 (Or.inr ⟨?dn131, rfl⟩) hHeld ?restn131
      case hin131 => (simp only [List.getElem?_toArray, List.getElem?_cons_succ, List.getElem?_cons_zero]; exact rfl)
      case an131 => kernel_rfl
      case bn131 => kernel_rfl
      case cn131 => kernel_rfl
      case qn131 => exact fun _ _ _ h => h
      case dn131 => rfl
      try simp only [Act.put, List.setIfInBounds_toArray, List.set_cons_zero, List.set_cons_succ]
      refine wpAnyH_take (i := 26) (oi := ?on132) ?hin132 ?an132 ?bn132 ?cn132 ?qn132 (Or.inr ⟨?dn132, rfl⟩) hHeld ?restn132
      case hin132 => (simp only [List.getElem?_toArray, List.getElem?_cons_succ, List.getElem?_cons_zero]; exact rfl)
      case an132 => kernel_rfl
      case bn132 => kernel_rfl
      case cn132 => kernel_rfl
      case qn132 => exact fun _ _ _ h => h
      case dn132 => rfl
      try simp only [Act.put, List.setIfInBounds_toArray, List.set_cons_zero, List.set_cons_succ]
      refine wpAnyH_take (i := 27) (oi := ?on133) ?hin133 ?an133 ?bn133 ?cn133 ?qn133 (Or.inr ⟨?dn133, rfl⟩) hHeld ?restn133
      case hin133 => (simp only [List.getElem?_toArray, List.getElem?_cons_succ, List.getElem?_cons_zero]; exact rfl)
      case an133 => kernel_rfl
      case bn133 => kernel_rfl
      case cn133 => kernel_rfl
      case qn133 => exact fun _ _ _ h => h
      case dn133 => rfl
      try simp only [Act.put, List.setIfInBounds_toArray, List.set_cons_zero, List.set_cons_succ]
      refine wpAnyH_take (i := 28) (oi := ?on134) ?hin134 ?an134 ?bn134 ?cn134 ?qn134 (Or.inr ⟨?dn134, rfl⟩) hHeld ?restn134
      case hin134 => (simp only [List.getElem?_toArray, List.getElem?_cons_succ, List.getElem?_cons_zero]; exact rfl)
      case an134 => kernel_rfl
      case bn134 => kernel_rfl
      case cn134 => kernel_rfl
      case qn134 => exact fun _ _ _ h => h
      case dn134 => rfl
      try simp only [Act.put, List.setIfInBounds_toArray, List.set_cons_zero, List.set_cons_succ]
      refine wpAnyH_take (i := 29) (oi := ?on135) ?hin135 ?an135 ?bn135 ?cn135 ?qn135 (Or.inr ⟨?dn135, rfl⟩) hHeld ?restn135
      case hin135 => (simp only [List.getElem?_toArray, List.getElem?_cons_succ, List.getElem?_cons_zero]; exact rfl)
      case an135 => kernel_rfl
      case bn135 => kernel_rfl
      case cn135 => kernel_rfl
      case qn135 => exact fun _ _ _ h => h
      case dn135 => rfl
      try simp only [Act.put, List.setIfInBounds_toArray, List.set_cons_zero, List.set_cons_succ]
      refine wpAnyH_take (i := 30) (oi := ?on136) ?hin136 ?an136 ?bn136 ?cn136 ?qn136 (Or.inr ⟨?dn136, rfl⟩) hHeld ?restn136
      case hin136 => (simp only [List.getElem?_toArray, List.getElem?_cons_succ, List.getElem?_cons_zero]; exact rfl)
      case an136 => kernel_rfl
      case bn136 => kernel_rfl
      case cn136 => kernel_rfl
      case qn136 => exact fun _ _ _ h => h
      case dn136 => rfl
      try simp only [Act.put, List.setIfInBounds_toArray, List.set_cons_zero, List.set_cons_succ]
      refine wpAnyH_take (i := 31) (oi := ?on137) ?hin137 ?an137 ?bn137 ?cn137 ?qn137 (Or.inr ⟨?dn137, rfl⟩) hHeld ?restn137
      case hin137 => (simp only [List.getElem?_toArray, List.getElem?_cons_succ, List.getElem?_cons_zero]; exact rfl)
      case an137 => kernel_rfl
      case bn137 => kernel_rfl
      case cn137 => kernel_rfl
      case qn137 => exact fun _ _ _ h => h
      case dn137 => rfl
      try simp only [Act.put, List.setIfInBounds_toArray, List.set_cons_zero, List.set_cons_succ]
      refine wpAnyH_take (i := 32) (oi := ?on138) ?hin138 ?an138 ?bn138 ?cn138 ?qn138 (Or.inr ⟨?dn138, rfl⟩) hHeld ?restn138
      case hin138 => (simp only [List.getElem?_toArray, List.getElem?_cons_succ, List.getElem?_cons_zero]; exact rfl)
      case an138 => kernel_rfl
      case bn138 => kernel_rfl
      case cn138 => kernel_rfl
      case qn138 => exact fun _ _ _ h => h
      case dn138 => rfl
      try simp only [Act.put, List.setIfInBounds_toArray, List.set_cons_zero, List.set_cons_succ]
      refine wpAnyH_take (i := 33) (oi := ?on139) ?hin139 ?an139 ?bn139 ?cn139 ?qn139 (Or.inr ⟨?dn139, rfl⟩) hHeld ?restn139
      case hin139 => (simp only [List.getElem?_toArray, List.getElem?_cons_succ, List.getElem?_cons_zero]; exact rfl)
      case an139 => kernel_rfl
      case bn139 => kernel_rfl
      case cn139 => kernel_rfl
      case qn139 => exact fun _ _ _ h => h
      case dn139 => rfl
      try simp only [Act.put, List.setIfInBounds_toArray, List.set_cons_zero, List.set_cons_succ]
      refine wpAnyH_take (i := 34) (oi := ?on140) (v := ?vn140) ?hin140 ?an140 ?bn140 ?cn140 ?qn140 (Or.inl ⟨?dn140, ?hyn140⟩) hHeld ?restn140
      case hin140 => (simp only [List.getElem?_toArray, List.getElem?_cons_succ, List.getElem?_cons_zero]; exact rfl)
      case an140 => kernel_rfl
      case bn140 => kernel_rfl
      case cn140 => kernel_rfl
      case qn140 => exact fun _ _ _ h => h
      case dn140 => rfl
      case hyn140 => (intro z hSw; (try dsimp only at hSw); go_simp; (try with_reducible rfl))
      try simp only [Act.put, List.setIfInBounds_toArray, List.set_cons_zero, List.set_cons_succ]
      refine wpAnyH_take (i := 35) (oi := ?on141) (v := ?vn141) ?hin141 ?an141 ?bn141 ?cn141 ?qn141 (Or.inl ⟨?dn141, ?hyn141⟩) hHeld ?restn141
      case hin141 => (simp only [List.getElem?_toArray, List.getElem?_cons_succ, List.getElem?_cons_zero]; exact rfl)
      case an141 => kernel_rfl
      case bn141 => kernel_rfl
      case cn141 => kernel_rfl
      case qn141 => exact fun _ _ _ h => h
      case dn141 => rfl
      case hyn141 => (intro z hSw; (try dsimp only at hSw); go_simp; (try with_reducible rfl))
      try simp only [Act.put, List.setIfInBounds_toArray, List.set_cons_zero, List.set_cons_succ]
      refine wpAnyH_take (i := 36) (oi := ?on142) ?hin142 ?an142 ?bn142 ?cn142 ?qn142 (Or.inr ⟨?dn142, rfl⟩) hHeld ?restn142
      case hin142 => (simp only [List.getElem?_toArray, List.getElem?_cons_succ, List.getElem?_cons_zero]; exact rfl)
      case an142 => kernel_rfl
      case bn142 => kernel_rfl
      case cn142 => kernel_rfl
      case qn142 => exact fun _ _ _ h => h
      case dn142 => rfl
      try simp only [Act.put, List.setIfInBounds_toArray, List.set_cons_zero, List.set_cons_succ]
      refine wpAnyH_take (i := 37) (oi := ?on143) ?hin143 ?an143 ?bn143 ?cn143 ?qn143 (Or.inr ⟨?dn143, rfl⟩) hHeld ?restn143
      case hin143 => (simp only [List.getElem?_toArray, List.getElem?_cons_succ, List.getElem?_cons_zero]; exact rfl)
      case an143 => kernel_rfl
      case bn143 => kernel_rfl
      case cn143 => kernel_rfl
      case qn143 => exact fun _ _ _ h => h
      case dn143 => rfl
      try simp only [Act.put, List.setIfInBounds_toArray, List.set_cons_zero, List.set_cons_succ]
      refine wpAnyH_take (i := 38) (oi := ?on144) ?hin144 ?an144 ?bn144 ?cn144 ?qn144 (Or.inr ⟨?dn144, rfl⟩) hHeld ?restn144
      case hin144 => (simp only [List.getElem?_toArray, List.getElem?_cons_succ, List.getElem?_cons_zero]; exact rfl)
      case an144 => kernel_rfl
      case bn144 => kernel_rfl
      case cn144 => kernel_rfl
      case qn144 => exact fun _ _ _ h => h
      case dn144 => rfl
      try simp only [Act.put, List.setIfInBounds_toArray, List.set_cons_zero, List.set_cons_succ]
      refine wpAnyH_take (i := 39) (oi := ?on145) ?hin145 ?an145 ?bn145 ?cn145 ?qn145 (Or.inr ⟨?dn145, rfl⟩) hHeld ?restn145
      case hin145 => (simp only [List.getElem?_toArray, List.getElem?_cons_succ, List.getElem?_cons_zero]; exact rfl)
      case an145 => kernel_rfl
      case bn145 => kernel_rfl
      case cn145 => kernel_rfl
      case qn145 => exact fun _ _ _ h => h
      case dn145 => rfl
      try simp only [Act.put, List.setIfInBounds_toArray, List.set_cons_zero, List.set_cons_succ]
      refine wpAnyH_take (i := 40) (oi := ?on146) ?hin146 ?an146 ?bn146 ?cn146 ?qn146 (Or.inr ⟨?dn146, rfl⟩) hHeld ?restn146
      case hin146 => (simp only [List.getElem?_toArray, List.getElem?_cons_succ, List.getElem?_cons_zero]; exact rfl)
      case an146 => kernel_rfl
      case bn146 => kernel_rfl
      case cn146 => kernel_rfl
      case qn146 => exact fun _ _ _ h => h
      case dn146 => rfl
      try simp only [Act.put, List.setIfInBounds_toArray, List.set_cons_zero, List.set_cons_succ]
      refine wpAnyH_take (i := 41) (oi := ?on147) ?hin147 ?an147 ?bn147 ?cn147 ?qn147 (Or.inr ⟨?dn147, rfl⟩) hHeld ?restn147
      case hin147 => (simp only [List.getElem?_toArray, List.getElem?_cons_succ, List.getElem?_cons_zero]; exact rfl)
      case an147 => kernel_rfl
      case bn147 => kernel_rfl
      case cn147 => kernel_rfl
      case qn147 => exact fun _ _ _ h => h
      case dn147 => rfl
      try simp only [Act.put, List.setIfInBounds_toArray, List.set_cons_zero, List.set_cons_succ]
      refine wpAnyH_take (i := 42) (oi := ?on148) ?hin148 ?an148 ?bn148 ?cn148 ?qn148 (Or.inr ⟨?dn148, rfl⟩) hHeld ?restn148
      case hin148 => (simp only [List.getElem?_toArray, List.getElem?_cons_succ, List.getElem?_cons_zero]; exact rfl)
      case an148 => kernel_rfl
      case bn148 => kernel_rfl
      case cn148 => kernel_rfl
      case qn148 => exact fun _ _ _ h => h
      case dn148 => rfl
      try simp only [Act.put, List.setIfInBounds_toArray, List.set_cons_zero, List.set_cons_succ]
      refine wpAnyH_take (i := 43) (oi := ?on149) ?hin149 ?an149 ?bn149 ?cn149 ?qn149 (Or.inr ⟨?dn149, rfl⟩) hHeld ?restn149
      case hin149 => (simp only [List.getElem?_toArray, List.getElem?_cons_succ, List.getElem?_cons_zero]; exact rfl)
      case an149 => kernel_rfl
      case bn149 => kernel_rfl
      case cn149 => kernel_rfl
      case qn149 => exact fun _ _ _ h => h
      case dn149 => rfl
      try simp only [Act.put, List.setIfInBounds_toArray, List.set_cons_zero, List.set_cons_succ]
      refine wpAnyH_take (i := 44) (oi := ?on150) ?hin150 ?an150 ?bn150 ?cn150 ?qn150 (Or.inr ⟨?dn150, rfl⟩) hHeld ?restn150
      case hin150 => (simp only [List.getElem?_toArray, List.getElem?_cons_succ, List.getElem?_cons_zero]; exact rfl)
      case an150 => kernel_rfl
      case bn150 => kernel_rfl
      case cn150 => kernel_rfl
      case qn150 => exact fun _ _ _ h => h
      case dn150 => rfl
      try simp only [Act.put, List.setIfInBounds_toArray, List.set_cons_zero, List.set_cons_succ]
      refine wpAnyH_take (i := 45) (oi := ?on151) ?hin151 ?an151 ?bn151 ?cn151 ?qn151 (Or.inr ⟨?dn151, rfl⟩) hHeld ?restn151
      case hin151 => (simp only [List.getElem?_toArray, List.getElem?_cons_succ, List.getElem?_cons_zero]; exact rfl)
      case an151 => kernel_rfl
      case bn151 => kernel_rfl
      case cn151 => kernel_rfl
      case qn151 => exact fun _ _ _ h => h
      case dn151 => rfl
      try simp only [Act.put, List.setIfInBounds_toArray, List.set_cons_zero, List.set_cons_succ]
      refine wpAnyH_take (i := 46) (oi := ?on152) ?hin152 ?an152 ?bn152 ?cn152 ?qn152 (Or.inr ⟨?dn152, rfl⟩) hHeld ?restn152
      case hin152 => (simp only [List.getElem?_toArray, List.getElem?_cons_succ, List.getElem?_cons_zero]; exact rfl)
      case an152 => kernel_rfl
      case bn152 => kernel_rfl
      case cn152 => kernel_rfl
      case qn152 => exact fun _ _ _ h => h
      case dn152 => rfl
      try simp only [Act.put, List.setIfInBounds_toArray, List.set_cons_zero, List.set_cons_succ]
      refine wpAnyH_take (i := 47) (oi := ?on153) ?hin153 ?an153 ?bn153 ?cn153 ?qn153 (Or.inr ⟨?dn153, rfl⟩) hHeld ?restn153
      case hin153 => (simp only [List.getElem?_toArray, List.getElem?_cons_succ, List.getElem?_cons_zero]; exact rfl)
      case an153 => kernel_rfl
      case bn153 => kernel_rfl
      case cn153 => kernel_rfl
      case qn153 => exact fun _ _ _ h => h
      case dn153 => rfl
      try simp only [Act.put, List.setIfInBounds_toArray, List.set_cons_zero, List.set_cons_succ]
      refine wpAnyH_take (i := 48) (oi := ?on154) ?hin154 ?an154 ?bn154 ?cn154 ?qn154 (Or.inr ⟨?dn154, rfl⟩) hHeld ?restn154
      case hin154 => (simp only [List.getElem?_toArray, List.getElem?_cons_succ, List.getElem?_cons_zero]; exact rfl)
      case an154 => kernel_rfl
      case bn154 => kernel_rfl
      case cn154 => kernel_rfl
      case qn154 => exact fun _ _ _ h => h
      case dn154 => rfl
      try simp only [Act.put, List.setIfInBounds_toArray, List.set_cons_zero, List.set_cons_succ]
      refine wpAnyH_take (i := 49) (oi := ?on155) (v := ?vn155) ?hin155 ?an155 ?bn155 ?cn155 ?qn155 (Or.inl ⟨?dn155, ?hyn155⟩) hHeld ?restn155
      case hin155 => (simp only [List.getElem?_toArray, List.getElem?_cons_succ, List.getElem?_cons_zero]; exact rfl)
      case an155 => kernel_rfl
      case bn155 => kernel_rfl
      case cn155 => kernel_rfl
      case qn155 => exact fun _ _ _ h => h
      case dn155 => rfl
      case hyn155 => (intro z hSw; (try dsimp only at hSw); go_simp; (try with_reducible rfl))
      try simp only [Act.put, List.setIfInBounds_toArray, List.set_cons_zero, List.set_cons_succ]
      refine wpAnyH_take (i := 50) (oi := ?on156) (v := ?vn156) ?hin156 ?an156 ?bn156 ?cn156 ?qn156 (Or.inl ⟨?dn156, ?hyn156⟩) hHeld ?restn156
      case hin156 => (simp only [List.getElem?_toArray, List.getElem?_cons_succ, List.getElem?_cons_zero]; exact rfl)
      case an156 => kernel_rfl
      case bn156 => kernel_rfl
      case cn156 => kernel_rfl
      case qn156 => exact fun _ _ _ h => h
      case dn156 => rfl
      case hyn156 => (intro z hSw; (try dsimp only at hSw); go_simp; (try with_reducible rfl))
      try simp only [Act.put, List.setIfInBounds_toArray, List.set_cons_zero, List.set_cons_succ]
      refine wpAnyH_done (by kernel_rfl) ?_ _
      go_wp2_with fail
      go_ret
      exact ⟨by rw [hR]; rfl, g1.trans (by first | assumption | exact r1d)⟩
    | false =>
    cases hs2 : (s.toList == [67, 76]) with
    | true =>
      simp only [hs2, Bool.not_true, Bool.false_and, Bool.and_false] at hR
      go_wp2_with fail
      refine wp_region_held_drew (S := fun w' => Grew w1 w') (by kernel_rfl) r1d (fun hHeld => ?_)
      refine wpAnyH_take (i := 0) (oi := ?on157) (v := ?vn157) ?hin157 ?an157 ?bn157 ?cn157 ?qn157 (Or.inl ⟨?dn157, ?hyn157⟩) hHeld ?restn157
      case hin157 => (simp only [List.getElem?_toArray, List.getElem?_cons_zero]; exact rfl)
      case an157 => kernel_rfl
      case bn157 => kernel_rfl
      case cn157 => kernel_rfl
      case qn157 => exact fun _ _ _ h => h
      case dn157 => rfl
      case hyn157 => (intro z hSw; (try dsimp only at hSw); go_simp; (try with_reducible rfl))
      try simp only [Act.put, List.setIfInBounds_toArray, List.set_cons_zero, List.set_cons_succ]
      refine wpAnyH_take (i := 1) (oi := ?on158) (v := ?vn158) ?hin158 ?an158 ?bn158 ?cn158 ?qn158 (Or.inl ⟨?dn158, ?hyn158⟩) hHeld ?restn158
      case hin158 => (simp only [List.getElem?_toArray, List.getElem?_cons_succ, List.getElem?_cons_zero]; exact rfl)
      case an158 => kernel_rfl
      case bn158 => kernel_rfl
      case cn158 => kernel_rfl
      case qn158 => exact fun _ _ _ h => h
      case dn158 => rfl
      case hyn158 => (intro z hSw; (try dsimp only at hSw); go_simp; (try with_reducible rfl))
      try simp only [Act.put, List.setIfInBounds_toArray, List.set_cons_zero, List.set_cons_succ]
      refine wpAnyH_take (i := 2) (oi := ?on159) (v := ?vn159) ?hin159 ?an159 ?bn159 ?cn159 ?qn159 (Or.inl ⟨?dn159, ?hyn159⟩) hHeld ?restn159
      case hin159 => (simp only [List.getElem?_toArray, List.getElem?_cons_succ, List.getElem?_cons_zero]; exact rfl)
      case an159 => kernel_rfl
      case bn159 => kernel_rfl
      case cn159 => kernel_rfl
      case qn159 => exact fun _ _ _ h => h
      case dn159 => rfl
      case hyn159 => (intro z hSw; (try dsimp only at hSw); go_simp; (try with_reducible rfl))
      try simp only [Act.put, List.setIfInBounds_toArray, List.set_cons_zero, List.set_cons_succ]
      refine wpAnyH_take (i := 3) (oi := ?on160) (v := ?vn160) ?hin160 ?an160 ?bn160 ?cn160 ?qn160 (Or.inl ⟨?dn160, ?hyn160⟩) hHeld ?restn160
      case hin160 => (simp only [List.getElem?_toArray, List.getElem?_cons_succ, List.getElem?_cons_zero]; exact rfl)
      case an160 => kernel_rfl
      case bn160 => kernel_rfl
      case cn160 => kernel_rfl
      case qn160 => exact fun _ _ _ h => h
      case dn160 => rfl
      case hyn160 => (intro z hSw; (try dsimp only at hSw); go_simp; (try with_reducible rfl))
      try simp only [Act.put, List.setIfInBounds_toArray, List.set_cons_zero, List.set_cons_succ]
      refine wpAnyH_take (i := 4) (oi := ?on161) (v := ?vn161) ?hin161 ?an161 ?bn161 ?cn161 ?qn161 (Or.inl ⟨?dn161, ?hyn161⟩) hHeld ?restn161
      case hin161 => (simp only [List.getElem?_toArray, List.getElem?_cons_succ, List.getElem?_cons_zero]; exact rfl)
      case an161 => kernel_rfl
      case bn161 => kernel_rfl
      case cn161 => kernel_rfl
      case qn161 => exact fun _ _ _ h => h
      case dn161 => rfl
      case hyn161 => (intro z hSw; (try dsimp only at hSw); go_simp; (try with_reducible rfl))
      try simp only [Act.put, List.setIfInBounds_toArray, List.set_cons_zero, List.set_cons_succ]
      refine wpAnyH_take (i := 5) (oi := ?on162) (v := ?vn162) ?hin162 ?an162 ?bn162 ?cn162 ?qn162 (Or.inl ⟨?dn162, ?hyn162⟩) hHeld ?restn162
      case hin162 => (simp only [List.getElem?_toArray, List.getElem?_cons_succ, List.getElem?_cons_zero]; exact rfl)
      case an162 => kernel_rfl
      case bn162 => kernel_rfl
      case cn162 => kernel_rfl
      case qn162 => exact fun _ _ _ h => h
      case dn162 => rfl
      case hyn162 => (intro z hSw; (try dsimp only at hSw); go_simp; (try with_reducible rfl))
      try simp only [Act.put, List.setIfInBounds_toArray, List.set_cons_zero, List.set_cons_succ]
      refine wpAnyH_take (i := 6) (oi := ?on163) (v := ?vn163) ?hin163 ?an163 ?bn163 ?cn163 ?qn163 (Or.inl ⟨?dn163, ?hyn163⟩) hHeld ?restn163
      case hin163 => (simp only [List.getElem?_toArray, List.getElem?_cons_succ, List.getElem?_cons_zero]; exact rfl)
      case an163 => kernel_rfl
      case bn163 => kernel_rfl
      case cn163 => kernel_rfl
      case qn163 => exact fun _ _ _ h => h
      case dn163 => rfl
      case hyn163 => (intro z hSw; (try dsimp only at hSw); go_simp; (try with_reducible rfl))
      try simp only [Act.put, List.setIfInBounds_toArray, List.set_cons_zero, List.set_cons_succ]
      refine wpAnyH_take (i := 7) (oi := ?on164) (v := ?vn164) ?hin164 ?an164 ?bn164 ?cn164 ?qn164 (Or.inl ⟨?dn164, ?hyn164⟩) hHeld ?restn164
      case hin164 => (simp only [List.getElem?_toArray, List.getElem?_cons_succ, List.getElem?_cons_zero]; exact rfl)
      case an164 => kernel_rfl
      case bn164 => kernel_rfl
      case cn164 => kernel_rfl
      case qn164 => exact fun _ _ _ h => h
      case dn164 => rfl
      case hyn164 => (intro z hSw; (try dsimp only at hSw); go_simp; (try with_reducible rfl))
      try simp only [Act.put, List.setIfInBounds_toArray, List.set_cons_zero, List.set_cons_succ]
      refine wpAnyH_take (i := 8) (oi := ?on165) (v := ?vn165) ?hin165 ?an165 ?bn165 ?cn165 ?qn165 (Or.inl ⟨?dn165, ?hyn165⟩) hHeld ?restn165
      case hin165 => (simp only [List.getElem?_toArray, List.getElem?_cons_succ, List.getElem?_cons_zero]; exact rfl)
      case an165 => kernel_rfl
      case bn165 => kernel_rfl
      case cn165 => kernel_rfl
      case qn165 => exact fun _ _ _ h => h
      case dn165 => rfl
      case hyn165 => (intro z hSw; (try dsimp only at hSw); go_simp; (try with_reducible rfl))
      try simp only [Act.put, List.setIfInBounds_toArray, List.set_cons_zero, List.set_cons_succ]
      refine wpAnyH_take (i := 9) (oi := ?on166) (v := ?vn166) ?hin166 ?an166 ?bn166 ?cn166 ?qn166 (Or.inl ⟨?dn166, ?hyn166⟩) hHeld ?restn166
      case hin166 => (simp only [List.getElem?_toArray, List.getElem?_cons_succ, List.getElem?_cons_zero]; exact rfl)
      case an166 => kernel_rfl
      case bn166 => kernel_rfl
      case cn166 => kernel_rfl
      case qn166 => exact fun _ _ _ h => h
      case dn166 => rfl
      case hyn166 => (intro z hSw; (try dsimp only at hSw); go_simp; (try with_reducible rfl))
      try simp only [Act.put, List.setIfInBounds_toArray, List.set_cons_zero, List.set_cons_succ]
      refine wpAnyH_take (i := 10) (oi := ?on167) (v := ?vn167) ?hin167 ?an167 ?bn167 ?cn167 ?qn167 (Or.inl ⟨?dn167, ?hyn167⟩) hHeld ?restn167
      case hin167 => (simp only [List.getElem?_toArray, List.getElem?_cons_succ, List.getElem?_cons_zero]; exact rfl)
      case an167 => kernel_rfl
      case bn167 => kernel_rfl
      case cn167 => kernel_rfl
      case qn167 => exact fun _ _ _ h => h
      case dn167 => rfl
      case hyn167 => (intro z hSw; (try dsimp only at hSw); go_simp; (try with_reducible rfl))
      try simp only [Act.put, List.setIfInBounds_toArray, List.set_cons_zero, List.set_cons_succ]
      refine wpAnyH_take (i := 11) (oi := ?on168) (v := ?vn168) ?hin168 ?an168 ?bn168 ?cn168 ?qn168 (Or.inl ⟨?dn168, ?hyn168⟩) hHeld ?restn168
      case hin168 => (simp only [List.getElem?_toArray, List.getElem?_cons_succ, List.getElem?_cons_zero]; exact rfl)
      case an168 => kernel_rfl
      case bn168 => kernel_rfl
      case cn168 => kernel_rfl
      case qn168 => exact fun _ _ _ h => h
      case dn168 => rfl
      case hyn168 => (intro z hSw; (try dsimp only at hSw); go_simp; (try with_reducible rfl))
      try simp only [Act.put, List.setIfInBounds_toArray, List.set_cons_zero, List.set_cons_succ]
      refine wpAnyH_take (i := 12) (oi := ?on169) (v := ?vn169) ?hin169 ?an169 ?bn169 ?cn169 ?qn169 (Or.inl ⟨?dn169, ?hyn169⟩) hHeld ?restn169
      case hin169 => (simp only [List.getElem?_toArray, List.getElem?_cons_succ, List.getElem?_cons_zero]; exact rfl)
      case an169 => kernel_rfl
      case bn169 => kernel_rfl
      case cn169 => kernel_rfl
      case qn169 => exact fun _ _ _ h => h
      case dn169 => rfl
      case hyn169 => (intro z hSw; (try dsimp only at hSw); go_simp; (try with_reducible rfl))
      try simp only [Act.put, List.setIfInBounds_toArray, List.set_cons_zero, List.set_cons_succ]
      refine wpAnyH_take (i := 13) (oi := ?on170) ?hin170 ?an170 ?bn170 ?cn170 ?qn170 (Or.inr ⟨?dn170, rfl⟩) hHeld ?restn170
      case hin170 => (simp only [List.getElem?_toArray, List.getElem?_cons_succ, List.getElem?_cons_zero]; exact rfl)
      case an170 => kernel_rfl
      case bn170 => kernel_rfl
      case cn170 => kernel_rfl
      case qn170 => exact fun _ _ _ h => h
      case dn170 => rfl
      try simp only [Act.put, List.setIfInBounds_toArray, List.set_cons_zero, List.set_cons_succ]
      refine wpAnyH_take (i := 14) (oi := ?on171) ?hin171 ?an171 ?bn171 ?cn171 ?qn171 (Or.inr ⟨?dn171, rfl⟩) hHeld ?restn171
      case hin171 => (simp only [List.getElem?_toArray, List.getElem?_cons_succ, List.getElem?_cons_zero]; exact rfl)
      case an171 => kernel_rfl
      case bn171 => kernel_rfl
      case cn171 => kernel_rfl
      case qn171 => exact fun _ _ _ h => h
      case dn171 => rfl
      try simp only [Act.put, List.setIfInBounds_toArray, List.set_cons_zero, List.set_cons_succ]
      refine wpAnyH_take (i := 15) (oi := ?on172) ?hin172 ?an172 ?bn172 ?cn172 ?qn172 (Or.inr ⟨?dn172, rfl⟩) hHeld ?restn172
      case hin172 => (simp only [List.getElem?_toArray, List.getElem?_cons_succ, List.getElem?_cons_zero]; exact rfl)
      case an172 => kernel_rfl
      case bn172 => kernel_rfl
      case cn172 => kernel_rfl
      case qn172 => exact fun _ _ _ h => h
      case dn172 => rfl
      try simp only [Act.put, List.setIfInBounds_toArray, List.set_cons_zero, List.set_cons_succ]
      refine wpAnyH_take (i := 16) (oi := ?on173) ?hin173 ?an173 ?bn173 ?cn173 ?qn173 (Or.inr ⟨?dn173, rfl⟩) hHeld ?restn173
      case hin173 => (simp only [List.getElem?_toArray, List.getElem?_cons_succ, List.getElem?_cons_zero]; exact rfl)
      case an173 => kernel_rfl
      case bn173 => kernel_rfl
      case cn173 => kernel_rfl
      case qn173 => exact fun _ _ _ h => h
      case dn173 => rfl
      try simp only [Act.put, List.setIfInBounds_toArray, List.set_cons_zero, List.set_cons_succ]
      refine wpAnyH_take (i := 17) (oi := ?on174) (v := ?vn174) ?hin174 ?an174 ?bn174 ?cn174 ?qn174 (Or.inl ⟨?dn174, ?hyn174⟩) hHeld ?restn174
      case hin174 => (simp only [List.getElem?_toArray, List.getElem?_cons_succ, List.getElem?_cons_zero]; exact rfl)
      case an174 => kernel_rfl
      case bn174 => kernel_rfl
      case cn174 => kernel_rfl
      case qn174 => exact fun _ _ _ h => h
      case dn174 => rfl
      case hyn174 => (intro z hSw; (try dsimp only at hSw); go_simp; (try with_reducible rfl))
      try simp only [Act.put, List.setIfInBounds_toArray, List.set_cons_zero, List.set_cons_succ]
      refine wpAnyH_take (i := 18) (oi := ?on175) (v := ?vn175) ?hin175 ?an175 ?bn175 ?cn175 ?qn175 (Or.inl ⟨?dn175, ?hyn175⟩) hHeld ?restn175
      case hin175 => (simp only [List.getElem?_toArray, List.getElem?_cons_succ, List.getElem?_cons_zero]; exact rfl)
      case an175 => kernel_rfl
      case bn175 => kernel_rfl
      case cn175 => kernel_rfl
      case qn175 => exact fun _ _ _ h => h
      case dn175 => rfl
      case hyn175 => (intro z hSw; (try dsimp only at hSw); go_simp; (try with_reducible rfl))
      try simp only [Act.put, List.setIfInBounds_toArray, List.set_cons_zero, List.set_cons_succ]
      refine wpAnyH_take (i := 19) (oi := ?on176) ?hin176 ?an176 ?bn176 ?cn176 ?qn176 (Or.inr ⟨?dn176, rfl⟩) hHeld ?restn176
      case hin176 => (simp only [List.getElem?_toArray, List.getElem?_cons_succ, List.getElem?_cons_zero]; exact rfl)
      case an176 => kernel_rfl
      case bn176 => kernel_rfl
      case cn176 => kernel_rfl
      case qn176 => exact fun _ _ _ h => h
      case dn176 => rfl
      try simp only [Act.put, List.setIfInBounds_toArray, List.set_cons_zero, List.set_cons_succ]
      refine wpAnyH_take (i := 20) (oi := ?on177) ?hin177 ?an177 ?bn177 ?cn177 ?qn177 (Or.inr ⟨?dn177, rfl⟩) hHeld ?restn177
      case hin177 => (simp only [List.getElem?_toArray, List.getElem?_cons_succ, List.getElem?_cons_zero]; exact rfl)
      case an177 => kernel_rfl
      case bn177 => kernel_rfl
      case cn177 => kernel_rfl
      case qn177 => exact fun _ _ _ h => h
      case dn177 => rfl
      try simp only [Act.put, List.setIfInBounds_toArray, List.set_cons_zero, List.set_cons_succ]
      refine wpAnyH_take (i := 21) (oi := ?on178) ?hin178 ?an178 ?bn178 ?cn178 ?qn178 (Or.inr ⟨?dn178, rfl⟩) hHeld ?restn178
      case hin178 => (simp only [List.getElem?_toArray, List.getElem?_cons_succ, List.getElem?_cons_zero]; exact rfl)
      case an178 => kernel_rfl
      case bn178 => kernel_rfl
      case cn178 => kernel_rfl
      case qn178 => exact fun _ _ _ h => h
      case dn178 => rfl
      try simp only [Act.put, List.setIfInBounds_toArray, List.set_cons_zero, List.set_cons_succ]
      refine wpAnyH_take (i := 22) (oi := ?on179) (v := ?vn179) ?hin179 ?an179 ?bn179 ?cn179 ?qn179 (Or.inl ⟨?dn179, ?hyn179⟩) hHeld ?restn179
      case hin179 => (simp only [List.getElem?_toArray, List.getElem?_cons_succ, List.getElem?_cons_zero]; exact rfl)
      case an179 => kernel_rfl
      case bn179 => kernel_rfl
      case cn179 => kernel_rfl
      case qn179 => exact fun _ _ _ h => h
      case dn179 => rfl
      case hyn179 => (intro z hSw; (try dsimp only at hSw); go_simp; (try with_reducible rfl))
      try simp only [Act.put, List.setIfInBounds_toArray, List.set_cons_zero, List.set_cons_succ]
      refine wpAnyH_take (i := 23) (oi := ?on180) (v := ?vn180) ?hin180 ?an180 ?bn180 ?cn180 ?qn180 (Or.inl ⟨?dn180, ?hyn180⟩) hHeld ?restn180
      case hin180 => (simp only [List.getElem?_toArray, List.getElem?_cons_succ, List.getElem?_cons_zero]; exact rfl)
      case an180 => kernel_rfl
      case bn180 => kernel_rfl
      case cn180 => kernel_rfl
      case qn180 => exact fun _ _ _ h => h
      case dn180 => rfl
      case hyn180 => (intro z hSw; (try dsimp only at hSw); go_simp; (try with_reducible rfl))
      try simp only [Act.put, List.setIfInBounds_toArray, List.set_cons_zero, List.set_cons_succ]
      refine wpAnyH_take (i := 24) (oi := ?on181) ?hin181 ?an181 ?bn181 ?cn181 ?qn181 (Or.inr ⟨?dn181, rfl⟩) hHeld ?restn181
      case hin181 => (simp only [List.getElem?_toArray, List.getElem?_cons_succ, List.getElem?_cons_zero]; exact rfl)
      case an181 => kernel_rfl
      case bn181 => kernel_rfl
      case cn181 => kernel_rfl
      case qn181 => exact fun _ _ _ h => h
      case dn181 => rfl
      try simp only [Act.put, List.setIfInBounds_toArray, List.set_cons_zero, List.set_cons_succ]
      refine wpAnyH_take (i := 25) (oi := ?on182) ?hin182 ?an182 ?bn182 ?cn182 ?qn182 (Or.inr ⟨?dn182, rfl⟩) hHeld ?restn182
      case hin182 => (simp only [List.getElem?_toArray, List.getElem?_cons_succ, List.getElem?_cons_zero]; exact rfl)
      case an182 => kernel_rfl
      case bn182 => kernel_rfl
      case cn182 => kernel_rfl
      case qn182 => exact fun _ _ _ h => h
      case dn182 => rfl
      try simp only [Act.put, List.setIfInBounds_toArray, List.set_cons_zero, List.set_cons_succ]
      refine wpAnyH_take (i := 26) (oi := ?on183) ?hin183 ?an183 ?bn183 ?cn183 ?qn183 (Or.inr ⟨?dn183, rfl⟩) hHeld ?restn183
      case hin183 => (simp only [List.getElem?_toArray, List.getElem?_cons_succ, List.getElem?_cons_zero]; exact rfl)
      case an183 => kernel_rfl
      case bn183 => kernel_rfl
      case cn183 => kernel_rfl
      case qn183 => exact fun _ _ _ h => h
      case dn183 => rfl
      try simp only [Act.put, List.setIfInBounds_toArray, List.set_cons_zero, List.set_cons_succ]
      refine wpAnyH_take (i := 27) (oi := ?on184) ?hin184 ?an184 ?bn184 ?cn184 ?qn184 (Or.inr ⟨?dn184, rfl⟩) hHeld ?restn184
      case hin184 => (simp only [List.getElem?_toArray, List.getElem?_cons_succ, List.getElem?_cons_zero]; exact rfl)
      case an184 => kernel_rfl
      case bn184 => kernel_rfl
      case cn184 => kernel_rfl
      case qn184 => exact fun _ _ _ h => h
      case dn184 => rfl
      try simp only [Act.put, List.setIfInBounds_toArray, List.set_cons_zero, List.set_cons_succ]
      refine wpAnyH_take (i := 28) (oi := ?on185) ?hin185 ?an185 ?bn185 ?cn185 ?qn185 (Or.inr ⟨?dn185, rfl⟩) hHeld ?restn185
      case hin185 => (simp only [List.getElem?_toArray, List.getElem?_cons_succ, List.getElem?_cons_zero]; exact rfl)
      case an185 => kernel_rfl
      case bn185 => kernel_rfl
      case cn185 => kernel_rfl
      case qn185 => exact fun _ _ _ h => h
      case dn185 => rfl
      try simp only [Act.put, List.setIfInBounds_toArray, List.set_cons_zero, List.set_cons_succ]
      refine wpAnyH_take (i := 29) (oi := ?on186) ?hin186 ?an186 ?bn186 ?cn186 ?qn186 (Or.inr ⟨?dn186, rfl⟩) hHeld ?restn186
      case hin186 => (simp only [List.getElem?_toArray, List.getElem?_cons_succ, List.getElem?_cons_zero]; exact rfl)
      case an186 => kernel_rfl
      case bn186 => kernel_rfl
      case cn186 => kernel_rfl
      case qn186 => exact fun _ _ _ h => h
      case dn186 => rfl
      try simp only [Act.put, List.setIfInBounds_toArray, List.set_cons_zero, List.set_cons_succ]
      refine wpAnyH_take (i := 30) (oi := ?on187) ?hin187 ?an187 ?bn187 ?cn187 ?qn187 (Or.inr ⟨?dn187, rfl⟩) hHeld ?restn187
      case hin187 => (simp only [List.getElem?_toArray, List.getElem?_cons_succ, List.getElem?_cons_zero]; exact rfl)
      case an187 => kernel_rfl
      case bn187 => kernel_rfl
      case cn187 => kernel_rfl
      case qn187 => exact fun _ _ _ h => h
      case dn187 => rfl
      try simp only [Act.put, List.setIfInBounds_toArray, List.set_cons_zero, List.set_cons_succ]
      refine wpAnyH_take (i := 31) (oi := ?on188) ?hin188 ?an188 ?bn188 ?cn188 ?qn188 (Or.inr ⟨?dn188, rfl⟩) hHeld ?restn188
      case hin188 => (simp only [List.getElem?_toArray, List.getElem?_cons_succ, List.getElem?_cons_zero]; exact rfl)
      case an188 => kernel_rfl
      case bn188 => kernel_rfl
      case cn188 => kernel_rfl
      case qn188 => exact fun _ _ _ h => h
      case dn188 => rfl
      try simp only [Act.put, List.setIfInBounds_toArray, List.set_cons_zero, List.set_cons_succ]
      refine wpAnyH_take (i := 32) (oi := ?on189) ?hin189 ?an189 ?bn189 ?cn189 ?qn189 (Or.inr ⟨?dn189, rfl⟩) hHeld ?restn189
      case hin189 => (simp only [List.getElem?_toArray, List.getElem?_cons_succ, List.getElem?_cons_zero]; exact rfl)
      case an189 => kernel_rfl
      case bn189 => kernel_rfl
      case cn189 => kernel_rfl
      case qn189 => exact fun _ _ _ h => h
      case dn189 => rfl
      try simp only [Act.put, List.setIfInBounds_toArray, List.set_cons_zero, List.set_cons_succ]
      refine wpAnyH_take (i := 33) (oi := ?on190) ?hin190 ?an190 ?bn190 ?cn190 ?qn190 (Or.inr ⟨?dn190, rfl⟩) hHeld ?restn190
      case hin190 => (simp only [List.getElem?_toArray, List.getElem?_cons_succ, List.getElem?_cons_zero]; exact rfl)
      case an190 => kernel_rfl
      case bn190 => kernel_rfl
      case cn190 => kernel_rfl
      case qn190 => exact fun _ _ _ h => h
      case dn190 => rfl
      try simp only [Act.put, List.setIfInBounds_toArray, List.set_cons_zero, List.set_cons_succ]
      refine wpAnyH_take (i := 34) (oi := ?on191) (v := ?vn191) ?hin191 ?an191 ?bn191 ?cn191 ?qn191 (Or.inl ⟨?dn191, ?hyn191⟩) hHeld ?restn191
      case hin191 => (simp only [List.getElem?_toArray, List.getElem?_cons_succ, List.getElem?_cons_zero]; exact rfl)
      case an191 => kernel_rfl
      case bn191 => kernel_rfl
      case cn191 => kernel_rfl
      case qn191 => exact fun _ _ _ h => h
      case dn191 => rfl
      case hyn191 => (intro z hSw; (try dsimp only at hSw); go_simp; (try with_reducible rfl))
      try simp only [Act.put, List.setIfInBounds_toArray, List.set_cons_zero, List.set_cons_succ]
      refine wpAnyH_take (i := 35) (oi := ?on192) (v := ?vn192) ?hin192 ?an192 ?bn192 ?cn192 ?qn192 (Or.inl ⟨?dn192, ?hyn192⟩) hHeld ?restn192
      case hin192 => (simp only [List.getElem?_toArray, List.getElem?_cons_succ, List.getElem?_cons_zero]; exact rfl)
      case an192 => kernel_rfl
      case bn192 => kernel_rfl
      case cn192 => kernel_rfl
      case qn192 => exact fun _ _ _ h => h
      case dn192 => rfl
      case hyn192 => (intro z hSw; (try dsimp only at hSw); go_simp; (try with_reducible rfl))
      try simp only [Act.put, List.setIfInBounds_toArray, List.set_cons_zero, List.set_cons_succ]
      refine wpAnyH_take (i := 36) (oi := ?on193) ?hin193 ?an193 ?bn193 ?cn193 ?qn193 (Or.inr ⟨?dn193, rfl⟩) hHeld ?restn193
      case hin193 => (simp only [List.getElem?_toArray, List.getElem?_cons_succ, List.getElem?_cons_zero]; exact rfl)
      case an193 => kernel_rfl
      case bn193 => kernel_rfl
      case cn193 => kernel_rfl
      case qn193 => exact fun _ _ _ h => h
      case dn193 => rfl
      try simp only [Act.put, List.setIfInBounds_toArray, List.set_cons_zero, List.set_cons_succ]
      refine wpAnyH_take (i := 37) (oi := ?on194) ?hin194 ?an194 ?bn194 ?cn194 ?qn194 (Or.inr ⟨?dn194, rfl⟩) hHeld ?restn194
      case hin194 => (simp only [List.getElem?_toArray, List.getElem?_cons_succ, List.getElem?_cons_zero]; exact rfl)
      case an194 => kernel_rfl
      case bn194 => kernel_rfl
      case cn194 => kernel_rfl
      case qn194 => exact fun _ _ _ h => h
      case dn194 => rfl
      try simp only [Act.put, List.setIfInBounds_toArray, List.set_cons_zero, List.set_cons_succ]
      refine wpAnyH_take (i := 38) (oi := ?on195) ?hin195 ?an195 ?bn195 ?cn195 ?qn195 (Or.inr ⟨?dn195, rfl⟩) hHeld ?restn195
      case hin195 => (simp only [List.getElem?_toArray, List.getElem?_cons_succ, List.getElem?_cons_zero]; exact rfl)
      case an195 => kernel_rfl
      case bn195 => kernel_rfl
      case cn195 => kernel_rfl
      case qn195 => exact fun _ _ _ h => h
      case dn195 => rfl
      try simp only [Act.put, List.setIfInBounds_toArray, List.set_cons_zero, List.set_cons_succ]
      refine wpAnyH_take (i := 39) (oi := ?on196) ?hin196 ?an196 ?bn196 ?cn196 ?qn196 (Or.inr ⟨?dn196, rfl⟩) hHeld ?restn196
      case hin196 => (simp only [List.getElem?_toArray, List.getElem?_cons_succ, List.getElem?_cons_zero]; exact rfl)
      case an196 => kernel_rfl
      case bn196 => kernel_rfl
      case cn196 => kernel_rfl
      case qn196 => exact fun _ _ _ h => h
      case dn196 => rfl
      try simp only [Act.put, List.setIfInBounds_toArray, List.set_cons_zero, List.set_cons_succ]
      refine wpAnyH_take (i := 40) (oi := ?on197) ?hin197 ?an197 ?bn197 ?cn197 ?qn197 (Or.inr ⟨?dn197, rfl⟩) hHeld ?restn197
      case hin197 => (simp only [List.getElem?_toArray, List.getElem?_cons_succ, List.getElem?_cons_zero]; exact rfl)
      case an197 => kernel_rfl
      case bn197 => kernel_rfl
      case cn197 => kernel_rfl
      case qn197 => exact fun _ _ _ h => h
      case dn197 => rfl
      try simp only [Act.put, List.setIfInBounds_toArray, List.set_cons_zero, List.set_cons_succ]
      refine wpAnyH_take (i := 41) (oi := ?on198) ?hin198 ?an198 ?bn198 ?cn198 ?qn198 (Or.inr ⟨?dn198, rfl⟩) hHeld ?restn198
      case hin198 => (simp only [List.getElem?_toArray, List.getElem?_cons_succ, List.getElem?_cons_zero]; exact rfl)
      case an198 => kernel_rfl
      case bn198 => kernel_rfl
      case cn198 => kernel_rfl
      case qn198 => exact fun _ _ _ h => h
      case dn198 => rfl
      try simp only [Act.put, List.setIfInBounds_toArray, List.set_cons_zero, List.set_cons_succ]
      refine wpAnyH_take (i := 42) (oi := ?on199) ?hin199 ?an199 ?bn199 ?cn199 ?qn199 (Or.inr ⟨?dn199, rfl⟩) hHeld ?restn199
      case hin199 => (simp only [List.getElem?_toArray, List.getElem?_cons_succ, List.getElem?_cons_zero]; exact rfl)
      case an199 => kernel_rfl
      case bn199 => kernel_rfl
      case cn199 => kernel_rfl
      case qn199 => exact fun _ _ _ h => h
      case dn199 => rfl
      try simp only [Act.put, List.setIfInBounds_toArray, List.set_cons_zero, List.set_cons_succ]
      refine wpAnyH_take (i := 43) (oi := ?on200) ?hin200 ?an200 ?bn200 ?cn200 ?qn200 (Or.inr ⟨?dn200, rfl⟩) hHeld ?restn200
      case hin200 => (simp only [List.getElem?_toArray, List.getElem?_cons_succ, List.getElem?_cons_zero]; exact rfl)
      case an200 => kernel_rfl
      case bn200 => kernel_rfl
      case cn200 => kernel_rfl
      case qn200 => exact fun _ _ _ h => h
      case dn200 => rfl
      try simp only [Act.put, List.setIfInBounds_toArray, List.set_cons_zero, List.set_cons_succ]
      refine wpAnyH_take (i := 44) (oi := ?on201) ?hin201 ?an201 ?bn201 ?cn201 ?qn201 (Or.inr ⟨?dn201, rfl⟩) hHeld ?restn201
      case hin201 => (simp only [List.getElem?_toArray, List.getElem?_cons_succ, List.getElem?_cons_zero]; exact rfl)
      case an201 => kernel_rfl
      case bn201 => kernel_rfl
      case cn201 => kernel_rfl
      case qn201 => exact fun _ _ _ h => h
      case dn201 => rfl
      try simp only [Act.put, List.setIfInBounds_toArray, List.set_cons_zero, List.set_cons_succ]
      refine wpAnyH_take (i := 45) (oi := ?on202) ?hin202 ?an202 ?bn202 ?cn202 ?qn202 (Or.inr ⟨?dn202, rfl⟩) hHeld ?restn202
      case hin202 => (simp only [List.getElem?_toArray, List.getElem?_cons_succ, List.getElem?_cons_zero]; exact rfl)
      case an202 => kernel_rfl
      case bn202 => kernel_rfl
      case cn202 => kernel_rfl
      case qn202 => exact fun _ _ _ h => h
      case dn202 => rfl
      try simp only [Act.put, List.setIfInBounds_toArray, List.set_cons_zero, List.set_cons_succ]
      refine wpAnyH_take (i := 46) (oi := ?on203) ?hin203 ?an203 ?bn203 ?cn203 ?qn203 (Or.inr ⟨?dn203, rfl⟩) hHeld ?restn203
      case hin203 => (simp only [List.getElem?_toArray, List.getElem?_cons_succ, List.getElem?_cons_zero]; exact rfl)
      case an203 => kernel_rfl
      case bn203 => kernel_rfl
      case cn203 => kernel_rfl
      case qn203 => exact fun _ _ _ h => h
      case dn203 => rfl
      try simp only [Act.put, List.setIfInBounds_toArray, List.set_cons_zero, List.set_cons_succ]
      refine wpAnyH_take (i := 47) (oi := ?on204) ?hin204 ?an204 ?bn204 ?cn204 ?qn204 (Or.inr ⟨?dn204, rfl⟩) hHeld ?restn204
      case hin204 => (simp only [List.getElem?_toArray, List.getElem?_cons_succ, List.getElem?_cons_zero]; exact rfl)
      case an204 => kernel_rfl
      case bn204 => kernel_rfl
      case cn204 => kernel_rfl
      case qn204 => exact fun _ _ _ h => h
      case dn204 => rfl
      try simp only [Act.put, List.setIfInBounds_toArray, List.set_cons_zero, List.set_cons_succ]
      refine wpAnyH_take (i := 48) (oi := ?on205) ?hin205 ?an205 ?bn205 ?cn205 ?qn205 (Or.inr ⟨?dn205, rfl⟩) hHeld ?restn205
      case hin205 => (simp only [List.getElem?_toArray, List.getElem?_cons_succ, List.getElem?_cons_zero]; exact rfl)
      case an205 => kernel_rfl
      case bn205 => kernel_rfl
      case cn205 => kernel_rfl
      case qn205 => exact fun _ _ _ h => h
      case dn205 => rfl
      try simp only [Act.put, List.setIfInBounds_toArray, List.set_cons_zero, List.set_cons_succ]
      refine wpAnyH_take (i := 49) (oi := ?on206) (v := ?vn206) ?hin206 ?an206 ?bn206 ?cn206 ?qn206 (Or.inl ⟨?dn206, ?hyn206⟩) hHeld ?restn206
      case hin206 => (simp only [List.getElem?_toArray, List.getElem?_cons_succ, List.getElem?_cons_zero]; exact rfl)
      case an206 => kernel_rfl
      case bn206 => kernel_rfl
      case cn206 => kernel_rfl
      case qn206 => exact fun _ _ _ h => h
      case dn206 => rfl
      case hyn206 => (intro z hSw; (try dsimp only at hSw); go_simp; (try with_reducible rfl))
      try simp only [Act.put, List.setIfInBounds_toArray, List.set_cons_zero, List.set_cons_succ]
      refine wpAnyH_take (i := 50) (oi := ?on207) (v := ?vn207) ?hin207 ?an207 ?bn207 ?cn207 ?qn207 (Or.inl ⟨?dn207, ?hyn207⟩) hHeld ?restn207
      case hin207 => (simp only [List.getElem?_toArray, List.getElem?_cons_succ, List.getElem?_cons_zero]; exact rfl)
      case an207 => kernel_rfl
      case bn207 => kernel_rfl
      case cn207 => kernel_rfl
      case qn207 => exact fun _ _ _ h => h
      case dn207 => rfl
      case hyn207 => (intro z hSw; (try dsimp only at hSw); go_simp; (try with_reducible rfl))
      try simp only [Act.put, List.setIfInBounds_toArray, List.set_cons_zero, List.set_cons_succ]
      refine wpAnyH_done (by kernel_rfl) ?_ _
      go_wp2_with fail
      go_ret
      exact ⟨by rw [hR]; rfl, g1.trans (by first | assumption | exact r1d)⟩
    | false =>
    cases hin : decide (0 ≤ fi ∧ fi ≤ (k : Int) - 1) with
    | false =>
      simp only [hin, Bool.false_and, Bool.and_false] at hR
      have KE1 := fun W (hW : Grew w1 W) => KE0.out fi W hW
      rw [hin] at KE1
      replace KE1 := Lib.hid KE1
      go_wp2_with fail
      refine wp_region_held_drew (S := fun w' => Grew w1 w') (by kernel_rfl) r1d (fun hHeld => ?_)
      refine wpAnyH_take (i := 0) (oi := ?on208) (v := ?vn208) ?hin208 ?an208 ?bn208 ?cn208 ?qn208 (Or.inl ⟨?dn208, ?hyn208⟩) hHeld ?restn208
      case hin208 => (simp only [List.getElem?_toArray, List.getElem?_cons_zero]; exact rfl)
      case an208 => kernel_rfl
      case bn208 => kernel_rfl
      case cn208 => kernel_rfl
      case qn208 => exact fun _ _ _ h => h
      case dn208 => rfl
      case hyn208 => (intro z hSw; (try dsimp only at hSw); go_simp; (try with_reducible rfl))
      try simp only [Act.put, List.setIfInBounds_toArray, List.set_cons_zero, List.set_cons_succ]
      refine wpAnyH_take (i := 1) (oi := ?on209) (v := ?vn209) ?hin209 ?an209 ?bn209 ?cn209 ?qn209 (Or.inl ⟨?dn209, ?hyn209⟩) hHeld ?restn209
      case hin209 => (simp only [List.getElem?_toArray, List.getElem?_cons_succ, List.getElem?_cons_zero]; exact rfl)
      case an209 => kernel_rfl
      case bn209 => kernel_rfl
      case cn209 => kernel_rfl
      case qn209 => exact fun _ _ _ h => h
      case dn209 => rfl
      case hyn209 => (intro z hSw; (try dsimp only at hSw); go_simp; (try with_reducible rfl))
      try simp only [Act.put, List.setIfInBounds_toArray, List.set_cons_zero, List.set_cons_succ]
      refine wpAnyH_take (i := 2) (oi := ?on210) (v := ?vn210) ?hin210 ?an210 ?bn210 ?cn210 ?qn210 (Or.inl ⟨?dn210, ?hyn210⟩) hHeld ?restn210
      case hin210 => (simp only [List.getElem?_toArray, List.getElem?_cons_succ, List.getElem?_cons_zero]; exact rfl)
      case an210 => kernel_rfl
      case bn210 => kernel_rfl
      case cn210 => kernel_rfl
      case qn210 => exact fun _ _ _ h => h
      case dn210 => rfl
      case hyn210 => (intro z hSw; (try dsimp only at hSw); go_simp; (try with_reducible rfl))
      try simp only [Act.put, List.setIfInBounds_toArray, List.set_cons_zero, List.set_cons_succ]
      refine wpAnyH_take (i := 3) (oi := ?on211) (v := ?vn211) ?hin211 ?an211 ?bn211 ?cn211 ?qn211 (Or.inl ⟨?dn211, ?hyn211⟩) hHeld ?restn211
      case hin211 => (simp only [List.getElem?_toArray, List.getElem?_cons_succ, List.getElem?_cons_zero]; exact rfl)
      case an211 => kernel_rfl
      case bn211 => kernel_rfl
      case cn211 => kernel_rfl
      case qn211 => exact fun _ _ _ h => h
      case dn211 => rfl
      case hyn211 => (intro z hSw; (try dsimp only at hSw); go_simp; (try with_reducible rfl))
      try simp only [Act.put, List.setIfInBounds_toArray, List.set_cons_zero, List.set_cons_succ]
      refine wpAnyH_take (i := 4) (oi := ?on212) (v := ?vn212) ?hin212 ?an212 ?bn212 ?cn212 ?qn212 (Or.inl ⟨?dn212, ?hyn212⟩) hHeld ?restn212
      case hin212 => (simp only [List.getElem?_toArray, List.getElem?_cons_succ, List.getElem?_cons_zero]; exact rfl)
      case an212 => kernel_rfl
      case bn212 => kernel_rfl
      case cn212 => kernel_rfl
      case qn212 => exact fun _ _ _ h => h
      case dn212 => rfl
      case hyn212 => (intro z hSw; (try dsimp only at hSw); go_simp; (try with_reducible rfl))
      try simp only [Act.put, List.setIfInBounds_toArray, List.set_cons_zero, List.set_cons_succ]
      refine wpAnyH_take (i := 5) (oi := ?on213) (v := ?vn213) ?hin213 ?an213 ?bn213 ?cn213 ?qn213 (Or.inl ⟨?dn213, ?hyn213⟩) hHeld ?restn213
      case hin213 => (simp only [List.getElem?_toArray, List.getElem?_cons_succ, List.getElem?_cons_zero]; exact rfl)
      case an213 => kernel_rfl
      case bn213 => kernel_rfl
      case cn213 => kernel_rfl
      case qn213 => exact fun _ _ _ h => h
      case dn213 => rfl
      case hyn213 => (intro z hSw; (try dsimp only at hSw); go_simp; (try with_reducible rfl))
      try simp only [Act.put, List.setIfInBounds_toArray, List.set_cons_zero, List.set_cons_succ]
      refine wpAnyH_take (i := 6) (oi := ?on214) (v := ?vn214) ?hin214 ?an214 ?bn214 ?cn214 ?qn214 (Or.inl ⟨?dn214, ?hyn214⟩) hHeld ?restn214
      case hin214 => (simp only [List.getElem?_toArray, List.getElem?_cons_succ, List.getElem?_cons_zero]; exact rfl)
      case an214 => kernel_rfl
      case bn214 => kernel_rfl
      case cn214 => kernel_rfl
      case qn214 => exact fun _ _ _ h => h
      case dn214 => rfl
      case hyn214 => (intro z hSw; (try dsimp only at hSw); go_simp; (try with_reducible rfl))
      try simp only [Act.put, List.setIfInBounds_toArray, List.set_cons_zero, List.set_cons_succ]
      refine wpAnyH_take (i := 7) (oi := ?on215) (v := ?vn215) ?hin215 ?an215 ?bn215 ?cn215 ?qn215 (Or.inl ⟨?dn215, ?hyn215⟩) hHeld ?restn215
      case hin215 => (simp only [List.getElem?_toArray, List.getElem?_cons_succ, List.getElem?_cons_zero]; exact rfl)
      case an215 => kernel_rfl
      case bn215 => kernel_rfl
      case cn215 => kernel_rfl
      case qn215 => exact fun _ _ _ h => h
      case dn215 => rfl
      case hyn215 => (intro z hSw; (try dsimp only at hSw); go_simp; (try with_reducible rfl))
      try simp only [Act.put, List.setIfInBounds_toArray, List.set_cons_zero, List.set_cons_succ]
      refine wpAnyH_take (i := 8) (oi := ?on216) (v := ?vn216) ?hin216 ?an216 ?bn216 ?cn216 ?qn216 (Or.inl ⟨?dn216, ?hyn216⟩) hHeld ?restn216
      case hin216 => (simp only [List.getElem?_toArray, List.getElem?_cons_succ, List.getElem?_cons_zero]; exact rfl)
      case an216 => kernel_rfl
      case bn216 => kernel_rfl
      case cn216 => kernel_rfl
      case qn216 => exact fun _ _ _ h => h
      case dn216 => rfl
      case hyn216 => (intro z hSw; (try dsimp only at hSw); go_simp; (try with_reducible rfl))
      try simp only [Act.put, List.setIfInBounds_toArray, List.set_cons_zero, List.set_cons_succ]
      refine wpAnyH_take (i := 9) (oi := ?on217) (v := ?vn217) ?hin217 ?an217 ?bn217 ?cn217 ?qn217 (Or.inl ⟨?dn217, ?hyn217⟩) hHeld ?restn217
      case hin217 => (simp only [List.getElem?_toArray, List.getElem?_cons_succ, List.getElem?_cons_zero]; exact rfl)
      case an217 => kernel_rfl
      case bn217 => kernel_rfl
      case cn217 => kernel_rfl
      case qn217 => exact fun _ _ _ h => h
      case dn217 => rfl
      case hyn217 => (intro z hSw; (try dsimp only at hSw); go_simp; (try with_reducible rfl))
      try simp only [Act.put, List.setIfInBounds_toArray, List.set_cons_zero, List.set_cons_succ]
      refine wpAnyH_take (i := 10) (oi := ?on218) (v := ?vn218) ?hin218 ?an218 ?bn218 ?cn218 ?qn218 (Or.inl ⟨?dn218, ?hyn218⟩) hHeld ?restn218
      case hin218 => (simp only [List.getElem?_toArray, List.getElem?_cons_succ, List.getElem?_cons_zero]; exact rfl)
      case an218 => kernel_rfl
      case bn218 => kernel_rfl
      case cn218 => kernel_rfl
      case qn218 => exact fun _ _ _ h => h
      case dn218 => rfl
      case hyn218 => (intro z hSw; (try dsimp only at hSw); go_simp; (try with_reducible rfl))
      try simp only [Act.put, List.setIfInBounds_toArray, List.set_cons_zero, List.set_cons_succ]
      refine wpAnyH_take (i := 11) (oi := ?on219) (v := ?vn219) ?hin219 ?an219 ?bn219 ?cn219 ?qn219 (Or.inl ⟨?dn219, ?hyn219⟩) hHeld ?restn219
      case hin219 => (simp only [List.getElem?_toArray, List.getElem?_cons_succ, List.getElem?_cons_zero]; exact rfl)
      case an219 => kernel_rfl
      case bn219 => kernel_rfl
      case cn219 => kernel_rfl
      case qn219 => exact fun _ _ _ h => h
      case dn219 => rfl
      case hyn219 => (intro z hSw; (try dsimp only at hSw); go_simp; (try with_reducible rfl))
      try simp only [Act.put, List.setIfInBounds_toArray, List.set_cons_zero, List.set_cons_succ]
      refine wpAnyH_take (i := 12) (oi := ?on220) (v := ?vn220) ?hin220 ?an220 ?bn220 ?cn220 ?qn220 (Or.inl ⟨?dn220, ?hyn220⟩) hHeld ?restn220
      case hin220 => (simp only [List.getElem?_toArray, List.getElem?_cons_succ, List.getElem?_cons_zero]; exact rfl)
      case an220 => kernel_rfl
      case bn220 => kernel_rfl
      case cn220 => kernel_rfl
      case qn220 => exact fun _ _ _ h => h
      case dn220 => rfl
      case hyn220 => (intro z hSw; (try dsimp only at hSw); go_simp; (try with_reducible rfl))
      try simp only [Act.put, List.setIfInBounds_toArray, List.set_cons_zero, List.set_cons_succ]
      refine wpAnyH_take (i := 13) (oi := ?on221) (v := ?vn221) ?hin221 ?an221 ?bn221 ?cn221 ?qn221 (Or.inl ⟨?dn221, ?hyn221⟩) hHeld ?restn221
      case hin221 => (simp only [List.getElem?_toArray, List.getElem?_cons_succ, List.getElem?_cons_zero]; exact rfl)
      case an221 => kernel_rfl
      case bn221 => kernel_rfl
      case cn221 => kernel_rfl
      case qn221 => exact fun _ _ _ h => h
      case dn221 => rfl
      case hyn221 => (intro z hSw; (try dsimp only at hSw); go_simp; (try with_reducible rfl))
      try simp only [Act.put, List.setIfInBounds_toArray, List.set_cons_zero, List.set_cons_succ]
      refine wpAnyH_take (i := 14) (oi := ?on222) (v := ?vn222) ?hin222 ?an222 ?bn222 ?cn222 ?qn222 (Or.inl ⟨?dn222, ?hyn222⟩) hHeld ?restn222
      case hin222 => (simp only [List.getElem?_toArray, List.getElem?_cons_succ, List.getElem?_cons_zero]; exact rfl)
      case an222 => kernel_rfl
      case bn222 => kernel_rfl
      case cn222 => kernel_rfl
      case qn222 => exact fun _ _ _ h => h
      case dn222 => rfl
      case hyn222 => (intro z hSw; (try dsimp only at hSw); go_simp; (try with_reducible rfl))
      try simp only [Act.put, List.setIfInBounds_toArray, List.set_cons_zero, List.set_cons_succ]
      refine wpAnyH_take (i := 15) (oi := ?on223) (v := ?vn223) ?hin223 ?an223 ?bn223 ?cn223 ?qn223 (Or.inl ⟨?dn223, ?hyn223⟩) hHeld ?restn223
      case hin223 => (simp only [List.getElem?_toArray, List.getElem?_cons_succ, List.getElem?_cons_zero]; exact rfl)
      case an223 => kernel_rfl
      case bn223 => kernel_rfl
      case cn223 => kernel_rfl
      case qn223 => exact fun _ _ _ h => h
      case dn223 => rfl
      case hyn223 => (intro z hSw; (try dsimp only at hSw); go_simp; (try with_reducible rfl))
      try simp only [Act.put, List.setIfInBounds_toArray, List.set_cons_zero, List.set_cons_succ]
      refine wpAnyH_ready (rs := [16]) (by kernel_rfl) (by simp) ?_
      refine AllReadyH.cons (o := ?on224) ?hin224 ?restn224 AllReadyH.nil
      case hin224 => (simp only [List.getElem?_toArray, List.getElem?_cons_succ, List.getElem?_cons_zero]; exact rfl)
      intro K hK
      go_simp
      go_at_call 56
      refine (KE1.out _ (by repeat (first | with_reducible assumption | with_reducible refine Grew.alloc ?_ _ | with_reducible refine Grew.drew ?_ | with_reducible refine Grew.drewN ?_ _))).mono ?_
      rintro e w2 ⟨rfl, hgw2⟩
      have h2 : Grew w1 w2 := Grew.trans (by repeat (first | with_reducible assumption | with_reducible refine Grew.alloc ?_ _ | with_reducible refine Grew.drew ?_ | with_reducible refine Grew.drewN ?_ _)) hgw2
      refine hK.out _ _ ?_ (fun hHeld => ?_)
      · (try dsimp only); first | with_reducible assumption | exact Grew.alloc ‹_› _
      clear hK K
      try simp only [Act.put, List.setIfInBounds_toArray, List.set_cons_zero, List.set_cons_succ]
      refine wpAnyH_take (i := 17) (oi := ?on225) (v := ?vn225) ?hin225 ?an225 ?bn225 ?cn225 ?qn225 (Or.inl ⟨?dn225, ?hyn225⟩) hHeld ?restn225
      case hin225 => (simp only [List.getElem?_toArray, List.getElem?_cons_succ, List.getElem?_cons_zero]; exact rfl)
      case an225 => kernel_rfl
      case bn225 => kernel_rfl
      case cn225 => kernel_rfl
      case qn225 => exact fun _ _ _ h => h
      case dn225 => rfl
      case hyn225 => (intro z hSw; (try dsimp only at hSw); go_simp; (try with_reducible rfl))
      try simp only [Act.put, List.setIfInBounds_toArray, List.set_cons_zero, List.set_cons_succ]
      refine wpAnyH_take (i := 18) (oi := ?on226) (v := ?vn226) ?hin226 ?an226 ?bn226 ?cn226 ?qn226 (Or.inl ⟨?dn226, ?hyn226⟩) hHeld ?restn226
      case hin226 => (simp only [List.getElem?_toArray, List.getElem?_cons_succ, List.getElem?_cons_zero]; exact rfl)
      case an226 => kernel_rfl
      case bn226 => kernel_rfl
      case cn226 => kernel_rfl
      case qn226 => exact fun _ _ _ h => h
      case dn226 => rfl
      case hyn226 => (intro z hSw; (try dsimp only at hSw); go_simp; (try with_reducible rfl))
      try simp only [Act.put, List.setIfInBounds_toArray, List.set_cons_zero, List.set_cons_succ]
      refine wpAnyH_take (i := 19) (oi := ?on227) ?hin227 ?an227 ?bn227 ?cn227 ?qn227 (Or.inr ⟨?dn227, rfl⟩) hHeld ?restn227
      case hin227 => (simp only [List.getElem?_toArray, List.getElem?_cons_succ, List.getElem?_cons_zero]; exact rfl)
      case an227 => kernel_rfl
      case bn227 => kernel_rfl
      case cn227 => kernel_rfl
      case qn227 => exact fun _ _ _ h => h
      case dn227 => rfl
      try simp only [Act.put, List.setIfInBounds_toArray, List.set_cons_zero, List.set_cons_succ]
      refine wpAnyH_take (i := 20) (oi := ?on228) ?hin228 ?an228 ?bn228 ?cn228 ?qn228 (Or.inr ⟨?dn228, rfl⟩) hHeld ?restn228
      case hin228 => (simp only [List.getElem?_toArray, List.getElem?_cons_succ, List.getElem?_cons_zero]; exact rfl)
      case an228 => kernel_rfl
      case bn228 => kernel_rfl
      case cn228 => kernel_rfl
      case qn228 => exact fun _ _ _ h => h
      case dn228 => rfl
      try simp only [Act.put, List.setIfInBounds_toArray, List.set_cons_zero, List.set_cons_succ]
      refine wpAnyH_take (i := 21) (oi := ?on229) ?hin229 ?an229 ?bn229 ?cn229 ?qn229 (Or.inr ⟨?dn229, rfl⟩) hHeld ?restn229
      case hin229 => (simp only [List.getElem?_toArray, List.getElem?_cons_succ, List.getElem?_cons_zero]; exact rfl)
      case an229 => kernel_rfl
      case bn229 => kernel_rfl
      case cn229 => kernel_rfl
      case qn229 => exact fun _ _ _ h => h
      case dn229 => rfl
      try simp only [Act.put, List.setIfInBounds_toArray, List.set_cons_zero, List.set_cons_succ]
      refine wpAnyH_take (i := 22) (oi := ?on230) (v := ?vn230) ?hin230 ?an230 ?bn230 ?cn230 ?qn230 (Or.inl ⟨?dn230, ?hyn230⟩) hHeld ?restn230
      case hin230 => (simp only [List.getElem?_toArray, List.getElem?_cons_succ, List.getElem?_cons_zero]; exact rfl)
      case an230 => kernel_rfl
      case bn230 => kernel_rfl
      case cn230 => kernel_rfl
      case qn230 => exact fun _ _ _ h => h
      case dn230 => rfl
      case hyn230 => (intro z hSw; (try dsimp only at hSw); go_simp; (try with_reducible rfl))
      try simp only [Act.put, List.setIfInBounds_toArray, List.set_cons_zero, List.set_cons_succ]
      refine wpAnyH_take (i := 23) (oi := ?on231) (v := ?vn231) ?hin231 ?an231 ?bn231 ?cn231 ?qn231 (Or.inl ⟨?dn231, ?hyn231⟩) hHeld ?restn231
      case hin231 => (simp only [List.getElem?_toArray, List.getElem?_cons_succ, List.getElem?_cons_zero]; exact rfl)
      case an231 => kernel_rfl
      case bn231 => kernel_rfl
      case cn231 => kernel_rfl
      case qn231 => exact fun _ _ _ h => h
      case dn231 => rfl
      case hyn231 => (intro z hSw; (try dsimp only at hSw); go_simp; (try with_reducible rfl))
      try simp only [Act.put, List.setIfInBounds_toArray, List.set_cons_zero, List.set_cons_succ]
      refine wpAnyH_take (i := 24) (oi := ?on232) ?hin232 ?an232 ?bn232 ?cn232 ?qn232 (Or.inr ⟨?dn232, rfl⟩) hHeld ?restn232
      case hin232 => (simp only [List.getElem?_toArray, List.getElem?_cons_succ, List.getElem?_cons_zero]; exact rfl)
      case an232 => kernel_rfl
      case bn232 => kernel_rfl
      case cn232 => kernel_rfl
      case qn232 => exact fun _ _ _ h => h
      case dn232 => rfl
      try simp only [Act.put, List.setIfInBounds_toArray, List.set_cons_zero, List.set_cons_succ]
      refine wpAnyH_take (i := 25) (oi := ?on233) ?hin233 ?an233 ?bn233 ?cn233 ?qn233 (Or.inr ⟨?dn233, rfl⟩) hHeld ?restn233
      case hin233 => (simp only [List.getElem?_toArray, List.getElem?_cons_succ, List.getElem?_cons_zero]; exact rfl)
      case an233 => kernel_rfl
      case bn233 => kernel_rfl
      case cn233 => kernel_rfl
      case qn233 => exact fun _ _ _ h => h
      case dn233 => rfl
      try simp only [Act.put, List.setIfInBounds_toArray, List.set_cons_zero, List.set_cons_succ]
      refine wpAnyH_take (i := 26) (oi := ?on234) ?hin234 ?an234 ?bn234 ?cn234 ?qn234 (Or.inr ⟨?dn234, rfl⟩) hHeld ?restn234
      case hin234 => (simp only [List.getElem?_toArray, List.getElem?_cons_succ, List.getElem?_cons_zero]; exact rfl)
      case an234 => kernel_rfl
      case bn234 => kernel_rfl
      case cn234 => kernel_rfl
      case qn234 => exact fun _ _ _ h => h
      case dn234 => rfl
      try simp only [Act.put, List.setIfInBounds_toArray, List.set_cons_zero, List.set_cons_succ]
      refine wpAnyH_take (i := 27) (oi := ?on235) ?hin235 ?an235 ?bn235 ?cn235 ?qn235 (Or.inr ⟨?dn235, rfl⟩) hHeld ?restn235
      case hin235 => (simp only [List.getElem?_toArray, List.getElem?_cons_succ, List.getElem?_cons_zero]; exact rfl)
      case an235 => kernel_rfl
      case bn235 => kernel_rfl
      case cn235 => kernel_rfl
      case qn235 => exact fun _ _ _ h => h
      case dn235 => rfl
      try simp only [Act.put, List.setIfInBounds_toArray, List.set_cons_zero, List.set_cons_succ]
      refine wpAnyH_take (i := 28) (oi := ?on236) ?hin236 ?an236 ?bn236 ?cn236 ?qn236 (Or.inr ⟨?dn236, rfl⟩) hHeld ?restn236
      case hin236 => (simp only [List.getElem?_toArray, List.getElem?_cons_succ, List.getElem?_cons_zero]; exact rfl)
      case an236 => kernel_rfl
      case bn236 => kernel_rfl
      case cn236 => kernel_rfl
      case qn236 => exact fun _ _ _ h => h
      case dn236 => rfl
      try simp only [Act.put, List.setIfInBounds_toArray, List.set_cons_zero, List.set_cons_succ]
      refine wpAnyH_take (i := 29) (oi := ?on237) ?hin237 ?an237 ?bn237 ?cn237 ?qn237 (Or.inr ⟨?dn237, rfl⟩) hHeld ?restn237
      case hin237 => (simp only [List.getElem?_toArray, List.getElem?_cons_succ, List.getElem?_cons_zero]; exact rfl)
      case an237 => kernel_rfl
      case bn237 => kernel_rfl
      case cn237 => kernel_rfl
      case qn237 => exact fun _ _ _ h => h
      case dn237 => rfl
      try simp only [Act.put, List.setIfInBounds_toArray, List.set_cons_zero, List.set_cons_succ]
      refine wpAnyH_take (i := 30) (oi := ?on238) ?hin238 ?an238 ?bn238 ?cn238 ?qn238 (Or.inr ⟨?dn238, rfl⟩) hHeld ?restn238
      case hin238 => (simp only [List.getElem?_toArray, List.getElem?_cons_succ, List.getElem?_cons_zero]; exact rfl)
      case an238 => kernel_rfl
      case bn238 => kernel_rfl
      case cn238 => kernel_rfl
      case qn238 => exact fun _ _ _ h => h
      case dn238 => rfl
      try simp only [Act.put, List.setIfInBounds_toArray, List.set_cons_zero, List.set_cons_succ]
      refine wpAnyH_take (i := 31) (oi := ?on239) ?hin239 ?an239 ?bn239 ?cn239 ?qn239 (Or.inr ⟨?dn239, rfl⟩) hHeld ?restn239
      case hin239 => (simp only [List.getElem?_toArray, List.getElem?_cons_succ, List.getElem?_cons_zero]; exact rfl)
      case an239 => kernel_rfl
      case bn239 => kernel_rfl
      case cn239 => kernel_rfl
      case qn239 => exact fun _ _ _ h => h
      case dn239 => rfl
      try simp only [Act.put, List.setIfInBounds_toArray, List.set_cons_zero, List.set_cons_succ]
      refine wpAnyH_take (i := 32) (oi := ?on240) ?hin240 ?an240 ?bn240 ?cn240 ?qn240 (Or.inr ⟨?dn240, rfl⟩) hHeld ?restn240
      case hin240 => (simp only [List.getElem?_toArray, List.getElem?_cons_succ, List.getElem?_cons_zero]; exact rfl)
      case an240 => kernel_rfl
      case bn240 => kernel_rfl
      case cn240 => kernel_rfl
      case qn240 => exact fun _ _ _ h => h
      case dn240 => rfl
      try simp only [Act.put, List.setIfInBounds_toArray, List.set_cons_zero, List.set_cons_succ]
      refine wpAnyH_take (i := 33) (oi := ?on241) ?hin241 ?an241 ?bn241 ?cn241 ?qn241 (Or.inr ⟨?dn241, rfl⟩) hHeld ?restn241
      case hin241 => (simp only [List.getElem?_toArray, List.getElem?_cons_succ, List.getElem?_cons_zero]; exact rfl)
      case an241 => kernel_rfl
      case bn241 => kernel_rfl
      case cn241 => kernel_rfl
      case qn241 => exact fun _ _ _ h => h
      case dn241 => rfl
      try simp only [Act.put, List.setIfInBounds_toArray, List.set_cons_zero, List.set_cons_succ]
      refine wpAnyH_take (i := 34) (oi := ?on242) (v := ?vn242) ?hin242 ?an242 ?bn242 ?cn242 ?qn242 (Or.inl ⟨?dn242, ?hyn242⟩) hHeld ?restn242
      case hin242 => (simp only [List.getElem?_toArray, List.getElem?_cons_succ, List.getElem?_cons_zero]; exact rfl)
      case an242 => kernel_rfl
      case bn242 => kernel_rfl
      case cn242 => kernel_rfl
      case qn242 => exact fun _ _ _ h => h
      case dn242 => rfl
      case hyn242 => (intro z hSw; (try dsimp only at hSw); go_simp; (try with_reducible rfl))
      try simp only [Act.put, List.setIfInBounds_toArray, List.set_cons_zero, List.set_cons_succ]
      refine wpAnyH_take (i := 35) (oi := ?on243) (v := ?vn243) ?hin243 ?an243 ?bn243 ?cn243 ?qn243 (Or.inl ⟨?dn243, ?hyn243⟩) hHeld ?restn243
      case hin243 => (simp only [List.getElem?_toArray, List.getElem?_cons_succ, List.getElem?_cons_zero]; exact rfl)
      case an243 => kernel_rfl
      case bn243 => kernel_rfl
      case cn243 => kernel_rfl
      case qn243 => exact fun _ _ _ h => h
      case dn243 => rfl
      case hyn243 => (intro z hSw; (try dsimp only at hSw); go_simp; (try with_reducible rfl))
      try simp only [Act.put, List.setIfInBounds_toArray, List.set_cons_zero, List.set_cons_succ]
      refine wpAnyH_take (i := 36) (oi := ?on244) ?hin244 ?an244 ?bn244 ?cn244 ?qn244 (Or.inr ⟨?dn244, rfl⟩) hHeld ?restn244
      case hin244 => (simp only [List.getElem?_toArray, List.getElem?_cons_succ, List.getElem?_cons_zero]; exact rfl)
      case an244 => kernel_rfl
      case bn244 => kernel_rfl
      case cn244 => kernel_rfl
      case qn244 => exact fun _ _ _ h => h
      case dn244 => rfl
      try simp only [Act.put, List.setIfInBounds_toArray, List.set_cons_zero, List.set_cons_succ]
      refine wpAnyH_take (i := 37) (oi := ?on245) ?hin245 ?an245 ?bn245 ?cn245 ?qn245 (Or.inr ⟨?dn245, rfl⟩) hHeld ?restn245
      case hin245 => (simp only [List.getElem?_toArray, List.getElem?_cons_succ, List.getElem?_cons_zero]; exact rfl)
      case an245 => kernel_rfl
      case bn245 => kernel_rfl
      case cn245 => kernel_rfl
      case qn245 => exact fun _ _ _ h => h
      case dn245 => rfl
      try simp only [Act.put, List.setIfInBounds_toArray, List.set_cons_zero, List.set_cons_succ]
      refine wpAnyH_take (i := 38) (oi := ?on246) ?hin246 ?an246 ?bn246 ?cn246 ?qn246 (Or.inr ⟨?dn246, rfl⟩) hHeld ?restn246
      case hin246 => (simp only [List.getElem?_toArray, List.getElem?_cons_succ, List.getElem?_cons_zero]; exact rfl)
      case an246 => kernel_rfl
      case bn246 => kernel_rfl
      case cn246 => kernel_rfl
      case qn246 => exact fun _ _ _ h => h
      case dn246 => rfl
      try simp only [Act.put, List.setIfInBounds_toArray, List.set_cons_zero, List.set_cons_succ]
      refine wpAnyH_take (i := 39) (oi := ?on247) ?hin247 ?an247 ?bn247 ?cn247 ?qn247 (Or.inr ⟨?dn247, rfl⟩) hHeld ?restn247
      case hin247 => (simp only [List.getElem?_toArray, List.getElem?_cons_succ, List.getElem?_cons_zero]; exact rfl)
      case an247 => kernel_rfl
      case bn247 => kernel_rfl
      case cn247 => kernel_rfl
      case qn247 => exact fun _ _ _ h => h
      case dn247 => rfl
      try simp only [Act.put, List.setIfInBounds_toArray, List.set_cons_zero, List.set_cons_succ]
      refine wpAnyH_take (i := 40) (oi := ?on248) ?hin248 ?an248 ?bn248 ?cn248 ?qn248 (Or.inr ⟨?dn248, rfl⟩) hHeld ?restn248
      case hin248 => (simp only [List.getElem?_toArray, List.getElem?_cons_succ, List.getElem?_cons_zero]; exact rfl)
      case an248 => kernel_rfl
      case bn248 => kernel_rfl
      case cn248 => kernel_rfl
      case qn248 => exact fun _ _ _ h => h
      case dn248 => rfl
      try simp only [Act.put, List.setIfInBounds_toArray, List.set_cons_zero, List.set_cons_succ]
      refine wpAnyH_take (i := 41) (oi := ?on249) ?hin249 ?an249 ?bn249 ?cn249 ?qn249 (Or.inr ⟨?dn249, rfl⟩) hHeld ?restn249
      case hin249 => (simp only [List.getElem?_toArray, List.getElem?_cons_succ, List.getElem?_cons_zero]; exact rfl)
      case an249 => kernel_rfl
      case bn249 => kernel_rfl
      case cn249 => kernel_rfl
      case qn249 => exact fun _ _ _ h => h
      case dn249 => rfl
      try simp only [Act.put, List.setIfInBounds_toArray, List.set_cons_zero, List.set_cons_succ]
      refine wpAnyH_take (i := 42) (oi := ?on250) ?hin250 ?an250 ?bn250 ?cn250 ?qn250 (Or.inr ⟨?dn250, rfl⟩) hHeld ?restn250
      case hin250 => (simp only [List.getElem?_toArray, List.getElem?_cons_succ, List.getElem?_cons_zero]; exact rfl)
      case an250 => kernel_rfl
      case bn250 => kernel_rfl
      case cn250 => kernel_rfl
      case qn250 => exact fun _ _ _ h => h
      case dn250 => rfl
      try simp only [Act.put, List.setIfInBounds_toArray, List.set_cons_zero, List.set_cons_succ]
      refine wpAnyH_take (i := 43) (oi := ?on251) ?hin251 ?an251 ?bn251 ?cn251 ?qn251 (Or.inr ⟨?dn251, rfl⟩) hHeld ?restn251
      case hin251 => (simp only [List.getElem?_toArray, List.getElem?_cons_succ, List.getElem?_cons_zero]; exact rfl)
      case an251 => kernel_rfl
      case bn251 => kernel_rfl
      case cn251 => kernel_rfl
      case qn251 => exact fun _ _ _ h => h
      case dn251 => rfl
      try simp only [Act.put, List.setIfInBounds_toArray, List.set_cons_zero, List.set_cons_succ]
      refine wpAnyH_take (i := 44) (oi := ?on252) ?hin252 ?an252 ?bn252 ?cn252 ?qn252 (Or.inr ⟨?dn252, rfl⟩) hHeld ?restn252
      case hin252 => (simp only [List.getElem?_toArray, List.getElem?_cons_succ, List.getElem?_cons_zero]; exact rfl)
      case an252 => kernel_rfl
      case bn252 => kernel_rfl
      case cn252 => kernel_rfl
      case qn252 => exact fun _ _ _ h => h
      case dn252 => rfl
      try simp only [Act.put, List.setIfInBounds_toArray, List.set_cons_zero, List.set_cons_succ]
      refine wpAnyH_take (i := 45) (oi := ?on253) ?hin253 ?an253 ?bn253 ?cn253 ?qn253 (Or.inr ⟨?dn253, rfl⟩) hHeld ?restn253
      case hin253 => (simp only [List.getElem?_toArray, List.getElem?_cons_succ, List.getElem?_cons_zero]; exact rfl)
      case an253 => kernel_rfl
      case bn253 => kernel_rfl
      case cn253 => kernel_rfl
      case qn253 => exact fun _ _ _ h => h
      case dn253 => rfl
      try simp only [Act.put, List.setIfInBounds_toArray, List.set_cons_zero, List.set_cons_succ]
      refine wpAnyH_take (i := 46) (oi := ?on254) ?hin254 ?an254 ?bn254 ?cn254 ?qn254 (Or.inr ⟨?dn254, rfl⟩) hHeld ?restn254
      case hin254 => (simp only [List.getElem?_toArray, List.getElem?_cons_succ, List.getElem?_cons_zero]; exact rfl)
      case an254 => kernel_rfl
      case bn254 => kernel_rfl
      case cn254 => kernel_rfl
      case qn254 => exact fun _ _ _ h => h
      case dn254 => rfl
      try simp only [Act.put, List.setIfInBounds_toArray, List.set_cons_zero, List.set_cons_succ]
      refine wpAnyH_take (i := 47) (oi := ?on255) ?hin255 ?an255 ?bn255 ?cn255 ?qn255 (Or.inr ⟨?dn255, rfl⟩) hHeld ?restn255
      case hin255 => (simp only [List.getElem?_toArray, List.getElem?_cons_succ, List.getElem?_cons_zero]; exact rfl)
      case an255 => kernel_rfl
      case bn255 => kernel_rfl
      case cn255 => kernel_rfl
      case qn255 => exact fun _ _ _ h => h
      case dn255 => rfl
      try simp only [Act.put, List.setIfInBounds_toArray, List.set_cons_zero, List.set_cons_succ]
      refine wpAnyH_take (i := 48) (oi := ?on256) ?hin256 ?an256 ?bn256 ?cn256 ?qn256 (Or.inr ⟨?dn256, rfl⟩) hHeld ?restn256
      case hin256 => (simp only [List.getElem?_toArray, List.getElem?_cons_succ, List.getElem?_cons_zero]; exact rfl)
      case an256 => kernel_rfl
      case bn256 => kernel_rfl
      case cn256 => kernel_rfl
      case qn256 => exact fun _ _ _ h => h
      case dn256 => rfl
      try simp only [Act.put, List.setIfInBounds_toArray, List.set_cons_zero, List.set_cons_succ]
      refine wpAnyH_take (i := 49) (oi := ?on257) (v := ?vn257) ?hin257 ?an257 ?bn257 ?cn257 ?qn257 (Or.inl ⟨?dn257, ?hyn257⟩) hHeld ?restn257
      case hin257 => (simp only [List.getElem?_toArray, List.getElem?_cons_succ, List.getElem?_cons_zero]; exact rfl)
      case an257 => kernel_rfl
      case bn257 => kernel_rfl
      case cn257 => kernel_rfl
      case qn257 => exact fun _ _ _ h => h
      case dn257 => rfl
      case hyn257 => (intro z hSw; (try dsimp only at hSw); go_simp; (try with_reducible rfl))
      try simp only [Act.put, List.setIfInBounds_toArray, List.set_cons_zero, List.set_cons_succ]
      refine wpAnyH_take (i := 50) (oi := ?on258) (v := ?vn258) ?hin258 ?an258 ?bn258 ?cn258 ?qn258 (Or.inl ⟨?dn258, ?hyn258⟩) hHeld ?restn258
      case hin258 => (simp only [List.getElem?_toArray, List.getElem?_cons_succ, List.getElem?_cons_zero]; exact rfl)
      case an258 => kernel_rfl
      case bn258 => kernel_rfl
      case cn258 => kernel_rfl
      case qn258 => exact fun _ _ _ h => h
      case dn258 => rfl
      case hyn258 => (intro z hSw; (try dsimp only at hSw); go_simp; (try with_reducible rfl))
      try simp only [Act.put, List.setIfInBounds_toArray, List.set_cons_zero, List.set_cons_succ]
      refine wpAnyH_done (by kernel_rfl) ?_ _
      go_wp2_with fail
      go_ret
      exact ⟨by rw [hR]; rfl, g1.trans h2⟩
    | true =>
    have hin1 : 0 ≤ fi ∧ fi ≤ (k : Int) - 1 := by simpa using hin
    have KE1 := fun W (hW : Grew w1 W) => KE0.out fi W hW
    rw [hin] at KE1
    replace KE1 := Lib.hid KE1
    cases hse : (se == 0) with
    | false =>
      simp only [hse, Bool.false_and, Bool.and_false] at hR
      go_wp2_with fail
      refine wp_region_held_drew (S := fun w' => Grew w1 w') (by kernel_rfl) r1d (fun hHeld => ?_)
      refine wpAnyH_take (i := 0) (oi := ?on259) (v := ?vn259) ?hin259 ?an259 ?bn259 ?cn259 ?qn259 (Or.inl ⟨?dn259, ?hyn259⟩) hHeld ?restn259
      case hin259 => (simp only [List.getElem?_toArray, List.getElem?_cons_zero]; exact rfl)
      case an259 => kernel_rfl
      case bn259 => kernel_rfl
      case cn259 => kernel_rfl
      case qn259 => exact fun _ _ _ h => h
      case dn259 => rfl
      case hyn259 => (intro z hSw; (try dsimp only at hSw); go_simp; (try with_reducible rfl))
      try simp only [Act.put, List.setIfInBounds_toArray, List.set_cons_zero, List.set_cons_succ]
      refine wpAnyH_take (i := 1) (oi := ?on260) (v := ?vn260) ?hin260 ?an260 ?bn260 ?cn260 ?qn260 (Or.inl ⟨?dn260, ?hyn260⟩) hHeld ?restn260
      case hin260 => (simp only [List.getElem?_toArray, List.getElem?_cons_succ, List.getElem?_cons_zero]; exact rfl)
      case an260 => kernel_rfl
      case bn260 => kernel_rfl
      case cn260 => kernel_rfl
      case qn260 => exact fun _ _ _ h => h
      case dn260 => rfl
      case hyn260 => (intro z hSw; (try dsimp only at hSw); go_simp; (try with_reducible rfl))
      try simp only [Act.put, List.setIfInBounds_toArray, List.set_cons_zero, List.set_cons_succ]
      refine wpAnyH_take (i := 2) (oi := ?on261) (v := ?vn261) ?hin261 ?an261 ?bn261 ?cn261 ?qn261 (Or.inl ⟨?dn261, ?hyn261⟩) hHeld ?restn261
      case hin261 => (simp only [List.getElem?_toArray, List.getElem?_cons_succ, List.getElem?_cons_zero]; exact rfl)
      case an261 => kernel_rfl
      case bn261 => kernel_rfl
      case cn261 => kernel_rfl
      case qn261 => exact fun _ _ _ h => h
      case dn261 => rfl
      case hyn261 => (intro z hSw; (try dsimp only at hSw); go_simp; (try with_reducible rfl))
      try simp only [Act.put, List.setIfInBounds_toArray, List.set_cons_zero, List.set_cons_succ]
      refine wpAnyH_take (i := 3) (oi := ?on262) (v := ?vn262) ?hin262 ?an262 ?bn262 ?cn262 ?qn262 (Or.inl ⟨?dn262, ?hyn262⟩) hHeld ?restn262
      case hin262 => (simp only [List.getElem?_toArray, List.getElem?_cons_succ, List.getElem?_cons_zero]; exact rfl)
      case an262 => kernel_rfl
      case bn262 => kernel_rfl
      case cn262 => kernel_rfl
      case qn262 => exact fun _ _ _ h => h
      case dn262 => rfl
      case hyn262 => (intro z hSw; (try dsimp only at hSw); go_simp; (try with_reducible rfl))
      try simp only [Act.put, List.setIfInBounds_toArray, List.set_cons_zero, List.set_cons_succ]
      refine wpAnyH_take (i := 4) (oi := ?on263) (v := ?vn263) ?hin263 ?an263 ?bn263 ?cn263 ?qn263 (Or.inl ⟨?dn263, ?hyn263⟩) hHeld ?restn263
      case hin263 => (simp only [List.getElem?_toArray, List.getElem?_cons_succ, List.getElem?_cons_zero]; exact rfl)
      case an263 => kernel_rfl
      case bn263 => kernel_rfl
      case cn263 => kernel_rfl
      case qn263 => exact fun _ _ _ h => h
      case dn263 => rfl
      case hyn263 => (intro z hSw; (try dsimp only at hSw); go_simp; (try with_reducible rfl))
      try simp only [Act.put, List.setIfInBounds_toArray, List.set_cons_zero, List.set_cons_succ]
      refine wpAnyH_take (i := 5) (oi := ?on264) (v := ?vn264) ?hin264 ?an264 ?bn264 ?cn264 ?qn264 (Or.inl ⟨?dn264, ?hyn264⟩) hHeld ?restn264
      case hin264 => (simp only [List.getElem?_toArray, List.getElem?_cons_succ, List.getElem?_cons_zero]; exact rfl)
      case an264 => kernel_rfl
      case bn264 => kernel_rfl
      case cn264 => kernel_rfl
      case qn264 => exact fun _ _ _ h => h
      case dn264 => rfl
      case hyn264 => (intro z hSw; (try dsimp only at hSw); go_simp; (try with_reducible rfl))
      try simp only [Act.put, List.setIfInBounds_toArray, List.set_cons_zero, List.set_cons_succ]
      refine wpAnyH_take (i := 6) (oi := ?on265) (v := ?vn265) ?hin265 ?an265 ?bn265 ?cn265 ?qn265 (Or.inl ⟨?dn265, ?hyn265⟩) hHeld ?restn265
      case hin265 => (simp only [List.getElem?_toArray, List.getElem?_cons_succ, List.getElem?_cons_zero]; exact rfl)
      case an265 => kernel_rfl
      case bn265 => kernel_rfl
      case cn265 => kernel_rfl
      case qn265 => exact fun _ _ _ h => h
      case dn265 => rfl
      case hyn265 => (intro z hSw; (try dsimp only at hSw); go_simp; (try with_reducible rfl))
      try simp only [Act.put, List.setIfInBounds_toArray, List.set_cons_zero, List.set_cons_succ]
      refine wpAnyH_take (i := 7) (oi := ?on266) (v := ?vn266) ?hin266 ?an266 ?bn266 ?cn266 ?qn266 (Or.inl ⟨?dn266, ?hyn266⟩) hHeld ?restn266
      case hin266 => (simp only [List.getElem?_toArray, List.getElem?_cons_succ, List.getElem?_cons_zero]; exact rfl)
      case an266 => kernel_rfl
      case bn266 => kernel_rfl
      case cn266 => kernel_rfl
      case qn266 => exact fun _ _ _ h => h
      case dn266 => rfl
      case hyn266 => (intro z hSw; (try dsimp only at hSw); go_simp; (try with_reducible rfl))
      try simp only [Act.put, List.setIfInBounds_toArray, List.set_cons_zero, List.set_cons_succ]
      refine wpAnyH_take (i := 8) (oi := ?on267) (v := ?vn267) ?hin267 ?an267 ?bn267 ?cn267 ?qn267 (Or.inl ⟨?dn267, ?hyn267⟩) hHeld ?restn267
      case hin267 => (simp only [List.getElem?_toArray, List.getElem?_cons_succ, List.getElem?_cons_zero]; exact rfl)
      case an267 => kernel_rfl
      case bn267 => kernel_rfl
      case cn267 => kernel_rfl
      case qn267 => exact fun _ _ _ h => h
      case dn267 => rfl
      case hyn267 => (intro z hSw; (try dsimp only at hSw); go_simp; (try with_reducible rfl))
      try simp only [Act.put, List.setIfInBounds_toArray, List.set_cons_zero, List.set_cons_succ]
      refine wpAnyH_take (i := 9) (oi := ?on268) (v := ?vn268) ?hin268 ?an268 ?bn268 ?cn268 ?qn268 (Or.inl ⟨?dn268, ?hyn268⟩) hHeld ?restn268
      case hin268 => (simp only [List.getElem?_toArray, List.getElem?_cons_succ, List.getElem?_cons_zero]; exact rfl)
      case an268 => kernel_rfl
      case bn268 => kernel_rfl
      case cn268 => kernel_rfl
      case qn268 => exact fun _ _ _ h => h
      case dn268 => rfl
      case hyn268 => (intro z hSw; (try dsimp only at hSw); go_simp; (try with_reducible rfl))
      try simp only [Act.put, List.setIfInBounds_toArray, List.set_cons_zero, List.set_cons_succ]
      refine wpAnyH_take (i := 10) (oi := ?on269) (v := ?vn269) ?hin269 ?an269 ?bn269 ?cn269 ?qn269 (Or.inl ⟨?dn269, ?hyn269⟩) hHeld ?restn269
      case hin269 => (simp only [List.getElem?_toArray, List.getElem?_cons_succ, List.getElem?_cons_zero]; exact rfl)
      case an269 => kernel_rfl
      case bn269 => kernel_rfl
      case cn269 => kernel_rfl
      case qn269 => exact fun _ _ _ h => h
      case dn269 => rfl
      case hyn269 => (intro z hSw; (try dsimp only at hSw); go_simp; (try with_reducible rfl))
      try simp only [Act.put, List.setIfInBounds_toArray, List.set_cons_zero, List.set_cons_succ]
      refine wpAnyH_take (i := 11) (oi := ?on270) (v := ?vn270) ?hin270 ?an270 ?bn270 ?cn270 ?qn270 (Or.inl ⟨?dn270, ?hyn270⟩) hHeld ?restn270
      case hin270 => (simp only [List.getElem?_toArray, List.getElem?_cons_succ, List.getElem?_cons_zero]; exact rfl)
      case an270 => kernel_rfl
      case bn270 => kernel_rfl
      case cn270 => kernel_rfl
      case qn270 => exact fun _ _ _ h => h
      case dn270 => rfl
      case hyn270 => (intro z hSw; (try dsimp only at hSw); go_simp; (try with_reducible rfl))
      try simp only [Act.put, List.setIfInBounds_toArray, List.set_cons_zero, List.set_cons_succ]
      refine wpAnyH_take (i := 12) (oi := ?on271) (v := ?vn271) ?hin271 ?an271 ?bn271 ?cn271 ?qn271 (Or.inl ⟨?dn271, ?hyn271⟩) hHeld ?restn271
      case hin271 => (simp only [List.getElem?_toArray, List.getElem?_cons_succ, List.getElem?_cons_zero]; exact rfl)
      case an271 => kernel_rfl
      case bn271 => kernel_rfl
      case cn271 => kernel_rfl
      case qn271 => exact fun _ _ _ h => h
      case dn271 => rfl
      case hyn271 => (intro z hSw; (try dsimp only at hSw); go_simp; (try with_reducible rfl))
      try simp only [Act.put, List.setIfInBounds_toArray, List.set_cons_zero, List.set_cons_succ]
      refine wpAnyH_take (i := 13) (oi := ?on272) (v := ?vn272) ?hin272 ?an272 ?bn272 ?cn272 ?qn272 (Or.inl ⟨?dn272, ?hyn272⟩) hHeld ?restn272
      case hin272 => (simp only [List.getElem?_toArray, List.getElem?_cons_succ, List.getElem?_cons_zero]; exact rfl)
      case an272 => kernel_rfl
      case bn272 => kernel_rfl
      case cn272 => kernel_rfl
      case qn272 => exact fun _ _ _ h => h
      case dn272 => rfl
      case hyn272 => (intro z hSw; (try dsimp only at hSw); go_simp; (try with_reducible rfl))
      try simp only [Act.put, List.setIfInBounds_toArray, List.set_cons_zero, List.set_cons_succ]
      refine wpAnyH_take (i := 14) (oi := ?on273) (v := ?vn273) ?hin273 ?an273 ?bn273 ?cn273 ?qn273 (Or.inl ⟨?dn273, ?hyn273⟩) hHeld ?restn273
      case hin273 => (simp only [List.getElem?_toArray, List.getElem?_cons_succ, List.getElem?_cons_zero]; exact rfl)
      case an273 => kernel_rfl
      case bn273 => kernel_rfl
      case cn273 => kernel_rfl
      case qn273 => exact fun _ _ _ h => h
      case dn273 => rfl
      case hyn273 => (intro z hSw; (try dsimp only at hSw); go_simp; (try with_reducible rfl))
      try simp only [Act.put, List.setIfInBounds_toArray, List.set_cons_zero, List.set_cons_succ]
      refine wpAnyH_take (i := 15) (oi := ?on274) (v := ?vn274) ?hin274 ?an274 ?bn274 ?cn274 ?qn274 (Or.inl ⟨?dn274, ?hyn274⟩) hHeld ?restn274
      case hin274 => (simp only [List.getElem?_toArray, List.getElem?_cons_succ, List.getElem?_cons_zero]; exact rfl)
      case an274 => kernel_rfl
      case bn274 => kernel_rfl
      case cn274 => kernel_rfl
      case qn274 => exact fun _ _ _ h => h
      case dn274 => rfl
      case hyn274 => (intro z hSw; (try dsimp only at hSw); go_simp; (try with_reducible rfl))
      try simp only [Act.put, List.setIfInBounds_toArray, List.set_cons_zero, List.set_cons_succ]
      refine wpAnyH_ready (rs := [16]) (by kernel_rfl) (by simp) ?_
      refine AllReadyH.cons (o := ?on275) ?hin275 ?restn275 AllReadyH.nil
      case hin275 => (simp only [List.getElem?_toArray, List.getElem?_cons_succ, List.getElem?_cons_zero]; exact rfl)
      intro K hK
      go_simp
      go_at_call 56
      refine (KE1.out _ (by repeat (first | with_reducible assumption | with_reducible refine Grew.alloc ?_ _ | with_reducible refine Grew.drew ?_ | with_reducible refine Grew.drewN ?_ _))).mono ?_
      rintro e w2 ⟨rfl, hgw2⟩
      have h2 : Grew w1 w2 := Grew.trans (by repeat (first | with_reducible assumption | with_reducible refine Grew.alloc ?_ _ | with_reducible refine Grew.drew ?_ | with_reducible refine Grew.drewN ?_ _)) hgw2
      refine hK.out _ _ ?_ (fun hHeld => ?_)
      · (try dsimp only); first | with_reducible assumption | exact Grew.alloc ‹_› _
      clear hK K
      try simp only [Act.put, List.setIfInBounds_toArray, List.set_cons_zero, List.set_cons_succ]
      refine wpAnyH_take (i := 17) (oi := ?on276) (v := ?vn276) ?hin276 ?an276 ?bn276 ?cn276 ?qn276 (Or.inl ⟨?dn276, ?hyn276⟩) hHeld ?restn276
      case hin276 => (simp only [List.getElem?_toArray, List.getElem?_cons_succ, List.getElem?_cons_zero]; exact rfl)
      case an276 => kernel_rfl
      case bn276 => kernel_rfl
      case cn276 => kernel_rfl
      case qn276 => exact fun _ _ _ h => h
      case dn276 => rfl
      case hyn276 => (intro z hSw; (try dsimp only at hSw); go_simp; (try with_reducible rfl))
      try simp only [Act.put, List.setIfInBounds_toArray, List.set_cons_zero, List.set_cons_succ]
      refine wpAnyH_take (i := 18) (oi := ?on277) (v := ?vn277) ?hin277 ?an277 ?bn277 ?cn277 ?qn277 (Or.inl ⟨?dn277, ?hyn277⟩) hHeld ?restn277
      case hin277 => (simp only [List.getElem?_toArray, List.getElem?_cons_succ, List.getElem?_cons_zero]; exact rfl)
      case an277 => kernel_rfl
      case bn277 => kernel_rfl
      case cn277 => kernel_rfl
      case qn277 => exact fun _ _ _ h => h
      case dn277 => rfl
      case hyn277 => (intro z hSw; (try dsimp only at hSw); go_simp; (try with_reducible rfl))
      try simp only [Act.put, List.setIfInBounds_toArray, List.set_cons_zero, List.set_cons_succ]
      refine wpAnyH_take (i := 19) (oi := ?on278) (v := ?vn278) ?hin278 ?an278 ?bn278 ?cn278 ?qn278 (Or.inl ⟨?dn278, ?hyn278⟩) hHeld ?restn278
      case hin278 => (simp only [List.getElem?_toArray, List.getElem?_cons_succ, List.getElem?_cons_zero]; exact rfl)
      case an278 => kernel_rfl
      case bn278 => kernel_rfl
      case cn278 => kernel_rfl
      case qn278 => exact fun _ _ _ h => h
      case dn278 => rfl
      case hyn278 => (intro z hSw; (try dsimp only at hSw); go_simp; (try with_reducible rfl))
      try simp only [Act.put, List.setIfInBounds_toArray, List.set_cons_zero, List.set_cons_succ]
      refine wpAnyH_take (i := 20) (oi := ?on279) (v := ?vn279) ?hin279 ?an279 ?bn279 ?cn279 ?qn279 (Or.inl ⟨?dn279, ?hyn279⟩) hHeld ?restn279
      case hin279 => (simp only [List.getElem?_toArray, List.getElem?_cons_succ, List.getElem?_cons_zero]; exact rfl)
      case an279 => kernel_rfl
      case bn279 => kernel_rfl
      case cn279 => kernel_rfl
      case qn279 => exact fun _ _ _ h => h
      case dn279 => rfl
      case hyn279 => (intro z hSw; (try dsimp only at hSw); go_simp; (try with_reducible rfl))
      try simp only [Act.put, List.setIfInBounds_toArray, List.set_cons_zero, List.set_cons_succ]
      refine wpAnyH_take (i := 21) (oi := ?on280) (v := ?vn280) ?hin280 ?an280 ?bn280 ?cn280 ?qn280 (Or.inl ⟨?dn280, ?hyn280⟩) hHeld ?restn280
      case hin280 => (simp only [List.getElem?_toArray, List.getElem?_cons_succ, List.getElem?_cons_zero]; exact rfl)
      case an280 => kernel_rfl
      case bn280 => kernel_rfl
      case cn280 => kernel_rfl
      case qn280 => exact fun _ _ _ h => h
      case dn280 => rfl
      case hyn280 => (intro z hSw; (try dsimp only at hSw); go_simp; (try with_reducible rfl))
      try simp only [Act.put, List.setIfInBounds_toArray, List.set_cons_zero, List.set_cons_succ]
      refine wpAnyH_take (i := 22) (oi := ?on281) (v := ?vn281) ?hin281 ?an281 ?bn281 ?cn281 ?qn281 (Or.inl ⟨?dn281, ?hyn281⟩) hHeld ?restn281
      case hin281 => (simp only [List.getElem?_toArray, List.getElem?_cons_succ, List.getElem?_cons_zero]; exact rfl)
      case an281 => kernel_rfl
      case bn281 => kernel_rfl
      case cn281 => kernel_rfl
      case qn281 => exact fun _ _ _ h => h
      case dn281 => rfl
      case hyn281 => (intro z hSw; (try dsimp only at hSw); go_simp; (try with_reducible rfl))
      try simp only [Act.put, List.setIfInBounds_toArray, List.set_cons_zero, List.set_cons_succ]
      refine wpAnyH_take (i := 23) (oi := ?on282) (v := ?vn282) ?hin282 ?an282 ?bn282 ?cn282 ?qn282 (Or.inl ⟨?dn282, ?hyn282⟩) hHeld ?restn282
      case hin282 => (simp only [List.getElem?_toArray, List.getElem?_cons_succ, List.getElem?_cons_zero]; exact rfl)
      case an282 => kernel_rfl
      case bn282 => kernel_rfl
      case cn282 => kernel_rfl
      case qn282 => exact fun _ _ _ h => h
      case dn282 => rfl
      case hyn282 => (intro z hSw; (try dsimp only at hSw); go_simp; (try with_reducible rfl))
      try simp only [Act.put, List.setIfInBounds_toArray, List.set_cons_zero, List.set_cons_succ]
      refine wpAnyH_take (i := 24) (oi := ?on283) ?hin283 ?an283 ?bn283 ?cn283 ?qn283 (Or.inr ⟨?dn283, rfl⟩) hHeld ?restn283
      case hin283 => (simp only [List.getElem?_toArray, List.getElem?_cons_succ, List.getElem?_cons_zero]; exact rfl)
      case an283 => kernel_rfl
      case bn283 => kernel_rfl
      case cn283 => kernel_rfl
      case qn283 => exact fun _ _ _ h => h
      case dn283 => rfl
      try simp only [Act.put, List.setIfInBounds_toArray, List.set_cons_zero, List.set_cons_succ]
      refine wpAnyH_take (i := 25) (oi := ?on284) ?hin284 ?an284 ?bn284 ?cn284 ?qn284 (Or.inr ⟨?dn284, rfl⟩) hHeld ?restn284
      case hin284 => (simp only [List.getElem?_toArray, List.getElem?_cons_succ, List.getElem?_cons_zero]; exact rfl)
      case an284 => kernel_rfl
      case bn284 => kernel_rfl
      case cn284 => kernel_rfl
      case qn284 => exact fun _ _ _ h => h
      case dn284 => rfl
      try simp only [Act.put, List.setIfInBounds_toArray, List.set_cons_zero, List.set_cons_succ]
      refine wpAnyH_take (i := 26) (oi := ?on285) ?hin285 ?an285 ?bn285 ?cn285 ?qn285 (Or.inr ⟨?dn285, rfl⟩) hHeld ?restn285
      case hin285 => (simp only [List.getElem?_toArray, List.getElem?_cons_succ, List.getElem?_cons_zero]; exact rfl)
      case an285 => kernel_rfl
      case bn285 => kernel_rfl
      case cn285 => kernel_rfl
      case qn285 => exact fun _ _ _ h => h
      case dn285 => rfl
      try simp only [Act.put, List.setIfInBounds_toArray, List.set_cons_zero, List.set_cons_succ]
      refine wpAnyH_take (i := 27) (oi := ?on286) ?hin286 ?an286 ?bn286 ?cn286 ?qn286 (Or.inr ⟨?dn286, rfl⟩) hHeld ?restn286
      case hin286 => (simp only [List.getElem?_toArray, List.getElem?_cons_succ, List.getElem?_cons_zero]; exact rfl)
      case an286 => kernel_rfl
      case bn286 => kernel_rfl
      case cn286 => kernel_rfl
      case qn286 => exact fun _ _ _ h => h
      case dn286 => rfl
      try simp only [Act.put, List.setIfInBounds_toArray, List.set_cons_zero, List.set_cons_succ]
      refine wpAnyH_take (i := 28) (oi := ?on287) ?hin287 ?an287 ?bn287 ?cn287 ?qn287 (Or.inr ⟨?dn287, rfl⟩) hHeld ?restn287
      case hin287 => (simp only [List.getElem?_toArray, List.getElem?_cons_succ, List.getElem?_cons_zero]; exact rfl)
      case an287 => kernel_rfl
      case bn287 => kernel_rfl
      case cn287 => kernel_rfl
      case qn287 => exact fun _ _ _ h => h
      case dn287 => rfl
      try simp only [Act.put, List.setIfInBounds_toArray, List.set_cons_zero, List.set_cons_succ]
      refine wpAnyH_take (i := 29) (oi := ?on288) ?hin288 ?an288 ?bn288 ?cn288 ?qn288 (Or.inr ⟨?dn288, rfl⟩) hHeld ?restn288
      case hin288 => (simp only [List.getElem?_toArray, List.getElem?_cons_succ, List.getElem?_cons_zero]; exact rfl)
      case an288 => kernel_rfl
      case bn288 => kernel_rfl
      case cn288 => kernel_rfl
      case qn288 => exact fun _ _ _ h => h
      case dn288 => rfl
      try simp only [Act.put, List.setIfInBounds_toArray, List.set_cons_zero, List.set_cons_succ]
      refine wpAnyH_take (i := 30) (oi := ?on289) ?hin289 ?an289 ?bn289 ?cn289 ?qn289 (Or.inr ⟨?dn289, rfl⟩) hHeld ?restn289
      case hin289 => (simp only [List.getElem?_toArray, List.getElem?_cons_succ, List.getElem?_cons_zero]; exact rfl)
      case an289 => kernel_rfl
      case bn289 => kernel_rfl
      case cn289 => kernel_rfl
      case qn289 => exact fun _ _ _ h => h
      case dn289 => rfl
      try simp only [Act.put, List.setIfInBounds_toArray, List.set_cons_zero, List.set_cons_succ]
      refine wpAnyH_take (i := 31) (oi := ?on290) ?hin290 ?an290 ?bn290 ?cn290 ?qn290 (Or.inr ⟨?dn290, rfl⟩) hHeld ?restn290
      case hin290 => (simp only [List.getElem?_toArray, List.getElem?_cons_succ, List.getElem?_cons_zero]; exact rfl)
      case an290 => kernel_rfl
      case bn290 => kernel_rfl
      case cn290 => kernel_rfl
      case qn290 => exact fun _ _ _ h => h
      case dn290 => rfl
      try simp only [Act.put, List.setIfInBounds_toArray, List.set_cons_zero, List.set_cons_succ]
      refine wpAnyH_take (i := 32) (oi := ?on291) ?hin291 ?an291 ?bn291 ?cn291 ?qn291 (Or.inr ⟨?dn291, rfl⟩) hHeld ?restn291
      case hin291 => (simp only [List.getElem?_toArray, List.getElem?_cons_succ, List.getElem?_cons_zero]; exact rfl)
      case an291 => kernel_rfl
      case bn291 => kernel_rfl
      case cn291 => kernel_rfl
      case qn291 => exact fun _ _ _ h => h
      case dn291 => rfl
      try simp only [Act.put, List.setIfInBounds_toArray, List.set_cons_zero, List.set_cons_succ]
      refine wpAnyH_take (i := 33) (oi := ?on292) ?hin292 ?an292 ?bn292 ?cn292 ?qn292 (Or.inr ⟨?dn292, rfl⟩) hHeld ?restn292
      case hin292 => (simp only [List.getElem?_toArray, List.getElem?_cons_succ, List.getElem?_cons_zero]; exact rfl)
      case an292 => kernel_rfl
      case bn292 => kernel_rfl
      case cn292 => kernel_rfl
      case qn292 => exact fun _ _ _ h => h
      case dn292 => rfl
      try simp only [Act.put, List.setIfInBounds_toArray, List.set_cons_zero, List.set_cons_succ]
      refine wpAnyH_take (i := 34) (oi := ?on293) (v := ?vn293) ?hin293 ?an293 ?bn293 ?cn293 ?qn293 (Or.inl ⟨?dn293, ?hyn293⟩) hHeld ?restn293
      case hin293 => (simp only [List.getElem?_toArray, List.getElem?_cons_succ, List.getElem?_cons_zero]; exact rfl)
      case an293 => kernel_rfl
      case bn293 => kernel_rfl
      case cn293 => kernel_rfl
      case qn293 => exact fun _ _ _ h => h
      case dn293 => rfl
      case hyn293 => (intro z hSw; (try dsimp only at hSw); go_simp; (try with_reducible rfl))
      try simp only [Act.put, List.setIfInBounds_toArray, List.set_cons_zero, List.set_cons_succ]
      refine wpAnyH_take (i := 35) (oi := ?on294) (v := ?vn294) ?hin294 ?an294 ?bn294 ?cn294 ?qn294 (Or.inl ⟨?dn294, ?hyn294⟩) hHeld ?restn294
      case hin294 => (simp only [List.getElem?_toArray, List.getElem?_cons_succ, List.getElem?_cons_zero]; exact rfl)
      case an294 => kernel_rfl
      case bn294 => kernel_rfl
      case cn294 => kernel_rfl
      case qn294 => exact fun _ _ _ h => h
      case dn294 => rfl
      case hyn294 => (intro z hSw; (try dsimp only at hSw); go_simp; (try with_reducible rfl))
      try simp only [Act.put, List.setIfInBounds_toArray, List.set_cons_zero, List.set_cons_succ]
      refine wpAnyH_take (i := 36) (oi := ?on295) ?hin295 ?an295 ?bn295 ?cn295 ?qn295 (Or.inr ⟨?dn295, rfl⟩) hHeld ?restn295
      case hin295 => (simp only [List.getElem?_toArray, List.getElem?_cons_succ, List.getElem?_cons_zero]; exact rfl)
      case an295 => kernel_rfl
      case bn295 => kernel_rfl
      case cn295 => kernel_rfl
      case qn295 => exact fun _ _ _ h => h
      case dn295 => rfl
      try simp only [Act.put, List.setIfInBounds_toArray, List.set_cons_zero, List.set_cons_succ]
      refine wpAnyH_take (i := 37) (oi := ?on296) ?hin296 ?an296 ?bn296 ?cn296 ?qn296 (Or.inr ⟨?dn296, rfl⟩) hHeld ?restn296
      case hin296 => (simp only [List.getElem?_toArray, List.getElem?_cons_succ, List.getElem?_cons_zero]; exact rfl)
      case an296 => kernel_rfl
      case bn296 => kernel_rfl
      case cn296 => kernel_rfl
      case qn296 => exact fun _ _ _ h => h
      case dn296 => rfl
      try simp only [Act.put, List.setIfInBounds_toArray, List.set_cons_zero, List.set_cons_succ]
      refine wpAnyH_take (i := 38) (oi := ?on297) ?hin297 ?an297 ?bn297 ?cn297 ?qn297 (Or.inr ⟨?dn297, rfl⟩) hHeld ?restn297
      case hin297 => (simp only [List.getElem?_toArray, List.getElem?_cons_succ, List.getElem?_cons_zero]; exact rfl)
      case an297 => kernel_rfl
      case bn297 => kernel_rfl
      case cn297 => kernel_rfl
      case qn297 => exact fun _ _ _ h => h
      case dn297 => rfl
      try simp only [Act.put, List.setIfInBounds_toArray, List.set_cons_zero, List.set_cons_succ]
      refine wpAnyH_take (i := 39) (oi := ?on298) ?hin298 ?an298 ?bn298 ?cn298 ?qn298 (Or.inr ⟨?dn298, rfl⟩) hHeld ?restn298
      case hin298 => (simp only [List.getElem?_toArray, List.getElem?_cons_succ, List.getElem?_cons_zero]; exact rfl)
      case an298 => kernel_rfl
      case bn298 => kernel_rfl
      case cn298 => kernel_rfl
      case qn298 => exact fun _ _ _ h => h
      case dn298 => rfl
      try simp only [Act.put, List.setIfInBounds_toArray, List.set_cons_zero, List.set_cons_succ]
      refine wpAnyH_take (i := 40) (oi := ?on299) ?hin299 ?an299 ?bn299 ?cn299 ?qn299 (Or.inr ⟨?dn299, rfl⟩) hHeld ?restn299
      case hin299 => (simp only [List.getElem?_toArray, List.getElem?_cons_succ, List.getElem?_cons_zero]; exact rfl)
      case an299 => kernel_rfl
      case bn299 => kernel_rfl
      case cn299 => kernel_rfl
      case qn299 => exact fun _ _ _ h => h
      case dn299 => rfl
      try simp only [Act.put, List.setIfInBounds_toArray, List.set_cons_zero, List.set_cons_succ]
      refine wpAnyH_take (i := 41) (oi := ?on300) ?hin300 ?an300 ?bn300 ?cn300 ?qn300 (Or.inr ⟨?dn300, rfl⟩) hHeld ?restn300
      case hin300 => (simp only [List.getElem?_toArray, List.getElem?_cons_succ, List.getElem?_cons_zero]; exact rfl)
      case an300 => kernel_rfl
      case bn300 => kernel_rfl
      case cn300 => kernel_rfl
      case qn300 => exact fun _ _ _ h => h
      case dn300 => rfl
      try simp only [Act.put, List.setIfInBounds_toArray, List.set_cons_zero, List.set_cons_succ]
      refine wpAnyH_take (i := 42) (oi := ?on301) ?hin301 ?an301 ?bn301 ?cn301 ?qn301 (Or.inr ⟨?dn301, rfl⟩) hHeld ?restn301
      case hin301 => (simp only [List.getElem?_toArray, List.getElem?_cons_succ, List.getElem?_cons_zero]; exact rfl)
      case an301 => kernel_rfl
      case bn301 => kernel_rfl
      case cn301 => kernel_rfl
      case qn301 => exact fun _ _ _ h => h
      case dn301 => rfl
      try simp only [Act.put, List.setIfInBounds_toArray, List.set_cons_zero, List.set_cons_succ]
      refine wpAnyH_take (i := 43) (oi := ?on302) ?hin302 ?an302 ?bn302 ?cn302 ?qn302 (Or.inr ⟨?dn302, rfl⟩) hHeld ?restn302
      case hin302 => (simp only [List.getElem?_toArray, List.getElem?_cons_succ, List.getElem?_cons_zero]; exact rfl)
      case an302 => kernel_rfl
      case bn302 => kernel_rfl
      case cn302 => kernel_rfl
      case qn302 => exact fun _ _ _ h => h
      case dn302 => rfl
      try simp only [Act.put, List.setIfInBounds_toArray, List.set_cons_zero, List.set_cons_succ]
      refine wpAnyH_take (i := 44) (oi := ?on303) ?hin303 ?an303 ?bn303 ?cn303 ?qn303 (Or.inr ⟨?dn303, rfl⟩) hHeld ?restn303
      case hin303 => (simp only [List.getElem?_toArray, List.getElem?_cons_succ, List.getElem?_cons_zero]; exact rfl)
      case an303 => kernel_rfl
      case bn303 => kernel_rfl
      case cn303 => kernel_rfl
      case qn303 => exact fun _ _ _ h => h
      case dn303 => rfl
      try simp only [Act.put, List.setIfInBounds_toArray, List.set_cons_zero, List.set_cons_succ]
      refine wpAnyH_take (i := 45) (oi := ?on304) ?hin304 ?an304 ?bn304 ?cn304 ?qn304 (Or.inr ⟨?dn304, rfl⟩) hHeld ?restn304
      case hin304 => (simp only [List.getElem?_toArray, List.getElem?_cons_succ, List.getElem?_cons_zero]; exact rfl)
      case an304 => kernel_rfl
      case bn304 => kernel_rfl
      case cn304 => kernel_rfl
      case qn304 => exact fun _ _ _ h => h
      case dn304 => rfl
      try simp only [Act.put, List.setIfInBounds_toArray, List.set_cons_zero, List.set_cons_succ]
      refine wpAnyH_take (i := 46) (oi := ?on305) ?hin305 ?an305 ?bn305 ?cn305 ?qn305 (Or.inr ⟨?dn305, rfl⟩) hHeld ?restn305
      case hin305 => (simp only [List.getElem?_toArray, List.getElem?_cons_succ, List.getElem?_cons_zero]; exact rfl)
      case an305 => kernel_rfl
      case bn305 => kernel_rfl
      case cn305 => kernel_rfl
      case qn305 => exact fun _ _ _ h => h
      case dn305 => rfl
      try simp only [Act.put, List.setIfInBounds_toArray, List.set_cons_zero, List.set_cons_succ]
      refine wpAnyH_take (i := 47) (oi := ?on306) ?hin306 ?an306 ?bn306 ?cn306 ?qn306 (Or.inr ⟨?dn306, rfl⟩) hHeld ?restn306
      case hin306 => (simp only [List.getElem?_toArray, List.getElem?_cons_succ, List.getElem?_cons_zero]; exact rfl)
      case an306 => kernel_rfl
      case bn306 => kernel_rfl
      case cn306 => kernel_rfl
      case qn306 => exact fun _ _ _ h => h
      case dn306 => rfl
      try simp only [Act.put, List.setIfInBounds_toArray, List.set_cons_zero, List.set_cons_succ]
      refine wpAnyH_take (i := 48) (oi := ?on307) ?hin307 ?an307 ?bn307 ?cn307 ?qn307 (Or.inr ⟨?dn307, rfl⟩) hHeld ?restn307
      case hin307 => (simp only [List.getElem?_toArray, List.getElem?_cons_succ, List.getElem?_cons_zero]; exact rfl)
      case an307 => kernel_rfl
      case bn307 => kernel_rfl
      case cn307 => kernel_rfl
      case qn307 => exact fun _ _ _ h => h
      case dn307 => rfl
      try simp only [Act.put, List.setIfInBounds_toArray, List.set_cons_zero, List.set_cons_succ]
      refine wpAnyH_take (i := 49) (oi := ?on308) (v := ?vn308) ?hin308 ?an308 ?bn308 ?cn308 ?qn308 (Or.inl ⟨?dn308, ?hyn308⟩) hHeld ?restn308
      case hin308 => (simp only [List.getElem?_toArray, List.getElem?_cons_succ, List.getElem?_cons_zero]; exact rfl)
      case an308 => kernel_rfl
      case bn308 => kernel_rfl
      case cn308 => kernel_rfl
      case qn308 => exact fun _ _ _ h => h
      case dn308 => rfl
      case hyn308 => (intro z hSw; (try dsimp only at hSw); go_simp; (try with_reducible rfl))
      try simp only [Act.put, List.setIfInBounds_toArray, List.set_cons_zero, List.set_cons_succ]
      refine wpAnyH_take (i := 50) (oi := ?on309) (v := ?vn309) ?hin309 ?an309 ?bn309 ?cn309 ?qn309 (Or.inl ⟨?dn309, ?hyn309⟩) hHeld ?restn309
      case hin309 => (simp only [List.getElem?_toArray, List.getElem?_cons_succ, List.getElem?_cons_zero]; exact rfl)
      case an309 => kernel_rfl
      case bn309 => kernel_rfl
      case cn309 => kernel_rfl
      case qn309 => exact fun _ _ _ h => h
      case dn309 => rfl
      case hyn309 => (intro z hSw; (try dsimp only at hSw); go_simp; (try with_reducible rfl))
      try simp only [Act.put, List.setIfInBounds_toArray, List.set_cons_zero, List.set_cons_succ]
      refine wpAnyH_done (by kernel_rfl) ?_ _
      go_wp2_with fail
      go_ret
      exact ⟨by rw [hR]; rfl, g1.trans h2⟩
    | true =>
    simp only [hs1, hs2, hin, hse, Bool.not_false, Bool.true_and] at hR
    obtain ⟨a, rfl⟩ : ∃ a : Nat, fi = (a : Int) := ⟨fi.toNat, by omega⟩
    rw [Int.toNat_natCast] at hR
    obtain ⟨⟨gU, cU, uU, rfl, hcU, hoU⟩, hemp⟩ := UA.out a (by omega)
    obtain ⟨AI, cI, rfl⟩ := ints_slice hoU.ints
    have hcU2 := fun W (hW : Grew w1 W) => hcU W (g1.trans hW)
    have hak : (a : Int) < (k : Int) := by omega
    have hlen : (((Us.getD a []).length : Int) == 0) = !ne L a := by
      cases hne7 : ne L a with
      | true =>
        have h7 : Us.getD a [] ≠ [] := fun h => by rw [hemp.1 h] at hne7; cases hne7
        have h0 := List.length_pos_iff.2 h7
        rw [beq_eq_false_iff_ne.2 (by omega : ((Us.getD a []).length : Int) ≠ 0)]; rfl
      | false => rw [hemp.2 hne7]; rfl
    clear hcU hoU hemp
    generalize (Us.getD a []).length = lU at *
    cases hne : ne L a with
    | true =>
      simp only [hne, Bool.not_true, Bool.false_and] at hR
      rw [hne] at hlen
      simp only [Bool.not_true] at hlen
      go_wp2_with fail
      refine wp_region_held_drew (S := fun w' => Grew w1 w') (by kernel_rfl) r1d (fun hHeld => ?_)
      refine wpAnyH_take (i := 0) (oi := ?on310) (v := ?vn310) ?hin310 ?an310 ?bn310 ?cn310 ?qn310 (Or.inl ⟨?dn310, ?hyn310⟩) hHeld ?restn310
      case hin310 => (simp only [List.getElem?_toArray, List.getElem?_cons_zero]; exact rfl)
      case an310 => kernel_rfl
      case bn310 => kernel_rfl
      case cn310 => kernel_rfl
      case qn310 => exact fun _ _ _ h => h
      case dn310 => rfl
      case hyn310 => (intro z hSw; (try dsimp only at hSw); go_simp; (try with_reducible rfl))
      try simp only [Act.put, List.setIfInBounds_toArray, List.set_cons_zero, List.set_cons_succ]
      refine wpAnyH_take (i := 1) (oi := ?on311) (v := ?vn311) ?hin311 ?an311 ?bn311 ?cn311 ?qn311 (Or.inl ⟨?dn311, ?hyn311⟩) hHeld ?restn311
      case hin311 => (simp only [List.getElem?_toArray, List.getElem?_cons_succ, List.getElem?_cons_zero]; exact rfl)
      case an311 => kernel_rfl
      case bn311 => kernel_rfl
      case cn311 => kernel_rfl
      case qn311 => exact fun _ _ _ h => h
      case dn311 => rfl
      case hyn311 => (intro z hSw; (try dsimp only at hSw); go_simp; (try with_reducible rfl))
      try simp only [Act.put, List.setIfInBounds_toArray, List.set_cons_zero, List.set_cons_succ]
      refine wpAnyH_take (i := 2) (oi := ?on312) (v := ?vn312) ?hin312 ?an312 ?bn312 ?cn312 ?qn312 (Or.inl ⟨?dn312, ?hyn312⟩) hHeld ?restn312
      case hin312 => (simp only [List.getElem?_toArray, List.getElem?_cons_succ, List.getElem?_cons_zero]; exact rfl)
      case an312 => kernel_rfl
      case bn312 => kernel_rfl
      case cn312 => kernel_rfl
      case qn312 => exact fun _ _ _ h => h
      case dn312 => rfl
      case hyn312 => (intro z hSw; (try dsimp only at hSw); go_simp; (try with_reducible rfl))
      try simp only [Act.put, List.setIfInBounds_toArray, List.set_cons_zero, List.set_cons_succ]
      refine wpAnyH_take (i := 3) (oi := ?on313) (v := ?vn313) ?hin313 ?an313 ?bn313 ?cn313 ?qn313 (Or.inl ⟨?dn313, ?hyn313⟩) hHeld ?restn313
      case hin313 => (simp only [List.getElem?_toArray, List.getElem?_cons_succ, List.getElem?_cons_zero]; exact rfl)
      case an313 => kernel_rfl
      case bn313 => kernel_rfl
      case cn313 => kernel_rfl
      case qn313 => exact fun _ _ _ h => h
      case dn313 => rfl
      case hyn313 => (intro z hSw; (try dsimp only at hSw); go_simp; (try with_reducible rfl))
      try simp only [Act.put, List.setIfInBounds_toArray, List.set_cons_zero, List.set_cons_succ]
      refine wpAnyH_take (i := 4) (oi := ?on314) (v := ?vn314) ?hin314 ?an314 ?bn314 ?cn314 ?qn314 (Or.inl ⟨?dn314, ?hyn314⟩) hHeld ?restn314
      case hin314 => (simp only [List.getElem?_toArray, List.getElem?_cons_succ, List.getElem?_cons_zero]; exact rfl)
      case an314 => kernel_rfl
      case bn314 => kernel_rfl
      case cn314 => kernel_rfl
      case qn314 => exact fun _ _ _ h => h
      case dn314 => rfl
      case hyn314 => (intro z hSw; (try dsimp only at hSw); go_simp; (try with_reducible rfl))
      try simp only [Act.put, List.setIfInBounds_toArray, List.set_cons_zero, List.set_cons_succ]
      refine wpAnyH_take (i := 5) (oi := ?on315) (v := ?vn315) ?hin315 ?an315 ?bn315 ?cn315 ?qn315 (Or.inl ⟨?dn315, ?hyn315⟩) hHeld ?restn315
      case hin315 => (simp only [List.getElem?_toArray, List.getElem?_cons_succ, List.getElem?_cons_zero]; exact rfl)
      case an315 => kernel_rfl
      case bn315 => kernel_rfl
      case cn315 => kernel_rfl
      case qn315 => exact fun _ _ _ h => h
      case dn315 => rfl
      case hyn315 => (intro z hSw; (try dsimp only at hSw); go_simp; (try with_reducible rfl))
      try simp only [Act.put, List.setIfInBounds_toArray, List.set_cons_zero, List.set_cons_succ]
      refine wpAnyH_take (i := 6) (oi := ?on316) (v := ?vn316) ?hin316 ?an316 ?bn316 ?cn316 ?qn316 (Or.inl ⟨?dn316, ?hyn316⟩) hHeld ?restn316
      case hin316 => (simp only [List.getElem?_toArray, List.getElem?_cons_succ, List.getElem?_cons_zero]; exact rfl)
      case an316 => kernel_rfl
      case bn316 => kernel_rfl
      case cn316 => kernel_rfl
      case qn316 => exact fun _ _ _ h => h
      case dn316 => rfl
      case hyn316 => (intro z hSw; (try dsimp only at hSw); go_simp; (try with_reducible rfl))
      try simp only [Act.put, List.setIfInBounds_toArray, List.set_cons_zero, List.set_cons_succ]
      refine wpAnyH_take (i := 7) (oi := ?on317) (v := ?vn317) ?hin317 ?an317 ?bn317 ?cn317 ?qn317 (Or.inl ⟨?dn317, ?hyn317⟩) hHeld ?restn317
      case hin317 => (simp only [List.getElem?_toArray, List.getElem?_cons_succ, List.getElem?_cons_zero]; exact rfl)
      case an317 => kernel_rfl
      case bn317 => kernel_rfl
      case cn317 => kernel_rfl
      case qn317 => exact fun _ _ _ h => h
      case dn317 => rfl
      case hyn317 => (intro z hSw; (try dsimp only at hSw); go_simp; (try with_reducible rfl))
      try simp only [Act.put, List.setIfInBounds_toArray, List.set_cons_zero, List.set_cons_succ]
      refine wpAnyH_take (i := 8) (oi := ?on318) (v := ?vn318) ?hin318 ?an318 ?bn318 ?cn318 ?qn318 (Or.inl ⟨?dn318, ?hyn318⟩) hHeld ?restn318
      case hin318 => (simp only [List.getElem?_toArray, List.getElem?_cons_succ, List.getElem?_cons_zero]; exact rfl)
      case an318 => kernel_rfl
      case bn318 => kernel_rfl
      case cn318 => kernel_rfl
      case qn318 => exact fun _ _ _ h => h
      case dn318 => rfl
      case hyn318 => (intro z hSw; (try dsimp only at hSw); go_simp; (try with_reducible rfl))
      try simp only [Act.put, List.setIfInBounds_toArray, List.set_cons_zero, List.set_cons_succ]
      refine wpAnyH_take (i := 9) (oi := ?on319) (v := ?vn319) ?hin319 ?an319 ?bn319 ?cn319 ?qn319 (Or.inl ⟨?dn319, ?hyn319⟩) hHeld ?restn319
      case hin319 => (simp only [List.getElem?_toArray, List.getElem?_cons_succ, List.getElem?_cons_zero]; exact rfl)
      case an319 => kernel_rfl
      case bn319 => kernel_rfl
      case cn319 => kernel_rfl
      case qn319 => exact fun _ _ _ h => h
      case dn319 => rfl
      case hyn319 => (intro z hSw; (try dsimp only at hSw); go_simp; (try with_reducible rfl))
      try simp only [Act.put, List.setIfInBounds_toArray, List.set_cons_zero, List.set_cons_succ]
      refine wpAnyH_take (i := 10) (oi := ?on320) (v := ?vn320) ?hin320 ?an320 ?bn320 ?cn320 ?qn320 (Or.inl ⟨?dn320, ?hyn320⟩) hHeld ?restn320
      case hin320 => (simp only [List.getElem?_toArray, List.getElem?_cons_succ, List.getElem?_cons_zero]; exact rfl)
      case an320 => kernel_rfl
      case bn320 => kernel_rfl
      case cn320 => kernel_rfl
      case qn320 => exact fun _ _ _ h => h
      case dn320 => rfl
      case hyn320 => (intro z hSw; (try dsimp only at hSw); go_simp; (try with_reducible rfl))
      try simp only [Act.put, List.setIfInBounds_toArray, List.set_cons_zero, List.set_cons_succ]
      refine wpAnyH_take (i := 11) (oi := ?on321) (v := ?vn321) ?hin321 ?an321 ?bn321 ?cn321 ?qn321 (Or.inl ⟨?dn321, ?hyn321⟩) hHeld ?restn321
      case hin321 => (simp only [List.getElem?_toArray, List.getElem?_cons_succ, List.getElem?_cons_zero]; exact rfl)
      case an321 => kernel_rfl
      case bn321 => kernel_rfl
      case cn321 => kernel_rfl
      case qn321 => exact fun _ _ _ h => h
      case dn321 => rfl
      case hyn321 => (intro z hSw; (try dsimp only at hSw); go_simp; (try with_reducible rfl))
      try simp only [Act.put, List.setIfInBounds_toArray, List.set_cons_zero, List.set_cons_succ]
      refine wpAnyH_take (i := 12) (oi := ?on322) (v := ?vn322) ?hin322 ?an322 ?bn322 ?cn322 ?qn322 (Or.inl ⟨?dn322, ?hyn322⟩) hHeld ?restn322
      case hin322 => (simp only [List.getElem?_toArray, List.getElem?_cons_succ, List.getElem?_cons_zero]; exact rfl)
      case an322 => kernel_rfl
      case bn322 => kernel_rfl
      case cn322 => kernel_rfl
      case qn322 => exact fun _ _ _ h => h
      case dn322 => rfl
      case hyn322 => (intro z hSw; (try dsimp only at hSw); go_simp; (try with_reducible rfl))
      try simp only [Act.put, List.setIfInBounds_toArray, List.set_cons_zero, List.set_cons_succ]
      refine wpAnyH_take (i := 13) (oi := ?on323) (v := ?vn323) ?hin323 ?an323 ?bn323 ?cn323 ?qn323 (Or.inl ⟨?dn323, ?hyn323⟩) hHeld ?restn323
      case hin323 => (simp only [List.getElem?_toArray, List.getElem?_cons_succ, List.getElem?_cons_zero]; exact rfl)
      case an323 => kernel_rfl
      case bn323 => kernel_rfl
      case cn323 => kernel_rfl
      case qn323 => exact fun _ _ _ h => h
      case dn323 => rfl
      case hyn323 => (intro z hSw; (try dsimp only at hSw); go_simp; (try with_reducible rfl))
      try simp only [Act.put, List.setIfInBounds_toArray, List.set_cons_zero, List.set_cons_succ]
      refine wpAnyH_take (i := 14) (oi := ?on324) (v := ?vn324) ?hin324 ?an324 ?bn324 ?cn324 ?qn324 (Or.inl ⟨?dn324, ?hyn324⟩) hHeld ?restn324
      case hin324 => (simp only [List.getElem?_toArray, List.getElem?_cons_succ, List.getElem?_cons_zero]; exact rfl)
      case an324 => kernel_rfl
      case bn324 => kernel_rfl
      case cn324 => kernel_rfl
      case qn324 => exact fun _ _ _ h => h
      case dn324 => rfl
      case hyn324 => (intro z hSw; (try dsimp only at hSw); go_simp; (try with_reducible rfl))
      try simp only [Act.put, List.setIfInBounds_toArray, List.set_cons_zero, List.set_cons_succ]
      refine wpAnyH_take (i := 15) (oi := ?on325) (v := ?vn325) ?hin325 ?an325 ?bn325 ?cn325 ?qn325 (Or.inl ⟨?dn325, ?hyn325⟩) hHeld ?restn325
      case hin325 => (simp only [List.getElem?_toArray, List.getElem?_cons_succ, List.getElem?_cons_zero]; exact rfl)
      case an325 => kernel_rfl
      case bn325 => kernel_rfl
      case cn325 => kernel_rfl
      case qn325 => exact fun _ _ _ h => h
      case dn325 => rfl
      case hyn325 => (intro z hSw; (try dsimp only at hSw); go_simp; (try with_reducible rfl))
      try simp only [Act.put, List.setIfInBounds_toArray, List.set_cons_zero, List.set_cons_succ]
      refine wpAnyH_ready (rs := [16]) (by kernel_rfl) (by simp) ?_
      refine AllReadyH.cons (o := ?on326) ?hin326 ?restn326 AllReadyH.nil
      case hin326 => (simp only [List.getElem?_toArray, List.getElem?_cons_succ, List.getElem?_cons_zero]; exact rfl)
      intro K hK
      go_simp
      go_at_call 56
      refine (KE1.out _ (by repeat (first | with_reducible assumption | with_reducible refine Grew.alloc ?_ _ | with_reducible refine Grew.drew ?_ | with_reducible refine Grew.drewN ?_ _))).mono ?_
      rintro e w2 ⟨rfl, hgw2⟩
      have h2 : Grew w1 w2 := Grew.trans (by repeat (first | with_reducible assumption | with_reducible refine Grew.alloc ?_ _ | with_reducible refine Grew.drew ?_ | with_reducible refine Grew.drewN ?_ _)) hgw2
      refine hK.out _ _ ?_ (fun hHeld => ?_)
      · (try dsimp only); first | with_reducible assumption | exact Grew.alloc ‹_› _
      clear hK K
      try simp only [Act.put, List.setIfInBounds_toArray, List.set_cons_zero, List.set_cons_succ]
      refine wpAnyH_take (i := 17) (oi := ?on327) (v := ?vn327) ?hin327 ?an327 ?bn327 ?cn327 ?qn327 (Or.inl ⟨?dn327, ?hyn327⟩) hHeld ?restn327
      case hin327 => (simp only [List.getElem?_toArray, List.getElem?_cons_succ, List.getElem?_cons_zero]; exact rfl)
      case an327 => kernel_rfl
      case bn327 => kernel_rfl
      case cn327 => kernel_rfl
      case qn327 => exact fun _ _ _ h => h
      case dn327 => rfl
      case hyn327 => (intro z hSw; (try dsimp only at hSw); go_simp; (try with_reducible rfl))
      try simp only [Act.put, List.setIfInBounds_toArray, List.set_cons_zero, List.set_cons_succ]
      refine wpAnyH_take (i := 18) (oi := ?on328) (v := ?vn328) ?hin328 ?an328 ?bn328 ?cn328 ?qn328 (Or.inl ⟨?dn328, ?hyn328⟩) hHeld ?restn328
      case hin328 => (simp only [List.getElem?_toArray, List.getElem?_cons_succ, List.getElem?_cons_zero]; exact rfl)
      case an328 => kernel_rfl
      case bn328 => kernel_rfl
      case cn328 => kernel_rfl
      case qn328 => exact fun _ _ _ h => h
      case dn328 => rfl
      case hyn328 => (intro z hSw; (try dsimp only at hSw); go_simp; (try with_reducible rfl))
      try simp only [Act.put, List.setIfInBounds_toArray, List.set_cons_zero, List.set_cons_succ]
      refine wpAnyH_take (i := 19) (oi := ?on329) (v := ?vn329) ?hin329 ?an329 ?bn329 ?cn329 ?qn329 (Or.inl ⟨?dn329, ?hyn329⟩) hHeld ?restn329
      case hin329 => (simp only [List.getElem?_toArray, List.getElem?_cons_succ, List.getElem?_cons_zero]; exact rfl)
      case an329 => kernel_rfl
      case bn329 => kernel_rfl
      case cn329 => kernel_rfl
      case qn329 => exact fun _ _ _ h => h
      case dn329 => rfl
      case hyn329 => (intro z hSw; (try dsimp only at hSw); go_simp; (try with_reducible rfl))
      try simp only [Act.put, List.setIfInBounds_toArray, List.set_cons_zero, List.set_cons_succ]
      refine wpAnyH_take (i := 20) (oi := ?on330) (v := ?vn330) ?hin330 ?an330 ?bn330 ?cn330 ?qn330 (Or.inl ⟨?dn330, ?hyn330⟩) hHeld ?restn330
      case hin330 => (simp only [List.getElem?_toArray, List.getElem?_cons_succ, List.getElem?_cons_zero]; exact rfl)
      case an330 => kernel_rfl
      case bn330 => kernel_rfl
      case cn330 => kernel_rfl
      case qn330 => exact fun _ _ _ h => h
      case dn330 => rfl
      case hyn330 => (intro z hSw; (try dsimp only at hSw); go_simp; (try with_reducible rfl))
      try simp only [Act.put, List.setIfInBounds_toArray, List.set_cons_zero, List.set_cons_succ]
      refine wpAnyH_take (i := 21) (oi := ?on331) (v := ?vn331) ?hin331 ?an331 ?bn331 ?cn331 ?qn331 (Or.inl ⟨?dn331, ?hyn331⟩) hHeld ?restn331
      case hin331 => (simp only [List.getElem?_toArray, List.getElem?_cons_succ, List.getElem?_cons_zero]; exact rfl)
      case an331 => kernel_rfl
      case bn331 => kernel_rfl
      case cn331 => kernel_rfl
      case qn331 => exact fun _ _ _ h => h
      case dn331 => rfl
      case hyn331 => (intro z hSw; (try dsimp only at hSw); go_simp; (try with_reducible rfl))
      try simp only [Act.put, List.setIfInBounds_toArray, List.set_cons_zero, List.set_cons_succ]
      refine wpAnyH_take (i := 22) (oi := ?on332) (v := ?vn332) ?hin332 ?an332 ?bn332 ?cn332 ?qn332 (Or.inl ⟨?dn332, ?hyn332⟩) hHeld ?restn332
      case hin332 => (simp only [List.getElem?_toArray, List.getElem?_cons_succ, List.getElem?_cons_zero]; exact rfl)
      case an332 => kernel_rfl
      case bn332 => kernel_rfl
      case cn332 => kernel_rfl
      case qn332 => exact fun _ _ _ h => h
      case dn332 => rfl
      case hyn332 => (intro z hSw; (try dsimp only at hSw); go_simp; (try with_reducible rfl))
      try simp only [Act.put, List.setIfInBounds_toArray, List.set_cons_zero, List.set_cons_succ]
      refine wpAnyH_take (i := 23) (oi := ?on333) (v := ?vn333) ?hin333 ?an333 ?bn333 ?cn333 ?qn333 (Or.inl ⟨?dn333, ?hyn333⟩) hHeld ?restn333
      case hin333 => (simp only [List.getElem?_toArray, List.getElem?_cons_succ, List.getElem?_cons_zero]; exact rfl)
      case an333 => kernel_rfl
      case bn333 => kernel_rfl
      case cn333 => kernel_rfl
      case qn333 => exact fun _ _ _ h => h
      case dn333 => rfl
      case hyn333 => (intro z hSw; (try dsimp only at hSw); go_simp; (try with_reducible rfl))
      try simp only [Act.put, List.setIfInBounds_toArray, List.set_cons_zero, List.set_cons_succ]
      refine wpAnyH_take (i := 24) (oi := ?on334) (v := ?vn334) ?hin334 ?an334 ?bn334 ?cn334 ?qn334 (Or.inl ⟨?dn334, ?hyn334⟩) hHeld ?restn334
      case hin334 => (simp only [List.getElem?_toArray, List.getElem?_cons_succ, List.getElem?_cons_zero]; exact rfl)
      case an334 => kernel_rfl
      case bn334 => kernel_rfl
      case cn334 => kernel_rfl
      case qn334 => exact fun _ _ _ h => h
      case dn334 => rfl
      case hyn334 => (intro z hSw; (try dsimp only at hSw); go_simp; (try with_reducible rfl))
      try simp only [Act.put, List.setIfInBounds_toArray, List.set_cons_zero, List.set_cons_succ]
      refine wpAnyH_take (i := 25) (oi := ?on335) (v := ?vn335) ?hin335 ?an335 ?bn335 ?cn335 ?qn335 (Or.inl ⟨?dn335, ?hyn335⟩) hHeld ?restn335
      case hin335 => (simp only [List.getElem?_toArray, List.getElem?_cons_succ, List.getElem?_cons_zero]; exact rfl)
      case an335 => kernel_rfl
      case bn335 => kernel_rfl
      case cn335 => kernel_rfl
      case qn335 => exact fun _ _ _ h => h
      case dn335 => rfl
      case hyn335 => (intro z hSw; (try dsimp only at hSw); go_simp; (try with_reducible rfl))
      try simp only [Act.put, List.setIfInBounds_toArray, List.set_cons_zero, List.set_cons_succ]
      refine wpAnyH_take (i := 26) (oi := ?on336) (v := ?vn336) ?hin336 ?an336 ?bn336 ?cn336 ?qn336 (Or.inl ⟨?dn336, ?hyn336⟩) hHeld ?restn336
      case hin336 => (simp only [List.getElem?_toArray, List.getElem?_cons_succ, List.getElem?_cons_zero]; exact rfl)
      case an336 => kernel_rfl
      case bn336 => kernel_rfl
      case cn336 => kernel_rfl
      case qn336 => exact fun _ _ _ h => h
      case dn336 => rfl
      case hyn336 => (intro z hSw; (try dsimp only at hSw); go_simp; (try with_reducible rfl))
      try simp only [Act.put, List.setIfInBounds_toArray, List.set_cons_zero, List.set_cons_succ]
      refine wpAnyH_take (i := 27) (oi := ?on337) (v := ?vn337) ?hin337 ?an337 ?bn337 ?cn337 ?qn337 (Or.inl ⟨?dn337, ?hyn337⟩) hHeld ?restn337
      case hin337 => (simp only [List.getElem?_toArray, List.getElem?_cons_succ, List.getElem?_cons_zero]; exact rfl)
      case an337 => kernel_rfl
      case bn337 => kernel_rfl
      case cn337 => kernel_rfl
      case qn337 => exact fun _ _ _ h => h
      case dn337 => rfl
      case hyn337 => (intro z hSw; (try dsimp only at hSw); go_simp; (try with_reducible rfl))
      try simp only [Act.put, List.setIfInBounds_toArray, List.set_cons_zero, List.set_cons_succ]
      refine wpAnyH_take (i := 28) (oi := ?on338) (v := ?vn338) ?hin338 ?an338 ?bn338 ?cn338 ?qn338 (Or.inl ⟨?dn338, ?hyn338⟩) hHeld ?restn338
      case hin338 => (simp only [List.getElem?_toArray, List.getElem?_cons_succ, List.getElem?_cons_zero]; exact rfl)
      case an338 => kernel_rfl
      case bn338 => kernel_rfl
      case cn338 => kernel_rfl
      case qn338 => exact fun _ _ _ h => h
      case dn338 => rfl
      case hyn338 => (intro z hSw; (try dsimp only at hSw); go_simp; (try with_reducible rfl))
      try simp only [Act.put, List.setIfInBounds_toArray, List.set_cons_zero, List.set_cons_succ]
      refine wpAnyH_take (i := 29) (oi := ?on339) (v := ?vn339) ?hin339 ?an339 ?bn339 ?cn339 ?qn339 (Or.inl ⟨?dn339, ?hyn339⟩) hHeld ?restn339
      case hin339 => (simp only [List.getElem?_toArray, List.getElem?_cons_succ, List.getElem?_cons_zero]; exact rfl)
      case an339 => kernel_rfl
      case bn339 => kernel_rfl
      case cn339 => kernel_rfl
      case qn339 => exact fun _ _ _ h => h
      case dn339 => rfl
      case hyn339 => (intro z hSw; (try dsimp only at hSw); go_simp; (try with_reducible rfl))
      try simp only [Act.put, List.setIfInBounds_toArray, List.set_cons_zero, List.set_cons_succ]
      refine wpAnyH_take (i := 30) (oi := ?on340) (v := ?vn340) ?hin340 ?an340 ?bn340 ?cn340 ?qn340 (Or.inl ⟨?dn340, ?hyn340⟩) hHeld ?restn340
      case hin340 => (simp only [List.getElem?_toArray, List.getElem?_cons_succ, List.getElem?_cons_zero]; exact rfl)
      case an340 => kernel_rfl
      case bn340 => kernel_rfl
      case cn340 => kernel_rfl
      case qn340 => exact fun _ _ _ h => h
      case dn340 => rfl
      case hyn340 => (intro z hSw; (try dsimp only at hSw); go_simp; (try with_reducible rfl))
      try simp only [Act.put, List.setIfInBounds_toArray, List.set_cons_zero, List.set_cons_succ]
      refine wpAnyH_take (i := 31) (oi := ?on341) (v := ?vn341) ?hin341 ?an341 ?bn341 ?cn341 ?qn341 (Or.inl ⟨?dn341, ?hyn341⟩) hHeld ?restn341
      case hin341 => (simp only [List.getElem?_toArray, List.getElem?_cons_succ, List.getElem?_cons_zero]; exact rfl)
      case an341 => kernel_rfl
      case bn341 => kernel_rfl
      case cn341 => kernel_rfl
      case qn341 => exact fun _ _ _ h => h
      case dn341 => rfl
      case hyn341 => (intro z hSw; (try dsimp only at hSw); go_simp; (try with_reducible rfl))
      try simp only [Act.put, List.setIfInBounds_toArray, List.set_cons_zero, List.set_cons_succ]
      refine wpAnyH_take (i := 32) (oi := ?on342) (v := ?vn342) ?hin342 ?an342 ?bn342 ?cn342 ?qn342 (Or.inl ⟨?dn342, ?hyn342⟩) hHeld ?restn342
      case hin342 => (simp only [List.getElem?_toArray, List.getElem?_cons_succ, List.getElem?_cons_zero]; exact rfl)
      case an342 => kernel_rfl
      case bn342 => kernel_rfl
      case cn342 => kernel_rfl
      case qn342 => exact fun _ _ _ h => h
      case dn342 => rfl
      case hyn342 => (intro z hSw; (try dsimp only at hSw); go_simp; (try with_reducible rfl))
      try simp only [Act.put, List.setIfInBounds_toArray, List.set_cons_zero, List.set_cons_succ]
      refine wpAnyH_take (i := 33) (oi := ?on343) (v := ?vn343) ?hin343 ?an343 ?bn343 ?cn343 ?qn343 (Or.inl ⟨?dn343, ?hyn343⟩) hHeld ?restn343
      case hin343 => (simp only [List.getElem?_toArray, List.getElem?_cons_succ, List.getElem?_cons_zero]; exact rfl)
      case an343 => kernel_rfl
      case bn343 => kernel_rfl
      case cn343 => kernel_rfl
      case qn343 => exact fun _ _ _ h => h
      case dn343 => rfl
      case hyn343 => (intro z hSw; (try dsimp only at hSw); go_simp; (try with_reducible rfl))
      try simp only [Act.put, List.setIfInBounds_toArray, List.set_cons_zero, List.set_cons_succ]
      refine wpAnyH_take (i := 34) (oi := ?on344) (v := ?vn344) ?hin344 ?an344 ?bn344 ?cn344 ?qn344 (Or.inl ⟨?dn344, ?hyn344⟩) hHeld ?restn344
      case hin344 => (simp only [List.getElem?_toArray, List.getElem?_cons_succ, List.getElem?_cons_zero]; exact rfl)
      case an344 => kernel_rfl
      case bn344 => kernel_rfl
      case cn344 => kernel_rfl
      case qn344 => exact fun _ _ _ h => h
      case dn344 => rfl
      case hyn344 => (intro z hSw; (try dsimp only at hSw); go_simp; (try with_reducible rfl))
      try simp only [Act.put, List.setIfInBounds_toArray, List.set_cons_zero, List.set_cons_succ]
      refine wpAnyH_take (i := 35) (oi := ?on345) (v := ?vn345) ?hin345 ?an345 ?bn345 ?cn345 ?qn345 (Or.inl ⟨?dn345, ?hyn345⟩) hHeld ?restn345
      case hin345 => (simp only [List.getElem?_toArray, List.getElem?_cons_succ, List.getElem?_cons_zero]; exact rfl)
      case an345 => kernel_rfl
      case bn345 => kernel_rfl
      case cn345 => kernel_rfl
      case qn345 => exact fun _ _ _ h => h
      case dn345 => rfl
      case hyn345 => (intro z hSw; (try dsimp only at hSw); go_simp; (try with_reducible rfl))
      try simp only [Act.put, List.setIfInBounds_toArray, List.set_cons_zero, List.set_cons_succ]
      refine wpAnyH_take (i := 36) (oi := ?on346) ?hin346 ?an346 ?bn346 ?cn346 ?qn346 (Or.inr ⟨?dn346, rfl⟩) hHeld ?restn346
      case hin346 => (simp only [List.getElem?_toArray, List.getElem?_cons_succ, List.getElem?_cons_zero]; exact rfl)
      case an346 => kernel_rfl
      case bn346 => kernel_rfl
      case cn346 => kernel_rfl
      case qn346 => exact fun _ _ _ h => h
      case dn346 => rfl
      try simp only [Act.put, List.setIfInBounds_toArray, List.set_cons_zero, List.set_cons_succ]
      refine wpAnyH_take (i := 37) (oi := ?on347) ?hin347 ?an347 ?bn347 ?cn347 ?qn347 (Or.inr ⟨?dn347, rfl⟩) hHeld ?restn347
      case hin347 => (simp only [List.getElem?_toArray, List.getElem?_cons_succ, List.getElem?_cons_zero]; exact rfl)
      case an347 => kernel_rfl
      case bn347 => kernel_rfl
      case cn347 => kernel_rfl
      case qn347 => exact fun _ _ _ h => h
      case dn347 => rfl
      try simp only [Act.put, List.setIfInBounds_toArray, List.set_cons_zero, List.set_cons_succ]
      refine wpAnyH_take (i := 38) (oi := ?on348) ?hin348 ?an348 ?bn348 ?cn348 ?qn348 (Or.inr ⟨?dn348, rfl⟩) hHeld ?restn348
      case hin348 => (simp only [List.getElem?_toArray, List.getElem?_cons_succ, List.getElem?_cons_zero]; exact rfl)
      case an348 => kernel_rfl
      case bn348 => kernel_rfl
      case cn348 => kernel_rfl
      case qn348 => exact fun _ _ _ h => h
      case dn348 => rfl
      try simp only [Act.put, List.setIfInBounds_toArray, List.set_cons_zero, List.set_cons_succ]
      refine wpAnyH_take (i := 39) (oi := ?on349) ?hin349 ?an349 ?bn349 ?cn349 ?qn349 (Or.inr ⟨?dn349, rfl⟩) hHeld ?restn349
      case hin349 => (simp only [List.getElem?_toArray, List.getElem?_cons_succ, List.getElem?_cons_zero]; exact rfl)
      case an349 => kernel_rfl
      case bn349 => kernel_rfl
      case cn349 => kernel_rfl
      case qn349 => exact fun _ _ _ h => h
      case dn349 => rfl
      try simp only [Act.put, List.setIfInBounds_toArray, List.set_cons_zero, List.set_cons_succ]
      refine wpAnyH_take (i := 40) (oi := ?on350) ?hin350 ?an350 ?bn350 ?cn350 ?qn350 (Or.inr ⟨?dn350, rfl⟩) hHeld ?restn350
      case hin350 => (simp only [List.getElem?_toArray, List.getElem?_cons_succ, List.getElem?_cons_zero]; exact rfl)
      case an350 => kernel_rfl
      case bn350 => kernel_rfl
      case cn350 => kernel_rfl
      case qn350 => exact fun _ _ _ h => h
      case dn350 => rfl
      try simp only [Act.put, List.setIfInBounds_toArray, List.set_cons_zero, List.set_cons_succ]
      refine wpAnyH_take (i := 41) (oi := ?on351) ?hin351 ?an351 ?bn351 ?cn351 ?qn351 (Or.inr ⟨?dn351, rfl⟩) hHeld ?restn351
      case hin351 => (simp only [List.getElem?_toArray, List.getElem?_cons_succ, List.getElem?_cons_zero]; exact rfl)
      case an351 => kernel_rfl
      case bn351 => kernel_rfl
      case cn351 => kernel_rfl
      case qn351 => exact fun _ _ _ h => h
      case dn351 => rfl
      try simp only [Act.put, List.setIfInBounds_toArray, List.set_cons_zero, List.set_cons_succ]
      refine wpAnyH_take (i := 42) (oi := ?on352) ?hin352 ?an352 ?bn352 ?cn352 ?qn352 (Or.inr ⟨?dn352, rfl⟩) hHeld ?restn352
      case hin352 => (simp only [List.getElem?_toArray, List.getElem?_cons_succ, List.getElem?_cons_zero]; exact rfl)
      case an352 => kernel_rfl
      case bn352 => kernel_rfl
      case cn352 => kernel_rfl
      case qn352 => exact fun _ _ _ h => h
      case dn352 => rfl
      try simp only [Act.put, List.setIfInBounds_toArray, List.set_cons_zero, List.set_cons_succ]
      refine wpAnyH_take (i := 43) (oi := ?on353) ?hin353 ?an353 ?bn353 ?cn353 ?qn353 (Or.inr ⟨?dn353, rfl⟩) hHeld ?restn353
      case hin353 => (simp only [List.getElem?_toArray, List.getElem?_cons_succ, List.getElem?_cons_zero]; exact rfl)
      case an353 => kernel_rfl
      case bn353 => kernel_rfl
      case cn353 => kernel_rfl
      case qn353 => exact fun _ _ _ h => h
      case dn353 => rfl
      try simp only [Act.put, List.setIfInBounds_toArray, List.set_cons_zero, List.set_cons_succ]
      refine wpAnyH_take (i := 44) (oi := ?on354) ?hin354 ?an354 ?bn354 ?cn354 ?qn354 (Or.inr ⟨?dn354, rfl⟩) hHeld ?restn354
      case hin354 => (simp only [List.getElem?_toArray, List.getElem?_cons_succ, List.getElem?_cons_zero]; exact rfl)
      case an354 => kernel_rfl
      case bn354 => kernel_rfl
      case cn354 => kernel_rfl
      case qn354 => exact fun _ _ _ h => h
      case dn354 => rfl
      try simp only [Act.put, List.setIfInBounds_toArray, List.set_cons_zero, List.set_cons_succ]
      refine wpAnyH_take (i := 45) (oi := ?on355) ?hin355 ?an355 ?bn355 ?cn355 ?qn355 (Or.inr ⟨?dn355, rfl⟩) hHeld ?restn355
      case hin355 => (simp only [List.getElem?_toArray, List.getElem?_cons_succ, List.getElem?_cons_zero]; exact rfl)
      case an355 => kernel_rfl
      case bn355 => kernel_rfl
      case cn355 => kernel_rfl
      case qn355 => exact fun _ _ _ h => h
      case dn355 => rfl
      try simp only [Act.put, List.setIfInBounds_toArray, List.set_cons_zero, List.set_cons_succ]
      refine wpAnyH_take (i := 46) (oi := ?on356) ?hin356 ?an356 ?bn356 ?cn356 ?qn356 (Or.inr ⟨?dn356, rfl⟩) hHeld ?restn356
      case hin356 => (simp only [List.getElem?_toArray, List.getElem?_cons_succ, List.getElem?_cons_zero]; exact rfl)
      case an356 => kernel_rfl
      case bn356 => kernel_rfl
      case cn356 => kernel_rfl
      case qn356 => exact fun _ _ _ h => h
      case dn356 => rfl
      try simp only [Act.put, List.setIfInBounds_toArray, List.set_cons_zero, List.set_cons_succ]
      refine wpAnyH_take (i := 47) (oi := ?on357) ?hin357 ?an357 ?bn357 ?cn357 ?qn357 (Or.inr ⟨?dn357, rfl⟩) hHeld ?restn357
      case hin357 => (simp only [List.getElem?_toArray, List.getElem?_cons_succ, List.getElem?_cons_zero]; exact rfl)
      case an357 => kernel_rfl
      case bn357 => kernel_rfl
      case cn357 => kernel_rfl
      case qn357 => exact fun _ _ _ h => h
      case dn357 => rfl
      try simp only [Act.put, List.setIfInBounds_toArray, List.set_cons_zero, List.set_cons_succ]
      refine wpAnyH_take (i := 48) (oi := ?on358) ?hin358 ?an358 ?bn358 ?cn358 ?qn358 (Or.inr ⟨?dn358, rfl⟩) hHeld ?restn358
      case hin358 => (simp only [List.getElem?_toArray, List.getElem?_cons_succ, List.getElem?_cons_zero]; exact rfl)
      case an358 => kernel_rfl
      case bn358 => kernel_rfl
      case cn358 => kernel_rfl
      case qn358 => exact fun _ _ _ h => h
      case dn358 => rfl
      try simp only [Act.put, List.setIfInBounds_toArray, List.set_cons_zero, List.set_cons_succ]
      refine wpAnyH_take (i := 49) (oi := ?on359) (v := ?vn359) ?hin359 ?an359 ?bn359 ?cn359 ?qn359 (Or.inl ⟨?dn359, ?hyn359⟩) hHeld ?restn359
      case hin359 => (simp only [List.getElem?_toArray, List.getElem?_cons_succ, List.getElem?_cons_zero]; exact rfl)
      case an359 => kernel_rfl
      case bn359 => kernel_rfl
      case cn359 => kernel_rfl
      case qn359 => exact fun _ _ _ h => h
      case dn359 => rfl
      case hyn359 => (intro z hSw; (try dsimp only at hSw); go_simp; (try with_reducible rfl))
      try simp only [Act.put, List.setIfInBounds_toArray, List.set_cons_zero, List.set_cons_succ]
      refine wpAnyH_take (i := 50) (oi := ?on360) (v := ?vn360) ?hin360 ?an360 ?bn360 ?cn360 ?qn360 (Or.inl ⟨?dn360, ?hyn360⟩) hHeld ?restn360
      case hin360 => (simp only [List.getElem?_toArray, List.getElem?_cons_succ, List.getElem?_cons_zero]; exact rfl)
      case an360 => kernel_rfl
      case bn360 => kernel_rfl
      case cn360 => kernel_rfl
      case qn360 => exact fun _ _ _ h => h
      case dn360 => rfl
      case hyn360 => (intro z hSw; (try dsimp only at hSw); go_simp; (try with_reducible rfl))
      try simp only [Act.put, List.setIfInBounds_toArray, List.set_cons_zero, List.set_cons_succ]
      refine wpAnyH_done (by kernel_rfl) ?_ _
      go_wp2_with fail
      go_ret
      exact ⟨by rw [hR]; rfl, g1.trans h2⟩
    | false =>
    simp only [hne, Bool.not_false, Bool.true_and] at hR
    rw [hne] at hlen
    simp only [Bool.not_false] at hlen
    obtain ⟨⟨ua, hca, hna⟩, hfa⟩ := HX.out a (by omega)
    have KJ := Lib.hid (fun W (hW : Grew w W) => prefix_c 5 _ _ W (hna.grew hW) (by omega))
    have KE := Lib.hid (fun W (hW : Grew w W) v2 ys (h2 : Nodes W v2 ys) => same_c _ v2 _ ys W (HU.out W hW) h2 (by have := hfl.out; omega))
    obtain ⟨Aa, ca, rfl⟩ := nodes_slice hna
    have ha3 := fun W (hW : Grew w1 W) => (hca W (g1.trans hW)).2.2.2
    have haln : (a : Int) < (ln : Int) := by omega
    clear hca hna HX
    generalize (hl L a).2.2.2 = xa at *
    generalize xa.length = la at *
    go_wp2_with fail
    refine wp_region_held_drew (S := fun w' => Grew w1 w') (by kernel_rfl) r1d (fun hHeld => ?_)
    refine wpAnyH_take (i := 0) (oi := ?on361) (v := ?vn361) ?hin361 ?an361 ?bn361 ?cn361 ?qn361 (Or.inl ⟨?dn361, ?hyn361⟩) hHeld ?restn361
    case hin361 => (simp only [List.getElem?_toArray, List.getElem?_cons_zero]; exact rfl)
    case an361 => kernel_rfl
    case bn361 => kernel_rfl
    case cn361 => kernel_rfl
    case qn361 => exact fun _ _ _ h => h
    case dn361 => rfl
    case hyn361 => (intro z hSw; (try dsimp only at hSw); go_simp; (try with_reducible rfl))
    try simp only [Act.put, List.setIfInBounds_toArray, List.set_cons_zero, List.set_cons_succ]
    refine wpAnyH_take (i := 1) (oi := ?on362) (v := ?vn362) ?hin362 ?an362 ?bn362 ?cn362 ?qn362 (Or.inl ⟨?dn362, ?hyn362⟩) hHeld ?restn362
    case hin362 => (simp only [List.getElem?_toArray, List.getElem?_cons_succ, List.getElem?_cons_zero]; exact rfl)
    case an362 => kernel_rfl
    case bn362 => kernel_rfl
    case cn362 => kernel_rfl
    case qn362 => exact fun _ _ _ h => h
    case dn362 => rfl
    case hyn362 => (intro z hSw; (try dsimp only at hSw); go_simp; (try with_reducible rfl))
    try simp only [Act.put, List.setIfInBounds_toArray, List.set_cons_zero, List.set_cons_succ]
    refine wpAnyH_take (i := 2) (oi := ?on363) (v := ?vn363) ?hin363 ?an363 ?bn363 ?cn363 ?qn363 (Or.inl ⟨?dn363, ?hyn363⟩) hHeld ?restn363
    case hin363 => (simp only [List.getElem?_toArray, List.getElem?_cons_succ, List.getElem?_cons_zero]; exact rfl)
    case an363 => kernel_rfl
    case bn363 => kernel_rfl
    case cn363 => kernel_rfl
    case qn363 => exact fun _ _ _ h => h
    case dn363 => rfl
    case hyn363 => (intro z hSw; (try dsimp only at hSw); go_simp; (try with_reducible rfl))
    try simp only [Act.put, List.setIfInBounds_toArray, List.set_cons_zero, List.set_cons_succ]
    refine wpAnyH_take (i := 3) (oi := ?on364) (v := ?vn364) ?hin364 ?an364 ?bn364 ?cn364 ?qn364 (Or.inl ⟨?dn364, ?hyn364⟩) hHeld ?restn364
    case hin364 => (simp only [List.getElem?_toArray, List.getElem?_cons_succ, List.getElem?_cons_zero]; exact rfl)
    case an364 => kernel_rfl
    case bn364 => kernel_rfl
    case cn364 => kernel_rfl
    case qn364 => exact fun _ _ _ h => h
    case dn364 => rfl
    case hyn364 => (intro z hSw; (try dsimp only at hSw); go_simp; (try with_reducible rfl))
    try simp only [Act.put, List.setIfInBounds_toArray, List.set_cons_zero, List.set_cons_succ]
    refine wpAnyH_take (i := 4) (oi := ?on365) (v := ?vn365) ?hin365 ?an365 ?bn365 ?cn365 ?qn365 (Or.inl ⟨?dn365, ?hyn365⟩) hHeld ?restn365
    case hin365 => (simp only [List.getElem?_toArray, List.getElem?_cons_succ, List.getElem?_cons_zero]; exact rfl)
    case an365 => kernel_rfl
    case bn365 => kernel_rfl
    case cn365 => kernel_rfl
    case qn365 => exact fun _ _ _ h => h
    case dn365 => rfl
    case hyn365 => (intro z hSw; (try dsimp only at hSw); go_simp; (try with_reducible rfl))
    try simp only [Act.put, List.setIfInBounds_toArray, List.set_cons_zero, List.set_cons_succ]
    refine wpAnyH_take (i := 5) (oi := ?on366) (v := ?vn366) ?hin366 ?an366 ?bn366 ?cn366 ?qn366 (Or.inl ⟨?dn366, ?hyn366⟩) hHeld ?restn366
    case hin366 => (simp only [List.getElem?_toArray, List.getElem?_cons_succ, List.getElem?_cons_zero]; exact rfl)
    case an366 => kernel_rfl
    case bn366 => kernel_rfl
    case cn366 => kernel_rfl
    case qn366 => exact fun _ _ _ h => h
    case dn366 => rfl
    case hyn366 => (intro z hSw; (try dsimp only at hSw); go_simp; (try with_reducible rfl))
    try simp only [Act.put, List.setIfInBounds_toArray, List.set_cons_zero, List.set_cons_succ]
    refine wpAnyH_take (i := 6) (oi := ?on367) (v := ?vn367) ?hin367 ?an367 ?bn367 ?cn367 ?qn367 (Or.inl ⟨?dn367, ?hyn367⟩) hHeld ?restn367
    case hin367 => (simp only [List.getElem?_toArray, List.getElem?_cons_succ, List.getElem?_cons_zero]; exact rfl)
    case an367 => kernel_rfl
    case bn367 => kernel_rfl
    case cn367 => kernel_rfl
    case qn367 => exact fun _ _ _ h => h
    case dn367 => rfl
    case hyn367 => (intro z hSw; (try dsimp only at hSw); go_simp; (try with_reducible rfl))
    try simp only [Act.put, List.setIfInBounds_toArray, List.set_cons_zero, List.set_cons_succ]
    refine wpAnyH_take (i := 7) (oi := ?on368) (v := ?vn368) ?hin368 ?an368 ?bn368 ?cn368 ?qn368 (Or.inl ⟨?dn368, ?hyn368⟩) hHeld ?restn368
    case hin368 => (simp only [List.getElem?_toArray, List.getElem?_cons_succ, List.getElem?_cons_zero]; exact rfl)
    case an368 => kernel_rfl
    case bn368 => kernel_rfl
    case cn368 => kernel_rfl
    case qn368 => exact fun _ _ _ h => h
    case dn368 => rfl
    case hyn368 => (intro z hSw; (try dsimp only at hSw); go_simp; (try with_reducible rfl))
    try simp only [Act.put, List.setIfInBounds_toArray, List.set_cons_zero, List.set_cons_succ]
    refine wpAnyH_take (i := 8) (oi := ?on369) (v := ?vn369) ?hin369 ?an369 ?bn369 ?cn369 ?qn369 (Or.inl ⟨?dn369, ?hyn369⟩) hHeld ?restn369
    case hin369 => (simp only [List.getElem?_toArray, List.getElem?_cons_succ, List.getElem?_cons_zero]; exact rfl)
    case an369 => kernel_rfl
    case bn369 => kernel_rfl
    case cn369 => kernel_rfl
    case qn369 => exact fun _ _ _ h => h
    case dn369 => rfl
    case hyn369 => (intro z hSw; (try dsimp only at hSw); go_simp; (try with_reducible rfl))
    try simp only [Act.put, List.setIfInBounds_toArray, List.set_cons_zero, List.set_cons_succ]
    refine wpAnyH_take (i := 9) (oi := ?on370) (v := ?vn370) ?hin370 ?an370 ?bn370 ?cn370 ?qn370 (Or.inl ⟨?dn370, ?hyn370⟩) hHeld ?restn370
    case hin370 => (simp only [List.getElem?_toArray, List.getElem?_cons_succ, List.getElem?_cons_zero]; exact rfl)
    case an370 => kernel_rfl
    case bn370 => kernel_rfl
    case cn370 => kernel_rfl
    case qn370 => exact fun _ _ _ h => h
    case dn370 => rfl
    case hyn370 => (intro z hSw; (try dsimp only at hSw); go_simp; (try with_reducible rfl))
    try simp only [Act.put, List.setIfInBounds_toArray, List.set_cons_zero, List.set_cons_succ]
    refine wpAnyH_take (i := 10) (oi := ?on371) (v := ?vn371) ?hin371 ?an371 ?bn371 ?cn371 ?qn371 (Or.inl ⟨?dn371, ?hyn371⟩) hHeld ?restn371
    case hin371 => (simp only [List.getElem?_toArray, List.getElem?_cons_succ, List.getElem?_cons_zero]; exact rfl)
    case an371 => kernel_rfl
    case bn371 => kernel_rfl
    case cn371 => kernel_rfl
    case qn371 => exact fun _ _ _ h => h
    case dn371 => rfl
    case hyn371 => (intro z hSw; (try dsimp only at hSw); go_simp; (try with_reducible rfl))
    try simp only [Act.put, List.setIfInBounds_toArray, List.set_cons_zero, List.set_cons_succ]
    refine wpAnyH_take (i := 11) (oi := ?on372) (v := ?vn372) ?hin372 ?an372 ?bn372 ?cn372 ?qn372 (Or.inl ⟨?dn372, ?hyn372⟩) hHeld ?restn372
    case hin372 => (simp only [List.getElem?_toArray, List.getElem?_cons_succ, List.getElem?_cons_zero]; exact rfl)
    case an372 => kernel_rfl
    case bn372 => kernel_rfl
    case cn372 => kernel_rfl
    case qn372 => exact fun _ _ _ h => h
    case dn372 => rfl
    case hyn372 => (intro z hSw; (try dsimp only at hSw); go_simp; (try with_reducible rfl))
    try simp only [Act.put, List.setIfInBounds_toArray, List.set_cons_zero, List.set_cons_succ]
    refine wpAnyH_take (i := 12) (oi := ?on373) (v := ?vn373) ?hin373 ?an373 ?bn373 ?cn373 ?qn373 (Or.inl ⟨?dn373, ?hyn373⟩) hHeld ?restn373
    case hin373 => (simp only [List.getElem?_toArray, List.getElem?_cons_succ, List.getElem?_cons_zero]; exact rfl)
    case an373 => kernel_rfl
    case bn373 => kernel_rfl
    case cn373 => kernel_rfl
    case qn373 => exact fun _ _ _ h => h
    case dn373 => rfl
    case hyn373 => (intro z hSw; (try dsimp only at hSw); go_simp; (try with_reducible rfl))
    try simp only [Act.put, List.setIfInBounds_toArray, List.set_cons_zero, List.set_cons_succ]
    refine wpAnyH_take (i := 13) (oi := ?on374) (v := ?vn374) ?hin374 ?an374 ?bn374 ?cn374 ?qn374 (Or.inl ⟨?dn374, ?hyn374⟩) hHeld ?restn374
    case hin374 => (simp only [List.getElem?_toArray, List.getElem?_cons_succ, List.getElem?_cons_zero]; exact rfl)
    case an374 => kernel_rfl
    case bn374 => kernel_rfl
    case cn374 => kernel_rfl
    case qn374 => exact fun _ _ _ h => h
    case dn374 => rfl
    case hyn374 => (intro z hSw; (try dsimp only at hSw); go_simp; (try with_reducible rfl))
    try simp only [Act.put, List.setIfInBounds_toArray, List.set_cons_zero, List.set_cons_succ]
    refine wpAnyH_take (i := 14) (oi := ?on375) (v := ?vn375) ?hin375 ?an375 ?bn375 ?cn375 ?qn375 (Or.inl ⟨?dn375, ?hyn375⟩) hHeld ?restn375
    case hin375 => (simp only [List.getElem?_toArray, List.getElem?_cons_succ, List.getElem?_cons_zero]; exact rfl)
    case an375 => kernel_rfl
    case bn375 => kernel_rfl
    case cn375 => kernel_rfl
    case qn375 => exact fun _ _ _ h => h
    case dn375 => rfl
    case hyn375 => (intro z hSw; (try dsimp only at hSw); go_simp; (try with_reducible rfl))
    try simp only [Act.put, List.setIfInBounds_toArray, List.set_cons_zero, List.set_cons_succ]
    refine wpAnyH_take (i := 15) (oi := ?on376) (v := ?vn376) ?hin376 ?an376 ?bn376 ?cn376 ?qn376 (Or.inl ⟨?dn376, ?hyn376⟩) hHeld ?restn376
    case hin376 => (simp only [List.getElem?_toArray, List.getElem?_cons_succ, List.getElem?_cons_zero]; exact rfl)
    case an376 => kernel_rfl
    case bn376 => kernel_rfl
    case cn376 => kernel_rfl
    case qn376 => exact fun _ _ _ h => h
    case dn376 => rfl
    case hyn376 => (intro z hSw; (try dsimp only at hSw); go_simp; (try with_reducible rfl))
    try simp only [Act.put, List.setIfInBounds_toArray, List.set_cons_zero, List.set_cons_succ]
    refine wpAnyH_ready (rs := [16]) (by kernel_rfl) (by simp) ?_
    refine AllReadyH.cons (o := ?on377) ?hin377 ?restn377 AllReadyH.nil
    case hin377 => (simp only [List.getElem?_toArray, List.getElem?_cons_succ, List.getElem?_cons_zero]; exact rfl)
    intro K hK
    go_simp
    go_at_call 56
    refine (KE1.out _ (by repeat (first | with_reducible assumption | with_reducible refine Grew.alloc ?_ _ | with_reducible refine Grew.drew ?_ | with_reducible refine Grew.drewN ?_ _))).mono ?_
    rintro e w2 ⟨rfl, hgw2⟩
    have h2 : Grew w1 w2 := Grew.trans (by repeat (first | with_reducible assumption | with_reducible refine Grew.alloc ?_ _ | with_reducible refine Grew.drew ?_ | with_reducible refine Grew.drewN ?_ _)) hgw2
    refine hK.out _ _ ?_ (fun hHeld => ?_)
    · (try dsimp only); first | with_reducible assumption | exact Grew.alloc ‹_› _
    clear hK K
    try simp only [Act.put, List.setIfInBounds_toArray, List.set_cons_zero, List.set_cons_succ]
    refine wpAnyH_take (i := 17) (oi := ?on378) (v := ?vn378) ?hin378 ?an378 ?bn378 ?cn378 ?qn378 (Or.inl ⟨?dn378, ?hyn378⟩) hHeld ?restn378
    case hin378 => (simp only [List.getElem?_toArray, List.getElem?_cons_succ, List.getElem?_cons_zero]; exact rfl)
    case an378 => kernel_rfl
    case bn378 => kernel_rfl
    case cn378 => kernel_rfl
    case qn378 => exact fun _ _ _ h => h
    case dn378 => rfl
    case hyn378 => (intro z hSw; (try dsimp only at hSw); go_simp; (try with_reducible rfl))
    try simp only [Act.put, List.setIfInBounds_toArray, List.set_cons_zero, List.set_cons_succ]
    refine wpAnyH_take (i := 18) (oi := ?on379) (v := ?vn379) ?hin379 ?an379 ?bn379 ?cn379 ?qn379 (Or.inl ⟨?dn379, ?hyn379⟩) hHeld ?restn379
    case hin379 => (simp only [List.getElem?_toArray, List.getElem?_cons_succ, List.getElem?_cons_zero]; exact rfl)
    case an379 => kernel_rfl
    case bn379 => kernel_rfl
    case cn379 => kernel_rfl
    case qn379 => exact fun _ _ _ h => h
    case dn379 => rfl
    case hyn379 => (intro z hSw; (try dsimp only at hSw); go_simp; (try with_reducible rfl))
    try simp only [Act.put, List.setIfInBounds_toArray, List.set_cons_zero, List.set_cons_succ]
    refine wpAnyH_take (i := 19) (oi := ?on380) (v := ?vn380) ?hin380 ?an380 ?bn380 ?cn380 ?qn380 (Or.inl ⟨?dn380, ?hyn380⟩) hHeld ?restn380
    case hin380 => (simp only [List.getElem?_toArray, List.getElem?_cons_succ, List.getElem?_cons_zero]; exact rfl)
    case an380 => kernel_rfl
    case bn380 => kernel_rfl
    case cn380 => kernel_rfl
    case qn380 => exact fun _ _ _ h => h
    case dn380 => rfl
    case hyn380 => (intro z hSw; (try dsimp only at hSw); go_simp; (try with_reducible rfl))
    try simp only [Act.put, List.setIfInBounds_toArray, List.set_cons_zero, List.set_cons_succ]
    refine wpAnyH_take (i := 20) (oi := ?on381) (v := ?vn381) ?hin381 ?an381 ?bn381 ?cn381 ?qn381 (Or.inl ⟨?dn381, ?hyn381⟩) hHeld ?restn381
    case hin381 => (simp only [List.getElem?_toArray, List.getElem?_cons_succ, List.getElem?_cons_zero]; exact rfl)
    case an381 => kernel_rfl
    case bn381 => kernel_rfl
    case cn381 => kernel_rfl
    case qn381 => exact fun _ _ _ h => h
    case dn381 => rfl
    case hyn381 => (intro z hSw; (try dsimp only at hSw); go_simp; (try with_reducible rfl))
    try simp only [Act.put, List.setIfInBounds_toArray, List.set_cons_zero, List.set_cons_succ]
    refine wpAnyH_take (i := 21) (oi := ?on382) (v := ?vn382) ?hin382 ?an382 ?bn382 ?cn382 ?qn382 (Or.inl ⟨?dn382, ?hyn382⟩) hHeld ?restn382
    case hin382 => (simp only [List.getElem?_toArray, List.getElem?_cons_succ, List.getElem?_cons_zero]; exact rfl)
    case an382 => kernel_rfl
    case bn382 => kernel_rfl
    case cn382 => kernel_rfl
    case qn382 => exact fun _ _ _ h => h
    case dn382 => rfl
    case hyn382 => (intro z hSw; (try dsimp only at hSw); go_simp; (try with_reducible rfl))
    try simp only [Act.put, List.setIfInBounds_toArray, List.set_cons_zero, List.set_cons_succ]
    refine wpAnyH_take (i := 22) (oi := ?on383) (v := ?vn383) ?hin383 ?an383 ?bn383 ?cn383 ?qn383 (Or.inl ⟨?dn383, ?hyn383⟩) hHeld ?restn383
    case hin383 => (simp only [List.getElem?_toArray, List.getElem?_cons_succ, List.getElem?_cons_zero]; exact rfl)
    case an383 => kernel_rfl
    case bn383 => kernel_rfl
    case cn383 => kernel_rfl
    case qn383 => exact fun _ _ _ h => h
    case dn383 => rfl
    case hyn383 => (intro z hSw; (try dsimp only at hSw); go_simp; (try with_reducible rfl))
    try simp only [Act.put, List.setIfInBounds_toArray, List.set_cons_zero, List.set_cons_succ]
    refine wpAnyH_take (i := 23) (oi := ?on384) (v := ?vn384) ?hin384 ?an384 ?bn384 ?cn384 ?qn384 (Or.inl ⟨?dn384, ?hyn384⟩) hHeld ?restn384
    case hin384 => (simp only [List.getElem?_toArray, List.getElem?_cons_succ, List.getElem?_cons_zero]; exact rfl)
    case an384 => kernel_rfl
    case bn384 => kernel_rfl
    case cn384 => kernel_rfl
    case qn384 => exact fun _ _ _ h => h
    case dn384 => rfl
    case hyn384 => (intro z hSw; (try dsimp only at hSw); go_simp; (try with_reducible rfl))
    try simp only [Act.put, List.setIfInBounds_toArray, List.set_cons_zero, List.set_cons_succ]
    refine wpAnyH_take (i := 24) (oi := ?on385) (v := ?vn385) ?hin385 ?an385 ?bn385 ?cn385 ?qn385 (Or.inl ⟨?dn385, ?hyn385⟩) hHeld ?restn385
    case hin385 => (simp only [List.getElem?_toArray, List.getElem?_cons_succ, List.getElem?_cons_zero]; exact rfl)
    case an385 => kernel_rfl
    case bn385 => kernel_rfl
    case cn385 => kernel_rfl
    case qn385 => exact fun _ _ _ h => h
    case dn385 => rfl
    case hyn385 => (intro z hSw; (try dsimp only at hSw); go_simp; (try with_reducible rfl))
    try simp only [Act.put, List.setIfInBounds_toArray, List.set_cons_zero, List.set_cons_succ]
    refine wpAnyH_take (i := 25) (oi := ?on386) (v := ?vn386) ?hin386 ?an386 ?bn386 ?cn386 ?qn386 (Or.inl ⟨?dn386, ?hyn386⟩) hHeld ?restn386
    case hin386 => (simp only [List.getElem?_toArray, List.getElem?_cons_succ, List.getElem?_cons_zero]; exact rfl)
    case an386 => kernel_rfl
    case bn386 => kernel_rfl
    case cn386 => kernel_rfl
    case qn386 => exact fun _ _ _ h => h
    case dn386 => rfl
    case hyn386 => (intro z hSw; (try dsimp only at hSw); go_simp; (try with_reducible rfl))
    try simp only [Act.put, List.setIfInBounds_toArray, List.set_cons_zero, List.set_cons_succ]
    refine wpAnyH_take (i := 26) (oi := ?on387) (v := ?vn387) ?hin387 ?an387 ?bn387 ?cn387 ?qn387 (Or.inl ⟨?dn387, ?hyn387⟩) hHeld ?restn387
    case hin387 => (simp only [List.getElem?_toArray, List.getElem?_cons_succ, List.getElem?_cons_zero]; exact rfl)
    case an387 => kernel_rfl
    case bn387 => kernel_rfl
    case cn387 => kernel_rfl
    case qn387 => exact fun _ _ _ h => h
    case dn387 => rfl
    case hyn387 => (intro z hSw; (try dsimp only at hSw); go_simp; (try with_reducible rfl))
    try simp only [Act.put, List.setIfInBounds_toArray, List.set_cons_zero, List.set_cons_succ]
    refine wpAnyH_take (i := 27) (oi := ?on388) (v := ?vn388) ?hin388 ?an388 ?bn388 ?cn388 ?qn388 (Or.inl ⟨?dn388, ?hyn388⟩) hHeld ?restn388
    case hin388 => (simp only [List.getElem?_toArray, List.getElem?_cons_succ, List.getElem?_cons_zero]; exact rfl)
    case an388 => kernel_rfl
    case bn388 => kernel_rfl
    case cn388 => kernel_rfl
    case qn388 => exact fun _ _ _ h => h
    case dn388 => rfl
    case hyn388 => (intro z hSw; (try dsimp only at hSw); go_simp; (try with_reducible rfl))
    try simp only [Act.put, List.setIfInBounds_toArray, List.set_cons_zero, List.set_cons_succ]
    refine wpAnyH_take (i := 28) (oi := ?on389) (v := ?vn389) ?hin389 ?an389 ?bn389 ?cn389 ?qn389 (Or.inl ⟨?dn389, ?hyn389⟩) hHeld ?restn389
    case hin389 => (simp only [List.getElem?_toArray, List.getElem?_cons_succ, List.getElem?_cons_zero]; exact rfl)
    case an389 => kernel_rfl
    case bn389 => kernel_rfl
    case cn389 => kernel_rfl
    case qn389 => exact fun _ _ _ h => h
    case dn389 => rfl
    case hyn389 => (intro z hSw; (try dsimp only at hSw); go_simp; (try with_reducible rfl))
    try simp only [Act.put, List.setIfInBounds_toArray, List.set_cons_zero, List.set_cons_succ]
    refine wpAnyH_take (i := 29) (oi := ?on390) (v := ?vn390) ?hin390 ?an390 ?bn390 ?cn390 ?qn390 (Or.inl ⟨?dn390, ?hyn390⟩) hHeld ?restn390
    case hin390 => (simp only [List.getElem?_toArray, List.getElem?_cons_succ, List.getElem?_cons_zero]; exact rfl)
    case an390 => kernel_rfl
    case bn390 => kernel_rfl
    case cn390 => kernel_rfl
    case qn390 => exact fun _ _ _ h => h
    case dn390 => rfl
    case hyn390 => (intro z hSw; (try dsimp only at hSw); go_simp; (try with_reducible rfl))
    try simp only [Act.put, List.setIfInBounds_toArray, List.set_cons_zero, List.set_cons_succ]
    refine wpAnyH_take (i := 30) (oi := ?on391) (v := ?vn391) ?hin391 ?an391 ?bn391 ?cn391 ?qn391 (Or.inl ⟨?dn391, ?hyn391⟩) hHeld ?restn391
    case hin391 => (simp only [List.getElem?_toArray, List.getElem?_cons_succ, List.getElem?_cons_zero]; exact rfl)
    case an391 => kernel_rfl
    case bn391 => kernel_rfl
    case cn391 => kernel_rfl
    case qn391 => exact fun _ _ _ h => h
    case dn391 => rfl
    case hyn391 => (intro z hSw; (try dsimp only at hSw); go_simp; (try with_reducible rfl))
    try simp only [Act.put, List.setIfInBounds_toArray, List.set_cons_zero, List.set_cons_succ]
    refine wpAnyH_take (i := 31) (oi := ?on392) (v := ?vn392) ?hin392 ?an392 ?bn392 ?cn392 ?qn392 (Or.inl ⟨?dn392, ?hyn392⟩) hHeld ?restn392
    case hin392 => (simp only [List.getElem?_toArray, List.getElem?_cons_succ, List.getElem?_cons_zero]; exact rfl)
    case an392 => kernel_rfl
    case bn392 => kernel_rfl
    case cn392 => kernel_rfl
    case qn392 => exact fun _ _ _ h => h
    case dn392 => rfl
    case hyn392 => (intro z hSw; (try dsimp only at hSw); go_simp; (try with_reducible rfl))
    try simp only [Act.put, List.setIfInBounds_toArray, List.set_cons_zero, List.set_cons_succ]
    refine wpAnyH_take (i := 32) (oi := ?on393) (v := ?vn393) ?hin393 ?an393 ?bn393 ?cn393 ?qn393 (Or.inl ⟨?dn393, ?hyn393⟩) hHeld ?restn393
    case hin393 => (simp only [List.getElem?_toArray, List.getElem?_cons_succ, List.getElem?_cons_zero]; exact rfl)
    case an393 => kernel_rfl
    case bn393 => kernel_rfl
    case cn393 => kernel_rfl
    case qn393 => exact fun _ _ _ h => h
    case dn393 => rfl
    case hyn393 => (intro z hSw; (try dsimp only at hSw); go_simp; (try with_reducible rfl))
    try simp only [Act.put, List.setIfInBounds_toArray, List.set_cons_zero, List.set_cons_succ]
    refine wpAnyH_take (i := 33) (oi := ?on394) (v := ?vn394) ?hin394 ?an394 ?bn394 ?cn394 ?qn394 (Or.inl ⟨?dn394, ?hyn394⟩) hHeld ?restn394
    case hin394 => (simp only [List.getElem?_toArray, List.getElem?_cons_succ, List.getElem?_cons_zero]; exact rfl)
    case an394 => kernel_rfl
    case bn394 => kernel_rfl
    case cn394 => kernel_rfl
    case qn394 => exact fun _ _ _ h => h
    case dn394 => rfl
    case hyn394 => (intro z hSw; (try dsimp only at hSw); go_simp; (try with_reducible rfl))
    try simp only [Act.put, List.setIfInBounds_toArray, List.set_cons_zero, List.set_cons_succ]
    refine wpAnyH_take (i := 34) (oi := ?on395) (v := ?vn395) ?hin395 ?an395 ?bn395 ?cn395 ?qn395 (Or.inl ⟨?dn395, ?hyn395⟩) hHeld ?restn395
    case hin395 => (simp only [List.getElem?_toArray, List.getElem?_cons_succ, List.getElem?_cons_zero]; exact rfl)
    case an395 => kernel_rfl
    case bn395 => kernel_rfl
    case cn395 => kernel_rfl
    case qn395 => exact fun _ _ _ h => h
    case dn395 => rfl
    case hyn395 => (intro z hSw; (try dsimp only at hSw); go_simp; (try with_reducible rfl))
    try simp only [Act.put, List.setIfInBounds_toArray, List.set_cons_zero, List.set_cons_succ]
    refine wpAnyH_take (i := 35) (oi := ?on396) (v := ?vn396) ?hin396 ?an396 ?bn396 ?cn396 ?qn396 (Or.inl ⟨?dn396, ?hyn396⟩) hHeld ?restn396
    case hin396 => (simp only [List.getElem?_toArray, List.getElem?_cons_succ, List.getElem?_cons_zero]; exact rfl)
    case an396 => kernel_rfl
    case bn396 => kernel_rfl
    case cn396 => kernel_rfl
    case qn396 => exact fun _ _ _ h => h
    case dn396 => rfl
    case hyn396 => (intro z hSw; (try dsimp only at hSw); go_simp; (try with_reducible rfl))
    try simp only [Act.put, List.setIfInBounds_toArray, List.set_cons_zero, List.set_cons_succ]
    refine wpAnyH_take (i := 36) (oi := ?on397) (v := ?vn397) ?hin397 ?an397 ?bn397 ?cn397 ?qn397 (Or.inl ⟨?dn397, ?hyn397⟩) hHeld ?restn397
    case hin397 => (simp only [List.getElem?_toArray, List.getElem?_cons_succ, List.getElem?_cons_zero]; exact rfl)
    case an397 => kernel_rfl
    case bn397 => kernel_rfl
    case cn397 => kernel_rfl
    case qn397 => exact fun _ _ _ h => h
    case dn397 => rfl
    case hyn397 => (intro z hSw; (try dsimp only at hSw); go_simp; (try with_reducible rfl))
    try simp only [Act.put, List.setIfInBounds_toArray, List.set_cons_zero, List.set_cons_succ]
    refine wpAnyH_take (i := 37) (oi := ?on398) (v := ?vn398) ?hin398 ?an398 ?bn398 ?cn398 ?qn398 (Or.inl ⟨?dn398, ?hyn398⟩) hHeld ?restn398
    case hin398 => (simp only [List.getElem?_toArray, List.getElem?_cons_succ, List.getElem?_cons_zero]; exact rfl)
    case an398 => kernel_rfl
    case bn398 => kernel_rfl
    case cn398 => kernel_rfl
    case qn398 => exact fun _ _ _ h => h
    case dn398 => rfl
    case hyn398 => (intro z hSw; (try dsimp only at hSw); go_simp; (try with_reducible rfl))
    try simp only [Act.put, List.setIfInBounds_toArray, List.set_cons_zero, List.set_cons_succ]
    refine wpAnyH_take (i := 38) (oi := ?on399) (v := ?vn399) ?hin399 ?an399 ?bn399 ?cn399 ?qn399 (Or.inl ⟨?dn399, ?hyn399⟩) hHeld ?restn399
    case hin399 => (simp only [List.getElem?_toArray, List.getElem?_cons_succ, List.getElem?_cons_zero]; exact rfl)
    case an399 => kernel_rfl
    case bn399 => kernel_rfl
    case cn399 => kernel_rfl
    case qn399 => exact fun _ _ _ h => h
    case dn399 => rfl
    case hyn399 => (intro z hSw; (try dsimp only at hSw); go_simp; (try with_reducible rfl))
    try simp only [Act.put, List.setIfInBounds_toArray, List.set_cons_zero, List.set_cons_succ]
    refine wpAnyH_take (i := 39) (oi := ?on400) (v := ?vn400) ?hin400 ?an400 ?bn400 ?cn400 ?qn400 (Or.inl ⟨?dn400, ?hyn400⟩) hHeld ?restn400
    case hin400 => (simp only [List.getElem?_toArray, List.getElem?_cons_succ, List.getElem?_cons_zero]; exact rfl)
    case an400 => kernel_rfl
    case bn400 => kernel_rfl
    case cn400 => kernel_rfl
    case qn400 => exact fun _ _ _ h => h
    case dn400 => rfl
    case hyn400 => (intro z hSw; (try dsimp only at hSw); go_simp; (try with_reducible rfl))
    try simp only [Act.put, List.setIfInBounds_toArray, List.set_cons_zero, List.set_cons_succ]
    refine wpAnyH_take (i := 40) (oi := ?on401) (v := ?vn401) ?hin401 ?an401 ?bn401 ?cn401 ?qn401 (Or.inl ⟨?dn401, ?hyn401⟩) hHeld ?restn401
    case hin401 => (simp only [List.getElem?_toArray, List.getElem?_cons_succ, List.getElem?_cons_zero]; exact rfl)
    case an401 => kernel_rfl
    case bn401 => kernel_rfl
    case cn401 => kernel_rfl
    case qn401 => exact fun _ _ _ h => h
    case dn401 => rfl
    case hyn401 => (intro z hSw; (try dsimp only at hSw); go_simp; (try with_reducible rfl))
    try simp only [Act.put, List.setIfInBounds_toArray, List.set_cons_zero, List.set_cons_succ]
    refine wpAnyH_take (i := 41) (oi := ?on402) (v := ?vn402) ?hin402 ?an402 ?bn402 ?cn402 ?qn402 (Or.inl ⟨?dn402, ?hyn402⟩) hHeld ?restn402
    case hin402 => (simp only [List.getElem?_toArray, List.getElem?_cons_succ, List.getElem?_cons_zero]; exact rfl)
    case an402 => kernel_rfl
    case bn402 => kernel_rfl
    case cn402 => kernel_rfl
    case qn402 => exact fun _ _ _ h => h
    case dn402 => rfl
    case hyn402 => (intro z hSw; (try dsimp only at hSw); go_simp; (try with_reducible rfl))
    try simp only [Act.put, List.setIfInBounds_toArray, List.set_cons_zero, List.set_cons_succ]
    refine wpAnyH_take (i := 42) (oi := ?on403) (v := ?vn403) ?hin403 ?an403 ?bn403 ?cn403 ?qn403 (Or.inl ⟨?dn403, ?hyn403⟩) hHeld ?restn403
    case hin403 => (simp only [List.getElem?_toArray, List.getElem?_cons_succ, List.getElem?_cons_zero]; exact rfl)
    case an403 => kernel_rfl
    case bn403 => kernel_rfl
    case cn403 => kernel_rfl
    case qn403 => exact fun _ _ _ h => h
    case dn403 => rfl
    case hyn403 => (intro z hSw; (try dsimp only at hSw); go_simp; (try with_reducible rfl))
    try simp only [Act.put, List.setIfInBounds_toArray, List.set_cons_zero, List.set_cons_succ]
    refine wpAnyH_take (i := 43) (oi := ?on404) (v := ?vn404) ?hin404 ?an404 ?bn404 ?cn404 ?qn404 (Or.inl ⟨?dn404, ?hyn404⟩) hHeld ?restn404
    case hin404 => (simp only [List.getElem?_toArray, List.getElem?_cons_succ, List.getElem?_cons_zero]; exact rfl)
    case an404 => kernel_rfl
    case bn404 => kernel_rfl
    case cn404 => kernel_rfl
    case qn404 => exact fun _ _ _ h => h
    case dn404 => rfl
    case hyn404 => (intro z hSw; (try dsimp only at hSw); go_simp; (try with_reducible rfl))
    try simp only [Act.put, List.setIfInBounds_toArray, List.set_cons_zero, List.set_cons_succ]
    refine wpAnyH_take (i := 44) (oi := ?on405) (v := ?vn405) ?hin405 ?an405 ?bn405 ?cn405 ?qn405 (Or.inl ⟨?dn405, ?hyn405⟩) hHeld ?restn405
    case hin405 => (simp only [List.getElem?_toArray, List.getElem?_cons_succ, List.getElem?_cons_zero]; exact rfl)
    case an405 => kernel_rfl
    case bn405 => kernel_rfl
    case cn405 => kernel_rfl
    case qn405 => exact fun _ _ _ h => h
    case dn405 => rfl
    case hyn405 => (intro z hSw; (try dsimp only at hSw); go_simp; (try with_reducible rfl))
    try simp only [Act.put, List.setIfInBounds_toArray, List.set_cons_zero, List.set_cons_succ]
    refine wpAnyH_take (i := 45) (oi := ?on406) (v := ?vn406) ?hin406 ?an406 ?bn406 ?cn406 ?qn406 (Or.inl ⟨?dn406, ?hyn406⟩) hHeld ?restn406
    case hin406 => (simp only [List.getElem?_toArray, List.getElem?_cons_succ, List.getElem?_cons_zero]; exact rfl)
    case an406 => kernel_rfl
    case bn406 => kernel_rfl
    case cn406 => kernel_rfl
    case qn406 => exact fun _ _ _ h => h
    case dn406 => rfl
    case hyn406 => (intro z hSw; (try dsimp only at hSw); go_simp; (try with_reducible rfl))
    try simp only [Act.put, List.setIfInBounds_toArray, List.set_cons_zero, List.set_cons_succ]
    refine wpAnyH_take (i := 46) (oi := ?on407) (v := ?vn407) ?hin407 ?an407 ?bn407 ?cn407 ?qn407 (Or.inl ⟨?dn407, ?hyn407⟩) hHeld ?restn407
    case hin407 => (simp only [List.getElem?_toArray, List.getElem?_cons_succ, List.getElem?_cons_zero]; exact rfl)
    case an407 => kernel_rfl
    case bn407 => kernel_rfl
    case cn407 => kernel_rfl
    case qn407 => exact fun _ _ _ h => h
    case dn407 => rfl
    case hyn407 => (intro z hSw; (try dsimp only at hSw); go_simp; (try with_reducible rfl))
    try simp only [Act.put, List.setIfInBounds_toArray, List.set_cons_zero, List.set_cons_succ]
    refine wpAnyH_ready (rs := [47]) (by kernel_rfl) (by simp) ?_
    refine AllReadyH.cons (o := ?on408) ?hin408 ?restn408 AllReadyH.nil
    case hin408 => (simp only [List.getElem?_toArray, List.getElem?_cons_succ, List.getElem?_cons_zero]; exact rfl)
    intro K hK
    go_simp
    go_at_call 61
    refine (KJ.out _ (g1.trans h2)).mono ?_
    rintro e w4 ⟨v4, rfl, ho4, hg4⟩
    have h4 : Grew w1 w4 := h2.trans hg4
    have hn4 := ho4.nodes
    obtain ⟨A4, c4, rfl⟩ := nodes_slice ho4.nodes
    refine hK.out _ _ ?_ (fun hHeld => ?_)
    · (try dsimp only); first | with_reducible assumption | exact Grew.alloc ‹_› _
    clear hK K
    try simp only [Act.put, List.setIfInBounds_toArray, List.set_cons_zero, List.set_cons_succ]
    refine wpAnyH_ready (rs := [48]) (by kernel_rfl) (by simp) ?_
    refine AllReadyH.cons (o := ?on409) ?hin409 ?restn409 AllReadyH.nil
    case hin409 => (simp only [List.getElem?_toArray, List.getElem?_cons_succ, List.getElem?_cons_zero]; exact rfl)
    intro K hK
    go_simp
    go_at_call 59
    refine (KE.out _ (g1.trans h4) _ _ hn4).mono ?_
    rintro e w5 ⟨rfl, hg5⟩
    have h5 : Grew w1 w5 := h4.trans hg5
    refine hK.out _ _ ?_ (fun hHeld => ?_)
    · (try dsimp only); first | with_reducible assumption | exact Grew.alloc ‹_› _
    clear hK K
    try simp only [Act.put, List.setIfInBounds_toArray, List.set_cons_zero, List.set_cons_succ]
    refine wpAnyH_take (i := 49) (oi := ?on410) (v := ?vn410) ?hin410 ?an410 ?bn410 ?cn410 ?qn410 (Or.inl ⟨?dn410, ?hyn410⟩) hHeld ?restn410
    case hin410 => (simp only [List.getElem?_toArray, List.getElem?_cons_succ, List.getElem?_cons_zero]; exact rfl)
    case an410 => kernel_rfl
    case bn410 => kernel_rfl
    case cn410 => kernel_rfl
    case qn410 => exact fun _ _ _ h => h
    case dn410 => rfl
    case hyn410 => (intro z hSw; (try dsimp only at hSw); go_simp; (try with_reducible rfl))
    try simp only [Act.put, List.setIfInBounds_toArray, List.set_cons_zero, List.set_cons_succ]
    refine wpAnyH_take (i := 50) (oi := ?on411) (v := ?vn411) ?hin411 ?an411 ?bn411 ?cn411 ?qn411 (Or.inl ⟨?dn411, ?hyn411⟩) hHeld ?restn411
    case hin411 => (simp only [List.getElem?_toArray, List.getElem?_cons_succ, List.getElem?_cons_zero]; exact rfl)
    case an411 => kernel_rfl
    case bn411 => kernel_rfl
    case cn411 => kernel_rfl
    case qn411 => exact fun _ _ _ h => h
    case dn411 => rfl
    case hyn411 => (intro z hSw; (try dsimp only at hSw); go_simp; (try with_reducible rfl))
    try simp only [Act.put, List.setIfInBounds_toArray, List.set_cons_zero, List.set_cons_succ]
    refine wpAnyH_done (by kernel_rfl) ?_ _
    go_wp2_with fail
    go_ret
    exact ⟨by rw [hR]; rfl, g1.trans h5⟩
  have z4 : (rr == 4) = false := by simpa using h4r
  rw [fx_0 (fun h => h12 (.inl h)) (fun h => h12 (.inr h)) h3r h4r] at hR
  go_wp2_with fail
  go_ret
  exact ⟨by rw [hR]; rfl, g1⟩
end Go.Proofs.YtnbnhapepcegpaaGreatDoor

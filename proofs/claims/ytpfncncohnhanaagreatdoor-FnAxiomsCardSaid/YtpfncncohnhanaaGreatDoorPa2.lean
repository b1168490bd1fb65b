/- Texts in one file: FaF FaD FaW Strs Find Tab Join TakeP WalkP WalkA Round ParseI Take WalkQ WalkB ParseF Axiom From BigW FaX. -/
import Derived.Deep.RegionHeld3
import Derived.Deep.RegionLaw
import Derived.Test.YtpfncncohnhanaaGreatDoorProg
import Derived.Deep.QuietTactic
import Derived.BigQuiet
import Derived.Deep.LoopGhost
import Derived.Outline
import Derived.ProofKit
import Derived.LaidMore
import Derived.OpenShut
import Derived.Lib.LaidTab
import Derived.Lib.OthersKept
import Derived.StillTailTactics
import Derived.BigRegion
import Derived.Test.YtpfncncohnhanaaGreatDoorPa1
set_option linter.all false

/- Frames: isFrame of the program, l05Is of the reference. -/
namespace Go.Proofs.YtpfncncohnhanaaGreatDoor
open Go.RowKit

/-- Is it a frame? -/
def frB (sz : Int) (L : List Int) : Bool := decide (0 ≤ sz ∧ sz ≤ 8) && (decide ((L.length : Int) = sz) && mks L.length L)
theorem frB_ok {sz : Int} {L : List Int} (h : frB sz L = true) : sz = (L.length : Int) ∧ L.length ≤ 8 ∧ zs (nats L) = L ∧ Rl (nats L) := by
  unfold frB at h
  rw [Bool.and_eq_true, Bool.and_eq_true, decide_eq_true_eq, decide_eq_true_eq] at h
  obtain ⟨h1, h2, h3⟩ := h
  exact ⟨h2.symm, by omega, (nats_ok h3).1, pos_rl (by omega) h3⟩
set_option maxHeartbeats 2000000 in
theorem isFrame_c (sz : Int) (v : Value) (L : List Int) (w : World) (h : Ints w v L) :
    Calls Tryz.prog 46 #[.agg #[.int .i64 sz, v]] w fun e w' => e = .returned (.bool (frB sz L)) ∧ Grew w w' := by
  have HI := Lib.hid (inRange_c sz 0 8)
  have hal := (Grew.refl w).alloc (.cells #[.int .i64 sz, v] 26)
  have HG := Lib.hid hal
  have HS := Lib.hid (fun W hW => size_c v L W (h.grew hW))
  have HM := Lib.hid (fun W hW hn => isRelation_c v L W (h.grew hW) hn)
  have hmx : L.length ≤ 9223372036854775807 := h.2.1
  have y0 : ∀ W, Grew (w.alloc (.cells #[.int .i64 sz, v] 26)) W → W.cell? ⟨w.heap.size, 0, none⟩ = some (.int .i64 sz) := fun W hW => (hW.cell (p := ⟨w.heap.size, 0, none⟩) (by simp)).trans (by simp)
  have y1 : ∀ W, Grew (w.alloc (.cells #[.int .i64 sz, v] 26)) W → W.cell? ⟨w.heap.size, 1, none⟩ = some v := fun W hW => (hW.cell (p := ⟨w.heap.size, 1, none⟩) (by simp)).trans (by simp)
  obtain ⟨w1, hw1⟩ : ∃ w1, w1 = w.alloc (.cells #[.int .i64 sz, v] 26) := ⟨_, rfl⟩
  rw [← hw1] at y0 y1 HG
  clear hal
  have r1 := Grew.refl w1
  have r1d := r1.drew
  unfold frB
  by_cases h1 : 0 ≤ sz ∧ sz ≤ 8
  · rw [decide_eq_true h1] at HI ⊢
    rw [Bool.true_and]
    by_cases h2 : (L.length : Int) = sz
    · rw [decide_eq_true h2, Bool.true_and]
      obtain rfl := h2
      have hn : L.length ≤ 30 := by omega
      have HM := Lib.hid (fun W hW => HM.out W hW hn)
      have hq : ((L.length : Int) == (L.length : Int)) = true := by simp
      cases h3 : mks L.length L with
      | true =>
        rw [h3] at HM
        obtain ⟨A, c, rfl⟩ := ints_slice h
        clear h h3 hn h1
        generalize L.length = n at *
        go_enter Tryz.func46, Tryz.ntmps46
        go_wp2_with fail
        simp only [← hw1]
        clear hw1
        refine wp_region_held_drew (S := fun w' => Grew w1 w') (by kernel_rfl) r1d (fun hHeld => ?_)
        refine wpAnyH_take (i := 0) (oi := ?on1) (v := ?vn1) ?hin1 ?an1 ?bn1 ?cn1 ?qn1 (Or.inl ⟨?dn1, ?hyn1⟩) hHeld ?restn1
        case hin1 => (simp only [List.getElem?_toArray, List.getElem?_cons_zero]; exact rfl)
        case an1 => kernel_rfl
        case bn1 => kernel_rfl
        case cn1 => kernel_rfl
        case qn1 => exact fun _ _ _ h => h
        case dn1 => rfl
        case hyn1 => (intro z hSw; (try dsimp only at hSw); go_simp; (try with_reducible rfl))
        try simp only [Act.put, List.setIfInBounds_toArray, List.set_cons_zero, List.set_cons_succ]
        refine wpAnyH_take (i := 1) (oi := ?on2) (v := ?vn2) ?hin2 ?an2 ?bn2 ?cn2 ?qn2 (Or.inl ⟨?dn2, ?hyn2⟩) hHeld ?restn2
        case hin2 => (simp only [List.getElem?_toArray, List.getElem?_cons_succ, List.getElem?_cons_zero]; exact rfl)
        case an2 => kernel_rfl
        case bn2 => kernel_rfl
        case cn2 => kernel_rfl
        case qn2 => exact fun _ _ _ h => h
        case dn2 => rfl
        case hyn2 => (intro z hSw; (try dsimp only at hSw); go_simp; (try with_reducible rfl))
        try simp only [Act.put, List.setIfInBounds_toArray, List.set_cons_zero, List.set_cons_succ]
        refine wpAnyH_ready (rs := [2]) (by kernel_rfl) (by simp) ?_
        refine AllReadyH.cons (o := ?on3) ?hin3 ?restn3 AllReadyH.nil
        case hin3 => (simp only [List.getElem?_toArray, List.getElem?_cons_succ, List.getElem?_cons_zero]; exact rfl)
        intro K hK
        go_simp
        go_at_call 88
        refine (HI.out _).mono ?_
        rintro e w2 ⟨rfl, hgw2⟩
        have h2 : Grew w1 w2 := Grew.trans (by repeat (first | with_reducible assumption | with_reducible refine Grew.alloc ?_ _ | with_reducible refine Grew.drew ?_ | with_reducible refine Grew.drewN ?_ _)) hgw2
        refine hK.out _ _ ?_ (fun hHeld => ?_)
        · (try dsimp only); first | with_reducible assumption | exact Grew.alloc ‹_› _
        clear hK K
        try simp only [Act.put, List.setIfInBounds_toArray, List.set_cons_zero, List.set_cons_succ]
        refine wpAnyH_take (i := 3) (oi := ?on4) (v := ?vn4) ?hin4 ?an4 ?bn4 ?cn4 ?qn4 (Or.inl ⟨?dn4, ?hyn4⟩) hHeld ?restn4
        case hin4 => (simp only [List.getElem?_toArray, List.getElem?_cons_succ, List.getElem?_cons_zero]; exact rfl)
        case an4 => kernel_rfl
        case bn4 => kernel_rfl
        case cn4 => kernel_rfl
        case qn4 => exact fun _ _ _ h => h
        case dn4 => rfl
        case hyn4 => (intro z hSw; (try dsimp only at hSw); go_simp; (try with_reducible rfl))
        try simp only [Act.put, List.setIfInBounds_toArray, List.set_cons_zero, List.set_cons_succ]
        refine wpAnyH_take (i := 4) (oi := ?on5) (v := ?vn5) ?hin5 ?an5 ?bn5 ?cn5 ?qn5 (Or.inl ⟨?dn5, ?hyn5⟩) hHeld ?restn5
        case hin5 => (simp only [List.getElem?_toArray, List.getElem?_cons_succ, List.getElem?_cons_zero]; exact rfl)
        case an5 => kernel_rfl
        case bn5 => kernel_rfl
        case cn5 => kernel_rfl
        case qn5 => exact fun _ _ _ h => h
        case dn5 => rfl
        case hyn5 => (intro z hSw; (try dsimp only at hSw); go_simp; (try with_reducible rfl))
        try simp only [Act.put, List.setIfInBounds_toArray, List.set_cons_zero, List.set_cons_succ]
        refine wpAnyH_take (i := 5) (oi := ?on6) (v := ?vn6) ?hin6 ?an6 ?bn6 ?cn6 ?qn6 (Or.inl ⟨?dn6, ?hyn6⟩) hHeld ?restn6
        case hin6 => (simp only [List.getElem?_toArray, List.getElem?_cons_succ, List.getElem?_cons_zero]; exact rfl)
        case an6 => kernel_rfl
        case bn6 => kernel_rfl
        case cn6 => kernel_rfl
        case qn6 => exact fun _ _ _ h => h
        case dn6 => rfl
        case hyn6 => (intro z hSw; (try dsimp only at hSw); go_simp; (try with_reducible rfl))
        try simp only [Act.put, List.setIfInBounds_toArray, List.set_cons_zero, List.set_cons_succ]
        refine wpAnyH_take (i := 7) (oi := ?on7) (v := ?vn7) ?hin7 ?an7 ?bn7 ?cn7 ?qn7 (Or.inl ⟨?dn7, ?hyn7⟩) hHeld ?restn7
        case hin7 => (simp only [List.getElem?_toArray, List.getElem?_cons_succ, List.getElem?_cons_zero]; exact rfl)
        case an7 => kernel_rfl
        case bn7 => kernel_rfl
        case cn7 => kernel_rfl
        case qn7 => exact fun _ _ _ h => h
        case dn7 => rfl
        case hyn7 => (intro z hSw; (try dsimp only at hSw); go_simp; (try with_reducible rfl))
        try simp only [Act.put, List.setIfInBounds_toArray, List.set_cons_zero, List.set_cons_succ]
        refine wpAnyH_take (i := 8) (oi := ?on8) (v := ?vn8) ?hin8 ?an8 ?bn8 ?cn8 ?qn8 (Or.inl ⟨?dn8, ?hyn8⟩) hHeld ?restn8
        case hin8 => (simp only [List.getElem?_toArray, List.getElem?_cons_succ, List.getElem?_cons_zero]; exact rfl)
        case an8 => kernel_rfl
        case bn8 => kernel_rfl
        case cn8 => kernel_rfl
        case qn8 => exact fun _ _ _ h => h
        case dn8 => rfl
        case hyn8 => (intro z hSw; (try dsimp only at hSw); go_simp; (try with_reducible rfl))
        try simp only [Act.put, List.setIfInBounds_toArray, List.set_cons_zero, List.set_cons_succ]
        refine wpAnyH_ready (rs := [6]) (by kernel_rfl) (by simp) ?_
        refine AllReadyH.cons (o := ?on9) ?hin9 ?restn9 AllReadyH.nil
        case hin9 => (simp only [List.getElem?_toArray, List.getElem?_cons_succ, List.getElem?_cons_zero]; exact rfl)
        intro K hK
        go_simp
        go_at_call 89
        refine (HS.out _ (HG.out.trans (h2.trans (Grew.refl _)))).mono ?_
        rintro e w3 ⟨rfl, hgw3⟩
        have h3 : Grew w1 w3 := h2.trans hgw3
        refine hK.out _ _ ?_ (fun hHeld => ?_)
        · (try dsimp only); first | with_reducible assumption | exact Grew.alloc ‹_› _
        clear hK K
        try simp only [Act.put, List.setIfInBounds_toArray, List.set_cons_zero, List.set_cons_succ]
        refine wpAnyH_take (i := 9) (oi := ?on10) (v := ?vn10) ?hin10 ?an10 ?bn10 ?cn10 ?qn10 (Or.inl ⟨?dn10, ?hyn10⟩) hHeld ?restn10
        case hin10 => (simp only [List.getElem?_toArray, List.getElem?_cons_succ, List.getElem?_cons_zero]; exact rfl)
        case an10 => kernel_rfl
        case bn10 => kernel_rfl
        case cn10 => kernel_rfl
        case qn10 => exact fun _ _ _ h => h
        case dn10 => rfl
        case hyn10 => (intro z hSw; (try dsimp only at hSw); go_simp; (try with_reducible rfl))
        try simp only [Act.put, List.setIfInBounds_toArray, List.set_cons_zero, List.set_cons_succ]
        refine wpAnyH_take (i := 10) (oi := ?on11) (v := ?vn11) ?hin11 ?an11 ?bn11 ?cn11 ?qn11 (Or.inl ⟨?dn11, ?hyn11⟩) hHeld ?restn11
        case hin11 => (simp only [List.getElem?_toArray, List.getElem?_cons_succ, List.getElem?_cons_zero]; exact rfl)
        case an11 => kernel_rfl
        case bn11 => kernel_rfl
        case cn11 => kernel_rfl
        case qn11 => exact fun _ _ _ h => h
        case dn11 => rfl
        case hyn11 => (intro z hSw; (try dsimp only at hSw); go_simp; (try with_reducible rfl))
        try simp only [Act.put, List.setIfInBounds_toArray, List.set_cons_zero, List.set_cons_succ]
        refine wpAnyH_take (i := 11) (oi := ?on12) (v := ?vn12) ?hin12 ?an12 ?bn12 ?cn12 ?qn12 (Or.inl ⟨?dn12, ?hyn12⟩) hHeld ?restn12
        case hin12 => (simp only [List.getElem?_toArray, List.getElem?_cons_succ, List.getElem?_cons_zero]; exact rfl)
        case an12 => kernel_rfl
        case bn12 => kernel_rfl
        case cn12 => kernel_rfl
        case qn12 => exact fun _ _ _ h => h
        case dn12 => rfl
        case hyn12 => (intro z hSw; (try dsimp only at hSw); go_simp; (try with_reducible rfl))
        try simp only [Act.put, List.setIfInBounds_toArray, List.set_cons_zero, List.set_cons_succ]
        refine wpAnyH_take (i := 12) (oi := ?on13) (v := ?vn13) ?hin13 ?an13 ?bn13 ?cn13 ?qn13 (Or.inl ⟨?dn13, ?hyn13⟩) hHeld ?restn13
        case hin13 => (simp only [List.getElem?_toArray, List.getElem?_cons_succ, List.getElem?_cons_zero]; exact rfl)
        case an13 => kernel_rfl
        case bn13 => kernel_rfl
        case cn13 => kernel_rfl
        case qn13 => exact fun _ _ _ h => h
        case dn13 => rfl
        case hyn13 => (intro z hSw; (try dsimp only at hSw); go_simp; (try with_reducible rfl))
        try simp only [Act.put, List.setIfInBounds_toArray, List.set_cons_zero, List.set_cons_succ]
        refine wpAnyH_take (i := 13) (oi := ?on14) (v := ?vn14) ?hin14 ?an14 ?bn14 ?cn14 ?qn14 (Or.inl ⟨?dn14, ?hyn14⟩) hHeld ?restn14
        case hin14 => (simp only [List.getElem?_toArray, List.getElem?_cons_succ, List.getElem?_cons_zero]; exact rfl)
        case an14 => kernel_rfl
        case bn14 => kernel_rfl
        case cn14 => kernel_rfl
        case qn14 => exact fun _ _ _ h => h
        case dn14 => rfl
        case hyn14 => (intro z hSw; (try dsimp only at hSw); go_simp; (try with_reducible rfl))
        try simp only [Act.put, List.setIfInBounds_toArray, List.set_cons_zero, List.set_cons_succ]
        refine wpAnyH_ready (rs := [14]) (by kernel_rfl) (by simp) ?_
        refine AllReadyH.cons (o := ?on15) ?hin15 ?restn15 AllReadyH.nil
        case hin15 => (simp only [List.getElem?_toArray, List.getElem?_cons_succ, List.getElem?_cons_zero]; exact rfl)
        intro K hK
        go_simp
        go_at_call 90
        refine (HM.out _ (HG.out.trans h3)).mono ?_
        rintro e w4 ⟨rfl, hgw4⟩
        have h4 : Grew w1 w4 := h3.trans hgw4
        refine hK.out _ _ ?_ (fun hHeld => ?_)
        · (try dsimp only); first | with_reducible assumption | exact Grew.alloc ‹_› _
        clear hK K
        try simp only [Act.put, List.setIfInBounds_toArray, List.set_cons_zero, List.set_cons_succ]
        refine wpAnyH_take (i := 15) (oi := ?on16) (v := ?vn16) ?hin16 ?an16 ?bn16 ?cn16 ?qn16 (Or.inl ⟨?dn16, ?hyn16⟩) hHeld ?restn16
        case hin16 => (simp only [List.getElem?_toArray, List.getElem?_cons_succ, List.getElem?_cons_zero]; exact rfl)
        case an16 => kernel_rfl
        case bn16 => kernel_rfl
        case cn16 => kernel_rfl
        case qn16 => exact fun _ _ _ h => h
        case dn16 => rfl
        case hyn16 => (intro z hSw; (try dsimp only at hSw); go_simp; (try with_reducible rfl))
        try simp only [Act.put, List.setIfInBounds_toArray, List.set_cons_zero, List.set_cons_succ]
        refine wpAnyH_take (i := 16) (oi := ?on17) (v := ?vn17) ?hin17 ?an17 ?bn17 ?cn17 ?qn17 (Or.inl ⟨?dn17, ?hyn17⟩) hHeld ?restn17
        case hin17 => (simp only [List.getElem?_toArray, List.getElem?_cons_succ, List.getElem?_cons_zero]; exact rfl)
        case an17 => kernel_rfl
        case bn17 => kernel_rfl
        case cn17 => kernel_rfl
        case qn17 => exact fun _ _ _ h => h
        case dn17 => rfl
        case hyn17 => (intro z hSw; (try dsimp only at hSw); go_simp; (try with_reducible rfl))
        try simp only [Act.put, List.setIfInBounds_toArray, List.set_cons_zero, List.set_cons_succ]
        refine wpAnyH_done (by kernel_rfl) ?_ _
        go_wp2_with fail
        go_ret
        exact ⟨rfl, HG.out.trans h4⟩
      | false =>
        rw [h3] at HM
        obtain ⟨A, c, rfl⟩ := ints_slice h
        clear h h3 hn h1
        generalize L.length = n at *
        go_enter Tryz.func46, Tryz.ntmps46
        go_wp2_with fail
        simp only [← hw1]
        clear hw1
        refine wp_region_held_drew (S := fun w' => Grew w1 w') (by kernel_rfl) r1d (fun hHeld => ?_)
        refine wpAnyH_take (i := 0) (oi := ?on18) (v := ?vn18) ?hin18 ?an18 ?bn18 ?cn18 ?qn18 (Or.inl ⟨?dn18, ?hyn18⟩) hHeld ?restn18
        case hin18 => (simp only [List.getElem?_toArray, List.getElem?_cons_zero]; exact rfl)
        case an18 => kernel_rfl
        case bn18 => kernel_rfl
        case cn18 => kernel_rfl
        case qn18 => exact fun _ _ _ h => h
        case dn18 => rfl
        case hyn18 => (intro z hSw; (try dsimp only at hSw); go_simp; (try with_reducible rfl))
        try simp only [Act.put, List.setIfInBounds_toArray, List.set_cons_zero, List.set_cons_succ]
        refine wpAnyH_take (i := 1) (oi := ?on19) (v := ?vn19) ?hin19 ?an19 ?bn19 ?cn19 ?qn19 (Or.inl ⟨?dn19, ?hyn19⟩) hHeld ?restn19
        case hin19 => (simp only [List.getElem?_toArray, List.getElem?_cons_succ, List.getElem?_cons_zero]; exact rfl)
        case an19 => kernel_rfl
        case bn19 => kernel_rfl
        case cn19 => kernel_rfl
        case qn19 => exact fun _ _ _ h => h
        case dn19 => rfl
        case hyn19 => (intro z hSw; (try dsimp only at hSw); go_simp; (try with_reducible rfl))
        try simp only [Act.put, List.setIfInBounds_toArray, List.set_cons_zero, List.set_cons_succ]
        refine wpAnyH_ready (rs := [2]) (by kernel_rfl) (by simp) ?_
        refine AllReadyH.cons (o := ?on20) ?hin20 ?restn20 AllReadyH.nil
        case hin20 => (simp only [List.getElem?_toArray, List.getElem?_cons_succ, List.getElem?_cons_zero]; exact rfl)
        intro K hK
        go_simp
        go_at_call 88
        refine (HI.out _).mono ?_
        rintro e w2 ⟨rfl, hgw2⟩
        have h2 : Grew w1 w2 := Grew.trans (by repeat (first | with_reducible assumption | with_reducible refine Grew.alloc ?_ _ | with_reducible refine Grew.drew ?_ | with_reducible refine Grew.drewN ?_ _)) hgw2
        refine hK.out _ _ ?_ (fun hHeld => ?_)
        · (try dsimp only); first | with_reducible assumption | exact Grew.alloc ‹_› _
        clear hK K
        try simp only [Act.put, List.setIfInBounds_toArray, List.set_cons_zero, List.set_cons_succ]
        refine wpAnyH_take (i := 3) (oi := ?on21) (v := ?vn21) ?hin21 ?an21 ?bn21 ?cn21 ?qn21 (Or.inl ⟨?dn21, ?hyn21⟩) hHeld ?restn21
        case hin21 => (simp only [List.getElem?_toArray, List.getElem?_cons_succ, List.getElem?_cons_zero]; exact rfl)
        case an21 => kernel_rfl
        case bn21 => kernel_rfl
        case cn21 => kernel_rfl
        case qn21 => exact fun _ _ _ h => h
        case dn21 => rfl
        case hyn21 => (intro z hSw; (try dsimp only at hSw); go_simp; (try with_reducible rfl))
        try simp only [Act.put, List.setIfInBounds_toArray, List.set_cons_zero, List.set_cons_succ]
        refine wpAnyH_take (i := 4) (oi := ?on22) (v := ?vn22) ?hin22 ?an22 ?bn22 ?cn22 ?qn22 (Or.inl ⟨?dn22, ?hyn22⟩) hHeld ?restn22
        case hin22 => (simp only [List.getElem?_toArray, List.getElem?_cons_succ, List.getElem?_cons_zero]; exact rfl)
        case an22 => kernel_rfl
        case bn22 => kernel_rfl
        case cn22 => kernel_rfl
        case qn22 => exact fun _ _ _ h => h
        case dn22 => rfl
        case hyn22 => (intro z hSw; (try dsimp only at hSw); go_simp; (try with_reducible rfl))
        try simp only [Act.put, List.setIfInBounds_toArray, List.set_cons_zero, List.set_cons_succ]
        refine wpAnyH_take (i := 5) (oi := ?on23) (v := ?vn23) ?hin23 ?an23 ?bn23 ?cn23 ?qn23 (Or.inl ⟨?dn23, ?hyn23⟩) hHeld ?restn23
        case hin23 => (simp only [List.getElem?_toArray, List.getElem?_cons_succ, List.getElem?_cons_zero]; exact rfl)
        case an23 => kernel_rfl
        case bn23 => kernel_rfl
        case cn23 => kernel_rfl
        case qn23 => exact fun _ _ _ h => h
        case dn23 => rfl
        case hyn23 => (intro z hSw; (try dsimp only at hSw); go_simp; (try with_reducible rfl))
        try simp only [Act.put, List.setIfInBounds_toArray, List.set_cons_zero, List.set_cons_succ]
        refine wpAnyH_take (i := 7) (oi := ?on24) (v := ?vn24) ?hin24 ?an24 ?bn24 ?cn24 ?qn24 (Or.inl ⟨?dn24, ?hyn24⟩) hHeld ?restn24
        case hin24 => (simp only [List.getElem?_toArray, List.getElem?_cons_succ, List.getElem?_cons_zero]; exact rfl)
        case an24 => kernel_rfl
        case bn24 => kernel_rfl
        case cn24 => kernel_rfl
        case qn24 => exact fun _ _ _ h => h
        case dn24 => rfl
        case hyn24 => (intro z hSw; (try dsimp only at hSw); go_simp; (try with_reducible rfl))
        try simp only [Act.put, List.setIfInBounds_toArray, List.set_cons_zero, List.set_cons_succ]
        refine wpAnyH_take (i := 8) (oi := ?on25) (v := ?vn25) ?hin25 ?an25 ?bn25 ?cn25 ?qn25 (Or.inl ⟨?dn25, ?hyn25⟩) hHeld ?restn25
        case hin25 => (simp only [List.getElem?_toArray, List.getElem?_cons_succ, List.getElem?_cons_zero]; exact rfl)
        case an25 => kernel_rfl
        case bn25 => kernel_rfl
        case cn25 => kernel_rfl
        case qn25 => exact fun _ _ _ h => h
        case dn25 => rfl
        case hyn25 => (intro z hSw; (try dsimp only at hSw); go_simp; (try with_reducible rfl))
        try simp only [Act.put, List.setIfInBounds_toArray, List.set_cons_zero, List.set_cons_succ]
        refine wpAnyH_ready (rs := [6]) (by kernel_rfl) (by simp) ?_
        refine AllReadyH.cons (o := ?on26) ?hin26 ?restn26 AllReadyH.nil
        case hin26 => (simp only [List.getElem?_toArray, List.getElem?_cons_succ, List.getElem?_cons_zero]; exact rfl)
        intro K hK
        go_simp
        go_at_call 89
        refine (HS.out _ (HG.out.trans (h2.trans (Grew.refl _)))).mono ?_
        rintro e w3 ⟨rfl, hgw3⟩
        have h3 : Grew w1 w3 := h2.trans hgw3
        refine hK.out _ _ ?_ (fun hHeld => ?_)
        · (try dsimp only); first | with_reducible assumption | exact Grew.alloc ‹_› _
        clear hK K
        try simp only [Act.put, List.setIfInBounds_toArray, List.set_cons_zero, List.set_cons_succ]
        refine wpAnyH_take (i := 9) (oi := ?on27) (v := ?vn27) ?hin27 ?an27 ?bn27 ?cn27 ?qn27 (Or.inl ⟨?dn27, ?hyn27⟩) hHeld ?restn27
        case hin27 => (simp only [List.getElem?_toArray, List.getElem?_cons_succ, List.getElem?_cons_zero]; exact rfl)
        case an27 => kernel_rfl
        case bn27 => kernel_rfl
        case cn27 => kernel_rfl
        case qn27 => exact fun _ _ _ h => h
        case dn27 => rfl
        case hyn27 => (intro z hSw; (try dsimp only at hSw); go_simp; (try with_reducible rfl))
        try simp only [Act.put, List.setIfInBounds_toArray, List.set_cons_zero, List.set_cons_succ]
        refine wpAnyH_take (i := 10) (oi := ?on28) (v := ?vn28) ?hin28 ?an28 ?bn28 ?cn28 ?qn28 (Or.inl ⟨?dn28, ?hyn28⟩) hHeld ?restn28
        case hin28 => (simp only [List.getElem?_toArray, List.getElem?_cons_succ, List.getElem?_cons_zero]; exact rfl)
        case an28 => kernel_rfl
        case bn28 => kernel_rfl
        case cn28 => kernel_rfl
        case qn28 => exact fun _ _ _ h => h
        case dn28 => rfl
        case hyn28 => (intro z hSw; (try dsimp only at hSw); go_simp; (try with_reducible rfl))
        try simp only [Act.put, List.setIfInBounds_toArray, List.set_cons_zero, List.set_cons_succ]
        refine wpAnyH_take (i := 11) (oi := ?on29) (v := ?vn29) ?hin29 ?an29 ?bn29 ?cn29 ?qn29 (Or.inl ⟨?dn29, ?hyn29⟩) hHeld ?restn29
        case hin29 => (simp only [List.getElem?_toArray, List.getElem?_cons_succ, List.getElem?_cons_zero]; exact rfl)
        case an29 => kernel_rfl
        case bn29 => kernel_rfl
        case cn29 => kernel_rfl
        case qn29 => exact fun _ _ _ h => h
        case dn29 => rfl
        case hyn29 => (intro z hSw; (try dsimp only at hSw); go_simp; (try with_reducible rfl))
        try simp only [Act.put, List.setIfInBounds_toArray, List.set_cons_zero, List.set_cons_succ]
        refine wpAnyH_take (i := 12) (oi := ?on30) (v := ?vn30) ?hin30 ?an30 ?bn30 ?cn30 ?qn30 (Or.inl ⟨?dn30, ?hyn30⟩) hHeld ?restn30
        case hin30 => (simp only [List.getElem?_toArray, List.getElem?_cons_succ, List.getElem?_cons_zero]; exact rfl)
        case an30 => kernel_rfl
        case bn30 => kernel_rfl
        case cn30 => kernel_rfl
        case qn30 => exact fun _ _ _ h => h
        case dn30 => rfl
        case hyn30 => (intro z hSw; (try dsimp only at hSw); go_simp; (try with_reducible rfl))
        try simp only [Act.put, List.setIfInBounds_toArray, List.set_cons_zero, List.set_cons_succ]
        refine wpAnyH_take (i := 13) (oi := ?on31) (v := ?vn31) ?hin31 ?an31 ?bn31 ?cn31 ?qn31 (Or.inl ⟨?dn31, ?hyn31⟩) hHeld ?restn31
        case hin31 => (simp only [List.getElem?_toArray, List.getElem?_cons_succ, List.getElem?_cons_zero]; exact rfl)
        case an31 => kernel_rfl
        case bn31 => kernel_rfl
        case cn31 => kernel_rfl
        case qn31 => exact fun _ _ _ h => h
        case dn31 => rfl
        case hyn31 => (intro z hSw; (try dsimp only at hSw); go_simp; (try with_reducible rfl))
        try simp only [Act.put, List.setIfInBounds_toArray, List.set_cons_zero, List.set_cons_succ]
        refine wpAnyH_ready (rs := [14]) (by kernel_rfl) (by simp) ?_
        refine AllReadyH.cons (o := ?on32) ?hin32 ?restn32 AllReadyH.nil
        case hin32 => (simp only [List.getElem?_toArray, List.getElem?_cons_succ, List.getElem?_cons_zero]; exact rfl)
        intro K hK
        go_simp
        go_at_call 90
        refine (HM.out _ (HG.out.trans h3)).mono ?_
        rintro e w4 ⟨rfl, hgw4⟩
        have h4 : Grew w1 w4 := h3.trans hgw4
        refine hK.out _ _ ?_ (fun hHeld => ?_)
        · (try dsimp only); first | with_reducible assumption | exact Grew.alloc ‹_› _
        clear hK K
        try simp only [Act.put, List.setIfInBounds_toArray, List.set_cons_zero, List.set_cons_succ]
        refine wpAnyH_take (i := 15) (oi := ?on33) (v := ?vn33) ?hin33 ?an33 ?bn33 ?cn33 ?qn33 (Or.inl ⟨?dn33, ?hyn33⟩) hHeld ?restn33
        case hin33 => (simp only [List.getElem?_toArray, List.getElem?_cons_succ, List.getElem?_cons_zero]; exact rfl)
        case an33 => kernel_rfl
        case bn33 => kernel_rfl
        case cn33 => kernel_rfl
        case qn33 => exact fun _ _ _ h => h
        case dn33 => rfl
        case hyn33 => (intro z hSw; (try dsimp only at hSw); go_simp; (try with_reducible rfl))
        try simp only [Act.put, List.setIfInBounds_toArray, List.set_cons_zero, List.set_cons_succ]
        refine wpAnyH_take (i := 16) (oi := ?on34) (v := ?vn34) ?hin34 ?an34 ?bn34 ?cn34 ?qn34 (Or.inl ⟨?dn34, ?hyn34⟩) hHeld ?restn34
        case hin34 => (simp only [List.getElem?_toArray, List.getElem?_cons_succ, List.getElem?_cons_zero]; exact rfl)
        case an34 => kernel_rfl
        case bn34 => kernel_rfl
        case cn34 => kernel_rfl
        case qn34 => exact fun _ _ _ h => h
        case dn34 => rfl
        case hyn34 => (intro z hSw; (try dsimp only at hSw); go_simp; (try with_reducible rfl))
        try simp only [Act.put, List.setIfInBounds_toArray, List.set_cons_zero, List.set_cons_succ]
        refine wpAnyH_done (by kernel_rfl) ?_ _
        go_wp2_with fail
        go_ret
        exact ⟨rfl, HG.out.trans h4⟩
    · rw [decide_eq_false h2, Bool.false_and]
      have hq : ((L.length : Int) == sz) = false := by simpa using h2
      obtain ⟨A, c, rfl⟩ := ints_slice h
      clear h h2 HM
      generalize L.length = n at *
      go_enter Tryz.func46, Tryz.ntmps46
      go_wp2_with fail
      simp only [← hw1]
      clear hw1
      refine wp_region_held_drew (S := fun w' => Grew w1 w') (by kernel_rfl) r1d (fun hHeld => ?_)
      refine wpAnyH_take (i := 0) (oi := ?on35) (v := ?vn35) ?hin35 ?an35 ?bn35 ?cn35 ?qn35 (Or.inl ⟨?dn35, ?hyn35⟩) hHeld ?restn35
      case hin35 => (simp only [List.getElem?_toArray, List.getElem?_cons_zero]; exact rfl)
      case an35 => kernel_rfl
      case bn35 => kernel_rfl
      case cn35 => kernel_rfl
      case qn35 => exact fun _ _ _ h => h
      case dn35 => rfl
      case hyn35 => (intro z hSw; (try dsimp only at hSw); go_simp; (try with_reducible rfl))
      try simp only [Act.put, List.setIfInBounds_toArray, List.set_cons_zero, List.set_cons_succ]
      refine wpAnyH_take (i := 1) (oi := ?on36) (v := ?vn36) ?hin36 ?an36 ?bn36 ?cn36 ?qn36 (Or.inl ⟨?dn36, ?hyn36⟩) hHeld ?restn36
      case hin36 => (simp only [List.getElem?_toArray, List.getElem?_cons_succ, List.getElem?_cons_zero]; exact rfl)
      case an36 => kernel_rfl
      case bn36 => kernel_rfl
      case cn36 => kernel_rfl
      case qn36 => exact fun _ _ _ h => h
      case dn36 => rfl
      case hyn36 => (intro z hSw; (try dsimp only at hSw); go_simp; (try with_reducible rfl))
      try simp only [Act.put, List.setIfInBounds_toArray, List.set_cons_zero, List.set_cons_succ]
      refine wpAnyH_ready (rs := [2]) (by kernel_rfl) (by simp) ?_
      refine AllReadyH.cons (o := ?on37) ?hin37 ?restn37 AllReadyH.nil
      case hin37 => (simp only [List.getElem?_toArray, List.getElem?_cons_succ, List.getElem?_cons_zero]; exact rfl)
      intro K hK
      go_simp
      go_at_call 88
      refine (HI.out _).mono ?_
      rintro e w2 ⟨rfl, hgw2⟩
      have h2 : Grew w1 w2 := Grew.trans (by repeat (first | with_reducible assumption | with_reducible refine Grew.alloc ?_ _ | with_reducible refine Grew.drew ?_ | with_reducible refine Grew.drewN ?_ _)) hgw2
      refine hK.out _ _ ?_ (fun hHeld => ?_)
      · (try dsimp only); first | with_reducible assumption | exact Grew.alloc ‹_› _
      clear hK K
      try simp only [Act.put, List.setIfInBounds_toArray, List.set_cons_zero, List.set_cons_succ]
      refine wpAnyH_take (i := 3) (oi := ?on38) (v := ?vn38) ?hin38 ?an38 ?bn38 ?cn38 ?qn38 (Or.inl ⟨?dn38, ?hyn38⟩) hHeld ?restn38
      case hin38 => (simp only [List.getElem?_toArray, List.getElem?_cons_succ, List.getElem?_cons_zero]; exact rfl)
      case an38 => kernel_rfl
      case bn38 => kernel_rfl
      case cn38 => kernel_rfl
      case qn38 => exact fun _ _ _ h => h
      case dn38 => rfl
      case hyn38 => (intro z hSw; (try dsimp only at hSw); go_simp; (try with_reducible rfl))
      try simp only [Act.put, List.setIfInBounds_toArray, List.set_cons_zero, List.set_cons_succ]
      refine wpAnyH_take (i := 4) (oi := ?on39) (v := ?vn39) ?hin39 ?an39 ?bn39 ?cn39 ?qn39 (Or.inl ⟨?dn39, ?hyn39⟩) hHeld ?restn39
      case hin39 => (simp only [List.getElem?_toArray, List.getElem?_cons_succ, List.getElem?_cons_zero]; exact rfl)
      case an39 => kernel_rfl
      case bn39 => kernel_rfl
      case cn39 => kernel_rfl
      case qn39 => exact fun _ _ _ h => h
      case dn39 => rfl
      case hyn39 => (intro z hSw; (try dsimp only at hSw); go_simp; (try with_reducible rfl))
      try simp only [Act.put, List.setIfInBounds_toArray, List.set_cons_zero, List.set_cons_succ]
      refine wpAnyH_take (i := 5) (oi := ?on40) (v := ?vn40) ?hin40 ?an40 ?bn40 ?cn40 ?qn40 (Or.inl ⟨?dn40, ?hyn40⟩) hHeld ?restn40
      case hin40 => (simp only [List.getElem?_toArray, List.getElem?_cons_succ, List.getElem?_cons_zero]; exact rfl)
      case an40 => kernel_rfl
      case bn40 => kernel_rfl
      case cn40 => kernel_rfl
      case qn40 => exact fun _ _ _ h => h
      case dn40 => rfl
      case hyn40 => (intro z hSw; (try dsimp only at hSw); go_simp; (try with_reducible rfl))
      try simp only [Act.put, List.setIfInBounds_toArray, List.set_cons_zero, List.set_cons_succ]
      refine wpAnyH_take (i := 7) (oi := ?on41) (v := ?vn41) ?hin41 ?an41 ?bn41 ?cn41 ?qn41 (Or.inl ⟨?dn41, ?hyn41⟩) hHeld ?restn41
      case hin41 => (simp only [List.getElem?_toArray, List.getElem?_cons_succ, List.getElem?_cons_zero]; exact rfl)
      case an41 => kernel_rfl
      case bn41 => kernel_rfl
      case cn41 => kernel_rfl
      case qn41 => exact fun _ _ _ h => h
      case dn41 => rfl
      case hyn41 => (intro z hSw; (try dsimp only at hSw); go_simp; (try with_reducible rfl))
      try simp only [Act.put, List.setIfInBounds_toArray, List.set_cons_zero, List.set_cons_succ]
      refine wpAnyH_take (i := 8) (oi := ?on42) (v := ?vn42) ?hin42 ?an42 ?bn42 ?cn42 ?qn42 (Or.inl ⟨?dn42, ?hyn42⟩) hHeld ?restn42
      case hin42 => (simp only [List.getElem?_toArray, List.getElem?_cons_succ, List.getElem?_cons_zero]; exact rfl)
      case an42 => kernel_rfl
      case bn42 => kernel_rfl
      case cn42 => kernel_rfl
      case qn42 => exact fun _ _ _ h => h
      case dn42 => rfl
      case hyn42 => (intro z hSw; (try dsimp only at hSw); go_simp; (try with_reducible rfl))
      try simp only [Act.put, List.setIfInBounds_toArray, List.set_cons_zero, List.set_cons_succ]
      refine wpAnyH_ready (rs := [6]) (by kernel_rfl) (by simp) ?_
      refine AllReadyH.cons (o := ?on43) ?hin43 ?restn43 AllReadyH.nil
      case hin43 => (simp only [List.getElem?_toArray, List.getElem?_cons_succ, List.getElem?_cons_zero]; exact rfl)
      intro K hK
      go_simp
      go_at_call 89
      refine (HS.out _ (HG.out.trans (h2.trans (Grew.refl _)))).mono ?_
      rintro e w3 ⟨rfl, hgw3⟩
      have h3 : Grew w1 w3 := h2.trans hgw3
      refine hK.out _ _ ?_ (fun hHeld => ?_)
      · (try dsimp only); first | with_reducible assumption | exact Grew.alloc ‹_› _
      clear hK K
      try simp only [Act.put, List.setIfInBounds_toArray, List.set_cons_zero, List.set_cons_succ]
      refine wpAnyH_take (i := 9) (oi := ?on44) (v := ?vn44) ?hin44 ?an44 ?bn44 ?cn44 ?qn44 (Or.inl ⟨?dn44, ?hyn44⟩) hHeld ?restn44
      case hin44 => (simp only [List.getElem?_toArray, List.getElem?_cons_succ, List.getElem?_cons_zero]; exact rfl)
      case an44 => kernel_rfl
      case bn44 => kernel_rfl
      case cn44 => kernel_rfl
      case qn44 => exact fun _ _ _ h => h
      case dn44 => rfl
      case hyn44 => (intro z hSw; (try dsimp only at hSw); go_simp; (try with_reducible rfl))
      try simp only [Act.put, List.setIfInBounds_toArray, List.set_cons_zero, List.set_cons_succ]
      refine wpAnyH_take (i := 10) (oi := ?on45) (v := ?vn45) ?hin45 ?an45 ?bn45 ?cn45 ?qn45 (Or.inl ⟨?dn45, ?hyn45⟩) hHeld ?restn45
      case hin45 => (simp only [List.getElem?_toArray, List.getElem?_cons_succ, List.getElem?_cons_zero]; exact rfl)
      case an45 => kernel_rfl
      case bn45 => kernel_rfl
      case cn45 => kernel_rfl
      case qn45 => exact fun _ _ _ h => h
      case dn45 => rfl
      case hyn45 => (intro z hSw; (try dsimp only at hSw); go_simp; (try with_reducible rfl))
      try simp only [Act.put, List.setIfInBounds_toArray, List.set_cons_zero, List.set_cons_succ]
      refine wpAnyH_take (i := 11) (oi := ?on46) (v := ?vn46) ?hin46 ?an46 ?bn46 ?cn46 ?qn46 (Or.inl ⟨?dn46, ?hyn46⟩) hHeld ?restn46
      case hin46 => (simp only [List.getElem?_toArray, List.getElem?_cons_succ, List.getElem?_cons_zero]; exact rfl)
      case an46 => kernel_rfl
      case bn46 => kernel_rfl
      case cn46 => kernel_rfl
      case qn46 => exact fun _ _ _ h => h
      case dn46 => rfl
      case hyn46 => (intro z hSw; (try dsimp only at hSw); go_simp; (try with_reducible rfl))
      try simp only [Act.put, List.setIfInBounds_toArray, List.set_cons_zero, List.set_cons_succ]
      refine wpAnyH_take (i := 12) (oi := ?on47) ?hin47 ?an47 ?bn47 ?cn47 ?qn47 (Or.inr ⟨?dn47, rfl⟩) hHeld ?restn47
      case hin47 => (simp only [List.getElem?_toArray, List.getElem?_cons_succ, List.getElem?_cons_zero]; exact rfl)
      case an47 => kernel_rfl
      case bn47 => kernel_rfl
      case cn47 => kernel_rfl
      case qn47 => exact fun _ _ _ h => h
      case dn47 => rfl
      try simp only [Act.put, List.setIfInBounds_toArray, List.set_cons_zero, List.set_cons_succ]
      refine wpAnyH_take (i := 13) (oi := ?on48) ?hin48 ?an48 ?bn48 ?cn48 ?qn48 (Or.inr ⟨?dn48, rfl⟩) hHeld ?restn48
      case hin48 => (simp only [List.getElem?_toArray, List.getElem?_cons_succ, List.getElem?_cons_zero]; exact rfl)
      case an48 => kernel_rfl
      case bn48 => kernel_rfl
      case cn48 => kernel_rfl
      case qn48 => exact fun _ _ _ h => h
      case dn48 => rfl
      try simp only [Act.put, List.setIfInBounds_toArray, List.set_cons_zero, List.set_cons_succ]
      refine wpAnyH_take (i := 14) (oi := ?on49) ?hin49 ?an49 ?bn49 ?cn49 ?qn49 (Or.inr ⟨?dn49, rfl⟩) hHeld ?restn49
      case hin49 => (simp only [List.getElem?_toArray, List.getElem?_cons_succ, List.getElem?_cons_zero]; exact rfl)
      case an49 => kernel_rfl
      case bn49 => kernel_rfl
      case cn49 => kernel_rfl
      case qn49 => exact fun _ _ _ h => h
      case dn49 => rfl
      try simp only [Act.put, List.setIfInBounds_toArray, List.set_cons_zero, List.set_cons_succ]
      refine wpAnyH_take (i := 15) (oi := ?on50) (v := ?vn50) ?hin50 ?an50 ?bn50 ?cn50 ?qn50 (Or.inl ⟨?dn50, ?hyn50⟩) hHeld ?restn50
      case hin50 => (simp only [List.getElem?_toArray, List.getElem?_cons_succ, List.getElem?_cons_zero]; exact rfl)
      case an50 => kernel_rfl
      case bn50 => kernel_rfl
      case cn50 => kernel_rfl
      case qn50 => exact fun _ _ _ h => h
      case dn50 => rfl
      case hyn50 => (intro z hSw; (try dsimp only at hSw); go_simp; (try with_reducible rfl))
      try simp only [Act.put, List.setIfInBounds_toArray, List.set_cons_zero, List.set_cons_succ]
      refine wpAnyH_take (i := 16) (oi := ?on51) (v := ?vn51) ?hin51 ?an51 ?bn51 ?cn51 ?qn51 (Or.inl ⟨?dn51, ?hyn51⟩) hHeld ?restn51
      case hin51 => (simp only [List.getElem?_toArray, List.getElem?_cons_succ, List.getElem?_cons_zero]; exact rfl)
      case an51 => kernel_rfl
      case bn51 => kernel_rfl
      case cn51 => kernel_rfl
      case qn51 => exact fun _ _ _ h => h
      case dn51 => rfl
      case hyn51 => (intro z hSw; (try dsimp only at hSw); go_simp; (try with_reducible rfl))
      try simp only [Act.put, List.setIfInBounds_toArray, List.set_cons_zero, List.set_cons_succ]
      refine wpAnyH_done (by kernel_rfl) ?_ _
      go_wp2_with fail
      go_ret
      exact ⟨rfl, HG.out.trans h3⟩
  · rw [decide_eq_false h1] at HI ⊢
    rw [Bool.false_and]
    obtain ⟨A, c, rfl⟩ := ints_slice h
    clear h HM
    generalize L.length = n at *
    go_enter Tryz.func46, Tryz.ntmps46
    go_wp2_with fail
    simp only [← hw1]
    clear hw1
    refine wp_region_held_drew (S := fun w' => Grew w1 w') (by kernel_rfl) r1d (fun hHeld => ?_)
    refine wpAnyH_take (i := 0) (oi := ?on52) (v := ?vn52) ?hin52 ?an52 ?bn52 ?cn52 ?qn52 (Or.inl ⟨?dn52, ?hyn52⟩) hHeld ?restn52
    case hin52 => (simp only [List.getElem?_toArray, List.getElem?_cons_zero]; exact rfl)
    case an52 => kernel_rfl
    case bn52 => kernel_rfl
    case cn52 => kernel_rfl
    case qn52 => exact fun _ _ _ h => h
    case dn52 => rfl
    case hyn52 => (intro z hSw; (try dsimp only at hSw); go_simp; (try with_reducible rfl))
    try simp only [Act.put, List.setIfInBounds_toArray, List.set_cons_zero, List.set_cons_succ]
    refine wpAnyH_take (i := 1) (oi := ?on53) (v := ?vn53) ?hin53 ?an53 ?bn53 ?cn53 ?qn53 (Or.inl ⟨?dn53, ?hyn53⟩) hHeld ?restn53
    case hin53 => (simp only [List.getElem?_toArray, List.getElem?_cons_succ, List.getElem?_cons_zero]; exact rfl)
    case an53 => kernel_rfl
    case bn53 => kernel_rfl
    case cn53 => kernel_rfl
    case qn53 => exact fun _ _ _ h => h
    case dn53 => rfl
    case hyn53 => (intro z hSw; (try dsimp only at hSw); go_simp; (try with_reducible rfl))
    try simp only [Act.put, List.setIfInBounds_toArray, List.set_cons_zero, List.set_cons_succ]
    refine wpAnyH_ready (rs := [2]) (by kernel_rfl) (by simp) ?_
    refine AllReadyH.cons (o := ?on54) ?hin54 ?restn54 AllReadyH.nil
    case hin54 => (simp only [List.getElem?_toArray, List.getElem?_cons_succ, List.getElem?_cons_zero]; exact rfl)
    intro K hK
    go_simp
    go_at_call 88
    refine (HI.out _).mono ?_
    rintro e w2 ⟨rfl, hgw2⟩
    have h2 : Grew w1 w2 := Grew.trans (by repeat (first | with_reducible assumption | with_reducible refine Grew.alloc ?_ _ | with_reducible refine Grew.drew ?_ | with_reducible refine Grew.drewN ?_ _)) hgw2
    refine hK.out _ _ ?_ (fun hHeld => ?_)
    · (try dsimp only); first | with_reducible assumption | exact Grew.alloc ‹_› _
    clear hK K
    try simp only [Act.put, List.setIfInBounds_toArray, List.set_cons_zero, List.set_cons_succ]
    refine wpAnyH_take (i := 3) (oi := ?on55) (v := ?vn55) ?hin55 ?an55 ?bn55 ?cn55 ?qn55 (Or.inl ⟨?dn55, ?hyn55⟩) hHeld ?restn55
    case hin55 => (simp only [List.getElem?_toArray, List.getElem?_cons_succ, List.getElem?_cons_zero]; exact rfl)
    case an55 => kernel_rfl
    case bn55 => kernel_rfl
    case cn55 => kernel_rfl
    case qn55 => exact fun _ _ _ h => h
    case dn55 => rfl
    case hyn55 => (intro z hSw; (try dsimp only at hSw); go_simp; (try with_reducible rfl))
    try simp only [Act.put, List.setIfInBounds_toArray, List.set_cons_zero, List.set_cons_succ]
    refine wpAnyH_take (i := 4) (oi := ?on56) ?hin56 ?an56 ?bn56 ?cn56 ?qn56 (Or.inr ⟨?dn56, rfl⟩) hHeld ?restn56
    case hin56 => (simp only [List.getElem?_toArray, List.getElem?_cons_succ, List.getElem?_cons_zero]; exact rfl)
    case an56 => kernel_rfl
    case bn56 => kernel_rfl
    case cn56 => kernel_rfl
    case qn56 => exact fun _ _ _ h => h
    case dn56 => rfl
    try simp only [Act.put, List.setIfInBounds_toArray, List.set_cons_zero, List.set_cons_succ]
    refine wpAnyH_take (i := 5) (oi := ?on57) ?hin57 ?an57 ?bn57 ?cn57 ?qn57 (Or.inr ⟨?dn57, rfl⟩) hHeld ?restn57
    case hin57 => (simp only [List.getElem?_toArray, List.getElem?_cons_succ, List.getElem?_cons_zero]; exact rfl)
    case an57 => kernel_rfl
    case bn57 => kernel_rfl
    case cn57 => kernel_rfl
    case qn57 => exact fun _ _ _ h => h
    case dn57 => rfl
    try simp only [Act.put, List.setIfInBounds_toArray, List.set_cons_zero, List.set_cons_succ]
    refine wpAnyH_take (i := 6) (oi := ?on58) ?hin58 ?an58 ?bn58 ?cn58 ?qn58 (Or.inr ⟨?dn58, rfl⟩) hHeld ?restn58
    case hin58 => (simp only [List.getElem?_toArray, List.getElem?_cons_succ, List.getElem?_cons_zero]; exact rfl)
    case an58 => kernel_rfl
    case bn58 => kernel_rfl
    case cn58 => kernel_rfl
    case qn58 => exact fun _ _ _ h => h
    case dn58 => rfl
    try simp only [Act.put, List.setIfInBounds_toArray, List.set_cons_zero, List.set_cons_succ]
    refine wpAnyH_take (i := 7) (oi := ?on59) ?hin59 ?an59 ?bn59 ?cn59 ?qn59 (Or.inr ⟨?dn59, rfl⟩) hHeld ?restn59
    case hin59 => (simp only [List.getElem?_toArray, List.getElem?_cons_succ, List.getElem?_cons_zero]; exact rfl)
    case an59 => kernel_rfl
    case bn59 => kernel_rfl
    case cn59 => kernel_rfl
    case qn59 => exact fun _ _ _ h => h
    case dn59 => rfl
    try simp only [Act.put, List.setIfInBounds_toArray, List.set_cons_zero, List.set_cons_succ]
    refine wpAnyH_take (i := 8) (oi := ?on60) ?hin60 ?an60 ?bn60 ?cn60 ?qn60 (Or.inr ⟨?dn60, rfl⟩) hHeld ?restn60
    case hin60 => (simp only [List.getElem?_toArray, List.getElem?_cons_succ, List.getElem?_cons_zero]; exact rfl)
    case an60 => kernel_rfl
    case bn60 => kernel_rfl
    case cn60 => kernel_rfl
    case qn60 => exact fun _ _ _ h => h
    case dn60 => rfl
    try simp only [Act.put, List.setIfInBounds_toArray, List.set_cons_zero, List.set_cons_succ]
    refine wpAnyH_take (i := 9) (oi := ?on61) ?hin61 ?an61 ?bn61 ?cn61 ?qn61 (Or.inr ⟨?dn61, rfl⟩) hHeld ?restn61
    case hin61 => (simp only [List.getElem?_toArray, List.getElem?_cons_succ, List.getElem?_cons_zero]; exact rfl)
    case an61 => kernel_rfl
    case bn61 => kernel_rfl
    case cn61 => kernel_rfl
    case qn61 => exact fun _ _ _ h => h
    case dn61 => rfl
    try simp only [Act.put, List.setIfInBounds_toArray, List.set_cons_zero, List.set_cons_succ]
    refine wpAnyH_take (i := 10) (oi := ?on62) (v := ?vn62) ?hin62 ?an62 ?bn62 ?cn62 ?qn62 (Or.inl ⟨?dn62, ?hyn62⟩) hHeld ?restn62
    case hin62 => (simp only [List.getElem?_toArray, List.getElem?_cons_succ, List.getElem?_cons_zero]; exact rfl)
    case an62 => kernel_rfl
    case bn62 => kernel_rfl
    case cn62 => kernel_rfl
    case qn62 => exact fun _ _ _ h => h
    case dn62 => rfl
    case hyn62 => (intro z hSw; (try dsimp only at hSw); go_simp; (try with_reducible rfl))
    try simp only [Act.put, List.setIfInBounds_toArray, List.set_cons_zero, List.set_cons_succ]
    refine wpAnyH_take (i := 11) (oi := ?on63) (v := ?vn63) ?hin63 ?an63 ?bn63 ?cn63 ?qn63 (Or.inl ⟨?dn63, ?hyn63⟩) hHeld ?restn63
    case hin63 => (simp only [List.getElem?_toArray, List.getElem?_cons_succ, List.getElem?_cons_zero]; exact rfl)
    case an63 => kernel_rfl
    case bn63 => kernel_rfl
    case cn63 => kernel_rfl
    case qn63 => exact fun _ _ _ h => h
    case dn63 => rfl
    case hyn63 => (intro z hSw; (try dsimp only at hSw); go_simp; (try with_reducible rfl))
    try simp only [Act.put, List.setIfInBounds_toArray, List.set_cons_zero, List.set_cons_succ]
    refine wpAnyH_take (i := 12) (oi := ?on64) ?hin64 ?an64 ?bn64 ?cn64 ?qn64 (Or.inr ⟨?dn64, rfl⟩) hHeld ?restn64
    case hin64 => (simp only [List.getElem?_toArray, List.getElem?_cons_succ, List.getElem?_cons_zero]; exact rfl)
    case an64 => kernel_rfl
    case bn64 => kernel_rfl
    case cn64 => kernel_rfl
    case qn64 => exact fun _ _ _ h => h
    case dn64 => rfl
    try simp only [Act.put, List.setIfInBounds_toArray, List.set_cons_zero, List.set_cons_succ]
    refine wpAnyH_take (i := 13) (oi := ?on65) ?hin65 ?an65 ?bn65 ?cn65 ?qn65 (Or.inr ⟨?dn65, rfl⟩) hHeld ?restn65
    case hin65 => (simp only [List.getElem?_toArray, List.getElem?_cons_succ, List.getElem?_cons_zero]; exact rfl)
    case an65 => kernel_rfl
    case bn65 => kernel_rfl
    case cn65 => kernel_rfl
    case qn65 => exact fun _ _ _ h => h
    case dn65 => rfl
    try simp only [Act.put, List.setIfInBounds_toArray, List.set_cons_zero, List.set_cons_succ]
    refine wpAnyH_take (i := 14) (oi := ?on66) ?hin66 ?an66 ?bn66 ?cn66 ?qn66 (Or.inr ⟨?dn66, rfl⟩) hHeld ?restn66
    case hin66 => (simp only [List.getElem?_toArray, List.getElem?_cons_succ, List.getElem?_cons_zero]; exact rfl)
    case an66 => kernel_rfl
    case bn66 => kernel_rfl
    case cn66 => kernel_rfl
    case qn66 => exact fun _ _ _ h => h
    case dn66 => rfl
    try simp only [Act.put, List.setIfInBounds_toArray, List.set_cons_zero, List.set_cons_succ]
    refine wpAnyH_take (i := 15) (oi := ?on67) (v := ?vn67) ?hin67 ?an67 ?bn67 ?cn67 ?qn67 (Or.inl ⟨?dn67, ?hyn67⟩) hHeld ?restn67
    case hin67 => (simp only [List.getElem?_toArray, List.getElem?_cons_succ, List.getElem?_cons_zero]; exact rfl)
    case an67 => kernel_rfl
    case bn67 => kernel_rfl
    case cn67 => kernel_rfl
    case qn67 => exact fun _ _ _ h => h
    case dn67 => rfl
    case hyn67 => (intro z hSw; (try dsimp only at hSw); go_simp; (try with_reducible rfl))
    try simp only [Act.put, List.setIfInBounds_toArray, List.set_cons_zero, List.set_cons_succ]
    refine wpAnyH_take (i := 16) (oi := ?on68) (v := ?vn68) ?hin68 ?an68 ?bn68 ?cn68 ?qn68 (Or.inl ⟨?dn68, ?hyn68⟩) hHeld ?restn68
    case hin68 => (simp only [List.getElem?_toArray, List.getElem?_cons_succ, List.getElem?_cons_zero]; exact rfl)
    case an68 => kernel_rfl
    case bn68 => kernel_rfl
    case cn68 => kernel_rfl
    case qn68 => exact fun _ _ _ h => h
    case dn68 => rfl
    case hyn68 => (intro z hSw; (try dsimp only at hSw); go_simp; (try with_reducible rfl))
    try simp only [Act.put, List.setIfInBounds_toArray, List.set_cons_zero, List.set_cons_succ]
    refine wpAnyH_done (by kernel_rfl) ?_ _
    go_wp2_with fail
    go_ret
    exact ⟨rfl, HG.out.trans h2⟩
set_option maxHeartbeats 2000000 in
theorem l05Is_c (sz : Int) (v : Value) (L : List Int) (w : World) (h : Ints w v L) :
    Calls Tryz.prog 49 #[.agg #[.int .i64 sz, v]] w fun e w' => e = .returned (.bool (frB sz L)) ∧ Grew w w' := by
  have HI := Lib.hid (l01In_c sz 0 8)
  have hal := (Grew.refl w).alloc (.cells #[.int .i64 sz, v] 26)
  have HG := Lib.hid hal
  have HM := Lib.hid (fun W hW hn => l01Masks_c L.length v L W (h.grew hW) hn)
  have hmx : L.length ≤ 9223372036854775807 := h.2.1
  have y0 : ∀ W, Grew (w.alloc (.cells #[.int .i64 sz, v] 26)) W → W.cell? ⟨w.heap.size, 0, none⟩ = some (.int .i64 sz) := fun W hW => (hW.cell (p := ⟨w.heap.size, 0, none⟩) (by simp)).trans (by simp)
  have y1 : ∀ W, Grew (w.alloc (.cells #[.int .i64 sz, v] 26)) W → W.cell? ⟨w.heap.size, 1, none⟩ = some v := fun W hW => (hW.cell (p := ⟨w.heap.size, 1, none⟩) (by simp)).trans (by simp)
  obtain ⟨w1, hw1⟩ : ∃ w1, w1 = w.alloc (.cells #[.int .i64 sz, v] 26) := ⟨_, rfl⟩
  rw [← hw1] at y0 y1 HG
  clear hal
  have r1 := Grew.refl w1
  have r1d := r1.drew
  unfold frB
  by_cases h1 : 0 ≤ sz ∧ sz ≤ 8
  · rw [decide_eq_true h1] at HI ⊢
    rw [Bool.true_and]
    by_cases h2 : (L.length : Int) = sz
    · rw [decide_eq_true h2, Bool.true_and]
      obtain rfl := h2
      have hn : L.length ≤ 30 := by omega
      have HM := Lib.hid (fun W hW => HM.out W hW hn)
      have hq : ((L.length : Int) == (L.length : Int)) = true := by simp
      cases h3 : mks L.length L with
      | true =>
        rw [h3] at HM
        obtain ⟨A, c, rfl⟩ := ints_slice h
        clear h h3 hn h1
        generalize L.length = n at *
        go_enter Tryz.func49, Tryz.ntmps49
        go_wp2_with fail
        simp only [← hw1]
        refine (HI.out _).mono ?_
        rintro e w2 ⟨rfl, h2⟩
        clear hw1
        go_wp2_with fail
        refine (HM.out _ (HG.out.trans h2)).mono ?_
        rintro e w4 ⟨rfl, hgm⟩
        have h4 := h2.trans hgm
        go_wp2_with fail
        go_ret
        exact ⟨rfl, HG.out.trans h4⟩
      | false =>
        rw [h3] at HM
        obtain ⟨A, c, rfl⟩ := ints_slice h
        clear h h3 hn h1
        generalize L.length = n at *
        go_enter Tryz.func49, Tryz.ntmps49
        go_wp2_with fail
        simp only [← hw1]
        refine (HI.out _).mono ?_
        rintro e w2 ⟨rfl, h2⟩
        clear hw1
        go_wp2_with fail
        refine (HM.out _ (HG.out.trans h2)).mono ?_
        rintro e w4 ⟨rfl, hgm⟩
        have h4 := h2.trans hgm
        go_wp2_with fail
        go_ret
        exact ⟨rfl, HG.out.trans h4⟩
    · rw [decide_eq_false h2, Bool.false_and]
      have hq : ((L.length : Int) == sz) = false := by simpa using h2
      obtain ⟨A, c, rfl⟩ := ints_slice h
      clear h h2 HM
      generalize L.length = n at *
      go_enter Tryz.func49, Tryz.ntmps49
      go_wp2_with fail
      simp only [← hw1]
      refine (HI.out _).mono ?_
      rintro e w2 ⟨rfl, h2⟩
      clear hw1
      go_wp2_with fail
      go_ret
      exact ⟨rfl, HG.out.trans h2⟩
  · rw [decide_eq_false h1] at HI ⊢
    rw [Bool.false_and]
    obtain ⟨A, c, rfl⟩ := ints_slice h
    clear h HM
    generalize L.length = n at *
    go_enter Tryz.func49, Tryz.ntmps49
    go_wp2_with fail
    simp only [← hw1]
    refine (HI.out _).mono ?_
    rintro e w2 ⟨rfl, h2⟩
    clear hw1
    go_wp2_with fail
    go_ret
    exact ⟨rfl, HG.out.trans h2⟩
end Go.Proofs.YtpfncncohnhanaaGreatDoor

/- The draw of a frame: l05Make, l05Some of the reference; only the shape is told. -/
namespace Go.Proofs.YtpfncncohnhanaaGreatDoor
open Go.RowKit

theorem l05Make_c (v : Value) (L : List Int) (w : World) (h : Ints w v L) (hn : L.length ≤ 1099511627776) :
    Calls Tryz.prog 112 #[v] w (GivesPs w L) := by
  have hinfo := info2F
  have HC := Lib.hid (fun W hW => ownR_c v L W (h.grew hW) hn)
  have hmx : L.length ≤ 9223372036854775807 := h.2.1
  obtain ⟨A, c, rfl⟩ := ints_slice h
  clear h
  generalize hNL : L.length = n at *
  go_enter Tryz.func112, Tryz.ntmps112
  go_wp2_with fail
  refine (HC.out _ ((Grew.refl w).alloc _)).mono ?_
  rintro e w2 ⟨v2, rfl, hO2, hg2⟩
  obtain ⟨A2, c2, rfl⟩ := ints_slice hO2.ints
  have hb2 : w2.heap[w.heap.size]? = some (.cells #[.int .i64 0, .slice none 0 0] 26 (0, 0)) := (hg2.block (by simp)).trans (blk_new w _)
  have c0 : w2.cell? ⟨w.heap.size, 0, none⟩ = some (.int .i64 0) := by rw [blk_cell hb2]; rfl
  have c1 : w2.cell? ⟨w.heap.size, 1, none⟩ = some (.slice none 0 0) := by rw [blk_cell hb2]; rfl
  have f0 := blk_frozen hb2 0
  have f1 := blk_frozen hb2 1
  have HB2 := Lib.hid hb2
  have HO2 := Lib.hid hO2
  clear hb2 hO2
  rw [hNL]
  go_wp2_with fail
  (try simp only [Exit.inBlock, Exit.then])
  refine bodyPost_ret (results_cell_row rfl _ _ w.heap.size _ _ _ _ rfl (blk_set (blk_set HB2.out 0 _) 1 _) Tryz.underlying26 rfl hinfo) rfl ?_
  have hk : Only w.heap.size w2 ((w2.setCell ⟨w.heap.size, 0, none⟩ (.int .i64 (n : Int))).setCell ⟨w.heap.size, 1, none⟩ (.slice A2 n c2)) := ((Only.refl _ _).setCell _).setCell _
  have hO := HO2.out
  rw [hNL] at hO
  refine ⟨_, by rw [hNL]; rfl, ?_, (((Grew.refl w).alloc _).trans hg2).setCell (Nat.le_refl _) _ |>.setCell (Nat.le_refl _) _⟩
  exact OwnI.base (own_only hO hk (fun hh => by have := own_of_ge hO hh; simp at this; omega)) (by simp)
set_option maxRecDepth 100000 in
set_option maxHeartbeats 1000000 in
theorem l05Some_c (g : Nat) (cv : Value) (N : Nat) (m : Nat) (hm : m ≤ 8) (w : World) (h : Src w g cv N) :
    Calls Tryz.prog 84 #[.pointer (some ⟨g, 0, none⟩), .int .i64 (m : Int)] w (GivesD g cv N m w) := by
  have hinfo := info2F
  have hgl := h.lt
  have HF := Lib.hid (fun (i : Nat) (hi : i ≤ 30) W => show Calls Tryz.prog 87 #[.int .i64 (i : Int)] W fun e w' => e = .returned (.int .i64 ((full i : Nat) : Int)) ∧ w' = W from by
    have h0 := l01Full_q i hi W
    rwa [← full_cast] at h0)
  have HFS := Lib.hid (fun (i : Nat) (hi : i ≤ 30) => show full i < 1073741824 from by
    have := pow30' hi
    have := Nat.pow_pos (n := i) (show 0 < 2 by omega)
    unfold full
    omega)
  have HAN := Lib.hid (fun a b (ha : a < 1073741824) (hb : b < 1073741824) => andNot_i64 a b (by omega) (by omega))
  have HAS := Lib.hid (fun a b (ha : a < 1073741824) => Nat.lt_of_le_of_lt (dif_le (a := a) (b := b)) ha)
  have HND := Lib.hid (fun a b (ha : a < 1073741824) (hb : b < 1073741824) => and_i64 a b (by omega) (by omega))
  have HNS := Lib.hid (fun a b (ha : a < 1073741824) => and_sm (a := a) (b := b) ha)
  have hS0 := h.grew ((Grew.refl w).alloc (.cells #[.int .i64 0, .slice none 0 0] 26))
  have HS := Lib.hid hS0
  have HB0 := Lib.hid (blk_new w (.cells #[.int .i64 0, .slice none 0 0] 26))
  have hU0 := ((Grew.refl w).alloc (.cells #[.int .i64 0, .slice none 0 0] 26)).only (g := g)
  have hsz0 : (w.alloc (.cells #[.int .i64 0, .slice none 0 0] 26)).heap.size = w.heap.size + 1 := by simp
  have HSZ := Lib.hid hsz0
  obtain ⟨w0, hw0⟩ : ∃ w0, w0 = w.alloc (.cells #[.int .i64 0, .slice none 0 0] 26) := ⟨_, rfl⟩
  rw [← hw0] at HS HB0 HSZ hU0
  clear h hS0 hsz0
  go_enter Tryz.func84, Tryz.ntmps84
  go_wp2_with fail
  simp only [← hw0]
  clear hw0
  refine (l01Next_c g cv N ((m : Int) + 1) _ HS.out (by omega)).mono ?_
  rintro e w1 ⟨r, rfl, hr0, hr1, _, hS1, ho1⟩
  obtain ⟨n, rfl⟩ : ∃ n : Nat, r = n := ⟨r.toNat, by omega⟩
  have hnm := hr1 (by omega)
  have HS1 := Lib.hid hS1
  have hs1 := ho1.size
  have HG1 := Lib.hid hs1
  clear hr1 hS1 hs1
  go_wp2_with fail
  refine (l01Next_c g cv N 3 _ (HS1.out.grew ((Grew.refl _).alloc _)) (by omega)).mono ?_
  rintro e w2 ⟨th, rfl, ht0, ht1, _, hS2, ho2⟩
  obtain ⟨th, rfl⟩ : ∃ n : Nat, th = n := ⟨th.toNat, by omega⟩
  have ht2 := ht1 (by omega)
  have HS2 := Lib.hid hS2
  have hU2 := (ho1.alloc (.cells #[] 2)).trans ho2
  have HO2 := Lib.hid (own_srcI (own_emptyI w1) (by have := HG1.out; have := HSZ.out; omega) ho2)
  have HFn := Lib.hid (HF.out n (by omega))
  have hfn := HFS.out n (by omega)
  have HFX := Lib.hid (fun j (hj : j < n) => HF.out (j + 1) (by omega))
  have HFY := Lib.hid (fun j (hj : j < n) => HFS.out (j + 1) (by omega))
  clear hS2 ht1 HS1 HS
  generalize full n = fn at *
  have hB1 : w0.heap.size ≤ w1.heap.size := HG1.out
  go_wp2_with fail
  go_loopw [6, 8, 9, 10] (fun s i _ _ wr => ∃ (j : Nat) (K : List Nat), j ≤ n ∧ i = .int .i64 j ∧ Hid (OwnI wr w1.heap.size s (zs K)) ∧ Hid (K.length = j) ∧ Hid (Sm K) ∧ Hid (Src wr g cv N) ∧ Only g w0 wr ∧ w1.heap.size ≤ wr.heap.size) (fun _ i _ _ _ => n - (intOf i).toNat)
  case atStart => exact ⟨0, [], by omega, rfl, HO2, Lib.hid rfl, Lib.hid Sm.nil_, HS2, hU2, by have := ho2.size; simp at this; omega⟩
  case round =>
    obtain ⟨j, K, hj, rfl, hO, hL, hX, hS, hU, hsz⟩ := hrel
    by_cases hlt : j < n
    · go_wp2_with fail
      refine (HFn.out _).mono ?_
      rintro e w3 ⟨rfl, rfl⟩
      go_wp2_with fail
      refine (l01Next_c g cv N ((fn : Int) + 1) _ hS.out (by omega)).mono ?_
      rintro e w4 ⟨r4, rfl, hr40, hr41, _, hS4, ho4⟩
      obtain ⟨a, rfl⟩ : ∃ n : Nat, r4 = n := ⟨r4.toNat, by omega⟩
      have hr42 := hr41 (by omega)
      have ha : a < 1073741824 := by omega
      have hU4 := hU.trans ho4
      have hz4 := Nat.le_trans hsz ho4.size
      have HO4 := Lib.hid (own_srcI hO.out (by have := HSZ.out; omega) ho4)
      have HS4 := Lib.hid hS4
      clear hS4 hr41
      go_wp2_with fail
      go_loopw [9, 10] (fun q i wr => ∃ (k b : Nat), k ≤ th ∧ i = .int .i64 k ∧ q = .int .i64 b ∧ b < 1073741824 ∧ Hid (OwnI wr w1.heap.size u6 (zs K)) ∧ Hid (Src wr g cv N) ∧ Only g w0 wr ∧ w1.heap.size ≤ wr.heap.size) (fun _ i _ => th - (intOf i).toNat)
      case atStart => exact ⟨0, a, by omega, rfl, rfl, ha, HO4, HS4, hU4, hz4⟩
      case round =>
        obtain ⟨k, b, hk, rfl, rfl, hb, hO5, hS5, hU5, hsz5⟩ := hrel
        by_cases hlk : k < th
        · go_wp2_with fail
          refine (HFn.out _).mono ?_
          rintro e w6 ⟨rfl, rfl⟩
          go_wp2_with fail
          refine (l01Next_c g cv N ((fn : Int) + 1) _ hS5.out (by omega)).mono ?_
          rintro e w7 ⟨r7, rfl, hr70, hr71, _, hS7, ho7⟩
          obtain ⟨x, rfl⟩ : ∃ n : Nat, r7 = n := ⟨r7.toNat, by omega⟩
          have hr72 := hr71 (by omega)
          have hnd := HND.out b x hb (by omega)
          have hns := HNS.out b x hb
          generalize b &&& x = y at *
          have HO7 := Lib.hid (own_srcI hO5.out (by have := HSZ.out; omega) ho7)
          have HS7 := Lib.hid hS7
          clear hS7 hr71
          go_wp2_with fail
          go_roundw
          case rel => exact ⟨k + 1, y, by omega, by go_num, rfl, hns, HO7, HS7, hU5.trans ho7, Nat.le_trans hsz5 ho7.size⟩
          case measure => simp [intOf]; omega
        · have hl : (zs K).length ≤ 1048576 := by rw [zs_len, hL.out]; omega
          obtain ⟨P, hP⟩ : ∃ P, P = zs K := ⟨_, rfl⟩
          have hO6 := hO5.out
          rw [← hP] at hO6 hl
          have HPK := Lib.hid hP
          clear hP
          have hg5 := (Grew.refl wr).alloc (.cells #[.int .i64 (b : Int)] 2)
          have hSs := hS5.out
          go_wp2_with (first | (at_builtin; refine wpList_appIB w1.heap.size _ _ rfl rfl _ P rfl (hO6.grew hg5) (Nat.le_trans hsz5 hg5.size) _ (b : Int) rfl (rd_litI _ _ _) hl ?_; intro v8 w8 hO8 hg8))
          have hge := fun k hk => own_of_ge (hO6.grew hg5) (g := k) hk
          have hU8 : Only g w0 w8 := (hU5.grew hg5).newer2 hg8 (fun k hk => Nat.le_trans hB1 (hge k hk))
          go_roundw
          case rel => exact ⟨j + 1, K ++ [b], by omega, by go_num, Lib.hid (by rw [zs_append, zs_one, ← HPK.out]; exact hO8), Lib.hid (by rw [List.length_append, hL.out]; rfl), Lib.hid (hX.out.app hb), Lib.hid ((hSs.grew hg5).other2 hg8 (fun k hk => by have := hge k hk; have := HSZ.out; omega)), hU8, Nat.le_trans (Nat.le_trans hsz5 hg5.size) hg8.size⟩
          case measure => simp [intOf]; omega
    · obtain rfl : j = n := by omega
      clear HO2 HFn
      obtain ⟨A, c, rfl⟩ := ints_sliceN hO.out.ints
      have hO0 := hO.out
      rw [hL.out] at hO0
      have HO0 := Lib.hid hO0
      rw [hL.out]
      clear hO0 hO
      go_wp2_with fail
      refine (l01Next_c g cv N 8 _ hS.out (by omega)).mono ?_
      rintro e w5 ⟨r, rfl, hr0', hr8, _, hS5, ho5⟩
      have hU5 := hU.trans ho5
      have HO5 := Lib.hid (own_srcI HO0.out (by have := HSZ.out; omega) ho5)
      have HS5 := Lib.hid hS5
      have hsz5 := Nat.le_trans hsz ho5.size
      clear hS5 HO0 hr8
      cases b0 : (r == 0) with
      | true =>
        have hK1 := Lib.hid (l01Reflexive_c (.slice A j c) K w5 HO5.out.ints hX.out (by rw [hL.out]; omega))
        rw [hL.out] at hK1
        go_wp2_with fail
        refine hK1.out.mono ?_
        rintro e x1 ⟨v1, L1, rfl, hi1, hl1, hm1, hg1⟩
        obtain ⟨A1, c1, rfl⟩ := ints_sliceN hi1.ints
        have HI1 := Lib.hid hi1
        have HM1 := Lib.hid hm1
        have HL1 := Lib.hid hl1
        rw [hl1]
        clear hi1 hm1 hl1 hK1
        have hU1x := (hU5).grew hg1
        have HS1x := Lib.hid ((HS5.out).grew hg1)
        have hMk := Lib.hid (l05Make_c (.slice A1 j c1) (zs L1) x1 ((show Ints x1 (.slice A1 j c1) (zs L1) from by have h := HI1.out.ints; rw [HL1.out] at h; exact h)) (by rw [zs_len, HL1.out]; omega))
        go_wp2_with fail
        refine hMk.out.mono ?_
        rintro e w6 ⟨v6, rfl, hO6, hg6⟩
        obtain ⟨A6, c6, rfl⟩ := ints_slice hO6.ints
        have hU6 := (hU1x).grew hg6
        have hb6 : w6.heap[w.heap.size]? = some (.cells #[.int .i64 0, .slice none 0 0] 26 (0, 0)) := (hU6.block (by have := HSZ.out; omega) (by omega)).trans HB0.out
        have c0 : w6.cell? ⟨w.heap.size, 0, none⟩ = some (.int .i64 0) := by rw [blk_cell hb6]; rfl
        have c1 : w6.cell? ⟨w.heap.size, 1, none⟩ = some (.slice none 0 0) := by rw [blk_cell hb6]; rfl
        have f0 := blk_frozen hb6 0
        have f1 := blk_frozen hb6 1
        have HB6 := Lib.hid hb6
        have HO6 := Lib.hid hO6
        clear hb6 hO6
        go_wp2_with fail
        (try simp only [Exit.inBlock, Exit.then])
        refine bodyPost_ret (results_cell_row rfl _ _ w.heap.size _ _ _ _ rfl (blk_set (blk_set HB6.out 0 _) 1 _) Tryz.underlying26 rfl hinfo) rfl ?_
        have hk : Only w.heap.size w6 ((w6.setCell ⟨w.heap.size, 0, none⟩ (.int .i64 ((zs L1).length : Int))).setCell ⟨w.heap.size, 1, none⟩ (.slice A6 (zs L1).length c6)) := ((Only.refl _ _).setCell _).setCell _
        have hz6 : w.heap.size + 1 ≤ x1.heap.size := by have := HSZ.out; have := (hU1x).size; omega
        have hO7 := own_only HO6.out hk (fun hh => by have := own_of_ge HO6.out hh; omega)
        refine ⟨_, L1, by rw [← zs_len]; rfl, own_base hO7 (by omega), by rw [HL1.out]; omega, HM1.out, ((HS1x.out).grew hg6).other hk hgl, (hU0.trans hU6).newer hk (Nat.le_refl _)⟩
      | false =>
      cases b1 : (r == 1) with
      | true =>
        have hK1 := Lib.hid (l01Closure_c (.slice A j c) K w5 HO5.out.ints hX.out (by rw [hL.out]; omega))
        rw [hL.out] at hK1
        go_wp2_with fail
        refine hK1.out.mono ?_
        rintro e x1 ⟨v1, L1, rfl, hi1, hl1, hm1, hg1⟩
        obtain ⟨A1, c1, rfl⟩ := ints_sliceN hi1.ints
        have HI1 := Lib.hid hi1
        have HM1 := Lib.hid hm1
        have HL1 := Lib.hid hl1
        rw [hl1]
        clear hi1 hm1 hl1 hK1
        have hU1x := (hU5).grew hg1
        have HS1x := Lib.hid ((HS5.out).grew hg1)
        have hMk := Lib.hid (l05Make_c (.slice A1 j c1) (zs L1) x1 ((show Ints x1 (.slice A1 j c1) (zs L1) from by have h := HI1.out.ints; rw [HL1.out] at h; exact h)) (by rw [zs_len, HL1.out]; omega))
        go_wp2_with fail
        refine hMk.out.mono ?_
        rintro e w6 ⟨v6, rfl, hO6, hg6⟩
        obtain ⟨A6, c6, rfl⟩ := ints_slice hO6.ints
        have hU6 := (hU1x).grew hg6
        have hb6 : w6.heap[w.heap.size]? = some (.cells #[.int .i64 0, .slice none 0 0] 26 (0, 0)) := (hU6.block (by have := HSZ.out; omega) (by omega)).trans HB0.out
        have c0 : w6.cell? ⟨w.heap.size, 0, none⟩ = some (.int .i64 0) := by rw [blk_cell hb6]; rfl
        have c1 : w6.cell? ⟨w.heap.size, 1, none⟩ = some (.slice none 0 0) := by rw [blk_cell hb6]; rfl
        have f0 := blk_frozen hb6 0
        have f1 := blk_frozen hb6 1
        have HB6 := Lib.hid hb6
        have HO6 := Lib.hid hO6
        clear hb6 hO6
        go_wp2_with fail
        (try simp only [Exit.inBlock, Exit.then])
        refine bodyPost_ret (results_cell_row rfl _ _ w.heap.size _ _ _ _ rfl (blk_set (blk_set HB6.out 0 _) 1 _) Tryz.underlying26 rfl hinfo) rfl ?_
        have hk : Only w.heap.size w6 ((w6.setCell ⟨w.heap.size, 0, none⟩ (.int .i64 ((zs L1).length : Int))).setCell ⟨w.heap.size, 1, none⟩ (.slice A6 (zs L1).length c6)) := ((Only.refl _ _).setCell _).setCell _
        have hz6 : w.heap.size + 1 ≤ x1.heap.size := by have := HSZ.out; have := (hU1x).size; omega
        have hO7 := own_only HO6.out hk (fun hh => by have := own_of_ge HO6.out hh; omega)
        refine ⟨_, L1, by rw [← zs_len]; rfl, own_base hO7 (by omega), by rw [HL1.out]; omega, HM1.out, ((HS1x.out).grew hg6).other hk hgl, (hU0.trans hU6).newer hk (Nat.le_refl _)⟩
      | false =>
      cases b2 : (r == 2) with
      | true =>
        have hK1 := Lib.hid (l01Closure_c (.slice A j c) K w5 HO5.out.ints hX.out (by rw [hL.out]; omega))
        rw [hL.out] at hK1
        go_wp2_with fail
        refine hK1.out.mono ?_
        rintro e x1 ⟨v1, L1, rfl, hi1, hl1, hm1, hg1⟩
        obtain ⟨A1, c1, rfl⟩ := ints_sliceN hi1.ints
        have HI1 := Lib.hid hi1
        have HM1 := Lib.hid hm1
        have HL1 := Lib.hid hl1
        rw [hl1]
        clear hi1 hm1 hl1 hK1
        have hU1x := (hU5).grew hg1
        have HS1x := Lib.hid ((HS5.out).grew hg1)
        have hK2 := Lib.hid (l01Reflexive_c (.slice A1 j c1) L1 x1 (show Ints x1 (.slice A1 j c1) (zs L1) from by have h := HI1.out.ints; rw [HL1.out] at h; exact h) HM1.out (by rw [HL1.out]; omega))
        rw [HL1.out] at hK2
        go_wp2_with fail
        refine hK2.out.mono ?_
        rintro e x2 ⟨v2, L2, rfl, hi2, hl2, hm2, hg2⟩
        obtain ⟨A2, c2, rfl⟩ := ints_sliceN hi2.ints
        have HI2 := Lib.hid hi2
        have HM2 := Lib.hid hm2
        have HL2 := Lib.hid hl2
        rw [hl2]
        clear hi2 hm2 hl2 hK2
        have hU2x := (hU1x).grew hg2
        have HS2x := Lib.hid ((HS1x.out).grew hg2)
        have hMk := Lib.hid (l05Make_c (.slice A2 j c2) (zs L2) x2 ((show Ints x2 (.slice A2 j c2) (zs L2) from by have h := HI2.out.ints; rw [HL2.out] at h; exact h)) (by rw [zs_len, HL2.out]; omega))
        go_wp2_with fail
        refine hMk.out.mono ?_
        rintro e w6 ⟨v6, rfl, hO6, hg6⟩
        obtain ⟨A6, c6, rfl⟩ := ints_slice hO6.ints
        have hU6 := (hU2x).grew hg6
        have hb6 : w6.heap[w.heap.size]? = some (.cells #[.int .i64 0, .slice none 0 0] 26 (0, 0)) := (hU6.block (by have := HSZ.out; omega) (by omega)).trans HB0.out
        have c0 : w6.cell? ⟨w.heap.size, 0, none⟩ = some (.int .i64 0) := by rw [blk_cell hb6]; rfl
        have c1 : w6.cell? ⟨w.heap.size, 1, none⟩ = some (.slice none 0 0) := by rw [blk_cell hb6]; rfl
        have f0 := blk_frozen hb6 0
        have f1 := blk_frozen hb6 1
        have HB6 := Lib.hid hb6
        have HO6 := Lib.hid hO6
        clear hb6 hO6
        go_wp2_with fail
        (try simp only [Exit.inBlock, Exit.then])
        refine bodyPost_ret (results_cell_row rfl _ _ w.heap.size _ _ _ _ rfl (blk_set (blk_set HB6.out 0 _) 1 _) Tryz.underlying26 rfl hinfo) rfl ?_
        have hk : Only w.heap.size w6 ((w6.setCell ⟨w.heap.size, 0, none⟩ (.int .i64 ((zs L2).length : Int))).setCell ⟨w.heap.size, 1, none⟩ (.slice A6 (zs L2).length c6)) := ((Only.refl _ _).setCell _).setCell _
        have hz6 : w.heap.size + 1 ≤ x2.heap.size := by have := HSZ.out; have := (hU2x).size; omega
        have hO7 := own_only HO6.out hk (fun hh => by have := own_of_ge HO6.out hh; omega)
        refine ⟨_, L2, by rw [← zs_len]; rfl, own_base hO7 (by omega), by rw [HL2.out]; omega, HM2.out, ((HS2x.out).grew hg6).other hk hgl, (hU0.trans hU6).newer hk (Nat.le_refl _)⟩
      | false =>
      cases b3 : (r == 3) with
      | true =>
        by_cases hj0 : 0 < j
        · obtain ⟨gr, rfl, hgr, hR0⟩ := own_nrow HO5.out hL.out hj0
          have HR0 := Lib.hid hR0
          have HZ := Lib.hid (fun i (hi : i < j) => hX.out.at_ (show i < K.length by rw [hL.out]; exact hi))
          clear hR0 HO5
          have hgg : gr ≠ g := by have := HSZ.out; omega
          have HAN := Lib.hid (fun a b (ha : a < 1073741824) (hb : b < 1073741824) => andNot_i64 a b (by omega) (by omega))
          go_wp2_with fail
          go_loopw [11] (fun i wr => ∃ (q : Nat) (f : Nat → Nat), q ≤ j ∧ i = .int .i64 q ∧ Hid (NRow wr gr j c f) ∧ Hid (∀ x, x < j → f x < 1073741824) ∧ Hid (Src wr g cv N) ∧ Only g w0 wr ∧ w1.heap.size ≤ wr.heap.size) (fun i _ => j - (intOf i).toNat)
          case atStart => exact ⟨0, _, by omega, rfl, HR0, HZ, HS5, hU5, hsz5⟩
          case round =>
            obtain ⟨q, f, hq, rfl, hR, hZ, hSq, hUq, hszq⟩ := hrel
            by_cases hlq : q < j
            · have c2' : ∀ W, Grew wr W → W.cell? ⟨gr, q, none⟩ = some (.int .i64 ((f q : Nat) : Int)) := fun W hW => (hR.out.grew hW).cell hlq
              have c4' : ∀ W, Grew wr W → W.frozen? ⟨gr, q, none⟩ = false := fun W hW => (hR.out.grew hW).free q
              have ho := HAN.out (f q) (full (q + 1)) (hZ.out q hlq) (HFY.out q hlq)
              have hos := Lib.hid (HAS.out (f q) (full (q + 1)) (hZ.out q hlq))
              have hw1 : IntKind.i64.wrap ((q : Int) + 1) = (q : Int) + 1 := by rw [IntKind.wrap_i64]; omega
              have hFq := Lib.hid (show ∀ W, Calls Tryz.prog 87 #[.int .i64 ((q : Int) + 1)] W fun e w' => e = .returned (.int .i64 ((full (q + 1) : Nat) : Int)) ∧ w' = W from HFX.out q hlq)
              have hr1 := Grew.refl wr
              have hrd := hr1.drew
              generalize f q = y at *
              generalize full (q + 1) = fq at *
              generalize hdd : dif y fq = dd at *
              have hi0 : (0 : Int) ≤ (q : Int) := by omega
              have hi6 : (q : Int) < (j : Int) := by omega
              go_wp2_with fail
              go_region_law (first
                | (go_simp; go_at_call 87; refine (hFq.out _).mono ?_; rintro e w9 ⟨rfl, hw9⟩; rw [hw9]; clear hw9)
                | (go_at_call 87; refine (hFq.out _).mono ?_; rintro e w9 ⟨rfl, hw9⟩; rw [hw9]; clear hw9))
              all_goals
                go_wp2_with fail
                go_roundw
                case rel =>
                  have e1 : (fun p => if p = q then dd else f p) q = dd := if_pos rfl
                  have e2 : ∀ p, p < j → p ≠ q → (fun p => if p = q then dd else f p) p = f p := fun p _ hp => if_neg hp
                  have hkb : ∀ W, Grew wr W → Only gr W (W.setCell ⟨gr, q, none⟩ (.int .i64 (dd : Int))) := fun W _ => (Only.refl _ _).setCell _
                  refine ⟨q + 1, fun p => if p = q then dd else f p, by omega, by go_num, Lib.hid ((hR.out.set hlq e1 e2).grew ((Grew.refl _).drew)), Lib.hid (fun x hx => ?_), Lib.hid ((hSq.out.other (hkb wr hr1) (by first | exact hgg | exact hgg.symm | (have := HSZ.out; omega))).grew ((Grew.refl _).drew)), (hUq.newer (hkb wr hr1) (by have := HSZ.out; omega)).drew, by simpa using hszq⟩
                  by_cases hxk : x = q
                  · rw [hxk, e1]; exact hos.out
                  · rw [e2 x hx hxk]; exact hZ.out x hx
                case measure => simp [intOf]; omega
            · obtain rfl : q = j := by omega
              have hOx := hR.out.own hgr
              have HOx := Lib.hid hOx
              have HMx := Lib.hid (show Sm ((List.range q).map f) from fun m hm => by
                rw [List.mem_map] at hm
                obtain ⟨i, hi, rfl⟩ := hm
                exact hZ.out i (List.mem_range.1 hi))
              have HLx := Lib.hid (show ((List.range q).map f).length = q by simp)
              clear hOx
              generalize (List.range q).map f = Kx at *
              have hMk := Lib.hid (l05Make_c (.slice (some ⟨gr, 0, none⟩) q c) (zs Kx) wr (HOx.out.ints) (by rw [zs_len, HLx.out]; omega))
              go_wp2_with fail
              refine hMk.out.mono ?_
              rintro e w6 ⟨v6, rfl, hO6, hg6⟩
              obtain ⟨A6, c6, rfl⟩ := ints_slice hO6.ints
              have hU6 := (hUq).grew hg6
              have hb6 : w6.heap[w.heap.size]? = some (.cells #[.int .i64 0, .slice none 0 0] 26 (0, 0)) := (hU6.block (by have := HSZ.out; omega) (by omega)).trans HB0.out
              have c0 : w6.cell? ⟨w.heap.size, 0, none⟩ = some (.int .i64 0) := by rw [blk_cell hb6]; rfl
              have c1 : w6.cell? ⟨w.heap.size, 1, none⟩ = some (.slice none 0 0) := by rw [blk_cell hb6]; rfl
              have f0 := blk_frozen hb6 0
              have f1 := blk_frozen hb6 1
              have HB6 := Lib.hid hb6
              have HO6 := Lib.hid hO6
              clear hb6 hO6
              go_wp2_with fail
              (try simp only [Exit.inBlock, Exit.then])
              refine bodyPost_ret (results_cell_row rfl _ _ w.heap.size _ _ _ _ rfl (blk_set (blk_set HB6.out 0 _) 1 _) Tryz.underlying26 rfl hinfo) rfl ?_
              have hk : Only w.heap.size w6 ((w6.setCell ⟨w.heap.size, 0, none⟩ (.int .i64 ((zs Kx).length : Int))).setCell ⟨w.heap.size, 1, none⟩ (.slice A6 (zs Kx).length c6)) := ((Only.refl _ _).setCell _).setCell _
              have hz6 : w.heap.size + 1 ≤ wr.heap.size := by have := HSZ.out; have := (hUq).size; omega
              have hO7 := own_only HO6.out hk (fun hh => by have := own_of_ge HO6.out hh; omega)
              refine ⟨_, Kx, by rw [← zs_len]; rfl, own_base hO7 (by omega), by rw [HLx.out]; omega, HMx.out, ((hSq.out).grew hg6).other hk hgl, (hU0.trans hU6).newer hk (Nat.le_refl _)⟩
        · obtain rfl : j = 0 := by omega
          go_wp2_with fail
          refine wp_loop_rounds 1 ?_; rw [rounds_succ]
          have hMk := Lib.hid (l05Make_c (.slice A 0 c) (zs K) w5 (HO5.out.ints) (by rw [zs_len, hL.out]; omega))
          go_wp2_with fail
          refine hMk.out.mono ?_
          rintro e w6 ⟨v6, rfl, hO6, hg6⟩
          obtain ⟨A6, c6, rfl⟩ := ints_slice hO6.ints
          have hU6 := (hU5).grew hg6
          have hb6 : w6.heap[w.heap.size]? = some (.cells #[.int .i64 0, .slice none 0 0] 26 (0, 0)) := (hU6.block (by have := HSZ.out; omega) (by omega)).trans HB0.out
          have c0 : w6.cell? ⟨w.heap.size, 0, none⟩ = some (.int .i64 0) := by rw [blk_cell hb6]; rfl
          have c1 : w6.cell? ⟨w.heap.size, 1, none⟩ = some (.slice none 0 0) := by rw [blk_cell hb6]; rfl
          have f0 := blk_frozen hb6 0
          have f1 := blk_frozen hb6 1
          have HB6 := Lib.hid hb6
          have HO6 := Lib.hid hO6
          clear hb6 hO6
          go_wp2_with fail
          (try simp only [Exit.inBlock, Exit.then])
          refine bodyPost_ret (results_cell_row rfl _ _ w.heap.size _ _ _ _ rfl (blk_set (blk_set HB6.out 0 _) 1 _) Tryz.underlying26 rfl hinfo) rfl ?_
          have hk : Only w.heap.size w6 ((w6.setCell ⟨w.heap.size, 0, none⟩ (.int .i64 ((zs K).length : Int))).setCell ⟨w.heap.size, 1, none⟩ (.slice A6 (zs K).length c6)) := ((Only.refl _ _).setCell _).setCell _
          have hz6 : w.heap.size + 1 ≤ w5.heap.size := by have := HSZ.out; have := (hU5).size; omega
          have hO7 := own_only HO6.out hk (fun hh => by have := own_of_ge HO6.out hh; omega)
          refine ⟨_, K, by rw [← zs_len]; rfl, own_base hO7 (by omega), by rw [hL.out]; omega, hX.out, ((HS5.out).grew hg6).other hk hgl, (hU0.trans hU6).newer hk (Nat.le_refl _)⟩
      | false =>
      cases b4 : (r == 4) with
      | true =>
        by_cases hj0 : 0 < j
        · obtain ⟨gr, rfl, hgr, hR0⟩ := own_nrow HO5.out hL.out hj0
          have HR0 := Lib.hid hR0
          have HZ := Lib.hid (fun i (hi : i < j) => hX.out.at_ (show i < K.length by rw [hL.out]; exact hi))
          clear hR0 HO5
          have hgg : gr ≠ g := by have := HSZ.out; omega
          have HAN := Lib.hid (fun a b (ha : a < 1073741824) (hb : b < 1073741824) => andNot_i64 a b (by omega) (by omega))
          go_wp2_with fail
          go_loopw [12] (fun i wr => ∃ (q : Nat) (f : Nat → Nat), q ≤ j ∧ i = .int .i64 q ∧ Hid (NRow wr gr j c f) ∧ Hid (∀ x, x < j → f x < 1073741824) ∧ Hid (Src wr g cv N) ∧ Only g w0 wr ∧ w1.heap.size ≤ wr.heap.size) (fun i _ => j - (intOf i).toNat)
          case atStart => exact ⟨0, _, by omega, rfl, HR0, HZ, HS5, hU5, hsz5⟩
          case round =>
            obtain ⟨q, f, hq, rfl, hR, hZ, hSq, hUq, hszq⟩ := hrel
            by_cases hlq : q < j
            · have c2' : ∀ W, Grew wr W → W.cell? ⟨gr, q, none⟩ = some (.int .i64 ((f q : Nat) : Int)) := fun W hW => (hR.out.grew hW).cell hlq
              have c4' : ∀ W, Grew wr W → W.frozen? ⟨gr, q, none⟩ = false := fun W hW => (hR.out.grew hW).free q
              have ho := HAN.out (f q) (full (q + 1)) (hZ.out q hlq) (HFY.out q hlq)
              have hos := Lib.hid (HAS.out (f q) (full (q + 1)) (hZ.out q hlq))
              have hw1 : IntKind.i64.wrap ((q : Int) + 1) = (q : Int) + 1 := by rw [IntKind.wrap_i64]; omega
              have hFq := Lib.hid (show ∀ W, Calls Tryz.prog 87 #[.int .i64 ((q : Int) + 1)] W fun e w' => e = .returned (.int .i64 ((full (q + 1) : Nat) : Int)) ∧ w' = W from HFX.out q hlq)
              have hr1 := Grew.refl wr
              have hrd := hr1.drew
              generalize f q = y at *
              generalize full (q + 1) = fq at *
              generalize hdd : dif y fq = dd at *
              have hi0 : (0 : Int) ≤ (q : Int) := by omega
              have hi6 : (q : Int) < (j : Int) := by omega
              go_wp2_with fail
              go_region_law (first
                | (go_simp; go_at_call 87; refine (hFq.out _).mono ?_; rintro e w9 ⟨rfl, hw9⟩; rw [hw9]; clear hw9)
                | (go_at_call 87; refine (hFq.out _).mono ?_; rintro e w9 ⟨rfl, hw9⟩; rw [hw9]; clear hw9))
              all_goals
                go_wp2_with fail
                go_roundw
                case rel =>
                  have e1 : (fun p => if p = q then dd else f p) q = dd := if_pos rfl
                  have e2 : ∀ p, p < j → p ≠ q → (fun p => if p = q then dd else f p) p = f p := fun p _ hp => if_neg hp
                  have hkb : ∀ W, Grew wr W → Only gr W (W.setCell ⟨gr, q, none⟩ (.int .i64 (dd : Int))) := fun W _ => (Only.refl _ _).setCell _
                  refine ⟨q + 1, fun p => if p = q then dd else f p, by omega, by go_num, Lib.hid ((hR.out.set hlq e1 e2).grew ((Grew.refl _).drew)), Lib.hid (fun x hx => ?_), Lib.hid ((hSq.out.other (hkb wr hr1) (by first | exact hgg | exact hgg.symm | (have := HSZ.out; omega))).grew ((Grew.refl _).drew)), (hUq.newer (hkb wr hr1) (by have := HSZ.out; omega)).drew, by simpa using hszq⟩
                  by_cases hxk : x = q
                  · rw [hxk, e1]; exact hos.out
                  · rw [e2 x hx hxk]; exact hZ.out x hx
                case measure => simp [intOf]; omega
            · obtain rfl : q = j := by omega
              have hOx := hR.out.own hgr
              have HOx := Lib.hid hOx
              have HMx := Lib.hid (show Sm ((List.range q).map f) from fun m hm => by
                rw [List.mem_map] at hm
                obtain ⟨i, hi, rfl⟩ := hm
                exact hZ.out i (List.mem_range.1 hi))
              have HLx := Lib.hid (show ((List.range q).map f).length = q by simp)
              clear hOx
              generalize (List.range q).map f = Kx at *
              have hK1 := Lib.hid (l01Closure_c (.slice (some ⟨gr, 0, none⟩) q c) Kx wr HOx.out.ints HMx.out (by rw [HLx.out]; omega))
              rw [HLx.out] at hK1
              go_wp2_with fail
              refine hK1.out.mono ?_
              rintro e x1 ⟨v1, L1, rfl, hi1, hl1, hm1, hg1⟩
              obtain ⟨A1, c1, rfl⟩ := ints_sliceN hi1.ints
              have HI1 := Lib.hid hi1
              have HM1 := Lib.hid hm1
              have HL1 := Lib.hid hl1
              rw [hl1]
              clear hi1 hm1 hl1 hK1
              have hU1x := (hUq).grew hg1
              have HS1x := Lib.hid ((hSq.out).grew hg1)
              have hMk := Lib.hid (l05Make_c (.slice A1 q c1) (zs L1) x1 ((show Ints x1 (.slice A1 q c1) (zs L1) from by have h := HI1.out.ints; rw [HL1.out] at h; exact h)) (by rw [zs_len, HL1.out]; omega))
              go_wp2_with fail
              refine hMk.out.mono ?_
              rintro e w6 ⟨v6, rfl, hO6, hg6⟩
              obtain ⟨A6, c6, rfl⟩ := ints_slice hO6.ints
              have hU6 := (hU1x).grew hg6
              have hb6 : w6.heap[w.heap.size]? = some (.cells #[.int .i64 0, .slice none 0 0] 26 (0, 0)) := (hU6.block (by have := HSZ.out; omega) (by omega)).trans HB0.out
              have c0 : w6.cell? ⟨w.heap.size, 0, none⟩ = some (.int .i64 0) := by rw [blk_cell hb6]; rfl
              have c1 : w6.cell? ⟨w.heap.size, 1, none⟩ = some (.slice none 0 0) := by rw [blk_cell hb6]; rfl
              have f0 := blk_frozen hb6 0
              have f1 := blk_frozen hb6 1
              have HB6 := Lib.hid hb6
              have HO6 := Lib.hid hO6
              clear hb6 hO6
              go_wp2_with fail
              (try simp only [Exit.inBlock, Exit.then])
              refine bodyPost_ret (results_cell_row rfl _ _ w.heap.size _ _ _ _ rfl (blk_set (blk_set HB6.out 0 _) 1 _) Tryz.underlying26 rfl hinfo) rfl ?_
              have hk : Only w.heap.size w6 ((w6.setCell ⟨w.heap.size, 0, none⟩ (.int .i64 ((zs L1).length : Int))).setCell ⟨w.heap.size, 1, none⟩ (.slice A6 (zs L1).length c6)) := ((Only.refl _ _).setCell _).setCell _
              have hz6 : w.heap.size + 1 ≤ x1.heap.size := by have := HSZ.out; have := (hU1x).size; omega
              have hO7 := own_only HO6.out hk (fun hh => by have := own_of_ge HO6.out hh; omega)
              refine ⟨_, L1, by rw [← zs_len]; rfl, own_base hO7 (by omega), by rw [HL1.out]; omega, HM1.out, ((HS1x.out).grew hg6).other hk hgl, (hU0.trans hU6).newer hk (Nat.le_refl _)⟩
        · obtain rfl : j = 0 := by omega
          go_wp2_with fail
          refine wp_loop_rounds 1 ?_; rw [rounds_succ]
          have hK1 := Lib.hid (l01Closure_c (.slice A 0 c) K w5 HO5.out.ints hX.out (by rw [hL.out]; omega))
          rw [hL.out] at hK1
          go_wp2_with fail
          refine hK1.out.mono ?_
          rintro e x1 ⟨v1, L1, rfl, hi1, hl1, hm1, hg1⟩
          obtain ⟨A1, c1, rfl⟩ := ints_sliceN hi1.ints
          have HI1 := Lib.hid hi1
          have HM1 := Lib.hid hm1
          have HL1 := Lib.hid hl1
          rw [hl1]
          clear hi1 hm1 hl1 hK1
          have hU1x := (hU5).grew hg1
          have HS1x := Lib.hid ((HS5.out).grew hg1)
          have hMk := Lib.hid (l05Make_c (.slice A1 0 c1) (zs L1) x1 ((show Ints x1 (.slice A1 0 c1) (zs L1) from by have h := HI1.out.ints; rw [HL1.out] at h; exact h)) (by rw [zs_len, HL1.out]; omega))
          go_wp2_with fail
          refine hMk.out.mono ?_
          rintro e w6 ⟨v6, rfl, hO6, hg6⟩
          obtain ⟨A6, c6, rfl⟩ := ints_slice hO6.ints
          have hU6 := (hU1x).grew hg6
          have hb6 : w6.heap[w.heap.size]? = some (.cells #[.int .i64 0, .slice none 0 0] 26 (0, 0)) := (hU6.block (by have := HSZ.out; omega) (by omega)).trans HB0.out
          have c0 : w6.cell? ⟨w.heap.size, 0, none⟩ = some (.int .i64 0) := by rw [blk_cell hb6]; rfl
          have c1 : w6.cell? ⟨w.heap.size, 1, none⟩ = some (.slice none 0 0) := by rw [blk_cell hb6]; rfl
          have f0 := blk_frozen hb6 0
          have f1 := blk_frozen hb6 1
          have HB6 := Lib.hid hb6
          have HO6 := Lib.hid hO6
          clear hb6 hO6
          go_wp2_with fail
          (try simp only [Exit.inBlock, Exit.then])
          refine bodyPost_ret (results_cell_row rfl _ _ w.heap.size _ _ _ _ rfl (blk_set (blk_set HB6.out 0 _) 1 _) Tryz.underlying26 rfl hinfo) rfl ?_
          have hk : Only w.heap.size w6 ((w6.setCell ⟨w.heap.size, 0, none⟩ (.int .i64 ((zs L1).length : Int))).setCell ⟨w.heap.size, 1, none⟩ (.slice A6 (zs L1).length c6)) := ((Only.refl _ _).setCell _).setCell _
          have hz6 : w.heap.size + 1 ≤ x1.heap.size := by have := HSZ.out; have := (hU1x).size; omega
          have hO7 := own_only HO6.out hk (fun hh => by have := own_of_ge HO6.out hh; omega)
          refine ⟨_, L1, by rw [← zs_len]; rfl, own_base hO7 (by omega), by rw [HL1.out]; omega, HM1.out, ((HS1x.out).grew hg6).other hk hgl, (hU0.trans hU6).newer hk (Nat.le_refl _)⟩
      | false =>
        have hMk := Lib.hid (l05Make_c (.slice A j c) (zs K) w5 (HO5.out.ints) (by rw [zs_len, hL.out]; omega))
        go_wp2_with fail
        refine hMk.out.mono ?_
        rintro e w6 ⟨v6, rfl, hO6, hg6⟩
        obtain ⟨A6, c6, rfl⟩ := ints_slice hO6.ints
        have hU6 := (hU5).grew hg6
        have hb6 : w6.heap[w.heap.size]? = some (.cells #[.int .i64 0, .slice none 0 0] 26 (0, 0)) := (hU6.block (by have := HSZ.out; omega) (by omega)).trans HB0.out
        have c0 : w6.cell? ⟨w.heap.size, 0, none⟩ = some (.int .i64 0) := by rw [blk_cell hb6]; rfl
        have c1 : w6.cell? ⟨w.heap.size, 1, none⟩ = some (.slice none 0 0) := by rw [blk_cell hb6]; rfl
        have f0 := blk_frozen hb6 0
        have f1 := blk_frozen hb6 1
        have HB6 := Lib.hid hb6
        have HO6 := Lib.hid hO6
        clear hb6 hO6
        go_wp2_with fail
        (try simp only [Exit.inBlock, Exit.then])
        refine bodyPost_ret (results_cell_row rfl _ _ w.heap.size _ _ _ _ rfl (blk_set (blk_set HB6.out 0 _) 1 _) Tryz.underlying26 rfl hinfo) rfl ?_
        have hk : Only w.heap.size w6 ((w6.setCell ⟨w.heap.size, 0, none⟩ (.int .i64 ((zs K).length : Int))).setCell ⟨w.heap.size, 1, none⟩ (.slice A6 (zs K).length c6)) := ((Only.refl _ _).setCell _).setCell _
        have hz6 : w.heap.size + 1 ≤ w5.heap.size := by have := HSZ.out; have := (hU5).size; omega
        have hO7 := own_only HO6.out hk (fun hh => by have := own_of_ge HO6.out hh; omega)
        refine ⟨_, K, by rw [← zs_len]; rfl, own_base hO7 (by omega), by rw [hL.out]; omega, hX.out, ((HS5.out).grew hg6).other hk hgl, (hU0.trans hU6).newer hk (Nat.le_refl _)⟩
end Go.Proofs.YtpfncncohnhanaaGreatDoor

/- The draw of a frame: l05Draw of the reference. -/
namespace Go.Proofs.YtpfncncohnhanaaGreatDoor
open Go.RowKit

theorem l01Pick2_c (g : Nat) (cv : Value) (N : Nat) (b : Nat) (x0 x1 : Int) (w : World) (h : Src w g cv N) (hb : b < w.heap.size) (hne : b ≠ g) (c0 : w.cell? ⟨b, 0, none⟩ = some (.int .i64 x0)) (c1 : w.cell? ⟨b, 1, none⟩ = some (.int .i64 x1)) :
    Calls Tryz.prog 85 #[.pointer (some ⟨g, 0, none⟩), .slice (some ⟨b, 0, none⟩) 2 2] w fun e w' => ∃ r : Int, e = .returned (.int .i64 r) ∧ Src w' g cv N ∧ Only g w w' := by
  have HS := Lib.hid h
  have HC := Lib.hid (show ∀ j, j < 2 → ∃ x : Int, w.cell? ⟨b, j, none⟩ = some (.int .i64 x) from fun j hj => by
    match j, hj with
    | 0, _ => exact ⟨_, c0⟩
    | 1, _ => exact ⟨_, c1⟩)
  clear h c0 c1
  go_enter Tryz.func85, Tryz.ntmps85
  go_wp2_with fail
  refine (l01Next_c g cv N 2 _ HS.out (by omega)).mono ?_
  rintro e w1 ⟨r, rfl, hr0, hr1, _, hS1, ho1⟩
  have hr2 := hr1 (by omega)
  obtain ⟨k, rfl⟩ : ∃ k : Nat, r = (k : Int) := ⟨r.toNat, by omega⟩
  obtain ⟨x, hx⟩ := HC.out k (by omega)
  have hx1 := (ho1.cell (p := ⟨b, k, none⟩) hb hne).trans hx
  have HS1 := Lib.hid hS1
  clear hx hS1 hr1
  go_wp2_with fail
  go_ret
  exact ⟨_, rfl, HS1.out, ho1⟩

theorem SO.alloc {g : Nat} {cv : Value} {N : Nat} {w w' : World} (h : SO g cv N w w') (o : Obj) : SO g cv N w (w'.alloc o) := ⟨h.1.grew ((Grew.refl _).alloc o), h.2.grew ((Grew.refl _).alloc o)⟩
theorem SR.alloc {g : Nat} {cv : Value} {N : Nat} {w0 W : World} {pb gr n c : Nat} {bx : Obj} (h : SR g cv N w0 pb gr n c bx W) (o : Obj) : SR g cv N w0 pb gr n c bx (W.alloc o) := by
  obtain ⟨h1, h2, h3, K, h4, h5⟩ := h
  have hg := (Grew.refl W).alloc o
  exact ⟨h1.grew hg, h2.grew hg, (hg.block (blk_lt' h3)).trans h3, K, h4, h5.grew hg⟩
theorem so_pick (g : Nat) (cv : Value) (N : Nat) (w : World) (x0 x1 : Int) (W : World) (hW : SO g cv N w W) :
    Calls Tryz.prog 85 #[.pointer (some ⟨g, 0, none⟩), .slice (some ⟨W.heap.size, 0, none⟩) 2 2] (W.alloc (.cells #[.int .i64 x0, .int .i64 x1] 2)) fun e w' => ∃ r : Int, e = .returned (.int .i64 r) ∧ SO g cv N w w' ∧ Only g (W.alloc (.cells #[.int .i64 x0, .int .i64 x1] 2)) w' := by
  have hl := hW.1.lt
  have hA := hW.alloc (.cells #[.int .i64 x0, .int .i64 x1] 2)
  refine (l01Pick2_c g cv N W.heap.size x0 x1 _ hA.1 (by simp) (by omega) (by simp) (by simp)).mono ?_
  rintro e w' ⟨r, rfl, hS, ho⟩
  exact ⟨r, rfl, ⟨hS, hA.2.trans ho⟩, ho⟩
set_option maxRecDepth 100000 in
set_option maxHeartbeats 1000000 in
theorem l05Draw_c (g : Nat) (cv : Value) (N : Nat) (m : Nat) (hm8 : m ≤ 8) (w : World) (h : Src w g cv N) :
    Calls Tryz.prog 44 #[.pointer (some ⟨g, 0, none⟩), .int .i64 (m : Int)] w (GivesQ g cv N 9 w) := by
  have hinfo := info2F
  have hgl := h.lt
  have hS0 := h.grew ((Grew.refl w).alloc (.cells #[.int .i64 0, .slice none 0 0] 26))
  have HS := Lib.hid hS0
  have HB0 := Lib.hid (blk_new w (.cells #[.int .i64 0, .slice none 0 0] 26))
  have hU0 := ((Grew.refl w).alloc (.cells #[.int .i64 0, .slice none 0 0] 26)).only (g := g)
  have hsz0 : (w.alloc (.cells #[.int .i64 0, .slice none 0 0] 26)).heap.size = w.heap.size + 1 := by simp
  have HSZ := Lib.hid hsz0
  obtain ⟨w0, hw0⟩ : ∃ w0, w0 = w.alloc (.cells #[.int .i64 0, .slice none 0 0] 26) := ⟨_, rfl⟩
  rw [← hw0] at HS HB0 HSZ hU0
  clear h hS0 hsz0
  go_enter Tryz.func44, Tryz.ntmps44
  go_wp2_with fail
  simp only [← hw0]
  clear hw0
  refine (l05Some_c g cv N m hm8 w0 HS.out).mono ?_
  rintro e w1 ⟨v1, L1, rfl, hO1, hl1, hm1, hS1, ho1⟩
  have HO1 := Lib.hid hO1
  have hl1' : (zs L1).length ≤ 8 := by rw [zs_len]; omega
  rw [← zs_len]
  clear hO1 hm1 hl1
  generalize zs L1 = K1 at *
  obtain ⟨A1, c1, rfl⟩ := ints_slice HO1.out.ints
  have HS1 := Lib.hid hS1
  clear hS1
  have hga := (Grew.refl w1).alloc (.cells #[.int .i64 (K1.length : Int), .slice A1 K1.length c1] 26)
  have hbx := blk_new w1 (.cells #[.int .i64 (K1.length : Int), .slice A1 K1.length c1] 26)
  have hp0 := ho1.size
  have hsa : (w1.alloc (.cells #[.int .i64 (K1.length : Int), .slice A1 K1.length c1] 26)).heap.size = w1.heap.size + 1 := by simp
  obtain ⟨wk, hwk⟩ : ∃ wk, wk = w1.alloc (.cells #[.int .i64 (K1.length : Int), .slice A1 K1.length c1] 26) := ⟨_, rfl⟩
  rw [← hwk] at hga hbx hsa
  have HP := Lib.hid (And.intro hga (And.intro hbx (And.intro hp0 hsa)))
  clear hga hbx hp0 hsa
  go_wp2_with fail
  simp only [← hwk]
  clear hwk
  obtain ⟨hga, hbx, hp0, hsa⟩ := HP.out
  have hUk := ho1.grew hga
  have hgp : g ≠ w1.heap.size := by have := HSZ.out; omega
  have HBX := Lib.hid hbx
  have hpb1 : w1.heap.size < wk.heap.size := by omega
  have HOK := Lib.hid (HO1.out.grew hga)
  have hap : ∀ k, (Value.slice A1 K1.length c1).ownBlock = some k → k = w1.heap.size → False := fun k hk he => by have := (HO1.out.lt k hk).2; omega
  have HSK := Lib.hid (HS1.out.grew hga)
  have hlk := hl1'
  clear hga hbx hsa HP HS1 HO1 ho1 hl1'
  generalize w1.heap.size = pb at *
  have hpb0 : w0.heap.size ≤ pb := hp0
  clear hp0
  generalize K1 = K at *
  generalize A1 = A at *
  generalize c1 = c at *
  refine (l01Next_c g cv N 40 wk HSK.out (by omega)).mono ?_
  rintro e wn ⟨sw, rfl, hsw0, hsw1, _, hSn, hon⟩
  have hUn := hUk.trans hon
  have HBX := Lib.hid ((hon.block hpb1 (by omega)).trans HBX.out)
  have HOn := Lib.hid (own_srcI HOK.out (by have := HSZ.out; omega) hon)
  have HSn := Lib.hid hSn
  have hpb2 : pb < wn.heap.size := Nat.lt_of_lt_of_le hpb1 hon.size
  have hsn := hUn.size
  clear hSn hsw1 hon HOK HSK
  have d0 : wn.cell? ⟨pb, 0, none⟩ = some (.int .i64 (K.length : Int)) := by rw [blk_cell HBX.out]; rfl
  have d1 : wn.cell? ⟨pb, 1, none⟩ = some (.slice A K.length c) := by rw [blk_cell HBX.out]; rfl
  have df0 := blk_frozen HBX.out 0
  have df1 := blk_frozen HBX.out 1
  cases s0 : (sw == 0) with
  | true =>
    have hS3 := HSn.out.grew ((Grew.refl wn).alloc (.cells #[.int .i64 (-1), .int .i64 9, .int .i64 ((K.length : Int) + 1)] 2))
    have hPk := Lib.hid (l01Pick3_c g cv N wn.heap.size (-1) 9 ((K.length : Int) + 1) _ hS3 (by simp) (by have := HSZ.out; omega) (by simp) (by simp) (by simp))
    clear hS3
    go_wp2_with fail
    refine hPk.out.mono ?_
    rintro e wp ⟨rp, rfl, hSp, hop⟩
    have hga := (Grew.refl wn).alloc (.cells #[.int .i64 (-1), .int .i64 9, .int .i64 ((K.length : Int) + 1)] 2)
    have hUp := (hUn.grew hga).trans hop
    have hpb3 : pb < (wn.alloc (.cells #[.int .i64 (-1), .int .i64 9, .int .i64 ((K.length : Int) + 1)] 2)).heap.size := Nat.lt_of_lt_of_le hpb2 hga.size
    have HBX := Lib.hid ((hop.block hpb3 (by omega)).trans ((hga.block hpb2).trans HBX.out))
    have HOp := Lib.hid (own_srcI (HOn.out.grew hga) (by have := HSZ.out; omega) hop)
    have HSp := Lib.hid hSp
    clear hSp hPk d0 d1 df0 df1
    have d0 : wp.cell? ⟨pb, 0, none⟩ = some (.int .i64 (K.length : Int)) := by rw [blk_cell HBX.out]; rfl
    have d1 : wp.cell? ⟨pb, 1, none⟩ = some (.slice A K.length c) := by rw [blk_cell HBX.out]; rfl
    have df0 := blk_frozen HBX.out 0
    have df1 := blk_frozen HBX.out 1
    have HR := Lib.hid (show wp.heap[w.heap.size]? = some (.cells #[.int .i64 0, .slice none 0 0] 26 (0, 0)) from (hUp.block (by have := HSZ.out; omega) (by omega)).trans HB0.out)
    have q0 : wp.cell? ⟨w.heap.size, 0, none⟩ = some (.int .i64 0) := by rw [blk_cell HR.out]; rfl
    have q1 : wp.cell? ⟨w.heap.size, 1, none⟩ = some (.slice none 0 0) := by rw [blk_cell HR.out]; rfl
    have qf0 := blk_frozen HR.out 0
    have qf1 := blk_frozen HR.out 1
    have hkb : Only pb wp (wp.setCell ⟨pb, 0, none⟩ (.int .i64 rp)) := (Only.refl _ _).setCell _
    have HBX2 := Lib.hid (blk_set HBX.out 0 (.int .i64 rp))
    have HOf := Lib.hid (own_only HOp.out hkb (fun hh => hap _ hh rfl))
    have HSf := Lib.hid (HSp.out.other hkb (by have := HSZ.out; omega))
    have hUf := hUp.newer hkb hpb0
    have HR := Lib.hid ((hkb.block (k := w.heap.size) (by have := HSZ.out; have := hUp.size; omega) (by have := HSZ.out; omega)).trans HR.out)
    have e0 : (wp.setCell ⟨pb, 0, none⟩ (.int .i64 rp)).cell? ⟨pb, 0, none⟩ = some (.int .i64 rp) := by rw [blk_cell HBX2.out]; rfl
    have e1 : (wp.setCell ⟨pb, 0, none⟩ (.int .i64 rp)).cell? ⟨pb, 1, none⟩ = some (.slice A K.length c) := by rw [blk_cell HBX2.out]; rfl
    have r0 : (wp.setCell ⟨pb, 0, none⟩ (.int .i64 rp)).cell? ⟨w.heap.size, 0, none⟩ = some (.int .i64 0) := by rw [blk_cell HR.out]; rfl
    have r1 : (wp.setCell ⟨pb, 0, none⟩ (.int .i64 rp)).cell? ⟨w.heap.size, 1, none⟩ = some (.slice none 0 0) := by rw [blk_cell HR.out]; rfl
    have rf0 := blk_frozen HR.out 0
    have rf1 := blk_frozen HR.out 1
    clear q0 q1 qf0 qf1
    go_wp2_with fail
    (try simp only [Exit.inBlock, Exit.then])
    refine bodyPost_ret (results_cell_row rfl _ _ w.heap.size _ _ _ _ rfl (blk_set (blk_set HR.out 0 _) 1 _) Tryz.underlying26 rfl hinfo) rfl ?_
    have hk : Only w.heap.size (wp.setCell ⟨pb, 0, none⟩ (.int .i64 rp)) (((wp.setCell ⟨pb, 0, none⟩ (.int .i64 rp)).setCell ⟨w.heap.size, 0, none⟩ (.int .i64 rp)).setCell ⟨w.heap.size, 1, none⟩ (.slice A K.length c)) := ((Only.refl _ _).setCell _).setCell _
    have hz := HSZ.out
    have hO7 := own_only HOf.out hk (fun hh => by have := own_of_ge HOf.out hh; omega)
    exact ⟨_, _, K, rfl, own_base hO7 (by omega), by omega, HSf.out.other hk hgl, (hU0.trans hUf).newer hk (Nat.le_refl _)⟩
  | false =>
  cases s1 : (sw == 1) with
  | true =>
    have hWN := Lib.hid (ownR_c (.slice A K.length c) K wn HOn.out.ints (by omega))
    go_wp2_with fail
    refine hWN.out.mono ?_
    rintro e wp ⟨vp, rfl, hOp, hgp2⟩
    have hgl2 := hgp2.trans ((Grew.refl wp).alloc (.cells #[.int .i64 0] 2))
    have hOp2 := hOp.grew ((Grew.refl wp).alloc (.cells #[.int .i64 0] 2))
    have hpw : wn.heap.size ≤ (wp.alloc (.cells #[.int .i64 0] 2)).heap.size := hgl2.size
    have hge := fun k hk => own_of_ge hOp2 (g := k) hk
    have hrd2 := rd_litI wp 0 2
    obtain ⟨Ap, cp, rfl⟩ := ints_slice hOp.ints
    clear d0 d1 df0 df1 hWN
    go_wp2_with (first
      | (at_builtin
         refine wpList_appIB wn.heap.size _ _ rfl rfl _ K rfl hOp2 hpw _ 0 rfl hrd2 (by omega) ?_
         intro v6 w6 hO6 hg6
         have hU6 := (hUn.grew hgl2).newer2 hg6 (fun k hk => Nat.le_trans hsn (hge k hk))
         have hB6 := Grew.grown hgl2 hg6 hge
         have HBX := Lib.hid ((hB6.block hpb2).trans HBX.out)
         have hl6 : (K ++ [0]).length ≤ 9 := by rw [List.length_append]; show K.length + 1 ≤ 9; omega
         have hS6 := Lib.hid (HSn.out.grew hB6)
         generalize K ++ [0] = K6 at *
         obtain ⟨A6, c6, rfl⟩ := ints_slice hO6.ints
         have HO6 := Lib.hid hO6
         have d0 : w6.cell? ⟨pb, 0, none⟩ = some (.int .i64 (K.length : Int)) := by rw [blk_cell HBX.out]; rfl
         have d1 : w6.cell? ⟨pb, 1, none⟩ = some (.slice A K.length c) := by rw [blk_cell HBX.out]; rfl
         have df0 := blk_frozen HBX.out 0
         have df1 := blk_frozen HBX.out 1
         have HR := Lib.hid (show w6.heap[w.heap.size]? = some (.cells #[.int .i64 0, .slice none 0 0] 26 (0, 0)) from (hU6.block (by have := HSZ.out; omega) (by omega)).trans HB0.out)
         have q0 : w6.cell? ⟨w.heap.size, 0, none⟩ = some (.int .i64 0) := by rw [blk_cell HR.out]; rfl
         have q1 : w6.cell? ⟨w.heap.size, 1, none⟩ = some (.slice none 0 0) := by rw [blk_cell HR.out]; rfl
         have qf0 := blk_frozen HR.out 0
         have qf1 := blk_frozen HR.out 1
         have hapn : ∀ k, (Value.slice A6 K6.length c6).ownBlock = some k → k = pb → False := fun k hk he => by have := own_of_ge HO6.out hk; omega
         have hkb : Only pb w6 (w6.setCell ⟨pb, 1, none⟩ (.slice A6 K6.length c6)) := (Only.refl _ _).setCell _
         have HBX2 := Lib.hid (blk_set HBX.out 1 (.slice A6 K6.length c6))
         have HOf := Lib.hid (OwnI.base (B' := w0.heap.size) (own_only HO6.out hkb (fun hh => hapn _ hh rfl)) hsn)
         have HSf := Lib.hid (hS6.out.other hkb (by have := HSZ.out; omega))
         have hUf := Lib.hid (hU6.newer hkb hpb0)
         have HR := Lib.hid ((hkb.block (k := w.heap.size) (by have := HSZ.out; have := hU6.size; omega) (by have := HSZ.out; omega)).trans HR.out)
         have e0 : (w6.setCell ⟨pb, 1, none⟩ (.slice A6 K6.length c6)).cell? ⟨pb, 0, none⟩ = some (.int .i64 (K.length : Int)) := by rw [blk_cell HBX2.out]; rfl
         have e1 : (w6.setCell ⟨pb, 1, none⟩ (.slice A6 K6.length c6)).cell? ⟨pb, 1, none⟩ = some (.slice A6 K6.length c6) := by rw [blk_cell HBX2.out]; rfl
         have r0 : (w6.setCell ⟨pb, 1, none⟩ (.slice A6 K6.length c6)).cell? ⟨w.heap.size, 0, none⟩ = some (.int .i64 0) := by rw [blk_cell HR.out]; rfl
         have r1 : (w6.setCell ⟨pb, 1, none⟩ (.slice A6 K6.length c6)).cell? ⟨w.heap.size, 1, none⟩ = some (.slice none 0 0) := by rw [blk_cell HR.out]; rfl
         have rf0 := blk_frozen HR.out 0
         have rf1 := blk_frozen HR.out 1
         clear q0 q1 qf0 qf1 hO6 hkb hapn hB6 hU6))
    replace hUf := hUf.out
    (try simp only [Exit.inBlock, Exit.then])
    refine bodyPost_ret (results_cell_row rfl _ _ w.heap.size _ _ _ _ rfl (blk_set (blk_set HR.out 0 _) 1 _) Tryz.underlying26 rfl hinfo) rfl ?_
    have hk : Only w.heap.size (w6.setCell ⟨pb, 1, none⟩ (.slice A6 K6.length c6)) (((w6.setCell ⟨pb, 1, none⟩ (.slice A6 K6.length c6)).setCell ⟨w.heap.size, 0, none⟩ (.int .i64 (K.length : Int))).setCell ⟨w.heap.size, 1, none⟩ (.slice A6 K6.length c6)) := ((Only.refl _ _).setCell _).setCell _
    have hz := HSZ.out
    have hO7 := own_only HOf.out hk (fun hh => by have := own_of_ge HOf.out hh; omega)
    exact ⟨_, _, K6, rfl, own_base hO7 (by omega), by omega, HSf.out.other hk hgl, (hU0.trans hUf).newer hk (Nat.le_refl _)⟩
  | false =>
  cases s2 : (sw == 2) with
  | true =>
    by_cases h0 : 0 < K.length
    · obtain ⟨gr, cur, rfl, hgr, hcur, hcs, hall⟩ := own_irow HOn.out h0
      have HCU := Lib.hid hcur
      have HAL := Lib.hid hall
      have hFN0 := l01Full_q K.length (by omega)
      have hF0 : 0 < 2 ^ K.length := Nat.pow_pos (by omega)
      have hF9 : 2 ^ K.length ≤ 256 := Nat.le_trans (Nat.pow_le_pow_right (by omega) hlk) (by decide)
      rw [← full_cast] at hFN0
      have hff : full K.length ≤ 255 := by unfold full; omega
      have hFN := Lib.hid hFN0
      clear hFN0 hF0 hF9
      generalize full K.length = fn at *
      have hgz : g < w0.heap.size := by have := HSZ.out; omega
      have hpgr : pb ≠ gr := fun he => hap gr rfl he.symm
      have KP := Lib.hid (fun (x0 x1 : Int) W (hW : SO g cv N wn W) => so_pick g cv N wn x0 x1 W hW)
      have KR := Lib.hid (fun W W' (h : SR g cv N w0 pb gr K.length c (.cells #[.int .i64 (K.length : Int), .slice (some ⟨gr, 0, none⟩) K.length c] 26) W) (hS : SO g cv N wn W') (ho : Only g W W') => h.next hS.1 ho hgz hgp.symm)
      have hSR : SR g cv N w0 pb gr K.length c (.cells #[.int .i64 (K.length : Int), .slice (some ⟨gr, 0, none⟩) K.length c] 26) wn := ⟨HSn.out, hUn, HBX.out, K, rfl, HOn.out⟩
      have KA := Lib.hid (fun (n : Int) (hn : Hid (n ≤ 8 ∧ 1 ≤ n)) W (hW : SO g cv N wn W) => so_next g cv N wn n (by have := hn.out; omega) W hW)
      have HN1 : Hid ((K.length : Int) ≤ 8 ∧ 1 ≤ (K.length : Int)) := Lib.hid ⟨by omega, by omega⟩
      have HN2 : Hid (1 ≤ (fn : Int) + 2 ∧ (fn : Int) + 2 ≤ 100000) := Lib.hid ⟨by omega, by omega⟩
      have hSO : SO g cv N wn wn := ⟨HSn.out, Only.refl _ _⟩
      have hSOd := hSO.drew
      have hSRd := hSR.drew
      have hgrn : gr < wn.heap.size := blk_lt hcur
      have x0 : ∀ W, SR g cv N w0 pb gr K.length c (.cells #[.int .i64 (K.length : Int), .slice (some ⟨gr, 0, none⟩) K.length c] 26) W → W.cell? ⟨pb, 0, none⟩ = some (.int .i64 (K.length : Int)) := fun W hW => by rw [blk_cell hW.2.2.1]; rfl
      have x1 : ∀ W, SR g cv N w0 pb gr K.length c (.cells #[.int .i64 (K.length : Int), .slice (some ⟨gr, 0, none⟩) K.length c] 26) W → W.cell? ⟨pb, 1, none⟩ = some (.slice (some ⟨gr, 0, none⟩) K.length c) := fun W hW => by rw [blk_cell hW.2.2.1]; rfl
      have hgg : gr ≠ g := by have := HSZ.out; omega
      have xf : ∀ W k, SO g cv N wn W → W.frozen? ⟨gr, k, none⟩ = false := fun W k hW => blk_frozen ((hW.2.block hgrn hgg).trans HCU.out) k
      have xc := Lib.hid (fun k (hk : k < K.length) W (hW : SO g cv N wn W) => (hW.2.cell (p := ⟨gr, k, none⟩) hgrn hgg).trans (show wn.cell? ⟨gr, k, none⟩ = some (.int .i64 (it K k)) by rw [blk_cell HCU.out]; exact HAL.out k hk))
      have hwr : IntKind.i64.wrap ((fn : Int) + 1) = (fn : Int) + 1 := by rw [IntKind.wrap_i64]; omega
      clear hcur hall d0 d1 df0 df1
      go_wp2_with fail
      go_region_held3 (fun w' => SR g cv N w0 pb gr K.length c (.cells #[.int .i64 (K.length : Int), .slice (some ⟨gr, 0, none⟩) K.length c] 26) w') (first | assumption | exact SR.drew ‹_› | exact SR.alloc ‹_› _ | exact SR.store ‹_› hgz hgr hpgr (by omega)) (first
        | (go_at_call 87; refine (hFN.out _).mono ?_; rintro e w5 ⟨rfl, rfl⟩)
        | (go_at_call 55; refine Calls.mono (KA.out _ (by assumption) _ (by assumption)) ?_; rintro e wa ⟨rk, rfl, h61, hSOa, hoa⟩; have h60 : (0 : Int) ≤ (rk : Int) := Int.natCast_nonneg _; have hSRa := KR.out _ wa ‹_› hSOa hoa; have hc5 := xc.out rk (by omega))
        | (go_at_call 85; refine Calls.mono (KP.out _ _ _ (by first | assumption | exact SO.drew ‹_›)) ?_; rintro e w5 ⟨r5, rfl, hSO5, ho5⟩; have hSR5 := KR.out _ w5 ‹_› hSO5 ho5))
      · have hSRe := SR.store (k := rk) (x := r5) hSR5 hgz hgr hpgr (by omega)
        clear x0 x1 xf hc5 hSO5 hSOa hSR5 hSRa hSO hSOd hSRd
        generalize w5.setCell ⟨gr, rk, none⟩ (.int .i64 (r5)) = wz at hSRe ⊢
        obtain ⟨hSz, hUz, hBz, Kz, hKz, hOz⟩ := hSRe
        have HBX := Lib.hid hBz
        have HSf := Lib.hid hSz
        have hUf := hUz
        rw [← hKz] at hOz HBX ⊢
        have HOf := Lib.hid hOz
        have hlz : Kz.length ≤ 8 := by omega
        clear hSz hBz hOz hKz
        have d0 : wz.cell? ⟨pb, 0, none⟩ = some (.int .i64 (Kz.length : Int)) := by rw [blk_cell HBX.out]; rfl
        have d1 : wz.cell? ⟨pb, 1, none⟩ = some (.slice (some ⟨gr, 0, none⟩) Kz.length c) := by rw [blk_cell HBX.out]; rfl
        have df0 := blk_frozen HBX.out 0
        have df1 := blk_frozen HBX.out 1
        have HR := Lib.hid (show wz.heap[w.heap.size]? = some (.cells #[.int .i64 0, .slice none 0 0] 26 (0, 0)) from (hUz.block (by have := HSZ.out; omega) (by omega)).trans HB0.out)
        have q0 : wz.cell? ⟨w.heap.size, 0, none⟩ = some (.int .i64 0) := by rw [blk_cell HR.out]; rfl
        have q1 : wz.cell? ⟨w.heap.size, 1, none⟩ = some (.slice none 0 0) := by rw [blk_cell HR.out]; rfl
        have qf0 := blk_frozen HR.out 0
        have qf1 := blk_frozen HR.out 1
        go_wp2_with fail
        (try simp only [Exit.inBlock, Exit.then])
        refine bodyPost_ret (results_cell_row rfl _ _ w.heap.size _ _ _ _ rfl (blk_set (blk_set HR.out 0 _) 1 _) Tryz.underlying26 rfl hinfo) rfl ?_
        have hk : Only w.heap.size wz ((wz.setCell ⟨w.heap.size, 0, none⟩ (.int .i64 (Kz.length : Int))).setCell ⟨w.heap.size, 1, none⟩ (.slice (some ⟨gr, 0, none⟩) Kz.length c)) := ((Only.refl _ _).setCell _).setCell _
        have hz := HSZ.out
        have hO7 := own_only HOf.out hk (fun hh => by have := own_of_ge HOf.out hh; omega)
        exact ⟨_, _, Kz, rfl, own_base hO7 (by omega), by omega, HSf.out.other hk hgl, (hU0.trans hUf).newer hk (Nat.le_refl _)⟩
    · have h00 : ¬ (0 : Int) < (K.length : Int) := by omega
      have HR := Lib.hid (show wn.heap[w.heap.size]? = some (.cells #[.int .i64 0, .slice none 0 0] 26 (0, 0)) from (hUn.block (by have := HSZ.out; omega) (by omega)).trans HB0.out)
      have q0 : wn.cell? ⟨w.heap.size, 0, none⟩ = some (.int .i64 0) := by rw [blk_cell HR.out]; rfl
      have q1 : wn.cell? ⟨w.heap.size, 1, none⟩ = some (.slice none 0 0) := by rw [blk_cell HR.out]; rfl
      have qf0 := blk_frozen HR.out 0
      have qf1 := blk_frozen HR.out 1
      have HOf := HOn
      have HSf := HSn
      have hUf := hUn
      go_wp2_with fail
      (try simp only [Exit.inBlock, Exit.then])
      refine bodyPost_ret (results_cell_row rfl _ _ w.heap.size _ _ _ _ rfl (blk_set (blk_set HR.out 0 _) 1 _) Tryz.underlying26 rfl hinfo) rfl ?_
      have hk : Only w.heap.size wn ((wn.setCell ⟨w.heap.size, 0, none⟩ (.int .i64 (K.length : Int))).setCell ⟨w.heap.size, 1, none⟩ (.slice A K.length c)) := ((Only.refl _ _).setCell _).setCell _
      have hz := HSZ.out
      have hO7 := own_only HOf.out hk (fun hh => by have := own_of_ge HOf.out hh; omega)
      exact ⟨_, _, K, rfl, own_base hO7 (by omega), by omega, HSf.out.other hk hgl, (hU0.trans hUf).newer hk (Nat.le_refl _)⟩
  | false =>
    have HR := Lib.hid (show wn.heap[w.heap.size]? = some (.cells #[.int .i64 0, .slice none 0 0] 26 (0, 0)) from (hUn.block (by have := HSZ.out; omega) (by omega)).trans HB0.out)
    have q0 : wn.cell? ⟨w.heap.size, 0, none⟩ = some (.int .i64 0) := by rw [blk_cell HR.out]; rfl
    have q1 : wn.cell? ⟨w.heap.size, 1, none⟩ = some (.slice none 0 0) := by rw [blk_cell HR.out]; rfl
    have qf0 := blk_frozen HR.out 0
    have qf1 := blk_frozen HR.out 1
    have HOf := HOn
    have HSf := HSn
    have hUf := hUn
    go_wp2_with fail
    (try simp only [Exit.inBlock, Exit.then])
    refine bodyPost_ret (results_cell_row rfl _ _ w.heap.size _ _ _ _ rfl (blk_set (blk_set HR.out 0 _) 1 _) Tryz.underlying26 rfl hinfo) rfl ?_
    have hk : Only w.heap.size wn ((wn.setCell ⟨w.heap.size, 0, none⟩ (.int .i64 (K.length : Int))).setCell ⟨w.heap.size, 1, none⟩ (.slice A K.length c)) := ((Only.refl _ _).setCell _).setCell _
    have hz := HSZ.out
    have hO7 := own_only HOf.out hk (fun hh => by have := own_of_ge HOf.out hh; omega)
    exact ⟨_, _, K, rfl, own_base hO7 (by omega), by omega, HSf.out.other hk hgl, (hU0.trans hUf).newer hk (Nat.le_refl _)⟩

end Go.Proofs.YtpfncncohnhanaaGreatDoor

/- Slices of strings. -/
namespace Go.Proofs.YtpfncncohnhanaaGreatDoor
open Go.RowKit

def st (L : List ByteArray) (i : Nat) : ByteArray := L.getD i ByteArray.empty
def scells (L : List ByteArray) : List Value := L.map Value.string
theorem scells_length (L : List ByteArray) : (scells L).length = L.length * 1 := by simp [scells]
theorem scells_one (L : List ByteArray) : ∀ u ∈ scells L, u.oneCell' = true := by
  intro u hu
  simp only [scells, List.mem_map] at hu
  obtain ⟨x, _, rfl⟩ := hu
  rfl
theorem scells_at {L : List ByteArray} {i : Nat} (h : i < L.length) : (scells L)[i]? = some (.string (st L i)) := by simp [scells, st, List.getD, h]
theorem scells_append (K L : List ByteArray) : scells (K ++ L) = scells K ++ scells L := by simp [scells]
theorem st_get {L : List ByteArray} {i : Nat} (h : i < L.length) : L[i] = st L i := by simp [st, List.getD, h]

/-- The value reads as the list of strings. -/
def Strs (w : World) (v : Value) (L : List ByteArray) : Prop := Rd w 1 v L.length (scells L)
/-- A row of the call's own that holds the strings. -/
def OwnS (w : World) (B : Nat) (v : Value) (L : List ByteArray) : Prop := w.ownsRow B 9 1 v L.length (scells L)
theorem Strs.grew {w w' : World} {v : Value} {L : List ByteArray} (h : Strs w v L) (hb : Grew w w') : Strs w' v L := Rd.grew h hb
theorem Strs.nil_ (w : World) : Strs w (.slice none 0 0) [] := Rd.nil_ w 1
theorem OwnS.strs {w : World} {B : Nat} {v : Value} {L : List ByteArray} (h : OwnS w B v L) : Strs w v L := Rd.of_own h
theorem OwnS.nil_ (w : World) (B : Nat) : OwnS w B (.slice none 0 0) [] := World.ownsRow_nil w B _ 1
theorem OwnS.grew {w w' : World} {B : Nat} {v : Value} {L : List ByteArray} (h : OwnS w B v L) (hb : Grew w w') : OwnS w' B v L := own_grew h hb
theorem OwnS.base {w : World} {B B' : Nat} {v : Value} {L : List ByteArray} (h : OwnS w B v L) (hb : B' ≤ B) : OwnS w B' v L := own_base h hb

theorem Strs.open_ {w : World} {v : Value} {L : List ByteArray} (h : Strs w v L) :
    (v = .slice none 0 0 ∧ L = []) ∨ ∃ b o c, v = .slice (some ⟨b, o, none⟩) L.length c ∧ L.length ≤ c ∧ c ≤ 9223372036854775807 ∧ b < w.heap.size ∧
      ∀ i, i < L.length → ∀ W, Grew w W → W.cell? ⟨b, o + i, none⟩ = some (.string (st L i)) := by
  obtain ⟨_, _, h3⟩ := h
  rcases h3 with ⟨h4, h5⟩ | ⟨b, o, c, h4, h5, h6, h7, h8⟩
  · exact .inl ⟨h4, List.eq_nil_of_length_eq_zero h5⟩
  · exact .inr ⟨b, o, c, h4, h5, h6, h7, fun i hi W hW => (hW.cell (p := ⟨b, o + i, none⟩) h7).trans (h8 _ _ (scells_at hi))⟩
theorem strs_slice {w : World} {v : Value} {L : List ByteArray} (h : Strs w v L) : ∃ A c, v = .slice A L.length c := by
  rcases h.open_ with ⟨rfl, rfl⟩ | ⟨b, o, c, rfl, _⟩
  · exact ⟨_, _, rfl⟩
  · exact ⟨_, _, rfl⟩
/-- A literal of strings in a new block. -/
theorem OwnS.lit (w : World) (B : Nat) (L : List ByteArray) (cs : Array Value) (hB : B ≤ w.heap.size) (hn : L.length ≤ 9223372036854775807) (hc : cs.toList = scells L) :
    OwnS (w.alloc (.cells cs 9)) B (.slice (some ⟨w.heap.size, 0, none⟩) L.length L.length) L := by
  have hl : cs.size = L.length * 1 := by rw [← Array.length_toList, hc, scells_length]
  have h := World.ownsRow_lit (e := 9) (size := 1) w cs L.length hB hn hl
  rw [hc] at h
  exact h
theorem OwnS.mk_ {w : World} {B : Nat} {L : List ByteArray} {g c : Nat} {cur : Array Value} (hB : B ≤ g) (hg : w.heap[g]? = some (.cells cur 9 (0, 0))) (hnc : L.length ≤ c) (hcm : c ≤ 9223372036854775807) (hcs : cur.size = c)
    (hc : ∀ i, i < L.length → cur[i]? = some (.string (st L i))) : OwnS w B (.slice (some ⟨g, 0, none⟩) L.length c) L := by
  refine ⟨scells_length L, .inr ⟨g, c, cur, rfl, hB, hg, hnc, hcm, by omega, ?_⟩⟩
  apply List.ext_getElem?
  intro j
  rw [List.getElem?_take]
  by_cases hj : j < L.length
  · rw [if_pos (by omega), scells_at hj]
    simpa using hc j hj
  · rw [if_neg (by omega), List.getElem?_eq_none (by rw [scells_length]; omega)]

theorem Tryz.infoStr : (Tryz.prog.info? 9).map (fun i => (i.zero, i.size, i.bytes)) = some (some (.string ByteArray.empty), 1, 16) := by kernel_rfl

/-- The call returns a new list of strings. -/
def GivesS (w : World) (L : List ByteArray) (e : Ending) (w' : World) : Prop := ∃ v, e = .returned v ∧ OwnS w' w.heap.size v L ∧ Grew w w'

end Go.Proofs.YtpfncncohnhanaaGreatDoor

/- The first place of a text in a list. -/
namespace Go.Proofs.YtpfncncohnhanaaGreatDoor
open Go.RowKit

/-- The first place at which the text stands, or -1. -/
def findS (L : List ByteArray) (s : ByteArray) : Int := match L.findIdx? (fun x => x.toList == s.toList) with
  | some i => i
  | none => -1
/-- The text does not stand among the first k. -/
def NotIn (L : List ByteArray) (s : ByteArray) (k : Nat) : Prop := ∀ i, i < k → ((st L i).toList == s.toList) = false
theorem NotIn.zero (L : List ByteArray) (s : ByteArray) : NotIn L s 0 := fun i hi => absurd hi (by omega)
theorem NotIn.succ {L : List ByteArray} {s : ByteArray} {k : Nat} (h : NotIn L s k) (h1 : ((st L k).toList == s.toList) = false) : NotIn L s (k + 1) := by
  intro i hi
  rcases Nat.lt_or_ge i k with hk | hk
  · exact h i hk
  · obtain rfl : i = k := by omega
    exact h1
theorem findS_at {L : List ByteArray} {s : ByteArray} {k : Nat} (hk : k < L.length) (h : NotIn L s k) (h1 : ((st L k).toList == s.toList) = true) : findS L s = (k : Int) := by
  have : L.findIdx? (fun x => x.toList == s.toList) = some k := by
    rw [List.findIdx?_eq_some_iff_getElem]
    refine ⟨hk, by rw [st_get hk]; exact h1, fun j hj => ?_⟩
    rw [st_get (by omega)]
    simpa using h j hj
  rw [findS, this]
theorem findS_none {L : List ByteArray} {s : ByteArray} (h : NotIn L s L.length) : findS L s = -1 := by
  have : L.findIdx? (fun x => x.toList == s.toList) = none := by
    rw [List.findIdx?_eq_none_iff]
    intro x hx
    obtain ⟨i, hi, rfl⟩ := List.getElem_of_mem hx
    rw [st_get hi]
    exact h i hi
  rw [findS, this]
theorem findS_range (L : List ByteArray) (s : ByteArray) : findS L s = -1 ∨ ∃ k, k < L.length ∧ findS L s = (k : Int) := by
  unfold findS
  cases h : L.findIdx? (fun x => x.toList == s.toList) with
  | none => exact .inl rfl
  | some i =>
    rw [List.findIdx?_eq_some_iff_getElem] at h
    exact .inr ⟨i, h.1, rfl⟩

theorem l09Find_c (v : Value) (L : List ByteArray) (s : ByteArray) (w : World) (h : Strs w v L) (hn : L.length ≤ 1099511627776) :
    Calls Tryz.prog 27 #[v, .string s] w fun e w' => e = .returned (.int .i64 (findS L s)) ∧ Grew w w' := by
  rcases h.open_ with ⟨rfl, rfl⟩ | ⟨b, o, c, rfl, hc, hm, hb, hf⟩
  · have hE : findS [] s = -1 := rfl
    rw [hE]
    go_enter Tryz.func27, Tryz.ntmps27
    go_wp2_with fail
    refine wp_loop_rounds 1 ?_; rw [rounds_succ]
    go_wp2_with fail
    go_ret
    exact ⟨rfl, Grew.refl _⟩
  · clear h
    obtain ⟨R, hR⟩ : ∃ R, R = findS L s := ⟨_, rfl⟩
    rw [← hR]
    have HA := Lib.hid (fun k hk h1 h2 => hR.trans (@findS_at L s k hk h1 h2))
    have HZ := Lib.hid (fun h => hR.trans (@findS_none L s h))
    have HF := Lib.hid hf
    clear hR hf
    generalize hN : L.length = n at *
    clear hN
    go_enter Tryz.func27, Tryz.ntmps27
    go_wp2_with fail
    go_loopg [5] n (fun k i wr => ∃ j : Nat, j ≤ n ∧ k = n - j ∧ i = .int .i64 j ∧ Grew w wr ∧ Hid (NotIn L s j))
    case atStart => exact ⟨0, Nat.zero_le _, by omega, rfl, Grew.refl _, NotIn.zero _ _⟩
    case round =>
      obtain ⟨j, hj, rfl, rfl, hB, HJ⟩ := hrel
      by_cases hlt : j < n
      · have k1 : ∀ W, Grew w W → W.cell? ⟨b, o + j, none⟩ = some (.string (st L j)) := fun W hW => HF.out j hlt W hW
        cases he : ((st L j).toList == s.toList) with
        | true =>
          have hv := Lib.hid (HA.out j hlt HJ.out he)
          generalize st L j = x at *
          go_wp2_with fail
          go_ret
          rw [hv.out]
          exact ⟨rfl, hB⟩
        | false =>
          have HS := Lib.hid (HJ.out.succ he)
          generalize st L j = x at *
          go_wp2_with fail
          go_roundg (n - (j + 1))
          case measure => omega
          case rel => exact ⟨j + 1, by omega, rfl, by go_num, hB, HS⟩
      · have hjn : j = n := by omega
        subst hjn
        have hv := Lib.hid (HZ.out HJ.out)
        go_wp2_with fail
        go_ret
        rw [hv.out]
        exact ⟨rfl, hB⟩
end Go.Proofs.YtpfncncohnhanaaGreatDoor

/- A table of strings that is a package-level variable: what the row's condition gives. -/
namespace Go.Proofs.YtpfncncohnhanaaGreatDoor
open Go.RowKit

/-- The table as a row lists it. -/
def tabS {H : Type} (L : List ByteArray) : DataW H := .agg (L.map fun s => .lit (.string s.data.toList))

theorem cells_of_strs {H : Type} {enc : TypeId × Value → H} {P : Program} {w : World} {base : Nat} {sp : Nat → Bool} {held : Bool} {fuel : Nat} {t e : TypeId} {n : Nat} {cs : List Value} {L : List ByteArray} {p : List MemPlace}
    (ht : P.underlying t = some (.array n e)) (he : P.underlying e = some .string) (hce : P.cellsOf e = 1) (hct : P.cellsOf t = n)
    (h : DataW.trod enc P w base sp held fuel t cs = some (tabS L, p)) : cs = scells L := by
  obtain ⟨xs, m, _, hx, hl, hxl, hi⟩ := DataW.trod_array ht h
  rw [hct] at hl
  simp only [tabS, Prod.mk.injEq, DataW.agg.injEq] at hx
  have hLn : L.length = n := by
    have := congrArg List.length hx.1
    simp only [List.length_map] at this
    omega
  apply List.ext_getElem?
  intro i
  by_cases h1 : i < n
  · have hk := hi i h1
    rw [hce, Nat.mul_one] at hk
    have hxi : xs[i]? = some xs[i] := List.getElem?_eq_getElem (by omega)
    rw [hxi] at hk
    obtain ⟨s, hc, hs, _⟩ := DataW.trod_string he hk
    have h2 : cs[i]? = some (.string s) := by
      have := congrArg (·[0]?) hc
      simpa [List.getElem?_take, List.getElem?_drop] using this
    have h3 := congrArg (·[i]?) hx.1
    simp only [List.getElem?_map, hxi, Option.map_some, hs] at h3
    have h4 : L[i]? = some L[i] := List.getElem?_eq_getElem (by omega)
    rw [h4] at h3
    simp only [Option.map_some, Option.some.injEq, DataW.lit.injEq, Lit.string.injEq] at h3
    have h5 : L[i] = s := by
      apply ByteArray.ext
      apply Array.ext'
      exact h3
    rw [h2, scells, List.getElem?_map, h4, Option.map_some, h5]
  · rw [List.getElem?_eq_none (by omega), List.getElem?_eq_none (by rw [scells_length]; omega)]

/-- Block g holds the table, none of it frozen. -/
def TabAt (w : World) (g : Nat) (L : List ByteArray) : Prop := ∃ t, w.heap[g]? = some (.cells (scells L).toArray t (0, 0))
theorem TabAt.grew {w w' : World} {g : Nat} {L : List ByteArray} (h : TabAt w g L) (hg : Grew w w') : TabAt w' g L := by
  obtain ⟨t, h⟩ := h
  exact ⟨t, (hg.block (blk_lt h)).trans h⟩
theorem TabAt.lt {w : World} {g : Nat} {L : List ByteArray} (h : TabAt w g L) : g < w.heap.size := by
  obtain ⟨t, h⟩ := h
  exact blk_lt h
theorem TabAt.cell {w : World} {g : Nat} {L : List ByteArray} (h : TabAt w g L) {i : Nat} (hi : i < L.length) : w.cell? ⟨g, i, none⟩ = some (.string (st L i)) := by
  obtain ⟨t, h⟩ := h
  rw [blk_cell h]
  have := scells_at hi
  simpa using this
/-- What one variable of the condition gives. -/
theorem laid_tab {P : Program} {W : World} {name : String} {L : List ByteArray} {rest : List (String × DataW Unit)} {g : Nat} {t e : TypeId} {n : Nat} {ps : List MemPlace}
    (hg : P.globalNamed name = some g) (hty : (P.globals[g]?).map (·.type) = some t) (ht : P.underlying t = some (.array n e)) (he : P.underlying e = some .string) (hce : P.cellsOf e = 1) (hct : P.cellsOf t = n) (hn : 0 < L.length)
    (h : DataW.LaidVars P W ((name, tabS L) :: rest) ps) (hcell : ∀ b off, MemPlace.cell b off ∈ ps → (∃ c t, W.heap[b]? = some (.cells c t (0, 0))) ∧ ∀ u v, W.cell? ⟨b, off, none⟩ = some (.iface u v) → Value.okWide P W .any 0 u v) :
    W.var? P name = some (scells L).toArray ∧ TabAt W g L ∧ ∃ q, DataW.LaidVars P W rest q ∧ ∀ x ∈ q, x ∈ ps := by
  obtain ⟨g', t', cs, f, p, q, hg', ht', hv, hd, hr, hps⟩ := h
  obtain rfl := Option.some.inj (hg.symm.trans hg')
  obtain rfl := Option.some.inj (hty.symm.trans ht')
  have hc := cells_of_strs ht he hce hct hd
  have hcs : cs = (scells L).toArray := by apply Array.ext'; simpa using hc
  subst hcs
  refine ⟨hv, ?_, q, hr, fun x hx => by rw [hps]; simp [hx]⟩
  have hm : MemPlace.cell g 0 ∈ ps := by
    rw [hps]
    apply List.mem_append_left
    apply List.mem_append_left
    rw [MemPlace.mem_row]
    exact ⟨0, by simp [scells, hn], rfl⟩
  obtain ⟨⟨c, t2, hb⟩, _⟩ := hcell g 0 hm
  simp only [World.var?, hg, Option.bind_some, hb, Option.some.injEq] at hv
  exact ⟨t2, by rw [hb, hv]⟩
end Go.Proofs.YtpfncncohnhanaaGreatDoor

/- The program's makers over slices.Concat. -/
namespace Go.Proofs.YtpfncncohnhanaaGreatDoor
open Go.RowKit
open Fm (Nd)

/-- A block that has just been made and holds slices of nodes. -/
theorem lists_new (w : World) (t : TypeId) (us : List Value) (L : List (List Nd)) (hm : L.length ≤ 9223372036854775807)
    (h : ∀ i, i < L.length → ∃ u, us[i]? = some u ∧ Nodes w u (L.getD i [])) : Lists (w.alloc (.cells us.toArray t)) (.slice (some ⟨w.heap.size, 0, none⟩) L.length L.length) L := by
  refine .inr ⟨w.heap.size, 0, L.length, rfl, Nat.le_refl _, hm, by simp, fun i hi => ?_⟩
  obtain ⟨u, h1, h2⟩ := h i hi
  refine ⟨u, ?_, h2.grew ((Grew.refl w).alloc _)⟩
  rw [Nat.zero_add, blk_cell (blk_new w _)]
  simpa using h1

theorem join_c (k : Int) (va vb : Value) (xs ys : List Nd) (w : World) (ha : Nodes w va xs) (hb : Nodes w vb ys) (hn : xs.length + ys.length ≤ 1099511627775) :
    Calls Tryz.prog 171 #[.int .i64 k, va, vb] w (Gives w (Fm.join k xs ys)) := by
  have o1 := Own.one w w.heap.size k 0 (Nat.le_refl _)
  have g1 := (Grew.refl w).alloc (.cells #[.int .i64 k, .int .i64 0] 59)
  have hl := lists_new (w.alloc (.cells #[.int .i64 k, .int .i64 0] 59)) 29 [.slice (some ⟨w.heap.size, 0, none⟩) 1 1, va, vb] [[(k, 0)], xs, ys] (by simp) (fun i hi => by
    match i, hi with
    | 0, _ => exact ⟨_, rfl, o1.nodes⟩
    | 1, _ => exact ⟨_, rfl, ha.grew g1⟩
    | 2, _ => exact ⟨_, rfl, hb.grew g1⟩)
  obtain ⟨A, ca, rfl⟩ := nodes_slice ha
  obtain ⟨B, cb, rfl⟩ := nodes_slice hb
  simp only [List.length_cons, List.length_nil, World.size_alloc] at hl
  go_enter Tryz.func171, Tryz.ntmps171
  go_wp2_with fail
  refine (concat_c _ _ _ hl (by simp) (by simp; omega)).mono ?_
  rintro e w1 ⟨v1, rfl, ho1, hg1⟩
  go_wp2_with fail
  go_ret
  exact ⟨_, rfl, by simpa [Fm.join] using ho1.base (by simp; omega), hg1.of_alloc.of_alloc⟩

theorem prefix_c (k : Int) (va : Value) (xs : List Nd) (w : World) (ha : Nodes w va xs) (hn : xs.length ≤ 1099511627775) :
    Calls Tryz.prog 226 #[.int .i64 k, va] w (Gives w (Fm.pre k xs)) := by
  have o1 := Own.one w w.heap.size k 0 (Nat.le_refl _)
  have g1 := (Grew.refl w).alloc (.cells #[.int .i64 k, .int .i64 0] 59)
  have hl := lists_new (w.alloc (.cells #[.int .i64 k, .int .i64 0] 59)) 29 [.slice (some ⟨w.heap.size, 0, none⟩) 1 1, va] [[(k, 0)], xs] (by simp) (fun i hi => by
    match i, hi with
    | 0, _ => exact ⟨_, rfl, o1.nodes⟩
    | 1, _ => exact ⟨_, rfl, ha.grew g1⟩)
  obtain ⟨A, ca, rfl⟩ := nodes_slice ha
  simp only [List.length_cons, List.length_nil, World.size_alloc] at hl
  go_enter Tryz.func226, Tryz.ntmps226
  go_wp2_with fail
  refine (concat_c _ _ _ hl (by simp) (by simp; omega)).mono ?_
  rintro e w1 ⟨v1, rfl, ho1, hg1⟩
  go_wp2_with fail
  go_ret
  exact ⟨_, rfl, by simpa [Fm.pre] using ho1.base (by simp; omega), hg1.of_alloc.of_alloc⟩

theorem negation_c (va : Value) (xs : List Nd) (w : World) (ha : Nodes w va xs) (hn : xs.length ≤ 1099511627774) :
    Calls Tryz.prog 224 #[va] w (Gives w (Fm.neg xs)) := by
  go_enter Tryz.func224, Tryz.ntmps224
  go_wp2_with fail
  refine (falsum_c _).mono ?_
  rintro e w1 ⟨v1, rfl, ho1, hg1⟩
  go_wp2_with fail
  refine (join_c _ _ _ xs Fm.falsum _ (ha.grew hg1) ho1.nodes (by simp [Fm.falsum]; omega)).mono ?_
  rintro e w2 ⟨v2, rfl, ho2, hg2⟩
  go_wp2_with fail
  go_ret
  exact ⟨_, rfl, ho2.base hg1.size, hg1.trans hg2⟩
end Go.Proofs.YtpfncncohnhanaaGreatDoor

/- The readers' first steps: take, need, l02Take, l02Need. -/
namespace Go.Proofs.YtpfncncohnhanaaGreatDoor
open Go.RowKit

/-- Block g holds a reader: its text, its position, whether it is bad. -/
def Rdr (w : World) (g : Nat) (T : TypeId) (s : ByteArray) (st : Fm.St) : Prop := w.heap[g]? = some (.cells #[.string s, .int .i64 st.1, .bool st.2] T (0, 0))
theorem Rdr.text {w : World} {g T : Nat} {s : ByteArray} {st : Fm.St} (h : Rdr w g T s st) : w.cell? ⟨g, 0, none⟩ = some (.string s) := by rw [blk_cell h]; rfl
theorem Rdr.at_ {w : World} {g T : Nat} {s : ByteArray} {st : Fm.St} (h : Rdr w g T s st) : w.cell? ⟨g, 1, none⟩ = some (.int .i64 st.1) := by rw [blk_cell h]; rfl
theorem Rdr.bad {w : World} {g T : Nat} {s : ByteArray} {st : Fm.St} (h : Rdr w g T s st) : w.cell? ⟨g, 2, none⟩ = some (.bool st.2) := by rw [blk_cell h]; rfl
theorem Rdr.free {w : World} {g T : Nat} {s : ByteArray} {st : Fm.St} (h : Rdr w g T s st) (i : Nat) : w.frozen? ⟨g, i, none⟩ = false := blk_frozen h i
theorem Rdr.lt {w : World} {g T : Nat} {s : ByteArray} {st : Fm.St} (h : Rdr w g T s st) : g < w.heap.size := blk_lt h
theorem Rdr.grew {w w' : World} {g T : Nat} {s : ByteArray} {st : Fm.St} (h : Rdr w g T s st) (hg : Grew w w') : Rdr w' g T s st := (hg.block h.lt).trans h
theorem Rdr.move {w : World} {g T : Nat} {s : ByteArray} {st : Fm.St} (h : Rdr w g T s st) (n : Nat) : Rdr (w.setCell ⟨g, 1, none⟩ (.int .i64 n)) g T s (n, st.2) := blk_set h 1 _
theorem Rdr.spoil {w : World} {g T : Nat} {s : ByteArray} {st : Fm.St} (h : Rdr w g T s st) : Rdr (w.setCell ⟨g, 2, none⟩ (.bool true)) g T s (st.1, true) := blk_set h 2 _

/-- What 'take' leaves. -/
def Took (w : World) (g : Nat) (T : TypeId) (s : ByteArray) (st : Fm.St) (c : UInt8) (e : Ending) (w' : World) : Prop :=
  e = .returned (.bool (Fm.sees s.data.toList st c)) ∧ Rdr w' g T s (if Fm.sees s.data.toList st c then Fm.step st else st) ∧ Only g w w'

theorem sees_bad (s : List UInt8) (p : Nat) (c : UInt8) : Fm.sees s (p, true) c = false := rfl
theorem sees_end (s : ByteArray) (p : Nat) (c : UInt8) (h : s.size ≤ p) : Fm.sees s.data.toList (p, false) c = false := by
  have : s.data.toList[p]? = none := by rw [Array.getElem?_toList, Array.getElem?_eq_none]; exact h
  simp [Fm.sees, this]
theorem sees_in (s : ByteArray) (p : Nat) (c : UInt8) (h : p < s.size) : Fm.sees s.data.toList (p, false) c = (s[p] == c) := by
  have : s.data.toList[p]? = some s[p] := by rw [Array.getElem?_toList]; exact Array.getElem?_eq_getElem h
  simp [Fm.sees, this]
theorem byte_eq (a b : UInt8) : ((a.toNat : Int) == b.toNat) = (a == b) := by
  rw [Bool.eq_iff_iff]; simp only [beq_iff_eq, ← UInt8.toNat_inj]; omega
theorem byte_ne (a b : UInt8) : ((a.toNat : Int) != b.toNat) = !(a == b) := by
  rw [bne, byte_eq]

theorem Took.no {w w' : World} {g T : Nat} {s : ByteArray} {st : Fm.St} {c : UInt8} (h : Rdr w g T s st) (hs : Fm.sees s.data.toList st c = false) (hw : Grew w w') : Took w g T s st c (.returned (.bool false)) w' := by
  unfold Took; rw [hs]; exact ⟨rfl, h.grew hw, hw.only⟩
theorem Took.yes {w w' : World} {g T : Nat} {s : ByteArray} {p : Nat} {b : Bool} {c : UInt8} (h : Rdr w g T s (p, b)) (hs : Fm.sees s.data.toList (p, b) c = true) (hw : Grew w w') : Took w g T s (p, b) c (.returned (.bool true)) (w'.setCell ⟨g, 1, none⟩ (.int .i64 ((p : Int) + 1))) := by
  unfold Took; rw [hs]; exact ⟨rfl, (h.grew hw).move (p + 1), hw.only.setCell _⟩

theorem take_c (g T : Nat) (s : ByteArray) (st : Fm.St) (c : UInt8) (m : Int) (w : World) (h : Rdr w g T s st) (hs : s.size ≤ 1099511627776) (hat : st.1 ≤ s.size) (hm : m = (c.toNat : Int)) :
    Calls Tryz.prog 170 #[.pointer (some ⟨g, 0, none⟩), .int .u8 m] w (Took w g T s st c) := by
  subst hm
  have c0 := h.text
  have c1 := h.at_
  have c2 := h.bad
  have hf := h.free 1
  obtain ⟨p, b⟩ := st
  simp only at c0 c1 c2 hat
  by_cases hb : b = true
  · subst hb
    have HH := Lib.hid h
    clear h
    go_enter Tryz.func170, Tryz.ntmps170
    go_wp2_with fail
    go_quiet (fail)
    go_wp2_with fail
    go_ret
    exact Took.no HH.out (sees_bad _ _ _) ((Grew.refl _).drewN _)
  · have hb' : b = false := by simpa using hb
    subst hb'
    by_cases hlt : p < s.size
    · have hd : decide ((s.size : Int) ≤ (p : Int)) = false := by simp; omega
      have HH := Lib.hid h
      clear h hb
      go_enter Tryz.func170, Tryz.ntmps170
      go_wp2_with fail
      go_quiet (fail)
      go_wp2_with fail
      · have h1 : s.size ≤ p ∨ ((s[p].toNat : Int) != c.toNat) = true := by assumption
        go_ret
        exact Took.no HH.out (by rw [sees_in s p c hlt]; rcases h1 with h1 | h1; omega; rw [byte_ne] at h1; simpa using h1) ((Grew.refl _).drewN _)
      · have h1 : ¬ s.size ≤ p ∧ ((s[p].toNat : Int) != c.toNat) = false := by assumption
        go_ret
        exact Took.yes HH.out (by rw [sees_in s p c hlt]; have := h1.2; rw [byte_ne] at this; simpa using this) ((Grew.refl _).drewN _)
    · have hd : decide ((s.size : Int) ≤ (p : Int)) = true := by simp; omega
      have HH := Lib.hid h
      clear h hb
      go_enter Tryz.func170, Tryz.ntmps170
      go_wp2_with fail
      go_quiet (fail)
      go_wp2_with fail
      go_ret
      exact Took.no HH.out (sees_end _ _ _ (by omega)) ((Grew.refl _).drewN _)

theorem take_yes (g T : Nat) (s : ByteArray) (st : Fm.St) (c : UInt8) (m : Int) (w : World) (h : Rdr w g T s st) (hs : s.size ≤ 1099511627776) (hat : st.1 ≤ s.size) (hm : m = (c.toNat : Int)) (hsee : Fm.sees s.data.toList st c = true) :
    Calls Tryz.prog 170 #[.pointer (some ⟨g, 0, none⟩), .int .u8 m] w fun e w' => e = .returned (.bool true) ∧ Rdr w' g T s (Fm.step st) ∧ Only g w w' :=
  (take_c g T s st c m w h hs hat hm).mono fun e w' hh => by
    unfold Took at hh; rw [hsee] at hh; exact hh
theorem take_no (g T : Nat) (s : ByteArray) (st : Fm.St) (c : UInt8) (m : Int) (w : World) (h : Rdr w g T s st) (hs : s.size ≤ 1099511627776) (hat : st.1 ≤ s.size) (hm : m = (c.toNat : Int)) (hsee : Fm.sees s.data.toList st c = false) :
    Calls Tryz.prog 170 #[.pointer (some ⟨g, 0, none⟩), .int .u8 m] w fun e w' => e = .returned (.bool false) ∧ Rdr w' g T s st ∧ Only g w w' :=
  (take_c g T s st c m w h hs hat hm).mono fun e w' hh => by
    unfold Took at hh; rw [hsee] at hh; exact hh
theorem need_c (g T : Nat) (s : ByteArray) (st : Fm.St) (c : UInt8) (m : Int) (w : World) (h : Rdr w g T s st) (hs : s.size ≤ 1099511627776) (hat : st.1 ≤ s.size) (hm : m = (c.toNat : Int)) :
    Calls Tryz.prog 225 #[.pointer (some ⟨g, 0, none⟩), .int .u8 m] w fun e w' => e = .returned (.tuple #[]) ∧ Rdr w' g T s (Fm.need s.data.toList st c) ∧ Only g w w' := by
  subst hm
  by_cases hsee : Fm.sees s.data.toList st c = true
  · have hn : Fm.need s.data.toList st c = Fm.step st := by unfold Fm.need; rw [if_pos hsee]
    rw [hn]
    clear hn
    go_enter Tryz.func225, Tryz.ntmps225
    go_wp2_with fail
    refine (take_yes g T s st c _ _ h hs hat rfl hsee).mono ?_
    rintro e w1 ⟨rfl, h1, o1⟩
    go_wp2_with fail
    go_end0
    exact ⟨rfl, h1, o1⟩
  · have hsee' : Fm.sees s.data.toList st c = false := by simpa using hsee
    have hn : Fm.need s.data.toList st c = (st.1, true) := by unfold Fm.need; rw [if_neg hsee]
    rw [hn]
    clear hn hsee
    go_enter Tryz.func225, Tryz.ntmps225
    go_wp2_with fail
    refine (take_no g T s st c _ _ h hs hat rfl hsee').mono ?_
    rintro e w1 ⟨rfl, h1, o1⟩
    have c2 := h1.bad
    have hf := h1.free 2
    have HH := Lib.hid h1
    clear h1
    go_wp2_with fail
    go_end0
    exact ⟨rfl, HH.out.spoil, o1.setCell _⟩

end Go.Proofs.YtpfncncohnhanaaGreatDoor

/- The program's reader: what its functions read is what the plain parser gives. -/
namespace Go.Proofs.YtpfncncohnhanaaGreatDoor
open Go.RowKit
open Fm (Nd)

/-- The call returns the list r.1 in new memory, and the reader stands at r.2. -/
def Reads (w : World) (g : Nat) (T : TypeId) (s : ByteArray) (r : Fm.Res) (e : Ending) (w' : World) : Prop :=
  ∃ v, e = .returned v ∧ Own w' w.heap.size v r.1 ∧ Rdr w' g T s r.2 ∧ Only g w w'

theorem own_rdr_ne {w : World} {B g : Nat} {v : Value} {xs : List Nd} {T : TypeId} {s : ByteArray} {st : Fm.St} (h : Own w B v xs) (hr : Rdr w g T s st) (hne : 59 ≠ T) : v.ownBlock ≠ some g := own_ne h hr hne

theorem size_toList (s : ByteArray) : s.data.toList.length = s.size := by simp

/-- One 'join' in a loop of 'and' or 'or'. -/
theorem Reads.ok_len {s : ByteArray} {st : Fm.St} {r : Fm.Res} (h : Fm.Ok s.data.toList st r) (hs : s.size ≤ 1048576) : r.1.length ≤ 3145729 := by
  obtain ⟨h1, h2, h3⟩ := h
  rw [size_toList] at h2
  omega

/-- The contract of a function that reads, for a plain function sub and all states from which less than f bytes are left. -/
def Sub (F : FuncId) (T : TypeId) (s : ByteArray) (f : Nat) (sub : Fm.St → Fm.Res) : Prop :=
  ∀ (g : Nat) (st : Fm.St) (w : World), Rdr w g T s st → st.1 ≤ s.size → s.size - st.1 < f → Calls Tryz.prog F #[.pointer (some ⟨g, 0, none⟩)] w (Reads w g T s (sub st))

theorem and_c (T : TypeId) (hT : 59 ≠ T) (s : ByteArray) (f m : Nat) (sub : Fm.St → Fm.Res) (hs : s.size ≤ 1048576) (hm : s.size < m) (hok : ∀ st : Fm.St, st.1 ≤ s.data.toList.length → Fm.Ok s.data.toList st (sub st))
    (hsub : Sub 212 T s f sub) : Sub 195 T s f (fun st => Fm.loop s.data.toList 2 38 sub m (sub st).1 (sub st).2) := by
  intro g st w hR hat hfu
  have HS := Lib.hid hsub
  have HO := Lib.hid hok
  clear hsub hok
  have hsz := size_toList s
  have h0 : Fm.Ok s.data.toList st (sub st) := HO.out st (by rw [hsz]; exact hat)
  show Calls _ _ _ _ (Reads w g T s (Fm.loop s.data.toList 2 38 sub m (sub st).1 (sub st).2))
  obtain ⟨R, hR0⟩ : ∃ R, R = Fm.loop s.data.toList 2 38 sub m (sub st).1 (sub st).2 := ⟨_, rfl⟩
  rw [← hR0]
  have hend := Lib.hid hR0
  clear hR0
  have HZ := Lib.hid hsz
  clear hsz
  go_enter Tryz.func195, Tryz.ntmps195
  go_wp2_with fail
  refine (HS.out g st _ hR hat hfu).mono ?_
  rintro e w1 ⟨v1, rfl, ho1, hR1, hO1⟩
  generalize sub st = r1 at *
  obtain ⟨k1, k2, k3⟩ := h0
  rw [HZ.out] at k2
  go_wp2_with fail
  go_loopg [3] m (fun i v wr => ∃ (a : List Nd) (st' : Fm.St), Own wr w.heap.size v a ∧ Rdr wr g T s st' ∧ Only g w wr ∧ Hid (Fm.loop s.data.toList 2 38 sub i a st' = R) ∧ s.size - st'.1 < i ∧ st.1 ≤ st'.1 ∧ st'.1 ≤ s.size ∧ a.length ≤ 3 * st'.1 + 1)
  case atStart => exact ⟨r1.1, r1.2, ho1, hR1, hO1, hend.out.symm, by omega, by omega, by omega, by omega⟩
  case round =>
    obtain ⟨a, st', hown, hR', hO', hl, hi, hst, hst2, hlen⟩ := hrel
    have hne := own_rdr_ne hown hR' hT
    clear hend ho1 hR1 hO1 k1 k2 k3 hR
    obtain ⟨j, rfl⟩ : ∃ j, gk = j + 1 := ⟨gk - 1, by omega⟩
    by_cases hsee : Fm.sees s.data.toList st' 38 = true
    · have hlt := Fm.sees_lt hsee
      rw [HZ.out] at hlt
      have hl2 : Hid (Fm.loop s.data.toList 2 38 sub j (Fm.join 2 a (sub (Fm.step st')).1) (sub (Fm.step st')).2 = R) := by
        have := hl.out
        rw [Fm.loop, if_pos hsee] at this
        exact this
      obtain ⟨k1, k2, k3⟩ : Fm.Ok s.data.toList (Fm.step st') (sub (Fm.step st')) := HO.out (Fm.step st') (by rw [HZ.out]; exact hlt)
      rw [HZ.out] at k2
      have e1 : (Fm.step st').1 = st'.1 + 1 := rfl
      rw [e1] at k1 k3
      have hfu2 : s.size - (Fm.step st').1 < f := by rw [e1]; omega
      have hat2 : (Fm.step st').1 ≤ s.size := by rw [e1]; omega
      clear hl e1
      go_wp2_with fail
      refine (take_yes g T s st' 38 _ _ hR' (by omega) hst2 rfl hsee).mono ?_
      rintro e w2 ⟨rfl, hR2, hO2⟩
      clear hsee hR'
      generalize Fm.step st' = st2 at *
      go_wp2_with fail
      refine (HS.out g st2 _ hR2 hat2 hfu2).mono ?_
      rintro e w3 ⟨v3, rfl, ho3, hR3, hO3⟩
      generalize sub st2 = r3 at *
      go_wp2_with fail
      refine (join_c 2 _ _ a r3.1 _ ((hown.only hO2 hne).only hO3 hne).nodes ho3.nodes (by omega)).mono ?_
      rintro e w4 ⟨v4, rfl, ho4, hg4⟩
      go_wp2_with fail
      go_roundg j
      case measure => omega
      case rel => exact ⟨_, r3.2, ho4.base (by have := hO'.size; have := hO2.size; have := hO3.size; omega), hR3.grew hg4, ((hO'.trans hO2).trans hO3).grew hg4, hl2, by omega, by omega, by omega, by simp only [Fm.join, List.length_cons, List.length_append]; omega⟩
    · have hsee' : Fm.sees s.data.toList st' 38 = false := by simpa using hsee
      have hl2 : Hid (R = (a, st')) := by
        have := hl.out
        rw [Fm.loop, if_neg hsee] at this
        exact this.symm
      clear hsee hl
      go_wp2_with fail
      refine (take_no g T s st' 38 _ _ hR' (by omega) hst2 rfl hsee').mono ?_
      rintro e w2 ⟨rfl, hR2, hO2⟩
      go_wp2_with fail
      go_ret
      rw [hl2.out]
      exact ⟨_, rfl, hown.only hO2 hne, hR2, hO'.trans hO2⟩
theorem or_c (T : TypeId) (hT : 59 ≠ T) (s : ByteArray) (f m : Nat) (sub : Fm.St → Fm.Res) (hs : s.size ≤ 1048576) (hm : s.size < m) (hok : ∀ st : Fm.St, st.1 ≤ s.data.toList.length → Fm.Ok s.data.toList st (sub st))
    (hsub : Sub 195 T s f sub) : Sub 169 T s f (fun st => Fm.loop s.data.toList 3 124 sub m (sub st).1 (sub st).2) := by
  intro g st w hR hat hfu
  have HS := Lib.hid hsub
  have HO := Lib.hid hok
  clear hsub hok
  have hsz := size_toList s
  have h0 : Fm.Ok s.data.toList st (sub st) := HO.out st (by rw [hsz]; exact hat)
  show Calls _ _ _ _ (Reads w g T s (Fm.loop s.data.toList 3 124 sub m (sub st).1 (sub st).2))
  obtain ⟨R, hR0⟩ : ∃ R, R = Fm.loop s.data.toList 3 124 sub m (sub st).1 (sub st).2 := ⟨_, rfl⟩
  rw [← hR0]
  have hend := Lib.hid hR0
  clear hR0
  have HZ := Lib.hid hsz
  clear hsz
  go_enter Tryz.func169, Tryz.ntmps169
  go_wp2_with fail
  refine (HS.out g st _ hR hat hfu).mono ?_
  rintro e w1 ⟨v1, rfl, ho1, hR1, hO1⟩
  generalize sub st = r1 at *
  obtain ⟨k1, k2, k3⟩ := h0
  rw [HZ.out] at k2
  go_wp2_with fail
  go_loopg [3] m (fun i v wr => ∃ (a : List Nd) (st' : Fm.St), Own wr w.heap.size v a ∧ Rdr wr g T s st' ∧ Only g w wr ∧ Hid (Fm.loop s.data.toList 3 124 sub i a st' = R) ∧ s.size - st'.1 < i ∧ st.1 ≤ st'.1 ∧ st'.1 ≤ s.size ∧ a.length ≤ 3 * st'.1 + 1)
  case atStart => exact ⟨r1.1, r1.2, ho1, hR1, hO1, hend.out.symm, by omega, by omega, by omega, by omega⟩
  case round =>
    obtain ⟨a, st', hown, hR', hO', hl, hi, hst, hst2, hlen⟩ := hrel
    have hne := own_rdr_ne hown hR' hT
    clear hend ho1 hR1 hO1 k1 k2 k3 hR
    obtain ⟨j, rfl⟩ : ∃ j, gk = j + 1 := ⟨gk - 1, by omega⟩
    by_cases hsee : Fm.sees s.data.toList st' 124 = true
    · have hlt := Fm.sees_lt hsee
      rw [HZ.out] at hlt
      have hl2 : Hid (Fm.loop s.data.toList 3 124 sub j (Fm.join 3 a (sub (Fm.step st')).1) (sub (Fm.step st')).2 = R) := by
        have := hl.out
        rw [Fm.loop, if_pos hsee] at this
        exact this
      obtain ⟨k1, k2, k3⟩ : Fm.Ok s.data.toList (Fm.step st') (sub (Fm.step st')) := HO.out (Fm.step st') (by rw [HZ.out]; exact hlt)
      rw [HZ.out] at k2
      have e1 : (Fm.step st').1 = st'.1 + 1 := rfl
      rw [e1] at k1 k3
      have hfu2 : s.size - (Fm.step st').1 < f := by rw [e1]; omega
      have hat2 : (Fm.step st').1 ≤ s.size := by rw [e1]; omega
      clear hl e1
      go_wp2_with fail
      refine (take_yes g T s st' 124 _ _ hR' (by omega) hst2 rfl hsee).mono ?_
      rintro e w2 ⟨rfl, hR2, hO2⟩
      clear hsee hR'
      generalize Fm.step st' = st2 at *
      go_wp2_with fail
      refine (HS.out g st2 _ hR2 hat2 hfu2).mono ?_
      rintro e w3 ⟨v3, rfl, ho3, hR3, hO3⟩
      generalize sub st2 = r3 at *
      go_wp2_with fail
      refine (join_c 3 _ _ a r3.1 _ ((hown.only hO2 hne).only hO3 hne).nodes ho3.nodes (by omega)).mono ?_
      rintro e w4 ⟨v4, rfl, ho4, hg4⟩
      go_wp2_with fail
      go_roundg j
      case measure => omega
      case rel => exact ⟨_, r3.2, ho4.base (by have := hO'.size; have := hO2.size; have := hO3.size; omega), hR3.grew hg4, ((hO'.trans hO2).trans hO3).grew hg4, hl2, by omega, by omega, by omega, by simp only [Fm.join, List.length_cons, List.length_append]; omega⟩
    · have hsee' : Fm.sees s.data.toList st' 124 = false := by simpa using hsee
      have hl2 : Hid (R = (a, st')) := by
        have := hl.out
        rw [Fm.loop, if_neg hsee] at this
        exact this.symm
      clear hsee hl
      go_wp2_with fail
      refine (take_no g T s st' 124 _ _ hR' (by omega) hst2 rfl hsee').mono ?_
      rintro e w2 ⟨rfl, hR2, hO2⟩
      go_wp2_with fail
      go_ret
      rw [hl2.out]
      exact ⟨_, rfl, hown.only hO2 hne, hR2, hO'.trans hO2⟩

theorem imply_c (T : TypeId) (hT : 59 ≠ T) (s : ByteArray) (f m : Nat) (sub : Fm.St → Fm.Res) (hs : s.size ≤ 1048576) (hok : ∀ st : Fm.St, st.1 ≤ s.data.toList.length → Fm.Ok s.data.toList st (sub st))
    (hsub : Sub 169 T s f (Fm.orF s.data.toList m sub)) : ∀ (i : Nat) (g : Nat) (st : Fm.St) (w : World), Rdr w g T s st → st.1 ≤ s.size → s.size - st.1 < i → s.size - st.1 < f →
      Calls Tryz.prog 143 #[.pointer (some ⟨g, 0, none⟩)] w (Reads w g T s (Fm.impF s.data.toList m sub i st)) := by
  intro i
  induction i with
  | zero => intro g st w _ _ h; omega
  | succ i ih =>
    intro g st w hR hat hi hfu
    have HS := Lib.hid hsub
    have HI := Lib.hid ih
    clear hsub ih
    have hsz := size_toList s
    have h0 : Fm.Ok s.data.toList st (Fm.orF s.data.toList m sub st) := Fm.orF_ok hok st (by rw [hsz]; exact hat)
    have hy := @Fm.impF_yes s.data.toList m i sub st
    have hn := @Fm.impF_no s.data.toList m i sub st
    have hk := fun st h => Fm.impF_ok (m := m) hok i st h
    have HK := Lib.hid hk
    have HZ := Lib.hid hsz
    clear hsz hok hk
    have HC := fun g h1 => HS.out g st w h1 hat hfu
    have HD := Lib.hid HC
    clear HC HS
    generalize Fm.orF s.data.toList m sub st = r1 at *
    obtain ⟨k1, k2, k3⟩ := h0
    rw [HZ.out] at k2
    by_cases hsee : Fm.sees s.data.toList r1.2 62 = true
    · have hlt := Fm.sees_lt hsee
      rw [HZ.out] at hlt
      have e1 : (Fm.step r1.2).1 = r1.2.1 + 1 := rfl
      obtain ⟨q1, q2, q3⟩ := HK.out (Fm.step r1.2) (by rw [HZ.out, e1]; exact hlt)
      rw [HZ.out] at q2
      rw [e1] at q1 q3
      have hq := HI.out g (Fm.step r1.2)
      rw [e1] at hq
      have HQ := Lib.hid hq
      rw [hy hsee]
      clear hy hn HI hq HK e1
      go_enter Tryz.func143, Tryz.ntmps143
      go_wp2_with fail
      refine (HD.out g hR).mono ?_
      rintro e w1 ⟨v1, rfl, ho1, hR1, hO1⟩
      have hne := own_rdr_ne ho1 hR1 hT
      go_wp2_with fail
      refine (take_yes g T s r1.2 62 _ _ hR1 (by omega) (by omega) rfl hsee).mono ?_
      rintro e w2 ⟨rfl, hR2, hO2⟩
      go_wp2_with fail
      refine (HQ.out _ hR2 (by omega) (by omega) (by omega)).mono ?_
      rintro e w3 ⟨v3, rfl, ho3, hR3, hO3⟩
      generalize Fm.impF s.data.toList m sub i (Fm.step r1.2) = r3 at *
      go_wp2_with fail
      refine (join_c 4 _ _ r1.1 r3.1 _ ((ho1.only hO2 hne).only hO3 hne).nodes ho3.nodes (by omega)).mono ?_
      rintro e w4 ⟨v4, rfl, ho4, hg4⟩
      go_wp2_with fail
      go_ret
      exact ⟨_, rfl, ho4.base (by have := hO1.size; have := hO2.size; have := hO3.size; omega), hR3.grew hg4, ((hO1.trans hO2).trans hO3).grew hg4⟩
    · have hsee' : Fm.sees s.data.toList r1.2 62 = false := by simpa using hsee
      rw [hn hsee']
      clear hy hn HI HK hsee
      go_enter Tryz.func143, Tryz.ntmps143
      go_wp2_with fail
      refine (HD.out g hR).mono ?_
      rintro e w1 ⟨v1, rfl, ho1, hR1, hO1⟩
      have hne := own_rdr_ne ho1 hR1 hT
      go_wp2_with fail
      refine (take_no g T s r1.2 62 _ _ hR1 (by omega) (by omega) rfl hsee').mono ?_
      rintro e w2 ⟨rfl, hR2, hO2⟩
      go_wp2_with fail
      go_ret
      exact ⟨_, rfl, ho1.only hO2 hne, hR2, hO1.trans hO2⟩

end Go.Proofs.YtpfncncohnhanaaGreatDoor

/- The program's reader: the two lowest levels. -/
namespace Go.Proofs.YtpfncncohnhanaaGreatDoor
open Go.RowKit
open Fm (Nd)

/-- The range over the letters, at a block of the call's own. -/
def letters : ByteArray := ⟨#[112, 113, 114, 115, 116, 117]⟩
theorem only_iterAt {g k : Nat} {a b : World} (h : Only g a b) (hk : a.heap.size ≤ k) (s : ByteArray) (p : Nat) : Only g a (b.iterAt k s p) :=
  ⟨h.os, h.tape, h.output, by rw [Lib.iterAt_size]; exact h.size, fun i hi hne => (Lib.iterAt_other b k i s p (by omega)).trans (World.grownBy.block h i hi hne)⟩
theorem Rdr.iterAt {w : World} {g T k : Nat} {s : ByteArray} {st : Fm.St} (h : Rdr w g T s st) (hk : g ≠ k) (x : ByteArray) (p : Nat) : Rdr (w.iterAt k x p) g T s st := (Lib.iterAt_other w k g x p hk).trans h

theorem next_letter {P : Program} (w : World) (k i : Nat) (ty : TypeId) (hk : w.heap[k]? = some (.stringIter letters i)) (hi : i < 6) :
    (Instr.next (.pointer (some ⟨k, 0, none⟩)) true ty).run P w = .ok (.tuple #[.bool true, .int .i64 i, .int .i32 (112 + (i : Int))]) (w.iterAt k letters (i + 1)) := by
  have h6 : i = 0 ∨ i = 1 ∨ i = 2 ∨ i = 3 ∨ i = 4 ∨ i = 5 := by omega
  rcases h6 with rfl | rfl | rfl | rfl | rfl | rfl <;> exact Lib.run_next_ascii_at w k letters _ ty hk (by decide) (by decide)
theorem letter_byte {i : Nat} (hi : i < 6) : 112 + (i : Int) = ((UInt8.ofNat (112 + i)).toNat : Int) := by
  rw [UInt8.toNat_ofNat']; omega

theorem atom_c (T : TypeId) (hT : 59 ≠ T) (s : ByteArray) (f m : Nat) (hs : s.size ≤ 1048576)
    (himp : Sub 143 T s f (Fm.impF s.data.toList m (Fm.preF s.data.toList m f) m)) (g : Nat) (st : Fm.St) (w : World) (hR : Rdr w g T s st) (hat : st.1 ≤ s.size) (hfu : s.size - st.1 < f + 1)
    (h126 : Fm.sees s.data.toList st 126 = false) (h91 : Fm.sees s.data.toList st 91 = false) (h60 : Fm.sees s.data.toList st 60 = false) :
    Calls Tryz.prog 227 #[.pointer (some ⟨g, 0, none⟩)] w (Reads w g T s (Fm.preF s.data.toList m (f + 1) st)) := by
  have HI := Lib.hid himp
  have HZ := Lib.hid (size_toList s)
  clear himp
  by_cases h70 : Fm.sees s.data.toList st 70 = true
  · rw [Fm.preF_fls h70]
    go_enter Tryz.func227, Tryz.ntmps227
    go_wp2_with fail
    refine (take_yes g T s st 70 _ _ hR (by omega) hat rfl h70).mono ?_
    rintro e w1 ⟨rfl, hR1, hO1⟩
    go_wp2_with fail
    refine (falsum_c _).mono ?_
    rintro e w2 ⟨v2, rfl, ho2, hg2⟩
    go_wp2_with fail
    go_ret
    exact ⟨_, rfl, ho2.base hO1.size, hR1.grew hg2, hO1.grew hg2⟩
  have h70' : Fm.sees s.data.toList st 70 = false := by simpa using h70
  by_cases h84 : Fm.sees s.data.toList st 84 = true
  · rw [Fm.preF_tru h84]
    clear h70
    go_enter Tryz.func227, Tryz.ntmps227
    go_wp2_with fail
    refine (take_no g T s st 70 _ _ hR (by omega) hat rfl h70').mono ?_
    rintro e w1 ⟨rfl, hR1, hO1⟩
    go_wp2_with fail
    refine (take_yes g T s st 84 _ _ hR1 (by omega) hat rfl h84).mono ?_
    rintro e w2 ⟨rfl, hR2, hO2⟩
    go_wp2_with fail
    refine (truth_c _).mono ?_
    rintro e w3 ⟨v3, rfl, ho3, hg3⟩
    go_wp2_with fail
    go_ret
    exact ⟨_, rfl, ho3.base (Nat.le_trans hO1.size hO2.size), hR2.grew hg3, (hO1.trans hO2).grew hg3⟩
  have h84' : Fm.sees s.data.toList st 84 = false := by simpa using h84
  clear h70 h84
  by_cases h40 : Fm.sees s.data.toList st 40 = true
  · rw [Fm.preF_par h40]
    have hlt := Fm.sees_lt h40
    rw [HZ.out] at hlt
    have hk : Fm.Ok s.data.toList (Fm.step st) (Fm.impF s.data.toList m (Fm.preF s.data.toList m f) m (Fm.step st)) := Fm.impF_ok (fun st h => Fm.preF_ok f st h) m (Fm.step st) (by rw [HZ.out]; exact hlt)
    have e1 : (Fm.step st).1 = st.1 + 1 := rfl
    obtain ⟨k1, k2, k3⟩ := hk
    rw [HZ.out] at k2
    rw [e1] at k1 k3
    have hq := HI.out g (Fm.step st)
    rw [e1] at hq
    have HQ := Lib.hid hq
    clear hq e1 HI
    generalize Fm.impF s.data.toList m (Fm.preF s.data.toList m f) m (Fm.step st) = r at *
    go_enter Tryz.func227, Tryz.ntmps227
    go_wp2_with fail
    refine (take_no g T s st 70 _ _ hR (by omega) hat rfl h70').mono ?_
    rintro e w1 ⟨rfl, hR1, hO1⟩
    go_wp2_with fail
    refine (take_no g T s st 84 _ _ hR1 (by omega) hat rfl h84').mono ?_
    rintro e w2 ⟨rfl, hR2, hO2⟩
    go_wp2_with fail
    refine (take_yes g T s st 40 _ _ hR2 (by omega) hat rfl h40).mono ?_
    rintro e w3 ⟨rfl, hR3, hO3⟩
    go_wp2_with fail
    refine (HQ.out _ hR3 (by omega) (by omega)).mono ?_
    rintro e w4 ⟨v4, rfl, ho4, hR4, hO4⟩
    have hne := own_rdr_ne ho4 hR4 hT
    go_wp2_with fail
    refine (need_c g T s r.2 41 _ _ hR4 (by omega) (by omega) rfl).mono ?_
    rintro e w5 ⟨rfl, hR5, hO5⟩
    go_wp2_with fail
    go_ret
    exact ⟨_, rfl, (ho4.only hO5 hne).base (by have := hO1.size; have := hO2.size; have := hO3.size; omega), hR5, (((hO1.trans hO2).trans hO3).trans hO4).trans hO5⟩
  have h40' : Fm.sees s.data.toList st 40 = false := by simpa using h40
  clear h40 HI
  cases hl : Fm.letter s.data.toList st with
  | some v =>
    rw [Fm.preF_var hl]
    have hv := (Fm.letter_some hl).1
    have hvs := (Fm.letter_some hl).2
    have hno := fun i hi hne => @Fm.letter_ne s.data.toList st v i hl hi hne
    have HN := Lib.hid hno
    clear hno hl
    go_enter Tryz.func227, Tryz.ntmps227
    go_wp2_with fail
    refine (take_no g T s st 70 _ _ hR (by omega) hat rfl h70').mono ?_
    rintro e w1 ⟨rfl, hR1, hO1⟩
    go_wp2_with fail
    refine (take_no g T s st 84 _ _ hR1 (by omega) hat rfl h84').mono ?_
    rintro e w2 ⟨rfl, hR2, hO2⟩
    go_wp2_with fail
    refine (take_no g T s st 40 _ _ hR2 (by omega) hat rfl h40').mono ?_
    rintro e w3 ⟨rfl, hR3, hO3⟩
    go_wp2_with fail
    have hit := World.iter_heap w3 letters 0
    have hR4 : Rdr (w3.iter letters 0) g T s st := hR3.grew ((Grew.refl w3).alloc _)
    have hO4 : Only g w (w3.iter letters 0) := ((hO1.trans hO2).trans hO3).alloc _
    have hgk : g ≠ w3.heap.size := by have := hR3.lt; omega
    have hk : w.heap.size ≤ w3.heap.size := ((hO1.trans hO2).trans hO3).size
    have HW := Lib.hid hit
    clear hit hR3 hO3 hR2 hO2 hR1 hO1
    go_loopg [4, 5] 6 (fun n _ _ wr => ∃ i : Nat, n = 6 - i ∧ i ≤ v ∧ Rdr wr g T s st ∧ Only g w wr ∧ Hid (wr.heap[w3.heap.size]? = some (.stringIter letters i)))
    case atStart => exact ⟨0, rfl, Nat.zero_le _, hR4, hO4, HW.out⟩
    case round =>
      obtain ⟨i, rfl, hiv, hRr, hOr, HX⟩ := hrel
      have hnx := fun ty => next_letter (P := Tryz.prog) wr w3.heap.size i ty HX.out (by omega)
      have HY : Hid ((wr.iterAt w3.heap.size letters (i + 1)).heap[w3.heap.size]? = some (.stringIter letters (i + 1))) := Lib.hid (Lib.iterAt_heap wr w3.heap.size letters i (i + 1) HX.out)
      have hR5 := hRr.iterAt hgk letters (i + 1)
      have hO5 := only_iterAt hOr hk letters (i + 1)
      by_cases hiv2 : i = v
      · subst hiv2
        go_wp2_with fail
        refine (take_yes g T s st _ _ _ hR5 (by omega) hat (letter_byte (by omega)) hvs).mono ?_
        rintro e w4 ⟨rfl, hR6, hO6⟩
        go_wp2_with fail
        refine (variable_c _ _).mono ?_
        rintro e w5 ⟨v5, rfl, ho5, hg5⟩
        go_wp2_with fail
        go_ret
        exact ⟨_, rfl, ho5.base (hO5.trans hO6).size, hR6.grew hg5, (hO5.trans hO6).grew hg5⟩
      · have hs0 := HN.out i (by omega) hiv2
        go_wp2_with fail
        refine (take_no g T s st _ _ _ hR5 (by omega) hat (letter_byte (by omega)) hs0).mono ?_
        rintro e w4 ⟨rfl, hR6, hO6⟩
        have HV : Hid (w4.heap[w3.heap.size]? = some (.stringIter letters (i + 1))) := Lib.hid ((hO6.block (blk_lt HY.out) (Ne.symm hgk)).trans HY.out)
        go_wp2_with fail
        go_roundg (6 - (i + 1))
        case measure => omega
        case rel => exact ⟨i + 1, rfl, by omega, hR6, hO5.trans hO6, HV⟩
  | none =>
    rw [Fm.preF_bad h126 h91 h60 h70' h84' h40' hl]
    have hno := fun i hi => @Fm.letter_none s.data.toList st hl i hi
    have HN := Lib.hid hno
    clear hno hl
    go_enter Tryz.func227, Tryz.ntmps227
    go_wp2_with fail
    refine (take_no g T s st 70 _ _ hR (by omega) hat rfl h70').mono ?_
    rintro e w1 ⟨rfl, hR1, hO1⟩
    go_wp2_with fail
    refine (take_no g T s st 84 _ _ hR1 (by omega) hat rfl h84').mono ?_
    rintro e w2 ⟨rfl, hR2, hO2⟩
    go_wp2_with fail
    refine (take_no g T s st 40 _ _ hR2 (by omega) hat rfl h40').mono ?_
    rintro e w3 ⟨rfl, hR3, hO3⟩
    go_wp2_with fail
    have hit := World.iter_heap w3 letters 0
    have hR4 : Rdr (w3.iter letters 0) g T s st := hR3.grew ((Grew.refl w3).alloc _)
    have hO4 : Only g w (w3.iter letters 0) := ((hO1.trans hO2).trans hO3).alloc _
    have hgk : g ≠ w3.heap.size := by have := hR3.lt; omega
    have hk : w.heap.size ≤ w3.heap.size := ((hO1.trans hO2).trans hO3).size
    have HW := Lib.hid hit
    clear hit hR3 hO3 hR2 hO2 hR1 hO1
    go_loopg [4, 5] 7 (fun n _ _ wr => ∃ i : Nat, n = 7 - i ∧ i ≤ 6 ∧ Rdr wr g T s st ∧ Only g w wr ∧ Hid (wr.heap[w3.heap.size]? = some (.stringIter letters i)))
    case atStart => exact ⟨0, rfl, Nat.zero_le _, hR4, hO4, HW.out⟩
    case round =>
      obtain ⟨i, rfl, hiv, hRr, hOr, HX⟩ := hrel
      by_cases hi6 : i < 6
      · have hnx := fun ty => next_letter (P := Tryz.prog) wr w3.heap.size i ty HX.out hi6
        have HY : Hid ((wr.iterAt w3.heap.size letters (i + 1)).heap[w3.heap.size]? = some (.stringIter letters (i + 1))) := Lib.hid (Lib.iterAt_heap wr w3.heap.size letters i (i + 1) HX.out)
        have hR5 := hRr.iterAt hgk letters (i + 1)
        have hO5 := only_iterAt hOr hk letters (i + 1)
        have hs0 := HN.out i hi6
        go_wp2_with fail
        refine (take_no g T s st _ _ _ hR5 (by omega) hat (letter_byte hi6) hs0).mono ?_
        rintro e w4 ⟨rfl, hR6, hO6⟩
        have HV : Hid (w4.heap[w3.heap.size]? = some (.stringIter letters (i + 1))) := Lib.hid ((hO6.block (blk_lt HY.out) (Ne.symm hgk)).trans HY.out)
        go_wp2_with fail
        go_roundg (7 - (i + 1))
        case measure => omega
        case rel => exact ⟨i + 1, rfl, by omega, hR6, hO5.trans hO6, HV⟩
      · have hi66 : i = 6 := by omega
        subst hi66
        have hnx := fun ty => Lib.run_next_end_at (P := Tryz.prog) wr w3.heap.size letters 6 ty HX.out (by decide)
        have c2 := hRr.bad
        have hf := hRr.free 2
        go_wp2_with fail
        refine (falsum_c _).mono ?_
        rintro e w5 ⟨v5, rfl, ho5, hg5⟩
        go_wp2_with fail
        go_ret
        exact ⟨_, rfl, ho5.base (hOr.setCell _).size, hRr.spoil.grew hg5, (hOr.setCell _).grew hg5⟩

theorem prefix_sub (T : TypeId) (hT : 59 ≠ T) (s : ByteArray) (m : Nat) (hs : s.size ≤ 1048576) (hm : s.size < m) : ∀ f, f ≤ m → Sub 212 T s f (Fm.preF s.data.toList m f) := by
  intro f
  induction f with
  | zero => intro _ g st w _ _ h; omega
  | succ f ih =>
    intro hfm g st w hR hat hfu
    have hp := ih (by omega)
    have hok : ∀ st : Fm.St, st.1 ≤ s.data.toList.length → Fm.Ok s.data.toList st (Fm.preF s.data.toList m f st) := fun st h => Fm.preF_ok f st h
    have hand := and_c T hT s f m _ hs hm hok hp
    have hor := or_c T hT s f m _ hs hm (fun st h => Fm.andF_ok (m := m) hok st h) hand
    have himp := imply_c T hT s f m _ hs hok hor m
    have HA := Lib.hid (fun g st w h1 h2 h3 => atom_c T hT s f m hs (fun g st w h1 h2 h3 => himp g st w h1 h2 (by omega) h3) g st w h1 h2 h3)
    have HP := Lib.hid hp
    have HZ := Lib.hid (size_toList s)
    have HK := Lib.hid hok
    clear ih hp hand hor himp hok
    by_cases h126 : Fm.sees s.data.toList st 126 = true
    · rw [Fm.preF_not h126]
      have hlt := Fm.sees_lt h126
      rw [HZ.out] at hlt
      have e1 : (Fm.step st).1 = st.1 + 1 := rfl
      obtain ⟨k1, k2, k3⟩ := HK.out (Fm.step st) (by rw [HZ.out]; exact hlt)
      rw [HZ.out] at k2
      rw [e1] at k1 k3
      have hq := HP.out g (Fm.step st)
      rw [e1] at hq
      have HQ := Lib.hid hq
      clear hq e1 HA HK HP
      generalize Fm.preF s.data.toList m f (Fm.step st) = r at *
      go_enter Tryz.func212, Tryz.ntmps212
      go_wp2_with fail
      refine (take_yes g T s st 126 _ _ hR (by omega) hat rfl h126).mono ?_
      rintro e w1 ⟨rfl, hR1, hO1⟩
      go_wp2_with fail
      refine (HQ.out _ hR1 (by omega) (by omega)).mono ?_
      rintro e w2 ⟨v2, rfl, ho2, hR2, hO2⟩
      go_wp2_with fail
      refine (negation_c _ r.1 _ ho2.nodes (by omega)).mono ?_
      rintro e w3 ⟨v3, rfl, ho3, hg3⟩
      go_wp2_with fail
      go_ret
      exact ⟨_, rfl, ho3.base (hO1.trans hO2).size, hR2.grew hg3, (hO1.trans hO2).grew hg3⟩
    have h126' : Fm.sees s.data.toList st 126 = false := by simpa using h126
    clear h126
    by_cases h91 : Fm.sees s.data.toList st 91 = true
    · rw [Fm.preF_box h91]
      have hlt := Fm.sees_lt h91
      rw [HZ.out] at hlt
      have e1 : (Fm.step st).1 = st.1 + 1 := rfl
      have hn := Fm.need_pos (s := s.data.toList) (st := Fm.step st) (c := 93) (by rw [HZ.out, e1]; exact hlt)
      rw [HZ.out, e1] at hn
      obtain ⟨n1, n2⟩ := hn
      obtain ⟨k1, k2, k3⟩ := HK.out (Fm.need s.data.toList (Fm.step st) 93) (by rw [HZ.out]; exact n2)
      rw [HZ.out] at k2
      have HQ := Lib.hid (HP.out g (Fm.need s.data.toList (Fm.step st) 93))
      have hat1 : (Fm.step st).1 ≤ s.size := by rw [e1]; omega
      clear e1 HA HK HP
      go_enter Tryz.func212, Tryz.ntmps212
      go_wp2_with fail
      refine (take_no g T s st 126 _ _ hR (by omega) hat rfl h126').mono ?_
      rintro e w1 ⟨rfl, hR1, hO1⟩
      go_wp2_with fail
      refine (take_yes g T s st 91 _ _ hR1 (by omega) hat rfl h91).mono ?_
      rintro e w2 ⟨rfl, hR2, hO2⟩
      go_wp2_with fail
      refine (need_c g T s (Fm.step st) 93 _ _ hR2 (by omega) hat1 rfl).mono ?_
      rintro e w3 ⟨rfl, hR3, hO3⟩
      generalize Fm.need s.data.toList (Fm.step st) 93 = st2 at *
      generalize Fm.preF s.data.toList m f st2 = r at *
      go_wp2_with fail
      refine (HQ.out _ hR3 (by omega) (by omega)).mono ?_
      rintro e w4 ⟨v4, rfl, ho4, hR4, hO4⟩
      go_wp2_with fail
      refine (prefix_c 5 _ r.1 _ ho4.nodes (by omega)).mono ?_
      rintro e w5 ⟨v5, rfl, ho5, hg5⟩
      go_wp2_with fail
      go_ret
      exact ⟨_, rfl, ho5.base (((hO1.trans hO2).trans hO3).trans hO4).size, hR4.grew hg5, (((hO1.trans hO2).trans hO3).trans hO4).grew hg5⟩
    have h91' : Fm.sees s.data.toList st 91 = false := by simpa using h91
    clear h91
    by_cases h60 : Fm.sees s.data.toList st 60 = true
    · rw [Fm.preF_dia h60]
      have hlt := Fm.sees_lt h60
      rw [HZ.out] at hlt
      have e1 : (Fm.step st).1 = st.1 + 1 := rfl
      have hn := Fm.need_pos (s := s.data.toList) (st := Fm.step st) (c := 62) (by rw [HZ.out, e1]; exact hlt)
      rw [HZ.out, e1] at hn
      obtain ⟨n1, n2⟩ := hn
      obtain ⟨k1, k2, k3⟩ := HK.out (Fm.need s.data.toList (Fm.step st) 62) (by rw [HZ.out]; exact n2)
      rw [HZ.out] at k2
      have HQ := Lib.hid (HP.out g (Fm.need s.data.toList (Fm.step st) 62))
      have hat1 : (Fm.step st).1 ≤ s.size := by rw [e1]; omega
      clear e1 HA HK HP
      go_enter Tryz.func212, Tryz.ntmps212
      go_wp2_with fail
      refine (take_no g T s st 126 _ _ hR (by omega) hat rfl h126').mono ?_
      rintro e w1 ⟨rfl, hR1, hO1⟩
      go_wp2_with fail
      refine (take_no g T s st 91 _ _ hR1 (by omega) hat rfl h91').mono ?_
      rintro e w11 ⟨rfl, hR11, hO11⟩
      go_wp2_with fail
      refine (take_yes g T s st 60 _ _ hR11 (by omega) hat rfl h60).mono ?_
      rintro e w2 ⟨rfl, hR2, hO2⟩
      go_wp2_with fail
      refine (need_c g T s (Fm.step st) 62 _ _ hR2 (by omega) hat1 rfl).mono ?_
      rintro e w3 ⟨rfl, hR3, hO3⟩
      generalize Fm.need s.data.toList (Fm.step st) 62 = st2 at *
      generalize Fm.preF s.data.toList m f st2 = r at *
      go_wp2_with fail
      refine (HQ.out _ hR3 (by omega) (by omega)).mono ?_
      rintro e w4 ⟨v4, rfl, ho4, hR4, hO4⟩
      go_wp2_with fail
      refine (prefix_c 6 _ r.1 _ ho4.nodes (by omega)).mono ?_
      rintro e w5 ⟨v5, rfl, ho5, hg5⟩
      go_wp2_with fail
      go_ret
      exact ⟨_, rfl, ho5.base ((((hO1.trans hO11).trans hO2).trans hO3).trans hO4).size, hR4.grew hg5, ((((hO1.trans hO11).trans hO2).trans hO3).trans hO4).grew hg5⟩
    have h60' : Fm.sees s.data.toList st 60 = false := by simpa using h60
    clear h60 HK HP
    have HQ := Lib.hid (fun w hR => HA.out g st w hR hat hfu h126' h91' h60')
    clear HA
    generalize Fm.preF s.data.toList m (f + 1) st = r at *
    go_enter Tryz.func212, Tryz.ntmps212
    go_wp2_with fail
    refine (take_no g T s st 126 _ _ hR (by omega) hat rfl h126').mono ?_
    rintro e w1 ⟨rfl, hR1, hO1⟩
    go_wp2_with fail
    refine (take_no g T s st 91 _ _ hR1 (by omega) hat rfl h91').mono ?_
    rintro e w2 ⟨rfl, hR2, hO2⟩
    go_wp2_with fail
    refine (take_no g T s st 60 _ _ hR2 (by omega) hat rfl h60').mono ?_
    rintro e w3 ⟨rfl, hR3, hO3⟩
    go_wp2_with fail
    refine (HQ.out _ hR3).mono ?_
    rintro e w4 ⟨v4, rfl, ho4, hR4, hO4⟩
    go_wp2_with fail
    go_ret
    exact ⟨_, rfl, ho4.base ((hO1.trans hO2).trans hO3).size, hR4, ((hO1.trans hO2).trans hO3).trans hO4⟩

/-- The program's reader at a text's beginning. -/
theorem imply_top (T : TypeId) (hT : 59 ≠ T) (s : ByteArray) (m : Nat) (hs : s.size ≤ 1048576) (hm : s.size < m) (g : Nat) (w : World) (hR : Rdr w g T s (0, false)) :
    Calls Tryz.prog 143 #[.pointer (some ⟨g, 0, none⟩)] w (Reads w g T s (Fm.parse s.data.toList m)) := by
  have hok : ∀ st : Fm.St, st.1 ≤ s.data.toList.length → Fm.Ok s.data.toList st (Fm.preF s.data.toList m m st) := fun st h => Fm.preF_ok m st h
  have hand := and_c T hT s m m _ hs hm hok (prefix_sub T hT s m hs hm m (Nat.le_refl _))
  have hor := or_c T hT s m m _ hs hm (fun st h => Fm.andF_ok (m := m) hok st h) hand
  exact imply_c T hT s m m _ hs hok hor m g (0, false) w hR (by simp) (by simpa using hm) (by simpa using hm)
end Go.Proofs.YtpfncncohnhanaaGreatDoor

/- The text of a formula is parsed to the formula. No program is in sight. -/
namespace Go.Proofs.YtpfncncohnhanaaGreatDoor
namespace Fm

theorem sees_drop {s : List UInt8} {i : Nat} {c : UInt8} {r : List UInt8} (h : s.drop i = c :: r) (d : UInt8) : sees s (i, false) d = (c == d) := by
  have h1 : s[i]? = some c := by
    have := congrArg List.head? h
    simpa using this
  unfold sees
  rw [h1]
  rw [Bool.eq_iff_iff]
  simp
theorem sees_none {s : List UInt8} {i : Nat} {r : List UInt8} {d : UInt8} (h : s.drop i = r) (hd : r.head? ≠ some d) : sees s (i, false) d = false := by
  have h1 : s[i]? = r.head? := by rw [← h]; simp
  unfold sees
  rw [h1]
  cases hr : r.head? with
  | none => rfl
  | some c =>
    rw [hr] at hd
    have : c ≠ d := fun e => hd (by rw [e])
    simp [this]
theorem drop_tail {s : List UInt8} {i : Nat} {x r : List UInt8} (h : s.drop i = x ++ r) : s.drop (i + x.length) = r := by
  rw [← List.drop_drop, h, List.drop_left]
theorem drop_len {s : List UInt8} {i : Nat} {x r : List UInt8} (h : s.drop i = x ++ r) (hx : 1 ≤ x.length) : i + x.length ≤ s.length := by
  have := congrArg List.length h
  simp only [List.length_drop, List.length_append] at this
  omega
theorem txt_pos (t : Tree) (l : Nat) : 1 ≤ (txt t l).length := by
  cases t with
  | var v => simp [txt]
  | fls => simp [txt]
  | and a b => simp only [txt, wrap]; split <;> simp <;> omega
  | or a b => simp only [txt, wrap]; split <;> simp <;> omega
  | imp a b => simp only [txt, wrap]; split <;> split <;> simp <;> omega
  | box a => simp only [txt, List.length_append, List.length_cons]; omega
  | dia a => simp only [txt, List.length_append, List.length_cons]; omega

section
variable (s : List UInt8) (m : Nat)
/-- The text at level 3 is read by the lowest level of the parser. -/
def P3 (t : Tree) : Prop := ∀ (f i : Nat) (r : List UInt8), s.drop i = txt t 3 ++ r → s.length - i < f → preF s m f (i, false) = (enc t, (i + (txt t 3).length, false))
def P2 (t : Tree) : Prop := ∀ (f i : Nat) (r : List UInt8), s.drop i = txt t 2 ++ r → s.length - i < f →
  ∃ k, s.length - (i + (txt t 2).length) < k ∧ andF s m (preF s m f) (i, false) = loop s 2 38 (preF s m f) k (enc t) (i + (txt t 2).length, false)
def P1 (t : Tree) : Prop := ∀ (f i : Nat) (r : List UInt8), s.drop i = txt t 1 ++ r → s.length - i < f → r.head? ≠ some 38 →
  ∃ k, s.length - (i + (txt t 1).length) < k ∧ orF s m (preF s m f) (i, false) = loop s 3 124 (andF s m (preF s m f)) k (enc t) (i + (txt t 1).length, false)
def P0 (t : Tree) : Prop := ∀ (f n i : Nat) (r : List UInt8), s.drop i = txt t 0 ++ r → s.length - i < f → s.length - i < n → r.head? ≠ some 38 → r.head? ≠ some 124 → r.head? ≠ some 62 →
  impF s m (preF s m f) n (i, false) = (enc t, (i + (txt t 0).length, false))
end

section
variable {s : List UInt8} {m : Nat}

theorem loop_stop {k : Int} {c : UInt8} {sub : St → Res} {n : Nat} {a : List Nd} {st : St} (h : sees s st c = false) : loop s k c sub n a st = (a, st) := by
  cases n with
  | zero => rfl
  | succ n => rw [loop, if_neg (by rw [h]; decide)]

/-- From the lowest level to the next one, where the text is the same. -/
theorem up2 (hm : s.length < m) {t : Tree} (ht : txt t 2 = txt t 3) (h : P3 s m t) : P2 s m t := by
  intro f i r hd hf
  rw [ht] at hd ⊢
  refine ⟨m, by omega, ?_⟩
  have := h f i r hd hf
  rw [andF, this]
theorem up1 (hm : s.length < m) {t : Tree} (ht : txt t 1 = txt t 2) (h : P2 s m t) : P1 s m t := by
  intro f i r hd hf hr
  rw [ht] at hd ⊢
  obtain ⟨k, hk, he⟩ := h f i r hd hf
  have hs := sees_none (drop_tail hd) hr
  rw [loop_stop hs] at he
  refine ⟨m, by omega, ?_⟩
  rw [orF, he]
theorem up0 {t : Tree} (ht : txt t 0 = txt t 1) (h : P1 s m t) : P0 s m t := by
  intro f n i r hd hf hn h1 h2 h3
  rw [ht] at hd ⊢
  obtain ⟨k, hk, he⟩ := h f i r hd hf h1
  rw [loop_stop (sees_none (drop_tail hd) h2)] at he
  cases n with
  | zero => omega
  | succ n =>
    rw [impF_no (by rw [he]; exact sees_none (drop_tail hd) h3), he]
/-- Brackets. -/
theorem down3 (hm : s.length < m) {t : Tree} (ht : txt t 3 = [40] ++ txt t 0 ++ [41]) (h : P0 s m t) : P3 s m t := by
  intro f i r hd hf
  have hp := txt_pos t 0
  rw [ht] at hd ⊢
  have hlen := drop_len hd (by simp)
  simp only [List.length_append, List.length_cons, List.length_nil] at hlen
  simp only [List.append_assoc, List.cons_append, List.nil_append] at hd
  have h1 : s.drop (i + 1) = txt t 0 ++ (41 :: r) := drop_tail (x := [40]) (r := txt t 0 ++ (41 :: r)) hd
  have h2 : s.drop (i + 1 + (txt t 0).length) = 41 :: r := drop_tail h1
  cases f with
  | zero => omega
  | succ f =>
    have h40 : sees s (i, false) 40 = true := by rw [sees_drop hd]; rfl
    rw [preF_par h40, show step (i, false) = (i + 1, false) from rfl]
    rw [h f m (i + 1) (41 :: r) h1 (by omega) (by omega) (by simp) (by simp) (by simp)]
    have h41 : sees s (i + 1 + (txt t 0).length, false) 41 = true := by rw [sees_drop h2]; rfl
    simp only [need, h41, if_true, step, List.length_append, List.length_cons, List.length_nil]
    congr 2
    omega

theorem all_fls (hm : s.length < m) : P3 s m .fls ∧ P2 s m .fls ∧ P1 s m .fls ∧ P0 s m .fls := by
  have h3 : P3 s m .fls := by
    intro f i r hd hf
    have hd' : s.drop i = 70 :: r := hd
    have hlen := drop_len hd (by simp [txt])
    simp only [txt, List.length_cons, List.length_nil] at hlen
    cases f with
    | zero => omega
    | succ f => rw [preF_fls (by rw [sees_drop hd']; rfl)]; rfl
  have h2 := up2 hm rfl h3
  have h1 := up1 hm rfl h2
  exact ⟨h3, h2, h1, up0 rfl h1⟩
theorem all_tru (hm : s.length < m) : P3 s m (.imp .fls .fls) ∧ P2 s m (.imp .fls .fls) ∧ P1 s m (.imp .fls .fls) ∧ P0 s m (.imp .fls .fls) := by
  have h3 : P3 s m (.imp .fls .fls) := by
    intro f i r hd hf
    have hd' : s.drop i = 84 :: r := hd
    have hlen := drop_len hd (by simp [txt, isF])
    simp only [txt, isF, if_true, List.length_cons, List.length_nil] at hlen
    cases f with
    | zero => omega
    | succ f => rw [preF_tru (by rw [sees_drop hd']; rfl)]; rfl
  have h2 := up2 hm rfl h3
  have h1 := up1 hm rfl h2
  exact ⟨h3, h2, h1, up0 rfl h1⟩
theorem all_var (hm : s.length < m) (v : Fin 6) : P3 s m (.var v) ∧ P2 s m (.var v) ∧ P1 s m (.var v) ∧ P0 s m (.var v) := by
  have h3 : P3 s m (.var v) := by
    intro f i r hd hf
    have hd' : s.drop i = UInt8.ofNat (112 + v.val) :: r := hd
    have hlen := drop_len hd (by simp [txt])
    simp only [txt, List.length_cons, List.length_nil] at hlen
    cases f with
    | zero => omega
    | succ f =>
      have hl : letter s (i, false) = some v.val := letter_of_sees v.isLt (by rw [sees_drop hd']; simp)
      rw [preF_var hl]; rfl
  have h2 := up2 hm rfl h3
  have h1 := up1 hm rfl h2
  exact ⟨h3, h2, h1, up0 rfl h1⟩
theorem all_not (hm : s.length < m) {x : Tree} (hx : isF x = false) (h : P3 s m x) : P3 s m (.imp x .fls) ∧ P2 s m (.imp x .fls) ∧ P1 s m (.imp x .fls) ∧ P0 s m (.imp x .fls) := by
  have ht : ∀ l, txt (.imp x .fls) l = [126] ++ txt x 3 := by intro l; rw [txt, if_pos (show isF .fls = true from rfl), if_neg (by rw [hx]; decide)]
  have h3 : P3 s m (.imp x .fls) := by
    intro f i r hd hf
    rw [ht] at hd ⊢
    have hlen := drop_len hd (by simp)
    simp only [List.length_append, List.length_cons, List.length_nil] at hlen
    have hd' : s.drop i = 126 :: (txt x 3 ++ r) := by simpa using hd
    have h1 : s.drop (i + 1) = txt x 3 ++ r := drop_tail (x := [126]) (r := txt x 3 ++ r) hd'
    cases f with
    | zero => omega
    | succ f =>
      rw [preF_not (by rw [sees_drop hd']; rfl), show step (i, false) = (i + 1, false) from rfl, h f (i + 1) r h1 (by omega)]
      simp only [List.length_append, List.length_cons, List.length_nil]
      refine Prod.ext rfl (Prod.ext (by simp only; omega) rfl)
  have h2 := up2 hm (by rw [ht, ht]) h3
  have h1 := up1 hm (by rw [ht, ht]) h2
  exact ⟨h3, h2, h1, up0 (by rw [ht, ht]) h1⟩
theorem all_box (hm : s.length < m) {x : Tree} (h : P3 s m x) : P3 s m (.box x) ∧ P2 s m (.box x) ∧ P1 s m (.box x) ∧ P0 s m (.box x) := by
  have h3 : P3 s m (.box x) := by
    intro f i r hd hf
    have hd' : s.drop i = 91 :: (93 :: (txt x 3 ++ r)) := by simpa [txt] using hd
    have hlen := drop_len hd (by simp [txt])
    simp only [txt, List.length_append, List.length_cons, List.length_nil] at hlen
    have h1 : s.drop (i + 1) = 93 :: (txt x 3 ++ r) := drop_tail (x := [91]) (r := 93 :: (txt x 3 ++ r)) hd'
    have h2 : s.drop (i + 2) = txt x 3 ++ r := drop_tail (x := [91, 93]) (r := txt x 3 ++ r) hd'
    cases f with
    | zero => omega
    | succ f =>
      have h93 : sees s (i + 1, false) 93 = true := by rw [sees_drop h1]; rfl
      rw [preF_box (by rw [sees_drop hd']; rfl), show step (i, false) = (i + 1, false) from rfl, show need s (i + 1, false) 93 = (i + 2, false) by simp [need, h93, step], h f (i + 2) r h2 (by omega)]
      simp only [txt, List.length_append, List.length_cons, List.length_nil]
      refine Prod.ext rfl (Prod.ext (by simp only; omega) rfl)
  have h2 := up2 hm rfl h3
  have h1 := up1 hm rfl h2
  exact ⟨h3, h2, h1, up0 rfl h1⟩
theorem all_dia (hm : s.length < m) {x : Tree} (h : P3 s m x) : P3 s m (.dia x) ∧ P2 s m (.dia x) ∧ P1 s m (.dia x) ∧ P0 s m (.dia x) := by
  have h3 : P3 s m (.dia x) := by
    intro f i r hd hf
    have hd' : s.drop i = 60 :: (62 :: (txt x 3 ++ r)) := by simpa [txt] using hd
    have hlen := drop_len hd (by simp [txt])
    simp only [txt, List.length_append, List.length_cons, List.length_nil] at hlen
    have h1 : s.drop (i + 1) = 62 :: (txt x 3 ++ r) := drop_tail (x := [60]) (r := 62 :: (txt x 3 ++ r)) hd'
    have h2 : s.drop (i + 2) = txt x 3 ++ r := drop_tail (x := [60, 62]) (r := txt x 3 ++ r) hd'
    cases f with
    | zero => omega
    | succ f =>
      have h93 : sees s (i + 1, false) 62 = true := by rw [sees_drop h1]; rfl
      rw [preF_dia (by rw [sees_drop hd']; rfl), show step (i, false) = (i + 1, false) from rfl, show need s (i + 1, false) 62 = (i + 2, false) by simp [need, h93, step], h f (i + 2) r h2 (by omega)]
      simp only [txt, List.length_append, List.length_cons, List.length_nil]
      refine Prod.ext rfl (Prod.ext (by simp only; omega) rfl)
  have h2 := up2 hm rfl h3
  have h1 := up1 hm rfl h2
  exact ⟨h3, h2, h1, up0 rfl h1⟩

theorem all_and (hm : s.length < m) {x y : Tree} (hx : P2 s m x) (hy : P3 s m y) : P3 s m (.and x y) ∧ P2 s m (.and x y) ∧ P1 s m (.and x y) ∧ P0 s m (.and x y) := by
  have ht : ∀ l, l ≤ 2 → txt (.and x y) l = txt x 2 ++ [38] ++ txt y 3 := by intro l hl; rw [txt, wrap, if_neg (by omega)]
  have h2 : P2 s m (.and x y) := by
    intro f i r hd hf
    rw [ht 2 (by omega)] at hd ⊢
    simp only [List.append_assoc, List.cons_append, List.nil_append] at hd
    obtain ⟨k, hk, he⟩ := hx f i _ hd hf
    have d1 := drop_tail hd
    have d2 : s.drop (i + (txt x 2).length + 1) = txt y 3 ++ r := drop_tail (x := [38]) (r := txt y 3 ++ r) d1
    have hp := txt_pos y 3
    have hlen := drop_len d2 hp
    obtain ⟨q, rfl⟩ : ∃ q, k = q + 1 := ⟨k - 1, by omega⟩
    refine ⟨q, ?_, ?_⟩
    · simp only [List.length_append, List.length_cons, List.length_nil]; omega
    · rw [he, loop, if_pos (by rw [sees_drop d1]; rfl), show step (i + (txt x 2).length, false) = (i + (txt x 2).length + 1, false) from rfl, hy f _ r d2 (by omega)]
      simp only [List.length_append, List.length_cons, List.length_nil]
      rw [show i + (txt x 2).length + 1 + (txt y 3).length = i + ((txt x 2).length + (0 + 1) + (txt y 3).length) by omega]
      rfl
  have h1 := up1 hm (by rw [ht 1 (by omega), ht 2 (by omega)]) h2
  have h0 := up0 (by rw [ht 0 (by omega), ht 1 (by omega)]) h1
  exact ⟨down3 hm (by rw [ht 0 (by omega), txt, wrap, if_pos (by omega)]) h0, h2, h1, h0⟩
theorem all_or (hm : s.length < m) {x y : Tree} (hx : P1 s m x) (hy : P2 s m y) : P3 s m (.or x y) ∧ P2 s m (.or x y) ∧ P1 s m (.or x y) ∧ P0 s m (.or x y) := by
  have ht : ∀ l, l ≤ 1 → txt (.or x y) l = txt x 1 ++ [124] ++ txt y 2 := by intro l hl; rw [txt, wrap, if_neg (by omega)]
  have hw : ∀ l, 2 ≤ l → txt (.or x y) l = [40] ++ txt (.or x y) 0 ++ [41] := by intro l hl; rw [ht 0 (by omega), txt, wrap, if_pos (by omega)]
  have h1 : P1 s m (.or x y) := by
    intro f i r hd hf hr
    rw [ht 1 (by omega)] at hd ⊢
    simp only [List.append_assoc, List.cons_append, List.nil_append] at hd
    obtain ⟨k, hk, he⟩ := hx f i _ hd hf (by simp)
    have d1 := drop_tail hd
    have d2 : s.drop (i + (txt x 1).length + 1) = txt y 2 ++ r := drop_tail (x := [124]) (r := txt y 2 ++ r) d1
    have hp := txt_pos y 2
    have hlen := drop_len d2 hp
    obtain ⟨q, rfl⟩ : ∃ q, k = q + 1 := ⟨k - 1, by omega⟩
    refine ⟨q, ?_, ?_⟩
    · simp only [List.length_append, List.length_cons, List.length_nil]; omega
    · obtain ⟨k2, hk2, he2⟩ := hy f _ r d2 (by omega)
      rw [loop_stop (sees_none (drop_tail d2) hr)] at he2
      rw [he, loop, if_pos (by rw [sees_drop d1]; rfl), show step (i + (txt x 1).length, false) = (i + (txt x 1).length + 1, false) from rfl, he2]
      simp only [List.length_append, List.length_cons, List.length_nil]
      rw [show i + (txt x 1).length + 1 + (txt y 2).length = i + ((txt x 1).length + (0 + 1) + (txt y 2).length) by omega]
      rfl
  have h0 := up0 (by rw [ht 0 (by omega), ht 1 (by omega)]) h1
  have h3 := down3 hm (hw 3 (by omega)) h0
  exact ⟨h3, up2 hm (by rw [hw 2 (by omega), hw 3 (by omega)]) h3, h1, h0⟩
theorem all_imp (hm : s.length < m) {x y : Tree} (hf : isF y = false) (hx : P1 s m x) (hy : P0 s m y) : P3 s m (.imp x y) ∧ P2 s m (.imp x y) ∧ P1 s m (.imp x y) ∧ P0 s m (.imp x y) := by
  have ht : txt (.imp x y) 0 = txt x 1 ++ [62] ++ txt y 0 := by rw [txt, if_neg (by rw [hf]; decide), wrap, if_neg (by omega)]
  have hw : ∀ l, 1 ≤ l → txt (.imp x y) l = [40] ++ txt (.imp x y) 0 ++ [41] := by intro l hl; rw [ht, txt, if_neg (by rw [hf]; decide), wrap, if_pos (by omega)]
  have h0 : P0 s m (.imp x y) := by
    intro f n i r hd hf hn q1 q2 q3
    rw [ht] at hd ⊢
    simp only [List.append_assoc, List.cons_append, List.nil_append] at hd
    obtain ⟨k, hk, he⟩ := hx f i _ hd hf (by simp)
    have d1 := drop_tail hd
    have d2 : s.drop (i + (txt x 1).length + 1) = txt y 0 ++ r := drop_tail (x := [62]) (r := txt y 0 ++ r) d1
    have hp := txt_pos y 0
    have hlen := drop_len d2 hp
    rw [loop_stop (by rw [sees_drop d1]; rfl)] at he
    cases n with
    | zero => omega
    | succ n =>
      have hsee : sees s (orF s m (preF s m f) (i, false)).2 62 = true := by rw [he, sees_drop d1]; rfl
      rw [impF_yes hsee, he]
      dsimp only
      rw [show step (i + (txt x 1).length, false) = (i + (txt x 1).length + 1, false) from rfl, hy f n _ r d2 (by omega) (by omega) q1 q2 q3]
      simp only [List.length_append, List.length_cons, List.length_nil]
      refine Prod.ext rfl (Prod.ext (by simp only; omega) rfl)
  have h3 := down3 hm (hw 3 (by omega)) h0
  have h2 := up2 hm (by rw [hw 2 (by omega), hw 3 (by omega)]) h3
  exact ⟨h3, h2, up1 hm (by rw [hw 1 (by omega), hw 2 (by omega)]) h2, h0⟩

theorem all_levels (hm : s.length < m) (t : Tree) : P3 s m t ∧ P2 s m t ∧ P1 s m t ∧ P0 s m t := by
  induction t with
  | var v => exact all_var hm v
  | fls => exact all_fls hm
  | and x y hx hy => exact all_and hm hx.2.1 hy.1
  | or x y hx hy => exact all_or hm hx.2.2.1 hy.2.1
  | imp x y hx hy =>
    cases hf : isF y with
    | true =>
      obtain rfl := isF_eq hf
      cases hg : isF x with
      | true => obtain rfl := isF_eq hg; exact all_tru hm
      | false => exact all_not hm hg hx.1
    | false => exact all_imp hm hf hx.2.2.1 hy.2.2.2
  | box x hx => exact all_box hm hx.1
  | dia x hx => exact all_dia hm hx.1
end

/-- The text of a formula reads as it. -/
theorem parse_txt (t : Tree) (m : Nat) (hm : (txt t 0).length < m) : parse (txt t 0) m = (enc t, ((txt t 0).length, false)) := by
  have h := (all_levels (s := txt t 0) hm t).2.2.2 m m 0 [] (by simp) (by omega) (by omega) (by simp) (by simp) (by simp)
  rw [parse, h]
  simp

end Fm

/-- A string of bytes. -/
def bs (l : List UInt8) : ByteArray := ⟨l.toArray⟩
theorem bs_append (a b : List UInt8) : bs a ++ bs b = bs (a ++ b) := by
  apply ByteArray.ext
  simp [bs]
theorem bs_size (a : List UInt8) : (bs a).size = a.length := by simp [bs, ByteArray.size]
theorem bs_list (a : List UInt8) : (bs a).data.toList = a := by simp [bs]
theorem bs_eq (s : ByteArray) : bs s.data.toList = s := by
  apply ByteArray.ext
  simp [bs]

namespace Fm
def fuel : Nat := 1048577
/-- What a text reads as. -/
def read (s : ByteArray) : Res := parse s.data.toList fuel
/-- The whole text is a formula of whatever size. -/
def whole (s : ByteArray) : Bool := !(read s).2.2 && decide (s.size ≤ (read s).2.1)
/-- The results of ParseFormula. -/
def pf (s : ByteArray) : List Nd × Nat × Int :=
  if 200 < s.size then ([], 0, 3) else if whole s = false then ([], (read s).2.1, 6) else if 40 < (read s).1.length then ([], 0, 3) else ((read s).1, 0, 0)
theorem read_ok (s : ByteArray) : (read s).2.1 ≤ s.size ∧ (read s).1.length ≤ 3 * s.size + 1 := by
  obtain ⟨h1, h2, h3⟩ := parse_ok s.data.toList fuel
  rw [show s.data.toList.length = s.size from by simp] at h2
  exact ⟨h2, by unfold read; omega⟩
theorem read_ne (s : ByteArray) : (read s).1 ≠ [] := by
  obtain ⟨t, h⟩ := parse_enc s.data.toList fuel
  have := enc_pos t
  unfold read
  rw [h]
  intro h0
  rw [h0] at this
  simp at this
theorem pf_len (s : ByteArray) : (pf s).1.length ≤ 40 := by
  unfold pf
  split
  · simp
  split
  · simp
  split
  · simp
  · simp only; omega
end Fm

/-- What l02Read gives. -/
def Fm.rd (s : ByteArray) : List Nd × Int := if Fm.whole s = false then ([], ((Fm.read s).2.1 : Int)) else ((Fm.read s).1, -1)


namespace Fm
theorem read_txt (t : Tree) (h : (txt t 0).length < fuel) : read (bs (txt t 0)) = (enc t, ((txt t 0).length, false)) := by
  rw [read, bs_list, parse_txt t fuel h]
theorem whole_txt (t : Tree) (h : (txt t 0).length < fuel) : whole (bs (txt t 0)) = true := by
  rw [whole, read_txt t h, bs_size]
  simp
theorem pf_txt (t : Tree) (h : (txt t 0).length ≤ 200) (hn : (enc t).length ≤ 40) : pf (bs (txt t 0)) = (enc t, 0, 0) := by
  have hf : (txt t 0).length < fuel := by unfold fuel; omega
  rw [pf, if_neg (by rw [bs_size]; omega), if_neg (by rw [whole_txt t hf]; decide), read_txt t hf, if_neg (by simp only; omega)]
theorem rd_txt (t : Tree) (h : (txt t 0).length < fuel) : rd (bs (txt t 0)) = (enc t, -1) := by
  rw [rd, if_neg (by rw [whole_txt t h]; decide), read_txt t h]
end Fm
end Go.Proofs.YtpfncncohnhanaaGreatDoor

/- ParseFormula, of the program and of the reference: both give what the plain parser gives. -/
namespace Go.Proofs.YtpfncncohnhanaaGreatDoor
open Go.RowKit
open Fm (Nd)

/-- The call returns a new list and two numbers. -/
def Gives3 (w : World) (r : List Nd × Nat × Int) (e : Ending) (w' : World) : Prop := ∃ v, e = .returned (.tuple #[v, .int .i64 r.2.1, .int .i64 r.2.2]) ∧ Own w' w.heap.size v r.1 ∧ Grew w w' ∧ (r.1 = [] → v = .slice none 0 0)

theorem Rdr.new (w : World) (T : TypeId) (s : ByteArray) : Rdr (w.alloc (.cells #[.string s, .int .i64 0, .bool false] T)) w.heap.size T s (0, false) := blk_new w _

/-- A new list and one number: what l02Read returns. -/
def Gives2 (w : World) (xs : List Nd) (n : Int) (e : Ending) (w' : World) : Prop := ∃ v, e = .returned (.tuple #[v, .int .i64 n]) ∧ Own w' w.heap.size v xs ∧ Grew w w'

theorem parse_c (s : ByteArray) (w : World) (hs : s.size ≤ 140737488355328) :
    Calls Tryz.prog 95 #[.string s] w (Gives3 w (Fm.pf s)) := by
  by_cases hbig : 200 < s.size
  · have hp : Fm.pf s = ([], 0, 3) := by unfold Fm.pf; rw [if_pos hbig]
    rw [hp]
    clear hp
    go_enter Tryz.func95, Tryz.ntmps95
    go_wp2_with fail
    go_ret3
    exact ⟨_, rfl, Own.nil_ _ _, Grew.refl _, fun _ => rfl⟩
  obtain ⟨hr1, hr2⟩ := Fm.read_ok s
  have hxs : Hid ((Fm.read s).1 ≠ []) := Fm.read_ne s
  have HT := Lib.hid (fun g w hR => imply_top 145 (by decide) s Fm.fuel (by omega) (by unfold Fm.fuel; omega) g w hR)
  have hpf : Hid (Fm.pf s = if Fm.whole s = false then ([], (Fm.read s).2.1, 6) else if 40 < (Fm.read s).1.length then ([], 0, 3) else ((Fm.read s).1, 0, 0)) := by
    unfold Fm.pf Hid; rw [if_neg hbig]
  have hwh : Hid (Fm.whole s = (!(Fm.read s).2.2 && decide (s.size ≤ (Fm.read s).2.1))) := rfl
  generalize Fm.pf s = P at *
  generalize Fm.whole s = W at *
  have hrd : Fm.parse s.data.toList Fm.fuel = Fm.read s := rfl
  rw [hrd] at HT
  clear hrd
  generalize Fm.read s = r at *
  obtain ⟨xs, p, b⟩ := r
  simp only at hr1 hr2 hpf hwh hxs
  have hR0 := Rdr.new w 145 s
  have HR0 := Lib.hid hR0
  clear hR0
  by_cases hb : b = true
  · subst hb
    have hP : P = ([], p, 6) := by rw [hpf.out, hwh.out]; simp
    subst hP
    clear hpf hwh
    go_enter Tryz.func95, Tryz.ntmps95
    go_wp2_with fail
    refine (HT.out _ _ HR0.out).mono ?_
    rintro e w1 ⟨v1, rfl, ho1, hR1, hO1⟩
    have c1 := hR1.at_
    have c2 := hR1.bad
    have hG := hO1.grew_of ((Grew.refl w).alloc _) (Nat.le_refl _)
    clear hR1 hO1
    go_wp2_with fail
    go_quiet (fail)
    go_wp2_with fail
    go_ret3
    exact ⟨_, rfl, Own.nil_ _ _, hG.drewN _, fun _ => rfl⟩
  have hb' : b = false := by simpa using hb
  subst hb'
  clear hb
  by_cases hlt : p < s.size
  · have hP : P = ([], p, 6) := by
      rw [hpf.out, hwh.out]
      simp [hlt]
    subst hP
    clear hpf hwh
    go_enter Tryz.func95, Tryz.ntmps95
    go_wp2_with fail
    refine (HT.out _ _ HR0.out).mono ?_
    rintro e w1 ⟨v1, rfl, ho1, hR1, hO1⟩
    have c1 := hR1.at_
    have c2 := hR1.bad
    have hG := hO1.grew_of ((Grew.refl w).alloc _) (Nat.le_refl _)
    clear hR1 hO1
    go_wp2_with fail
    go_quiet (fail)
    go_wp2_with fail
    go_ret3
    exact ⟨_, rfl, Own.nil_ _ _, hG.drewN _, fun _ => rfl⟩
  by_cases h40 : 40 < xs.length
  · have hP : P = ([], 0, 3) := by
      rw [hpf.out, hwh.out]
      simp [Nat.le_of_not_lt hlt, h40]
    subst hP
    clear hpf hwh
    go_enter Tryz.func95, Tryz.ntmps95
    go_wp2_with fail
    refine (HT.out _ _ HR0.out).mono ?_
    rintro e w1 ⟨v1, rfl, ho1, hR1, hO1⟩
    have c1 := hR1.at_
    have c2 := hR1.bad
    have hG := hO1.grew_of ((Grew.refl w).alloc _) (Nat.le_refl _)
    obtain ⟨A, ca, rfl⟩ := nodes_slice ho1.nodes
    clear hR1 hO1
    go_wp2_with fail
    go_ret3
    exact ⟨_, rfl, Own.nil_ _ _, hG, fun _ => rfl⟩
  · have hP : P = (xs, 0, 0) := by
      rw [hpf.out, hwh.out]
      simp [Nat.le_of_not_lt hlt, h40]
    subst hP
    clear hpf hwh
    go_enter Tryz.func95, Tryz.ntmps95
    go_wp2_with fail
    refine (HT.out _ _ HR0.out).mono ?_
    rintro e w1 ⟨v1, rfl, ho1, hR1, hO1⟩
    have c1 := hR1.at_
    have c2 := hR1.bad
    have hG := hO1.grew_of ((Grew.refl w).alloc _) (Nat.le_refl _)
    obtain ⟨A, ca, rfl⟩ := nodes_slice ho1.nodes
    clear hR1 hO1
    go_wp2_with fail
    go_ret3
    exact ⟨_, rfl, ho1.base (by simp), hG, fun h => absurd h hxs.out⟩
end Go.Proofs.YtpfncncohnhanaaGreatDoor

/- The reference's reader: l02Take, l02Need. -/
namespace Go.Proofs.YtpfncncohnhanaaGreatDoor
open Go.RowKit

theorem l02Take_c (g T : Nat) (s : ByteArray) (st : Fm.St) (c : UInt8) (m : Int) (w : World) (h : Rdr w g T s st) (hs : s.size ≤ 1099511627776) (hat : st.1 ≤ s.size) (hm : m = (c.toNat : Int)) :
    Calls Tryz.prog 174 #[.pointer (some ⟨g, 0, none⟩), .int .u8 m] w (Took w g T s st c) := by
  subst hm
  have c0 := h.text
  have c1 := h.at_
  have c2 := h.bad
  have hf := h.free 1
  obtain ⟨p, b⟩ := st
  simp only at c0 c1 c2 hat
  by_cases hb : b = true
  · subst hb
    have HH := Lib.hid h
    clear h
    go_enter Tryz.func174, Tryz.ntmps174
    go_wp2_with fail
    go_quiet (fail)
    go_wp2_with fail
    go_ret
    exact Took.no HH.out (sees_bad _ _ _) ((Grew.refl _).drewN _)
  · have hb' : b = false := by simpa using hb
    subst hb'
    by_cases hlt : p < s.size
    · have hd : decide ((p : Int) < (s.size : Int)) = true := by simp; omega
      have HH := Lib.hid h
      clear h hb
      go_enter Tryz.func174, Tryz.ntmps174
      go_wp2_with fail
      go_quiet (fail)
      go_wp2_with fail
      · have h1 : ((s[p].toNat : Int) == c.toNat) = true := by assumption
        go_ret
        exact Took.yes HH.out (by rw [sees_in s p c hlt]; rw [byte_eq] at h1; simpa using h1) ((Grew.refl _).drewN _)
      · have h1 : ((s[p].toNat : Int) == c.toNat) = false := by assumption
        go_ret
        exact Took.no HH.out (by rw [sees_in s p c hlt]; rw [byte_eq] at h1; simpa using h1) ((Grew.refl _).drewN _)
    · have hd : decide ((p : Int) < (s.size : Int)) = false := by simp; omega
      have HH := Lib.hid h
      clear h hb
      go_enter Tryz.func174, Tryz.ntmps174
      go_wp2_with fail
      go_quiet (fail)
      go_wp2_with fail
      go_ret
      exact Took.no HH.out (sees_end _ _ _ (by omega)) ((Grew.refl _).drewN _)

theorem l02Take_yes (g T : Nat) (s : ByteArray) (st : Fm.St) (c : UInt8) (m : Int) (w : World) (h : Rdr w g T s st) (hs : s.size ≤ 1099511627776) (hat : st.1 ≤ s.size) (hm : m = (c.toNat : Int)) (hsee : Fm.sees s.data.toList st c = true) :
    Calls Tryz.prog 174 #[.pointer (some ⟨g, 0, none⟩), .int .u8 m] w fun e w' => e = .returned (.bool true) ∧ Rdr w' g T s (Fm.step st) ∧ Only g w w' :=
  (l02Take_c g T s st c m w h hs hat hm).mono fun e w' hh => by
    unfold Took at hh; rw [hsee] at hh; exact hh
theorem l02Take_no (g T : Nat) (s : ByteArray) (st : Fm.St) (c : UInt8) (m : Int) (w : World) (h : Rdr w g T s st) (hs : s.size ≤ 1099511627776) (hat : st.1 ≤ s.size) (hm : m = (c.toNat : Int)) (hsee : Fm.sees s.data.toList st c = false) :
    Calls Tryz.prog 174 #[.pointer (some ⟨g, 0, none⟩), .int .u8 m] w fun e w' => e = .returned (.bool false) ∧ Rdr w' g T s st ∧ Only g w w' :=
  (l02Take_c g T s st c m w h hs hat hm).mono fun e w' hh => by
    unfold Took at hh; rw [hsee] at hh; exact hh
theorem l02Need_c (g T : Nat) (s : ByteArray) (st : Fm.St) (c : UInt8) (m : Int) (w : World) (h : Rdr w g T s st) (hs : s.size ≤ 1099511627776) (hat : st.1 ≤ s.size) (hm : m = (c.toNat : Int)) :
    Calls Tryz.prog 229 #[.pointer (some ⟨g, 0, none⟩), .int .u8 m] w fun e w' => e = .returned (.tuple #[]) ∧ Rdr w' g T s (Fm.need s.data.toList st c) ∧ Only g w w' := by
  subst hm
  by_cases hsee : Fm.sees s.data.toList st c = true
  · have hn : Fm.need s.data.toList st c = Fm.step st := by unfold Fm.need; rw [if_pos hsee]
    rw [hn]
    clear hn
    go_enter Tryz.func229, Tryz.ntmps229
    go_wp2_with fail
    refine (l02Take_yes g T s st c _ _ h hs hat rfl hsee).mono ?_
    rintro e w1 ⟨rfl, h1, o1⟩
    go_wp2_with fail
    go_end0
    exact ⟨rfl, h1, o1⟩
  · have hsee' : Fm.sees s.data.toList st c = false := by simpa using hsee
    have hn : Fm.need s.data.toList st c = (st.1, true) := by unfold Fm.need; rw [if_neg hsee]
    rw [hn]
    clear hn hsee
    go_enter Tryz.func229, Tryz.ntmps229
    go_wp2_with fail
    refine (l02Take_no g T s st c _ _ h hs hat rfl hsee').mono ?_
    rintro e w1 ⟨rfl, h1, o1⟩
    have c2 := h1.bad
    have hf := h1.free 2
    have HH := Lib.hid h1
    clear h1
    go_wp2_with fail
    go_end0
    exact ⟨rfl, HH.out.spoil, o1.setCell _⟩
end Go.Proofs.YtpfncncohnhanaaGreatDoor

/- The reference's reader: what l02Imply, l02Or, l02And read is what the plain parser gives. -/
namespace Go.Proofs.YtpfncncohnhanaaGreatDoor
open Go.RowKit
open Fm (Nd)

theorem l02And_c (T : TypeId) (hT : 59 ≠ T) (s : ByteArray) (f m : Nat) (sub : Fm.St → Fm.Res) (hs : s.size ≤ 1048576) (hm : s.size < m) (hok : ∀ st : Fm.St, st.1 ≤ s.data.toList.length → Fm.Ok s.data.toList st (sub st))
    (hsub : Sub 214 T s f sub) : Sub 197 T s f (fun st => Fm.loop s.data.toList 2 38 sub m (sub st).1 (sub st).2) := by
  intro g st w hR hat hfu
  have HS := Lib.hid hsub
  have HO := Lib.hid hok
  clear hsub hok
  have hsz := size_toList s
  have h0 : Fm.Ok s.data.toList st (sub st) := HO.out st (by rw [hsz]; exact hat)
  show Calls _ _ _ _ (Reads w g T s (Fm.loop s.data.toList 2 38 sub m (sub st).1 (sub st).2))
  obtain ⟨R, hR0⟩ : ∃ R, R = Fm.loop s.data.toList 2 38 sub m (sub st).1 (sub st).2 := ⟨_, rfl⟩
  rw [← hR0]
  have hend := Lib.hid hR0
  clear hR0
  have HZ := Lib.hid hsz
  clear hsz
  go_enter Tryz.func197, Tryz.ntmps197
  go_wp2_with fail
  refine (HS.out g st _ hR hat hfu).mono ?_
  rintro e w1 ⟨v1, rfl, ho1, hR1, hO1⟩
  generalize sub st = r1 at *
  obtain ⟨k1, k2, k3⟩ := h0
  rw [HZ.out] at k2
  go_wp2_with fail
  go_loopg [3] m (fun i v wr => ∃ (a : List Nd) (st' : Fm.St), Own wr w.heap.size v a ∧ Rdr wr g T s st' ∧ Only g w wr ∧ Hid (Fm.loop s.data.toList 2 38 sub i a st' = R) ∧ s.size - st'.1 < i ∧ st.1 ≤ st'.1 ∧ st'.1 ≤ s.size ∧ a.length ≤ 3 * st'.1 + 1)
  case atStart => exact ⟨r1.1, r1.2, ho1, hR1, hO1, hend.out.symm, by omega, by omega, by omega, by omega⟩
  case round =>
    obtain ⟨a, st', hown, hR', hO', hl, hi, hst, hst2, hlen⟩ := hrel
    have hne := own_rdr_ne hown hR' hT
    clear hend ho1 hR1 hO1 k1 k2 k3 hR
    obtain ⟨j, rfl⟩ : ∃ j, gk = j + 1 := ⟨gk - 1, by omega⟩
    by_cases hsee : Fm.sees s.data.toList st' 38 = true
    · have hlt := Fm.sees_lt hsee
      rw [HZ.out] at hlt
      have hl2 : Hid (Fm.loop s.data.toList 2 38 sub j (Fm.join 2 a (sub (Fm.step st')).1) (sub (Fm.step st')).2 = R) := by
        have := hl.out
        rw [Fm.loop, if_pos hsee] at this
        exact this
      obtain ⟨k1, k2, k3⟩ : Fm.Ok s.data.toList (Fm.step st') (sub (Fm.step st')) := HO.out (Fm.step st') (by rw [HZ.out]; exact hlt)
      rw [HZ.out] at k2
      have e1 : (Fm.step st').1 = st'.1 + 1 := rfl
      rw [e1] at k1 k3
      have hfu2 : s.size - (Fm.step st').1 < f := by rw [e1]; omega
      have hat2 : (Fm.step st').1 ≤ s.size := by rw [e1]; omega
      clear hl e1
      go_wp2_with fail
      refine (l02Take_yes g T s st' 38 _ _ hR' (by omega) hst2 rfl hsee).mono ?_
      rintro e w2 ⟨rfl, hR2, hO2⟩
      clear hsee hR'
      generalize Fm.step st' = st2 at *
      go_wp2_with fail
      refine (HS.out g st2 _ hR2 hat2 hfu2).mono ?_
      rintro e w3 ⟨v3, rfl, ho3, hR3, hO3⟩
      generalize sub st2 = r3 at *
      go_wp2_with fail
      refine (l02Pair_c 2 _ _ a r3.1 _ ((hown.only hO2 hne).only hO3 hne).nodes ho3.nodes (by omega)).mono ?_
      rintro e w4 ⟨v4, rfl, ho4, hg4⟩
      go_wp2_with fail
      go_roundg j
      case measure => omega
      case rel => exact ⟨_, r3.2, ho4.base (by have := hO'.size; have := hO2.size; have := hO3.size; omega), hR3.grew hg4, ((hO'.trans hO2).trans hO3).grew hg4, hl2, by omega, by omega, by omega, by simp only [Fm.join, List.length_cons, List.length_append]; omega⟩
    · have hsee' : Fm.sees s.data.toList st' 38 = false := by simpa using hsee
      have hl2 : Hid (R = (a, st')) := by
        have := hl.out
        rw [Fm.loop, if_neg hsee] at this
        exact this.symm
      clear hsee hl
      go_wp2_with fail
      refine (l02Take_no g T s st' 38 _ _ hR' (by omega) hst2 rfl hsee').mono ?_
      rintro e w2 ⟨rfl, hR2, hO2⟩
      go_wp2_with fail
      go_ret
      rw [hl2.out]
      exact ⟨_, rfl, hown.only hO2 hne, hR2, hO'.trans hO2⟩
theorem l02Or_c (T : TypeId) (hT : 59 ≠ T) (s : ByteArray) (f m : Nat) (sub : Fm.St → Fm.Res) (hs : s.size ≤ 1048576) (hm : s.size < m) (hok : ∀ st : Fm.St, st.1 ≤ s.data.toList.length → Fm.Ok s.data.toList st (sub st))
    (hsub : Sub 197 T s f sub) : Sub 173 T s f (fun st => Fm.loop s.data.toList 3 124 sub m (sub st).1 (sub st).2) := by
  intro g st w hR hat hfu
  have HS := Lib.hid hsub
  have HO := Lib.hid hok
  clear hsub hok
  have hsz := size_toList s
  have h0 : Fm.Ok s.data.toList st (sub st) := HO.out st (by rw [hsz]; exact hat)
  show Calls _ _ _ _ (Reads w g T s (Fm.loop s.data.toList 3 124 sub m (sub st).1 (sub st).2))
  obtain ⟨R, hR0⟩ : ∃ R, R = Fm.loop s.data.toList 3 124 sub m (sub st).1 (sub st).2 := ⟨_, rfl⟩
  rw [← hR0]
  have hend := Lib.hid hR0
  clear hR0
  have HZ := Lib.hid hsz
  clear hsz
  go_enter Tryz.func173, Tryz.ntmps173
  go_wp2_with fail
  refine (HS.out g st _ hR hat hfu).mono ?_
  rintro e w1 ⟨v1, rfl, ho1, hR1, hO1⟩
  generalize sub st = r1 at *
  obtain ⟨k1, k2, k3⟩ := h0
  rw [HZ.out] at k2
  go_wp2_with fail
  go_loopg [3] m (fun i v wr => ∃ (a : List Nd) (st' : Fm.St), Own wr w.heap.size v a ∧ Rdr wr g T s st' ∧ Only g w wr ∧ Hid (Fm.loop s.data.toList 3 124 sub i a st' = R) ∧ s.size - st'.1 < i ∧ st.1 ≤ st'.1 ∧ st'.1 ≤ s.size ∧ a.length ≤ 3 * st'.1 + 1)
  case atStart => exact ⟨r1.1, r1.2, ho1, hR1, hO1, hend.out.symm, by omega, by omega, by omega, by omega⟩
  case round =>
    obtain ⟨a, st', hown, hR', hO', hl, hi, hst, hst2, hlen⟩ := hrel
    have hne := own_rdr_ne hown hR' hT
    clear hend ho1 hR1 hO1 k1 k2 k3 hR
    obtain ⟨j, rfl⟩ : ∃ j, gk = j + 1 := ⟨gk - 1, by omega⟩
    by_cases hsee : Fm.sees s.data.toList st' 124 = true
    · have hlt := Fm.sees_lt hsee
      rw [HZ.out] at hlt
      have hl2 : Hid (Fm.loop s.data.toList 3 124 sub j (Fm.join 3 a (sub (Fm.step st')).1) (sub (Fm.step st')).2 = R) := by
        have := hl.out
        rw [Fm.loop, if_pos hsee] at this
        exact this
      obtain ⟨k1, k2, k3⟩ : Fm.Ok s.data.toList (Fm.step st') (sub (Fm.step st')) := HO.out (Fm.step st') (by rw [HZ.out]; exact hlt)
      rw [HZ.out] at k2
      have e1 : (Fm.step st').1 = st'.1 + 1 := rfl
      rw [e1] at k1 k3
      have hfu2 : s.size - (Fm.step st').1 < f := by rw [e1]; omega
      have hat2 : (Fm.step st').1 ≤ s.size := by rw [e1]; omega
      clear hl e1
      go_wp2_with fail
      refine (l02Take_yes g T s st' 124 _ _ hR' (by omega) hst2 rfl hsee).mono ?_
      rintro e w2 ⟨rfl, hR2, hO2⟩
      clear hsee hR'
      generalize Fm.step st' = st2 at *
      go_wp2_with fail
      refine (HS.out g st2 _ hR2 hat2 hfu2).mono ?_
      rintro e w3 ⟨v3, rfl, ho3, hR3, hO3⟩
      generalize sub st2 = r3 at *
      go_wp2_with fail
      refine (l02Pair_c 3 _ _ a r3.1 _ ((hown.only hO2 hne).only hO3 hne).nodes ho3.nodes (by omega)).mono ?_
      rintro e w4 ⟨v4, rfl, ho4, hg4⟩
      go_wp2_with fail
      go_roundg j
      case measure => omega
      case rel => exact ⟨_, r3.2, ho4.base (by have := hO'.size; have := hO2.size; have := hO3.size; omega), hR3.grew hg4, ((hO'.trans hO2).trans hO3).grew hg4, hl2, by omega, by omega, by omega, by simp only [Fm.join, List.length_cons, List.length_append]; omega⟩
    · have hsee' : Fm.sees s.data.toList st' 124 = false := by simpa using hsee
      have hl2 : Hid (R = (a, st')) := by
        have := hl.out
        rw [Fm.loop, if_neg hsee] at this
        exact this.symm
      clear hsee hl
      go_wp2_with fail
      refine (l02Take_no g T s st' 124 _ _ hR' (by omega) hst2 rfl hsee').mono ?_
      rintro e w2 ⟨rfl, hR2, hO2⟩
      go_wp2_with fail
      go_ret
      rw [hl2.out]
      exact ⟨_, rfl, hown.only hO2 hne, hR2, hO'.trans hO2⟩

theorem l02Imply_c (T : TypeId) (hT : 59 ≠ T) (s : ByteArray) (f m : Nat) (sub : Fm.St → Fm.Res) (hs : s.size ≤ 1048576) (hok : ∀ st : Fm.St, st.1 ≤ s.data.toList.length → Fm.Ok s.data.toList st (sub st))
    (hsub : Sub 173 T s f (Fm.orF s.data.toList m sub)) : ∀ (i : Nat) (g : Nat) (st : Fm.St) (w : World), Rdr w g T s st → st.1 ≤ s.size → s.size - st.1 < i → s.size - st.1 < f →
      Calls Tryz.prog 151 #[.pointer (some ⟨g, 0, none⟩)] w (Reads w g T s (Fm.impF s.data.toList m sub i st)) := by
  intro i
  induction i with
  | zero => intro g st w _ _ h; omega
  | succ i ih =>
    intro g st w hR hat hi hfu
    have HS := Lib.hid hsub
    have HI := Lib.hid ih
    clear hsub ih
    have hsz := size_toList s
    have h0 : Fm.Ok s.data.toList st (Fm.orF s.data.toList m sub st) := Fm.orF_ok hok st (by rw [hsz]; exact hat)
    have hy := @Fm.impF_yes s.data.toList m i sub st
    have hn := @Fm.impF_no s.data.toList m i sub st
    have hk := fun st h => Fm.impF_ok (m := m) hok i st h
    have HK := Lib.hid hk
    have HZ := Lib.hid hsz
    clear hsz hok hk
    have HC := fun g h1 => HS.out g st w h1 hat hfu
    have HD := Lib.hid HC
    clear HC HS
    generalize Fm.orF s.data.toList m sub st = r1 at *
    obtain ⟨k1, k2, k3⟩ := h0
    rw [HZ.out] at k2
    by_cases hsee : Fm.sees s.data.toList r1.2 62 = true
    · have hlt := Fm.sees_lt hsee
      rw [HZ.out] at hlt
      have e1 : (Fm.step r1.2).1 = r1.2.1 + 1 := rfl
      obtain ⟨q1, q2, q3⟩ := HK.out (Fm.step r1.2) (by rw [HZ.out, e1]; exact hlt)
      rw [HZ.out] at q2
      rw [e1] at q1 q3
      have hq := HI.out g (Fm.step r1.2)
      rw [e1] at hq
      have HQ := Lib.hid hq
      rw [hy hsee]
      clear hy hn HI hq HK e1
      go_enter Tryz.func151, Tryz.ntmps151
      go_wp2_with fail
      refine (HD.out g hR).mono ?_
      rintro e w1 ⟨v1, rfl, ho1, hR1, hO1⟩
      have hne := own_rdr_ne ho1 hR1 hT
      go_wp2_with fail
      refine (l02Take_yes g T s r1.2 62 _ _ hR1 (by omega) (by omega) rfl hsee).mono ?_
      rintro e w2 ⟨rfl, hR2, hO2⟩
      go_wp2_with fail
      refine (HQ.out _ hR2 (by omega) (by omega) (by omega)).mono ?_
      rintro e w3 ⟨v3, rfl, ho3, hR3, hO3⟩
      generalize Fm.impF s.data.toList m sub i (Fm.step r1.2) = r3 at *
      go_wp2_with fail
      refine (l02Pair_c 4 _ _ r1.1 r3.1 _ ((ho1.only hO2 hne).only hO3 hne).nodes ho3.nodes (by omega)).mono ?_
      rintro e w4 ⟨v4, rfl, ho4, hg4⟩
      go_wp2_with fail
      go_ret
      exact ⟨_, rfl, ho4.base (by have := hO1.size; have := hO2.size; have := hO3.size; omega), hR3.grew hg4, ((hO1.trans hO2).trans hO3).grew hg4⟩
    · have hsee' : Fm.sees s.data.toList r1.2 62 = false := by simpa using hsee
      rw [hn hsee']
      clear hy hn HI HK hsee
      go_enter Tryz.func151, Tryz.ntmps151
      go_wp2_with fail
      refine (HD.out g hR).mono ?_
      rintro e w1 ⟨v1, rfl, ho1, hR1, hO1⟩
      have hne := own_rdr_ne ho1 hR1 hT
      go_wp2_with fail
      refine (l02Take_no g T s r1.2 62 _ _ hR1 (by omega) (by omega) rfl hsee').mono ?_
      rintro e w2 ⟨rfl, hR2, hO2⟩
      go_wp2_with fail
      go_ret
      exact ⟨_, rfl, ho1.only hO2 hne, hR2, hO1.trans hO2⟩

end Go.Proofs.YtpfncncohnhanaaGreatDoor

/- The reference's reader: l02Prefix and l02Imply. -/
namespace Go.Proofs.YtpfncncohnhanaaGreatDoor
open Go.RowKit
open Fm (Nd)

theorem index_letter (w : World) (i : Nat) (hi : i < 6) :
    (Instr.index 9 (.string ⟨#[112, 113, 114, 115, 116, 117]⟩) (.int .i64 i)).run Tryz.prog w = .ok (.int .u8 (112 + (i : Int))) w := by
  have h6 : i = 0 ∨ i = 1 ∨ i = 2 ∨ i = 3 ∨ i = 4 ∨ i = 5 := by omega
  rcases h6 with rfl | rfl | rfl | rfl | rfl | rfl <;> (simp [Instr.index, run_underlying Tryz.underlying9, go_sem]; rfl)
theorem letter_byte2 {i : Nat} (hi : i < 6) : 112 + (i : Int) = ((UInt8.ofNat (112 + i)).toNat : Int) := by
  rw [UInt8.toNat_ofNat']; omega

set_option maxHeartbeats 1000000 in
theorem l02Prefix_step (T : TypeId) (hT : 59 ≠ T) (s : ByteArray) (f m : Nat) (hs : s.size ≤ 1048576)
    (himp : Sub 151 T s f (Fm.impF s.data.toList m (Fm.preF s.data.toList m f) m)) (hp : Sub 214 T s f (Fm.preF s.data.toList m f))
    (g : Nat) (st : Fm.St) (w : World) (hR : Rdr w g T s st) (hat : st.1 ≤ s.size) (hfu : s.size - st.1 < f + 1) :
    Calls Tryz.prog 214 #[.pointer (some ⟨g, 0, none⟩)] w (Reads w g T s (Fm.preF s.data.toList m (f + 1) st)) := by
  have HI := Lib.hid himp
  have HP := Lib.hid hp
  have HZ := Lib.hid (size_toList s)
  clear himp hp
  cases hl : Fm.letter s.data.toList st with
  | some v =>
    rw [Fm.preF_var hl]
    have hv := (Fm.letter_some hl).1
    have hvs := (Fm.letter_some hl).2
    have HN := Lib.hid (fun i hi hne => @Fm.letter_ne s.data.toList st v i hl hi hne)
    clear hl HI HP
    go_enter Tryz.func214, Tryz.ntmps214
    go_wp2_with fail
    go_loopg [4] 6 (fun n x wr => ∃ i : Nat, n = 6 - i ∧ i ≤ v ∧ x = .int .i64 i ∧ Rdr wr g T s st ∧ Only g w wr)
    case atStart => exact ⟨0, rfl, Nat.zero_le _, rfl, hR, Only.refl _ _⟩
    case round =>
      obtain ⟨i, rfl, hiv, rfl, hRr, hOr⟩ := hrel
      have hix := fun w => index_letter w i (by omega)
      by_cases hiv2 : i = v
      · subst hiv2
        go_wp2_with fail
        refine (l02Take_yes g T s st _ _ _ hRr (by omega) hat (letter_byte2 (by omega)) hvs).mono ?_
        rintro e w4 ⟨rfl, hR6, hO6⟩
        go_wp2_with fail
        refine (l02Var_c _ _).mono ?_
        rintro e w5 ⟨v5, rfl, ho5, hg5⟩
        go_wp2_with fail
        go_ret
        exact ⟨_, rfl, ho5.base (hOr.trans hO6).size, hR6.grew hg5, (hOr.trans hO6).grew hg5⟩
      · have hs0 := HN.out i (by omega) hiv2
        go_wp2_with fail
        refine (l02Take_no g T s st _ _ _ hRr (by omega) hat (letter_byte2 (by omega)) hs0).mono ?_
        rintro e w4 ⟨rfl, hR6, hO6⟩
        go_wp2_with fail
        go_roundg (6 - (i + 1))
        case measure => omega
        case rel => exact ⟨i + 1, rfl, by omega, by go_num, hR6, hOr.trans hO6⟩
  | none =>
    have HN := Lib.hid (fun i hi => @Fm.letter_none s.data.toList st hl i hi)
    have HL := Lib.hid hl
    clear hl
    obtain ⟨R, hR0⟩ : ∃ R, R = Fm.preF s.data.toList m (f + 1) st := ⟨_, rfl⟩
    rw [← hR0]
    have HE := Lib.hid hR0
    clear hR0
    go_enter Tryz.func214, Tryz.ntmps214
    go_wp2_with fail
    go_loopg [4] 7 (fun n x wr => ∃ i : Nat, n = 7 - i ∧ i ≤ 6 ∧ x = .int .i64 i ∧ Rdr wr g T s st ∧ Only g w wr)
    case atStart => exact ⟨0, rfl, Nat.zero_le _, rfl, hR, Only.refl _ _⟩
    case round =>
      obtain ⟨i, rfl, hiv, rfl, hRr, hOr⟩ := hrel
      clear hR
      by_cases hi6 : i < 6
      · have hix := fun w => index_letter w i hi6
        have hs0 := HN.out i hi6
        go_wp2_with fail
        refine (l02Take_no g T s st _ _ _ hRr (by omega) hat (letter_byte2 hi6) hs0).mono ?_
        rintro e w4 ⟨rfl, hR6, hO6⟩
        go_wp2_with fail
        go_roundg (7 - (i + 1))
        case measure => omega
        case rel => exact ⟨i + 1, rfl, by omega, by go_num, hR6, hOr.trans hO6⟩
      · have hi66 : i = 6 := by omega
        subst hi66
        clear HN hi6 hiv
        go_wp2_with fail
        by_cases h70 : Fm.sees s.data.toList st 70 = true
        · have hE := HE.out
          rw [Fm.preF_fls h70] at hE
          subst hE
          refine (l02Take_yes g T s st 70 _ _ hRr (by omega) hat rfl h70).mono ?_
          rintro e w101 ⟨rfl, hR101, hO101⟩
          go_wp2_with fail
          refine (l02False_c _).mono ?_
          rintro e wz ⟨vz, rfl, hoz, hgz⟩
          go_wp2_with fail
          go_ret
          exact ⟨_, rfl, hoz.base ((hOr).trans hO101).size, hR101.grew hgz, ((hOr).trans hO101).grew hgz⟩
        have h70' : Fm.sees s.data.toList st 70 = false := by simpa using h70
        clear h70
        refine (l02Take_no g T s st 70 _ _ hRr (by omega) hat rfl h70').mono ?_
        rintro e w1 ⟨rfl, hR1, hO1⟩
        go_wp2_with fail
        by_cases h84 : Fm.sees s.data.toList st 84 = true
        · have hE := HE.out
          rw [Fm.preF_tru h84] at hE
          subst hE
          refine (l02Take_yes g T s st 84 _ _ hR1 (by omega) hat rfl h84).mono ?_
          rintro e w102 ⟨rfl, hR102, hO102⟩
          go_wp2_with fail
          refine (l02True_c _).mono ?_
          rintro e wz ⟨vz, rfl, hoz, hgz⟩
          go_wp2_with fail
          go_ret
          exact ⟨_, rfl, hoz.base (((hOr).trans hO1).trans hO102).size, hR102.grew hgz, (((hOr).trans hO1).trans hO102).grew hgz⟩
        have h84' : Fm.sees s.data.toList st 84 = false := by simpa using h84
        clear h84
        refine (l02Take_no g T s st 84 _ _ hR1 (by omega) hat rfl h84').mono ?_
        rintro e w2 ⟨rfl, hR2, hO2⟩
        go_wp2_with fail
        by_cases h126 : Fm.sees s.data.toList st 126 = true
        · have hE := HE.out
          rw [Fm.preF_not h126] at hE
          subst hE
          have hlt := Fm.sees_lt h126
          rw [HZ.out] at hlt
          have e1 : (Fm.step st).1 = st.1 + 1 := rfl
          have hk : Fm.Ok s.data.toList (Fm.step st) (Fm.preF s.data.toList m f (Fm.step st)) := Fm.preF_ok f (Fm.step st) (by rw [HZ.out]; exact hlt)
          obtain ⟨k1, k2, k3⟩ := hk
          rw [HZ.out] at k2
          rw [e1] at k1 k3
          have hq := HP.out g (Fm.step st)
          rw [e1] at hq
          have HQ := Lib.hid hq
          clear hq e1 HI HP
          generalize Fm.preF s.data.toList m f (Fm.step st) = r at *
          refine (l02Take_yes g T s st 126 _ _ hR2 (by omega) hat rfl h126).mono ?_
          rintro e w103 ⟨rfl, hR103, hO103⟩
          go_wp2_with fail
          refine (HQ.out _ hR103 (by omega) (by omega)).mono ?_
          rintro e wx ⟨vx, rfl, hox, hRx, hOx⟩
          go_wp2_with fail
          refine (l02Not_c _ r.1 _ hox.nodes (by omega)).mono ?_
          rintro e wz ⟨vz, rfl, hoz, hgz⟩
          go_wp2_with fail
          go_ret
          exact ⟨_, rfl, hoz.base (((((hOr).trans hO1).trans hO2).trans hO103).trans hOx).size, hRx.grew hgz, (((((hOr).trans hO1).trans hO2).trans hO103).trans hOx).grew hgz⟩
        have h126' : Fm.sees s.data.toList st 126 = false := by simpa using h126
        clear h126
        refine (l02Take_no g T s st 126 _ _ hR2 (by omega) hat rfl h126').mono ?_
        rintro e w3 ⟨rfl, hR3, hO3⟩
        go_wp2_with fail
        by_cases h91 : Fm.sees s.data.toList st 91 = true
        · have hE := HE.out
          rw [Fm.preF_box h91] at hE
          subst hE
          have hlt := Fm.sees_lt h91
          rw [HZ.out] at hlt
          have e1 : (Fm.step st).1 = st.1 + 1 := rfl
          have hn := Fm.need_pos (s := s.data.toList) (st := Fm.step st) (c := 93) (by rw [HZ.out, e1]; exact hlt)
          rw [HZ.out, e1] at hn
          obtain ⟨n1, n2⟩ := hn
          have hk : Fm.Ok s.data.toList (Fm.need s.data.toList (Fm.step st) 93) (Fm.preF s.data.toList m f (Fm.need s.data.toList (Fm.step st) 93)) := Fm.preF_ok f _ (by rw [HZ.out]; exact n2)
          obtain ⟨k1, k2, k3⟩ := hk
          rw [HZ.out] at k2
          have HQ := Lib.hid (HP.out g (Fm.need s.data.toList (Fm.step st) 93))
          have hat1 : (Fm.step st).1 ≤ s.size := by rw [e1]; omega
          clear e1 HI HP
          refine (l02Take_yes g T s st 91 _ _ hR3 (by omega) hat rfl h91).mono ?_
          rintro e w104 ⟨rfl, hR104, hO104⟩
          go_wp2_with fail
          refine (l02Need_c g T s (Fm.step st) 93 _ _ hR104 (by omega) hat1 rfl).mono ?_
          rintro e wy ⟨rfl, hRy, hOy⟩
          generalize Fm.need s.data.toList (Fm.step st) 93 = st2 at *
          generalize Fm.preF s.data.toList m f st2 = r at *
          go_wp2_with fail
          refine (HQ.out _ hRy (by omega) (by omega)).mono ?_
          rintro e wx ⟨vx, rfl, hox, hRx, hOx⟩
          go_wp2_with fail
          refine (l02Pre_c 5 _ r.1 _ hox.nodes (by omega)).mono ?_
          rintro e wz ⟨vz, rfl, hoz, hgz⟩
          go_wp2_with fail
          go_ret
          exact ⟨_, rfl, hoz.base (((((((hOr).trans hO1).trans hO2).trans hO3).trans hO104).trans hOy).trans hOx).size, hRx.grew hgz, (((((((hOr).trans hO1).trans hO2).trans hO3).trans hO104).trans hOy).trans hOx).grew hgz⟩
        have h91' : Fm.sees s.data.toList st 91 = false := by simpa using h91
        clear h91
        refine (l02Take_no g T s st 91 _ _ hR3 (by omega) hat rfl h91').mono ?_
        rintro e w4 ⟨rfl, hR4, hO4⟩
        go_wp2_with fail
        by_cases h60 : Fm.sees s.data.toList st 60 = true
        · have hE := HE.out
          rw [Fm.preF_dia h60] at hE
          subst hE
          have hlt := Fm.sees_lt h60
          rw [HZ.out] at hlt
          have e1 : (Fm.step st).1 = st.1 + 1 := rfl
          have hn := Fm.need_pos (s := s.data.toList) (st := Fm.step st) (c := 62) (by rw [HZ.out, e1]; exact hlt)
          rw [HZ.out, e1] at hn
          obtain ⟨n1, n2⟩ := hn
          have hk : Fm.Ok s.data.toList (Fm.need s.data.toList (Fm.step st) 62) (Fm.preF s.data.toList m f (Fm.need s.data.toList (Fm.step st) 62)) := Fm.preF_ok f _ (by rw [HZ.out]; exact n2)
          obtain ⟨k1, k2, k3⟩ := hk
          rw [HZ.out] at k2
          have HQ := Lib.hid (HP.out g (Fm.need s.data.toList (Fm.step st) 62))
          have hat1 : (Fm.step st).1 ≤ s.size := by rw [e1]; omega
          clear e1 HI HP
          refine (l02Take_yes g T s st 60 _ _ hR4 (by omega) hat rfl h60).mono ?_
          rintro e w105 ⟨rfl, hR105, hO105⟩
          go_wp2_with fail
          refine (l02Need_c g T s (Fm.step st) 62 _ _ hR105 (by omega) hat1 rfl).mono ?_
          rintro e wy ⟨rfl, hRy, hOy⟩
          generalize Fm.need s.data.toList (Fm.step st) 62 = st2 at *
          generalize Fm.preF s.data.toList m f st2 = r at *
          go_wp2_with fail
          refine (HQ.out _ hRy (by omega) (by omega)).mono ?_
          rintro e wx ⟨vx, rfl, hox, hRx, hOx⟩
          go_wp2_with fail
          refine (l02Pre_c 6 _ r.1 _ hox.nodes (by omega)).mono ?_
          rintro e wz ⟨vz, rfl, hoz, hgz⟩
          go_wp2_with fail
          go_ret
          exact ⟨_, rfl, hoz.base ((((((((hOr).trans hO1).trans hO2).trans hO3).trans hO4).trans hO105).trans hOy).trans hOx).size, hRx.grew hgz, ((((((((hOr).trans hO1).trans hO2).trans hO3).trans hO4).trans hO105).trans hOy).trans hOx).grew hgz⟩
        have h60' : Fm.sees s.data.toList st 60 = false := by simpa using h60
        clear h60
        refine (l02Take_no g T s st 60 _ _ hR4 (by omega) hat rfl h60').mono ?_
        rintro e w5 ⟨rfl, hR5, hO5⟩
        go_wp2_with fail
        by_cases h40 : Fm.sees s.data.toList st 40 = true
        · have hE := HE.out
          rw [Fm.preF_par h40] at hE
          subst hE
          have hlt := Fm.sees_lt h40
          rw [HZ.out] at hlt
          have hk : Fm.Ok s.data.toList (Fm.step st) (Fm.impF s.data.toList m (Fm.preF s.data.toList m f) m (Fm.step st)) := Fm.impF_ok (fun st h => Fm.preF_ok f st h) m (Fm.step st) (by rw [HZ.out]; exact hlt)
          have e1 : (Fm.step st).1 = st.1 + 1 := rfl
          obtain ⟨k1, k2, k3⟩ := hk
          rw [HZ.out] at k2
          rw [e1] at k1 k3
          have hq := HI.out g (Fm.step st)
          rw [e1] at hq
          have HQ := Lib.hid hq
          clear hq e1 HI HP
          generalize Fm.impF s.data.toList m (Fm.preF s.data.toList m f) m (Fm.step st) = r at *
          refine (l02Take_yes g T s st 40 _ _ hR5 (by omega) hat rfl h40).mono ?_
          rintro e w106 ⟨rfl, hR106, hO106⟩
          go_wp2_with fail
          refine (HQ.out _ hR106 (by omega) (by omega)).mono ?_
          rintro e wx ⟨vx, rfl, hox, hRx, hOx⟩
          have hne := own_rdr_ne hox hRx hT
          go_wp2_with fail
          refine (l02Need_c g T s r.2 41 _ _ hRx (by omega) (by omega) rfl).mono ?_
          rintro e wz ⟨rfl, hRz, hOz⟩
          go_wp2_with fail
          go_ret
          exact ⟨_, rfl, (hox.only hOz hne).base (((((((hOr).trans hO1).trans hO2).trans hO3).trans hO4).trans hO5).trans hO106).size, hRz, ((((((((hOr).trans hO1).trans hO2).trans hO3).trans hO4).trans hO5).trans hO106).trans hOx).trans hOz⟩
        have h40' : Fm.sees s.data.toList st 40 = false := by simpa using h40
        clear h40
        refine (l02Take_no g T s st 40 _ _ hR5 (by omega) hat rfl h40').mono ?_
        rintro e w6 ⟨rfl, hR6, hO6⟩
        have hE := HE.out
        have h126x := Fm.preF_bad (m := m) (f := f) h126' h91' h60' h70' h84' h40' HL.out
        rw [h126x] at hE
        subst hE
        clear h126x HL
        have c2 := hR6.bad
        have hf := hR6.free 2
        have HH := Lib.hid hR6
        clear hRr hR1 hR2 hR3 hR4 hR5 hR6
        go_wp2_with fail
        refine (l02False_c _).mono ?_
        rintro e wz ⟨vz, rfl, hoz, hgz⟩
        go_wp2_with fail
        go_ret
        exact ⟨_, rfl, hoz.base ((((((((hOr).trans hO1).trans hO2).trans hO3).trans hO4).trans hO5).trans hO6).setCell _).size, HH.out.spoil.grew hgz, ((((((((hOr).trans hO1).trans hO2).trans hO3).trans hO4).trans hO5).trans hO6).setCell _).grew hgz⟩

theorem l02Prefix_sub (T : TypeId) (hT : 59 ≠ T) (s : ByteArray) (m : Nat) (hs : s.size ≤ 1048576) (hm : s.size < m) : ∀ f, f ≤ m → Sub 214 T s f (Fm.preF s.data.toList m f) := by
  intro f
  induction f with
  | zero => intro _ g st w _ _ h; omega
  | succ f ih =>
    intro hfm g st w hR hat hfu
    have hp := ih (by omega)
    have hok : ∀ st : Fm.St, st.1 ≤ s.data.toList.length → Fm.Ok s.data.toList st (Fm.preF s.data.toList m f st) := fun st h => Fm.preF_ok f st h
    have hand := l02And_c T hT s f m _ hs hm hok hp
    have hor := l02Or_c T hT s f m _ hs hm (fun st h => Fm.andF_ok (m := m) hok st h) hand
    have himp := l02Imply_c T hT s f m _ hs hok hor m
    exact l02Prefix_step T hT s f m hs (fun g st w h1 h2 h3 => himp g st w h1 h2 (by omega) h3) hp g st w hR hat hfu

/-- The reference's reader at a text's beginning. -/
theorem l02Imply_top (T : TypeId) (hT : 59 ≠ T) (s : ByteArray) (m : Nat) (hs : s.size ≤ 1048576) (hm : s.size < m) (g : Nat) (w : World) (hR : Rdr w g T s (0, false)) :
    Calls Tryz.prog 151 #[.pointer (some ⟨g, 0, none⟩)] w (Reads w g T s (Fm.parse s.data.toList m)) := by
  have hok : ∀ st : Fm.St, st.1 ≤ s.data.toList.length → Fm.Ok s.data.toList st (Fm.preF s.data.toList m m st) := fun st h => Fm.preF_ok m st h
  have hand := l02And_c T hT s m m _ hs hm hok (l02Prefix_sub T hT s m hs hm m (Nat.le_refl _))
  have hor := l02Or_c T hT s m m _ hs hm (fun st h => Fm.andF_ok (m := m) hok st h) hand
  exact l02Imply_c T hT s m m _ hs hok hor m g (0, false) w hR (by simp) (by simpa using hm) (by simpa using hm)
end Go.Proofs.YtpfncncohnhanaaGreatDoor

/- The readers of whole texts: ParseFormula of the reference. -/
namespace Go.Proofs.YtpfncncohnhanaaGreatDoor
open Go.RowKit
open Fm (Nd)

theorem l02Read_c (s : ByteArray) (w : World) (hs : s.size ≤ 1048576) :
    Calls Tryz.prog 100 #[.string s] w (Gives2 w (Fm.rd s).1 (Fm.rd s).2) := by
  obtain ⟨hr1, hr2⟩ := Fm.read_ok s
  have hxs : Hid ((Fm.read s).1 ≠ []) := Fm.read_ne s
  have HT := Lib.hid (fun g w hR => l02Imply_top 153 (by decide) s Fm.fuel (by omega) (by unfold Fm.fuel; omega) g w hR)
  have hpf : Hid (Fm.rd s = if Fm.whole s = false then ([], ((Fm.read s).2.1 : Int)) else ((Fm.read s).1, -1)) := rfl
  have hwh : Hid (Fm.whole s = (!(Fm.read s).2.2 && decide (s.size ≤ (Fm.read s).2.1))) := rfl
  generalize Fm.rd s = P at *
  generalize Fm.whole s = W at *
  have hrd : Fm.parse s.data.toList Fm.fuel = Fm.read s := rfl
  rw [hrd] at HT
  clear hrd
  generalize Fm.read s = r at *
  obtain ⟨xs, p, b⟩ := r
  simp only at hr1 hr2 hpf hwh
  clear hxs
  have HR0 := Lib.hid (Rdr.new w 153 s)
  by_cases hb : b = true
  · subst hb
    have hP : P = ([], (p : Int)) := by rw [hpf.out, hwh.out]; simp
    subst hP
    clear hpf hwh
    go_enter Tryz.func100, Tryz.ntmps100
    go_wp2_with fail
    refine (HT.out _ _ HR0.out).mono ?_
    rintro e w1 ⟨v1, rfl, ho1, hR1, hO1⟩
    have c1 := hR1.at_
    have c2 := hR1.bad
    have hG := hO1.grew_of ((Grew.refl w).alloc _) (Nat.le_refl _)
    clear hR1 hO1
    go_wp2_with fail
    go_quiet (fail)
    go_wp2_with fail
    go_ret2
    exact ⟨_, rfl, Own.nil_ _ _, hG.drewN _⟩
  have hb' : b = false := by simpa using hb
  subst hb'
  clear hb
  by_cases hlt : p < s.size
  · have hP : P = ([], (p : Int)) := by
      rw [hpf.out, hwh.out]
      simp [hlt]
    subst hP
    clear hpf hwh
    go_enter Tryz.func100, Tryz.ntmps100
    go_wp2_with fail
    refine (HT.out _ _ HR0.out).mono ?_
    rintro e w1 ⟨v1, rfl, ho1, hR1, hO1⟩
    have c1 := hR1.at_
    have c2 := hR1.bad
    have hG := hO1.grew_of ((Grew.refl w).alloc _) (Nat.le_refl _)
    clear hR1 hO1
    go_wp2_with fail
    go_quiet (fail)
    go_wp2_with fail
    go_ret2
    exact ⟨_, rfl, Own.nil_ _ _, hG.drewN _⟩
  · have hP : P = (xs, -1) := by
      rw [hpf.out, hwh.out]
      simp [Nat.le_of_not_lt hlt]
    subst hP
    clear hpf hwh
    go_enter Tryz.func100, Tryz.ntmps100
    go_wp2_with fail
    refine (HT.out _ _ HR0.out).mono ?_
    rintro e w1 ⟨v1, rfl, ho1, hR1, hO1⟩
    have c1 := hR1.at_
    have c2 := hR1.bad
    have hG := hO1.grew_of ((Grew.refl w).alloc _) (Nat.le_refl _)
    obtain ⟨A, ca, rfl⟩ := nodes_slice ho1.nodes
    clear hR1 hO1
    go_wp2_with fail
    go_ret2
    exact ⟨_, rfl, ho1.base (by simp), hG⟩

end Go.Proofs.YtpfncncohnhanaaGreatDoor

/- AxiomFormula, of the program and of the reference. -/
namespace Go.Proofs.YtpfncncohnhanaaGreatDoor
open Go.RowKit

def axNames : List ByteArray := [⟨#[52]⟩, ⟨#[53]⟩, ⟨#[66]⟩, ⟨#[67]⟩, ⟨#[68]⟩, ⟨#[70]⟩, ⟨#[71]⟩, ⟨#[72]⟩, ⟨#[76]⟩, ⟨#[84]⟩, ⟨#[86]⟩, ⟨#[88]⟩, ⟨#[90]⟩]
def axTexts : List ByteArray := [⟨#[91, 93, 112, 62, 91, 93, 91, 93, 112]⟩, ⟨#[60, 62, 112, 62, 91, 93, 60, 62, 112]⟩, ⟨#[112, 62, 91, 93, 60, 62, 112]⟩, ⟨#[91, 93, 91, 93, 112, 62, 91, 93, 112]⟩, ⟨#[91, 93, 112, 62, 60, 62, 112]⟩, ⟨#[60, 62, 112, 62, 91, 93, 112]⟩, ⟨#[60, 62, 91, 93, 112, 62, 91, 93, 60, 62, 112]⟩, ⟨#[91, 93, 40, 91, 93, 112, 62, 113, 41, 124, 91, 93, 40, 91, 93, 113, 62, 112, 41]⟩, ⟨#[91, 93, 40, 91, 93, 112, 62, 112, 41, 62, 91, 93, 112]⟩, ⟨#[91, 93, 112, 62, 112]⟩, ⟨#[91, 93, 70]⟩, ⟨#[112, 62, 91, 93, 112]⟩, ⟨#[91, 93, 40, 91, 93, 40, 112, 62, 91, 93, 112, 41, 62, 112, 41, 62, 112]⟩]
theorem axNames_len : axNames.length = 13 := rfl
theorem axTexts_len : axTexts.length = 13 := rfl
theorem axTexts_small {i : Nat} (h : i < 13) : (st axTexts i).size ≤ 200 := by
  have : ∀ j : Fin 13, (st axTexts j.val).size ≤ 200 := by decide
  exact this ⟨i, h⟩

theorem l09Names_c (w : World) : Calls Tryz.prog 50 #[] w (GivesS w axNames) := by
  have h := OwnS.lit w w.heap.size axNames #[.string ⟨#[52]⟩, .string ⟨#[53]⟩, .string ⟨#[66]⟩, .string ⟨#[67]⟩, .string ⟨#[68]⟩, .string ⟨#[70]⟩, .string ⟨#[71]⟩, .string ⟨#[72]⟩, .string ⟨#[76]⟩, .string ⟨#[84]⟩, .string ⟨#[86]⟩, .string ⟨#[88]⟩, .string ⟨#[90]⟩] (Nat.le_refl _) (by rw [axNames_len]; omega) rfl
  rw [axNames_len] at h
  go_enter Tryz.func50, Tryz.ntmps50
  go_wp2_with fail
  go_ret
  exact ⟨_, rfl, h, (Grew.refl w).alloc _⟩
theorem l09Texts_c (w : World) : Calls Tryz.prog 101 #[] w (GivesS w axTexts) := by
  have h := OwnS.lit w w.heap.size axTexts #[.string ⟨#[91, 93, 112, 62, 91, 93, 91, 93, 112]⟩, .string ⟨#[60, 62, 112, 62, 91, 93, 60, 62, 112]⟩, .string ⟨#[112, 62, 91, 93, 60, 62, 112]⟩, .string ⟨#[91, 93, 91, 93, 112, 62, 91, 93, 112]⟩, .string ⟨#[91, 93, 112, 62, 60, 62, 112]⟩, .string ⟨#[60, 62, 112, 62, 91, 93, 112]⟩, .string ⟨#[60, 62, 91, 93, 112, 62, 91, 93, 60, 62, 112]⟩, .string ⟨#[91, 93, 40, 91, 93, 112, 62, 113, 41, 124, 91, 93, 40, 91, 93, 113, 62, 112, 41]⟩, .string ⟨#[91, 93, 40, 91, 93, 112, 62, 112, 41, 62, 91, 93, 112]⟩, .string ⟨#[91, 93, 112, 62, 112]⟩, .string ⟨#[91, 93, 70]⟩, .string ⟨#[112, 62, 91, 93, 112]⟩, .string ⟨#[91, 93, 40, 91, 93, 40, 112, 62, 91, 93, 112, 41, 62, 112, 41, 62, 112]⟩] (Nat.le_refl _) (by rw [axTexts_len]; omega) rfl
  rw [axTexts_len] at h
  go_enter Tryz.func101, Tryz.ntmps101
  go_wp2_with fail
  go_ret
  exact ⟨_, rfl, h, (Grew.refl w).alloc _⟩

set_option maxRecDepth 100000 in
theorem index_names (i : Nat) (hi : i < 13) (w : World) : (Instr.index 76 (.agg (scells axNames).toArray) (.int .i64 i)).run Tryz.prog w = .ok (.string (st axNames i)) w := by
  have h : ∀ j : Fin 13, (Instr.index 76 (.agg (scells axNames).toArray) (.int .i64 j.val)).run Tryz.prog w = .ok (.string (st axNames j.val)) w := by
    intro j
    match j with
    | 0 => rfl
    | 1 => rfl
    | 2 => rfl
    | 3 => rfl
    | 4 => rfl
    | 5 => rfl
    | 6 => rfl
    | 7 => rfl
    | 8 => rfl
    | 9 => rfl
    | 10 => rfl
    | 11 => rfl
    | 12 => rfl
  exact h ⟨i, hi⟩

/-- The axioms as trees. -/
def axTrees : List Fm.Tree := [(.imp (.box (.var 0)) (.box (.box (.var 0)))), (.imp (.dia (.var 0)) (.box (.dia (.var 0)))), (.imp (.var 0) (.box (.dia (.var 0)))), (.imp (.box (.box (.var 0))) (.box (.var 0))), (.imp (.box (.var 0)) (.dia (.var 0))), (.imp (.dia (.var 0)) (.box (.var 0))), (.imp (.dia (.box (.var 0))) (.box (.dia (.var 0)))), (.or (.box (.imp (.box (.var 0)) (.var 1))) (.box (.imp (.box (.var 1)) (.var 0)))), (.imp (.box (.imp (.box (.var 0)) (.var 0))) (.box (.var 0))), (.imp (.box (.var 0)) (.var 0)), (.box .fls), (.imp (.var 0) (.box (.var 0))), (.imp (.box (.imp (.box (.imp (.var 0) (.box (.var 0)))) (.var 0))) (.var 0))]
def axTree (i : Nat) : Fm.Tree := axTrees.getD i .fls
theorem axTree_text {i : Nat} (h : i < 13) : st axTexts i = bs (Fm.txt (axTree i) 0) := by
  have : ∀ j : Fin 13, st axTexts j.val = bs (Fm.txt (axTree j.val) 0) := by decide
  exact this ⟨i, h⟩
theorem axTree_len {i : Nat} (h : i < 13) : (Fm.enc (axTree i)).length ≤ 40 ∧ (Fm.txt (axTree i) 0).length ≤ 200 := by
  have : ∀ j : Fin 13, (Fm.enc (axTree j.val)).length ≤ 40 ∧ (Fm.txt (axTree j.val) 0).length ≤ 200 := by decide
  exact this ⟨i, h⟩
theorem ax_pf {i : Nat} (h : i < 13) : Fm.pf (st axTexts i) = (Fm.enc (axTree i), 0, 0) := by
  rw [axTree_text h, Fm.pf_txt _ (axTree_len h).2 (axTree_len h).1]
theorem ax_rd {i : Nat} (h : i < 13) : Fm.rd (st axTexts i) = (Fm.enc (axTree i), -1) := by
  rw [axTree_text h, Fm.rd_txt _ (by have := (axTree_len h).2; unfold Fm.fuel; omega)]

/-- What AxiomFormula gives. -/
def axF (s : ByteArray) : List Fm.Nd × Int := if findS axNames s < 0 then ([], 4) else (Fm.enc (axTree (findS axNames s).toNat), 0)

theorem l09Formula_c (s : ByteArray) (k : Nat) (w : World) (hk : k < 13) (hf : findS axNames s = (k : Int)) :
    Calls Tryz.prog 57 #[.string s] w (Gives w (Fm.enc (axTree k))) := by
  have hF := fun v w h => l09Find_c v axNames s w h (by rw [axNames_len]; omega)
  rw [hf] at hF
  have HF := Lib.hid hF
  have hR := fun w => l02Read_c (st axTexts k) w (by have := axTexts_small hk; omega)
  rw [ax_rd hk] at hR
  have HR := Lib.hid hR
  have hlen := axTexts_len
  clear hF hR hf
  go_enter Tryz.func57, Tryz.ntmps57
  go_wp2_with fail
  refine (l09Texts_c _).mono ?_
  rintro e w1 ⟨v1, rfl, ho1, hg1⟩
  rcases ho1.strs.open_ with ⟨rfl, h0⟩ | ⟨b, o, c, rfl, hc, hm, hb, hcell⟩
  · cases h0
  rw [hlen] at hc hcell ⊢
  have k1 := fun W hW => hcell k hk W hW
  have HO := Lib.hid ho1
  clear hcell ho1 hlen
  go_wp2_with fail
  refine (l09Names_c _).mono ?_
  rintro e w2 ⟨v2, rfl, ho2, hg2⟩
  go_wp2_with fail
  refine (HF.out _ _ ho2.strs).mono ?_
  rintro e w3 ⟨rfl, hg3⟩
  have hg13 := hg2.trans hg3
  clear ho2
  generalize st axTexts k = tx at *
  go_wp2_with fail
  refine (HR.out _).mono ?_
  rintro e w4 ⟨v4, rfl, ho4, hg4⟩
  go_wp2_with fail
  go_ret
  exact ⟨_, rfl, ho4.base (hg1.trans hg13).size, (hg1.trans hg13).trans hg4⟩
end Go.Proofs.YtpfncncohnhanaaGreatDoor

/- The source made: l01From; the damage: l01Damage. -/
namespace Go.Proofs.YtpfncncohnhanaaGreatDoor
open Go.RowKit

/-- The bytes that came in. -/
def ArgB (w : World) (v : Value) (N : Nat) : Prop :=
  (∃ A c, v = .slice A N c) ∧ N ≤ 9223372036854775807 ∧ (0 < N → ∃ b o c, v = .slice (some ⟨b, o, none⟩) N c ∧ b < w.heap.size ∧ N ≤ c ∧ c ≤ 9223372036854775807 ∧ ∀ j, j < N → ∃ x : Int, 0 ≤ x ∧ x ≤ 255 ∧ w.cell? ⟨b, o + j, none⟩ = some (.int .u8 x))
theorem ArgB.code {w w' : World} {v : Value} {N g : Nat} (h : ArgB w v N) (hN : N ≤ 4096) (hg : Grew w w') (hl : w.heap.size ≤ g) : Code w' g v N := by
  obtain ⟨h1, _, h2⟩ := h
  refine ⟨hN, h1, fun hp => ?_⟩
  obtain ⟨b, o, c, e, hb, hc, hm, hx⟩ := h2 hp
  refine ⟨b, o, c, e, by omega, hc, hm, fun j hj => ?_⟩
  obtain ⟨x, x0, x1, hcell⟩ := hx j hj
  exact ⟨x, x0, x1, (hg.cell (p := ⟨b, o + j, none⟩) hb).trans hcell⟩

theorem l01From_c (v : Value) (N : Nat) (w : World) (h : ArgB w v N) (hN : N ≤ 4096) :
    Calls Tryz.prog 43 #[v] w fun e w' => ∃ g, e = .returned (.pointer (some ⟨g, 0, none⟩)) ∧ w.heap.size ≤ g ∧ Src w' g v N ∧ Grew w w' := by
  have HC := Lib.hid (fun w' (hg : Grew w w') => h.code hN hg (Nat.le_refl w.heap.size))
  obtain ⟨⟨A, c, rfl⟩, hmax, h2⟩ := h
  have H2 := Lib.hid h2
  clear h2
  go_enter Tryz.func43, Tryz.ntmps43
  go_wp2_with fail
  have hnew := fun o => blk_new w o
  go_loopw [4] (fun i wr => ∃ (j : Nat) (x : Int), j ≤ N ∧ i = .int .i64 j ∧ 0 ≤ x ∧ x ≤ 18446744073709551615 ∧ wr.heap[w.heap.size]? = some (.cells #[.slice A N c, .int .i64 0, .int .u64 x] 103 (0, 0)) ∧ Grew w wr) (fun i _ => N - (intOf i).toNat)
  case atStart => exact ⟨0, _, Nat.zero_le _, rfl, by omega, by omega, hnew _, (Grew.refl w).alloc _⟩
  case round =>
    obtain ⟨j, x, hj, rfl, hx0, hx1, hb, hB⟩ := hrel
    by_cases hlt : j < N
    · obtain ⟨b, o, c', e, hbg, hc, hm, hx⟩ := H2.out (by omega)
      obtain ⟨y, hy0, hy1, k1⟩ := hx j hlt
      obtain ⟨rfl, rfl⟩ : A = some ⟨b, o, none⟩ ∧ c = c' := by simpa using e
      have k2 := (hB.cell (p := ⟨b, o + j, none⟩) hbg).trans k1
      have c2 : wr.cell? ⟨w.heap.size, 2, none⟩ = some (.int .u64 x) := by rw [blk_cell hb]; rfl
      have f2 := blk_frozen hb 2
      have HB := Lib.hid hb
      have h4 : (j : Int) < 4096 := by omega
      clear hb e hx k1
      go_wp2_with fail
      have hw0 : ∀ z : Int, 0 ≤ IntKind.u64.wrap z := fun z => by rw [IntKind.wrap_u64]; omega
      have hw1 : ∀ z : Int, IntKind.u64.wrap z ≤ 18446744073709551615 := fun z => by rw [IntKind.wrap_u64]; omega
      have HW0 := Lib.hid hw0
      have HW1 := Lib.hid hw1
      clear hw0 hw1
      go_region
      go_wp2_with fail
      go_roundw
      case rel => exact ⟨j + 1, _, by omega, by go_num, HW0.out _, HW1.out _, blk_set (w := wr.drewN _) HB.out 2 _, (hB.drewN _).setCell (Nat.le_refl _) _⟩
      case measure => simp [intOf]; omega
    · go_wp2_with fail
      go_ret
      exact ⟨_, rfl, Nat.le_refl _, ⟨HC.out _ hB, 0, x, Nat.zero_le _, hx0, hx1, hb⟩, hB⟩
end Go.Proofs.YtpfncncohnhanaaGreatDoor

/- The bytes that came in: as before in a later world; are they many? -/
namespace Go.Proofs.YtpfncncohnhanaaGreatDoor
open Go.RowKit

theorem ArgB.grew {w W : World} {v : Value} {N : Nat} (h : ArgB w v N) (hW : Grew w W) : ArgB W v N := by
  obtain ⟨h1, h2, h3⟩ := h
  refine ⟨h1, h2, fun hp => ?_⟩
  obtain ⟨b, o, c, e, hb, hc, hm, hx⟩ := h3 hp
  refine ⟨b, o, c, e, Nat.lt_of_lt_of_le hb hW.size, hc, hm, fun j hj => ?_⟩
  obtain ⟨x, x0, x1, hcell⟩ := hx j hj
  exact ⟨x, x0, x1, (hW.cell (p := ⟨b, o + j, none⟩) hb).trans hcell⟩
theorem big_c (v : Value) (N : Nat) (w : World) (h : ∃ A c, v = .slice A N c) :
    Calls Tryz.prog 15 #[v] w fun e w' => e = .returned (.bool (decide (4096 < N))) ∧ Grew w w' := by
  obtain ⟨A, c, rfl⟩ := h
  by_cases hb : 4096 < N
  · rw [decide_eq_true hb]
    go_enter Tryz.func15, Tryz.ntmps15
    go_wp2_with fail
    go_ret
    exact ⟨by simp; omega, Grew.refl _⟩
  · rw [decide_eq_false hb]
    go_enter Tryz.func15, Tryz.ntmps15
    go_wp2_with fail
    go_ret
    exact ⟨by simp; omega, Grew.refl _⟩
end Go.Proofs.YtpfncncohnhanaaGreatDoor

/- The draw of a frame and an axiom's name: l09Axiom, DrawAxiomHolds of the reference. -/
namespace Go.Proofs.YtpfncncohnhanaaGreatDoor
open Go.RowKit

theorem l09Axiom_c (g : Nat) (cv : Value) (N : Nat) (w : World) (h : Src w g cv N) :
    Calls Tryz.prog 45 #[.pointer (some ⟨g, 0, none⟩)] w fun e w' => ∃ s : ByteArray, e = .returned (.string s) ∧ Src w' g cv N ∧ Only g w w' := by
  have hgl := h.lt
  have HS := Lib.hid h
  clear h
  go_enter Tryz.func45, Tryz.ntmps45
  go_wp2_with fail
  refine (l01Next_c g cv N 30 _ HS.out (by omega)).mono ?_
  rintro e w1 ⟨r, rfl, _, _, _, hS1, ho1⟩
  have HS1 := Lib.hid hS1
  have hs1 := ho1.size
  clear hS1
  cases b0 : (r == 0) with
  | true =>
    have hga := (Grew.refl w1).alloc (.cells #[.string ⟨#[]⟩, .string ⟨#[75]⟩, .string ⟨#[97]⟩, .string ⟨#[52, 52]⟩] 9)
    have HC := Lib.hid (show ∀ k : Nat, k < 4 → ∃ s : ByteArray, (w1.alloc (.cells #[.string ⟨#[]⟩, .string ⟨#[75]⟩, .string ⟨#[97]⟩, .string ⟨#[52, 52]⟩] 9)).cell? ⟨w1.heap.size, k, none⟩ = some (.string s) from fun k hk => by
      match k, hk with
      | 0, _ => exact ⟨_, by simp; rfl⟩
      | 1, _ => exact ⟨_, by simp; rfl⟩
      | 2, _ => exact ⟨_, by simp; rfl⟩
      | 3, _ => exact ⟨_, by simp; rfl⟩)
    have HX := Lib.hid (show w1.heap.size < (w1.alloc (.cells #[.string ⟨#[]⟩, .string ⟨#[75]⟩, .string ⟨#[97]⟩, .string ⟨#[52, 52]⟩] 9)).heap.size from by simp)
    have HN := Lib.hid (l01Next_c g cv N 4 _ (HS1.out.grew hga) (by omega))
    have hUa := ho1.grew hga
    clear hga
    go_wp2_with fail
    refine HN.out.mono ?_
    rintro e w2 ⟨q, rfl, hq0, hq1, _, hS2, ho2⟩
    have hq2 := hq1 (by omega)
    obtain ⟨k, rfl⟩ : ∃ n : Nat, q = n := ⟨q.toNat, by omega⟩
    obtain ⟨s, hs⟩ := HC.out k (by omega)
    have hcx := (ho2.cell (p := ⟨w1.heap.size, k, none⟩) HX.out (by show w1.heap.size ≠ g; omega)).trans hs
    have HS2 := Lib.hid hS2
    clear hs hS2 hq1 HN
    go_wp2_with fail
    go_ret
    exact ⟨_, rfl, HS2.out, hUa.trans ho2⟩
  | false =>
    go_wp2_with fail
    refine (l09Names_c _).mono ?_
    rintro e w2 ⟨v2, rfl, hO2, hg2⟩
    rcases hO2.strs.open_ with ⟨rfl, h0⟩ | ⟨b, o, c, rfl, hc, hm, hb, hcell⟩
    · cases h0
    have hbg := own_of_ge hO2 (g := b) (by first | rfl | exact (by
      rcases hO2.2 with ⟨he, _⟩ | ⟨g', c', cur, he, _⟩
      · cases he
      · injection he with e1; injection e1 with e1; injection e1 with e1 e2; subst e1; rw [e2]; rfl))
    rw [axNames_len] at hc hcell ⊢
    have HC := Lib.hid (fun k hk => hcell k hk w2 (Grew.refl _))
    have HN := Lib.hid (l01Next_c g cv N 13 _ (HS1.out.grew hg2) (by omega))
    have hUa := ho1.grew hg2
    clear hcell hO2
    go_wp2_with fail
    refine HN.out.mono ?_
    rintro e w3 ⟨q, rfl, hq0, hq1, _, hS3, ho3⟩
    have hq2 := hq1 (by omega)
    obtain ⟨k, rfl⟩ : ∃ n : Nat, q = n := ⟨q.toNat, by omega⟩
    have hcx := (ho3.cell (p := ⟨b, o + k, none⟩) hb (by show b ≠ g; omega)).trans (HC.out k (by omega))
    have HS3 := Lib.hid hS3
    clear hS3 hq1 HN
    go_wp2_with fail
    go_ret
    exact ⟨_, rfl, HS3.out, hUa.trans ho3⟩

/-- The drawn frame and name. -/
def FaDrawn (w : World) (e : Ending) (w' : World) : Prop := ∃ v n L s, e = .returned (.tuple #[.agg #[.int .i64 n, v], .string s]) ∧ Ints w' v L ∧ Grew w w'

theorem results_cell_tmp_row {P : Program} {fn : Func} {p u : Tmp} {ty : TypeId} (h : fn.results = #[.cell p ty, .tmp u]) (tmps : Array Value) (w : World) (g : Nat) (t : TypeId) (cs : Array Value) (fr : Nat × Nat) (d : TypeDesc)
    (hp : tmps.getD p undef = .pointer (some ⟨g, 0, none⟩)) (hg : w.heap[g]? = some (.cells cs t fr))
    (hu : P.underlying ty = some d) (hd : (match d with | .struct _ | .array _ _ => true | _ => false) = true) (hi : (P.info? ty).map (·.size) = some cs.size) :
    (results fn tmps).run P w = .ok (.tuple #[.agg cs, tmps.getD u undef]) w := by
  have hp' : tmps[p]?.getD undef = .pointer (some ⟨g, 0, none⟩) := by simpa using hp
  simp [results, h, hp', asAddr, run_loadVar_row w g t ty cs fr d hg hu hd hi]

/-- v reads as the list, in a block from B on. -/
def IntsB (w : World) (B : Nat) (v : Value) (L : List Int) : Prop := Ints w v L ∧ ∀ b o r n c, v = .slice (some ⟨b, o, r⟩) n c → B ≤ b
theorem IntsB.own {w : World} {B : Nat} {v : Value} {L : List Int} (h : OwnI w B v L) : IntsB w B v L := by
  refine ⟨h.ints, ?_⟩
  rintro b o r n c rfl
  rcases h.2 with ⟨he, _⟩ | ⟨g, c', cur, he, hB, _⟩
  · cases he
  · injection he with e1
    injection e1 with e1
    injection e1 with e1
    omega
theorem IntsB.base {w : World} {B B' : Nat} {v : Value} {L : List Int} (h : IntsB w B v L) (hb : B' ≤ B) : IntsB w B' v L := ⟨h.1, fun b o r n c he => Nat.le_trans hb (h.2 b o r n c he)⟩
theorem IntsB.grew {w w' : World} {B : Nat} {v : Value} {L : List Int} (h : IntsB w B v L) (hg : Grew w w') : IntsB w' B v L := ⟨h.1.grew hg, h.2⟩
theorem IntsB.only {w w' : World} {B g : Nat} {v : Value} {L : List Int} (h : IntsB w B v L) (ho : Only g w w') (hg : g < B) : IntsB w' B v L := by
  obtain ⟨⟨h1, h2, h3⟩, h4⟩ := h
  refine ⟨⟨h1, h2, ?_⟩, h4⟩
  rcases h3 with ⟨h5, h6⟩ | ⟨b, o, c, h5, h6, h7, h8, h9⟩
  · exact .inl ⟨h5, h6⟩
  · refine .inr ⟨b, o, c, h5, h6, h7, Nat.lt_of_lt_of_le h8 ho.size, fun j x hx => ?_⟩
    have hb := h4 b o none _ c h5
    exact (ho.cell (p := ⟨b, o + j, none⟩) h8 (by show b ≠ g; omega)).trans (h9 j x hx)
theorem Src.store {w w' : World} {g gb : Nat} {v : Value} {N : Nat} (h : Src w g v N) (hC : Code w' g v N) (ho : Only gb w w') (hne : g ≠ gb) : Src w' g v N := by
  have hl := h.lt
  obtain ⟨_, i, x, h2, h3, h4, h5⟩ := h
  exact ⟨hC, i, x, h2, h3, h4, (ho.block hl hne).trans h5⟩

theorem drawAxiom_c (v : Value) (N : Nat) (w : World) (h : ArgB w v N) (hN : N ≤ 4096) :
    Calls Tryz.prog 16 #[v] w (FaDrawn w) := by
  have hinfo := info2F
  have HF := Lib.hid (fun W (hW : Grew w W) => l01From_c v N W (h.grew hW) hN)
  have HB0 := Lib.hid (blk_new w (.cells #[.int .i64 0, .slice none 0 0] 26))
  have hg0 := (Grew.refl w).alloc (.cells #[.int .i64 0, .slice none 0 0] 26)
  have hsz0 : (w.alloc (.cells #[.int .i64 0, .slice none 0 0] 26)).heap.size = w.heap.size + 1 := by simp
  have HSZ := Lib.hid hsz0
  obtain ⟨w0, hw0⟩ : ∃ w0, w0 = w.alloc (.cells #[.int .i64 0, .slice none 0 0] 26) := ⟨_, rfl⟩
  rw [← hw0] at HB0 HSZ hg0
  have HCD := Lib.hid (fun W (hW : Grew w W) g (hg : w.heap.size ≤ g) => h.code hN hW hg)
  clear h hsz0
  go_enter Tryz.func16, Tryz.ntmps16
  go_wp2_with fail
  simp only [← hw0]
  clear hw0
  refine (HF.out _ hg0).mono ?_
  rintro e w1 ⟨g, rfl, hgw, hS1, hg1⟩
  have HS1 := Lib.hid hS1
  clear hS1 HF
  go_wp2_with fail
  refine (l05Draw_c g v N 5 (by omega) w1 HS1.out).mono ?_
  rintro e w2 ⟨v2, sz, L, rfl, hL0, _, hS2, ho2⟩
  have hL := IntsB.own hL0
  obtain ⟨A, c, rfl⟩ := ints_slice hL.1
  have hga := (Grew.refl w2).alloc (.cells #[.int .i64 sz, .slice A L.length c] 26)
  have hbx := blk_new w2 (.cells #[.int .i64 sz, .slice A L.length c] 26)
  have hsa : (w2.alloc (.cells #[.int .i64 sz, .slice A L.length c] 26)).heap.size = w2.heap.size + 1 := by simp
  have hgl := HS1.out.lt
  have hU2 := hg1.only.trans ho2
  have hR2 := (hga.block (k := w.heap.size) (by have := hU2.size; have := HSZ.out; omega)).trans ((hU2.block (k := w.heap.size) (by have := HSZ.out; omega) (by have := HSZ.out; omega)).trans HB0.out)
  obtain ⟨wa, hwa⟩ : ∃ wa, wa = w2.alloc (.cells #[.int .i64 sz, .slice A L.length c] 26) := ⟨_, rfl⟩
  rw [← hwa] at hga hbx hsa hR2
  have HX := Lib.hid hbx
  have HR := Lib.hid hR2
  have HSa := Lib.hid (hS2.grew hga)
  have HU2 := Lib.hid hU2
  have HLV := Lib.hid hL
  have HGA := Lib.hid (And.intro hga hsa)
  have hw2g : g < w2.heap.size := Nat.lt_of_lt_of_le hgl ho2.size
  have hG : Grew w wa := (hg0.trans ((hU2.grew hga).grew_of (Grew.refl w0) hgw))
  have hrb : w.heap.size < wa.heap.size := blk_lt hR2
  have hga2 : g < wa.heap.size := by omega
  have hrg : g ≠ w.heap.size := by have := HSZ.out; omega
  have KP : ∀ W, Only w.heap.size wa W → Calls Tryz.prog 45 #[.pointer (some ⟨g, 0, none⟩)] W fun e w' => ∃ s : ByteArray, e = .returned (.string s) ∧ Src w' g v N ∧ Only g W w' := fun W hW => l09Axiom_c g v N W (HSa.out.store (HCD.out W (hW.grew_of hG (Nat.le_refl _)) g (by have := HSZ.out; omega)) hW hrg)
  replace KP := Lib.hid KP
  have x0 : ∀ W, Only g wa W → W.cell? ⟨w2.heap.size, 0, none⟩ = some (.int .i64 sz) := fun W hW => (hW.cell (p := ⟨w2.heap.size, 0, none⟩) (by show w2.heap.size < _; omega) (by show w2.heap.size ≠ g; omega)).trans (by rw [blk_cell HX.out]; rfl)
  have x1 : ∀ W, Only g wa W → W.cell? ⟨w2.heap.size, 1, none⟩ = some (.slice A L.length c) := fun W hW => (hW.cell (p := ⟨w2.heap.size, 1, none⟩) (by show w2.heap.size < _; omega) (by show w2.heap.size ≠ g; omega)).trans (by rw [blk_cell HX.out]; rfl)
  have r0 : ∀ W, Only g wa W → W.cell? ⟨w.heap.size, 0, none⟩ = some (.int .i64 0) := fun W hW => by rw [blk_cell ((hW.block hrb hrg.symm).trans HR.out)]; rfl
  have r1 : ∀ W, Only g wa W → W.cell? ⟨w.heap.size, 1, none⟩ = some (.slice none 0 0) := fun W hW => by rw [blk_cell ((hW.block hrb hrg.symm).trans HR.out)]; rfl
  have f0 : ∀ W, Only g wa W → W.frozen? ⟨w.heap.size, 0, none⟩ = false := fun W hW => blk_frozen ((hW.block hrb hrg.symm).trans HR.out) 0
  have f1 : ∀ W, Only g wa W → W.frozen? ⟨w.heap.size, 1, none⟩ = false := fun W hW => blk_frozen ((hW.block hrb hrg.symm).trans HR.out) 1
  have o0 := Only.refl g wa
  have o1 := (Only.refl g wa).drew
  clear hga hbx hR2 hS2 hU2 hL hL0 ho2
  go_wp2_with fail
  simp only [← hwa]
  clear hwa
  go_region_with (go_at_call 45; refine Calls.mono (KP.out _ (by first | exact (Only.refl _ _).drew | exact Only.refl _ _ | exact ((Only.refl _ _).setCell _).setCell _ | exact (((Only.refl _ _).setCell _).setCell _).drew | exact (((Only.refl _ _).drew.setCell _).setCell _))) ?_; rintro e w5 ⟨s, rfl, hS5, ho5⟩; have o5 := (Only.refl g wa).drew.trans ho5)
  all_goals
    go_wp2_with fail
  all_goals
    (try simp only [Exit.inBlock, Exit.then])
    have hR5 := (o5.block hrb hrg.symm).trans HR.out
    refine bodyPost_ret (results_cell_tmp_row rfl _ _ w.heap.size _ _ _ _ rfl (blk_set (blk_set hR5 0 (.int .i64 sz)) 1 (.slice A L.length c)) Tryz.underlying26 rfl hinfo) rfl ?_
    have hk : Only w.heap.size w5 ((w5.setCell ⟨w.heap.size, 0, none⟩ (.int .i64 sz)).setCell ⟨w.heap.size, 1, none⟩ (.slice A L.length c)) := ((Only.refl _ _).setCell _).setCell _
    have hz := HSZ.out
    have hL := HLV.out
    have hgw2 : w.heap.size ≤ g := by omega
    exact ⟨_, _, L, _, rfl, ((((hL.grew HGA.out.1).only o5 hgl).only hk (by omega))).1, hk.grew_of (o5.grew_of hG hgw2) (Nat.le_refl _)⟩

end Go.Proofs.YtpfncncohnhanaaGreatDoor

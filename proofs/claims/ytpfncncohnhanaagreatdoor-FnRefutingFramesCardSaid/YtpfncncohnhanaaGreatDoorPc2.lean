/- Texts in one file: FaF FaD FsL LsD LsR LsM RfP Rng RfV Fv EncI Join TakeP WalkP WalkA Round ParseI Take WalkQ WalkB ParseF Part Agree Equal Write Good PartP Text Parsed Strs IsText Cont Plain Gp TxP Fo KrT KrB KrI KrF TwoF TwoT KrS MbY MbZ MbU IsF IsS FmTree MnA MnB. -/
import Derived.Deep.RegionHeld3
import Derived.Deep.RegionLaw
import Derived.Sort.Statements
import Derived.Laws.EntriesVeiled
import Derived.RangeFuncNested
import Derived.RangeFuncBound
import Derived.RangeFuncCalls
import Derived.RangeFuncLeaves
import Derived.Shelf.Abstract
import Derived.Shelf.RegionOpen
import Derived.WalkKit
import Derived.OwnWalkIn
import Derived.TacticsInMore
import Derived.LoopNIn
import Derived.LoopIn
import Derived.Lib.SlicesS
import Derived.Deep.QuietTactic
import Derived.BigQuiet
import Derived.Outline
import Derived.Deep.LoopGhost
import Derived.Lib.OthersKept
import Derived.Test.YtpfncncohnhanaaGreatDoorProg
import Derived.WalkSpells
import Derived.WalkLawsBesides
import Derived.Test.YtpfncncohnhanaaGreatDoorPc1
set_option linter.all false

/- Frames: isFrame of the program, l05Is of the reference. -/
namespace Go.Proofs.YtpfncncohnhanaaGreatDoor
open Go.RowKit

def frB (sz : Int) (L : List Int) : Bool := decide (0 ≤ sz ∧ sz ≤ 8) && (decide ((L.length : Int) = sz) && mks L.length L)
theorem frB_ok {sz : Int} {L : List Int} (h : frB sz L = true) : sz = (L.length : Int) ∧ L.length ≤ 8 ∧ zs (nats L) = L ∧ Rl (nats L) := by
  unfold frB at h
  rw [Bool.and_eq_true, Bool.and_eq_true, decide_eq_true_eq, decide_eq_true_eq] at h
  obtain ⟨h1, h2, h3⟩ := h
  exact ⟨h2.symm, by omega, (nats_ok h3).1, pos_rl (by omega) h3⟩
set_option maxHeartbeats 2000000 in
theorem isFrame_c (sz : Int) (v : Value) (L : List Int) (w : World) (h : Ints w v L) :
    Calls Tryz.prog 46 #[.agg #[.int .i64 sz, v]] w fun e w' => e = .returned (.bool (frB sz L)) ∧ Grew w w' := by
  have HI := Lib.hid (inRange_c sz 0 8)
  have hal := (Grew.refl w).alloc (.cells #[.int .i64 sz, v] 26)
  have HG := Lib.hid hal
  have HS := Lib.hid (fun W hW => size_c v L W (h.grew hW))
  have HM := Lib.hid (fun W hW hn => isRelation_c v L W (h.grew hW) hn)
  have hmx : L.length ≤ 9223372036854775807 := h.2.1
  have y0 : ∀ W, Grew (w.alloc (.cells #[.int .i64 sz, v] 26)) W → W.cell? ⟨w.heap.size, 0, none⟩ = some (.int .i64 sz) := fun W hW => (hW.cell (p := ⟨w.heap.size, 0, none⟩) (by simp)).trans (by simp)
  have y1 : ∀ W, Grew (w.alloc (.cells #[.int .i64 sz, v] 26)) W → W.cell? ⟨w.heap.size, 1, none⟩ = some v := fun W hW => (hW.cell (p := ⟨w.heap.size, 1, none⟩) (by simp)).trans (by simp)
  obtain ⟨w1, hw1⟩ : ∃ w1, w1 = w.alloc (.cells #[.int .i64 sz, v] 26) := ⟨_, rfl⟩
  rw [← hw1] at y0 y1 HG
  clear hal
  have r1 := Grew.refl w1
  have r1d := r1.drew
  unfold frB
  by_cases h1 : 0 ≤ sz ∧ sz ≤ 8
  · rw [decide_eq_true h1] at HI ⊢
    rw [Bool.true_and]
    by_cases h2 : (L.length : Int) = sz
    · rw [decide_eq_true h2, Bool.true_and]
      obtain rfl := h2
      have hn : L.length ≤ 30 := by omega
      have HM := Lib.hid (fun W hW => HM.out W hW hn)
      have hq : ((L.length : Int) == (L.length : Int)) = true := by simp
      cases h3 : mks L.length L with
      | true =>
        rw [h3] at HM
        obtain ⟨A, c, rfl⟩ := ints_slice h
        clear h h3 hn h1
        generalize L.length = n at *
        go_enter Tryz.func46, Tryz.ntmps46
        go_wp2_with fail
        simp only [← hw1]
        clear hw1
        refine wp_region_held_drew (S := fun w' => Grew w1 w') (by kernel_rfl) r1d (fun hHeld => ?_)
        refine wpAnyH_take (i := 0) (oi := ?on1) (v := ?vn1) ?hin1 ?an1 ?bn1 ?cn1 ?qn1 (Or.inl ⟨?dn1, ?hyn1⟩) hHeld ?restn1
        case hin1 => (simp only [List.getElem?_toArray, List.getElem?_cons_zero]; exact rfl)
        case an1 => kernel_rfl
        case bn1 => kernel_rfl
        case cn1 => kernel_rfl
        case qn1 => exact fun _ _ _ h => h
        case dn1 => rfl
        case hyn1 => (intro z hSw; (try dsimp only at hSw); go_simp; (try with_reducible rfl))
        try simp only [Act.put, List.setIfInBounds_toArray, List.set_cons_zero, List.set_cons_succ]
        refine wpAnyH_take (i := 1) (oi := ?on2) (v := ?vn2) ?hin2 ?an2 ?bn2 ?cn2 ?qn2 (Or.inl ⟨?dn2, ?hyn2⟩) hHeld ?restn2
        case hin2 => (simp only [List.getElem?_toArray, List.getElem?_cons_succ, List.getElem?_cons_zero]; exact rfl)
        case an2 => kernel_rfl
        case bn2 => kernel_rfl
        case cn2 => kernel_rfl
        case qn2 => exact fun _ _ _ h => h
        case dn2 => rfl
        case hyn2 => (intro z hSw; (try dsimp only at hSw); go_simp; (try with_reducible rfl))
        try simp only [Act.put, List.setIfInBounds_toArray, List.set_cons_zero, List.set_cons_succ]
        refine wpAnyH_ready (rs := [2]) (by kernel_rfl) (by simp) ?_
        refine AllReadyH.cons (o := ?on3) ?hin3 ?restn3 AllReadyH.nil
        case hin3 => (simp only [List.getElem?_toArray, List.getElem?_cons_succ, List.getElem?_cons_zero]; exact rfl)
        intro K hK
        go_simp
        go_at_call 88
        refine (HI.out _).mono ?_
        rintro e w2 ⟨rfl, hgw2⟩
        have h2 : Grew w1 w2 := Grew.trans (by repeat (first | with_reducible assumption | with_reducible refine Grew.alloc ?_ _ | with_reducible refine Grew.drew ?_ | with_reducible refine Grew.drewN ?_ _)) hgw2
        refine hK.out _ _ ?_ (fun hHeld => ?_)
        · (try dsimp only); first | with_reducible assumption | exact Grew.alloc ‹_› _
        clear hK K
        try simp only [Act.put, List.setIfInBounds_toArray, List.set_cons_zero, List.set_cons_succ]
        refine wpAnyH_take (i := 3) (oi := ?on4) (v := ?vn4) ?hin4 ?an4 ?bn4 ?cn4 ?qn4 (Or.inl ⟨?dn4, ?hyn4⟩) hHeld ?restn4
        case hin4 => (simp only [List.getElem?_toArray, List.getElem?_cons_succ, List.getElem?_cons_zero]; exact rfl)
        case an4 => kernel_rfl
        case bn4 => kernel_rfl
        case cn4 => kernel_rfl
        case qn4 => exact fun _ _ _ h => h
        case dn4 => rfl
        case hyn4 => (intro z hSw; (try dsimp only at hSw); go_simp; (try with_reducible rfl))
        try simp only [Act.put, List.setIfInBounds_toArray, List.set_cons_zero, List.set_cons_succ]
        refine wpAnyH_take (i := 4) (oi := ?on5) (v := ?vn5) ?hin5 ?an5 ?bn5 ?cn5 ?qn5 (Or.inl ⟨?dn5, ?hyn5⟩) hHeld ?restn5
        case hin5 => (simp only [List.getElem?_toArray, List.getElem?_cons_succ, List.getElem?_cons_zero]; exact rfl)
        case an5 => kernel_rfl
        case bn5 => kernel_rfl
        case cn5 => kernel_rfl
        case qn5 => exact fun _ _ _ h => h
        case dn5 => rfl
        case hyn5 => (intro z hSw; (try dsimp only at hSw); go_simp; (try with_reducible rfl))
        try simp only [Act.put, List.setIfInBounds_toArray, List.set_cons_zero, List.set_cons_succ]
        refine wpAnyH_take (i := 5) (oi := ?on6) (v := ?vn6) ?hin6 ?an6 ?bn6 ?cn6 ?qn6 (Or.inl ⟨?dn6, ?hyn6⟩) hHeld ?restn6
        case hin6 => (simp only [List.getElem?_toArray, List.getElem?_cons_succ, List.getElem?_cons_zero]; exact rfl)
        case an6 => kernel_rfl
        case bn6 => kernel_rfl
        case cn6 => kernel_rfl
        case qn6 => exact fun _ _ _ h => h
        case dn6 => rfl
        case hyn6 => (intro z hSw; (try dsimp only at hSw); go_simp; (try with_reducible rfl))
        try simp only [Act.put, List.setIfInBounds_toArray, List.set_cons_zero, List.set_cons_succ]
        refine wpAnyH_take (i := 7) (oi := ?on7) (v := ?vn7) ?hin7 ?an7 ?bn7 ?cn7 ?qn7 (Or.inl ⟨?dn7, ?hyn7⟩) hHeld ?restn7
        case hin7 => (simp only [List.getElem?_toArray, List.getElem?_cons_succ, List.getElem?_cons_zero]; exact rfl)
        case an7 => kernel_rfl
        case bn7 => kernel_rfl
        case cn7 => kernel_rfl
        case qn7 => exact fun _ _ _ h => h
        case dn7 => rfl
        case hyn7 => (intro z hSw; (try dsimp only at hSw); go_simp; (try with_reducible rfl))
        try simp only [Act.put, List.setIfInBounds_toArray, List.set_cons_zero, List.set_cons_succ]
        refine wpAnyH_take (i := 8) (oi := ?on8) (v := ?vn8) ?hin8 ?an8 ?bn8 ?cn8 ?qn8 (Or.inl ⟨?dn8, ?hyn8⟩) hHeld ?restn8
        case hin8 => (simp only [List.getElem?_toArray, List.getElem?_cons_succ, List.getElem?_cons_zero]; exact rfl)
        case an8 => kernel_rfl
        case bn8 => kernel_rfl
        case cn8 => kernel_rfl
        case qn8 => exact fun _ _ _ h => h
        case dn8 => rfl
        case hyn8 => (intro z hSw; (try dsimp only at hSw); go_simp; (try with_reducible rfl))
        try simp only [Act.put, List.setIfInBounds_toArray, List.set_cons_zero, List.set_cons_succ]
        refine wpAnyH_ready (rs := [6]) (by kernel_rfl) (by simp) ?_
        refine AllReadyH.cons (o := ?on9) ?hin9 ?restn9 AllReadyH.nil
        case hin9 => (simp only [List.getElem?_toArray, List.getElem?_cons_succ, List.getElem?_cons_zero]; exact rfl)
        intro K hK
        go_simp
        go_at_call 89
        refine (HS.out _ (HG.out.trans (h2.trans (Grew.refl _)))).mono ?_
        rintro e w3 ⟨rfl, hgw3⟩
        have h3 : Grew w1 w3 := h2.trans hgw3
        refine hK.out _ _ ?_ (fun hHeld => ?_)
        · (try dsimp only); first | with_reducible assumption | exact Grew.alloc ‹_› _
        clear hK K
        try simp only [Act.put, List.setIfInBounds_toArray, List.set_cons_zero, List.set_cons_succ]
        refine wpAnyH_take (i := 9) (oi := ?on10) (v := ?vn10) ?hin10 ?an10 ?bn10 ?cn10 ?qn10 (Or.inl ⟨?dn10, ?hyn10⟩) hHeld ?restn10
        case hin10 => (simp only [List.getElem?_toArray, List.getElem?_cons_succ, List.getElem?_cons_zero]; exact rfl)
        case an10 => kernel_rfl
        case bn10 => kernel_rfl
        case cn10 => kernel_rfl
        case qn10 => exact fun _ _ _ h => h
        case dn10 => rfl
        case hyn10 => (intro z hSw; (try dsimp only at hSw); go_simp; (try with_reducible rfl))
        try simp only [Act.put, List.setIfInBounds_toArray, List.set_cons_zero, List.set_cons_succ]
        refine wpAnyH_take (i := 10) (oi := ?on11) (v := ?vn11) ?hin11 ?an11 ?bn11 ?cn11 ?qn11 (Or.inl ⟨?dn11, ?hyn11⟩) hHeld ?restn11
        case hin11 => (simp only [List.getElem?_toArray, List.getElem?_cons_succ, List.getElem?_cons_zero]; exact rfl)
        case an11 => kernel_rfl
        case bn11 => kernel_rfl
        case cn11 => kernel_rfl
        case qn11 => exact fun _ _ _ h => h
        case dn11 => rfl
        case hyn11 => (intro z hSw; (try dsimp only at hSw); go_simp; (try with_reducible rfl))
        try simp only [Act.put, List.setIfInBounds_toArray, List.set_cons_zero, List.set_cons_succ]
        refine wpAnyH_take (i := 11) (oi := ?on12) (v := ?vn12) ?hin12 ?an12 ?bn12 ?cn12 ?qn12 (Or.inl ⟨?dn12, ?hyn12⟩) hHeld ?restn12
        case hin12 => (simp only [List.getElem?_toArray, List.getElem?_cons_succ, List.getElem?_cons_zero]; exact rfl)
        case an12 => kernel_rfl
        case bn12 => kernel_rfl
        case cn12 => kernel_rfl
        case qn12 => exact fun _ _ _ h => h
        case dn12 => rfl
        case hyn12 => (intro z hSw; (try dsimp only at hSw); go_simp; (try with_reducible rfl))
        try simp only [Act.put, List.setIfInBounds_toArray, List.set_cons_zero, List.set_cons_succ]
        refine wpAnyH_take (i := 12) (oi := ?on13) (v := ?vn13) ?hin13 ?an13 ?bn13 ?cn13 ?qn13 (Or.inl ⟨?dn13, ?hyn13⟩) hHeld ?restn13
        case hin13 => (simp only [List.getElem?_toArray, List.getElem?_cons_succ, List.getElem?_cons_zero]; exact rfl)
        case an13 => kernel_rfl
        case bn13 => kernel_rfl
        case cn13 => kernel_rfl
        case qn13 => exact fun _ _ _ h => h
        case dn13 => rfl
        case hyn13 => (intro z hSw; (try dsimp only at hSw); go_simp; (try with_reducible rfl))
        try simp only [Act.put, List.setIfInBounds_toArray, List.set_cons_zero, List.set_cons_succ]
        refine wpAnyH_take (i := 13) (oi := ?on14) (v := ?vn14) ?hin14 ?an14 ?bn14 ?cn14 ?qn14 (Or.inl ⟨?dn14, ?hyn14⟩) hHeld ?restn14
        case hin14 => (simp only [List.getElem?_toArray, List.getElem?_cons_succ, List.getElem?_cons_zero]; exact rfl)
        case an14 => kernel_rfl
        case bn14 => kernel_rfl
        case cn14 => kernel_rfl
        case qn14 => exact fun _ _ _ h => h
        case dn14 => rfl
        case hyn14 => (intro z hSw; (try dsimp only at hSw); go_simp; (try with_reducible rfl))
        try simp only [Act.put, List.setIfInBounds_toArray, List.set_cons_zero, List.set_cons_succ]
        refine wpAnyH_ready (rs := [14]) (by kernel_rfl) (by simp) ?_
        refine AllReadyH.cons (o := ?on15) ?hin15 ?restn15 AllReadyH.nil
        case hin15 => (simp only [List.getElem?_toArray, List.getElem?_cons_succ, List.getElem?_cons_zero]; exact rfl)
        intro K hK
        go_simp
        go_at_call 90
        refine (HM.out _ (HG.out.trans h3)).mono ?_
        rintro e w4 ⟨rfl, hgw4⟩
        have h4 : Grew w1 w4 := h3.trans hgw4
        refine hK.out _ _ ?_ (fun hHeld => ?_)
        · (try dsimp only); first | with_reducible assumption | exact Grew.alloc ‹_› _
        clear hK K
        try simp only [Act.put, List.setIfInBounds_toArray, List.set_cons_zero, List.set_cons_succ]
        refine wpAnyH_take (i := 15) (oi := ?on16) (v := ?vn16) ?hin16 ?an16 ?bn16 ?cn16 ?qn16 (Or.inl ⟨?dn16, ?hyn16⟩) hHeld ?restn16
        case hin16 => (simp only [List.getElem?_toArray, List.getElem?_cons_succ, List.getElem?_cons_zero]; exact rfl)
        case an16 => kernel_rfl
        case bn16 => kernel_rfl
        case cn16 => kernel_rfl
        case qn16 => exact fun _ _ _ h => h
        case dn16 => rfl
        case hyn16 => (intro z hSw; (try dsimp only at hSw); go_simp; (try with_reducible rfl))
        try simp only [Act.put, List.setIfInBounds_toArray, List.set_cons_zero, List.set_cons_succ]
        refine wpAnyH_take (i := 16) (oi := ?on17) (v := ?vn17) ?hin17 ?an17 ?bn17 ?cn17 ?qn17 (Or.inl ⟨?dn17, ?hyn17⟩) hHeld ?restn17
        case hin17 => (simp only [List.getElem?_toArray, List.getElem?_cons_succ, List.getElem?_cons_zero]; exact rfl)
        case an17 => kernel_rfl
        case bn17 => kernel_rfl
        case cn17 => kernel_rfl
        case qn17 => exact fun _ _ _ h => h
        case dn17 => rfl
        case hyn17 => (intro z hSw; (try dsimp only at hSw); go_simp; (try with_reducible rfl))
        try simp only [Act.put, List.setIfInBounds_toArray, List.set_cons_zero, List.set_cons_succ]
        refine wpAnyH_done (by kernel_rfl) ?_ _
        go_wp2_with fail
        go_ret
        exact ⟨rfl, HG.out.trans h4⟩
      | false =>
        rw [h3] at HM
        obtain ⟨A, c, rfl⟩ := ints_slice h
        clear h h3 hn h1
        generalize L.length = n at *
        go_enter Tryz.func46, Tryz.ntmps46
        go_wp2_with fail
        simp only [← hw1]
        clear hw1
        refine wp_region_held_drew (S := fun w' => Grew w1 w') (by kernel_rfl) r1d (fun hHeld => ?_)
        refine wpAnyH_take (i := 0) (oi := ?on18) (v := ?vn18) ?hin18 ?an18 ?bn18 ?cn18 ?qn18 (Or.inl ⟨?dn18, ?hyn18⟩) hHeld ?restn18
        case hin18 => (simp only [List.getElem?_toArray, List.getElem?_cons_zero]; exact rfl)
        case an18 => kernel_rfl
        case bn18 => kernel_rfl
        case cn18 => kernel_rfl
        case qn18 => exact fun _ _ _ h => h
        case dn18 => rfl
        case hyn18 => (intro z hSw; (try dsimp only at hSw); go_simp; (try with_reducible rfl))
        try simp only [Act.put, List.setIfInBounds_toArray, List.set_cons_zero, List.set_cons_succ]
        refine wpAnyH_take (i := 1) (oi := ?on19) (v := ?vn19) ?hin19 ?an19 ?bn19 ?cn19 ?qn19 (Or.inl ⟨?dn19, ?hyn19⟩) hHeld ?restn19
        case hin19 => (simp only [List.getElem?_toArray, List.getElem?_cons_succ, List.getElem?_cons_zero]; exact rfl)
        case an19 => kernel_rfl
        case bn19 => kernel_rfl
        case cn19 => kernel_rfl
        case qn19 => exact fun _ _ _ h => h
        case dn19 => rfl
        case hyn19 => (intro z hSw; (try dsimp only at hSw); go_simp; (try with_reducible rfl))
        try simp only [Act.put, List.setIfInBounds_toArray, List.set_cons_zero, List.set_cons_succ]
        refine wpAnyH_ready (rs := [2]) (by kernel_rfl) (by simp) ?_
        refine AllReadyH.cons (o := ?on20) ?hin20 ?restn20 AllReadyH.nil
        case hin20 => (simp only [List.getElem?_toArray, List.getElem?_cons_succ, List.getElem?_cons_zero]; exact rfl)
        intro K hK
        go_simp
        go_at_call 88
        refine (HI.out _).mono ?_
        rintro e w2 ⟨rfl, hgw2⟩
        have h2 : Grew w1 w2 := Grew.trans (by repeat (first | with_reducible assumption | with_reducible refine Grew.alloc ?_ _ | with_reducible refine Grew.drew ?_ | with_reducible refine Grew.drewN ?_ _)) hgw2
        refine hK.out _ _ ?_ (fun hHeld => ?_)
        · (try dsimp only); first | with_reducible assumption | exact Grew.alloc ‹_› _
        clear hK K
        try simp only [Act.put, List.setIfInBounds_toArray, List.set_cons_zero, List.set_cons_succ]
        refine wpAnyH_take (i := 3) (oi := ?on21) (v := ?vn21) ?hin21 ?an21 ?bn21 ?cn21 ?qn21 (Or.inl ⟨?dn21, ?hyn21⟩) hHeld ?restn21
        case hin21 => (simp only [List.getElem?_toArray, List.getElem?_cons_succ, List.getElem?_cons_zero]; exact rfl)
        case an21 => kernel_rfl
        case bn21 => kernel_rfl
        case cn21 => kernel_rfl
        case qn21 => exact fun _ _ _ h => h
        case dn21 => rfl
        case hyn21 => (intro z hSw; (try dsimp only at hSw); go_simp; (try with_reducible rfl))
        try simp only [Act.put, List.setIfInBounds_toArray, List.set_cons_zero, List.set_cons_succ]
        refine wpAnyH_take (i := 4) (oi := ?on22) (v := ?vn22) ?hin22 ?an22 ?bn22 ?cn22 ?qn22 (Or.inl ⟨?dn22, ?hyn22⟩) hHeld ?restn22
        case hin22 => (simp only [List.getElem?_toArray, List.getElem?_cons_succ, List.getElem?_cons_zero]; exact rfl)
        case an22 => kernel_rfl
        case bn22 => kernel_rfl
        case cn22 => kernel_rfl
        case qn22 => exact fun _ _ _ h => h
        case dn22 => rfl
        case hyn22 => (intro z hSw; (try dsimp only at hSw); go_simp; (try with_reducible rfl))
        try simp only [Act.put, List.setIfInBounds_toArray, List.set_cons_zero, List.set_cons_succ]
        refine wpAnyH_take (i := 5) (oi := ?on23) (v := ?vn23) ?hin23 ?an23 ?bn23 ?cn23 ?qn23 (Or.inl ⟨?dn23, ?hyn23⟩) hHeld ?restn23
        case hin23 => (simp only [List.getElem?_toArray, List.getElem?_cons_succ, List.getElem?_cons_zero]; exact rfl)
        case an23 => kernel_rfl
        case bn23 => kernel_rfl
        case cn23 => kernel_rfl
        case qn23 => exact fun _ _ _ h => h
        case dn23 => rfl
        case hyn23 => (intro z hSw; (try dsimp only at hSw); go_simp; (try with_reducible rfl))
        try simp only [Act.put, List.setIfInBounds_toArray, List.set_cons_zero, List.set_cons_succ]
        refine wpAnyH_take (i := 7) (oi := ?on24) (v := ?vn24) ?hin24 ?an24 ?bn24 ?cn24 ?qn24 (Or.inl ⟨?dn24, ?hyn24⟩) hHeld ?restn24
        case hin24 => (simp only [List.getElem?_toArray, List.getElem?_cons_succ, List.getElem?_cons_zero]; exact rfl)
        case an24 => kernel_rfl
        case bn24 => kernel_rfl
        case cn24 => kernel_rfl
        case qn24 => exact fun _ _ _ h => h
        case dn24 => rfl
        case hyn24 => (intro z hSw; (try dsimp only at hSw); go_simp; (try with_reducible rfl))
        try simp only [Act.put, List.setIfInBounds_toArray, List.set_cons_zero, List.set_cons_succ]
        refine wpAnyH_take (i := 8) (oi := ?on25) (v := ?vn25) ?hin25 ?an25 ?bn25 ?cn25 ?qn25 (Or.inl ⟨?dn25, ?hyn25⟩) hHeld ?restn25
        case hin25 => (simp only [List.getElem?_toArray, List.getElem?_cons_succ, List.getElem?_cons_zero]; exact rfl)
        case an25 => kernel_rfl
        case bn25 => kernel_rfl
        case cn25 => kernel_rfl
        case qn25 => exact fun _ _ _ h => h
        case dn25 => rfl
        case hyn25 => (intro z hSw; (try dsimp only at hSw); go_simp; (try with_reducible rfl))
        try simp only [Act.put, List.setIfInBounds_toArray, List.set_cons_zero, List.set_cons_succ]
        refine wpAnyH_ready (rs := [6]) (by kernel_rfl) (by simp) ?_
        refine AllReadyH.cons (o := ?on26) ?hin26 ?restn26 AllReadyH.nil
        case hin26 => (simp only [List.getElem?_toArray, List.getElem?_cons_succ, List.getElem?_cons_zero]; exact rfl)
        intro K hK
        go_simp
        go_at_call 89
        refine (HS.out _ (HG.out.trans (h2.trans (Grew.refl _)))).mono ?_
        rintro e w3 ⟨rfl, hgw3⟩
        have h3 : Grew w1 w3 := h2.trans hgw3
        refine hK.out _ _ ?_ (fun hHeld => ?_)
        · (try dsimp only); first | with_reducible assumption | exact Grew.alloc ‹_› _
        clear hK K
        try simp only [Act.put, List.setIfInBounds_toArray, List.set_cons_zero, List.set_cons_succ]
        refine wpAnyH_take (i := 9) (oi := ?on27) (v := ?vn27) ?hin27 ?an27 ?bn27 ?cn27 ?qn27 (Or.inl ⟨?dn27, ?hyn27⟩) hHeld ?restn27
        case hin27 => (simp only [List.getElem?_toArray, List.getElem?_cons_succ, List.getElem?_cons_zero]; exact rfl)
        case an27 => kernel_rfl
        case bn27 => kernel_rfl
        case cn27 => kernel_rfl
        case qn27 => exact fun _ _ _ h => h
        case dn27 => rfl
        case hyn27 => (intro z hSw; (try dsimp only at hSw); go_simp; (try with_reducible rfl))
        try simp only [Act.put, List.setIfInBounds_toArray, List.set_cons_zero, List.set_cons_succ]
        refine wpAnyH_take (i := 10) (oi := ?on28) (v := ?vn28) ?hin28 ?an28 ?bn28 ?cn28 ?qn28 (Or.inl ⟨?dn28, ?hyn28⟩) hHeld ?restn28
        case hin28 => (simp only [List.getElem?_toArray, List.getElem?_cons_succ, List.getElem?_cons_zero]; exact rfl)
        case an28 => kernel_rfl
        case bn28 => kernel_rfl
        case cn28 => kernel_rfl
        case qn28 => exact fun _ _ _ h => h
        case dn28 => rfl
        case hyn28 => (intro z hSw; (try dsimp only at hSw); go_simp; (try with_reducible rfl))
        try simp only [Act.put, List.setIfInBounds_toArray, List.set_cons_zero, List.set_cons_succ]
        refine wpAnyH_take (i := 11) (oi := ?on29) (v := ?vn29) ?hin29 ?an29 ?bn29 ?cn29 ?qn29 (Or.inl ⟨?dn29, ?hyn29⟩) hHeld ?restn29
        case hin29 => (simp only [List.getElem?_toArray, List.getElem?_cons_succ, List.getElem?_cons_zero]; exact rfl)
        case an29 => kernel_rfl
        case bn29 => kernel_rfl
        case cn29 => kernel_rfl
        case qn29 => exact fun _ _ _ h => h
        case dn29 => rfl
        case hyn29 => (intro z hSw; (try dsimp only at hSw); go_simp; (try with_reducible rfl))
        try simp only [Act.put, List.setIfInBounds_toArray, List.set_cons_zero, List.set_cons_succ]
        refine wpAnyH_take (i := 12) (oi := ?on30) (v := ?vn30) ?hin30 ?an30 ?bn30 ?cn30 ?qn30 (Or.inl ⟨?dn30, ?hyn30⟩) hHeld ?restn30
        case hin30 => (simp only [List.getElem?_toArray, List.getElem?_cons_succ, List.getElem?_cons_zero]; exact rfl)
        case an30 => kernel_rfl
        case bn30 => kernel_rfl
        case cn30 => kernel_rfl
        case qn30 => exact fun _ _ _ h => h
        case dn30 => rfl
        case hyn30 => (intro z hSw; (try dsimp only at hSw); go_simp; (try with_reducible rfl))
        try simp only [Act.put, List.setIfInBounds_toArray, List.set_cons_zero, List.set_cons_succ]
        refine wpAnyH_take (i := 13) (oi := ?on31) (v := ?vn31) ?hin31 ?an31 ?bn31 ?cn31 ?qn31 (Or.inl ⟨?dn31, ?hyn31⟩) hHeld ?restn31
        case hin31 => (simp only [List.getElem?_toArray, List.getElem?_cons_succ, List.getElem?_cons_zero]; exact rfl)
        case an31 => kernel_rfl
        case bn31 => kernel_rfl
        case cn31 => kernel_rfl
        case qn31 => exact fun _ _ _ h => h
        case dn31 => rfl
        case hyn31 => (intro z hSw; (try dsimp only at hSw); go_simp; (try with_reducible rfl))
        try simp only [Act.put, List.setIfInBounds_toArray, List.set_cons_zero, List.set_cons_succ]
        refine wpAnyH_ready (rs := [14]) (by kernel_rfl) (by simp) ?_
        refine AllReadyH.cons (o := ?on32) ?hin32 ?restn32 AllReadyH.nil
        case hin32 => (simp only [List.getElem?_toArray, List.getElem?_cons_succ, List.getElem?_cons_zero]; exact rfl)
        intro K hK
        go_simp
        go_at_call 90
        refine (HM.out _ (HG.out.trans h3)).mono ?_
        rintro e w4 ⟨rfl, hgw4⟩
        have h4 : Grew w1 w4 := h3.trans hgw4
        refine hK.out _ _ ?_ (fun hHeld => ?_)
        · (try dsimp only); first | with_reducible assumption | exact Grew.alloc ‹_› _
        clear hK K
        try simp only [Act.put, List.setIfInBounds_toArray, List.set_cons_zero, List.set_cons_succ]
        refine wpAnyH_take (i := 15) (oi := ?on33) (v := ?vn33) ?hin33 ?an33 ?bn33 ?cn33 ?qn33 (Or.inl ⟨?dn33, ?hyn33⟩) hHeld ?restn33
        case hin33 => (simp only [List.getElem?_toArray, List.getElem?_cons_succ, List.getElem?_cons_zero]; exact rfl)
        case an33 => kernel_rfl
        case bn33 => kernel_rfl
        case cn33 => kernel_rfl
        case qn33 => exact fun _ _ _ h => h
        case dn33 => rfl
        case hyn33 => (intro z hSw; (try dsimp only at hSw); go_simp; (try with_reducible rfl))
        try simp only [Act.put, List.setIfInBounds_toArray, List.set_cons_zero, List.set_cons_succ]
        refine wpAnyH_take (i := 16) (oi := ?on34) (v := ?vn34) ?hin34 ?an34 ?bn34 ?cn34 ?qn34 (Or.inl ⟨?dn34, ?hyn34⟩) hHeld ?restn34
        case hin34 => (simp only [List.getElem?_toArray, List.getElem?_cons_succ, List.getElem?_cons_zero]; exact rfl)
        case an34 => kernel_rfl
        case bn34 => kernel_rfl
        case cn34 => kernel_rfl
        case qn34 => exact fun _ _ _ h => h
        case dn34 => rfl
        case hyn34 => (intro z hSw; (try dsimp only at hSw); go_simp; (try with_reducible rfl))
        try simp only [Act.put, List.setIfInBounds_toArray, List.set_cons_zero, List.set_cons_succ]
        refine wpAnyH_done (by kernel_rfl) ?_ _
        go_wp2_with fail
        go_ret
        exact ⟨rfl, HG.out.trans h4⟩
    · rw [decide_eq_false h2, Bool.false_and]
      have hq : ((L.length : Int) == sz) = false := by simpa using h2
      obtain ⟨A, c, rfl⟩ := ints_slice h
      clear h h2 HM
      generalize L.length = n at *
      go_enter Tryz.func46, Tryz.ntmps46
      go_wp2_with fail
      simp only [← hw1]
      clear hw1
      refine wp_region_held_drew (S := fun w' => Grew w1 w') (by kernel_rfl) r1d (fun hHeld => ?_)
      refine wpAnyH_take (i := 0) (oi := ?on35) (v := ?vn35) ?hin35 ?an35 ?bn35 ?cn35 ?qn35 (Or.inl ⟨?dn35, ?hyn35⟩) hHeld ?restn35
      case hin35 => (simp only [List.getElem?_toArray, List.getElem?_cons_zero]; exact rfl)
      case an35 => kernel_rfl
      case bn35 => kernel_rfl
      case cn35 => kernel_rfl
      case qn35 => exact fun _ _ _ h => h
      case dn35 => rfl
      case hyn35 => (intro z hSw; (try dsimp only at hSw); go_simp; (try with_reducible rfl))
      try simp only [Act.put, List.setIfInBounds_toArray, List.set_cons_zero, List.set_cons_succ]
      refine wpAnyH_take (i := 1) (oi := ?on36) (v := ?vn36) ?hin36 ?an36 ?bn36 ?cn36 ?qn36 (Or.inl ⟨?dn36, ?hyn36⟩) hHeld ?restn36
      case hin36 => (simp only [List.getElem?_toArray, List.getElem?_cons_succ, List.getElem?_cons_zero]; exact rfl)
      case an36 => kernel_rfl
      case bn36 => kernel_rfl
      case cn36 => kernel_rfl
      case qn36 => exact fun _ _ _ h => h
      case dn36 => rfl
      case hyn36 => (intro z hSw; (try dsimp only at hSw); go_simp; (try with_reducible rfl))
      try simp only [Act.put, List.setIfInBounds_toArray, List.set_cons_zero, List.set_cons_succ]
      refine wpAnyH_ready (rs := [2]) (by kernel_rfl) (by simp) ?_
      refine AllReadyH.cons (o := ?on37) ?hin37 ?restn37 AllReadyH.nil
      case hin37 => (simp only [List.getElem?_toArray, List.getElem?_cons_succ, List.getElem?_cons_zero]; exact rfl)
      intro K hK
      go_simp
      go_at_call 88
      refine (HI.out _).mono ?_
      rintro e w2 ⟨rfl, hgw2⟩
      have h2 : Grew w1 w2 := Grew.trans (by repeat (first | with_reducible assumption | with_reducible refine Grew.alloc ?_ _ | with_reducible refine Grew.drew ?_ | with_reducible refine Grew.drewN ?_ _)) hgw2
      refine hK.out _ _ ?_ (fun hHeld => ?_)
      · (try dsimp only); first | with_reducible assumption | exact Grew.alloc ‹_› _
      clear hK K
      try simp only [Act.put, List.setIfInBounds_toArray, List.set_cons_zero, List.set_cons_succ]
      refine wpAnyH_take (i := 3) (oi := ?on38) (v := ?vn38) ?hin38 ?an38 ?bn38 ?cn38 ?qn38 (Or.inl ⟨?dn38, ?hyn38⟩) hHeld ?restn38
      case hin38 => (simp only [List.getElem?_toArray, List.getElem?_cons_succ, List.getElem?_cons_zero]; exact rfl)
      case an38 => kernel_rfl
      case bn38 => kernel_rfl
      case cn38 => kernel_rfl
      case qn38 => exact fun _ _ _ h => h
      case dn38 => rfl
      case hyn38 => (intro z hSw; (try dsimp only at hSw); go_simp; (try with_reducible rfl))
      try simp only [Act.put, List.setIfInBounds_toArray, List.set_cons_zero, List.set_cons_succ]
      refine wpAnyH_take (i := 4) (oi := ?on39) (v := ?vn39) ?hin39 ?an39 ?bn39 ?cn39 ?qn39 (Or.inl ⟨?dn39, ?hyn39⟩) hHeld ?restn39
      case hin39 => (simp only [List.getElem?_toArray, List.getElem?_cons_succ, List.getElem?_cons_zero]; exact rfl)
      case an39 => kernel_rfl
      case bn39 => kernel_rfl
      case cn39 => kernel_rfl
      case qn39 => exact fun _ _ _ h => h
      case dn39 => rfl
      case hyn39 => (intro z hSw; (try dsimp only at hSw); go_simp; (try with_reducible rfl))
      try simp only [Act.put, List.setIfInBounds_toArray, List.set_cons_zero, List.set_cons_succ]
      refine wpAnyH_take (i := 5) (oi := ?on40) (v := ?vn40) ?hin40 ?an40 ?bn40 ?cn40 ?qn40 (Or.inl ⟨?dn40, ?hyn40⟩) hHeld ?restn40
      case hin40 => (simp only [List.getElem?_toArray, List.getElem?_cons_succ, List.getElem?_cons_zero]; exact rfl)
      case an40 => kernel_rfl
      case bn40 => kernel_rfl
      case cn40 => kernel_rfl
      case qn40 => exact fun _ _ _ h => h
      case dn40 => rfl
      case hyn40 => (intro z hSw; (try dsimp only at hSw); go_simp; (try with_reducible rfl))
      try simp only [Act.put, List.setIfInBounds_toArray, List.set_cons_zero, List.set_cons_succ]
      refine wpAnyH_take (i := 7) (oi := ?on41) (v := ?vn41) ?hin41 ?an41 ?bn41 ?cn41 ?qn41 (Or.inl ⟨?dn41, ?hyn41⟩) hHeld ?restn41
      case hin41 => (simp only [List.getElem?_toArray, List.getElem?_cons_succ, List.getElem?_cons_zero]; exact rfl)
      case an41 => kernel_rfl
      case bn41 => kernel_rfl
      case cn41 => kernel_rfl
      case qn41 => exact fun _ _ _ h => h
      case dn41 => rfl
      case hyn41 => (intro z hSw; (try dsimp only at hSw); go_simp; (try with_reducible rfl))
      try simp only [Act.put, List.setIfInBounds_toArray, List.set_cons_zero, List.set_cons_succ]
      refine wpAnyH_take (i := 8) (oi := ?on42) (v := ?vn42) ?hin42 ?an42 ?bn42 ?cn42 ?qn42 (Or.inl ⟨?dn42, ?hyn42⟩) hHeld ?restn42
      case hin42 => (simp only [List.getElem?_toArray, List.getElem?_cons_succ, List.getElem?_cons_zero]; exact rfl)
      case an42 => kernel_rfl
      case bn42 => kernel_rfl
      case cn42 => kernel_rfl
      case qn42 => exact fun _ _ _ h => h
      case dn42 => rfl
      case hyn42 => (intro z hSw; (try dsimp only at hSw); go_simp; (try with_reducible rfl))
      try simp only [Act.put, List.setIfInBounds_toArray, List.set_cons_zero, List.set_cons_succ]
      refine wpAnyH_ready (rs := [6]) (by kernel_rfl) (by simp) ?_
      refine AllReadyH.cons (o := ?on43) ?hin43 ?restn43 AllReadyH.nil
      case hin43 => (simp only [List.getElem?_toArray, List.getElem?_cons_succ, List.getElem?_cons_zero]; exact rfl)
      intro K hK
      go_simp
      go_at_call 89
      refine (HS.out _ (HG.out.trans (h2.trans (Grew.refl _)))).mono ?_
      rintro e w3 ⟨rfl, hgw3⟩
      have h3 : Grew w1 w3 := h2.trans hgw3
      refine hK.out _ _ ?_ (fun hHeld => ?_)
      · (try dsimp only); first | with_reducible assumption | exact Grew.alloc ‹_› _
      clear hK K
      try simp only [Act.put, List.setIfInBounds_toArray, List.set_cons_zero, List.set_cons_succ]
      refine wpAnyH_take (i := 9) (oi := ?on44) (v := ?vn44) ?hin44 ?an44 ?bn44 ?cn44 ?qn44 (Or.inl ⟨?dn44, ?hyn44⟩) hHeld ?restn44
      case hin44 => (simp only [List.getElem?_toArray, List.getElem?_cons_succ, List.getElem?_cons_zero]; exact rfl)
      case an44 => kernel_rfl
      case bn44 => kernel_rfl
      case cn44 => kernel_rfl
      case qn44 => exact fun _ _ _ h => h
      case dn44 => rfl
      case hyn44 => (intro z hSw; (try dsimp only at hSw); go_simp; (try with_reducible rfl))
      try simp only [Act.put, List.setIfInBounds_toArray, List.set_cons_zero, List.set_cons_succ]
      refine wpAnyH_take (i := 10) (oi := ?on45) (v := ?vn45) ?hin45 ?an45 ?bn45 ?cn45 ?qn45 (Or.inl ⟨?dn45, ?hyn45⟩) hHeld ?restn45
      case hin45 => (simp only [List.getElem?_toArray, List.getElem?_cons_succ, List.getElem?_cons_zero]; exact rfl)
      case an45 => kernel_rfl
      case bn45 => kernel_rfl
      case cn45 => kernel_rfl
      case qn45 => exact fun _ _ _ h => h
      case dn45 => rfl
      case hyn45 => (intro z hSw; (try dsimp only at hSw); go_simp; (try with_reducible rfl))
      try simp only [Act.put, List.setIfInBounds_toArray, List.set_cons_zero, List.set_cons_succ]
      refine wpAnyH_take (i := 11) (oi := ?on46) (v := ?vn46) ?hin46 ?an46 ?bn46 ?cn46 ?qn46 (Or.inl ⟨?dn46, ?hyn46⟩) hHeld ?restn46
      case hin46 => (simp only [List.getElem?_toArray, List.getElem?_cons_succ, List.getElem?_cons_zero]; exact rfl)
      case an46 => kernel_rfl
      case bn46 => kernel_rfl
      case cn46 => kernel_rfl
      case qn46 => exact fun _ _ _ h => h
      case dn46 => rfl
      case hyn46 => (intro z hSw; (try dsimp only at hSw); go_simp; (try with_reducible rfl))
      try simp only [Act.put, List.setIfInBounds_toArray, List.set_cons_zero, List.set_cons_succ]
      refine wpAnyH_take (i := 12) (oi := ?on47) ?hin47 ?an47 ?bn47 ?cn47 ?qn47 (Or.inr ⟨?dn47, rfl⟩) hHeld ?restn47
      case hin47 => (simp only [List.getElem?_toArray, List.getElem?_cons_succ, List.getElem?_cons_zero]; exact rfl)
      case an47 => kernel_rfl
      case bn47 => kernel_rfl
      case cn47 => kernel_rfl
      case qn47 => exact fun _ _ _ h => h
      case dn47 => rfl
      try simp only [Act.put, List.setIfInBounds_toArray, List.set_cons_zero, List.set_cons_succ]
      refine wpAnyH_take (i := 13) (oi := ?on48) ?hin48 ?an48 ?bn48 ?cn48 ?qn48 (Or.inr ⟨?dn48, rfl⟩) hHeld ?restn48
      case hin48 => (simp only [List.getElem?_toArray, List.getElem?_cons_succ, List.getElem?_cons_zero]; exact rfl)
      case an48 => kernel_rfl
      case bn48 => kernel_rfl
      case cn48 => kernel_rfl
      case qn48 => exact fun _ _ _ h => h
      case dn48 => rfl
      try simp only [Act.put, List.setIfInBounds_toArray, List.set_cons_zero, List.set_cons_succ]
      refine wpAnyH_take (i := 14) (oi := ?on49) ?hin49 ?an49 ?bn49 ?cn49 ?qn49 (Or.inr ⟨?dn49, rfl⟩) hHeld ?restn49
      case hin49 => (simp only [List.getElem?_toArray, List.getElem?_cons_succ, List.getElem?_cons_zero]; exact rfl)
      case an49 => kernel_rfl
      case bn49 => kernel_rfl
      case cn49 => kernel_rfl
      case qn49 => exact fun _ _ _ h => h
      case dn49 => rfl
      try simp only [Act.put, List.setIfInBounds_toArray, List.set_cons_zero, List.set_cons_succ]
      refine wpAnyH_take (i := 15) (oi := ?on50) (v := ?vn50) ?hin50 ?an50 ?bn50 ?cn50 ?qn50 (Or.inl ⟨?dn50, ?hyn50⟩) hHeld ?restn50
      case hin50 => (simp only [List.getElem?_toArray, List.getElem?_cons_succ, List.getElem?_cons_zero]; exact rfl)
      case an50 => kernel_rfl
      case bn50 => kernel_rfl
      case cn50 => kernel_rfl
      case qn50 => exact fun _ _ _ h => h
      case dn50 => rfl
      case hyn50 => (intro z hSw; (try dsimp only at hSw); go_simp; (try with_reducible rfl))
      try simp only [Act.put, List.setIfInBounds_toArray, List.set_cons_zero, List.set_cons_succ]
      refine wpAnyH_take (i := 16) (oi := ?on51) (v := ?vn51) ?hin51 ?an51 ?bn51 ?cn51 ?qn51 (Or.inl ⟨?dn51, ?hyn51⟩) hHeld ?restn51
      case hin51 => (simp only [List.getElem?_toArray, List.getElem?_cons_succ, List.getElem?_cons_zero]; exact rfl)
      case an51 => kernel_rfl
      case bn51 => kernel_rfl
      case cn51 => kernel_rfl
      case qn51 => exact fun _ _ _ h => h
      case dn51 => rfl
      case hyn51 => (intro z hSw; (try dsimp only at hSw); go_simp; (try with_reducible rfl))
      try simp only [Act.put, List.setIfInBounds_toArray, List.set_cons_zero, List.set_cons_succ]
      refine wpAnyH_done (by kernel_rfl) ?_ _
      go_wp2_with fail
      go_ret
      exact ⟨rfl, HG.out.trans h3⟩
  · rw [decide_eq_false h1] at HI ⊢
    rw [Bool.false_and]
    obtain ⟨A, c, rfl⟩ := ints_slice h
    clear h HM
    generalize L.length = n at *
    go_enter Tryz.func46, Tryz.ntmps46
    go_wp2_with fail
    simp only [← hw1]
    clear hw1
    refine wp_region_held_drew (S := fun w' => Grew w1 w') (by kernel_rfl) r1d (fun hHeld => ?_)
    refine wpAnyH_take (i := 0) (oi := ?on52) (v := ?vn52) ?hin52 ?an52 ?bn52 ?cn52 ?qn52 (Or.inl ⟨?dn52, ?hyn52⟩) hHeld ?restn52
    case hin52 => (simp only [List.getElem?_toArray, List.getElem?_cons_zero]; exact rfl)
    case an52 => kernel_rfl
    case bn52 => kernel_rfl
    case cn52 => kernel_rfl
    case qn52 => exact fun _ _ _ h => h
    case dn52 => rfl
    case hyn52 => (intro z hSw; (try dsimp only at hSw); go_simp; (try with_reducible rfl))
    try simp only [Act.put, List.setIfInBounds_toArray, List.set_cons_zero, List.set_cons_succ]
    refine wpAnyH_take (i := 1) (oi := ?on53) (v := ?vn53) ?hin53 ?an53 ?bn53 ?cn53 ?qn53 (Or.inl ⟨?dn53, ?hyn53⟩) hHeld ?restn53
    case hin53 => (simp only [List.getElem?_toArray, List.getElem?_cons_succ, List.getElem?_cons_zero]; exact rfl)
    case an53 => kernel_rfl
    case bn53 => kernel_rfl
    case cn53 => kernel_rfl
    case qn53 => exact fun _ _ _ h => h
    case dn53 => rfl
    case hyn53 => (intro z hSw; (try dsimp only at hSw); go_simp; (try with_reducible rfl))
    try simp only [Act.put, List.setIfInBounds_toArray, List.set_cons_zero, List.set_cons_succ]
    refine wpAnyH_ready (rs := [2]) (by kernel_rfl) (by simp) ?_
    refine AllReadyH.cons (o := ?on54) ?hin54 ?restn54 AllReadyH.nil
    case hin54 => (simp only [List.getElem?_toArray, List.getElem?_cons_succ, List.getElem?_cons_zero]; exact rfl)
    intro K hK
    go_simp
    go_at_call 88
    refine (HI.out _).mono ?_
    rintro e w2 ⟨rfl, hgw2⟩
    have h2 : Grew w1 w2 := Grew.trans (by repeat (first | with_reducible assumption | with_reducible refine Grew.alloc ?_ _ | with_reducible refine Grew.drew ?_ | with_reducible refine Grew.drewN ?_ _)) hgw2
    refine hK.out _ _ ?_ (fun hHeld => ?_)
    · (try dsimp only); first | with_reducible assumption | exact Grew.alloc ‹_› _
    clear hK K
    try simp only [Act.put, List.setIfInBounds_toArray, List.set_cons_zero, List.set_cons_succ]
    refine wpAnyH_take (i := 3) (oi := ?on55) (v := ?vn55) ?hin55 ?an55 ?bn55 ?cn55 ?qn55 (Or.inl ⟨?dn55, ?hyn55⟩) hHeld ?restn55
    case hin55 => (simp only [List.getElem?_toArray, List.getElem?_cons_succ, List.getElem?_cons_zero]; exact rfl)
    case an55 => kernel_rfl
    case bn55 => kernel_rfl
    case cn55 => kernel_rfl
    case qn55 => exact fun _ _ _ h => h
    case dn55 => rfl
    case hyn55 => (intro z hSw; (try dsimp only at hSw); go_simp; (try with_reducible rfl))
    try simp only [Act.put, List.setIfInBounds_toArray, List.set_cons_zero, List.set_cons_succ]
    refine wpAnyH_take (i := 4) (oi := ?on56) ?hin56 ?an56 ?bn56 ?cn56 ?qn56 (Or.inr ⟨?dn56, rfl⟩) hHeld ?restn56
    case hin56 => (simp only [List.getElem?_toArray, List.getElem?_cons_succ, List.getElem?_cons_zero]; exact rfl)
    case an56 => kernel_rfl
    case bn56 => kernel_rfl
    case cn56 => kernel_rfl
    case qn56 => exact fun _ _ _ h => h
    case dn56 => rfl
    try simp only [Act.put, List.setIfInBounds_toArray, List.set_cons_zero, List.set_cons_succ]
    refine wpAnyH_take (i := 5) (oi := ?on57) ?hin57 ?an57 ?bn57 ?cn57 ?qn57 (Or.inr ⟨?dn57, rfl⟩) hHeld ?restn57
    case hin57 => (simp only [List.getElem?_toArray, List.getElem?_cons_succ, List.getElem?_cons_zero]; exact rfl)
    case an57 => kernel_rfl
    case bn57 => kernel_rfl
    case cn57 => kernel_rfl
    case qn57 => exact fun _ _ _ h => h
    case dn57 => rfl
    try simp only [Act.put, List.setIfInBounds_toArray, List.set_cons_zero, List.set_cons_succ]
    refine wpAnyH_take (i := 6) (oi := ?on58) ?hin58 ?an58 ?bn58 ?cn58 ?qn58 (Or.inr ⟨?dn58, rfl⟩) hHeld ?restn58
    case hin58 => (simp only [List.getElem?_toArray, List.getElem?_cons_succ, List.getElem?_cons_zero]; exact rfl)
    case an58 => kernel_rfl
    case bn58 => kernel_rfl
    case cn58 => kernel_rfl
    case qn58 => exact fun _ _ _ h => h
    case dn58 => rfl
    try simp only [Act.put, List.setIfInBounds_toArray, List.set_cons_zero, List.set_cons_succ]
    refine wpAnyH_take (i := 7) (oi := ?on59) ?hin59 ?an59 ?bn59 ?cn59 ?qn59 (Or.inr ⟨?dn59, rfl⟩) hHeld ?restn59
    case hin59 => (simp only [List.getElem?_toArray, List.getElem?_cons_succ, List.getElem?_cons_zero]; exact rfl)
    case an59 => kernel_rfl
    case bn59 => kernel_rfl
    case cn59 => kernel_rfl
    case qn59 => exact fun _ _ _ h => h
    case dn59 => rfl
    try simp only [Act.put, List.setIfInBounds_toArray, List.set_cons_zero, List.set_cons_succ]
    refine wpAnyH_take (i := 8) (oi := ?on60) ?hin60 ?an60 ?bn60 ?cn60 ?qn60 (Or.inr ⟨?dn60, rfl⟩) hHeld ?restn60
    case hin60 => (simp only [List.getElem?_toArray, List.getElem?_cons_succ, List.getElem?_cons_zero]; exact rfl)
    case an60 => kernel_rfl
    case bn60 => kernel_rfl
    case cn60 => kernel_rfl
    case qn60 => exact fun _ _ _ h => h
    case dn60 => rfl
    try simp only [Act.put, List.setIfInBounds_toArray, List.set_cons_zero, List.set_cons_succ]
    refine wpAnyH_take (i := 9) (oi := ?on61) ?hin61 ?an61 ?bn61 ?cn61 ?qn61 (Or.inr ⟨?dn61, rfl⟩) hHeld ?restn61
    case hin61 => (simp only [List.getElem?_toArray, List.getElem?_cons_succ, List.getElem?_cons_zero]; exact rfl)
    case an61 => kernel_rfl
    case bn61 => kernel_rfl
    case cn61 => kernel_rfl
    case qn61 => exact fun _ _ _ h => h
    case dn61 => rfl
    try simp only [Act.put, List.setIfInBounds_toArray, List.set_cons_zero, List.set_cons_succ]
    refine wpAnyH_take (i := 10) (oi := ?on62) (v := ?vn62) ?hin62 ?an62 ?bn62 ?cn62 ?qn62 (Or.inl ⟨?dn62, ?hyn62⟩) hHeld ?restn62
    case hin62 => (simp only [List.getElem?_toArray, List.getElem?_cons_succ, List.getElem?_cons_zero]; exact rfl)
    case an62 => kernel_rfl
    case bn62 => kernel_rfl
    case cn62 => kernel_rfl
    case qn62 => exact fun _ _ _ h => h
    case dn62 => rfl
    case hyn62 => (intro z hSw; (try dsimp only at hSw); go_simp; (try with_reducible rfl))
    try simp only [Act.put, List.setIfInBounds_toArray, List.set_cons_zero, List.set_cons_succ]
    refine wpAnyH_take (i := 11) (oi := ?on63) (v := ?vn63) ?hin63 ?an63 ?bn63 ?cn63 ?qn63 (Or.inl ⟨?dn63, ?hyn63⟩) hHeld ?restn63
    case hin63 => (simp only [List.getElem?_toArray, List.getElem?_cons_succ, List.getElem?_cons_zero]; exact rfl)
    case an63 => kernel_rfl
    case bn63 => kernel_rfl
    case cn63 => kernel_rfl
    case qn63 => exact fun _ _ _ h => h
    case dn63 => rfl
    case hyn63 => (intro z hSw; (try dsimp only at hSw); go_simp; (try with_reducible rfl))
    try simp only [Act.put, List.setIfInBounds_toArray, List.set_cons_zero, List.set_cons_succ]
    refine wpAnyH_take (i := 12) (oi := ?on64) ?hin64 ?an64 ?bn64 ?cn64 ?qn64 (Or.inr ⟨?dn64, rfl⟩) hHeld ?restn64
    case hin64 => (simp only [List.getElem?_toArray, List.getElem?_cons_succ, List.getElem?_cons_zero]; exact rfl)
    case an64 => kernel_rfl
    case bn64 => kernel_rfl
    case cn64 => kernel_rfl
    case qn64 => exact fun _ _ _ h => h
    case dn64 => rfl
    try simp only [Act.put, List.setIfInBounds_toArray, List.set_cons_zero, List.set_cons_succ]
    refine wpAnyH_take (i := 13) (oi := ?on65) ?hin65 ?an65 ?bn65 ?cn65 ?qn65 (Or.inr ⟨?dn65, rfl⟩) hHeld ?restn65
    case hin65 => (simp only [List.getElem?_toArray, List.getElem?_cons_succ, List.getElem?_cons_zero]; exact rfl)
    case an65 => kernel_rfl
    case bn65 => kernel_rfl
    case cn65 => kernel_rfl
    case qn65 => exact fun _ _ _ h => h
    case dn65 => rfl
    try simp only [Act.put, List.setIfInBounds_toArray, List.set_cons_zero, List.set_cons_succ]
    refine wpAnyH_take (i := 14) (oi := ?on66) ?hin66 ?an66 ?bn66 ?cn66 ?qn66 (Or.inr ⟨?dn66, rfl⟩) hHeld ?restn66
    case hin66 => (simp only [List.getElem?_toArray, List.getElem?_cons_succ, List.getElem?_cons_zero]; exact rfl)
    case an66 => kernel_rfl
    case bn66 => kernel_rfl
    case cn66 => kernel_rfl
    case qn66 => exact fun _ _ _ h => h
    case dn66 => rfl
    try simp only [Act.put, List.setIfInBounds_toArray, List.set_cons_zero, List.set_cons_succ]
    refine wpAnyH_take (i := 15) (oi := ?on67) (v := ?vn67) ?hin67 ?an67 ?bn67 ?cn67 ?qn67 (Or.inl ⟨?dn67, ?hyn67⟩) hHeld ?restn67
    case hin67 => (simp only [List.getElem?_toArray, List.getElem?_cons_succ, List.getElem?_cons_zero]; exact rfl)
    case an67 => kernel_rfl
    case bn67 => kernel_rfl
    case cn67 => kernel_rfl
    case qn67 => exact fun _ _ _ h => h
    case dn67 => rfl
    case hyn67 => (intro z hSw; (try dsimp only at hSw); go_simp; (try with_reducible rfl))
    try simp only [Act.put, List.setIfInBounds_toArray, List.set_cons_zero, List.set_cons_succ]
    refine wpAnyH_take (i := 16) (oi := ?on68) (v := ?vn68) ?hin68 ?an68 ?bn68 ?cn68 ?qn68 (Or.inl ⟨?dn68, ?hyn68⟩) hHeld ?restn68
    case hin68 => (simp only [List.getElem?_toArray, List.getElem?_cons_succ, List.getElem?_cons_zero]; exact rfl)
    case an68 => kernel_rfl
    case bn68 => kernel_rfl
    case cn68 => kernel_rfl
    case qn68 => exact fun _ _ _ h => h
    case dn68 => rfl
    case hyn68 => (intro z hSw; (try dsimp only at hSw); go_simp; (try with_reducible rfl))
    try simp only [Act.put, List.setIfInBounds_toArray, List.set_cons_zero, List.set_cons_succ]
    refine wpAnyH_done (by kernel_rfl) ?_ _
    go_wp2_with fail
    go_ret
    exact ⟨rfl, HG.out.trans h2⟩
end Go.Proofs.YtpfncncohnhanaaGreatDoor


/- The draw of a frame: l05Make, l05Some of the reference; only the shape is told. -/
namespace Go.Proofs.YtpfncncohnhanaaGreatDoor
open Go.RowKit

theorem l05Make_c (v : Value) (L : List Int) (w : World) (h : Ints w v L) (hn : L.length ≤ 1099511627776) :
    Calls Tryz.prog 112 #[v] w (GivesPs w L) := by
  have hinfo := info2F
  have HC := Lib.hid (fun W hW => ownR_c v L W (h.grew hW) hn)
  have hmx : L.length ≤ 9223372036854775807 := h.2.1
  obtain ⟨A, c, rfl⟩ := ints_slice h
  clear h
  generalize hNL : L.length = n at *
  go_enter Tryz.func112, Tryz.ntmps112
  go_wp2_with fail
  refine (HC.out _ ((Grew.refl w).alloc _)).mono ?_
  rintro e w2 ⟨v2, rfl, hO2, hg2⟩
  obtain ⟨A2, c2, rfl⟩ := ints_slice hO2.ints
  have hb2 : w2.heap[w.heap.size]? = some (.cells #[.int .i64 0, .slice none 0 0] 26 (0, 0)) := (hg2.block (by simp)).trans (blk_new w _)
  have c0 : w2.cell? ⟨w.heap.size, 0, none⟩ = some (.int .i64 0) := by rw [blk_cell hb2]; rfl
  have c1 : w2.cell? ⟨w.heap.size, 1, none⟩ = some (.slice none 0 0) := by rw [blk_cell hb2]; rfl
  have f0 := blk_frozen hb2 0
  have f1 := blk_frozen hb2 1
  have HB2 := Lib.hid hb2
  have HO2 := Lib.hid hO2
  clear hb2 hO2
  rw [hNL]
  go_wp2_with fail
  (try simp only [Exit.inBlock, Exit.then])
  refine bodyPost_ret (results_cell_row rfl _ _ w.heap.size _ _ _ _ rfl (blk_set (blk_set HB2.out 0 _) 1 _) Tryz.underlying26 rfl hinfo) rfl ?_
  have hk : Only w.heap.size w2 ((w2.setCell ⟨w.heap.size, 0, none⟩ (.int .i64 (n : Int))).setCell ⟨w.heap.size, 1, none⟩ (.slice A2 n c2)) := ((Only.refl _ _).setCell _).setCell _
  have hO := HO2.out
  rw [hNL] at hO
  refine ⟨_, by rw [hNL]; rfl, ?_, (((Grew.refl w).alloc _).trans hg2).setCell (Nat.le_refl _) _ |>.setCell (Nat.le_refl _) _⟩
  exact OwnI.base (own_only hO hk (fun hh => by have := own_of_ge hO hh; simp at this; omega)) (by simp)
end Go.Proofs.YtpfncncohnhanaaGreatDoor


/- Rows of frames of the call's own. -/
namespace Go.Proofs.YtpfncncohnhanaaGreatDoor
open Go.RowKit

def fscells (ps : List (Value × List Nat)) : List Value := ps.flatMap fun p => [.int .i64 (p.2.length : Int), p.1]
theorem fscells_append (ps qs : List (Value × List Nat)) : fscells (ps ++ qs) = fscells ps ++ fscells qs := by simp [fscells]
theorem fscells_length (ps : List (Value × List Nat)) : (fscells ps).length = ps.length * 2 := by
  induction ps with
  | nil => rfl
  | cons p ps ih => show ([Value.int .i64 (p.2.length : Int), p.1] ++ fscells ps).length = _; simp [ih]; omega
theorem fscells_at (ps : List (Value × List Nat)) : ∀ i p, ps[i]? = some p → (fscells ps)[i * 2]? = some (.int .i64 (p.2.length : Int)) ∧ (fscells ps)[i * 2 + 1]? = some p.1 := by
  induction ps with
  | nil => intro i p hi; simp at hi
  | cons x ps ih =>
    intro i p hi
    match i with
    | 0 => simp at hi; subst hi; exact ⟨rfl, rfl⟩
    | i + 1 =>
      have h := ih i p (by simpa using hi)
      have e1 : (i + 1) * 2 = i * 2 + 1 + 1 := by omega
      rw [e1]
      show ([Value.int .i64 (x.2.length : Int), x.1] ++ fscells ps)[i * 2 + 1 + 1]? = _ ∧ ([Value.int .i64 (x.2.length : Int), x.1] ++ fscells ps)[i * 2 + 1 + 1 + 1]? = _
      simpa using h
def OwnFs (w : World) (B : Nat) (v : Value) (Ls : List (List Nat)) : Prop := ∃ ps : List (Value × List Nat), ps.map (fun p => p.2) = Ls ∧ w.ownsRow B 26 2 v Ls.length (fscells ps) ∧ ∀ p ∈ ps, OwnI w B p.1 (zs p.2)
theorem OwnFs.nil_ (w : World) (B : Nat) : OwnFs w B (.slice none 0 0) [] := ⟨[], rfl, World.ownsRow_nil w B _ 2, fun p hp => by cases hp⟩
theorem OwnFs.lit (w : World) : OwnFs (w.alloc (.cells #[] 26)) w.heap.size (.slice (some ⟨w.heap.size, 0, none⟩) 0 0) [] :=
  ⟨[], rfl, World.ownsRow_lit (e := 26) (size := 2) w #[] 0 (Nat.le_refl _) (by first | omega | decide | simp) rfl, fun p hp => by cases hp⟩
theorem OwnFs.grew {w w' : World} {B : Nat} {v : Value} {Ls : List (List Nat)} (h : OwnFs w B v Ls) (hg : Grew w w') : OwnFs w' B v Ls := by
  obtain ⟨ps, h1, h2, h3⟩ := h
  exact ⟨ps, h1, own_grew h2 hg, fun p hp => (h3 p hp).grew hg⟩
theorem OwnFs.base {w : World} {B B' : Nat} {v : Value} {Ls : List (List Nat)} (h : OwnFs w B v Ls) (hb : B' ≤ B) : OwnFs w B' v Ls := by
  obtain ⟨ps, h1, h2, h3⟩ := h
  exact ⟨ps, h1, own_base h2 hb, fun p hp => (h3 p hp).base hb⟩
theorem OwnFs.slice {w : World} {B : Nat} {v : Value} {Ls : List (List Nat)} (h : OwnFs w B v Ls) : ∃ A c, v = .slice A Ls.length c := by
  obtain ⟨ps, h1, h2, h3⟩ := h
  obtain ⟨_, h4⟩ := h2
  rcases h4 with ⟨rfl, h5⟩ | ⟨g, cap, cur, rfl, hb, hg, hnc, hcm, hcs, ht⟩
  · rw [h5]; exact ⟨_, _, rfl⟩
  · exact ⟨_, _, rfl⟩
theorem OwnFs.ge {w : World} {B : Nat} {v : Value} {Ls : List (List Nat)} (h : OwnFs w B v Ls) {g : Nat} (hg : v.ownBlock = some g) : B ≤ g := by
  obtain ⟨ps, h1, h2, h3⟩ := h
  exact own_of_ge h2 hg
theorem OwnFs.at_ {w : World} {B : Nat} {v : Value} {Ls : List (List Nat)} (h : OwnFs w B v Ls) {i : Nat} (hi : i < Ls.length) : ∃ g c u, v = .slice (some ⟨g, 0, none⟩) Ls.length c ∧ g < w.heap.size ∧
    (∀ W, Grew w W → W.cell? ⟨g, i * 2, none⟩ = some (.int .i64 ((Ls.getD i []).length : Int)) ∧ W.cell? ⟨g, i * 2 + 1, none⟩ = some u) ∧ OwnI w B u (zs (Ls.getD i [])) := by
  obtain ⟨ps, h1, h2, h3⟩ := h
  have hl : ps.length = Ls.length := by rw [← h1, List.length_map]
  obtain ⟨_, h4⟩ := h2
  rcases h4 with ⟨_, h5⟩ | ⟨g, cap, cur, rfl, hb, hg, hnc, hcm, hcs, ht⟩
  · omega
  · have hp : ps[i]? = some (ps[i]'(by omega)) := List.getElem?_eq_getElem (by omega)
    have he : Ls.getD i [] = (ps[i]'(by omega)).2 := by
      have h6 : Ls[i]? = some (ps[i]'(by omega)).2 := by simp only [← h1, List.getElem?_map, hp]; rfl
      simp only [List.getD, h6]; rfl
    obtain ⟨e1, e2⟩ := fscells_at ps i _ hp
    refine ⟨g, cap, (ps[i]'(by omega)).1, rfl, blk_lt hg, fun W hW => ⟨?_, ?_⟩, by rw [he]; exact h3 _ (List.getElem_mem _)⟩
    · rw [hW.cell (p := ⟨g, i * 2, none⟩) (blk_lt hg), blk_cell hg, he, ← e1, ← ht, List.getElem?_take, if_pos (by omega)]
      simp
    · rw [hW.cell (p := ⟨g, i * 2 + 1, none⟩) (blk_lt hg), blk_cell hg, ← e2, ← ht, List.getElem?_take, if_pos (by omega)]
      simp
theorem infoFs : (Tryz.prog.info? 26).map (fun i => (i.zero, i.size, i.bytes)) = some (some (.agg #[.int .i64 0, .slice none 0 0]), 2, 32) := by kernel_rfl
theorem tyFs : (2 : TypeId) ≠ 26 := by decide
theorem rd_litFs (w : World) (k : Int) (u : Value) (t : TypeId) : Rd (w.alloc (.cells #[.int .i64 k, u] t)) 2 (.slice (some ⟨w.heap.size, 0, none⟩) 1 1) 1 [.int .i64 k, u] := by
  refine ⟨rfl, by omega, .inr ⟨w.heap.size, 0, 1, rfl, by omega, by omega, by simp, fun j x hx => ?_⟩⟩
  have hj : j = 0 ∨ j = 1 := by
    have := (List.getElem?_eq_some_iff.1 hx).1
    simp at this
    omega
  rcases hj with rfl | rfl
  · simp at hx; subst hx; simp
  · simp at hx; subst hx; simp
theorem wpList_appFs {ops : Array Oper} {rest : List Oper} {o : Oper} {a : Act} {Q : Exit → Act → World → Prop} {w : World} (B : Nat) (s x : Operand) (hgd : o.guard = none)
    (ho : o.op = .call { callee := .builtin .append, args := #[s, x], argTypes := #[48, 48] })
    (v : Value) (Ls : List (List Nat)) (hs : a.eval s = v) (hown : OwnFs w B v Ls) (hB : B ≤ w.heap.size) (vx : Value) (qs : List (Value × List Nat)) (hx : a.eval x = vx) (hr : Rd w 2 vx qs.length (fscells qs)) (hu : ∀ p ∈ qs, OwnI w B p.1 (zs p.2)) (hn : Ls.length + qs.length ≤ 1048577)
    (h : ∀ v' w', OwnFs w' B v' (Ls ++ qs.map (fun p => p.2)) → w.grownBy w' v.ownBlock → (v'.ownBlock = v.ownBlock ∨ v'.ownBlock = some w.heap.size) → wpList Tryz.prog ops Q rest (a.put o.dst v') w') : wpList Tryz.prog ops Q (o :: rest) a w := by
  obtain ⟨i0, hi0, hz0, hz1, hz2⟩ := info_parts infoFs
  obtain ⟨ps, h1, h2, h3⟩ := hown
  have hone : ∀ u ∈ fscells qs, u.oneCell' = true := by
    intro u hu1
    unfold fscells at hu1
    obtain ⟨p, hp, hq⟩ := List.mem_flatMap.1 hu1
    simp at hq
    rcases hq with rfl | rfl
    · rfl
    · obtain ⟨A, c, hA⟩ := ints_sliceN (hu p hp).ints
      rw [hA]
      rfl
  refine wpList_append_rd w hgd s x _ ho B 26 i0 _ 2 32 Tryz.underlying48 hi0 hz0 hz1 hz2 rfl (by omega) v Ls.length (fscells ps) hs h2 vx qs.length (fscells qs) hx hr hone (by unfold maxLen; omega) (by omega) hB ?_
  intro v' w' k1 k2 k3
  refine h v' w' ⟨ps ++ qs, by rw [List.map_append, h1], ?_, fun p hp => ?_⟩ k2 k3
  · rw [List.length_append, List.length_map, fscells_append]
    exact k1
  · rcases List.mem_append.1 hp with hp | hp
    · exact kept_of (h3 p hp) k2 (types_ne (h3 p hp) h2 tyFs)
    · exact kept_of (hu p hp) k2 (types_ne (hu p hp) h2 tyFs)
theorem OwnFs.rd {w : World} {B : Nat} {v : Value} {Ls : List (List Nat)} (h : OwnFs w B v Ls) : ∃ qs : List (Value × List Nat), qs.map (fun p => p.2) = Ls ∧ qs.length = Ls.length ∧ Rd w 2 v qs.length (fscells qs) ∧ ∀ p ∈ qs, OwnI w B p.1 (zs p.2) := by
  obtain ⟨ps, h1, h2, h3⟩ := h
  have hl : ps.length = Ls.length := by rw [← h1, List.length_map]
  exact ⟨ps, h1, hl, by rw [hl]; exact Rd.of_own h2, h3⟩
end Go.Proofs.YtpfncncohnhanaaGreatDoor


/- Ascending rows: what is left when a sorted list of rows loses its doubles (plain). -/
namespace Go.Proofs.YtpfncncohnhanaaGreatDoor
open Go.RowKit

def Asc (K : List (List Nat)) : Prop := K.Pairwise (fun a b => lessL a b = true)
def AscD (K : List (List Nat)) : Prop := K.Pairwise (fun a b => lessL b a = false)
structure Comp (P Q : List (List Nat)) : Prop where
  asc : Asc P
  mem : ∀ x, x ∈ P ↔ x ∈ Q
  last : P.getLast? = Q.getLast?
theorem Comp.skip {P Q : List (List Nat)} {x : List Nat} (h : Comp P Q) (hx : Q.getLast? = some x) : Comp P (Q ++ [x]) := by
  refine ⟨h.asc, fun y => ?_, by rw [h.last, hx]; simp⟩
  rw [h.mem y, List.mem_append, List.mem_singleton]
  constructor
  · exact .inl
  · rintro (h1 | rfl)
    · exact h1
    · exact List.mem_of_getLast? hx
theorem asc_last : ∀ {P : List (List Nat)} {y : List Nat}, Asc P → P.getLast? = some y → ∀ p ∈ P, p = y ∨ lessL p y = true
  | [], _, _, h, _, _ => by simp at h
  | [a], y, _, h, p, hp => by
    simp at h hp
    left
    rw [hp, h]
  | a :: b :: r, y, hA, h, p, hp => by
    have h1 : (b :: r).getLast? = some y := by simpa using h
    rcases List.mem_cons.1 hp with rfl | hp
    · have hy := List.mem_of_getLast? h1
      exact .inr ((List.pairwise_cons.1 hA).1 y hy)
    · exact asc_last (List.pairwise_cons.1 hA).2 h1 p hp
theorem Comp.keep {P Q : List (List Nat)} {x y : List Nat} (h : Comp P Q) (hy : Q.getLast? = some y) (hl : lessL y x = true) : Comp (P ++ [x]) (Q ++ [x]) := by
  refine ⟨?_, fun z => by rw [List.mem_append, List.mem_append, h.mem z], by simp⟩
  unfold Asc
  rw [List.pairwise_append]
  refine ⟨h.asc, List.pairwise_singleton _ _, fun p hp z hz => ?_⟩
  rw [List.mem_singleton] at hz
  subst hz
  rcases asc_last h.asc (h.last.trans hy) p hp with rfl | h2
  · exact hl
  · exact lessL_trans h2 hl
theorem Comp.refl {P : List (List Nat)} (h : Asc P) : Comp P P := ⟨h, fun _ => Iff.rfl, rfl⟩
theorem asc_keep {P : List (List Nat)} {x y : List Nat} (h : Asc P) (hy : P.getLast? = some y) (hl : lessL y x = true) : Asc (P ++ [x]) := (Comp.keep (Comp.refl h) hy hl).asc

def rws (f : Nat → Value × List Nat) (n : Nat) : List (List Nat) := (List.range n).map fun i => (f i).2
theorem rws_succ (f : Nat → Value × List Nat) (n : Nat) : rws f (n + 1) = rws f n ++ [(f n).2] := by simp [rws, List.range_succ]
theorem rws_len (f : Nat → Value × List Nat) (n : Nat) : (rws f n).length = n := by simp [rws]
theorem rws_congr {f g : Nat → Value × List Nat} {n : Nat} (h : ∀ i, i < n → f i = g i) : rws f n = rws g n := List.map_congr_left fun i hi => by rw [h i (List.mem_range.1 hi)]
theorem rws_last (f : Nat → Value × List Nat) (n : Nat) (h : 0 < n) : (rws f n).getLast? = some (f (n - 1)).2 := by
  obtain ⟨m, rfl⟩ : ∃ m, n = m + 1 := ⟨n - 1, by omega⟩
  rw [rws_succ]
  simp
theorem rws_get {f : Nat → Value × List Nat} {n i : Nat} (h : i < n) : (rws f n).getD i [] = (f i).2 := by simp [rws, List.getD, h]

theorem less_of {a b : List Nat} (h : lessL b a = false) (hne : a ≠ b) : lessL a b = true := by
  cases hl : lessL a b with
  | true => rfl
  | false => exact absurd (lessL_tri hl h) hne
theorem lessL_ntrans {x y z : List Nat} (h1 : lessL x y = false) (h2 : lessL y z = false) : lessL x z = false := by
  cases hl : lessL x z with
  | false => rfl
  | true =>
    by_cases hxy : x = y
    · subst hxy
      rw [hl] at h2
      cases h2
    · have h3 := less_of h1 (Ne.symm hxy)
      rw [lessL_trans h3 hl] at h2
      cases h2

theorem rows_exist {p : Value → List Nat → Prop} : ∀ (us : List Value) (Ls : List (List Nat)), us.length = Ls.length → (∀ j, j < Ls.length → p (us.getD j (.bool false)) (Ls.getD j [])) →
    ∃ ds : List {q : Value × List Nat // p q.1 q.2}, ds.map (fun q => q.1.1) = us ∧ ds.map (fun q => q.1.2) = Ls
  | [], [], _, _ => ⟨[], rfl, rfl⟩
  | [], _ :: _, h, _ => by simp at h
  | _ :: _, [], h, _ => by simp at h
  | u :: us, L :: Ls, h, hp => by
    obtain ⟨ds, h1, h2⟩ := rows_exist us Ls (by simpa using h) (fun j hj => by have := hp (j + 1) (by simpa using hj); simpa using this)
    have h0 : p u L := by have := hp 0 (by simp); simpa using this
    exact ⟨⟨(u, L), h0⟩ :: ds, by simp [h1], by simp [h2]⟩
theorem perm_of_in {α : Type} [Inhabited α] {d d' : Array α} (h : Sort.PermIn 0 d.size d d') : d'.toList.Perm d.toList := by
  obtain ⟨h1, _, h3⟩ := h
  have e1 : (d'.extract 0 d.size) = d' := by rw [← h1]; simp
  have e2 : (d.extract 0 d.size) = d := by simp
  rwa [e1, e2] at h3
theorem pairs_of_in {α : Type} [Inhabited α] {lt : α → α → Bool} {d : Array α} {n : Nat} (hn : n = d.size) (h : Sort.SortedIn lt 0 n d) : d.toList.Pairwise (fun a b => lt b a = false) := by
  subst hn
  rw [List.pairwise_iff_getElem]
  intro i j hi hj hij
  have := h i j (Nat.zero_le _) hij (by simpa using hj)
  rw [getElem!_pos d j (by simpa using hj), getElem!_pos d i (by simpa using hi)] at this
  simpa using this
end Go.Proofs.YtpfncncohnhanaaGreatDoor


/- The program's numbering anew: reordered. -/
namespace Go.Proofs.YtpfncncohnhanaaGreatDoor
open Go.RowKit

def prK (f : Nat → Nat) (L : List Nat) : Nat → Nat
  | 0 => 0
  | k + 1 => prK f L k ||| 2 ^ f (nt L k)
theorem prK_bit (f : Nat → Nat) (L : List Nat) : ∀ k j, (prK f L k).testBit j = true ↔ ∃ i, i < k ∧ f (nt L i) = j
  | 0, j => by
    show (0 : Nat).testBit j = true ↔ _
    rw [Nat.zero_testBit]
    constructor
    · intro h; cases h
    · rintro ⟨i, h, _⟩; omega
  | k + 1, j => by
    show (prK f L k ||| 2 ^ f (nt L k)).testBit j = true ↔ _
    rw [Nat.testBit_or, Bool.or_eq_true, prK_bit f L k j, Nat.testBit_two_pow, decide_eq_true_eq]
    constructor
    · rintro (⟨i, h1, h2⟩ | h)
      · exact ⟨i, by omega, h2⟩
      · exact ⟨k, by omega, h⟩
    · rintro ⟨i, h1, h2⟩
      by_cases hi : i = k
      · subst hi; exact .inr h2
      · exact .inl ⟨i, by omega, h2⟩
theorem prK_all {A O : List Nat} {f : Nat → Nat} {n x : Nat} (hA : Rl A) (hl : A.length = n) (hO : IsPm n O) (hf : ∀ i, i < n → f (nt O i) = i) (hx : x < n) :
    prK f (mbs (nt A x)) (mbs (nt A x)).length = sqK (nt A x) O n := by
  have hm : nt A x < 1073741824 := hA.sm.at_ (by omega)
  apply Nat.eq_of_testBit_eq
  intro j
  rw [Bool.eq_iff_iff, prK_bit, sqK_bit, Bool.and_eq_true, decide_eq_true_eq]
  constructor
  · rintro ⟨i, h1, rfl⟩
    have h2 := (mbs_mem hm).1 (nt_mem h1)
    have h3 : nt (mbs (nt A x)) i < n := by rw [← hl]; exact hA.bit (by omega) h2
    obtain ⟨k, hk, he⟩ := hO.hit h3
    rw [← he, hf k hk]
    exact ⟨hk, by rw [he]; exact h2⟩
  · rintro ⟨h1, h2⟩
    obtain ⟨i, hi, he⟩ := mem_nt ((mbs_mem hm).2 h2)
    exact ⟨i, hi, by rw [he, hf j h1]⟩
theorem prK_sm {f : Nat → Nat} {L : List Nat} (h : ∀ y ∈ L, f y < 30) : ∀ k, k ≤ L.length → prK f L k < 1073741824
  | 0, _ => by show 0 < _; omega
  | k + 1, hk => or_sm (prK_sm h k (by omega)) (pow30 (h _ (nt_mem (by omega))))

set_option maxHeartbeats 2000000 in
theorem reordered_c (v u : Value) (A O : List Nat) (w : World) (h : Ints w v (zs A)) (hu : Ints w u (zs O)) (hA : Rl A) (hO : IsPm A.length O) (hn : A.length ≤ 6) :
    Calls Tryz.prog 105 #[v, u] w (GivesI w (zs (reo A O))) := by
  have hmk := fun W => run_make_rows (P := Tryz.prog) 24 2 (.int .i64 0) 1 8 #[.int .i64 0] Tryz.underlying24 Tryz.infoI rfl .i64 .i64 A.length (by omega) (by omega) W
  rw [Nat.mul_one] at hmk
  have HNR := Lib.hid (fun W : World => (show NRow (W.alloc (.cells (madeCells #[Value.int .i64 0] A.length) 2)) W.heap.size A.length A.length (fun _ => 0) from ⟨_, blk_new W _, size_madeCells _ _, Nat.le_refl _, by omega, fun i hi => made_z hi⟩))
  have HOL := Lib.hid hO.1
  have HOI := Lib.hid (fun i (hi : i < A.length) => hO.2.2 _ (nt_mem (by rw [hO.1]; exact hi)))
  have HIN := Lib.hid (fun i j (hi : i < A.length) (hj : j < A.length) (he : nt O i = nt O j) => nodup_inj hO.2.1 (by rw [hO.1]; exact hi) (by rw [hO.1]; exact hj) he)
  have HM := Lib.hid (fun x (hx : x < A.length) => membersOf_c (nt A x) (hA.sm.at_ hx))
  have HMB := Lib.hid (fun x (hx : x < A.length) y (hy : y ∈ mbs (nt A x)) => hA.bit hx ((mbs_mem (hA.sm.at_ hx)).1 hy))
  have HPA := Lib.hid (fun (f : Nat → Nat) x (hf : ∀ i, i < A.length → f (nt O i) = i) (hx : x < A.length) => prK_all hA rfl hO hf hx)
  have HRN := Lib.hid (fun i (hi : i < A.length) => (show nt (reo A O) i = sqK (nt A (nt O i)) O A.length by rw [reo_nt (by rw [hO.1]; exact hi), hO.1]))
  have HHI := Lib.hid (fun x (hx : x < A.length) => hO.hit hx)
  have HRE : Hid (reo A O = (List.range A.length).map (nt (reo A O))) := Lib.hid (by
    apply List.ext_getElem
    · simp [reo, hO.1]
    · intro i h1 h2
      rw [nt_get h1]
      simp)
  have HOR := Lib.hid (fun a k (ha : a < 1073741824) (h : k < 30) => or_i64 a (2 ^ k) (by omega) (Nat.lt_trans (pow30 h) (by omega)))
  have HMC := Lib.hid (fun x (hx : x < A.length) => mbs_len (nt A x))
  obtain ⟨A1, c1, rfl⟩ := ints_sliceN h
  obtain ⟨A2, c2, rfl⟩ := ints_sliceN hu
  have HC := Lib.hid (fun h0 => cellsN h h0)
  have HD := Lib.hid (fun h0 => cellsN hu h0)
  rw [hO.1] at HD ⊢
  clear h hu hA hO
  generalize hnn : A.length = n at *
  clear hnn
  generalize reo A O = R at *
  generalize madeCells #[Value.int .i64 0] n = cur0 at *
  go_enter Tryz.func105, Tryz.ntmps105
  go_wp2_with fail
  have hg1 := (Grew.refl w).alloc (.cells cur0 2)
  have HR1 := Lib.hid (HNR.out w)
  go_loopw [6, 7, 18] (fun _ _ i wr => ∃ (k : Nat) (f : Nat → Nat), k ≤ n ∧ i = .int .i64 k ∧ Hid (NRow wr w.heap.size n n f) ∧ Hid (∀ j, j < k → f (nt O j) = j) ∧ Grew w wr) (fun _ _ i _ => n - (intOf i).toNat)
  case atStart => exact ⟨0, _, by omega, rfl, HR1, Lib.hid (fun j hj => absurd hj (by omega)), hg1⟩
  clear HR1 hg1
  case round =>
    obtain ⟨k, f, hk, rfl, hR, hK, hB⟩ := hrel
    by_cases hlt : k < n
    · obtain ⟨b, o, rfl, hcell⟩ := HD.out (by omega)
      have k1 := hcell k hlt _ hB
      have hx := HOI.out k hlt
      have c4 := hR.out.cell hx
      have f4 := hR.out.free (nt O k)
      have e1 : (fun q => if q = nt O k then k else f q) (nt O k) = k := if_pos rfl
      have e2 : ∀ q, q < n → q ≠ nt O k → (fun q => if q = nt O k then k else f q) q = f q := fun q _ hq => if_neg hq
      have hR2 := Lib.hid (hR.out.set hx e1 e2)
      have hK2 : Hid (∀ j, j < k + 1 → (fun q => if q = nt O k then k else f q) (nt O j) = j) := Lib.hid (fun j hj => by
        by_cases hjk : j = k
        · subst hjk; exact if_pos rfl
        · have hne : nt O j ≠ nt O k := fun he => hjk (HIN.out j k (by omega) hlt he)
          show (if nt O j = nt O k then k else f (nt O j)) = j
          rw [if_neg hne]
          exact hK.out j (by omega))
      clear e1 e2 hcell
      generalize nt O k = x at *
      go_wp2_with fail
      go_roundw
      case rel => exact ⟨k + 1, _, by omega, by go_num, hR2, hK2, hB.setCell (Nat.le_refl _) _⟩
      case measure => simp [intOf]; omega
    · obtain rfl : k = n := by omega
      have HF := Lib.hid hK.out
      have HR0 := Lib.hid hR.out
      clear hR hK
      generalize wr = wm at *
      have hgm := (Grew.refl wm).alloc (.cells cur0 2)
      have HR1 := Lib.hid (HNR.out wm)
      have HR2 := Lib.hid (HR0.out.grew hgm)
      have hBm := hB.trans hgm
      have hgo := HR0.out.lt
      go_wp2_with fail
      go_loopw [9, 10, 12, 33, 42, 43, 44] (fun _ _ _ i _ _ _ wr => ∃ (j : Nat) (g : Nat → Nat), j ≤ k ∧ i = .int .i64 j ∧ Hid (NRow wr wm.heap.size k k g) ∧ Hid (∀ q, q < j → g q = nt R q) ∧ Hid (∀ q, j ≤ q → q < k → g q = 0) ∧ Hid (NRow wr w.heap.size k k f) ∧ Grew w wr) (fun _ _ _ i _ _ _ _ => k - (intOf i).toNat)
      case atStart => exact ⟨0, _, by omega, rfl, HR1, Lib.hid (fun q hq => absurd hq (by omega)), Lib.hid (fun q _ _ => rfl), HR2, hBm⟩
      clear HR1 HR2 hgm hBm
      case round =>
        obtain ⟨j, g, hj, rfl, hG, hgA, hgZ, hT, hB2⟩ := hrel
        by_cases hlj : j < k
        · obtain ⟨b, o, rfl, hcell⟩ := HD.out (by omega)
          have k1 := hcell j hlj _ hB2
          have hx := HOI.out j hlj
          obtain ⟨b2, o2, rfl, hcell2⟩ := HC.out (by omega)
          have k2 := hcell2 _ hx _ hB2
          have hM := Lib.hid (HM.out _ hx)
          have hMB := Lib.hid (HMB.out _ hx)
          have hPA := Lib.hid (HPA.out f _ HF.out hx)
          have hRN := Lib.hid (HRN.out j hlj)
          have hml := HMC.out _ hx
          have hFL := Lib.hid (fun y (hy : y ∈ mbs (nt A (nt O j))) => (show f y < k by obtain ⟨i, hi, he⟩ := HHI.out y (hMB.out y hy); rw [← he, HF.out i hi]; exact hi))
          clear hcell hcell2
          generalize nt O j = x at *
          generalize nt A x = m at *
          go_wp2_with fail
          refine (hM.out _).mono ?_
          rintro e w4 ⟨v4, rfl, hO4, hg4⟩
          obtain ⟨A4, c4, rfl⟩ := ints_sliceN hO4.ints
          have hlw0 := hG.out.lt
          have HE := Lib.hid (fun h0 => cellsO hO4 h0)
          have hB4 := hB2.trans hg4
          have hlw := hG.out.lt
          have hG4 : Hid (NRow w4 wm.heap.size k k (fun q => if q = j then prK f (mbs m) 0 else g q)) := Lib.hid (by
            have h0 := hG.out.grew hg4
            obtain ⟨cur, q1, q2, q3, q4, q5⟩ := h0
            refine ⟨cur, q1, q2, q3, q4, fun i hi => ?_⟩
            rw [q5 i hi]
            by_cases hij : i = j
            · subst hij
              rw [hgZ.out i (Nat.le_refl _) hi]
              simp [prK]
            · simp [hij])
          have hT4 := Lib.hid (hT.out.grew hg4)
          have hwg := hO4.lt
          clear hO4 hG hT
          generalize hLL : mbs m = L at *
          clear hLL
          generalize hNL : L.length = nl at *
          have HNL := Lib.hid hNL
          clear hNL
          generalize wr = wi at *
          go_wp2_with fail
          go_loopw [12, 44] (fun _ i wr => ∃ q : Nat, q ≤ nl ∧ i = .int .i64 q ∧ Hid (NRow wr wm.heap.size k k (fun z => if z = j then prK f L q else g z)) ∧ Hid (NRow wr w.heap.size k k f) ∧ Only wm.heap.size w4 wr) (fun _ i _ => nl - (intOf i).toNat)
          case atStart => exact ⟨0, by omega, rfl, hG4, hT4, Only.refl _ _⟩
          clear hG4 hT4
          case round =>
            obtain ⟨q, hq, rfl, hG5, hT5, hU5⟩ := hrel
            by_cases hlq : q < nl
            · obtain ⟨b4, rfl, hb4, hb4w, hc4⟩ := HE.out (by omega)
              have hne : b4 ≠ wm.heap.size := by omega
              have k4 := (hU5.cell (p := ⟨b4, q, none⟩) hb4w hne).trans (hc4 q (by omega))
              have hyL : nt L q ∈ L := nt_mem (by rw [HNL.out]; exact hlq)
              have hyk := hMB.out _ hyL
              have hfy := hFL.out _ hyL
              have hsm : prK f L q < 1073741824 := prK_sm (fun y hy => by have := hFL.out y hy; omega) q (by rw [HNL.out]; exact hq)
              have ho := HOR.out (prK f L q) (f (nt L q)) hsm (by omega)
              have hp := wrap_pow (k := f (nt L q)) (by omega)
              have hst : Hid (prK f L (q + 1) = prK f L q ||| 2 ^ f (nt L q)) := Lib.hid rfl
              have c1 : ∀ W, Grew wr W → W.cell? ⟨wm.heap.size, j, none⟩ = some (.int .i64 ((prK f L q : Nat) : Int)) := fun W hW => by
                have h0 := (hG5.out.grew hW).cell hlj
                rw [if_pos rfl] at h0
                exact h0
              have c2 : ∀ W, Grew wr W → W.cell? ⟨w.heap.size, nt L q, none⟩ = some (.int .i64 ((f (nt L q) : Nat) : Int)) := fun W hW => (hT5.out.grew hW).cell hyk
              have c3 : ∀ W, Grew wr W → W.frozen? ⟨wm.heap.size, j, none⟩ = false := fun W hW => (hG5.out.grew hW).free j
              have e1 : (fun z => if z = j then prK f L (q + 1) else g z) j = prK f L (q + 1) := if_pos rfl
              have e2 : ∀ z, z < k → z ≠ j → (fun z => if z = j then prK f L (q + 1) else g z) z = (fun z => if z = j then prK f L q else g z) z := fun z _ hz => by
                show (if z = j then prK f L (q + 1) else g z) = (if z = j then prK f L q else g z)
                rw [if_neg hz, if_neg hz]
              have hG6 := (hG5.out.set hlj e1 e2).grew (Grew.refl _).drew
              rw [hst.out] at hG6
              have hU6 : Only wm.heap.size w4 (wr.setCell ⟨wm.heap.size, j, none⟩ (.int .i64 ((prK f L (q + 1) : Nat) : Int))).drew := (hU5.setCell _).drew
              have hwne : w.heap.size ≠ wm.heap.size := by omega
              have hT6 : NRow (wr.setCell ⟨wm.heap.size, j, none⟩ (.int .i64 ((prK f L (q + 1) : Nat) : Int))).drew w.heap.size k k f := by
                obtain ⟨cur, z1, z2⟩ := hT5.out
                exact ⟨cur, (Below.heap_setCell wr ⟨wm.heap.size, j, none⟩ _ _ hwne).trans z1, z2⟩
              rw [hst.out] at hU6 hT6
              have HX := Lib.hid (And.intro hG6 (And.intro hU6 hT6))
              have i1 : (0 : Int) ≤ (j : Int) := by omega
              have i2 : (j : Int) < (k : Int) := by omega
              have i3 : (0 : Int) ≤ ((nt L q : Nat) : Int) := by omega
              have i4 : ((nt L q : Nat) : Int) < (k : Int) := by omega
              have r1 := Grew.refl wr
              have r2 := (Grew.refl wr).drew
              have HST := Lib.hid hst.out
              clear e1 e2 hG6 hU6 hT6 hst hc4 hyL hsm
              generalize nt L q = y at *
              generalize f y = fy at *
              obtain ⟨P, hP⟩ : ∃ P, P = 2 ^ fy := ⟨_, rfl⟩
              rw [← hP] at ho hp HX HST
              clear hP
              generalize prK f L q = pr at *
              go_wp2_with fail
              go_region
              go_wp2_with fail
              go_roundw
              case rel => exact ⟨q + 1, by omega, by go_num, Lib.hid (by rw [HST.out]; exact HX.out.1), Lib.hid HX.out.2.2, HX.out.2.1⟩
              case measure => simp [intOf]; omega
            · obtain rfl : q = nl := by omega
              have hB5 := hU5.grew_of hB4 (by have := hB.size; omega)
              have hj1 : Hid (∀ z, z < j + 1 → (fun z => if z = j then prK f L q else g z) z = nt R z) := Lib.hid (fun z hz => by
                show (if z = j then prK f L q else g z) = nt R z
                by_cases hzj : z = j
                · rw [if_pos hzj, hzj, hRN.out, ← hPA.out]
                · rw [if_neg hzj]
                  exact hgA.out z (by omega))
              have hj2 : Hid (∀ z, j + 1 ≤ z → z < k → (fun z => if z = j then prK f L q else g z) z = 0) := Lib.hid (fun z h1 h2 => by
                show (if z = j then prK f L q else g z) = 0
                rw [if_neg (by omega)]
                exact hgZ.out z (by omega) h2)
              go_wp2_with fail
              go_roundw
              case rel => exact ⟨j + 1, _, by omega, by go_num, hG5, hj1, hj2, hT5, hB5⟩
              case measure => simp [intOf]; omega
        · obtain rfl : j = k := by omega
          have hRR : Hid ((List.range j).map g = R) := Lib.hid (by
            rw [HRE.out]
            refine List.map_congr_left fun i hi => ?_
            exact hgA.out i (List.mem_range.1 hi))
          go_wp2_with fail
          go_ret
          refine ⟨_, rfl, ?_, hB2⟩
          rw [← hRR.out]
          exact hG.out.own hB.size
end Go.Proofs.YtpfncncohnhanaaGreatDoor


/- The program's least form: permutations (with the callback of leastRelation), leastRelation. -/
namespace Go.Proofs.YtpfncncohnhanaaGreatDoor
open Go.RowKit

theorem wpList_appIBL {ops : Array Oper} {rest : List Oper} {o : Oper} {a : Act} {Q : Exit → Act → World → Prop} {w : World} (B : Nat) (s x : Operand) (hgd : o.guard = none)
    (ho : o.op = .call { callee := .builtin .append, args := #[s, x], argTypes := #[24, 24] })
    (v : Value) (L : List Int) (hs : a.eval s = v) (hown : OwnI w B v L) (hB : B ≤ w.heap.size) (vx : Value) (k : Int) (hx : a.eval x = vx) (hr : Rd w 1 vx 1 [.int .i64 k]) (hn : L.length ≤ 1048576)
    (h : ∀ v' w', OwnI w' B v' (L ++ [k]) → w.grownBy w' v.ownBlock → (v'.ownBlock = v.ownBlock ∨ v'.ownBlock = some w.heap.size) → wpList Tryz.prog ops Q rest (a.put o.dst v') w') : wpList Tryz.prog ops Q (o :: rest) a w := by
  obtain ⟨i0, hi0, hz0, hz1, hz2⟩ := info_parts Tryz.infoI
  refine wpList_append_rd w hgd s x _ ho B 2 i0 _ 1 8 Tryz.underlying24 hi0 hz0 hz1 hz2 rfl (by omega) v L.length (icells L) hs hown vx 1 [.int .i64 k] hx hr (by simp [Value.oneCell']) (by unfold maxLen; omega) (by omega) hB ?_
  intro v' w' h1 h2 h3
  refine h v' w' ?_ h2 h3
  unfold OwnI
  rw [List.length_append, icells_append]
  exact h1
theorem OwnI.take {w : World} {B n c : Nat} {A : Option Addr} {L : List Int} (h : OwnI w B (.slice A (n + 1) c) L) (hl : L.length = n + 1) : OwnI w B (.slice A n c) (L.take n) := by
  rcases h.2 with ⟨he, _⟩ | ⟨g, c', cur, he, hB, hh, hnc, hcm, hcs, htk⟩
  · cases he
  · injection he with e1 e2 e3
    subst e1 e3
    have h2 := own_irow (w := w) (B := B) (c := c) (A := some ⟨g, 0, none⟩) (L := L) (by rw [hl]; exact h) (by omega)
    obtain ⟨g', cur', he', hB', hh', hcs', hall⟩ := h2
    injection he' with he'
    injection he' with he'
    subst he'
    have hlt : (L.take n).length = n := by rw [List.length_take]; omega
    have hk := OwnI.mk_ (L := L.take n) hB' hh' (by rw [hlt]; omega) hcs'.2.1 hcs'.2.2 (fun i hi => by
      rw [hlt] at hi
      rw [hall i (by omega)]
      simp [it, List.getD, hi])
    rwa [hlt] at hk

structure GS (w0 : World) (A : List Nat) (bA bB bN bF bO bG Bo : Nat) (va vF vG : Value) (W : World) (o : List Nat) (vO : Value) (b : List Nat) (vb : Value) : Prop where
  grew : Grew w0 W
  hA : W.heap[bA]? = some (.cells #[va] 24 (0, 0))
  hB : W.heap[bB]? = some (.cells #[vb] 24 (0, 0))
  hN : W.heap[bN]? = some (.cells #[.int .i64 (A.length : Int)] 2 (0, 0))
  hF : W.heap[bF]? = some (.cells #[vF] 122 (0, 0))
  hO : W.heap[bO]? = some (.cells #[vO] 24 (0, 0))
  hG : W.heap[bG]? = some (.cells #[vG] 155 (0, 0))
  own : OwnI W Bo vO (zs o)
  best : OwnI W w0.heap.size vb (zs b)
  apart : ∀ g, vO.ownBlock = some g → vb.ownBlock ≠ some g
  len : b.length = A.length
theorem blk_ltM {w : World} {k : Nat} {o : Obj} (h : w.heap[k]? = some o) : k < w.heap.size := (Array.getElem?_eq_some_iff.1 h).1
section
variable {w0 : World} {A : List Nat} {bA bB bN bF bO bG Bo : Nat} {va vF vG : Value}
theorem GS.up {W W' : World} {o b : List Nat} {vO vb : Value} (h : GS w0 A bA bB bN bF bO bG Bo va vF vG W o vO b vb) (hg : Grew W W') : GS w0 A bA bB bN bF bO bG Bo va vF vG W' o vO b vb :=
  ⟨h.grew.trans hg, (hg.block (blk_ltM h.hA)).trans h.hA, (hg.block (blk_ltM h.hB)).trans h.hB, (hg.block (blk_ltM h.hN)).trans h.hN, (hg.block (blk_ltM h.hF)).trans h.hF, (hg.block (blk_ltM h.hO)).trans h.hO, (hg.block (blk_ltM h.hG)).trans h.hG, h.own.grew hg, h.best.grew hg, h.apart, h.len⟩
structure BX (w0 : World) (bA bB bN bF bO bG Bo : Nat) : Prop where
  a0 : w0.heap.size ≤ bA
  b0 : w0.heap.size ≤ bB
  o0 : w0.heap.size ≤ bO
  ab : bA ≠ bB
  nb : bN ≠ bB
  fb : bF ≠ bB
  ob : bO ≠ bB
  gb : bG ≠ bB
  ao : bA ≠ bO
  no : bN ≠ bO
  fo : bF ≠ bO
  go : bG ≠ bO
  na : bN < Bo
  bo : Bo ≤ bO
  wB : w0.heap.size ≤ Bo
theorem GS.setB {W : World} {o b b' : List Nat} {vO vb vb' : Value} (h : GS w0 A bA bB bN bF bO bG Bo va vF vG W o vO b vb) (hx : BX w0 bA bB bN bF bO bG Bo) (hb : OwnI W w0.heap.size vb' (zs b')) (hap : ∀ g, vO.ownBlock = some g → vb'.ownBlock ≠ some g) (hl : b'.length = A.length) :
    GS w0 A bA bB bN bF bO bG Bo va vF vG (W.setCell ⟨bB, 0, none⟩ vb') o vO b' vb' := by
  have hk : Only bB W (W.setCell ⟨bB, 0, none⟩ vb') := (Only.refl _ _).setCell _
  have hne : ∀ (v : Value) (B : Nat) (L : List Int), OwnI W B v L → v.ownBlock ≠ some bB := fun v B L ho he => by
    have := own_ne ho h.hB (by decide : (2 : TypeId) ≠ 24)
    exact this he
  exact ⟨h.grew.setCell hx.b0 _, (hk.block (blk_ltM h.hA) hx.ab).trans h.hA, blk_set h.hB 0 _, (hk.block (blk_ltM h.hN) hx.nb).trans h.hN, (hk.block (blk_ltM h.hF) hx.fb).trans h.hF, (hk.block (blk_ltM h.hO) hx.ob).trans h.hO, (hk.block (blk_ltM h.hG) hx.gb).trans h.hG,
    own_only h.own hk (hne _ _ _ h.own), own_only hb hk (hne _ _ _ hb), hap, hl⟩
theorem GS.setO {W : World} {o o' b : List Nat} {vO vO' vb : Value} (h : GS w0 A bA bB bN bF bO bG Bo va vF vG W o vO b vb) (hx : BX w0 bA bB bN bF bO bG Bo) (hb : OwnI W Bo vO' (zs o')) (hap : ∀ g, vO'.ownBlock = some g → vb.ownBlock ≠ some g) :
    GS w0 A bA bB bN bF bO bG Bo va vF vG (W.setCell ⟨bO, 0, none⟩ vO') o' vO' b vb := by
  have hk : Only bO W (W.setCell ⟨bO, 0, none⟩ vO') := (Only.refl _ _).setCell _
  have hne : ∀ (v : Value) (B : Nat) (L : List Int), OwnI W B v L → v.ownBlock ≠ some bO := fun v B L ho he => by
    have := own_ne ho h.hO (by decide : (2 : TypeId) ≠ 24)
    exact this he
  exact ⟨h.grew.setCell hx.o0 _, (hk.block (blk_ltM h.hA) hx.ao).trans h.hA, (hk.block (blk_ltM h.hB) hx.ob.symm).trans h.hB, (hk.block (blk_ltM h.hN) hx.no).trans h.hN, (hk.block (blk_ltM h.hF) hx.fo).trans h.hF, blk_set h.hO 0 _, (hk.block (blk_ltM h.hG) hx.go).trans h.hG,
    own_only hb hk (hne _ _ _ hb), own_only h.best hk (hne _ _ _ h.best), hap, h.len⟩
theorem GS.app {W W' : World} {o b : List Nat} {vO vb vO' : Value} {L : List Int} (h : GS w0 A bA bB bN bF bO bG Bo va vF vG W o vO b vb) (hx : BX w0 bA bB bN bF bO bG Bo) (_hB : Bo ≤ W.heap.size) (hg : W.grownBy W' vO.ownBlock) (ho : OwnI W' Bo vO' L) (hl : vO'.ownBlock = vO.ownBlock ∨ vO'.ownBlock = some W.heap.size) :
    (∀ o', L = zs o' → GS w0 A bA bB bN bF bO bG Bo va vF vG (W'.setCell ⟨bO, 0, none⟩ vO') o' vO' b vb) ∧ W'.heap[bO]? = some (.cells #[vO] 24 (0, 0)) := by
  have hg0 : Grew w0 W' := h.grew.grown hg (fun g hgg => Nat.le_trans hx.wB (own_of_ge h.own hgg))
  have keep : ∀ {k : Nat} {c : Value} {t : TypeId}, W.heap[k]? = some (.cells #[c] t (0, 0)) → (t ≠ 2 ∨ k < Bo) → W'.heap[k]? = some (.cells #[c] t (0, 0)) := fun {k c t} hk ht => by
    refine (World.grownBy.block hg k (blk_ltM hk) (fun e => ?_)).trans hk
    rcases ht with ht | ht
    · exact own_ne h.own hk (fun he => ht he.symm) e.symm
    · have := own_of_ge h.own e.symm
      omega
  have hb : OwnI W' w0.heap.size vb (zs b) := kept_of h.best hg (fun g hgg => h.apart g hgg)
  have hap : ∀ g, vO'.ownBlock = some g → vb.ownBlock ≠ some g := fun g hgg => by
    rcases hl with hl | hl
    · rw [hl] at hgg; exact h.apart g hgg
    · rw [hl] at hgg
      injection hgg with hgg
      intro he
      have := (h.best.lt g he).2
      omega
  have hOO := keep h.hO (.inl (by decide))
  refine ⟨?_, hOO⟩
  rintro o' rfl
  have hS : GS w0 A bA bB bN bF bO bG Bo va vF vG W' o' vO b vb → True := fun _ => trivial
  have hk : Only bO W' (W'.setCell ⟨bO, 0, none⟩ vO') := (Only.refl _ _).setCell _
  have hne : ∀ (v : Value) (B : Nat) (L : List Int), OwnI W' B v L → v.ownBlock ≠ some bO := fun v B L hoo he => own_ne hoo hOO (by decide : (2 : TypeId) ≠ 24) he
  have h1 := keep h.hA (.inl (by decide))
  have h2 := keep h.hB (.inl (by decide))
  have h3 := keep h.hN (.inr hx.na)
  have h4 := keep h.hF (.inl (by decide))
  have h5 := keep h.hG (.inl (by decide))
  exact ⟨hg0.setCell hx.o0 _, (hk.block (blk_ltM h1) hx.ao).trans h1, (hk.block (blk_ltM h2) hx.ob.symm).trans h2, (hk.block (blk_ltM h3) hx.no).trans h3, (hk.block (blk_ltM h4) hx.fo).trans h4, blk_set hOO 0 _, (hk.block (blk_ltM h5) hx.go).trans h5,
    own_only ho hk (hne _ _ _ ho), own_only hb hk (hne _ _ _ hb), hap, h.len⟩
end

set_option maxHeartbeats 1000000 in
theorem lstCall_c {w0 : World} {A : List Nat} {bA bB bN bF bO bG Bo : Nat} {va vF vG : Value} (hva : Ints w0 va (zs A)) (hA : Rl A) (hn : A.length ≤ 6) (hx : BX w0 bA bB bN bF bO bG Bo) {W : World} {o b : List Nat} {vO vb : Value}
    (h : GS w0 A bA bB bN bF bO bG Bo va vF vG W o vO b vb) (ho : IsPm A.length o) :
    Calls Tryz.prog 104 #[vO, .pointer (some ⟨bA, 0, none⟩), .pointer (some ⟨bB, 0, none⟩)] W fun e W' => (∃ v, e = .returned v) ∧ ∃ vb', GS w0 A bA bB bN bF bO bG Bo va vF vG W' o vO (lstep A b o) vb' := by
  have HR := Lib.hid (reordered_c va vO A o W (hva.grew h.grew) h.own.ints hA ho hn)
  have HC := Lib.hid (fun v4 X (h4 : Ints X v4 (zs (reo A o))) (hg : Grew W X) => slicesCompare_c v4 vb (reo A o) b X h4 (h.best.ints.grew hg))
  have hll : lessL (reo A o) b = decide (cmpL (reo A o) b < 0) := rfl
  have HLT : Hid (lstep A b o = if decide (cmpL (reo A o) b < 0) = true then reo A o else b) := Lib.hid rfl
  have hrl : (reo A o).length = A.length := by rw [reo_len, ho.1]
  have c1 : W.cell? ⟨bA, 0, none⟩ = some va := by rw [blk_cell h.hA]; rfl
  have hbl := blk_ltM h.hB
  have c2 : ∀ X, Grew W X → X.cell? ⟨bB, 0, none⟩ = some vb := fun X hX => by rw [blk_cell ((hX.block hbl).trans h.hB)]; rfl
  have f2 : ∀ X, Grew W X → X.frozen? ⟨bB, 0, none⟩ = false := fun X hX => blk_frozen ((hX.block hbl).trans h.hB) 0
  obtain ⟨A1, n1, rfl⟩ := ints_sliceN hva
  obtain ⟨A2, n2, rfl⟩ := ints_sliceN h.own.ints
  obtain ⟨A3, n3, rfl⟩ := ints_sliceN h.best.ints
  have HGS := Lib.hid h
  have hsz := Nat.le_trans hx.wB (Nat.le_refl _)
  have hlt2 := fun g hg => (h.own.lt g hg).2
  have hW0 := h.grew.size
  have HRL := Lib.hid hrl
  have HXX := Lib.hid hx
  clear h hva hA hll hrl ho hx
  generalize hro : reo A o = R at *
  generalize cmpL R b = q at *
  clear hro
  have r1 := Grew.refl W
  go_enter Tryz.func104, Tryz.ntmps104
  go_wp2_with fail
  refine HR.out.mono ?_
  rintro e w4 ⟨v4, rfl, hO4, hg4⟩
  obtain ⟨A4, n4, rfl⟩ := ints_sliceN hO4.ints
  have hM := Lib.hid (HC.out _ w4 hO4.ints hg4)
  have HO4 := Lib.hid hO4
  clear hO4
  go_wp2_with fail
  refine hM.out.mono ?_
  rintro e w5 ⟨rfl, rfl⟩
  by_cases hlt : q < 0
  · have HX : Hid (lstep A b o = R) := Lib.hid (by rw [HLT.out, decide_eq_true hlt]; rfl)
    go_wp2_with fail
    go_end0
    refine ⟨⟨_, rfl⟩, ?_⟩
    rw [HX.out]
    exact ⟨_, (HGS.out.up hg4).setB HXX.out (HO4.out.base hW0) (fun g hg => by
      intro he
      have h1 := hlt2 g hg
      have h2 := own_of_ge HO4.out he
      omega) HRL.out⟩
  · have HX : Hid (lstep A b o = b) := Lib.hid (by rw [HLT.out, decide_eq_false hlt]; rfl)
    go_wp2_with fail
    go_end0
    refine ⟨⟨_, rfl⟩, ?_⟩
    rw [HX.out]
    exact ⟨_, HGS.out.up hg4⟩
def bK (A : List Nat) (m : Nat) (o b : List Nat) (v : Nat) : List Nat := ((extK o v).flatMap (dfs A.length m)).foldl (lstep A) b
theorem bK_yes {A : List Nat} {m : Nat} {o b : List Nat} {v : Nat} (h : v ∈ o) : bK A m o b (v + 1) = bK A m o b v := by
  unfold bK
  rw [extK_yes h]
theorem bK_no {A : List Nat} {m : Nat} {o b : List Nat} {v : Nat} (h : v ∉ o) : bK A m o b (v + 1) = (dfs A.length m (o ++ [v])).foldl (lstep A) (bK A m o b v) := by
  unfold bK
  rw [extK_no h, List.flatMap_append, List.foldl_append]
  simp
def GSx (w0 : World) (A : List Nat) (bA bB bN bF bO bG Bo : Nat) (va vF vG : Value) (W : World) : Prop := ∃ o vO b vb, GS w0 A bA bB bN bF bO bG Bo va vF vG W o vO b vb
theorem GSx.drew {w0 : World} {A : List Nat} {bA bB bN bF bO bG Bo : Nat} {va vF vG : Value} {W : World} (h : GSx w0 A bA bB bN bF bO bG Bo va vF vG W) : GSx w0 A bA bB bN bF bO bG Bo va vF vG W.drew := by
  obtain ⟨o, vO, b, vb, h⟩ := h
  exact ⟨o, vO, b, vb, h.up (Grew.refl _).drew⟩

theorem OwnI.capI {w : World} {B n c : Nat} {A : Option Addr} {L : List Int} (h : OwnI w B (.slice A (n + 1) c) L) : n + 1 ≤ c := by
  rcases h.2 with ⟨he, _⟩ | ⟨g, c', cur, he, hB, hh, hnc, hcm, hcs, htk⟩
  · cases he
  · injection he with e1 e2 e3
    omega
theorem wrapI_pow {k : Nat} (h : k ≤ 60) : IntKind.i64.wrap (2 ^ k) = ((2 ^ k : Nat) : Int) := by
  have h1 : (2 : Nat) ^ k ≤ 2 ^ 60 := Nat.pow_le_pow_right (by omega) h
  have h2 : ((2 ^ k : Nat) : Int) = 2 ^ k := by rw [Int.natCast_pow]; rfl
  rw [← h2]
  generalize (2 ^ k : Nat) = p at *
  rw [IntKind.wrap_i64]
  omega
theorem sizeI_q (A : Option Addr) (n c : Nat) (_hm : n ≤ 9223372036854775807) (w : World) :
    Calls Tryz.prog 89 #[.slice A n c] w fun e w' => e = .returned (.int .i64 n) ∧ w' = w := by
  go_enter Tryz.func89, Tryz.ntmps89
  go_wp2_with fail
  go_ret
  exact ⟨rfl, rfl⟩
set_option maxHeartbeats 1000000 in
theorem search_c {w0 : World} {A : List Nat} {bA bB bN bF bO bG Bo : Nat} {va vF vG : Value} (hva : Ints w0 va (zs A)) (hA : Rl A) (hn : A.length ≤ 6) (hx : BX w0 bA bB bN bF bO bG Bo)
    (hf : vF = .func (.func 104) #[] #[.pointer (some ⟨bA, 0, none⟩), .pointer (some ⟨bB, 0, none⟩)])
    (hg : vG = .func (.func 152) #[] #[.pointer (some ⟨bO, 0, none⟩), .pointer (some ⟨bN, 0, none⟩), .pointer (some ⟨bF, 0, none⟩), .pointer (some ⟨bG, 0, none⟩)]) :
    ∀ (m : Nat) (o b : List Nat) (vO vb : Value) (used : Nat) (W : World), GS w0 A bA bB bN bF bO bG Bo va vF vG W o vO b vb → o.length + m = A.length → o.Nodup → (∀ x ∈ o, x < A.length) → (∀ j, used.testBit j = decide (j ∈ o)) → used < 64 →
      Calls Tryz.prog 152 #[.int .i64 (used : Int), .pointer (some ⟨bO, 0, none⟩), .pointer (some ⟨bN, 0, none⟩), .pointer (some ⟨bF, 0, none⟩), .pointer (some ⟨bG, 0, none⟩)] W fun e W' =>
        (∃ v, e = .returned v) ∧ ∃ vO' vb', GS w0 A bA bB bN bF bO bG Bo va vF vG W' o vO' ((dfs A.length m o).foldl (lstep A) b) vb' := by
  intro m
  induction m with
  | zero =>
    intro o b vO vb used W h hl hnd hlt hu hub
    have HGS := Lib.hid h
    have HL := Lib.hid (fun W (hW : GS w0 A bA bB bN bF bO bG Bo va vF vG W o vO b vb) => lstCall_c hva hA hn hx hW ⟨by omega, hnd, hlt⟩)
    have hnn : (zs o).length = A.length := by rw [zs_len]; omega
    obtain ⟨A2, cc, rfl⟩ := ints_sliceN h.own.ints
    have c1 : ∀ X, Grew W X → X.cell? ⟨bO, 0, none⟩ = some (.slice A2 o.length cc) := fun X hX => by rw [blk_cell ((hX.block (blk_ltM h.hO)).trans h.hO)]; rfl
    have c2 : ∀ X, Grew W X → X.cell? ⟨bN, 0, none⟩ = some (.int .i64 (A.length : Int)) := fun X hX => by rw [blk_cell ((hX.block (blk_ltM h.hN)).trans h.hN)]; rfl
    have c3 : ∀ X, Grew W X → X.cell? ⟨bF, 0, none⟩ = some vF := fun X hX => by rw [blk_cell ((hX.block (blk_ltM h.hF)).trans h.hF)]; rfl
    subst hf
    have KS := Lib.hid (fun (X : World) => sizeI_q A2 A.length cc (by omega) X)
    have hq : ((A.length : Int) == (A.length : Int)) = true := by simp
    rw [show o.length = A.length by omega] at HL c1 HGS
    clear h hnn hl hnd hlt hu hub
    generalize A.length = n at *
    have r1 := Grew.refl W
    have r2 := (Grew.refl W).drew
    go_enter Tryz.func152, Tryz.ntmps152
    go_wp2_with fail
    go_quiet ((go_at_call 89; exact Calls.quiet_of_same (KS.out _)))
    go_wp2_with fail
    refine (HL.out _ (HGS.out.up (by first | exact (Grew.refl W).drewN _ | exact r1 | exact r2))).mono ?_
    rintro e w3 ⟨⟨v3, rfl⟩, vb', h3⟩
    go_wp2_with fail
    refine bodyPost_ret (results_none rfl _ _ _) rfl ?_
    exact ⟨⟨_, rfl⟩, _, _, h3⟩
  | succ m ih =>
    intro o b vO vb used W h hl hnd hlt hu hub
    have HGS := Lib.hid h
    obtain ⟨A2, cc, rfl⟩ := ints_sliceN h.own.ints
    have HPM := Lib.hid (And.intro hnd (And.intro hlt hl))
    have HNC := Lib.hid (fun v (hv : v < A.length) (hvo : v ∉ o) (b' : List Nat) (vO' vb' : Value) (X : World) (hX : GS w0 A bA bB bN bF bO bG Bo va vF vG X (o ++ [v]) vO' b' vb') =>
      ih (o ++ [v]) b' vO' vb' (used ||| 2 ^ v) X hX (by simp; omega) (List.nodup_append.2 ⟨hnd, by simp, by intro a ha b hb; rw [List.mem_singleton] at hb; subst hb; intro he; subst he; exact hvo ha⟩)
        (fun x hx => by rcases List.mem_append.1 hx with hx | hx; · exact hlt x hx
                        · rw [List.mem_singleton] at hx; omega)
        (fun j => by rw [Nat.testBit_or, hu j, Nat.testBit_two_pow, ← Bool.decide_or, decide_eq_decide]; simp; constructor <;> rintro (h | h) <;> first | exact .inl h | exact .inr h.symm)
        (Nat.or_lt_two_pow (n := 6) hub (Nat.pow_lt_pow_right (by omega) (by omega))))
    have HHAS := Lib.hid (fun v (hv : v < A.length) X => has_q used v (by omega) (by omega) X)
    have HUB := Lib.hid hu
    have HBY := Lib.hid (fun v hv => @bK_yes A m o b v hv)
    have HBN := Lib.hid (fun v hv => @bK_no A m o b v hv)
    have HB0 : Hid (bK A m o b 0 = b) := Lib.hid rfl
    have HBE : Hid ((dfs A.length (m + 1) o).foldl (lstep A) b = bK A m o b A.length) := Lib.hid rfl
    have hol : o.length < A.length := by omega
    have c1 : ∀ X, Grew W X → X.cell? ⟨bO, 0, none⟩ = some (.slice A2 o.length cc) := fun X hX => by rw [blk_cell ((hX.block (blk_ltM h.hO)).trans h.hO)]; rfl
    have c2 : ∀ X, Grew W X → X.cell? ⟨bN, 0, none⟩ = some (.int .i64 (A.length : Int)) := fun X hX => by rw [blk_cell ((hX.block (blk_ltM h.hN)).trans h.hN)]; rfl
    have KS := Lib.hid (fun (X : World) => sizeI_q A2 o.length cc (by omega) X)
    have hq : ((o.length : Int) == (A.length : Int)) = false := by rw [beq_eq_false_iff_ne]; omega
    have HGT := Lib.hid (fun (X : World) (o' b' : List Nat) (vO' vb' : Value) (hX : GS w0 A bA bB bN bF bO bG Bo va vF vG X o' vO' b' vb') => And.intro (show X.cell? ⟨bO, 0, none⟩ = some vO' by rw [blk_cell hX.hO]; rfl) (And.intro (show X.cell? ⟨bN, 0, none⟩ = some (.int .i64 (A.length : Int)) by rw [blk_cell hX.hN]; rfl) (And.intro (show X.cell? ⟨bG, 0, none⟩ = some vG by rw [blk_cell hX.hG]; rfl) (show X.frozen? ⟨bO, 0, none⟩ = false from blk_frozen hX.hO 0))))
    have HXX := Lib.hid hx
    clear h hl hnd hlt hu ih hva hA hx hf
    generalize A.length = n at *
    have r1 := Grew.refl W
    have r2 := (Grew.refl W).drew
    go_enter Tryz.func152, Tryz.ntmps152
    go_wp2_with fail
    go_quiet ((go_at_call 89; exact Calls.quiet_of_same (KS.out _)))
    have HG2 := Lib.hid (fun q => HGS.out.up ((Grew.refl W).drewN q))
    have g1 := fun q => (HGT.out _ _ _ _ _ (HG2.out q)).2.1
    go_wp2_with fail
    go_loopw [6, 15] (fun _ i wr => ∃ (k : Nat) (vO' vb' : Value), k ≤ n ∧ i = .int .i64 k ∧ Hid (GS w0 A bA bB bN bF bO bG Bo va vF vG wr o vO' (bK A m o b k) vb')) (fun _ i _ => n - (intOf i).toNat)
    case atStart => exact ⟨0, _, _, by omega, rfl, Lib.hid (by rw [HB0.out]; exact HG2.out _)⟩
    case round =>
      obtain ⟨k, vO', vb', hk, rfl, hG⟩ := hrel
      by_cases hlk : k < n
      · have hh := Lib.hid (HHAS.out k hlk)
        rw [HUB.out k] at hh
        by_cases hko : k ∈ o
        · rw [decide_eq_true hko] at hh
          have HN := Lib.hid (HBY.out k hko)
          clear hko
          go_wp2_with fail
          refine (hh.out _).mono ?_
          rintro e w3 ⟨rfl, rfl⟩
          go_wp2_with fail
          go_roundw
          case rel => exact ⟨k + 1, _, _, by omega, by go_num, Lib.hid (by rw [HN.out]; exact hG.out)⟩
          case measure => simp [intOf]; omega
        · rw [decide_eq_false hko] at hh
          have HN := Lib.hid (HBN.out k hko)
          have HC := Lib.hid (HNC.out k hlk hko)
          clear hko
          have g1 := (HGT.out _ _ _ _ _ hG.out).1
          go_wp2_with fail
          refine (hh.out _).mono ?_
          rintro e w3 ⟨rfl, rfl⟩
          have hG4 := hG.out.up ((Grew.refl w3).alloc (.cells #[.int .i64 (k : Int)] 2))
          have hol6 : (zs o).length ≤ 1048576 := by rw [zs_len]; omega
          have hBo : Bo ≤ (w3.alloc (.cells #[.int .i64 (k : Int)] 2)).heap.size := by have h1 := hG4.own; have h2 := blk_ltM hG4.hO; have h3 := HXX.out.bo; omega
          have HAP := Lib.hid (fun (w7 : World) (v7 : Value) h1 h2 h3 => hG4.app (W' := w7) (vO' := v7) (L := zs o ++ [(k : Int)]) HXX.out hBo h1 h2 h3)
          have HOW := Lib.hid hG4.own
          have HFR := Lib.hid (fun (w7 : World) (v7 : Value) (h2 : w7.heap[bO]? = some (.cells #[v7] 24 (0, 0))) => blk_frozen h2 0)
          have HCE := Lib.hid (fun (w7 : World) (v7 : Value) (h2 : w7.heap[bO]? = some (.cells #[v7] 24 (0, 0))) => show w7.cell? ⟨bO, 0, none⟩ = some v7 by rw [blk_cell h2]; rfl)
          have HEQ : Hid (zs o ++ [(k : Int)] = zs (o ++ [k])) := Lib.hid (by rw [zs_append]; rfl)
          have HNL : Hid ((o ++ [k]).length = o.length + 1) := Lib.hid (by simp)
          clear hG4
          go_wp2_with (at_builtin
                       refine wpList_appIBL Bo _ _ rfl rfl _ (zs o) rfl HOW.out hBo _ (k : Int) rfl (rd_litI _ _ _) hol6 ?_
                       intro v7 w7 hO7 hg7 hl7
                       rw [HEQ.out] at hO7
                       obtain ⟨A7, c7, rfl⟩ := ints_sliceN hO7.ints
                       rw [HNL.out] at hO7 hl7 ⊢
                       have H7 := HAP.out w7 (.slice A7 (o.length + 1) c7) hg7 (by rw [HEQ.out]; exact hO7) hl7
                       have hf7 := HFR.out _ _ H7.2
                       have hc7 := HCE.out _ _ H7.2
                       have H8 := H7.1 _ HEQ.out
                       have g7 := HGT.out _ _ _ _ _ H8
                       have H9 := Lib.hid H8
                       have H10 := Lib.hid hO7
                       clear hO7 hg7 hl7 H7 H8)
          have HC2 := Lib.hid (fun (X : World) (hX : GS w0 A bA bB bN bF bO bG Bo va vF vG X (o ++ [k]) (.slice A7 (o.length + 1) c7) (bK A m o b k) vb') => HC.out _ _ _ X hX)
          have hGd := H9.out.up (Grew.refl _).drew
          have hGx : GSx w0 A bA bB bN bF bO bG Bo va vF vG _ := ⟨_, _, _, _, hGd⟩
          have x0 : ∀ X, GSx w0 A bA bB bN bF bO bG Bo va vF vG X → X.cell? ⟨bG, 0, none⟩ = some vG := fun X hX => by
            obtain ⟨o', vO', b', vb', hX⟩ := hX
            exact (HGT.out _ _ _ _ _ hX).2.2.1
          have ho := or_i64 used (2 ^ k) (by omega) (Nat.lt_trans (pow30 (by omega)) (by omega))
          have hp := wrap_pow (k := k) (by omega)
          have hp2 : IntKind.i64.wrap (2 ^ k) = ((2 ^ k : Nat) : Int) := wrapI_pow (by omega)
          have i3 : (0 : Int) ≤ (k : Int) := by omega
          have i4 : (k : Int) < (n : Int) := by omega
          have HG0 := Lib.hid hg
          subst hg
          clear c1 c2 g1 hc7 hf7 HC
          obtain ⟨P, hP⟩ : ∃ P, P = 2 ^ k := ⟨_, rfl⟩
          rw [← hP] at ho hp hp2 HC2
          clear hP
          generalize bK A m o b k = bk at *
          generalize w7.setCell ⟨bO, 0, none⟩ (.slice A7 (o.length + 1) c7) = w8 at *
          go_region_held3 (fun (w' : World) => GSx w0 A bA bB bN bF bO bG Bo va vF (.func (.func 152) #[] #[.pointer (some ⟨bO, 0, none⟩), .pointer (some ⟨bN, 0, none⟩), .pointer (some ⟨bF, 0, none⟩), .pointer (some ⟨bG, 0, none⟩)]) w') (first | assumption | exact GSx.drew ‹_›) (first
            | (go_at_call 152; refine Calls.mono (HC2.out _ (by assumption)) ?_; rintro e w9 ⟨⟨v9, rfl⟩, vO9, vb9, h9⟩; have hx9 : GSx w0 A bA bB bN bF bO bG Bo va vF (.func (.func 152) #[] #[.pointer (some ⟨bO, 0, none⟩), .pointer (some ⟨bN, 0, none⟩), .pointer (some ⟨bF, 0, none⟩), .pointer (some ⟨bG, 0, none⟩)]) w9 := ⟨_, _, _, _, h9⟩))
          clear hx9 x0 hGd hGx
          obtain ⟨A9, c9, rfl⟩ := ints_sliceN h9.own.ints
          rw [HNL.out] at h9
          have g9 := HGT.out _ _ _ _ _ h9
          have hown := h9.own
          have hcap := OwnI.capI hown
          have ht : OwnI w9 Bo (.slice A9 o.length c9) (zs o) := by
            have h0 := hown.take (by rw [zs_len]; exact HNL.out)
            rwa [← HEQ.out, List.take_left' (zs_len o)] at h0
          have hsub : wrap64 (((o.length + 1 : Nat) : Int) - 1) = (o.length : Int) := by rw [wrap64]; omega
          have hsub2 : IntKind.i64.wrap (((o.length + 1 : Nat) : Int) - 1) = (o.length : Int) := by rw [IntKind.wrap_i64]; omega
          have HS := Lib.hid (h9.setO HXX.out ht (fun g hgg => h9.apart g (by cases A9 <;> first | exact hgg | (simp [Value.ownBlock] at hgg))))
          have HBE2 := HBE
          clear hown ht h9 H9 H10
          go_wp2_with fail
          go_roundw
          case rel => exact ⟨k + 1, _, _, by omega, by go_num, Lib.hid (by rw [HN.out]; exact HS.out)⟩
          case measure => simp [intOf]; omega
      · obtain rfl : k = n := by omega
        go_wp2_with fail
        go_end0
        exact ⟨⟨_, rfl⟩, _, _, by rw [HBE.out]; exact hG.out⟩
end Go.Proofs.YtpfncncohnhanaaGreatDoor


/- Valuations, plain: the lists that give each of some variables a value of a list, in ascending order. No program is in sight. -/
namespace Go.Proofs.YtpfncncohnhanaaGreatDoor

def lf (f : Nat → Nat) : List Nat := (List.range 6).map f
theorem lf_len (f : Nat → Nat) : (lf f).length = 6 := by simp [lf]
def Off (vs : List Nat) (f f' : Nat → Nat) : Prop := ∀ i, i < 6 → i ∉ vs → f' i = f i
theorem Off.set {v u : Nat} {vs : List Nat} {f f' : Nat → Nat} (h : Off (v :: vs) f f') : Off vs (fun i => if i = v then u else f i) (fun i => if i = v then u else f' i) := by
  intro i h6 hi
  by_cases hv : i = v
  · show (if i = v then u else f' i) = (if i = v then u else f i)
    rw [if_pos hv, if_pos hv]
  · show (if i = v then u else f' i) = (if i = v then u else f i)
    rw [if_neg hv, if_neg hv]
    exact h i h6 (by simp [hv, hi])
theorem Off.refl (vs : List Nat) (f : Nat → Nat) : Off vs f f := fun _ _ _ => rfl
end Go.Proofs.YtpfncncohnhanaaGreatDoor


/- A range over a function whose iterator hands out a row of its own that it writes anew between two rounds: the law of the loop's walk. No program is in sight. -/
namespace Go.Proofs.YtpfncncohnhanaaGreatDoor
open Go.RowKit

def KeptBut (l : Nat) (W W' : World) : Prop := W.heap.size ≤ W'.heap.size ∧ ∀ i, i < W.heap.size → i ≠ l → W'.heap[i]? = W.heap[i]?
theorem KeptBut.refl (l : Nat) (W : World) : KeptBut l W W := ⟨Nat.le_refl _, fun _ _ _ => rfl⟩
theorem KeptBut.trans {l : Nat} {X Y Z : World} (h : KeptBut l X Y) (k : KeptBut l Y Z) : KeptBut l X Z :=
  ⟨Nat.le_trans h.1 k.1, fun i hi hl => (k.2 i (Nat.lt_of_lt_of_le hi h.1) hl).trans (h.2 i hi hl)⟩
theorem KeptBut.grew {l : Nat} {X Y : World} (h : Grew X Y) : KeptBut l X Y := ⟨h.size, fun _ hl _ => h.block hl⟩
theorem KeptBut.putObj (W : World) (l : Nat) (o : Obj) : KeptBut l W (W.putObj l o) :=
  ⟨by simp, fun i _ hi => World.putObj_heap_other hi⟩

def SeqV {α : Type} (P : Program) (gf : Nat) (lb : Array Value) (Rv : World → Value → α → Prop) (S Sp : List α → Prop) (w0 : World) : Prop :=
  ∀ (n l : Nat) (J Jx : List α → World → Prop) (W : World), Grew w0 W → w0.heap.size ≤ l → l < W.heap.size →
    (∀ s A A', J s A → Below W.heap.size A A' → J s A') → (∀ s A A', Jx s A → Below W.heap.size A A' → Jx s A') →
    (∀ m pre x v A, J pre A → Rv A v x → YieldAt Fence.wide m P l #[v] A fun e A' =>
      (e = .returned (.bool true) ∧ J (pre ++ [x]) A' ∧ KeptBut l A A') ∨ (e = .returned (.bool false) ∧ Jx (pre ++ [x]) A')) →
    J [] W →
    CallsIn Fence.wide n P gf (#[.func (.yield l) #[] #[]] ++ lb) W fun e W' => (∃ v, e = .returned v) ∧ ((∃ xs, S xs ∧ J xs W') ∨ (∃ pre, Sp pre ∧ Jx pre W'))

def vPost {α : Type} (I : List α → World → Prop) (Ix : List α → World → Prop) (xs : List α) (W : World) : Exit → Act → World → Prop
  | .normal, _, W' => Grew W W' ∧ I xs W'
  | .ret, _, W' => KeepsOthers W W' ∧ Ix xs W'
  | _, _, _ => False

theorem below_putObj {B : Nat} {W : World} {l : Nat} {o : Obj} (o' : Obj) (hB : B ≤ l) (h : W.heap[l]? = some o) : Below B W (W.putObj l o') :=
  (Below.refl B W).grown (grownBy_putObj' W l o') (by have := (Array.getElem?_eq_some_iff.1 h).1; omega) (fun k e => by cases e; omega)
theorem rd_putObj {W : World} {k n : Nat} {v : Value} {xs : List Value} {l : Nat} {o : Obj} (o' : Obj) (h : Rd W k v n xs) (hl : W.heap[l]? = some o) (ho : o.isCells = false) : Rd (W.putObj l o') k v n xs := by
  obtain ⟨h1, h2, h3⟩ := h
  refine ⟨h1, h2, ?_⟩
  rcases h3 with ⟨h4, h5⟩ | ⟨b, of, c, h4, h5, h6, h7, h8⟩
  · exact .inl ⟨h4, h5⟩
  · exact .inr ⟨b, of, c, h4, h5, h6, by simpa using h7, fun j x hx => cell_kept (h8 j x hx) (grownBy_putObj' W l o') (fun r e => by cases e; exact ⟨o, hl, ho⟩)⟩

theorem wpIn_rangeV {P : Program} {α : Type} {n : Nat} {g : Operand} {ps : Array Tmp} {assign body : Go.Code} {Q : Exit → Act → World → Prop} {a : Act} {w : World}
    {gf : Nat} {lb : Array Value} (hg : a.eval g = .func (.func gf) #[] lb) (eg : ∀ args w, (callFunc gf args).run P w = .ok (.enter gf args) w)
    {Rv : World → Value → α → Prop} (hRv : ∀ W v x l o o', Rv W v x → W.heap[l]? = some o → o.isCells = false → Rv (W.putObj l o') v x)
    {S Sp : List α → Prop} {w0 : World} (hseq : SeqV P gf lb Rv S Sp w0) (hw0 : Grew w0 w) (hps : ps.size = 1)
    (I Ix : List α → World → Prop) (hI : ∀ s A A', I s A → Below w.heap.size A A' → I s A') (hIx : ∀ s A A', Ix s A → Below w.heap.size A A' → Ix s A') (h0 : I [] w) (a₁ : Value → Act)
    (hassign : ∀ (l m : Nat) (v : Value) (W : World) (K : Act → World → Prop), K (a₁ v) W →
      assign.wpIn (Fence.wide.inRound l) m P (Exit.then K (fun _ _ _ => False)) { tmps := (ps.zip #[v]).foldl (fun t (p, v) => t.setIfInBounds p v) a.tmps, defers := [] } W)
    (hbody : ∀ (l m : Nat) (pre : List α) (x : α) (v : Value) (W : World), I pre W → Rv W v x → w.heap.size ≤ W.heap.size → body.wpIn (Fence.wide.inRound l) m P (vPost I Ix (pre ++ [x]) W) (a₁ v) W)
    (hdone : ∀ (D : Nat) (xs : List α) (W : World), w.heap.size ≤ D → S xs → I xs W → W.heap[D]? = some (.deferred (some [])) → Q .normal { a with defers := { target := .collected D, args := #[] } :: a.defers } W)
    (hstop : ∀ (D : Nat) (pre : List α) (W : World), w.heap.size ≤ D → Sp pre → Ix pre W → W.heap[D]? = some (.deferred (some [])) → Go.Code.ret.wpIn Fence.wide n P Q { a with defers := { target := .collected D, args := #[] } :: a.defers } W) :
    (Go.Code.rangeFunc g ps assign body).wpIn Fence.wide n P Q a w := by
  refine wpIn_rangeFunc ?_
  intro fn hfn
  show ∃ l mark w₁ d w₁' f args w₂, (Instr.enterLoop fn a.tmps ps assign body none).run P w = _ ∧ _
  obtain ⟨rec, hrec⟩ : ∃ rec : LoopState → Option Go.Code → Loop, rec = fun st pe => { state := st, pending := pe, fn, tmps := a.tmps, params := ps, assign, body, defers := w.heap.size } := ⟨_, rfl⟩
  obtain ⟨W1, hW1⟩ : ∃ W1, (w.alloc (.deferred (some []))).alloc (.loop (rec .ready none)) = W1 := ⟨_, rfl⟩
  have hL1 : W1.heap[w.heap.size + 1]? = some (.loop (rec .ready none)) := by
    rw [← hW1]; have := World.alloc_heap_new (w.alloc (.deferred (some []))) (.loop (rec .ready none)); rwa [World.size_alloc] at this
  have hK1 : W1.heap[w.heap.size]? = some (.deferred (some [])) := by
    rw [← hW1]; exact (Below.heap_alloc _ _ _ (by simp)).trans (World.alloc_heap_new w _)
  have hg1 : Grew w W1 := by rw [← hW1]; exact ((Grew.refl w).alloc _).alloc _
  have hs1 : W1.heap.size = w.heap.size + 2 := by rw [← hW1]; simp
  have hI1 : I [] W1 := hI _ _ _ h0 hg1
  refine ⟨w.heap.size + 1, [{ target := .collected w.heap.size, args := #[] }], W1, { target := .fn (.func gf) lb, args := #[.func (.yield (w.heap.size + 1)) #[] #[]] }, W1, gf,
    #[.func (.yield (w.heap.size + 1)) #[] #[]] ++ lb, W1, ?_, ?_, ?_, ?_, fun h => by simp [Fence.wide] at h, ?_⟩
  · rw [← hW1, hrec]; exact run_enterLoop_outer _ _ _ _ _
  · simp only [resolve, hg]
    simp [go_sem]
  · intro f' hf'; trivial
  · simp [invoke, go_sem, eg]
  · have abide : ∀ {A A' : World} {k : Nat} {o : Obj}, k < w.heap.size + 2 → Below W1.heap.size A A' → A.heap[k]? = some o → A'.heap[k]? = some o := fun hk hb h => (hb.block _ (by omega)).trans h
    refine (hseq (n - 1) (w.heap.size + 1)
      (fun pre W => I pre W ∧ W.heap[w.heap.size + 1]? = some (.loop (rec .ready none)) ∧ W.heap[w.heap.size]? = some (.deferred (some [])))
      (fun pre W => Ix pre W ∧ W.heap[w.heap.size + 1]? = some (.loop (rec .done (some .ret))) ∧ W.heap[w.heap.size]? = some (.deferred (some [])))
      W1 (hw0.trans hg1) (by have := hw0.size; omega) (by omega)
      (fun s A A' hs hb => ⟨hI s A A' hs.1 (hb.mono (by omega)), abide (by omega) hb hs.2.1, abide (by omega) hb hs.2.2⟩)
      (fun s A A' hs hb => ⟨hIx s A A' hs.1 (hb.mono (by omega)), abide (by omega) hb hs.2.1, abide (by omega) hb hs.2.2⟩)
      ?_ ⟨hI1, hL1, hK1⟩).mono ?_
    · rintro m pre x v W ⟨hi, hl, hk⟩ hv
      have hlt : w.heap.size + 1 < W.heap.size := (Array.getElem?_eq_some_iff.1 hl).1
      have hy := run_yield (P := P) (args := #[v]) hl (by rw [hrec]; simp [hps])
      rw [hrec] at hy
      refine ⟨fn, _, assign, body, hy, roundIn_of_wpIn hfn (hassign _ m v W _ ⟨_, run_beginRound hl (by rw [hrec]), ?_⟩)⟩
      have hl2 : (W.putObj (w.heap.size + 1) (.loop { rec .ready none with state := .busy })).heap[w.heap.size + 1]? = some (.loop { rec .ready none with state := .busy }) := World.putObj_heap_same hlt
      have hk2 : (W.putObj (w.heap.size + 1) (.loop { rec .ready none with state := .busy })).heap[w.heap.size]? = some (.deferred (some [])) := (World.putObj_heap_other (by omega)).trans hk
      refine wpIn_mono (hbody _ m pre x v _ (hI _ _ _ hi (below_putObj _ (by omega) hl)) (hRv _ _ _ _ _ _ hv hl rfl) (by simp; omega)) ?_
      have fin : ∀ (jump : Option Go.Code) (W3 : World), W3.heap[w.heap.size + 1]? = some (.loop { rec .ready none with state := .busy }) → W3.heap[w.heap.size]? = some (.deferred (some [])) →
          (Instr.endRound (w.heap.size + 1) jump).run P W3 = .ok (.bool jump.isNone) (W3.putObj (w.heap.size + 1) (.loop (rec (if jump.isNone then .ready else .done) jump))) ∧
          (W3.putObj (w.heap.size + 1) (.loop (rec (if jump.isNone then .ready else .done) jump))).heap[w.heap.size + 1]? = some (.loop (rec (if jump.isNone then .ready else .done) jump)) ∧
          (W3.putObj (w.heap.size + 1) (.loop (rec (if jump.isNone then .ready else .done) jump))).heap[w.heap.size]? = some (.deferred (some [])) := fun jump W3 hl3 hk3 => by
        have := run_endRound (P := P) jump hl3
        rw [hrec] at this ⊢
        exact ⟨this, World.putObj_heap_same (Array.getElem?_eq_some_iff.1 hl3).1, (World.putObj_heap_other (by omega)).trans hk3⟩
      rintro e a3 W3 hp
      cases e with
      | normal =>
        obtain ⟨hg3, hi3⟩ := hp
        have hl3 := (hg3.block (k := w.heap.size + 1) (by simp; omega)).trans hl2
        obtain ⟨hr, hl4, hk4⟩ := fin none W3 hl3 ((hg3.block (k := w.heap.size) (by simp; omega)).trans hk2)
        exact ⟨_, _, hr, .inl ⟨rfl, ⟨hI _ _ _ hi3 (below_putObj _ (by omega) hl3), hl4, hk4⟩, ((KeptBut.putObj W _ _).trans (KeptBut.grew hg3)).trans (KeptBut.putObj W3 _ _)⟩⟩
      | ret =>
        obtain ⟨hk3, hi3⟩ := hp
        have hl3 := hk3.same _ _ hl2 rfl
        obtain ⟨hr, hl4, hk4⟩ := fin (some .ret) W3 hl3 (hk3.same _ _ hk2 rfl)
        exact ⟨_, _, hr, .inr ⟨rfl, hIx _ _ _ hi3 (below_putObj _ (by omega) hl3), hl4, hk4⟩⟩
      | exit id => exact hp.elim
      | goto t => exact hp.elim
      | panic ch => exact hp.elim
      | outgrown => exact hp.elim
    · rintro e W2 ⟨⟨v, rfl⟩, (⟨xs, hS, hi, hl, hk⟩ | ⟨pre, hSp, hi, hl, hk⟩)⟩
      · exact ⟨none, _, by have := run_endLoop (P := P) hl (by rw [hrec]; simp); rw [hrec] at this; exact this, hdone _ xs _ (Nat.le_refl _) hS (hI _ _ _ hi (below_putObj _ (by omega) hl)) ((World.putObj_heap_other (by omega)).trans hk)⟩
      · exact ⟨some .ret, _, by have := run_endLoop (P := P) hl (by rw [hrec]; simp); rw [hrec] at this; exact this, hstop _ pre _ (Nat.le_refl _) hSp (hIx _ _ _ hi (below_putObj _ (by omega) hl)) ((World.putObj_heap_other (by omega)).trans hk)⟩
end Go.Proofs.YtpfncncohnhanaaGreatDoor


/- The program's iterator over valuations of a poset (Poset.valuations and its closures): it hands out fs U vars zeros. -/
namespace Go.Proofs.YtpfncncohnhanaaGreatDoor
open Go.RowKit
attribute [local go_sem] Oper.semAt_some

def KB (W0 : World) (l gv : Nat) (W : World) : Prop := W0.heap.size ≤ W.heap.size ∧ ∀ i, i < W0.heap.size → i ≠ l → i ≠ gv → W.heap[i]? = W0.heap[i]?
theorem KB.refl (W : World) (l gv : Nat) : KB W l gv W := ⟨Nat.le_refl _, fun _ _ _ _ => rfl⟩
theorem KB.kept {W0 W W' : World} {l gv : Nat} (h : KB W0 l gv W) (k : KeptBut l W W') : KB W0 l gv W' :=
  ⟨Nat.le_trans h.1 k.1, fun i hi hl hg => (k.2 i (Nat.lt_of_lt_of_le hi h.1) hl).trans (h.2 i hi hl hg)⟩
theorem KB.set {W0 W : World} {l gv o : Nat} (h : KB W0 l gv W) (u : Value) : KB W0 l gv (W.setCell ⟨gv, o, none⟩ u) :=
  ⟨Nat.le_trans h.1 (by simp), fun i hi hl hg => (Below.heap_setCell W ⟨gv, o, none⟩ u i hg).trans (h.2 i hi hl hg)⟩
theorem KB.drew {W0 W : World} {l gv : Nat} (h : KB W0 l gv W) : KB W0 l gv W.drew := h
theorem KB.cell {W0 W : World} {l gv : Nat} (h : KB W0 l gv W) {p : Addr} (hp : p.block < W0.heap.size) (hl : p.block ≠ l) (hg : p.block ≠ gv) : W.cell? p = W0.cell? p :=
  World.cell?_of_block (h.2 _ hp hl hg)
theorem NRow.kept {W W' : World} {l g n c : Nat} {f : Nat → Nat} (h : NRow W g n c f) (k : KeptBut l W W') (hne : g ≠ l) : NRow W' g n c f := by
  have hl := h.lt
  obtain ⟨cur, h1, h2⟩ := h
  exact ⟨cur, (k.2 _ hl hne).trans h1, h2⟩
theorem alloc4 (w wa : World) (o1 o2 o3 o4 : Obj) (h : wa = (((w.alloc o1).alloc o2).alloc o3).alloc o4) : Grew w wa ∧ wa.heap.size = w.heap.size + 4 ∧ wa.heap[w.heap.size]? = some o1 ∧ wa.heap[w.heap.size + 1]? = some o2 ∧ wa.heap[w.heap.size + 1 + 1]? = some o3 ∧ wa.heap[w.heap.size + 1 + 1 + 1]? = some o4 := by
  obtain ⟨wb, hwb⟩ : ∃ wb, wb = ((w.alloc o1).alloc o2).alloc o3 := ⟨_, rfl⟩
  rw [← hwb] at h
  subst h
  have s1 : (w.alloc o1).heap.size = w.heap.size + 1 := by simp
  have s2 : ((w.alloc o1).alloc o2).heap.size = w.heap.size + 1 + 1 := by simp
  have s3 : wb.heap.size = w.heap.size + 1 + 1 + 1 := by rw [hwb]; simp
  have b1 := blk_new w o1
  have b2 := blk_new (w.alloc o1) o2
  have b3 := blk_new ((w.alloc o1).alloc o2) o3
  have b4 := blk_new wb o4
  rw [s1] at b2
  rw [s2] at b3
  rw [s3] at b4
  have g2 := (Grew.refl (w.alloc o1)).alloc o2
  have g3 := (Grew.refl ((w.alloc o1).alloc o2)).alloc o3
  have g4 := (Grew.refl wb).alloc o4
  rw [← hwb] at g3 b3
  refine ⟨?_, by simp [s3], ((g2.trans (g3.trans g4)).block (by omega)).trans b1, ((g3.trans g4).block (by omega)).trans b2, (g4.block (by omega)).trans b3, b4⟩
  exact (((Grew.refl w).alloc o1).trans (g2.trans g3)).trans g4

theorem kb_cells {w0 W0 : World} {l gv : Nat} {v : Value} {L : List Nat} (h : Ints w0 v (zs L)) (hg : Grew w0 W0) (hl : w0.heap.size ≤ l) (hgv : w0.heap.size ≤ gv) :
    ∃ A c, v = .slice A L.length c ∧ ∀ k, k < L.length → ∃ b o, A = some ⟨b, o, none⟩ ∧ ∀ W, KB W0 l gv W → W.cell? ⟨b, o + k, none⟩ = some (.int .i64 ((nt L k : Nat) : Int)) := by
  rcases h.open_ with ⟨rfl, h0⟩ | ⟨b, o, c, rfl, _, _, hb, hc⟩
  · have hL : L = [] := by
      have := congrArg List.length h0
      rw [zs_len] at this
      exact List.eq_nil_of_length_eq_zero this
    subst hL
    exact ⟨none, 0, rfl, fun k hk => absurd hk (by simp)⟩
  · rw [zs_len] at hc ⊢
    refine ⟨_, _, rfl, fun k hk => ⟨b, o, rfl, fun W hW => ?_⟩⟩
    have h1 := hc k hk W0 hg
    rw [zs_it hk] at h1
    have hs := hg.size
    exact (hW.cell (p := ⟨b, o + k, none⟩) (by show b < _; omega) (by show b ≠ l; omega) (by show b ≠ gv; omega)).trans h1

end Go.Proofs.YtpfncncohnhanaaGreatDoor


/- The value of a plain formula on a poset. No program is in sight. -/
namespace Go.Proofs.YtpfncncohnhanaaGreatDoor
open Go.RowKit
open Fm (Nd Tree)

end Go.Proofs.YtpfncncohnhanaaGreatDoor


/- A list of nodes is that of one formula at most. No program is in sight. -/
namespace Go.Proofs.YtpfncncohnhanaaGreatDoor
open Fm (Nd)

theorem enc_pre (t : Fm.Tree) : ∀ (u : Fm.Tree) (a b : List Nd), Fm.enc t ++ a = Fm.enc u ++ b → t = u ∧ a = b := by
  induction t with
  | var v =>
    intro u a b h
    cases u <;> simp [Fm.enc] at h
    exact ⟨congrArg Fm.Tree.var (Fin.ext (by have := h.1; omega)), h.2⟩
  | fls =>
    intro u a b h
    cases u <;> simp [Fm.enc] at h
    exact ⟨rfl, h⟩
  | and x y hx hy =>
    intro u a b h
    cases u <;> simp [Fm.enc] at h
    obtain ⟨e1, h1⟩ := hx _ _ _ h
    obtain ⟨e2, h2⟩ := hy _ _ _ h1
    exact ⟨by rw [e1, e2], h2⟩
  | or x y hx hy =>
    intro u a b h
    cases u <;> simp [Fm.enc] at h
    obtain ⟨e1, h1⟩ := hx _ _ _ h
    obtain ⟨e2, h2⟩ := hy _ _ _ h1
    exact ⟨by rw [e1, e2], h2⟩
  | imp x y hx hy =>
    intro u a b h
    cases u <;> simp [Fm.enc] at h
    obtain ⟨e1, h1⟩ := hx _ _ _ h
    obtain ⟨e2, h2⟩ := hy _ _ _ h1
    exact ⟨by rw [e1, e2], h2⟩
  | box x hx =>
    intro u a b h
    cases u <;> simp [Fm.enc] at h
    obtain ⟨e1, h1⟩ := hx _ _ _ h
    exact ⟨by rw [e1], h1⟩
  | dia x hx =>
    intro u a b h
    cases u <;> simp [Fm.enc] at h
    obtain ⟨e1, h1⟩ := hx _ _ _ h
    exact ⟨by rw [e1], h1⟩
theorem enc_inj {t u : Fm.Tree} (h : Fm.enc t = Fm.enc u) : t = u := (enc_pre t u [] [] (by simpa using h)).1

end Go.Proofs.YtpfncncohnhanaaGreatDoor


/- The program's makers over slices.Concat. -/
namespace Go.Proofs.YtpfncncohnhanaaGreatDoor
open Go.RowKit
open Fm (Nd)

end Go.Proofs.YtpfncncohnhanaaGreatDoor


/- The readers' first steps: take, need, l02Take, l02Need. -/
namespace Go.Proofs.YtpfncncohnhanaaGreatDoor
open Go.RowKit

def Rdr (w : World) (g : Nat) (T : TypeId) (s : ByteArray) (st : Fm.St) : Prop := w.heap[g]? = some (.cells #[.string s, .int .i64 st.1, .bool st.2] T (0, 0))
theorem Rdr.text {w : World} {g T : Nat} {s : ByteArray} {st : Fm.St} (h : Rdr w g T s st) : w.cell? ⟨g, 0, none⟩ = some (.string s) := by rw [blk_cell h]; rfl
theorem Rdr.at_ {w : World} {g T : Nat} {s : ByteArray} {st : Fm.St} (h : Rdr w g T s st) : w.cell? ⟨g, 1, none⟩ = some (.int .i64 st.1) := by rw [blk_cell h]; rfl
theorem Rdr.bad {w : World} {g T : Nat} {s : ByteArray} {st : Fm.St} (h : Rdr w g T s st) : w.cell? ⟨g, 2, none⟩ = some (.bool st.2) := by rw [blk_cell h]; rfl
theorem Rdr.free {w : World} {g T : Nat} {s : ByteArray} {st : Fm.St} (h : Rdr w g T s st) (i : Nat) : w.frozen? ⟨g, i, none⟩ = false := blk_frozen h i
theorem Rdr.lt {w : World} {g T : Nat} {s : ByteArray} {st : Fm.St} (h : Rdr w g T s st) : g < w.heap.size := blk_lt h
theorem Rdr.grew {w w' : World} {g T : Nat} {s : ByteArray} {st : Fm.St} (h : Rdr w g T s st) (hg : Grew w w') : Rdr w' g T s st := (hg.block h.lt).trans h
theorem Rdr.move {w : World} {g T : Nat} {s : ByteArray} {st : Fm.St} (h : Rdr w g T s st) (n : Nat) : Rdr (w.setCell ⟨g, 1, none⟩ (.int .i64 n)) g T s (n, st.2) := blk_set h 1 _
theorem Rdr.spoil {w : World} {g T : Nat} {s : ByteArray} {st : Fm.St} (h : Rdr w g T s st) : Rdr (w.setCell ⟨g, 2, none⟩ (.bool true)) g T s (st.1, true) := blk_set h 2 _

def Took (w : World) (g : Nat) (T : TypeId) (s : ByteArray) (st : Fm.St) (c : UInt8) (e : Ending) (w' : World) : Prop :=
  e = .returned (.bool (Fm.sees s.data.toList st c)) ∧ Rdr w' g T s (if Fm.sees s.data.toList st c then Fm.step st else st) ∧ Only g w w'

theorem sees_bad (s : List UInt8) (p : Nat) (c : UInt8) : Fm.sees s (p, true) c = false := rfl
theorem sees_end (s : ByteArray) (p : Nat) (c : UInt8) (h : s.size ≤ p) : Fm.sees s.data.toList (p, false) c = false := by
  have : s.data.toList[p]? = none := by rw [Array.getElem?_toList, Array.getElem?_eq_none]; exact h
  simp [Fm.sees, this]
theorem sees_in (s : ByteArray) (p : Nat) (c : UInt8) (h : p < s.size) : Fm.sees s.data.toList (p, false) c = (s[p] == c) := by
  have : s.data.toList[p]? = some s[p] := by rw [Array.getElem?_toList]; exact Array.getElem?_eq_getElem h
  simp [Fm.sees, this]
theorem byte_eq (a b : UInt8) : ((a.toNat : Int) == b.toNat) = (a == b) := by
  rw [Bool.eq_iff_iff]; simp only [beq_iff_eq, ← UInt8.toNat_inj]; omega
theorem Took.no {w w' : World} {g T : Nat} {s : ByteArray} {st : Fm.St} {c : UInt8} (h : Rdr w g T s st) (hs : Fm.sees s.data.toList st c = false) (hw : Grew w w') : Took w g T s st c (.returned (.bool false)) w' := by
  unfold Took; rw [hs]; exact ⟨rfl, h.grew hw, hw.only⟩
theorem Took.yes {w w' : World} {g T : Nat} {s : ByteArray} {p : Nat} {b : Bool} {c : UInt8} (h : Rdr w g T s (p, b)) (hs : Fm.sees s.data.toList (p, b) c = true) (hw : Grew w w') : Took w g T s (p, b) c (.returned (.bool true)) (w'.setCell ⟨g, 1, none⟩ (.int .i64 ((p : Int) + 1))) := by
  unfold Took; rw [hs]; exact ⟨rfl, (h.grew hw).move (p + 1), hw.only.setCell _⟩

end Go.Proofs.YtpfncncohnhanaaGreatDoor


/- The program's reader: what its functions read is what the plain parser gives. -/
namespace Go.Proofs.YtpfncncohnhanaaGreatDoor
open Go.RowKit
open Fm (Nd)

def Reads (w : World) (g : Nat) (T : TypeId) (s : ByteArray) (r : Fm.Res) (e : Ending) (w' : World) : Prop :=
  ∃ v, e = .returned v ∧ Own w' w.heap.size v r.1 ∧ Rdr w' g T s r.2 ∧ Only g w w'

theorem own_rdr_ne {w : World} {B g : Nat} {v : Value} {xs : List Nd} {T : TypeId} {s : ByteArray} {st : Fm.St} (h : Own w B v xs) (hr : Rdr w g T s st) (hne : 59 ≠ T) : v.ownBlock ≠ some g := own_ne h hr hne

theorem size_toList (s : ByteArray) : s.data.toList.length = s.size := by simp

def Sub (F : FuncId) (T : TypeId) (s : ByteArray) (f : Nat) (sub : Fm.St → Fm.Res) : Prop :=
  ∀ (g : Nat) (st : Fm.St) (w : World), Rdr w g T s st → st.1 ≤ s.size → s.size - st.1 < f → Calls Tryz.prog F #[.pointer (some ⟨g, 0, none⟩)] w (Reads w g T s (sub st))

end Go.Proofs.YtpfncncohnhanaaGreatDoor


/- The program's reader: the two lowest levels. -/
namespace Go.Proofs.YtpfncncohnhanaaGreatDoor
open Go.RowKit
open Fm (Nd)

end Go.Proofs.YtpfncncohnhanaaGreatDoor


/- The text of a formula is parsed to the formula. No program is in sight. -/
namespace Go.Proofs.YtpfncncohnhanaaGreatDoor
namespace Fm

theorem sees_drop {s : List UInt8} {i : Nat} {c : UInt8} {r : List UInt8} (h : s.drop i = c :: r) (d : UInt8) : sees s (i, false) d = (c == d) := by
  have h1 : s[i]? = some c := by
    have := congrArg List.head? h
    simpa using this
  unfold sees
  rw [h1]
  rw [Bool.eq_iff_iff]
  simp
theorem sees_none {s : List UInt8} {i : Nat} {r : List UInt8} {d : UInt8} (h : s.drop i = r) (hd : r.head? ≠ some d) : sees s (i, false) d = false := by
  have h1 : s[i]? = r.head? := by rw [← h]; simp
  unfold sees
  rw [h1]
  cases hr : r.head? with
  | none => rfl
  | some c =>
    rw [hr] at hd
    have : c ≠ d := fun e => hd (by rw [e])
    simp [this]
theorem drop_tail {s : List UInt8} {i : Nat} {x r : List UInt8} (h : s.drop i = x ++ r) : s.drop (i + x.length) = r := by
  rw [← List.drop_drop, h, List.drop_left]
theorem drop_len {s : List UInt8} {i : Nat} {x r : List UInt8} (h : s.drop i = x ++ r) (hx : 1 ≤ x.length) : i + x.length ≤ s.length := by
  have := congrArg List.length h
  simp only [List.length_drop, List.length_append] at this
  omega
theorem txt_pos (t : Tree) (l : Nat) : 1 ≤ (txt t l).length := by
  cases t with
  | var v => simp [txt]
  | fls => simp [txt]
  | and a b => simp only [txt, wrap]; split <;> simp <;> omega
  | or a b => simp only [txt, wrap]; split <;> simp <;> omega
  | imp a b => simp only [txt, wrap]; split <;> split <;> simp <;> omega
  | box a => simp only [txt, List.length_append, List.length_cons]; omega
  | dia a => simp only [txt, List.length_append, List.length_cons]; omega

section
variable (s : List UInt8) (m : Nat)
def P3 (t : Tree) : Prop := ∀ (f i : Nat) (r : List UInt8), s.drop i = txt t 3 ++ r → s.length - i < f → preF s m f (i, false) = (enc t, (i + (txt t 3).length, false))
def P2 (t : Tree) : Prop := ∀ (f i : Nat) (r : List UInt8), s.drop i = txt t 2 ++ r → s.length - i < f →
  ∃ k, s.length - (i + (txt t 2).length) < k ∧ andF s m (preF s m f) (i, false) = loop s 2 38 (preF s m f) k (enc t) (i + (txt t 2).length, false)
def P1 (t : Tree) : Prop := ∀ (f i : Nat) (r : List UInt8), s.drop i = txt t 1 ++ r → s.length - i < f → r.head? ≠ some 38 →
  ∃ k, s.length - (i + (txt t 1).length) < k ∧ orF s m (preF s m f) (i, false) = loop s 3 124 (andF s m (preF s m f)) k (enc t) (i + (txt t 1).length, false)
def P0 (t : Tree) : Prop := ∀ (f n i : Nat) (r : List UInt8), s.drop i = txt t 0 ++ r → s.length - i < f → s.length - i < n → r.head? ≠ some 38 → r.head? ≠ some 124 → r.head? ≠ some 62 →
  impF s m (preF s m f) n (i, false) = (enc t, (i + (txt t 0).length, false))
end

section
variable {s : List UInt8} {m : Nat}

theorem loop_stop {k : Int} {c : UInt8} {sub : St → Res} {n : Nat} {a : List Nd} {st : St} (h : sees s st c = false) : loop s k c sub n a st = (a, st) := by
  cases n with
  | zero => rfl
  | succ n => rw [loop, if_neg (by rw [h]; decide)]

theorem up2 (hm : s.length < m) {t : Tree} (ht : txt t 2 = txt t 3) (h : P3 s m t) : P2 s m t := by
  intro f i r hd hf
  rw [ht] at hd ⊢
  refine ⟨m, by omega, ?_⟩
  have := h f i r hd hf
  rw [andF, this]
theorem up1 (hm : s.length < m) {t : Tree} (ht : txt t 1 = txt t 2) (h : P2 s m t) : P1 s m t := by
  intro f i r hd hf hr
  rw [ht] at hd ⊢
  obtain ⟨k, hk, he⟩ := h f i r hd hf
  have hs := sees_none (drop_tail hd) hr
  rw [loop_stop hs] at he
  refine ⟨m, by omega, ?_⟩
  rw [orF, he]
theorem up0 {t : Tree} (ht : txt t 0 = txt t 1) (h : P1 s m t) : P0 s m t := by
  intro f n i r hd hf hn h1 h2 h3
  rw [ht] at hd ⊢
  obtain ⟨k, hk, he⟩ := h f i r hd hf h1
  rw [loop_stop (sees_none (drop_tail hd) h2)] at he
  cases n with
  | zero => omega
  | succ n =>
    rw [impF_no (by rw [he]; exact sees_none (drop_tail hd) h3), he]
theorem down3 (hm : s.length < m) {t : Tree} (ht : txt t 3 = [40] ++ txt t 0 ++ [41]) (h : P0 s m t) : P3 s m t := by
  intro f i r hd hf
  have hp := txt_pos t 0
  rw [ht] at hd ⊢
  have hlen := drop_len hd (by simp)
  simp only [List.length_append, List.length_cons, List.length_nil] at hlen
  simp only [List.append_assoc, List.cons_append, List.nil_append] at hd
  have h1 : s.drop (i + 1) = txt t 0 ++ (41 :: r) := drop_tail (x := [40]) (r := txt t 0 ++ (41 :: r)) hd
  have h2 : s.drop (i + 1 + (txt t 0).length) = 41 :: r := drop_tail h1
  cases f with
  | zero => omega
  | succ f =>
    have h40 : sees s (i, false) 40 = true := by rw [sees_drop hd]; rfl
    rw [preF_par h40, show step (i, false) = (i + 1, false) from rfl]
    rw [h f m (i + 1) (41 :: r) h1 (by omega) (by omega) (by simp) (by simp) (by simp)]
    have h41 : sees s (i + 1 + (txt t 0).length, false) 41 = true := by rw [sees_drop h2]; rfl
    simp only [need, h41, if_true, step, List.length_append, List.length_cons, List.length_nil]
    congr 2
    omega

theorem all_fls (hm : s.length < m) : P3 s m .fls ∧ P2 s m .fls ∧ P1 s m .fls ∧ P0 s m .fls := by
  have h3 : P3 s m .fls := by
    intro f i r hd hf
    have hd' : s.drop i = 70 :: r := hd
    have hlen := drop_len hd (by simp [txt])
    simp only [txt, List.length_cons, List.length_nil] at hlen
    cases f with
    | zero => omega
    | succ f => rw [preF_fls (by rw [sees_drop hd']; rfl)]; rfl
  have h2 := up2 hm rfl h3
  have h1 := up1 hm rfl h2
  exact ⟨h3, h2, h1, up0 rfl h1⟩
theorem all_tru (hm : s.length < m) : P3 s m (.imp .fls .fls) ∧ P2 s m (.imp .fls .fls) ∧ P1 s m (.imp .fls .fls) ∧ P0 s m (.imp .fls .fls) := by
  have h3 : P3 s m (.imp .fls .fls) := by
    intro f i r hd hf
    have hd' : s.drop i = 84 :: r := hd
    have hlen := drop_len hd (by simp [txt, isF])
    simp only [txt, isF, if_true, List.length_cons, List.length_nil] at hlen
    cases f with
    | zero => omega
    | succ f => rw [preF_tru (by rw [sees_drop hd']; rfl)]; rfl
  have h2 := up2 hm rfl h3
  have h1 := up1 hm rfl h2
  exact ⟨h3, h2, h1, up0 rfl h1⟩
theorem all_var (hm : s.length < m) (v : Fin 6) : P3 s m (.var v) ∧ P2 s m (.var v) ∧ P1 s m (.var v) ∧ P0 s m (.var v) := by
  have h3 : P3 s m (.var v) := by
    intro f i r hd hf
    have hd' : s.drop i = UInt8.ofNat (112 + v.val) :: r := hd
    have hlen := drop_len hd (by simp [txt])
    simp only [txt, List.length_cons, List.length_nil] at hlen
    cases f with
    | zero => omega
    | succ f =>
      have hl : letter s (i, false) = some v.val := letter_of_sees v.isLt (by rw [sees_drop hd']; simp)
      rw [preF_var hl]; rfl
  have h2 := up2 hm rfl h3
  have h1 := up1 hm rfl h2
  exact ⟨h3, h2, h1, up0 rfl h1⟩
theorem all_not (hm : s.length < m) {x : Tree} (hx : isF x = false) (h : P3 s m x) : P3 s m (.imp x .fls) ∧ P2 s m (.imp x .fls) ∧ P1 s m (.imp x .fls) ∧ P0 s m (.imp x .fls) := by
  have ht : ∀ l, txt (.imp x .fls) l = [126] ++ txt x 3 := by intro l; rw [txt, if_pos (show isF .fls = true from rfl), if_neg (by rw [hx]; decide)]
  have h3 : P3 s m (.imp x .fls) := by
    intro f i r hd hf
    rw [ht] at hd ⊢
    have hlen := drop_len hd (by simp)
    simp only [List.length_append, List.length_cons, List.length_nil] at hlen
    have hd' : s.drop i = 126 :: (txt x 3 ++ r) := by simpa using hd
    have h1 : s.drop (i + 1) = txt x 3 ++ r := drop_tail (x := [126]) (r := txt x 3 ++ r) hd'
    cases f with
    | zero => omega
    | succ f =>
      rw [preF_not (by rw [sees_drop hd']; rfl), show step (i, false) = (i + 1, false) from rfl, h f (i + 1) r h1 (by omega)]
      simp only [List.length_append, List.length_cons, List.length_nil]
      refine Prod.ext rfl (Prod.ext (by simp only; omega) rfl)
  have h2 := up2 hm (by rw [ht, ht]) h3
  have h1 := up1 hm (by rw [ht, ht]) h2
  exact ⟨h3, h2, h1, up0 (by rw [ht, ht]) h1⟩
theorem all_box (hm : s.length < m) {x : Tree} (h : P3 s m x) : P3 s m (.box x) ∧ P2 s m (.box x) ∧ P1 s m (.box x) ∧ P0 s m (.box x) := by
  have h3 : P3 s m (.box x) := by
    intro f i r hd hf
    have hd' : s.drop i = 91 :: (93 :: (txt x 3 ++ r)) := by simpa [txt] using hd
    have hlen := drop_len hd (by simp [txt])
    simp only [txt, List.length_append, List.length_cons, List.length_nil] at hlen
    have h1 : s.drop (i + 1) = 93 :: (txt x 3 ++ r) := drop_tail (x := [91]) (r := 93 :: (txt x 3 ++ r)) hd'
    have h2 : s.drop (i + 2) = txt x 3 ++ r := drop_tail (x := [91, 93]) (r := txt x 3 ++ r) hd'
    cases f with
    | zero => omega
    | succ f =>
      have h93 : sees s (i + 1, false) 93 = true := by rw [sees_drop h1]; rfl
      rw [preF_box (by rw [sees_drop hd']; rfl), show step (i, false) = (i + 1, false) from rfl, show need s (i + 1, false) 93 = (i + 2, false) by simp [need, h93, step], h f (i + 2) r h2 (by omega)]
      simp only [txt, List.length_append, List.length_cons, List.length_nil]
      refine Prod.ext rfl (Prod.ext (by simp only; omega) rfl)
  have h2 := up2 hm rfl h3
  have h1 := up1 hm rfl h2
  exact ⟨h3, h2, h1, up0 rfl h1⟩
theorem all_dia (hm : s.length < m) {x : Tree} (h : P3 s m x) : P3 s m (.dia x) ∧ P2 s m (.dia x) ∧ P1 s m (.dia x) ∧ P0 s m (.dia x) := by
  have h3 : P3 s m (.dia x) := by
    intro f i r hd hf
    have hd' : s.drop i = 60 :: (62 :: (txt x 3 ++ r)) := by simpa [txt] using hd
    have hlen := drop_len hd (by simp [txt])
    simp only [txt, List.length_append, List.length_cons, List.length_nil] at hlen
    have h1 : s.drop (i + 1) = 62 :: (txt x 3 ++ r) := drop_tail (x := [60]) (r := 62 :: (txt x 3 ++ r)) hd'
    have h2 : s.drop (i + 2) = txt x 3 ++ r := drop_tail (x := [60, 62]) (r := txt x 3 ++ r) hd'
    cases f with
    | zero => omega
    | succ f =>
      have h93 : sees s (i + 1, false) 62 = true := by rw [sees_drop h1]; rfl
      rw [preF_dia (by rw [sees_drop hd']; rfl), show step (i, false) = (i + 1, false) from rfl, show need s (i + 1, false) 62 = (i + 2, false) by simp [need, h93, step], h f (i + 2) r h2 (by omega)]
      simp only [txt, List.length_append, List.length_cons, List.length_nil]
      refine Prod.ext rfl (Prod.ext (by simp only; omega) rfl)
  have h2 := up2 hm rfl h3
  have h1 := up1 hm rfl h2
  exact ⟨h3, h2, h1, up0 rfl h1⟩

theorem all_and (hm : s.length < m) {x y : Tree} (hx : P2 s m x) (hy : P3 s m y) : P3 s m (.and x y) ∧ P2 s m (.and x y) ∧ P1 s m (.and x y) ∧ P0 s m (.and x y) := by
  have ht : ∀ l, l ≤ 2 → txt (.and x y) l = txt x 2 ++ [38] ++ txt y 3 := by intro l hl; rw [txt, wrap, if_neg (by omega)]
  have h2 : P2 s m (.and x y) := by
    intro f i r hd hf
    rw [ht 2 (by omega)] at hd ⊢
    simp only [List.append_assoc, List.cons_append, List.nil_append] at hd
    obtain ⟨k, hk, he⟩ := hx f i _ hd hf
    have d1 := drop_tail hd
    have d2 : s.drop (i + (txt x 2).length + 1) = txt y 3 ++ r := drop_tail (x := [38]) (r := txt y 3 ++ r) d1
    have hp := txt_pos y 3
    have hlen := drop_len d2 hp
    obtain ⟨q, rfl⟩ : ∃ q, k = q + 1 := ⟨k - 1, by omega⟩
    refine ⟨q, ?_, ?_⟩
    · simp only [List.length_append, List.length_cons, List.length_nil]; omega
    · rw [he, loop, if_pos (by rw [sees_drop d1]; rfl), show step (i + (txt x 2).length, false) = (i + (txt x 2).length + 1, false) from rfl, hy f _ r d2 (by omega)]
      simp only [List.length_append, List.length_cons, List.length_nil]
      rw [show i + (txt x 2).length + 1 + (txt y 3).length = i + ((txt x 2).length + (0 + 1) + (txt y 3).length) by omega]
      rfl
  have h1 := up1 hm (by rw [ht 1 (by omega), ht 2 (by omega)]) h2
  have h0 := up0 (by rw [ht 0 (by omega), ht 1 (by omega)]) h1
  exact ⟨down3 hm (by rw [ht 0 (by omega), txt, wrap, if_pos (by omega)]) h0, h2, h1, h0⟩
theorem all_or (hm : s.length < m) {x y : Tree} (hx : P1 s m x) (hy : P2 s m y) : P3 s m (.or x y) ∧ P2 s m (.or x y) ∧ P1 s m (.or x y) ∧ P0 s m (.or x y) := by
  have ht : ∀ l, l ≤ 1 → txt (.or x y) l = txt x 1 ++ [124] ++ txt y 2 := by intro l hl; rw [txt, wrap, if_neg (by omega)]
  have hw : ∀ l, 2 ≤ l → txt (.or x y) l = [40] ++ txt (.or x y) 0 ++ [41] := by intro l hl; rw [ht 0 (by omega), txt, wrap, if_pos (by omega)]
  have h1 : P1 s m (.or x y) := by
    intro f i r hd hf hr
    rw [ht 1 (by omega)] at hd ⊢
    simp only [List.append_assoc, List.cons_append, List.nil_append] at hd
    obtain ⟨k, hk, he⟩ := hx f i _ hd hf (by simp)
    have d1 := drop_tail hd
    have d2 : s.drop (i + (txt x 1).length + 1) = txt y 2 ++ r := drop_tail (x := [124]) (r := txt y 2 ++ r) d1
    have hp := txt_pos y 2
    have hlen := drop_len d2 hp
    obtain ⟨q, rfl⟩ : ∃ q, k = q + 1 := ⟨k - 1, by omega⟩
    refine ⟨q, ?_, ?_⟩
    · simp only [List.length_append, List.length_cons, List.length_nil]; omega
    · obtain ⟨k2, hk2, he2⟩ := hy f _ r d2 (by omega)
      rw [loop_stop (sees_none (drop_tail d2) hr)] at he2
      rw [he, loop, if_pos (by rw [sees_drop d1]; rfl), show step (i + (txt x 1).length, false) = (i + (txt x 1).length + 1, false) from rfl, he2]
      simp only [List.length_append, List.length_cons, List.length_nil]
      rw [show i + (txt x 1).length + 1 + (txt y 2).length = i + ((txt x 1).length + (0 + 1) + (txt y 2).length) by omega]
      rfl
  have h0 := up0 (by rw [ht 0 (by omega), ht 1 (by omega)]) h1
  have h3 := down3 hm (hw 3 (by omega)) h0
  exact ⟨h3, up2 hm (by rw [hw 2 (by omega), hw 3 (by omega)]) h3, h1, h0⟩
theorem all_imp (hm : s.length < m) {x y : Tree} (hf : isF y = false) (hx : P1 s m x) (hy : P0 s m y) : P3 s m (.imp x y) ∧ P2 s m (.imp x y) ∧ P1 s m (.imp x y) ∧ P0 s m (.imp x y) := by
  have ht : txt (.imp x y) 0 = txt x 1 ++ [62] ++ txt y 0 := by rw [txt, if_neg (by rw [hf]; decide), wrap, if_neg (by omega)]
  have hw : ∀ l, 1 ≤ l → txt (.imp x y) l = [40] ++ txt (.imp x y) 0 ++ [41] := by intro l hl; rw [ht, txt, if_neg (by rw [hf]; decide), wrap, if_pos (by omega)]
  have h0 : P0 s m (.imp x y) := by
    intro f n i r hd hf hn q1 q2 q3
    rw [ht] at hd ⊢
    simp only [List.append_assoc, List.cons_append, List.nil_append] at hd
    obtain ⟨k, hk, he⟩ := hx f i _ hd hf (by simp)
    have d1 := drop_tail hd
    have d2 : s.drop (i + (txt x 1).length + 1) = txt y 0 ++ r := drop_tail (x := [62]) (r := txt y 0 ++ r) d1
    have hp := txt_pos y 0
    have hlen := drop_len d2 hp
    rw [loop_stop (by rw [sees_drop d1]; rfl)] at he
    cases n with
    | zero => omega
    | succ n =>
      have hsee : sees s (orF s m (preF s m f) (i, false)).2 62 = true := by rw [he, sees_drop d1]; rfl
      rw [impF_yes hsee, he]
      dsimp only
      rw [show step (i + (txt x 1).length, false) = (i + (txt x 1).length + 1, false) from rfl, hy f n _ r d2 (by omega) (by omega) q1 q2 q3]
      simp only [List.length_append, List.length_cons, List.length_nil]
      refine Prod.ext rfl (Prod.ext (by simp only; omega) rfl)
  have h3 := down3 hm (hw 3 (by omega)) h0
  have h2 := up2 hm (by rw [hw 2 (by omega), hw 3 (by omega)]) h3
  exact ⟨h3, h2, up1 hm (by rw [hw 1 (by omega), hw 2 (by omega)]) h2, h0⟩

theorem all_levels (hm : s.length < m) (t : Tree) : P3 s m t ∧ P2 s m t ∧ P1 s m t ∧ P0 s m t := by
  induction t with
  | var v => exact all_var hm v
  | fls => exact all_fls hm
  | and x y hx hy => exact all_and hm hx.2.1 hy.1
  | or x y hx hy => exact all_or hm hx.2.2.1 hy.2.1
  | imp x y hx hy =>
    cases hf : isF y with
    | true =>
      obtain rfl := isF_eq hf
      cases hg : isF x with
      | true => obtain rfl := isF_eq hg; exact all_tru hm
      | false => exact all_not hm hg hx.1
    | false => exact all_imp hm hf hx.2.2.1 hy.2.2.2
  | box x hx => exact all_box hm hx.1
  | dia x hx => exact all_dia hm hx.1
end

theorem parse_txt (t : Tree) (m : Nat) (hm : (txt t 0).length < m) : parse (txt t 0) m = (enc t, ((txt t 0).length, false)) := by
  have h := (all_levels (s := txt t 0) hm t).2.2.2 m m 0 [] (by simp) (by omega) (by omega) (by simp) (by simp) (by simp)
  rw [parse, h]
  simp

end Fm

def bs (l : List UInt8) : ByteArray := ⟨l.toArray⟩
theorem bs_size (a : List UInt8) : (bs a).size = a.length := by simp [bs, ByteArray.size]
theorem bs_list (a : List UInt8) : (bs a).data.toList = a := by simp [bs]
namespace Fm
def fuel : Nat := 1048577
def read (s : ByteArray) : Res := parse s.data.toList fuel
def whole (s : ByteArray) : Bool := !(read s).2.2 && decide (s.size ≤ (read s).2.1)
def pf (s : ByteArray) : List Nd × Nat × Int :=
  if 200 < s.size then ([], 0, 3) else if whole s = false then ([], (read s).2.1, 6) else if 40 < (read s).1.length then ([], 0, 3) else ((read s).1, 0, 0)
theorem read_ok (s : ByteArray) : (read s).2.1 ≤ s.size ∧ (read s).1.length ≤ 3 * s.size + 1 := by
  obtain ⟨h1, h2, h3⟩ := parse_ok s.data.toList fuel
  rw [show s.data.toList.length = s.size from by simp] at h2
  exact ⟨h2, by unfold read; omega⟩
theorem read_ne (s : ByteArray) : (read s).1 ≠ [] := by
  obtain ⟨t, h⟩ := parse_enc s.data.toList fuel
  have := enc_pos t
  unfold read
  rw [h]
  intro h0
  rw [h0] at this
  simp at this
theorem pf_len (s : ByteArray) : (pf s).1.length ≤ 40 := by
  unfold pf
  split
  · simp
  split
  · simp
  split
  · simp
  · simp only; omega
end Fm

def Fm.rd (s : ByteArray) : List Nd × Int := if Fm.whole s = false then ([], ((Fm.read s).2.1 : Int)) else ((Fm.read s).1, -1)


namespace Fm
theorem read_txt (t : Tree) (h : (txt t 0).length < fuel) : read (bs (txt t 0)) = (enc t, ((txt t 0).length, false)) := by
  rw [read, bs_list, parse_txt t fuel h]
theorem whole_txt (t : Tree) (h : (txt t 0).length < fuel) : whole (bs (txt t 0)) = true := by
  rw [whole, read_txt t h, bs_size]
  simp
theorem rd_txt (t : Tree) (h : (txt t 0).length < fuel) : rd (bs (txt t 0)) = (enc t, -1) := by
  rw [rd, if_neg (by rw [whole_txt t h]; decide), read_txt t h]
end Fm
end Go.Proofs.YtpfncncohnhanaaGreatDoor


/- ParseFormula, of the program and of the reference: both give what the plain parser gives. -/
namespace Go.Proofs.YtpfncncohnhanaaGreatDoor
open Go.RowKit
open Fm (Nd)

theorem Rdr.new (w : World) (T : TypeId) (s : ByteArray) : Rdr (w.alloc (.cells #[.string s, .int .i64 0, .bool false] T)) w.heap.size T s (0, false) := blk_new w _

def Gives2 (w : World) (xs : List Nd) (n : Int) (e : Ending) (w' : World) : Prop := ∃ v, e = .returned (.tuple #[v, .int .i64 n]) ∧ Own w' w.heap.size v xs ∧ Grew w w'

end Go.Proofs.YtpfncncohnhanaaGreatDoor


/- The reference's reader: l02Take, l02Need. -/
namespace Go.Proofs.YtpfncncohnhanaaGreatDoor
open Go.RowKit

theorem l02Take_c (g T : Nat) (s : ByteArray) (st : Fm.St) (c : UInt8) (m : Int) (w : World) (h : Rdr w g T s st) (hs : s.size ≤ 1099511627776) (hat : st.1 ≤ s.size) (hm : m = (c.toNat : Int)) :
    Calls Tryz.prog 174 #[.pointer (some ⟨g, 0, none⟩), .int .u8 m] w (Took w g T s st c) := by
  subst hm
  have c0 := h.text
  have c1 := h.at_
  have c2 := h.bad
  have hf := h.free 1
  obtain ⟨p, b⟩ := st
  simp only at c0 c1 c2 hat
  by_cases hb : b = true
  · subst hb
    have HH := Lib.hid h
    clear h
    go_enter Tryz.func174, Tryz.ntmps174
    go_wp2_with fail
    go_quiet (fail)
    go_wp2_with fail
    go_ret
    exact Took.no HH.out (sees_bad _ _ _) ((Grew.refl _).drewN _)
  · have hb' : b = false := by simpa using hb
    subst hb'
    by_cases hlt : p < s.size
    · have hd : decide ((p : Int) < (s.size : Int)) = true := by simp; omega
      have HH := Lib.hid h
      clear h hb
      go_enter Tryz.func174, Tryz.ntmps174
      go_wp2_with fail
      go_quiet (fail)
      go_wp2_with fail
      · have h1 : ((s[p].toNat : Int) == c.toNat) = true := by assumption
        go_ret
        exact Took.yes HH.out (by rw [sees_in s p c hlt]; rw [byte_eq] at h1; simpa using h1) ((Grew.refl _).drewN _)
      · have h1 : ((s[p].toNat : Int) == c.toNat) = false := by assumption
        go_ret
        exact Took.no HH.out (by rw [sees_in s p c hlt]; rw [byte_eq] at h1; simpa using h1) ((Grew.refl _).drewN _)
    · have hd : decide ((p : Int) < (s.size : Int)) = false := by simp; omega
      have HH := Lib.hid h
      clear h hb
      go_enter Tryz.func174, Tryz.ntmps174
      go_wp2_with fail
      go_quiet (fail)
      go_wp2_with fail
      go_ret
      exact Took.no HH.out (sees_end _ _ _ (by omega)) ((Grew.refl _).drewN _)

theorem l02Take_yes (g T : Nat) (s : ByteArray) (st : Fm.St) (c : UInt8) (m : Int) (w : World) (h : Rdr w g T s st) (hs : s.size ≤ 1099511627776) (hat : st.1 ≤ s.size) (hm : m = (c.toNat : Int)) (hsee : Fm.sees s.data.toList st c = true) :
    Calls Tryz.prog 174 #[.pointer (some ⟨g, 0, none⟩), .int .u8 m] w fun e w' => e = .returned (.bool true) ∧ Rdr w' g T s (Fm.step st) ∧ Only g w w' :=
  (l02Take_c g T s st c m w h hs hat hm).mono fun e w' hh => by
    unfold Took at hh; rw [hsee] at hh; exact hh
theorem l02Take_no (g T : Nat) (s : ByteArray) (st : Fm.St) (c : UInt8) (m : Int) (w : World) (h : Rdr w g T s st) (hs : s.size ≤ 1099511627776) (hat : st.1 ≤ s.size) (hm : m = (c.toNat : Int)) (hsee : Fm.sees s.data.toList st c = false) :
    Calls Tryz.prog 174 #[.pointer (some ⟨g, 0, none⟩), .int .u8 m] w fun e w' => e = .returned (.bool false) ∧ Rdr w' g T s st ∧ Only g w w' :=
  (l02Take_c g T s st c m w h hs hat hm).mono fun e w' hh => by
    unfold Took at hh; rw [hsee] at hh; exact hh
theorem l02Need_c (g T : Nat) (s : ByteArray) (st : Fm.St) (c : UInt8) (m : Int) (w : World) (h : Rdr w g T s st) (hs : s.size ≤ 1099511627776) (hat : st.1 ≤ s.size) (hm : m = (c.toNat : Int)) :
    Calls Tryz.prog 229 #[.pointer (some ⟨g, 0, none⟩), .int .u8 m] w fun e w' => e = .returned (.tuple #[]) ∧ Rdr w' g T s (Fm.need s.data.toList st c) ∧ Only g w w' := by
  subst hm
  by_cases hsee : Fm.sees s.data.toList st c = true
  · have hn : Fm.need s.data.toList st c = Fm.step st := by unfold Fm.need; rw [if_pos hsee]
    rw [hn]
    clear hn
    go_enter Tryz.func229, Tryz.ntmps229
    go_wp2_with fail
    refine (l02Take_yes g T s st c _ _ h hs hat rfl hsee).mono ?_
    rintro e w1 ⟨rfl, h1, o1⟩
    go_wp2_with fail
    go_end0
    exact ⟨rfl, h1, o1⟩
  · have hsee' : Fm.sees s.data.toList st c = false := by simpa using hsee
    have hn : Fm.need s.data.toList st c = (st.1, true) := by unfold Fm.need; rw [if_neg hsee]
    rw [hn]
    clear hn hsee
    go_enter Tryz.func229, Tryz.ntmps229
    go_wp2_with fail
    refine (l02Take_no g T s st c _ _ h hs hat rfl hsee').mono ?_
    rintro e w1 ⟨rfl, h1, o1⟩
    have c2 := h1.bad
    have hf := h1.free 2
    have HH := Lib.hid h1
    clear h1
    go_wp2_with fail
    go_end0
    exact ⟨rfl, HH.out.spoil, o1.setCell _⟩
end Go.Proofs.YtpfncncohnhanaaGreatDoor


/- The reference's reader: what l02Imply, l02Or, l02And read is what the plain parser gives. -/
namespace Go.Proofs.YtpfncncohnhanaaGreatDoor
open Go.RowKit
open Fm (Nd)

theorem l02And_c (T : TypeId) (hT : 59 ≠ T) (s : ByteArray) (f m : Nat) (sub : Fm.St → Fm.Res) (hs : s.size ≤ 1048576) (hm : s.size < m) (hok : ∀ st : Fm.St, st.1 ≤ s.data.toList.length → Fm.Ok s.data.toList st (sub st))
    (hsub : Sub 214 T s f sub) : Sub 197 T s f (fun st => Fm.loop s.data.toList 2 38 sub m (sub st).1 (sub st).2) := by
  intro g st w hR hat hfu
  have HS := Lib.hid hsub
  have HO := Lib.hid hok
  clear hsub hok
  have hsz := size_toList s
  have h0 : Fm.Ok s.data.toList st (sub st) := HO.out st (by rw [hsz]; exact hat)
  show Calls _ _ _ _ (Reads w g T s (Fm.loop s.data.toList 2 38 sub m (sub st).1 (sub st).2))
  obtain ⟨R, hR0⟩ : ∃ R, R = Fm.loop s.data.toList 2 38 sub m (sub st).1 (sub st).2 := ⟨_, rfl⟩
  rw [← hR0]
  have hend := Lib.hid hR0
  clear hR0
  have HZ := Lib.hid hsz
  clear hsz
  go_enter Tryz.func197, Tryz.ntmps197
  go_wp2_with fail
  refine (HS.out g st _ hR hat hfu).mono ?_
  rintro e w1 ⟨v1, rfl, ho1, hR1, hO1⟩
  generalize sub st = r1 at *
  obtain ⟨k1, k2, k3⟩ := h0
  rw [HZ.out] at k2
  go_wp2_with fail
  go_loopg [3] m (fun i v wr => ∃ (a : List Nd) (st' : Fm.St), Own wr w.heap.size v a ∧ Rdr wr g T s st' ∧ Only g w wr ∧ Hid (Fm.loop s.data.toList 2 38 sub i a st' = R) ∧ s.size - st'.1 < i ∧ st.1 ≤ st'.1 ∧ st'.1 ≤ s.size ∧ a.length ≤ 3 * st'.1 + 1)
  case atStart => exact ⟨r1.1, r1.2, ho1, hR1, hO1, hend.out.symm, by omega, by omega, by omega, by omega⟩
  case round =>
    obtain ⟨a, st', hown, hR', hO', hl, hi, hst, hst2, hlen⟩ := hrel
    have hne := own_rdr_ne hown hR' hT
    clear hend ho1 hR1 hO1 k1 k2 k3 hR
    obtain ⟨j, rfl⟩ : ∃ j, gk = j + 1 := ⟨gk - 1, by omega⟩
    by_cases hsee : Fm.sees s.data.toList st' 38 = true
    · have hlt := Fm.sees_lt hsee
      rw [HZ.out] at hlt
      have hl2 : Hid (Fm.loop s.data.toList 2 38 sub j (Fm.join 2 a (sub (Fm.step st')).1) (sub (Fm.step st')).2 = R) := by
        have := hl.out
        rw [Fm.loop, if_pos hsee] at this
        exact this
      obtain ⟨k1, k2, k3⟩ : Fm.Ok s.data.toList (Fm.step st') (sub (Fm.step st')) := HO.out (Fm.step st') (by rw [HZ.out]; exact hlt)
      rw [HZ.out] at k2
      have e1 : (Fm.step st').1 = st'.1 + 1 := rfl
      rw [e1] at k1 k3
      have hfu2 : s.size - (Fm.step st').1 < f := by rw [e1]; omega
      have hat2 : (Fm.step st').1 ≤ s.size := by rw [e1]; omega
      clear hl e1
      go_wp2_with fail
      refine (l02Take_yes g T s st' 38 _ _ hR' (by omega) hst2 rfl hsee).mono ?_
      rintro e w2 ⟨rfl, hR2, hO2⟩
      clear hsee hR'
      generalize Fm.step st' = st2 at *
      go_wp2_with fail
      refine (HS.out g st2 _ hR2 hat2 hfu2).mono ?_
      rintro e w3 ⟨v3, rfl, ho3, hR3, hO3⟩
      generalize sub st2 = r3 at *
      go_wp2_with fail
      refine (l02Pair_c 2 _ _ a r3.1 _ ((hown.only hO2 hne).only hO3 hne).nodes ho3.nodes (by omega)).mono ?_
      rintro e w4 ⟨v4, rfl, ho4, hg4⟩
      go_wp2_with fail
      go_roundg j
      case measure => omega
      case rel => exact ⟨_, r3.2, ho4.base (by have := hO'.size; have := hO2.size; have := hO3.size; omega), hR3.grew hg4, ((hO'.trans hO2).trans hO3).grew hg4, hl2, by omega, by omega, by omega, by simp only [Fm.join, List.length_cons, List.length_append]; omega⟩
    · have hsee' : Fm.sees s.data.toList st' 38 = false := by simpa using hsee
      have hl2 : Hid (R = (a, st')) := by
        have := hl.out
        rw [Fm.loop, if_neg hsee] at this
        exact this.symm
      clear hsee hl
      go_wp2_with fail
      refine (l02Take_no g T s st' 38 _ _ hR' (by omega) hst2 rfl hsee').mono ?_
      rintro e w2 ⟨rfl, hR2, hO2⟩
      go_wp2_with fail
      go_ret
      rw [hl2.out]
      exact ⟨_, rfl, hown.only hO2 hne, hR2, hO'.trans hO2⟩
theorem l02Or_c (T : TypeId) (hT : 59 ≠ T) (s : ByteArray) (f m : Nat) (sub : Fm.St → Fm.Res) (hs : s.size ≤ 1048576) (hm : s.size < m) (hok : ∀ st : Fm.St, st.1 ≤ s.data.toList.length → Fm.Ok s.data.toList st (sub st))
    (hsub : Sub 197 T s f sub) : Sub 173 T s f (fun st => Fm.loop s.data.toList 3 124 sub m (sub st).1 (sub st).2) := by
  intro g st w hR hat hfu
  have HS := Lib.hid hsub
  have HO := Lib.hid hok
  clear hsub hok
  have hsz := size_toList s
  have h0 : Fm.Ok s.data.toList st (sub st) := HO.out st (by rw [hsz]; exact hat)
  show Calls _ _ _ _ (Reads w g T s (Fm.loop s.data.toList 3 124 sub m (sub st).1 (sub st).2))
  obtain ⟨R, hR0⟩ : ∃ R, R = Fm.loop s.data.toList 3 124 sub m (sub st).1 (sub st).2 := ⟨_, rfl⟩
  rw [← hR0]
  have hend := Lib.hid hR0
  clear hR0
  have HZ := Lib.hid hsz
  clear hsz
  go_enter Tryz.func173, Tryz.ntmps173
  go_wp2_with fail
  refine (HS.out g st _ hR hat hfu).mono ?_
  rintro e w1 ⟨v1, rfl, ho1, hR1, hO1⟩
  generalize sub st = r1 at *
  obtain ⟨k1, k2, k3⟩ := h0
  rw [HZ.out] at k2
  go_wp2_with fail
  go_loopg [3] m (fun i v wr => ∃ (a : List Nd) (st' : Fm.St), Own wr w.heap.size v a ∧ Rdr wr g T s st' ∧ Only g w wr ∧ Hid (Fm.loop s.data.toList 3 124 sub i a st' = R) ∧ s.size - st'.1 < i ∧ st.1 ≤ st'.1 ∧ st'.1 ≤ s.size ∧ a.length ≤ 3 * st'.1 + 1)
  case atStart => exact ⟨r1.1, r1.2, ho1, hR1, hO1, hend.out.symm, by omega, by omega, by omega, by omega⟩
  case round =>
    obtain ⟨a, st', hown, hR', hO', hl, hi, hst, hst2, hlen⟩ := hrel
    have hne := own_rdr_ne hown hR' hT
    clear hend ho1 hR1 hO1 k1 k2 k3 hR
    obtain ⟨j, rfl⟩ : ∃ j, gk = j + 1 := ⟨gk - 1, by omega⟩
    by_cases hsee : Fm.sees s.data.toList st' 124 = true
    · have hlt := Fm.sees_lt hsee
      rw [HZ.out] at hlt
      have hl2 : Hid (Fm.loop s.data.toList 3 124 sub j (Fm.join 3 a (sub (Fm.step st')).1) (sub (Fm.step st')).2 = R) := by
        have := hl.out
        rw [Fm.loop, if_pos hsee] at this
        exact this
      obtain ⟨k1, k2, k3⟩ : Fm.Ok s.data.toList (Fm.step st') (sub (Fm.step st')) := HO.out (Fm.step st') (by rw [HZ.out]; exact hlt)
      rw [HZ.out] at k2
      have e1 : (Fm.step st').1 = st'.1 + 1 := rfl
      rw [e1] at k1 k3
      have hfu2 : s.size - (Fm.step st').1 < f := by rw [e1]; omega
      have hat2 : (Fm.step st').1 ≤ s.size := by rw [e1]; omega
      clear hl e1
      go_wp2_with fail
      refine (l02Take_yes g T s st' 124 _ _ hR' (by omega) hst2 rfl hsee).mono ?_
      rintro e w2 ⟨rfl, hR2, hO2⟩
      clear hsee hR'
      generalize Fm.step st' = st2 at *
      go_wp2_with fail
      refine (HS.out g st2 _ hR2 hat2 hfu2).mono ?_
      rintro e w3 ⟨v3, rfl, ho3, hR3, hO3⟩
      generalize sub st2 = r3 at *
      go_wp2_with fail
      refine (l02Pair_c 3 _ _ a r3.1 _ ((hown.only hO2 hne).only hO3 hne).nodes ho3.nodes (by omega)).mono ?_
      rintro e w4 ⟨v4, rfl, ho4, hg4⟩
      go_wp2_with fail
      go_roundg j
      case measure => omega
      case rel => exact ⟨_, r3.2, ho4.base (by have := hO'.size; have := hO2.size; have := hO3.size; omega), hR3.grew hg4, ((hO'.trans hO2).trans hO3).grew hg4, hl2, by omega, by omega, by omega, by simp only [Fm.join, List.length_cons, List.length_append]; omega⟩
    · have hsee' : Fm.sees s.data.toList st' 124 = false := by simpa using hsee
      have hl2 : Hid (R = (a, st')) := by
        have := hl.out
        rw [Fm.loop, if_neg hsee] at this
        exact this.symm
      clear hsee hl
      go_wp2_with fail
      refine (l02Take_no g T s st' 124 _ _ hR' (by omega) hst2 rfl hsee').mono ?_
      rintro e w2 ⟨rfl, hR2, hO2⟩
      go_wp2_with fail
      go_ret
      rw [hl2.out]
      exact ⟨_, rfl, hown.only hO2 hne, hR2, hO'.trans hO2⟩

theorem l02Imply_c (T : TypeId) (hT : 59 ≠ T) (s : ByteArray) (f m : Nat) (sub : Fm.St → Fm.Res) (hs : s.size ≤ 1048576) (hok : ∀ st : Fm.St, st.1 ≤ s.data.toList.length → Fm.Ok s.data.toList st (sub st))
    (hsub : Sub 173 T s f (Fm.orF s.data.toList m sub)) : ∀ (i : Nat) (g : Nat) (st : Fm.St) (w : World), Rdr w g T s st → st.1 ≤ s.size → s.size - st.1 < i → s.size - st.1 < f →
      Calls Tryz.prog 151 #[.pointer (some ⟨g, 0, none⟩)] w (Reads w g T s (Fm.impF s.data.toList m sub i st)) := by
  intro i
  induction i with
  | zero => intro g st w _ _ h; omega
  | succ i ih =>
    intro g st w hR hat hi hfu
    have HS := Lib.hid hsub
    have HI := Lib.hid ih
    clear hsub ih
    have hsz := size_toList s
    have h0 : Fm.Ok s.data.toList st (Fm.orF s.data.toList m sub st) := Fm.orF_ok hok st (by rw [hsz]; exact hat)
    have hy := @Fm.impF_yes s.data.toList m i sub st
    have hn := @Fm.impF_no s.data.toList m i sub st
    have hk := fun st h => Fm.impF_ok (m := m) hok i st h
    have HK := Lib.hid hk
    have HZ := Lib.hid hsz
    clear hsz hok hk
    have HC := fun g h1 => HS.out g st w h1 hat hfu
    have HD := Lib.hid HC
    clear HC HS
    generalize Fm.orF s.data.toList m sub st = r1 at *
    obtain ⟨k1, k2, k3⟩ := h0
    rw [HZ.out] at k2
    by_cases hsee : Fm.sees s.data.toList r1.2 62 = true
    · have hlt := Fm.sees_lt hsee
      rw [HZ.out] at hlt
      have e1 : (Fm.step r1.2).1 = r1.2.1 + 1 := rfl
      obtain ⟨q1, q2, q3⟩ := HK.out (Fm.step r1.2) (by rw [HZ.out, e1]; exact hlt)
      rw [HZ.out] at q2
      rw [e1] at q1 q3
      have hq := HI.out g (Fm.step r1.2)
      rw [e1] at hq
      have HQ := Lib.hid hq
      rw [hy hsee]
      clear hy hn HI hq HK e1
      go_enter Tryz.func151, Tryz.ntmps151
      go_wp2_with fail
      refine (HD.out g hR).mono ?_
      rintro e w1 ⟨v1, rfl, ho1, hR1, hO1⟩
      have hne := own_rdr_ne ho1 hR1 hT
      go_wp2_with fail
      refine (l02Take_yes g T s r1.2 62 _ _ hR1 (by omega) (by omega) rfl hsee).mono ?_
      rintro e w2 ⟨rfl, hR2, hO2⟩
      go_wp2_with fail
      refine (HQ.out _ hR2 (by omega) (by omega) (by omega)).mono ?_
      rintro e w3 ⟨v3, rfl, ho3, hR3, hO3⟩
      generalize Fm.impF s.data.toList m sub i (Fm.step r1.2) = r3 at *
      go_wp2_with fail
      refine (l02Pair_c 4 _ _ r1.1 r3.1 _ ((ho1.only hO2 hne).only hO3 hne).nodes ho3.nodes (by omega)).mono ?_
      rintro e w4 ⟨v4, rfl, ho4, hg4⟩
      go_wp2_with fail
      go_ret
      exact ⟨_, rfl, ho4.base (by have := hO1.size; have := hO2.size; have := hO3.size; omega), hR3.grew hg4, ((hO1.trans hO2).trans hO3).grew hg4⟩
    · have hsee' : Fm.sees s.data.toList r1.2 62 = false := by simpa using hsee
      rw [hn hsee']
      clear hy hn HI HK hsee
      go_enter Tryz.func151, Tryz.ntmps151
      go_wp2_with fail
      refine (HD.out g hR).mono ?_
      rintro e w1 ⟨v1, rfl, ho1, hR1, hO1⟩
      have hne := own_rdr_ne ho1 hR1 hT
      go_wp2_with fail
      refine (l02Take_no g T s r1.2 62 _ _ hR1 (by omega) (by omega) rfl hsee').mono ?_
      rintro e w2 ⟨rfl, hR2, hO2⟩
      go_wp2_with fail
      go_ret
      exact ⟨_, rfl, ho1.only hO2 hne, hR2, hO1.trans hO2⟩

end Go.Proofs.YtpfncncohnhanaaGreatDoor


/- The reference's reader: l02Prefix and l02Imply. -/
namespace Go.Proofs.YtpfncncohnhanaaGreatDoor
open Go.RowKit
open Fm (Nd)

theorem index_letter (w : World) (i : Nat) (hi : i < 6) :
    (Instr.index 9 (.string ⟨#[112, 113, 114, 115, 116, 117]⟩) (.int .i64 i)).run Tryz.prog w = .ok (.int .u8 (112 + (i : Int))) w := by
  have h6 : i = 0 ∨ i = 1 ∨ i = 2 ∨ i = 3 ∨ i = 4 ∨ i = 5 := by omega
  rcases h6 with rfl | rfl | rfl | rfl | rfl | rfl <;> (simp [Instr.index, run_underlying Tryz.underlying9, go_sem]; rfl)
theorem letter_byte2 {i : Nat} (hi : i < 6) : 112 + (i : Int) = ((UInt8.ofNat (112 + i)).toNat : Int) := by
  rw [UInt8.toNat_ofNat']; omega

set_option maxHeartbeats 1000000 in
theorem l02Prefix_step (T : TypeId) (hT : 59 ≠ T) (s : ByteArray) (f m : Nat) (hs : s.size ≤ 1048576)
    (himp : Sub 151 T s f (Fm.impF s.data.toList m (Fm.preF s.data.toList m f) m)) (hp : Sub 214 T s f (Fm.preF s.data.toList m f))
    (g : Nat) (st : Fm.St) (w : World) (hR : Rdr w g T s st) (hat : st.1 ≤ s.size) (hfu : s.size - st.1 < f + 1) :
    Calls Tryz.prog 214 #[.pointer (some ⟨g, 0, none⟩)] w (Reads w g T s (Fm.preF s.data.toList m (f + 1) st)) := by
  have HI := Lib.hid himp
  have HP := Lib.hid hp
  have HZ := Lib.hid (size_toList s)
  clear himp hp
  cases hl : Fm.letter s.data.toList st with
  | some v =>
    rw [Fm.preF_var hl]
    have hv := (Fm.letter_some hl).1
    have hvs := (Fm.letter_some hl).2
    have HN := Lib.hid (fun i hi hne => @Fm.letter_ne s.data.toList st v i hl hi hne)
    clear hl HI HP
    go_enter Tryz.func214, Tryz.ntmps214
    go_wp2_with fail
    go_loopg [4] 6 (fun n x wr => ∃ i : Nat, n = 6 - i ∧ i ≤ v ∧ x = .int .i64 i ∧ Rdr wr g T s st ∧ Only g w wr)
    case atStart => exact ⟨0, rfl, Nat.zero_le _, rfl, hR, Only.refl _ _⟩
    case round =>
      obtain ⟨i, rfl, hiv, rfl, hRr, hOr⟩ := hrel
      have hix := fun w => index_letter w i (by omega)
      by_cases hiv2 : i = v
      · subst hiv2
        go_wp2_with fail
        refine (l02Take_yes g T s st _ _ _ hRr (by omega) hat (letter_byte2 (by omega)) hvs).mono ?_
        rintro e w4 ⟨rfl, hR6, hO6⟩
        go_wp2_with fail
        refine (l02Var_c _ _).mono ?_
        rintro e w5 ⟨v5, rfl, ho5, hg5⟩
        go_wp2_with fail
        go_ret
        exact ⟨_, rfl, ho5.base (hOr.trans hO6).size, hR6.grew hg5, (hOr.trans hO6).grew hg5⟩
      · have hs0 := HN.out i (by omega) hiv2
        go_wp2_with fail
        refine (l02Take_no g T s st _ _ _ hRr (by omega) hat (letter_byte2 (by omega)) hs0).mono ?_
        rintro e w4 ⟨rfl, hR6, hO6⟩
        go_wp2_with fail
        go_roundg (6 - (i + 1))
        case measure => omega
        case rel => exact ⟨i + 1, rfl, by omega, by go_num, hR6, hOr.trans hO6⟩
  | none =>
    have HN := Lib.hid (fun i hi => @Fm.letter_none s.data.toList st hl i hi)
    have HL := Lib.hid hl
    clear hl
    obtain ⟨R, hR0⟩ : ∃ R, R = Fm.preF s.data.toList m (f + 1) st := ⟨_, rfl⟩
    rw [← hR0]
    have HE := Lib.hid hR0
    clear hR0
    go_enter Tryz.func214, Tryz.ntmps214
    go_wp2_with fail
    go_loopg [4] 7 (fun n x wr => ∃ i : Nat, n = 7 - i ∧ i ≤ 6 ∧ x = .int .i64 i ∧ Rdr wr g T s st ∧ Only g w wr)
    case atStart => exact ⟨0, rfl, Nat.zero_le _, rfl, hR, Only.refl _ _⟩
    case round =>
      obtain ⟨i, rfl, hiv, rfl, hRr, hOr⟩ := hrel
      clear hR
      by_cases hi6 : i < 6
      · have hix := fun w => index_letter w i hi6
        have hs0 := HN.out i hi6
        go_wp2_with fail
        refine (l02Take_no g T s st _ _ _ hRr (by omega) hat (letter_byte2 hi6) hs0).mono ?_
        rintro e w4 ⟨rfl, hR6, hO6⟩
        go_wp2_with fail
        go_roundg (7 - (i + 1))
        case measure => omega
        case rel => exact ⟨i + 1, rfl, by omega, by go_num, hR6, hOr.trans hO6⟩
      · have hi66 : i = 6 := by omega
        subst hi66
        clear HN hi6 hiv
        go_wp2_with fail
        by_cases h70 : Fm.sees s.data.toList st 70 = true
        · have hE := HE.out
          rw [Fm.preF_fls h70] at hE
          subst hE
          refine (l02Take_yes g T s st 70 _ _ hRr (by omega) hat rfl h70).mono ?_
          rintro e w101 ⟨rfl, hR101, hO101⟩
          go_wp2_with fail
          refine (l02False_c _).mono ?_
          rintro e wz ⟨vz, rfl, hoz, hgz⟩
          go_wp2_with fail
          go_ret
          exact ⟨_, rfl, hoz.base ((hOr).trans hO101).size, hR101.grew hgz, ((hOr).trans hO101).grew hgz⟩
        have h70' : Fm.sees s.data.toList st 70 = false := by simpa using h70
        clear h70
        refine (l02Take_no g T s st 70 _ _ hRr (by omega) hat rfl h70').mono ?_
        rintro e w1 ⟨rfl, hR1, hO1⟩
        go_wp2_with fail
        by_cases h84 : Fm.sees s.data.toList st 84 = true
        · have hE := HE.out
          rw [Fm.preF_tru h84] at hE
          subst hE
          refine (l02Take_yes g T s st 84 _ _ hR1 (by omega) hat rfl h84).mono ?_
          rintro e w102 ⟨rfl, hR102, hO102⟩
          go_wp2_with fail
          refine (l02True_c _).mono ?_
          rintro e wz ⟨vz, rfl, hoz, hgz⟩
          go_wp2_with fail
          go_ret
          exact ⟨_, rfl, hoz.base (((hOr).trans hO1).trans hO102).size, hR102.grew hgz, (((hOr).trans hO1).trans hO102).grew hgz⟩
        have h84' : Fm.sees s.data.toList st 84 = false := by simpa using h84
        clear h84
        refine (l02Take_no g T s st 84 _ _ hR1 (by omega) hat rfl h84').mono ?_
        rintro e w2 ⟨rfl, hR2, hO2⟩
        go_wp2_with fail
        by_cases h126 : Fm.sees s.data.toList st 126 = true
        · have hE := HE.out
          rw [Fm.preF_not h126] at hE
          subst hE
          have hlt := Fm.sees_lt h126
          rw [HZ.out] at hlt
          have e1 : (Fm.step st).1 = st.1 + 1 := rfl
          have hk : Fm.Ok s.data.toList (Fm.step st) (Fm.preF s.data.toList m f (Fm.step st)) := Fm.preF_ok f (Fm.step st) (by rw [HZ.out]; exact hlt)
          obtain ⟨k1, k2, k3⟩ := hk
          rw [HZ.out] at k2
          rw [e1] at k1 k3
          have hq := HP.out g (Fm.step st)
          rw [e1] at hq
          have HQ := Lib.hid hq
          clear hq e1 HI HP
          generalize Fm.preF s.data.toList m f (Fm.step st) = r at *
          refine (l02Take_yes g T s st 126 _ _ hR2 (by omega) hat rfl h126).mono ?_
          rintro e w103 ⟨rfl, hR103, hO103⟩
          go_wp2_with fail
          refine (HQ.out _ hR103 (by omega) (by omega)).mono ?_
          rintro e wx ⟨vx, rfl, hox, hRx, hOx⟩
          go_wp2_with fail
          refine (l02Not_c _ r.1 _ hox.nodes (by omega)).mono ?_
          rintro e wz ⟨vz, rfl, hoz, hgz⟩
          go_wp2_with fail
          go_ret
          exact ⟨_, rfl, hoz.base (((((hOr).trans hO1).trans hO2).trans hO103).trans hOx).size, hRx.grew hgz, (((((hOr).trans hO1).trans hO2).trans hO103).trans hOx).grew hgz⟩
        have h126' : Fm.sees s.data.toList st 126 = false := by simpa using h126
        clear h126
        refine (l02Take_no g T s st 126 _ _ hR2 (by omega) hat rfl h126').mono ?_
        rintro e w3 ⟨rfl, hR3, hO3⟩
        go_wp2_with fail
        by_cases h91 : Fm.sees s.data.toList st 91 = true
        · have hE := HE.out
          rw [Fm.preF_box h91] at hE
          subst hE
          have hlt := Fm.sees_lt h91
          rw [HZ.out] at hlt
          have e1 : (Fm.step st).1 = st.1 + 1 := rfl
          have hn := Fm.need_pos (s := s.data.toList) (st := Fm.step st) (c := 93) (by rw [HZ.out, e1]; exact hlt)
          rw [HZ.out, e1] at hn
          obtain ⟨n1, n2⟩ := hn
          have hk : Fm.Ok s.data.toList (Fm.need s.data.toList (Fm.step st) 93) (Fm.preF s.data.toList m f (Fm.need s.data.toList (Fm.step st) 93)) := Fm.preF_ok f _ (by rw [HZ.out]; exact n2)
          obtain ⟨k1, k2, k3⟩ := hk
          rw [HZ.out] at k2
          have HQ := Lib.hid (HP.out g (Fm.need s.data.toList (Fm.step st) 93))
          have hat1 : (Fm.step st).1 ≤ s.size := by rw [e1]; omega
          clear e1 HI HP
          refine (l02Take_yes g T s st 91 _ _ hR3 (by omega) hat rfl h91).mono ?_
          rintro e w104 ⟨rfl, hR104, hO104⟩
          go_wp2_with fail
          refine (l02Need_c g T s (Fm.step st) 93 _ _ hR104 (by omega) hat1 rfl).mono ?_
          rintro e wy ⟨rfl, hRy, hOy⟩
          generalize Fm.need s.data.toList (Fm.step st) 93 = st2 at *
          generalize Fm.preF s.data.toList m f st2 = r at *
          go_wp2_with fail
          refine (HQ.out _ hRy (by omega) (by omega)).mono ?_
          rintro e wx ⟨vx, rfl, hox, hRx, hOx⟩
          go_wp2_with fail
          refine (l02Pre_c 5 _ r.1 _ hox.nodes (by omega)).mono ?_
          rintro e wz ⟨vz, rfl, hoz, hgz⟩
          go_wp2_with fail
          go_ret
          exact ⟨_, rfl, hoz.base (((((((hOr).trans hO1).trans hO2).trans hO3).trans hO104).trans hOy).trans hOx).size, hRx.grew hgz, (((((((hOr).trans hO1).trans hO2).trans hO3).trans hO104).trans hOy).trans hOx).grew hgz⟩
        have h91' : Fm.sees s.data.toList st 91 = false := by simpa using h91
        clear h91
        refine (l02Take_no g T s st 91 _ _ hR3 (by omega) hat rfl h91').mono ?_
        rintro e w4 ⟨rfl, hR4, hO4⟩
        go_wp2_with fail
        by_cases h60 : Fm.sees s.data.toList st 60 = true
        · have hE := HE.out
          rw [Fm.preF_dia h60] at hE
          subst hE
          have hlt := Fm.sees_lt h60
          rw [HZ.out] at hlt
          have e1 : (Fm.step st).1 = st.1 + 1 := rfl
          have hn := Fm.need_pos (s := s.data.toList) (st := Fm.step st) (c := 62) (by rw [HZ.out, e1]; exact hlt)
          rw [HZ.out, e1] at hn
          obtain ⟨n1, n2⟩ := hn
          have hk : Fm.Ok s.data.toList (Fm.need s.data.toList (Fm.step st) 62) (Fm.preF s.data.toList m f (Fm.need s.data.toList (Fm.step st) 62)) := Fm.preF_ok f _ (by rw [HZ.out]; exact n2)
          obtain ⟨k1, k2, k3⟩ := hk
          rw [HZ.out] at k2
          have HQ := Lib.hid (HP.out g (Fm.need s.data.toList (Fm.step st) 62))
          have hat1 : (Fm.step st).1 ≤ s.size := by rw [e1]; omega
          clear e1 HI HP
          refine (l02Take_yes g T s st 60 _ _ hR4 (by omega) hat rfl h60).mono ?_
          rintro e w105 ⟨rfl, hR105, hO105⟩
          go_wp2_with fail
          refine (l02Need_c g T s (Fm.step st) 62 _ _ hR105 (by omega) hat1 rfl).mono ?_
          rintro e wy ⟨rfl, hRy, hOy⟩
          generalize Fm.need s.data.toList (Fm.step st) 62 = st2 at *
          generalize Fm.preF s.data.toList m f st2 = r at *
          go_wp2_with fail
          refine (HQ.out _ hRy (by omega) (by omega)).mono ?_
          rintro e wx ⟨vx, rfl, hox, hRx, hOx⟩
          go_wp2_with fail
          refine (l02Pre_c 6 _ r.1 _ hox.nodes (by omega)).mono ?_
          rintro e wz ⟨vz, rfl, hoz, hgz⟩
          go_wp2_with fail
          go_ret
          exact ⟨_, rfl, hoz.base ((((((((hOr).trans hO1).trans hO2).trans hO3).trans hO4).trans hO105).trans hOy).trans hOx).size, hRx.grew hgz, ((((((((hOr).trans hO1).trans hO2).trans hO3).trans hO4).trans hO105).trans hOy).trans hOx).grew hgz⟩
        have h60' : Fm.sees s.data.toList st 60 = false := by simpa using h60
        clear h60
        refine (l02Take_no g T s st 60 _ _ hR4 (by omega) hat rfl h60').mono ?_
        rintro e w5 ⟨rfl, hR5, hO5⟩
        go_wp2_with fail
        by_cases h40 : Fm.sees s.data.toList st 40 = true
        · have hE := HE.out
          rw [Fm.preF_par h40] at hE
          subst hE
          have hlt := Fm.sees_lt h40
          rw [HZ.out] at hlt
          have hk : Fm.Ok s.data.toList (Fm.step st) (Fm.impF s.data.toList m (Fm.preF s.data.toList m f) m (Fm.step st)) := Fm.impF_ok (fun st h => Fm.preF_ok f st h) m (Fm.step st) (by rw [HZ.out]; exact hlt)
          have e1 : (Fm.step st).1 = st.1 + 1 := rfl
          obtain ⟨k1, k2, k3⟩ := hk
          rw [HZ.out] at k2
          rw [e1] at k1 k3
          have hq := HI.out g (Fm.step st)
          rw [e1] at hq
          have HQ := Lib.hid hq
          clear hq e1 HI HP
          generalize Fm.impF s.data.toList m (Fm.preF s.data.toList m f) m (Fm.step st) = r at *
          refine (l02Take_yes g T s st 40 _ _ hR5 (by omega) hat rfl h40).mono ?_
          rintro e w106 ⟨rfl, hR106, hO106⟩
          go_wp2_with fail
          refine (HQ.out _ hR106 (by omega) (by omega)).mono ?_
          rintro e wx ⟨vx, rfl, hox, hRx, hOx⟩
          have hne := own_rdr_ne hox hRx hT
          go_wp2_with fail
          refine (l02Need_c g T s r.2 41 _ _ hRx (by omega) (by omega) rfl).mono ?_
          rintro e wz ⟨rfl, hRz, hOz⟩
          go_wp2_with fail
          go_ret
          exact ⟨_, rfl, (hox.only hOz hne).base (((((((hOr).trans hO1).trans hO2).trans hO3).trans hO4).trans hO5).trans hO106).size, hRz, ((((((((hOr).trans hO1).trans hO2).trans hO3).trans hO4).trans hO5).trans hO106).trans hOx).trans hOz⟩
        have h40' : Fm.sees s.data.toList st 40 = false := by simpa using h40
        clear h40
        refine (l02Take_no g T s st 40 _ _ hR5 (by omega) hat rfl h40').mono ?_
        rintro e w6 ⟨rfl, hR6, hO6⟩
        have hE := HE.out
        have h126x := Fm.preF_bad (m := m) (f := f) h126' h91' h60' h70' h84' h40' HL.out
        rw [h126x] at hE
        subst hE
        clear h126x HL
        have c2 := hR6.bad
        have hf := hR6.free 2
        have HH := Lib.hid hR6
        clear hRr hR1 hR2 hR3 hR4 hR5 hR6
        go_wp2_with fail
        refine (l02False_c _).mono ?_
        rintro e wz ⟨vz, rfl, hoz, hgz⟩
        go_wp2_with fail
        go_ret
        exact ⟨_, rfl, hoz.base ((((((((hOr).trans hO1).trans hO2).trans hO3).trans hO4).trans hO5).trans hO6).setCell _).size, HH.out.spoil.grew hgz, ((((((((hOr).trans hO1).trans hO2).trans hO3).trans hO4).trans hO5).trans hO6).setCell _).grew hgz⟩

theorem l02Prefix_sub (T : TypeId) (hT : 59 ≠ T) (s : ByteArray) (m : Nat) (hs : s.size ≤ 1048576) (hm : s.size < m) : ∀ f, f ≤ m → Sub 214 T s f (Fm.preF s.data.toList m f) := by
  intro f
  induction f with
  | zero => intro _ g st w _ _ h; omega
  | succ f ih =>
    intro hfm g st w hR hat hfu
    have hp := ih (by omega)
    have hok : ∀ st : Fm.St, st.1 ≤ s.data.toList.length → Fm.Ok s.data.toList st (Fm.preF s.data.toList m f st) := fun st h => Fm.preF_ok f st h
    have hand := l02And_c T hT s f m _ hs hm hok hp
    have hor := l02Or_c T hT s f m _ hs hm (fun st h => Fm.andF_ok (m := m) hok st h) hand
    have himp := l02Imply_c T hT s f m _ hs hok hor m
    exact l02Prefix_step T hT s f m hs (fun g st w h1 h2 h3 => himp g st w h1 h2 (by omega) h3) hp g st w hR hat hfu

theorem l02Imply_top (T : TypeId) (hT : 59 ≠ T) (s : ByteArray) (m : Nat) (hs : s.size ≤ 1048576) (hm : s.size < m) (g : Nat) (w : World) (hR : Rdr w g T s (0, false)) :
    Calls Tryz.prog 151 #[.pointer (some ⟨g, 0, none⟩)] w (Reads w g T s (Fm.parse s.data.toList m)) := by
  have hok : ∀ st : Fm.St, st.1 ≤ s.data.toList.length → Fm.Ok s.data.toList st (Fm.preF s.data.toList m m st) := fun st h => Fm.preF_ok m st h
  have hand := l02And_c T hT s m m _ hs hm hok (l02Prefix_sub T hT s m hs hm m (Nat.le_refl _))
  have hor := l02Or_c T hT s m m _ hs hm (fun st h => Fm.andF_ok (m := m) hok st h) hand
  exact l02Imply_c T hT s m m _ hs hok hor m g (0, false) w hR (by simp) (by simpa using hm) (by simpa using hm)
end Go.Proofs.YtpfncncohnhanaaGreatDoor


/- The readers of whole texts: ParseFormula of the reference. -/
namespace Go.Proofs.YtpfncncohnhanaaGreatDoor
open Go.RowKit
open Fm (Nd)

theorem l02Read_c (s : ByteArray) (w : World) (hs : s.size ≤ 1048576) :
    Calls Tryz.prog 100 #[.string s] w (Gives2 w (Fm.rd s).1 (Fm.rd s).2) := by
  obtain ⟨hr1, hr2⟩ := Fm.read_ok s
  have hxs : Hid ((Fm.read s).1 ≠ []) := Fm.read_ne s
  have HT := Lib.hid (fun g w hR => l02Imply_top 153 (by decide) s Fm.fuel (by omega) (by unfold Fm.fuel; omega) g w hR)
  have hpf : Hid (Fm.rd s = if Fm.whole s = false then ([], ((Fm.read s).2.1 : Int)) else ((Fm.read s).1, -1)) := rfl
  have hwh : Hid (Fm.whole s = (!(Fm.read s).2.2 && decide (s.size ≤ (Fm.read s).2.1))) := rfl
  generalize Fm.rd s = P at *
  generalize Fm.whole s = W at *
  have hrd : Fm.parse s.data.toList Fm.fuel = Fm.read s := rfl
  rw [hrd] at HT
  clear hrd
  generalize Fm.read s = r at *
  obtain ⟨xs, p, b⟩ := r
  simp only at hr1 hr2 hpf hwh
  clear hxs
  have HR0 := Lib.hid (Rdr.new w 153 s)
  by_cases hb : b = true
  · subst hb
    have hP : P = ([], (p : Int)) := by rw [hpf.out, hwh.out]; simp
    subst hP
    clear hpf hwh
    go_enter Tryz.func100, Tryz.ntmps100
    go_wp2_with fail
    refine (HT.out _ _ HR0.out).mono ?_
    rintro e w1 ⟨v1, rfl, ho1, hR1, hO1⟩
    have c1 := hR1.at_
    have c2 := hR1.bad
    have hG := hO1.grew_of ((Grew.refl w).alloc _) (Nat.le_refl _)
    clear hR1 hO1
    go_wp2_with fail
    go_quiet (fail)
    go_wp2_with fail
    go_ret2
    exact ⟨_, rfl, Own.nil_ _ _, hG.drewN _⟩
  have hb' : b = false := by simpa using hb
  subst hb'
  clear hb
  by_cases hlt : p < s.size
  · have hP : P = ([], (p : Int)) := by
      rw [hpf.out, hwh.out]
      simp [hlt]
    subst hP
    clear hpf hwh
    go_enter Tryz.func100, Tryz.ntmps100
    go_wp2_with fail
    refine (HT.out _ _ HR0.out).mono ?_
    rintro e w1 ⟨v1, rfl, ho1, hR1, hO1⟩
    have c1 := hR1.at_
    have c2 := hR1.bad
    have hG := hO1.grew_of ((Grew.refl w).alloc _) (Nat.le_refl _)
    clear hR1 hO1
    go_wp2_with fail
    go_quiet (fail)
    go_wp2_with fail
    go_ret2
    exact ⟨_, rfl, Own.nil_ _ _, hG.drewN _⟩
  · have hP : P = (xs, -1) := by
      rw [hpf.out, hwh.out]
      simp [Nat.le_of_not_lt hlt]
    subst hP
    clear hpf hwh
    go_enter Tryz.func100, Tryz.ntmps100
    go_wp2_with fail
    refine (HT.out _ _ HR0.out).mono ?_
    rintro e w1 ⟨v1, rfl, ho1, hR1, hO1⟩
    have c1 := hR1.at_
    have c2 := hR1.bad
    have hG := hO1.grew_of ((Grew.refl w).alloc _) (Nat.le_refl _)
    obtain ⟨A, ca, rfl⟩ := nodes_slice ho1.nodes
    clear hR1 hO1
    go_wp2_with fail
    go_ret2
    exact ⟨_, rfl, ho1.base (by simp), hG⟩

end Go.Proofs.YtpfncncohnhanaaGreatDoor


/- Where the part at an index ends; the parts of a formula. -/
namespace Go.Proofs.YtpfncncohnhanaaGreatDoor
open Go.RowKit
open Fm (Nd Tree)

theorem partsOf_c (k : Int) (w : World) :
    Calls Tryz.prog 119 #[.int .i64 k] w fun e w' => e = .returned (.int .i64 (Fm.arity k)) ∧ Grew w w' := by
  by_cases h2 : k = 2 ∨ k = 3 ∨ k = 4
  · have ha : Fm.arity k = 2 := by unfold Fm.arity; rw [if_pos h2]
    rw [ha]
    rcases h2 with rfl | rfl | rfl
    all_goals
      go_enter Tryz.func119, Tryz.ntmps119
      go_wp2_with fail
      go_ret
      exact ⟨rfl, Grew.refl _⟩
  by_cases h1 : k = 5 ∨ k = 6
  · have ha : Fm.arity k = 1 := by unfold Fm.arity; rw [if_neg h2, if_pos h1]
    rw [ha]
    rcases h1 with rfl | rfl
    all_goals
      go_enter Tryz.func119, Tryz.ntmps119
      go_wp2_with fail
      go_ret
      exact ⟨rfl, Grew.refl _⟩
  · have ha : Fm.arity k = 0 := by unfold Fm.arity; rw [if_neg h2, if_neg h1]
    rw [ha]
    have n2 : (k == 2) = false := by simp; omega
    have n3 : (k == 3) = false := by simp; omega
    have n4 : (k == 4) = false := by simp; omega
    have n5 : (k == 5) = false := by simp; omega
    have n6 : (k == 6) = false := by simp; omega
    clear h1 h2 ha
    go_enter Tryz.func119, Tryz.ntmps119
    go_wp2_with fail
    go_ret
    exact ⟨rfl, Grew.refl _⟩

def pval (j : Nat) : Option Nat → Int
  | some n => (j : Int) + n
  | none => -1
theorem pval_succ (j : Nat) (o : Option Nat) : pval j (o.map (· + 1)) = pval (j + 1) o := by
  cases o with
  | none => rfl
  | some n => show (j : Int) + ((n + 1 : Nat) : Int) = ((j + 1 : Nat) : Int) + n; omega
def pend (xs : List Nd) (i : Nat) : Int := pval i (Fm.scan (xs.drop i) 1)

theorem scan_step {xs : List Nd} {j o : Nat} (hj : j < xs.length) : Fm.scan (xs.drop j) (o + 1) = (Fm.scan (xs.drop (j + 1)) (o + Fm.arity (kd xs j))).map (· + 1) := by
  rw [List.drop_eq_getElem_cons hj, Fm.scan_cons, kd_lt hj]

theorem partEnd_c (v : Value) (xs : List Nd) (i : Nat) (w : World) (h : Nodes w v xs) (hn : xs.length ≤ 1099511627776) (hi : i ≤ 1099511627776) :
    Calls Tryz.prog 73 #[v, .int .i64 i] w fun e w' => e = .returned (.int .i64 (pend xs i)) ∧ Grew w w' := by
  rcases h.open_ with ⟨rfl, rfl⟩ | ⟨b, o, c, rfl, hc, hm, hb, hf⟩
  · have hp : pend [] i = -1 := by simp [pend, Fm.scan_nil, pval]
    rw [hp]
    clear hp
    go_enter Tryz.func73, Tryz.ntmps73
    go_wp2_with fail
    refine wp_loop_rounds 1 ?_; rw [rounds_succ]
    go_wp2_with fail
    go_ret
    exact ⟨rfl, Grew.refl _⟩
  · clear h
    obtain ⟨P, hP⟩ : ∃ P, P = pend xs i := ⟨_, rfl⟩
    rw [← hP]
    -- the rest of the scan decides the result
    have hstart : Hid (P = pval i (Fm.scan (xs.drop i) 1)) := hP
    have hstep := fun j o hj => @scan_step xs j o hj
    have HS := Lib.hid hstep
    have HL : Hid (∀ j, xs.length ≤ j → xs.drop j = []) := Lib.hid fun j hj => List.drop_eq_nil_of_le hj
    clear hP hstep
    have HF := Lib.hid hf
    clear hf
    generalize hN : xs.length = n at *
    clear hN
    go_enter Tryz.func73, Tryz.ntmps73
    go_wp2_with fail
    go_loopg [1, 5] (n + 1 - i) (fun k x y wr => ∃ j op : Nat, x = .int .i64 j ∧ y = .int .i64 op ∧ Grew w wr ∧ i ≤ j ∧ op ≤ j - i + 1 ∧ k = n + 1 - j ∧ j ≤ i + n ∧ Hid (P = pval j (Fm.scan (xs.drop j) op)))
    case atStart => exact ⟨i, 1, rfl, rfl, Grew.refl _, Nat.le_refl _, by omega, rfl, by omega, hstart⟩
    case round =>
      obtain ⟨j, op, rfl, rfl, hB, hij, hop, rfl, hjn, HP⟩ := hrel
      by_cases hz : op = 0
      · subst hz
        have hv : Hid (P = (j : Int)) := Lib.hid (by rw [HP.out, Fm.scan_zero]; simp [pval])
        clear HP
        go_wp2_with fail
        go_ret
        rw [hv.out]
        exact ⟨rfl, hB⟩
      · obtain ⟨q, rfl⟩ : ∃ q, op = q + 1 := ⟨op - 1, by omega⟩
        by_cases hlt : j < n
        · have k1 : ∀ W, Grew w W → W.cell? ⟨b, o + j * 2, none⟩ = some (.int .i64 (kd xs j)) := fun W hW => (HF.out j hlt W hW).1
          have hv : Hid (P = pval (j + 1) (Fm.scan (xs.drop (j + 1)) (q + Fm.arity (kd xs j)))) := Lib.hid (by rw [HP.out, HS.out j q hlt, pval_succ])
          have har := Fm.arity_le (kd xs j)
          clear HP hz
          go_wp2_with fail
          refine (partsOf_c _ _).mono ?_
          rintro e w1 ⟨rfl, hg1⟩
          generalize Fm.arity (kd xs j) = ar at *
          go_wp2_with fail
          go_roundg (n + 1 - (j + 1))
          case measure => omega
          case rel => exact ⟨j + 1, q + ar, by go_num, by go_num, hB.trans hg1, by omega, by omega, rfl, by omega, hv⟩
        · have hv : Hid (P = -1) := Lib.hid (by rw [HP.out, HL.out j (by omega), Fm.scan_nil]; rfl)
          clear HP
          go_wp2_with fail
          go_ret
          rw [hv.out]
          exact ⟨rfl, hB⟩
theorem l02Parts_c (k : Int) (w : World) :
    Calls Tryz.prog 157 #[.int .i64 k] w fun e w' => e = .returned (.int .i64 (Fm.arity k)) ∧ Grew w w' := by
  by_cases h2 : k = 2 ∨ k = 3 ∨ k = 4
  · have ha : Fm.arity k = 2 := by unfold Fm.arity; rw [if_pos h2]
    rw [ha]
    rcases h2 with rfl | rfl | rfl
    all_goals
      go_enter Tryz.func157, Tryz.ntmps157
      go_wp2_with fail
      go_ret
      exact ⟨rfl, Grew.refl _⟩
  by_cases h1 : k = 5 ∨ k = 6
  · have ha : Fm.arity k = 1 := by unfold Fm.arity; rw [if_neg h2, if_pos h1]
    rw [ha]
    rcases h1 with rfl | rfl
    all_goals
      go_enter Tryz.func157, Tryz.ntmps157
      go_wp2_with fail
      go_ret
      exact ⟨rfl, Grew.refl _⟩
  · have ha : Fm.arity k = 0 := by unfold Fm.arity; rw [if_neg h2, if_neg h1]
    rw [ha]
    have n2 : (k == 2) = false := by simp; omega
    have n3 : (k == 3) = false := by simp; omega
    have n4 : (k == 4) = false := by simp; omega
    have n5 : (k == 5) = false := by simp; omega
    have n6 : (k == 6) = false := by simp; omega
    clear h1 h2 ha
    go_enter Tryz.func157, Tryz.ntmps157
    go_wp2_with fail
    go_ret
    exact ⟨rfl, Grew.refl _⟩

theorem l02Part_c (v : Value) (xs : List Nd) (i : Nat) (w : World) (h : Nodes w v xs) (hn : xs.length ≤ 1099511627776) (hi : i ≤ 1099511627776) :
    Calls Tryz.prog 109 #[v, .int .i64 i] w fun e w' => e = .returned (.int .i64 (pend xs i)) ∧ Grew w w' := by
  rcases h.open_ with ⟨rfl, rfl⟩ | ⟨b, o, c, rfl, hc, hm, hb, hf⟩
  · have hp : pend [] i = -1 := by simp [pend, Fm.scan_nil, pval]
    rw [hp]
    clear hp
    go_enter Tryz.func109, Tryz.ntmps109
    go_wp2_with fail
    refine wp_loop_rounds 1 ?_; rw [rounds_succ]
    go_wp2_with fail
    go_ret
    exact ⟨rfl, Grew.refl _⟩
  · clear h
    obtain ⟨P, hP⟩ : ∃ P, P = pend xs i := ⟨_, rfl⟩
    rw [← hP]
    -- the rest of the scan decides the result
    have hstart : Hid (P = pval i (Fm.scan (xs.drop i) 1)) := hP
    have hstep := fun j o hj => @scan_step xs j o hj
    have HS := Lib.hid hstep
    have HL : Hid (∀ j, xs.length ≤ j → xs.drop j = []) := Lib.hid fun j hj => List.drop_eq_nil_of_le hj
    clear hP hstep
    have HF := Lib.hid hf
    clear hf
    generalize hN : xs.length = n at *
    clear hN
    go_enter Tryz.func109, Tryz.ntmps109
    go_wp2_with fail
    go_loopg [1, 5] (n + 1 - i) (fun k x y wr => ∃ j op : Nat, x = .int .i64 j ∧ y = .int .i64 op ∧ Grew w wr ∧ i ≤ j ∧ op ≤ j - i + 1 ∧ k = n + 1 - j ∧ j ≤ i + n ∧ Hid (P = pval j (Fm.scan (xs.drop j) op)))
    case atStart => exact ⟨i, 1, rfl, rfl, Grew.refl _, Nat.le_refl _, by omega, rfl, by omega, hstart⟩
    case round =>
      obtain ⟨j, op, rfl, rfl, hB, hij, hop, rfl, hjn, HP⟩ := hrel
      by_cases hz : op = 0
      · subst hz
        have hv : Hid (P = (j : Int)) := Lib.hid (by rw [HP.out, Fm.scan_zero]; simp [pval])
        clear HP
        go_wp2_with fail
        go_ret
        rw [hv.out]
        exact ⟨rfl, hB⟩
      · obtain ⟨q, rfl⟩ : ∃ q, op = q + 1 := ⟨op - 1, by omega⟩
        by_cases hlt : j < n
        · have k1 : ∀ W, Grew w W → W.cell? ⟨b, o + j * 2, none⟩ = some (.int .i64 (kd xs j)) := fun W hW => (HF.out j hlt W hW).1
          have hv : Hid (P = pval (j + 1) (Fm.scan (xs.drop (j + 1)) (q + Fm.arity (kd xs j)))) := Lib.hid (by rw [HP.out, HS.out j q hlt, pval_succ])
          have har := Fm.arity_le (kd xs j)
          clear HP hz
          go_wp2_with fail
          refine (l02Parts_c _ _).mono ?_
          rintro e w1 ⟨rfl, hg1⟩
          generalize Fm.arity (kd xs j) = ar at *
          go_wp2_with fail
          go_roundg (n + 1 - (j + 1))
          case measure => omega
          case rel => exact ⟨j + 1, q + ar, by go_num, by go_num, hB.trans hg1, by omega, by omega, rfl, by omega, hv⟩
        · have hv : Hid (P = -1) := Lib.hid (by rw [HP.out, HL.out j (by omega), Fm.scan_nil]; rfl)
          clear HP
          go_wp2_with fail
          go_ret
          rw [hv.out]
          exact ⟨rfl, hB⟩

theorem cells_drop (xs : List Nd) : ∀ i, cells (xs.drop i) = (cells xs).drop (i * 2) := by
  induction xs with
  | nil => intro i; simp [cells]
  | cons x xs ih =>
    intro i
    cases i with
    | zero => simp
    | succ i =>
      rw [List.drop_succ_cons, ih, cells_cons, show (i + 1) * 2 = i * 2 + 1 + 1 by omega]
      rfl
theorem cells_take (xs : List Nd) : ∀ i, cells (xs.take i) = (cells xs).take (i * 2) := by
  induction xs with
  | nil => intro i; simp [cells]
  | cons x xs ih =>
    intro i
    cases i with
    | zero => simp [cells]
    | succ i =>
      rw [List.take_succ_cons, cells_cons, ih, cells_cons, show (i + 1) * 2 = i * 2 + 1 + 1 by omega]
      rfl
theorem Nodes.sub {w : World} {b o n c : Nat} {xs : List Nd} (h : Nodes w (.slice (some ⟨b, o, none⟩) n c) xs) (i m c' : Nat) (him : i + m ≤ xs.length) (hc : m ≤ c') (hc' : c' ≤ 9223372036854775807) :
    Nodes w (.slice (some ⟨b, o + i * 2, none⟩) m c') ((xs.drop i).take m) := by
  obtain ⟨h1, h2, h3⟩ := h
  have hl : ((xs.drop i).take m).length = m := by simp; omega
  refine ⟨cells_length _, by omega, .inr ?_⟩
  rcases h3 with ⟨h4, _⟩ | ⟨b', o', c0, h4, h5, h6, h7, h8⟩
  · cases h4
  · simp only [Value.slice.injEq, Option.some.injEq, Addr.mk.injEq, and_true] at h4
    obtain ⟨⟨rfl, rfl⟩, rfl, rfl⟩ := h4
    refine ⟨b, o + i * 2, c', by rw [hl], by omega, hc', h7, fun j u hu => ?_⟩
    rw [cells_take, List.getElem?_take] at hu
    split at hu
    · rw [cells_drop, List.getElem?_drop] at hu
      have := h8 _ _ hu
      rw [show o + i * 2 + j = o + (i * 2 + j) by omega]
      exact this
    · cases hu

def At (xs : List Nd) (i : Nat) (t : Tree) : Prop := ∃ rest, xs.drop i = Fm.enc t ++ rest
theorem At.pend {xs : List Nd} {i : Nat} {t : Tree} (h : At xs i t) : pend xs i = (i : Int) + (Fm.enc t).length := by
  obtain ⟨rest, h⟩ := h
  rw [Go.Proofs.YtpfncncohnhanaaGreatDoor.pend, h, Fm.scan_one]; rfl
theorem At.take {xs : List Nd} {i : Nat} {t : Tree} (h : At xs i t) : (xs.drop i).take (Fm.enc t).length = Fm.enc t := by
  obtain ⟨rest, h⟩ := h
  rw [h, List.take_left']; rfl
theorem At.le {xs : List Nd} {i : Nat} {t : Tree} (h : At xs i t) : i + (Fm.enc t).length ≤ xs.length := by
  obtain ⟨rest, h⟩ := h
  have h1 := congrArg List.length h
  have h2 := Fm.enc_pos t
  simp only [List.length_drop, List.length_append] at h1
  omega

def Cuts (w : World) (xs : List Nd) (e : Ending) (w' : World) : Prop := ∃ v, e = .returned v ∧ Nodes w' v xs ∧ Grew w w'

theorem l02Part_at (v : Value) (xs : List Nd) (i : Nat) (t : Tree) (w : World) (h : Nodes w v xs) (hn : xs.length ≤ 1099511627776) (ht : At xs i t) :
    Calls Tryz.prog 109 #[v, .int .i64 i] w fun e w' => e = .returned (.int .i64 ((i : Int) + (Fm.enc t).length)) ∧ Grew w w' := by
  have := l02Part_c v xs i w h hn (by have := ht.le; omega)
  rw [ht.pend] at this
  exact this

def kindOf : Tree → Int
  | .var _ => 0
  | .fls => 1
  | .and _ _ => 2
  | .or _ _ => 3
  | .imp _ _ => 4
  | .box _ => 5
  | .dia _ => 6

theorem kd_enc (t : Tree) : kd (Fm.enc t) 0 = kindOf t := by cases t <;> rfl
theorem at_first {xs : List Nd} {k : Nd} {a : Tree} {rest : List Nd} (h : xs = k :: (Fm.enc a ++ rest)) : At xs 1 a := ⟨rest, by rw [h]; rfl⟩
theorem at_second {xs : List Nd} {k : Nd} {a b : Tree} (h : xs = k :: (Fm.enc a ++ Fm.enc b)) : At xs (1 + (Fm.enc a).length) b :=
  ⟨[], by rw [h, Nat.add_comm, List.drop_succ_cons, List.drop_left', List.append_nil]; rfl⟩

theorem nodes_head {w : World} {v : Value} {t : Tree} (h : Nodes w v (Fm.enc t)) : ∃ b o c, v = .slice (some ⟨b, o, none⟩) (Fm.enc t).length c ∧ (Fm.enc t).length ≤ c ∧ c ≤ 9223372036854775807 ∧ ∀ W, Grew w W → W.cell? ⟨b, o, none⟩ = some (.int .i64 (kindOf t)) := by
  have hpos := Fm.enc_pos t
  rcases h.open_ with ⟨rfl, h0⟩ | ⟨b, o, c, rfl, hc, hm, hb, hf⟩
  · rw [h0] at hpos; simp at hpos
  · refine ⟨b, o, c, rfl, hc, hm, fun W hW => ?_⟩
    have := (hf 0 (by omega) W hW).1
    rw [kd_enc] at this
    simpa using this

end Go.Proofs.YtpfncncohnhanaaGreatDoor


/- Two lists of nodes that agree as far as k. -/
namespace Go.Proofs.YtpfncncohnhanaaGreatDoor
open Go.RowKit
open Fm (Nd)

def Agree (xs ys : List Nd) (k : Nat) : Prop := ∀ i, i < k → kd xs i = kd ys i ∧ sy xs i = sy ys i
theorem Agree.zero (xs ys : List Nd) : Agree xs ys 0 := fun i hi => absurd hi (by omega)
theorem Agree.succ {xs ys : List Nd} {k : Nat} (h : Agree xs ys k) (h1 : kd xs k = kd ys k) (h2 : sy xs k = sy ys k) : Agree xs ys (k + 1) := by
  intro i hi
  rcases Nat.lt_or_ge i k with hk | hk
  · exact h i hk
  · obtain rfl : i = k := by omega
    exact ⟨h1, h2⟩
end Go.Proofs.YtpfncncohnhanaaGreatDoor


/- The reference's l02Equal on lists of nodes. -/
namespace Go.Proofs.YtpfncncohnhanaaGreatDoor
open Go.RowKit
open Fm (Nd)

end Go.Proofs.YtpfncncohnhanaaGreatDoor


/- The text of a formula: the reference's l02Write. -/
namespace Go.Proofs.YtpfncncohnhanaaGreatDoor
open Go.RowKit
open Fm (Nd Tree)

theorem l02Left_c (v : Value) (xs : List Nd) (a : Tree) (w : World) (h : Nodes w v xs) (hn : xs.length ≤ 1099511627776) (ha : At xs 1 a) :
    Calls Tryz.prog 162 #[v] w (Cuts w (Fm.enc a)) := by
  have hle := ha.le
  have hpos := Fm.enc_pos a
  rcases h.open_ with ⟨rfl, rfl⟩ | ⟨b, o, c, rfl, hc, hm, hb, hf⟩
  · simp only [List.length_nil] at hle; omega
  · have hsub := h.sub 1 (Fm.enc a).length (c - 1) hle (by omega) (by omega)
    rw [ha.take] at hsub
    have HH := Lib.hid h
    have HS := Lib.hid hsub
    have HT := Lib.hid ha
    clear h hf hsub ha
    go_enter Tryz.func162, Tryz.ntmps162
    go_wp2_with fail
    refine (l02Part_at _ xs 1 a _ HH.out hn HT.out).mono ?_
    rintro e w1 ⟨rfl, hg1⟩
    go_wp2_with fail
    go_ret
    refine ⟨_, rfl, ?_, hg1⟩
    rw [Nat.add_sub_cancel_left]
    exact HS.out.grew hg1

theorem l02Right_c (v : Value) (xs : List Nd) (a t : Tree) (w : World) (h : Nodes w v xs) (hn : xs.length ≤ 1099511627776) (ha : At xs 1 a) (ht : At xs (1 + (Fm.enc a).length) t) (hl : xs.length = 1 + (Fm.enc a).length + (Fm.enc t).length) :
    Calls Tryz.prog 163 #[v] w (Cuts w (Fm.enc t)) := by
  have hle := ha.le
  have hpos := Fm.enc_pos t
  rcases h.open_ with ⟨rfl, rfl⟩ | ⟨b, o, c, rfl, hc, hm, hb, hf⟩
  · simp only [List.length_nil] at hle; omega
  · have hsub := h.sub (1 + (Fm.enc a).length) (Fm.enc t).length (c - (1 + (Fm.enc a).length)) (by omega) (by omega) (by omega)
    rw [ht.take] at hsub
    have HH := Lib.hid h
    have HS := Lib.hid hsub
    have HA := Lib.hid ha
    have hk : (Fm.enc t).length = xs.length - (1 + (Fm.enc a).length) := by omega
    rw [hk] at HS
    have hlt : 1 + (Fm.enc a).length < xs.length := by omega
    clear h hf hsub ha ht hl hk hpos
    go_enter Tryz.func163, Tryz.ntmps163
    go_wp2_with fail
    refine (l02Part_at _ xs 1 a _ HH.out hn HA.out).mono ?_
    rintro e w1 ⟨rfl, hg1⟩
    go_wp2_with fail
    go_ret
    exact ⟨_, rfl, HS.out.grew hg1, hg1⟩

end Go.Proofs.YtpfncncohnhanaaGreatDoor


/- A text that reads to a tree whose text it is. -/
namespace Go.Proofs.YtpfncncohnhanaaGreatDoor
open Go.RowKit
open Fm (Nd)

def IsGood (s : ByteArray) : Prop := ∃ t, Fm.pf s = (Fm.enc t, 0, 0) ∧ bs (Fm.txt t 0) = s
noncomputable def gd (s : ByteArray) : Bool := @decide (IsGood s) (Classical.propDecidable _)
theorem gd_false {s : ByteArray} (h : ¬ IsGood s) : gd s = false := by
  unfold gd
  exact @decide_eq_false _ (Classical.propDecidable _) h

end Go.Proofs.YtpfncncohnhanaaGreatDoor


/- The parts of a formula, as the program's text needs them. -/
namespace Go.Proofs.YtpfncncohnhanaaGreatDoor
open Go.RowKit
open Fm (Nd Tree)

end Go.Proofs.YtpfncncohnhanaaGreatDoor


/- The text of a formula: the program's textAt. -/
namespace Go.Proofs.YtpfncncohnhanaaGreatDoor
open Go.RowKit
open Fm (Nd Tree)

end Go.Proofs.YtpfncncohnhanaaGreatDoor


/- The program's 'parsed'. -/
namespace Go.Proofs.YtpfncncohnhanaaGreatDoor
open Go.RowKit
open Fm (Nd)

end Go.Proofs.YtpfncncohnhanaaGreatDoor


/- Slices of strings. -/
namespace Go.Proofs.YtpfncncohnhanaaGreatDoor
open Go.RowKit

def st (L : List ByteArray) (i : Nat) : ByteArray := L.getD i ByteArray.empty
def scells (L : List ByteArray) : List Value := L.map Value.string
theorem scells_length (L : List ByteArray) : (scells L).length = L.length * 1 := by simp [scells]
theorem scells_at {L : List ByteArray} {i : Nat} (h : i < L.length) : (scells L)[i]? = some (.string (st L i)) := by simp [scells, st, List.getD, h]
theorem scells_append (K L : List ByteArray) : scells (K ++ L) = scells K ++ scells L := by simp [scells]
theorem st_get {L : List ByteArray} {i : Nat} (h : i < L.length) : L[i] = st L i := by simp [st, List.getD, h]

def Strs (w : World) (v : Value) (L : List ByteArray) : Prop := Rd w 1 v L.length (scells L)
def OwnS (w : World) (B : Nat) (v : Value) (L : List ByteArray) : Prop := w.ownsRow B 9 1 v L.length (scells L)
theorem Strs.grew {w w' : World} {v : Value} {L : List ByteArray} (h : Strs w v L) (hb : Grew w w') : Strs w' v L := Rd.grew h hb
theorem Strs.nil_ (w : World) : Strs w (.slice none 0 0) [] := Rd.nil_ w 1
theorem OwnS.strs {w : World} {B : Nat} {v : Value} {L : List ByteArray} (h : OwnS w B v L) : Strs w v L := Rd.of_own h
theorem OwnS.nil_ (w : World) (B : Nat) : OwnS w B (.slice none 0 0) [] := World.ownsRow_nil w B _ 1
theorem OwnS.grew {w w' : World} {B : Nat} {v : Value} {L : List ByteArray} (h : OwnS w B v L) (hb : Grew w w') : OwnS w' B v L := own_grew h hb
theorem OwnS.base {w : World} {B B' : Nat} {v : Value} {L : List ByteArray} (h : OwnS w B v L) (hb : B' ≤ B) : OwnS w B' v L := own_base h hb

theorem Strs.open_ {w : World} {v : Value} {L : List ByteArray} (h : Strs w v L) :
    (v = .slice none 0 0 ∧ L = []) ∨ ∃ b o c, v = .slice (some ⟨b, o, none⟩) L.length c ∧ L.length ≤ c ∧ c ≤ 9223372036854775807 ∧ b < w.heap.size ∧
      ∀ i, i < L.length → ∀ W, Grew w W → W.cell? ⟨b, o + i, none⟩ = some (.string (st L i)) := by
  obtain ⟨_, _, h3⟩ := h
  rcases h3 with ⟨h4, h5⟩ | ⟨b, o, c, h4, h5, h6, h7, h8⟩
  · exact .inl ⟨h4, List.eq_nil_of_length_eq_zero h5⟩
  · exact .inr ⟨b, o, c, h4, h5, h6, h7, fun i hi W hW => (hW.cell (p := ⟨b, o + i, none⟩) h7).trans (h8 _ _ (scells_at hi))⟩
theorem strs_slice {w : World} {v : Value} {L : List ByteArray} (h : Strs w v L) : ∃ A c, v = .slice A L.length c := by
  rcases h.open_ with ⟨rfl, rfl⟩ | ⟨b, o, c, rfl, _⟩
  · exact ⟨_, _, rfl⟩
  · exact ⟨_, _, rfl⟩
theorem OwnS.lit (w : World) (B : Nat) (L : List ByteArray) (cs : Array Value) (hB : B ≤ w.heap.size) (hn : L.length ≤ 9223372036854775807) (hc : cs.toList = scells L) :
    OwnS (w.alloc (.cells cs 9)) B (.slice (some ⟨w.heap.size, 0, none⟩) L.length L.length) L := by
  have hl : cs.size = L.length * 1 := by rw [← Array.length_toList, hc, scells_length]
  have h := World.ownsRow_lit (e := 9) (size := 1) w cs L.length hB hn hl
  rw [hc] at h
  exact h
theorem OwnS.mk_ {w : World} {B : Nat} {L : List ByteArray} {g c : Nat} {cur : Array Value} (hB : B ≤ g) (hg : w.heap[g]? = some (.cells cur 9 (0, 0))) (hnc : L.length ≤ c) (hcm : c ≤ 9223372036854775807) (hcs : cur.size = c)
    (hc : ∀ i, i < L.length → cur[i]? = some (.string (st L i))) : OwnS w B (.slice (some ⟨g, 0, none⟩) L.length c) L := by
  refine ⟨scells_length L, .inr ⟨g, c, cur, rfl, hB, hg, hnc, hcm, by omega, ?_⟩⟩
  apply List.ext_getElem?
  intro j
  rw [List.getElem?_take]
  by_cases hj : j < L.length
  · rw [if_pos (by omega), scells_at hj]
    simpa using hc j hj
  · rw [if_neg (by omega), List.getElem?_eq_none (by rw [scells_length]; omega)]

theorem Tryz.infoStr : (Tryz.prog.info? 9).map (fun i => (i.zero, i.size, i.bytes)) = some (some (.string ByteArray.empty), 1, 16) := by kernel_rfl

def GivesS (w : World) (L : List ByteArray) (e : Ending) (w' : World) : Prop := ∃ v, e = .returned v ∧ OwnS w' w.heap.size v L ∧ Grew w w'

end Go.Proofs.YtpfncncohnhanaaGreatDoor


/- isText of the program. -/
namespace Go.Proofs.YtpfncncohnhanaaGreatDoor
open Go.RowKit
open Fm (Nd)

end Go.Proofs.YtpfncncohnhanaaGreatDoor


/- A predicate on nodes: IndexFunc, ContainsFunc. -/
namespace Go.Proofs.YtpfncncohnhanaaGreatDoor
open Go.RowKit
open Fm (Nd)

def NoneP (p : Int → Int → Bool) (xs : List Nd) (k : Nat) : Prop := ∀ i, i < k → p (kd xs i) (sy xs i) = false
theorem NoneP.zero (p : Int → Int → Bool) (xs : List Nd) : NoneP p xs 0 := fun i hi => absurd hi (by omega)
theorem NoneP.succ {p : Int → Int → Bool} {xs : List Nd} {k : Nat} (h : NoneP p xs k) (h1 : p (kd xs k) (sy xs k) = false) : NoneP p xs (k + 1) := by
  intro i hi
  rcases Nat.lt_or_ge i k with hk | hk
  · exact h i hk
  · obtain rfl : i = k := by omega
    exact h1
noncomputable def anyP (p : Int → Int → Bool) (xs : List Nd) : Bool := !@decide (NoneP p xs xs.length) (Classical.propDecidable _)
theorem anyP_no {p : Int → Int → Bool} {xs : List Nd} (h : NoneP p xs xs.length) : anyP p xs = false := by
  unfold anyP
  rw [@decide_eq_true _ (Classical.propDecidable _) h]
  rfl
theorem anyP_at {p : Int → Int → Bool} {xs : List Nd} {k : Nat} (hk : k < xs.length) (h : p (kd xs k) (sy xs k) = true) : anyP p xs = true := by
  unfold anyP
  rw [@decide_eq_false _ (Classical.propDecidable _) fun H => by rw [H k hk] at h; cases h]
  rfl

def PredOk (f : Nat) (p : Int → Int → Bool) : Prop := ∀ a b W, Calls Tryz.prog f #[.agg #[.int .i64 a, .int .i64 b]] W fun e w' => e = .returned (.bool (p a b)) ∧ Grew W w'

theorem indexFunc_c (v : Value) (xs : List Nd) (f : Nat) (p : Int → Int → Bool) (w : World) (h : Nodes w v xs) (hn : xs.length ≤ 1099511627776) (hf : PredOk f p) (eg : ∀ args w, (callFunc f args).run Tryz.prog w = .ok (.enter f args) w) :
    Calls Tryz.prog 117 #[v, .func (.func f) #[] #[]] w fun e w' => ∃ r : Int, e = .returned (.int .i64 r) ∧ Grew w w' ∧ decide (0 ≤ r) = anyP p xs := by
  rcases h.open_ with ⟨rfl, rfl⟩ | ⟨b, o, c, rfl, hc, hm, hb, hcell⟩
  · rw [anyP_no (NoneP.zero _ _)]
    clear h hf
    go_enter Tryz.func117, Tryz.ntmps117
    go_wp2_with fail
    refine wp_loop_rounds 1 ?_; rw [rounds_succ]
    go_wp2_with fail
    go_ret
    exact ⟨_, rfl, Grew.refl _, rfl⟩
  obtain ⟨R, hR⟩ : ∃ R, R = anyP p xs := ⟨_, rfl⟩
  rw [← hR]
  have HA := Lib.hid (fun k hk h => hR.trans (@anyP_at p xs k hk h))
  have HZ := Lib.hid (fun h => hR.trans (@anyP_no p xs h))
  have HC := Lib.hid hcell
  have HF := Lib.hid hf
  clear hcell h hf hR
  generalize hN : xs.length = n at *
  clear hN
  go_enter Tryz.func117, Tryz.ntmps117
  go_wp2_with fail
  go_loopw [5, 8] (fun _ i wr => ∃ j : Nat, j ≤ n ∧ i = .int .i64 j ∧ Grew w wr ∧ Hid (NoneP p xs j)) (fun _ i _ => n - (intOf i).toNat)
  case atStart => exact ⟨0, Nat.zero_le _, rfl, Grew.refl _, NoneP.zero _ _⟩
  case round =>
    obtain ⟨j, hj, rfl, hB, HJ⟩ := hrel
    by_cases hlt : j < n
    · have k1 := (HC.out j hlt _ hB).1
      have k2 := (HC.out j hlt _ hB).2
      have hA := Lib.hid (HA.out j hlt)
      have hS := Lib.hid (fun h => HJ.out.succ (k := j) h)
      generalize kd xs j = x at *
      generalize sy xs j = y at *
      go_wp2_with fail
      go_at_fn f
      refine (HF.out x y _).mono ?_
      rintro e w1 ⟨rfl, hg1⟩
      have hB1 := hB.trans hg1
      cases hp : p x y with
      | true =>
        have hv := hA.out hp
        go_wp2_with fail
        go_ret
        exact ⟨_, rfl, hB1, by rw [hv]; simp⟩
      | false =>
        have hs := Lib.hid (hS.out hp)
        go_wp2_with fail
        go_roundw
        case rel => exact ⟨j + 1, by omega, by go_num, hB1, hs⟩
        case measure => simp [intOf]; omega
    · obtain rfl : j = n := by omega
      have hv := Lib.hid (HZ.out HJ.out)
      go_wp2_with fail
      go_ret
      exact ⟨_, rfl, hB, by rw [hv.out]; rfl⟩

theorem containsFunc_c (v : Value) (xs : List Nd) (f : Nat) (p : Int → Int → Bool) (w : World) (h : Nodes w v xs) (hn : xs.length ≤ 1099511627776) (hf : PredOk f p) (eg : ∀ args w, (callFunc f args).run Tryz.prog w = .ok (.enter f args) w) :
    Calls Tryz.prog 70 #[v, .func (.func f) #[] #[]] w fun e w' => e = .returned (.bool (anyP p xs)) ∧ Grew w w' := by
  have HI := Lib.hid (indexFunc_c v xs f p w h hn hf eg)
  clear h hf eg
  generalize anyP p xs = R at *
  go_enter Tryz.func70, Tryz.ntmps70
  go_wp2_with fail
  refine HI.out.mono ?_
  rintro e w1 ⟨r, rfl, hg1, hr⟩
  go_wp2_with fail
  go_ret
  exact ⟨by rw [← hr]; rfl, hg1⟩

end Go.Proofs.YtpfncncohnhanaaGreatDoor


/- isPlain of the program, l02Plain of the reference. -/
namespace Go.Proofs.YtpfncncohnhanaaGreatDoor
open Go.RowKit
open Fm (Nd)

def isBD (a _b : Int) : Bool := a == 5 || a == 6
end Go.Proofs.YtpfncncohnhanaaGreatDoor


/- Is a text that of a plain formula? -/
namespace Go.Proofs.YtpfncncohnhanaaGreatDoor
open Go.RowKit
open Fm (Nd)

noncomputable def gp (s : ByteArray) : Bool := gd s && !anyP isBD (Fm.pf s).1

end Go.Proofs.YtpfncncohnhanaaGreatDoor


/- The texts of formulas. No program is in sight. -/
namespace Go.Proofs.YtpfncncohnhanaaGreatDoor
open Go.RowKit

def tx (A : Fm.Tree) : ByteArray := bs (Fm.txt A 0)
end Go.Proofs.YtpfncncohnhanaaGreatDoor


/- Plain formulas of the size of a text, and their texts. No program is in sight. -/
namespace Go.Proofs.YtpfncncohnhanaaGreatDoor
open Go.RowKit

def FmOk (A : Fm.Tree) : Prop := (Fm.enc A).length ≤ 40 ∧ anyP isBD (Fm.enc A) = false
theorem gp_tree {s : ByteArray} (h : gp s = true) : ∃ A, FmOk A ∧ tx A = s := by
  unfold gp at h
  simp only [Bool.and_eq_true, Bool.not_eq_true'] at h
  have hg : IsGood s := by
    by_cases hg : IsGood s
    · exact hg
    · rw [gd_false hg] at h; exact absurd h.1 (by simp)
  obtain ⟨A, h1, h2⟩ := hg
  have hl := Fm.pf_len s
  rw [h1] at hl h
  exact ⟨A, ⟨hl, h.2⟩, h2⟩
noncomputable def fo (s : ByteArray) : Fm.Tree := @dite _ (gp s = true) (Classical.propDecidable _) (fun h => Classical.choose (gp_tree h)) (fun _ => .fls)
theorem anyP_mem {p : Int → Int → Bool} {xs : List Fm.Nd} : anyP p xs = false ↔ ∀ x ∈ xs, p x.1 x.2 = false := by
  constructor
  · intro h x hx
    obtain ⟨i, hi, rfl⟩ := List.getElem_of_mem hx
    cases hq : p xs[i].1 xs[i].2 with
    | false => rfl
    | true =>
      have := anyP_at (p := p) hi (by simpa [kd, sy, List.getD, hi] using hq)
      rw [this] at h; cases h
  · intro h
    apply anyP_no
    intro i hi
    have := h xs[i] (List.getElem_mem hi)
    simpa [kd, sy, List.getD, hi] using this
theorem FmOk.bin {k : Int} {A B : Fm.Tree} {C : Fm.Tree} (he : Fm.enc C = (k, 0) :: (Fm.enc A ++ Fm.enc B)) (h : FmOk C) : FmOk A ∧ FmOk B := by
  obtain ⟨h1, h2⟩ := h
  rw [he] at h1 h2
  rw [anyP_mem] at h2
  simp only [List.length_cons, List.length_append] at h1
  exact ⟨⟨by omega, anyP_mem.2 fun x hx => h2 x (by simp [hx])⟩, ⟨by omega, anyP_mem.2 fun x hx => h2 x (by simp [hx])⟩⟩
theorem FmOk.join {k : Int} {A B : Fm.Tree} {C : Fm.Tree} (he : Fm.enc C = (k, 0) :: (Fm.enc A ++ Fm.enc B)) (hk : k ≠ 5 ∧ k ≠ 6) (hA : FmOk A) (hB : FmOk B) (hl : (Fm.enc C).length ≤ 40) : FmOk C := by
  refine ⟨hl, anyP_mem.2 ?_⟩
  rw [he]
  intro x hx
  simp only [List.mem_cons, List.mem_append] at hx
  rcases hx with rfl | hx | hx
  · unfold isBD
    have h5 : (k == 5) = false := by simpa using hk.1
    have h6 : (k == 6) = false := by simpa using hk.2
    show (k == 5 || k == 6) = false
    rw [h5, h6]; rfl
  · exact anyP_mem.1 hA.2 x hx
  · exact anyP_mem.1 hB.2 x hx
end Go.Proofs.YtpfncncohnhanaaGreatDoor


/- Forcing, plain: boxes, implications, the values of plain formulas; the values reckoned over a list of nodes from its end. No program is in sight. -/
namespace Go.Proofs.YtpfncncohnhanaaGreatDoor
open Go.RowKit
open Fm (Nd Tree)

def evs (A V : List Nat) (k s : Int) (st : List Nat) : List Nat :=
  if k = 0 then nt V s.toNat :: st
  else if k = 2 then (st.getD 0 0 &&& st.getD 1 0) :: st.drop 2
  else if k = 3 then (st.getD 0 0 ||| st.getD 1 0) :: st.drop 2
  else if k = 4 then ar A (st.getD 0 0) (st.getD 1 0) :: st.drop 2
  else 0 :: st
def ev (A V : List Nat) : List Nd → List Nat
  | [] => []
  | x :: xs => evs A V x.1 x.2 (ev A V xs)
def Fed (A V : List Nat) (xs : List Nd) : Prop := ∀ i, i < xs.length → (kd xs i = 2 ∨ kd xs i = 3 ∨ kd xs i = 4) → 2 ≤ (ev A V (xs.drop (i + 1))).length
theorem Fed.nil_ (A V : List Nat) : Fed A V [] := fun i hi => absurd hi (by simp)
theorem Fed.cons {A V : List Nat} {x : Nd} {xs : List Nd} (h : Fed A V xs) (h1 : (x.1 = 2 ∨ x.1 = 3 ∨ x.1 = 4) → 2 ≤ (ev A V xs).length) : Fed A V (x :: xs) := by
  intro i hi hk
  cases i with
  | zero => exact h1 hk
  | succ i => exact h i (by simpa using hi) hk
theorem enc_nd : ∀ (t : Tree), ∀ x ∈ Fm.enc t, (x.1 = 0 ∧ ∃ v : Nat, x.2 = (v : Int) ∧ v < 6) ∨ x.1 = 1 ∨ x.1 = 2 ∨ x.1 = 3 ∨ x.1 = 4 ∨ x.1 = 5 ∨ x.1 = 6 := by
  intro t
  induction t with
  | var v => intro x hx; simp [Fm.enc] at hx; subst hx; exact .inl ⟨rfl, v.val, rfl, v.isLt⟩
  | fls => intro x hx; simp [Fm.enc] at hx; subst hx; exact .inr (.inl rfl)
  | and a b iha ihb =>
    intro x hx; simp [Fm.enc] at hx; rcases hx with rfl | hx | hx
    · exact .inr (.inr (.inl rfl))
    · exact iha x hx
    · exact ihb x hx
  | or a b iha ihb =>
    intro x hx; simp [Fm.enc] at hx; rcases hx with rfl | hx | hx
    · exact .inr (.inr (.inr (.inl rfl)))
    · exact iha x hx
    · exact ihb x hx
  | imp a b iha ihb =>
    intro x hx; simp [Fm.enc] at hx; rcases hx with rfl | hx | hx
    · exact .inr (.inr (.inr (.inr (.inl rfl))))
    · exact iha x hx
    · exact ihb x hx
  | box a iha =>
    intro x hx; simp [Fm.enc] at hx; rcases hx with rfl | hx
    · exact .inr (.inr (.inr (.inr (.inr (.inl rfl)))))
    · exact iha x hx
  | dia a iha =>
    intro x hx; simp [Fm.enc] at hx; rcases hx with rfl | hx
    · exact .inr (.inr (.inr (.inr (.inr (.inr rfl)))))
    · exact iha x hx
end Go.Proofs.YtpfncncohnhanaaGreatDoor


/- Boxes: box of the program, l01Box of the reference. -/
namespace Go.Proofs.YtpfncncohnhanaaGreatDoor
open Go.RowKit

theorem box_q (v : Value) (A : List Nat) (m : Nat) (w : World) (h : Ints w v (zs A)) (hA : Sm A) (hn30 : A.length ≤ 30) (hm : m < 9223372036854775808) :
    Calls Tryz.prog 126 #[v, .int .i64 (m : Int)] w fun e w' => e = .returned (.int .i64 ((bx A m : Nat) : Int)) ∧ w' = w := by
  have HW := Lib.hid (fun a (ha : a < 1073741824) W => within_q a m (by omega) hm W)
  have HR := Lib.hid (show bxK A m A.length = bx A m from rfl)
  have HY := Lib.hid (fun k => @bxK_yes A m k)
  have HN := Lib.hid (fun k => @bxK_no A m k)
  have HS := Lib.hid (fun k (hk : k ≤ 30) => bxK_sm (A := A) (m := m) hk)
  have HT := Lib.hid (fun i (hi : i < A.length) => hA.at_ hi)
  have HO := Lib.hid (fun a b (ha : a < 1073741824) (hb : b < 1073741824) => or_i64 a b (by omega) (by omega))
  have HP := Lib.hid (fun k (hk : k ≤ 30) => wrap_pow hk)
  have HP2 := Lib.hid (fun k (hk : k < 30) => pow30 hk)
  obtain ⟨A', c, rfl⟩ := ints_sliceN h
  have HC := Lib.hid (fun h0 => cellsN h h0)
  clear hm h hA
  generalize bx A m = R at *
  generalize hNA : A.length = n at *
  clear hNA
  go_enter Tryz.func126, Tryz.ntmps126
  go_wp2_with fail
  go_loopw [5, 6, 7, 10] (fun q _ _ i wr => ∃ j : Nat, j ≤ n ∧ i = .int .i64 j ∧ q = .int .i64 ((bxK A m j : Nat) : Int) ∧ wr = w) (fun _ _ _ i _ => n - (intOf i).toNat)
  case atStart => exact ⟨0, by omega, rfl, rfl, rfl⟩
  case round =>
    obtain ⟨j, hj, rfl, rfl, rfl⟩ := hrel
    by_cases hlt : j < n
    · obtain ⟨b2, o2, rfl, hcell2⟩ := HC.out (by omega)
      have hH := Lib.hid (HW.out _ (HT.out j hlt))
      have ho := HO.out _ _ (HS.out j (by omega)) (HP2.out j (by omega))
      have hp := HP.out j (by omega)
      have hY := Lib.hid (HY.out j)
      have hN := Lib.hid (HN.out j)
      have k1 := hcell2 j hlt _ (Grew.refl _)
      clear hcell2
      generalize nt A j = y at *
      generalize decide (dif y m = 0) = t at *
      generalize hsj : bxK A m j = sj at *
      clear hsj
      generalize hpj : (2 ^ j : Nat) = pj at *
      clear hpj
      go_wp2_with fail
      refine (hH.out _).mono ?_
      rintro e w2 ⟨rfl, rfl⟩
      cases t with
      | true =>
        have hy := Lib.hid (hY.out rfl)
        go_wp2_with fail
        go_roundw
        case rel => exact ⟨j + 1, by omega, by go_num, by rw [hy.out], by trivial⟩
        case measure => simp [intOf]; omega
      | false =>
        have hn := Lib.hid (hN.out rfl)
        go_wp2_with fail
        go_roundw
        case rel => exact ⟨j + 1, by omega, by go_num, by rw [hn.out], by trivial⟩
        case measure => simp [intOf]; omega
    · obtain rfl : j = n := by omega
      have hr := Lib.hid HR.out
      go_wp2_with fail
      go_ret
      exact ⟨by rw [hr.out]; rfl, rfl⟩
theorem l01Box_q (v : Value) (A : List Nat) (m : Nat) (w : World) (h : Ints w v (zs A)) (hA : Sm A) (hn30 : A.length ≤ 30) (hm : m < 9223372036854775808) :
    Calls Tryz.prog 161 #[v, .int .i64 (m : Int)] w fun e w' => e = .returned (.int .i64 ((bx A m : Nat) : Int)) ∧ ∃ d, w' = w.drewN d := by
  have HR := Lib.hid (show bxK A m A.length = bx A m from rfl)
  have HY := Lib.hid (fun k => @bxK_yes A m k)
  have HN := Lib.hid (fun k => @bxK_no A m k)
  have HS := Lib.hid (fun k (hk : k ≤ 30) => bxK_sm (A := A) (m := m) hk)
  have HT := Lib.hid (fun i (hi : i < A.length) => hA.at_ hi)
  have HO := Lib.hid (fun a b (ha : a < 1073741824) (hb : b < 1073741824) => or_i64 a b (by omega) (by omega))
  have HA := Lib.hid (fun a (ha : a < 1073741824) => and_i64 a m (by omega) hm)
  have HE := Lib.hid (fun a : Nat => show (((a &&& m : Nat) : Int) == (a : Int)) = decide (dif a m = 0) from by
    rw [Bool.eq_iff_iff, decide_eq_true_eq, ← and_dif, beq_iff_eq]
    omega)
  have HOne := Lib.hid (fun i (hi : i ≤ 30) W => l01One_q i hi W)
  have HP2 := Lib.hid (fun k (hk : k < 30) => pow30 hk)
  obtain ⟨A', c, rfl⟩ := ints_sliceN h
  have HC := Lib.hid (fun h0 => cellsN h h0)
  clear hm h hA
  generalize bx A m = R at *
  generalize hNA : A.length = n at *
  clear hNA
  go_enter Tryz.func161, Tryz.ntmps161
  go_wp2_with fail
  go_loopw [5, 6] (fun q i wr => ∃ j d : Nat, j ≤ n ∧ i = .int .i64 j ∧ q = .int .i64 ((bxK A m j : Nat) : Int) ∧ wr = w.drewN d) (fun _ i _ => n - (intOf i).toNat)
  case atStart => exact ⟨0, 0, by omega, rfl, rfl, rfl⟩
  case round =>
    obtain ⟨j, d, hj, rfl, rfl, rfl⟩ := hrel
    by_cases hlt : j < n
    · obtain ⟨b2, o2, rfl, hcell2⟩ := HC.out (by omega)
      have hH := Lib.hid (HOne.out j (by omega))
      have ho := HO.out _ _ (HS.out j (by omega)) (HP2.out j (by omega))
      have ha := HA.out _ (HT.out j hlt)
      have he := HE.out (nt A j)
      have hY := Lib.hid (HY.out j)
      have hN := Lib.hid (HN.out j)
      have k1 := hcell2 j hlt _ (Grew.refl _)
      have hgd : Grew w (w.drewN d) := (Grew.refl w).drewN d
      clear hcell2
      generalize nt A j = y at *
      generalize y &&& m = ym at *
      generalize decide (dif y m = 0) = t at *
      generalize hsj : bxK A m j = sj at *
      clear hsj
      generalize hpj : (2 ^ j : Nat) = pj at *
      clear hpj
      go_wp2_with fail
      go_region
      cases t with
      | true =>
        have hy := Lib.hid (hY.out rfl)
        go_wp2_with fail
        refine (hH.out _).mono ?_
        rintro e w2 ⟨rfl, rfl⟩
        go_wp2_with fail
        go_roundw
        case rel => exact ⟨j + 1, _, by omega, by go_num, by rw [hy.out], by trivial⟩
        case measure => simp [intOf]; omega
      | false =>
        have hn := Lib.hid (hN.out rfl)
        go_wp2_with fail
        go_roundw
        case rel => exact ⟨j + 1, _, by omega, by go_num, by rw [hn.out], by trivial⟩
        case measure => simp [intOf]; omega
    · obtain rfl : j = n := by omega
      have hr := Lib.hid HR.out
      go_wp2_with fail
      go_ret
      exact ⟨by rw [hr.out]; rfl, d, rfl⟩
end Go.Proofs.YtpfncncohnhanaaGreatDoor


/- Implications of sets: all, imply of the program, l17Arrow of the reference. -/
namespace Go.Proofs.YtpfncncohnhanaaGreatDoor
open Go.RowKit

end Go.Proofs.YtpfncncohnhanaaGreatDoor


/- forced of the program: a stack of values. -/
namespace Go.Proofs.YtpfncncohnhanaaGreatDoor
open Go.RowKit
open Fm (Nd Tree)

def sk (st : List Nat) : List Int := zs st.reverse
theorem sk_len (st : List Nat) : (sk st).length = st.length := by unfold sk; rw [zs_len, List.length_reverse]
theorem sk_cons (x : Nat) (st : List Nat) : sk (x :: st) = sk st ++ [(x : Int)] := by unfold sk; rw [List.reverse_cons, zs_append]; rfl
theorem OwnI.pop {w : World} {B : Nat} {A : Option Addr} {n c : Nat} {L : List Int} {x : Int} (h : OwnI w B (.slice A n c) (L ++ [x])) : n = L.length + 1 ∧ ∃ g, A = some ⟨g, 0, none⟩ ∧ n ≤ c ∧ c ≤ 9223372036854775807 ∧ B ≤ g ∧ g < w.heap.size ∧ w.cell? ⟨g, L.length, none⟩ = some (.int .i64 x) ∧ OwnI w B (.slice (some ⟨g, 0, none⟩) L.length c) L := by
  obtain ⟨h1, h2⟩ := h
  rcases h2 with ⟨h3, h4⟩ | ⟨g, cap, cur, h3, h4, h5, h6, h7, h8, h9⟩
  · rw [List.length_append] at h4; simp at h4
  · rw [List.length_append, List.length_singleton] at h3 h6 h9
    simp only [Value.slice.injEq] at h3
    obtain ⟨rfl, rfl, rfl⟩ := h3
    have hsz : cur.size = c := by omega
    have hcell : ∀ j, j < L.length + 1 → cur[j]? = (icells (L ++ [x]))[j]? := fun j hj => by
      have := congrArg (fun l => l[j]?) h9
      simp only [List.getElem?_take] at this
      rw [if_pos (by omega)] at this
      simpa using this
    refine ⟨rfl, g, rfl, h6, h7, h4, (Array.getElem?_eq_some_iff.1 h5).1, ?_, ?_⟩
    · rw [cell_of_row w g _ cur _ (0, 0) h5, hcell _ (by omega)]
      have := icells_at (L := L ++ [x]) (i := L.length) (by simp)
      rw [this]
      simp [it, List.getD]
    · refine OwnI.mk_ h4 h5 (by omega) h7 hsz fun i hi => ?_
      rw [hcell i (by omega), icells_at (by simp; omega)]
      congr 1
      simp [it, List.getD, List.getElem?_append_left hi]
def Stk (w : World) (b B : Nat) (st : List Nat) : Prop := ∃ A n c, w.heap[b]? = some (.cells #[.slice A n c] 24 (0, 0)) ∧ OwnI w B (.slice A n c) (sk st)
theorem wpList_appB {ops : Array Oper} {rest : List Oper} {o : Oper} {a : Act} {Q : Exit → Act → World → Prop} {w : World} (B : Nat) (s x : Operand) (hgd : o.guard = none)
    (ho : o.op = .call { callee := .builtin .append, args := #[s, x], argTypes := #[24, 24] })
    (v : Value) (L : List Int) (hs : a.eval s = v) (hown : OwnI w B v L) (hB : B ≤ w.heap.size) (vx : Value) (k : Int) (hx : a.eval x = vx) (hr : Rd w 1 vx 1 [.int .i64 k]) (hn : L.length ≤ 1048576)
    (h : ∀ v' w', OwnI w' B v' (L ++ [k]) → w.grownBy w' v.ownBlock → wpList Tryz.prog ops Q rest (a.put o.dst v') w') : wpList Tryz.prog ops Q (o :: rest) a w := by
  obtain ⟨i0, hi0, hz0, hz1, hz2⟩ := info_parts Tryz.infoI
  refine wpList_append_rd w hgd s x _ ho B 2 i0 _ 1 8 Tryz.underlying24 hi0 hz0 hz1 hz2 rfl (by omega) v L.length (icells L) hs hown vx 1 [.int .i64 k] hx hr (by simp [Value.oneCell']) (by unfold maxLen; omega) (by omega) hB ?_
  intro v' w' h1 h2 h3
  refine h v' w' ?_ h2
  unfold OwnI
  rw [List.length_append, icells_append]
  exact h1
theorem two_at {st : List Nat} (h : 2 ≤ st.length) : ∃ x y r, st = x :: y :: r := by
  match st, h with
  | x :: y :: r, _ => exact ⟨x, y, r, rfl⟩
theorem Stk.grew {w w' : World} {b B : Nat} {st : List Nat} (h : Stk w b B st) (hg : Grew w w') : Stk w' b B st := by
  obtain ⟨A, n, c, h1, h2⟩ := h
  exact ⟨A, n, c, (hg.block (blk_lt h1)).trans h1, h2.grew hg⟩

end Go.Proofs.YtpfncncohnhanaaGreatDoor


/- Formulas of two parts. -/
namespace Go.Proofs.YtpfncncohnhanaaGreatDoor
open Go.RowKit

def TwoF (A p q : Fm.Tree) : Prop := Fm.enc A = (kindOf A, 0) :: (Fm.enc p ++ Fm.enc q)
theorem TwoF.len {A p q : Fm.Tree} (h : TwoF A p q) : (Fm.enc A).length = 1 + (Fm.enc p).length + (Fm.enc q).length := by rw [h]; simp; omega
end Go.Proofs.YtpfncncohnhanaaGreatDoor


/- The parts of a formula in the reference. -/
namespace Go.Proofs.YtpfncncohnhanaaGreatDoor
open Go.RowKit
open Fm (Nd Tree)

theorem two_and (x y : Tree) : TwoF (.and x y) x y := rfl
theorem two_or (x y : Tree) : TwoF (.or x y) x y := rfl
theorem two_imp (x y : Tree) : TwoF (.imp x y) x y := rfl
theorem head_t {w : World} {v : Value} {t : Tree} (h : Nodes w v (Fm.enc t)) : ∃ b o n c, v = .slice (some ⟨b, o, none⟩) n c ∧ 0 < n ∧ n = (Fm.enc t).length ∧ ∀ W, Grew w W → W.cell? ⟨b, o, none⟩ = some (.int .i64 (kindOf t)) := by
  obtain ⟨b, o, c, h1, _, _, h4⟩ := nodes_head h
  exact ⟨b, o, _, c, h1, Fm.enc_pos t, rfl, h4⟩

end Go.Proofs.YtpfncncohnhanaaGreatDoor


/- l17Force of the reference. -/
namespace Go.Proofs.YtpfncncohnhanaaGreatDoor
open Go.RowKit
open Fm (Nd Tree)

end Go.Proofs.YtpfncncohnhanaaGreatDoor


/- l01Image: it only reads. -/
namespace Go.Proofs.YtpfncncohnhanaaGreatDoor
open Go.RowKit
theorem l01Image_q (v : Value) (A : List Nat) (m : Nat) (w : World) (h : Ints w v (zs A)) (hA : Sm A) (hn30 : A.length ≤ 30) (hm : m < 2 ^ A.length) :
    Calls Tryz.prog 140 #[v, .int .i64 (m : Int)] w fun e w' => e = .returned (.int .i64 ((img A m : Nat) : Int)) ∧ w' = w := by
  have hm' : m < 1073741824 := Nat.lt_of_lt_of_le hm (pow30' hn30)
  have HH := Lib.hid (fun i (hi : i < 64) => l01Bit_q m i (by omega) hi)
  have HR := Lib.hid (img_imK hm hn30)
  have HY := Lib.hid (fun k => @imK_yes A m k)
  have HN := Lib.hid (fun k => @imK_no A m k)
  have HS := Lib.hid (fun k hk => imK_sm (m := m) hA k hk)
  have HT := Lib.hid (fun i (hi : i < A.length) => hA.at_ hi)
  have HO := Lib.hid (fun a b (ha : a < 1073741824) (hb : b < 1073741824) => or_i64 a b (by omega) (by omega))
  obtain ⟨A', c, rfl⟩ := ints_sliceN h
  have HC := Lib.hid (fun h0 => cellsN h h0)
  clear hm hm' h hA
  generalize img A m = R at *
  generalize hNA : A.length = n at *
  clear hNA
  go_enter Tryz.func140, Tryz.ntmps140
  go_wp2_with fail
  go_loopw [5, 6] (fun q i wr => ∃ j : Nat, j ≤ n ∧ i = .int .i64 j ∧ q = .int .i64 ((imK A m j : Nat) : Int) ∧ wr = w) (fun _ i _ => n - (intOf i).toNat)
  case atStart => exact ⟨0, by omega, rfl, rfl, rfl⟩
  case round =>
    obtain ⟨j, hj, rfl, rfl, rfl⟩ := hrel
    by_cases hlt : j < n
    · obtain ⟨b2, o2, rfl, hcell2⟩ := HC.out (by omega)
      have hH := Lib.hid (HH.out j (by omega))
      have ho := HO.out _ _ (HS.out j (by omega)) (HT.out j hlt)
      have hY := Lib.hid (HY.out j)
      have hN := Lib.hid (HN.out j)
      have hcell := Lib.hid (hcell2 j hlt)
      clear hcell2
      generalize nt A j = y at *
      generalize m.testBit j = t at *
      generalize hsj : imK A m j = sj at *
      clear hsj
      go_wp2_with fail
      refine (hH.out _).mono ?_
      rintro e w2 ⟨rfl, rfl⟩
      have k1 := hcell.out _ (Grew.refl _)
      cases t with
      | true =>
        have hy := Lib.hid (hY.out rfl)
        go_wp2_with fail
        go_roundw
        case rel => exact ⟨j + 1, by omega, by go_num, by rw [hy.out], trivial⟩
        case measure => simp [intOf]; omega
      | false =>
        have hn := Lib.hid (hN.out rfl)
        go_wp2_with fail
        go_roundw
        case rel => exact ⟨j + 1, by omega, by go_num, by rw [hn.out], trivial⟩
        case measure => simp [intOf]; omega
    · obtain rfl : j = n := by omega
      have hr := Lib.hid HR.out
      go_wp2_with fail
      go_ret
      exact ⟨by rw [hr.out]; rfl, rfl⟩
end Go.Proofs.YtpfncncohnhanaaGreatDoor


/- l05Flag of the reference: reflexive, transitive, antisymmetric. -/
namespace Go.Proofs.YtpfncncohnhanaaGreatDoor
open Go.RowKit
end Go.Proofs.YtpfncncohnhanaaGreatDoor


/- Posets and valuations of the reference: l16Is, l17Is, IsValuation. -/
namespace Go.Proofs.YtpfncncohnhanaaGreatDoor
open Go.RowKit
end Go.Proofs.YtpfncncohnhanaaGreatDoor


/- isFormula of the program, at any list. -/
namespace Go.Proofs.YtpfncncohnhanaaGreatDoor
open Go.RowKit
open Fm (Nd Tree)

theorem isVariable_c (k : Int) (w : World) : Calls Tryz.prog 118 #[.int .i64 k] w fun e w' => e = .returned (.bool (decide (0 ≤ k ∧ k ≤ 5))) ∧ Grew w w' := by
  have HR := Lib.hid (inRange_c k 0 5 w)
  generalize decide (0 ≤ k ∧ k ≤ 5) = R at *
  go_enter Tryz.func118, Tryz.ntmps118
  go_wp2_with fail
  refine HR.out.mono ?_
  rintro e w1 ⟨rfl, hg1⟩
  go_wp2_with fail
  go_ret
  exact ⟨rfl, hg1⟩

def nodeB (a b : Int) : Bool := if a == 0 then decide (0 ≤ b ∧ b ≤ 5) else decide (1 ≤ a ∧ a ≤ 6) && b == 0

theorem isNode_c (a b : Int) (w : World) : Calls Tryz.prog 72 #[.agg #[.int .i64 a, .int .i64 b]] w fun e w' => e = .returned (.bool (nodeB a b)) ∧ Grew w w' := by
  unfold nodeB
  cases h0 : (a == 0) with
  | true =>
    rw [if_pos rfl]
    go_enter Tryz.func72, Tryz.ntmps72
    go_wp2_with fail
    refine (isVariable_c _ _).mono ?_
    rintro e w1 ⟨rfl, hg1⟩
    go_wp2_with fail
    go_ret
    exact ⟨by simp, Grew.of_alloc hg1⟩
  | false =>
    rw [if_neg (by simp)]
    have HR := fun w => inRange_c a 1 6 w
    generalize decide (1 ≤ a ∧ a ≤ 6) = R at *
    cases R with
    | true =>
      replace HR := Lib.hid HR
      go_enter Tryz.func72, Tryz.ntmps72
      go_wp2_with fail
      refine (HR.out _).mono ?_
      rintro e w1 ⟨rfl, hg1⟩
      have k1 : w1.cell? ⟨w.heap.size, 1, none⟩ = some (.int .i64 b) := (hg1.cell (by simp)).trans (by simp)
      go_wp2_with fail
      go_ret
      exact ⟨by simp, Grew.of_alloc hg1⟩
    | false =>
      replace HR := Lib.hid HR
      go_enter Tryz.func72, Tryz.ntmps72
      go_wp2_with fail
      refine (HR.out _).mono ?_
      rintro e w1 ⟨rfl, hg1⟩
      go_wp2_with fail
      go_ret
      exact ⟨by simp, Grew.of_alloc hg1⟩

def noNode (a b : Int) : Bool := !nodeB a b
theorem isFormula1_ok : PredOk 71 noNode := by
  intro a b w
  unfold noNode
  have HR := Lib.hid (fun w => isNode_c a b w)
  generalize nodeB a b = R at *
  go_enter Tryz.func71, Tryz.ntmps71
  go_wp2_with fail
  refine (HR.out _).mono ?_
  rintro e w1 ⟨rfl, hg1⟩
  go_wp2_with fail
  go_ret
  exact ⟨rfl, Grew.of_alloc hg1⟩

noncomputable def fmB (xs : List Nd) : Bool := decide (1 ≤ xs.length ∧ xs.length ≤ 40) && !anyP noNode xs && (pend xs 0 == (xs.length : Int))

theorem isFormula_g (v : Value) (xs : List Nd) (w : World) (h : Nodes w v xs) (hn : xs.length ≤ 1099511627776) :
    Calls Tryz.prog 33 #[v] w fun e w' => e = .returned (.bool (fmB xs)) ∧ Grew w w' := by
  have HC := Lib.hid (fun w h => containsFunc_c v xs _ _ w h hn isFormula1_ok (enters_of Tryz.func71 (by kernel_rfl) rfl))
  have HP := Lib.hid (fun w h => partEnd_c v xs 0 w h hn (by omega))
  obtain ⟨A, c, rfl⟩ := nodes_slice h
  have HN := Lib.hid h
  clear h
  unfold fmB
  generalize pend xs 0 = p at *
  generalize anyP noNode xs = q at *
  generalize hL : xs.length = n at *
  clear hL
  by_cases h1 : 1 ≤ n
  · by_cases h2 : n ≤ 40
    · rw [decide_eq_true (⟨h1, h2⟩ : 1 ≤ n ∧ n ≤ 40), Bool.true_and]
      cases q with
      | true =>
        go_enter Tryz.func33, Tryz.ntmps33
        go_wp2_with fail
        refine (HC.out _ HN.out).mono ?_
        rintro e w1 ⟨rfl, hg1⟩
        go_wp2_with fail
        go_ret
        exact ⟨by simp, hg1⟩
      | false =>
        go_enter Tryz.func33, Tryz.ntmps33
        go_wp2_with fail
        refine (HC.out _ HN.out).mono ?_
        rintro e w1 ⟨rfl, hg1⟩
        go_wp2_with fail
        refine (HP.out _ (HN.out.grew hg1)).mono ?_
        rintro e w2 ⟨rfl, hg2⟩
        go_wp2_with fail
        go_ret
        exact ⟨by simp, hg1.trans hg2⟩
    · rw [decide_eq_false (fun h : 1 ≤ n ∧ n ≤ 40 => h2 h.2), Bool.false_and, Bool.false_and]
      go_enter Tryz.func33, Tryz.ntmps33
      go_wp2_with fail
      go_ret
      exact ⟨rfl, Grew.refl _⟩
  · rw [decide_eq_false (fun h : 1 ≤ n ∧ n ≤ 40 => h1 h.1), Bool.false_and, Bool.false_and]
    go_enter Tryz.func33, Tryz.ntmps33
    go_wp2_with fail
    go_ret
    exact ⟨rfl, Grew.refl _⟩
end Go.Proofs.YtpfncncohnhanaaGreatDoor


/- l02Is of the reference, at any list. -/
namespace Go.Proofs.YtpfncncohnhanaaGreatDoor
open Go.RowKit
open Fm (Nd Tree)

theorem nodeB_bad1 {a b : Int} (h : decide (0 ≤ a ∧ a ≤ 6) = false) : nodeB a b = false := by
  unfold nodeB
  have h' := of_decide_eq_false h
  rw [if_neg (by simp; omega), decide_eq_false (by omega)]
  rfl
theorem nodeB_bad2 {a b : Int} (h : decide (0 ≤ b ∧ b ≤ 5) = false) : nodeB a b = false := by
  unfold nodeB
  have h' := of_decide_eq_false h
  split
  · exact h
  · have : (b == 0) = false := by simp; omega
    rw [this, Bool.and_false]
theorem nodeB_bad3 {a b : Int} (h0 : (a != 0) = true) (h1 : (b != 0) = true) : nodeB a b = false := by
  unfold nodeB
  simp at h0 h1
  rw [if_neg (by simpa using h0)]
  simp [h1]
theorem nodeB_ok {a b : Int} (h1 : decide (0 ≤ a ∧ a ≤ 6) = true) (h2 : decide (0 ≤ b ∧ b ≤ 5) = true) (h : (a != 0) = false ∨ (b != 0) = false) : nodeB a b = true := by
  unfold nodeB
  have h1' := of_decide_eq_true h1
  split
  · exact h2
  · rename_i hne
    rcases h with h | h
    · simp at h; simp [h] at hne
    · simp at h
      subst h
      have : a ≠ 0 := by simpa using hne
      simp; omega

theorem l02Tree_c (v : Value) (xs : List Nd) (w : World) (h : Nodes w v xs) (hn : xs.length ≤ 1099511627776) :
    Calls Tryz.prog 64 #[v] w fun e w' => e = .returned (.bool (decide (1 ≤ xs.length) && !anyP noNode xs && (pend xs 0 == (xs.length : Int)))) ∧ Grew w w' := by
  rcases h.open_ with ⟨rfl, rfl⟩ | ⟨b, o, c, rfl, hc, hm, hb, hcell⟩
  · clear h
    go_enter Tryz.func64, Tryz.ntmps64
    go_wp2_with fail
    refine wp_loop_rounds 1 ?_; rw [rounds_succ]
    go_wp2_with fail
    go_ret
    exact ⟨rfl, Grew.refl _⟩
  obtain ⟨R, hR⟩ : ∃ R, R = anyP noNode xs := ⟨_, rfl⟩
  rw [← hR]
  have HA := Lib.hid (fun k hk h => hR.trans (@anyP_at noNode xs k hk h))
  have HZ := Lib.hid (fun h => hR.trans (@anyP_no noNode xs h))
  have HP := Lib.hid (fun W (hW : Grew w W) => l02Part_c _ xs 0 W (h.grew hW) hn (by omega))
  have HC := Lib.hid hcell
  clear hcell h hR
  generalize pend xs 0 = p at *
  generalize hN : xs.length = n at *
  clear hN
  go_enter Tryz.func64, Tryz.ntmps64
  go_wp2_with fail
  go_loopw [3] (fun i wr => ∃ j : Nat, j ≤ n ∧ i = .int .i64 j ∧ Grew w wr ∧ Hid (NoneP noNode xs j)) (fun i _ => n - (intOf i).toNat)
  case atStart => exact ⟨0, Nat.zero_le _, rfl, Grew.refl _, NoneP.zero _ _⟩
  case round =>
    obtain ⟨j, hj, rfl, hB, HJ⟩ := hrel
    by_cases hlt : j < n
    · have k1 : ∀ W, Grew w W → W.cell? ⟨b, o + j * 2, none⟩ = some (.int .i64 (kd xs j)) := fun W hW => (HC.out j hlt W hW).1
      have k2 : ∀ W, Grew w W → W.cell? ⟨b, o + j * 2 + 1, none⟩ = some (.int .i64 (sy xs j)) := fun W hW => (HC.out j hlt W hW).2
      have hA : Hid (nodeB (kd xs j) (sy xs j) = false → R = true) := Lib.hid (fun h => HA.out j hlt (by rw [noNode, h]; rfl))
      have hS : Hid (nodeB (kd xs j) (sy xs j) = true → NoneP noNode xs (j + 1)) := Lib.hid (fun h => HJ.out.succ (k := j) (by rw [noNode, h]; rfl))
      generalize kd xs j = x at *
      generalize sy xs j = y at *
      have I1 := fun w => l01In_c x 0 6 w
      have I2 := fun w => l01In_c y 0 5 w
      have hd : ∀ W, Grew w W → Grew w W.drew := fun W h => h.drew
      cases d1 : decide (0 ≤ x ∧ x ≤ 6) with
      | false =>
        have hv := Lib.hid (hA.out (nodeB_bad1 d1))
        rw [d1] at I1
        replace I1 := Lib.hid I1
        replace I2 := Lib.hid I2
        clear d1
        go_wp2_with fail
        refine (I1.out _).mono ?_
        rintro e w1 ⟨rfl, hg1⟩
        have hB1 := hB.trans hg1
        go_wp2_with fail
        go_ret
        rw [hv.out]
        exact ⟨by simp, hB1⟩
      | true =>
        rw [d1] at I1
        replace I1 := Lib.hid I1
        cases d2 : decide (0 ≤ y ∧ y ≤ 5) with
        | false =>
          have hv := Lib.hid (hA.out (nodeB_bad2 d2))
          rw [d2] at I2
          replace I2 := Lib.hid I2
          clear d1 d2
          go_wp2_with fail
          refine (I1.out _).mono ?_
          rintro e w1 ⟨rfl, hg1⟩
          have hB1 := hB.trans hg1
          go_wp2_with fail
          refine (I2.out _).mono ?_
          rintro e w2 ⟨rfl, hg2⟩
          have hB2 := hB1.trans hg2
          go_wp2_with fail
          go_ret
          rw [hv.out]
          exact ⟨by simp, hB2⟩
        | true =>
          rw [d2] at I2
          replace I2 := Lib.hid I2
          cases d3 : (x != 0) with
          | false =>
            have hs := Lib.hid (hS.out (nodeB_ok d1 d2 (.inl d3)))
            clear d1 d2
            go_wp2_with fail
            refine (I1.out _).mono ?_
            rintro e w1 ⟨rfl, hg1⟩
            have hB1 := hB.trans hg1
            go_wp2_with fail
            refine (I2.out _).mono ?_
            rintro e w2 ⟨rfl, hg2⟩
            have hB2 := hB1.trans hg2
            go_wp2_with fail
            go_roundw
            case rel => exact ⟨j + 1, by omega, by go_num, hB2, hs⟩
            case measure => simp [intOf]; omega
          | true =>
            cases d4 : (y != 0) with
            | true =>
              have hv := Lib.hid (hA.out (nodeB_bad3 d3 d4))
              clear d1 d2
              go_wp2_with fail
              refine (I1.out _).mono ?_
              rintro e w1 ⟨rfl, hg1⟩
              have hB1 := hB.trans hg1
              go_wp2_with fail
              refine (I2.out _).mono ?_
              rintro e w2 ⟨rfl, hg2⟩
              have hB2 := hB1.trans hg2
              go_wp2_with fail
              go_ret
              rw [hv.out]
              exact ⟨by simp, hB2⟩
            | false =>
              have hs := Lib.hid (hS.out (nodeB_ok d1 d2 (.inr d4)))
              clear d1 d2
              go_wp2_with fail
              refine (I1.out _).mono ?_
              rintro e w1 ⟨rfl, hg1⟩
              have hB1 := hB.trans hg1
              go_wp2_with fail
              refine (I2.out _).mono ?_
              rintro e w2 ⟨rfl, hg2⟩
              have hB2 := hB1.trans hg2
              go_wp2_with fail
              go_roundw
              case rel => exact ⟨j + 1, by omega, by go_num, hB2, hs⟩
              case measure => simp [intOf]; omega
    · obtain rfl : j = n := by omega
      have hv := Lib.hid (HZ.out HJ.out)
      by_cases hz : 0 < j
      · have hz1 : decide (1 ≤ j) = true := by simp; omega
        go_wp2_with fail
        refine (HP.out _ hB).mono ?_
        rintro e w1 ⟨rfl, hg1⟩
        go_wp2_with fail
        go_ret
        rw [hv.out]
        exact ⟨by rw [hz1]; simp, hB.trans hg1⟩
      · have hz1 : decide (1 ≤ j) = false := by simp; omega
        go_wp2_with fail
        go_ret
        rw [hv.out, hz1]
        exact ⟨by simp, hB⟩

theorem l02Is_c (v : Value) (xs : List Nd) (w : World) (h : Nodes w v xs) (hn : xs.length ≤ 1099511627776) :
    Calls Tryz.prog 26 #[v] w fun e w' => e = .returned (.bool (fmB xs)) ∧ Grew w w' := by
  have HT := fun W (hW : Grew w W) => l02Tree_c v xs W (h.grew hW) hn
  obtain ⟨A, c, rfl⟩ := nodes_slice h
  clear h
  unfold fmB
  generalize pend xs 0 = p at *
  generalize anyP noNode xs = q at *
  generalize hL : xs.length = n at *
  clear hL
  by_cases h2 : n ≤ 40
  · rw [show decide (1 ≤ n ∧ n ≤ 40) = decide (1 ≤ n) from by simp [h2]]
    generalize (decide (1 ≤ n) && !q && (p == (n : Int))) = r at *
    replace HT := Lib.hid HT
    go_enter Tryz.func26, Tryz.ntmps26
    go_wp2_with fail
    refine (HT.out _ (Grew.refl _)).mono ?_
    rintro e w1 ⟨rfl, hg1⟩
    go_wp2_with fail
    go_ret
    exact ⟨rfl, hg1⟩
  · rw [show decide (1 ≤ n ∧ n ≤ 40) = false from by simp [h2], Bool.false_and, Bool.false_and]
    replace HT := Lib.hid HT
    go_enter Tryz.func26, Tryz.ntmps26
    go_wp2_with fail
    go_ret
    exact ⟨rfl, Grew.refl _⟩
end Go.Proofs.YtpfncncohnhanaaGreatDoor


/- A list of good nodes that a scan reads whole is the list of a formula's tree. No program is in sight. -/
namespace Go.Proofs.YtpfncncohnhanaaGreatDoor
open Go.RowKit
open Fm (Nd Tree)

theorem nodeB_cases {x : Nd} (h : nodeB x.1 x.2 = true) : (∃ v : Fin 6, x = (0, (v.val : Int))) ∨ x = (1, 0) ∨ x = (2, 0) ∨ x = (3, 0) ∨ x = (4, 0) ∨ x = (5, 0) ∨ x = (6, 0) := by
  obtain ⟨a, b⟩ := x
  unfold nodeB at h
  simp only at h
  split at h
  · rename_i h0
    have ha : a = 0 := by simpa using h0
    have hb := of_decide_eq_true h
    left
    refine ⟨⟨b.toNat, by omega⟩, ?_⟩
    rw [ha]
    congr 1
    simp; omega
  · simp only [Bool.and_eq_true, decide_eq_true_eq, beq_iff_eq] at h
    obtain ⟨⟨h1, h2⟩, rfl⟩ := h
    right
    obtain rfl | rfl | rfl | rfl | rfl | rfl : a = 1 ∨ a = 2 ∨ a = 3 ∨ a = 4 ∨ a = 5 ∨ a = 6 := by omega
    all_goals simp

theorem fm_trees : ∀ (xs : List Nd) (o n : Nat), Fm.scan xs o = some n → (∀ x ∈ xs, nodeB x.1 x.2 = true) → ∃ (ts : List Tree) (rest : List Nd), ts.length = o ∧ xs = ts.flatMap Fm.enc ++ rest ∧ n = (ts.flatMap Fm.enc).length := by
  intro xs
  induction xs with
  | nil =>
    intro o n h _
    cases o with
    | zero => simp [Fm.scan_zero] at h; exact ⟨[], [], rfl, rfl, by simp [h]⟩
    | succ o => simp [Fm.scan_nil] at h
  | cons x xs ih =>
    intro o n h hp
    cases o with
    | zero => simp [Fm.scan_zero] at h; exact ⟨[], x :: xs, rfl, by simp, by simp [h]⟩
    | succ o =>
      rw [Fm.scan_cons] at h
      cases hs : Fm.scan xs (o + Fm.arity x.1) with
      | none => rw [hs] at h; simp at h
      | some m =>
        rw [hs] at h
        simp only [Option.map_some, Option.some.injEq] at h
        obtain ⟨ts, rest, h1, h2, h3⟩ := ih _ _ hs (fun y hy => hp y (by simp [hy]))
        have two : ∀ (f : Tree → Tree → Tree), (∀ a b, Fm.enc (f a b) = x :: (Fm.enc a ++ Fm.enc b)) → Fm.arity x.1 = 2 → ∃ (ts : List Tree) (rest : List Nd), ts.length = o + 1 ∧ x :: xs = ts.flatMap Fm.enc ++ rest ∧ n = (ts.flatMap Fm.enc).length := by
          intro f hf ha
          rw [ha] at h1
          match ts, h1, h2, h3 with
          | a :: b :: ts, h1, h2, h3 =>
            refine ⟨f a b :: ts, rest, by simp at h1; simp [h1], by simp [hf, h2], ?_⟩
            rw [← h, h3]
            simp only [List.flatMap_cons, hf, List.length_append, List.length_cons]
            omega
          | [_], h1, _, _ => simp at h1
        have one : ∀ (f : Tree → Tree), (∀ a, Fm.enc (f a) = x :: Fm.enc a) → Fm.arity x.1 = 1 → ∃ (ts : List Tree) (rest : List Nd), ts.length = o + 1 ∧ x :: xs = ts.flatMap Fm.enc ++ rest ∧ n = (ts.flatMap Fm.enc).length := by
          intro f hf ha
          rw [ha] at h1
          match ts, h1, h2, h3 with
          | a :: ts, h1, h2, h3 =>
            refine ⟨f a :: ts, rest, by simp at h1; simp [h1], by simp [hf, h2], ?_⟩
            rw [← h, h3]
            simp only [List.flatMap_cons, hf, List.length_append, List.length_cons]
            omega
        have zero : ∀ (f : Tree), Fm.enc f = [x] → Fm.arity x.1 = 0 → ∃ (ts : List Tree) (rest : List Nd), ts.length = o + 1 ∧ x :: xs = ts.flatMap Fm.enc ++ rest ∧ n = (ts.flatMap Fm.enc).length := by
          intro f hf ha
          rw [ha] at h1
          refine ⟨f :: ts, rest, by simp [h1], by simp [hf, h2], ?_⟩
          rw [← h, h3]
          simp only [List.flatMap_cons, hf, List.length_append, List.length_cons, List.length_nil]
          omega
        rcases nodeB_cases (hp x (by simp)) with ⟨v, rfl⟩ | rfl | rfl | rfl | rfl | rfl | rfl
        · exact zero (.var v) rfl rfl
        · exact zero .fls rfl rfl
        · exact two .and (fun _ _ => rfl) rfl
        · exact two .or (fun _ _ => rfl) rfl
        · exact two .imp (fun _ _ => rfl) rfl
        · exact one .box (fun _ => rfl) rfl
        · exact one .dia (fun _ => rfl) rfl

theorem fmB_tree {xs : List Nd} (h : fmB xs = true) : ∃ t, xs = Fm.enc t ∧ xs.length ≤ 40 := by
  unfold fmB at h
  simp only [Bool.and_eq_true, decide_eq_true_eq, Bool.not_eq_true', beq_iff_eq] at h
  obtain ⟨⟨⟨h1, h2⟩, h3⟩, h4⟩ := h
  have hall : ∀ x ∈ xs, nodeB x.1 x.2 = true := by
    intro x hx
    obtain ⟨i, hi, rfl⟩ := List.getElem_of_mem hx
    cases hb : nodeB (xs[i]).1 (xs[i]).2 with
    | true => rfl
    | false =>
      rw [kd_lt hi] at hb
      have := anyP_at (p := noNode) hi (by rw [noNode, hb]; rfl)
      rw [this] at h3
      cases h3
  have hs : Fm.scan xs 1 = some xs.length := by
    unfold pend at h4
    rw [List.drop_zero] at h4
    cases hz : Fm.scan xs 1 with
    | none => rw [hz] at h4; simp only [pval] at h4; omega
    | some n => rw [hz] at h4; simp only [pval] at h4; congr 1; omega
  obtain ⟨ts, rest, e1, e2, e3⟩ := fm_trees xs 1 _ hs hall
  match ts, e1 with
  | [t], _ =>
    refine ⟨t, ?_, h2⟩
    have hl := congrArg List.length e2
    rw [List.length_append] at hl
    have : rest = [] := List.eq_nil_of_length_eq_zero (by omega)
    rw [this] at e2
    simpa using e2
end Go.Proofs.YtpfncncohnhanaaGreatDoor


/- FnMonotone: ForcedSet of both sides, UpsetOf, UpsetsOf, MembersOf, PartOfValuation (printed by gen/mna.py). -/
namespace Go.Proofs.YtpfncncohnhanaaGreatDoor
open Go.RowKit
open Fm (Nd Tree)

end Go.Proofs.YtpfncncohnhanaaGreatDoor


/- FnMonotone: the upsets of a poset (upsets, UpsetsOf, UpsetOf, posetCode, maskCode, MembersOf, hasInt). -/
namespace Go.Proofs.YtpfncncohnhanaaGreatDoor
open Go.RowKit
open Fm (Nd Tree)

end Go.Proofs.YtpfncncohnhanaaGreatDoor


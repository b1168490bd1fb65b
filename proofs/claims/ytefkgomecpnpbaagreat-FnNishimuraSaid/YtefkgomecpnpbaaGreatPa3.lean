/- Texts in one file: KrS IsS NisR Src Draw NdTl Any Dc DecL DrawP From NisS FcN Fc DecM DecK ShelfC PutP Put PutL Put2 IdxC Idx Shelf Drop DecP Gl Gl2 AppStr. -/
import Derived.Deep.QuietTactic
import Derived.BigQuiet
import Derived.Deep.RegionHeld3
import Derived.WalkLawsBesides
import Derived.Outline
import Derived.Conc.WgArith
import Derived.Laws.Bits64
import Derived.Deep.RegionLaw
import Derived.OwnWalk
import Derived.StillTailTactics
import Derived.BigRegion
import Derived.Deep.LoopGhost
import Derived.Shelf.Sort.Plain
import Derived.Shelf.Slices.CompactS
import Derived.Shelf.Slices.In.SortNone
import Derived.Test.YtefkgomecpnpbaaGreatProg
import Derived.Lib.OwnBridge
import Derived.Lib.RowBridge
import Derived.Sort.OwnSorted
import Derived.Lib.SlicesS
import Derived.Lib.SliceRun
import Derived.Shelf.SlicesE.DeleteFunc
import Derived.WalkSpells
import Derived.Test.YtefkgomecpnpbaaGreatPa1
import Derived.Test.YtefkgomecpnpbaaGreatPa2
set_option linter.all false

/- l17Force of the reference. -/
namespace Go.Proofs.YtefkgomecpnpbaaGreat
open Go.RowKit
open Fm (Nd Tree)

theorem fv_sm {A V : List Nat} (hA : Rl A) (hV : ∀ m ∈ V, m < 2 ^ A.length) (t : Tree) : fv A V t < 1073741824 := Nat.lt_of_lt_of_le (fv_lt hV t) (pow30' hA.1)
/-- What the walk needs of one call. -/
def ForceOk (A V : List Nat) (t : Tree) : Prop := ∀ (v u va : Value) (w : World), Ints w v (zs A) → Ints w u (zs V) → Nodes w va (Fm.enc t) → FmOk t →
    Calls Tryz.prog 49 #[.agg #[.int .i64 (A.length : Int), v], u, va] w fun e w' => e = .returned (.int .i64 ((fv A V t : Nat) : Int)) ∧ Grew w w'
set_option maxHeartbeats 4000000 in
theorem force_ok (A V : List Nat) (hA : Rl A) (hV : ∀ m ∈ V, m < 2 ^ A.length) (hl : V.length = 6) : ∀ t : Tree, ForceOk A V t := by
  intro t
  induction t with
  | box x _ => intro v u va w _ _ _ ht; exact absurd (anyP_mem.1 ht.2 (5, 0) (by simp [Fm.enc])) (by simp [isBD])
  | dia x _ => intro v u va w _ _ _ ht; exact absurd (anyP_mem.1 ht.2 (6, 0) (by simp [Fm.enc])) (by simp [isBD])
  | fls =>
    intro v u va w h hu ha ht
    obtain ⟨b, o, n, c, rfl, hn0, hne, hk⟩ := head_t ha
    have k0 := hk _ ((Grew.refl w).alloc (.cells #[.int .i64 (A.length : Int), v] 63))
    simp only [kindOf] at k0
    have hnn : (0 : Int) < (n : Int) := by omega
    obtain ⟨A', cA, rfl⟩ := ints_sliceN h
    obtain ⟨AU, cu, rfl⟩ := ints_sliceN hu
    have hg := (Grew.refl w).alloc (.cells #[.int .i64 (A.length : Int), .slice A' A.length cA] 63)
    clear h hu ha hk ht hA hne
    show Calls _ _ _ _ fun e w' => e = .returned (.int .i64 0) ∧ Grew w w'
    generalize A.length = NA at *
    go_enter Tryz.func49, Tryz.ntmps49
    go_wp2_with fail
    go_ret
    exact ⟨rfl, hg⟩
  | var s =>
    intro v u va w h hu ha ht
    obtain ⟨b, o, c, rfl, hc0, hc1, hbl, hcell⟩ : ∃ b o c, va = .slice (some ⟨b, o, none⟩) 1 c ∧ 1 ≤ c ∧ c ≤ 9223372036854775807 ∧ b < w.heap.size ∧ ∀ W, Grew w W → W.cell? ⟨b, o, none⟩ = some (.int .i64 0) ∧ W.cell? ⟨b, o + 1, none⟩ = some (.int .i64 (s.val : Int)) := by
      rcases ha.open_ with ⟨_, h0⟩ | ⟨b, o, c, rfl, q1, q2, q3, q4⟩
      · exact absurd h0 (by simp [Fm.enc])
      · exact ⟨b, o, c, rfl, q1, q2, q3, fun W hW => by simpa [kd, sy, Fm.enc, List.getD] using q4 0 (by simp [Fm.enc]) W hW⟩
    have hgr := (Grew.refl w).alloc (.cells #[.int .i64 (A.length : Int), v] 63)
    obtain ⟨k0, k1⟩ := hcell _ hgr
    obtain ⟨A', cA, rfl⟩ := ints_sliceN h
    obtain ⟨AU, cu, rfl⟩ := ints_sliceN hu
    have hcu := cellsN hu (by omega)
    obtain ⟨bu, ou, rfl, hcu⟩ := hcu
    have hs : s.val < 6 := s.isLt
    have k2 := hcu s.val (by omega) _ hgr
    show Calls _ _ _ _ fun e w' => e = .returned (.int .i64 ((nt V s.val : Nat) : Int)) ∧ Grew w w'
    generalize nt V s.val = y at *
    generalize s.val = sv at *
    rw [hl]
    clear h hu ha ht hA hcell hcu hV hl
    generalize A.length = NA at *
    have hsi : (sv : Int) < 6 := by omega
    go_enter Tryz.func49, Tryz.ntmps49
    go_wp2_with fail
    go_ret
    exact ⟨rfl, hgr⟩
  | and x y ihx ihy =>
    intro v u va w h hu ha ht
    obtain ⟨hx, hy⟩ := fmOk_and ht
    have KL := Lib.hid (fun W (hW : Grew w W) => left_t (two_and x y) ht va W (ha.grew hW))
    have KR := Lib.hid (fun W (hW : Grew w W) => right_t (two_and x y) ht va W (ha.grew hW))
    have KX := Lib.hid (fun va W (hW : Grew w W) (hn : Nodes W va (Fm.enc x)) => ihx v u va W (h.grew hW) (hu.grew hW) hn hx)
    have KY := Lib.hid (fun va W (hW : Grew w W) (hn : Nodes W va (Fm.enc y)) => ihy v u va W (h.grew hW) (hu.grew hW) hn hy)
    have hop := and_i64 (fv A V x) (fv A V y) (by have := fv_sm hA hV x; omega) (by have := fv_sm hA hV y; omega)
    obtain ⟨b, o, n, c, rfl, hn0, hne, hk⟩ := head_t ha
    simp only [kindOf] at hk
    have hnn : (0 : Int) < (n : Int) := by omega
    obtain ⟨A', cA, rfl⟩ := ints_sliceN h
    obtain ⟨AU, cu, rfl⟩ := ints_sliceN hu
    show Calls _ _ _ _ fun e w' => e = .returned (.int .i64 ((fv A V x &&& fv A V y : Nat) : Int)) ∧ Grew w w'
    generalize fv A V x = X at *
    generalize fv A V y = Y at *
    generalize X &&& Y = Z at *
    clear h hu ha ht hA hne hx hy hV hl ihx ihy
    generalize V.length = NV at *
    generalize A.length = NA at *
    obtain ⟨w1, hw1⟩ : ∃ w1, w1 = w.alloc (.cells #[.int .i64 (NA : Int), .slice A' NA cA] 63) := ⟨_, rfl⟩
    have hal : Grew w w1 := by rw [hw1]; exact (Grew.refl w).alloc _
    have hb0 : w1.heap[w.heap.size]? = some (.cells #[.int .i64 (NA : Int), .slice A' NA cA] 63 (0, 0)) := by rw [hw1]; exact blk_new w _
    have p0 : ∀ W, Grew w1 W → W.cell? ⟨w.heap.size, 0, none⟩ = some (.int .i64 (NA : Int)) := fun W hW => by rw [blk_cell ((hW.block (blk_lt hb0)).trans hb0)]; rfl
    have p1 : ∀ W, Grew w1 W → W.cell? ⟨w.heap.size, 1, none⟩ = some (.slice A' NA cA) := fun W hW => by rw [blk_cell ((hW.block (blk_lt hb0)).trans hb0)]; rfl
    have k0 := fun W (hW : Grew w1 W) => hk W (hal.trans hW)
    have HAL := Lib.hid hal
    have k00 := hk _ ((Grew.refl w).alloc (.cells #[.int .i64 (NA : Int), .slice A' NA cA] 63))
    have hr1 := Grew.refl w1
    have hd1 := hr1.drew
    clear hk hb0 hal
    go_enter Tryz.func49, Tryz.ntmps49
    go_wp2_with fail
    simp only [← hw1]
    clear hw1 k00
    refine wp_region_held_drew (S := fun w' => Grew w1 w') (by kernel_rfl) hd1 (fun hHeld => ?_)
    refine wpAnyH_take (i := 0) (oi := ?on1) (v := ?vn1) ?hin1 ?an1 ?bn1 ?cn1 ?qn1 (Or.inl ⟨?dn1, ?hyn1⟩) hHeld ?restn1
    case hin1 => (simp only [List.getElem?_toArray, List.getElem?_cons_zero]; exact rfl)
    case an1 => kernel_rfl
    case bn1 => kernel_rfl
    case cn1 => kernel_rfl
    case qn1 => exact fun _ _ _ h => h
    case dn1 => rfl
    case hyn1 => (intro z hSw; (try dsimp only at hSw); go_simp; (try with_reducible rfl))
    try simp only [Act.put, List.setIfInBounds_toArray, List.set_cons_zero, List.set_cons_succ]
    refine wpAnyH_take (i := 1) (oi := ?on2) (v := ?vn2) ?hin2 ?an2 ?bn2 ?cn2 ?qn2 (Or.inl ⟨?dn2, ?hyn2⟩) hHeld ?restn2
    case hin2 => (simp only [List.getElem?_toArray, List.getElem?_cons_succ, List.getElem?_cons_zero]; exact rfl)
    case an2 => kernel_rfl
    case bn2 => kernel_rfl
    case cn2 => kernel_rfl
    case qn2 => exact fun _ _ _ h => h
    case dn2 => rfl
    case hyn2 => (intro z hSw; (try dsimp only at hSw); go_simp; (try with_reducible rfl))
    try simp only [Act.put, List.setIfInBounds_toArray, List.set_cons_zero, List.set_cons_succ]
    refine wpAnyH_take (i := 2) (oi := ?on3) (v := ?vn3) ?hin3 ?an3 ?bn3 ?cn3 ?qn3 (Or.inl ⟨?dn3, ?hyn3⟩) hHeld ?restn3
    case hin3 => (simp only [List.getElem?_toArray, List.getElem?_cons_succ, List.getElem?_cons_zero]; exact rfl)
    case an3 => kernel_rfl
    case bn3 => kernel_rfl
    case cn3 => kernel_rfl
    case qn3 => exact fun _ _ _ h => h
    case dn3 => rfl
    case hyn3 => (intro z hSw; (try dsimp only at hSw); go_simp; (try with_reducible rfl))
    try simp only [Act.put, List.setIfInBounds_toArray, List.set_cons_zero, List.set_cons_succ]
    refine wpAnyH_take (i := 5) (oi := ?on4) (v := ?vn4) ?hin4 ?an4 ?bn4 ?cn4 ?qn4 (Or.inl ⟨?dn4, ?hyn4⟩) hHeld ?restn4
    case hin4 => (simp only [List.getElem?_toArray, List.getElem?_cons_succ, List.getElem?_cons_zero]; exact rfl)
    case an4 => kernel_rfl
    case bn4 => kernel_rfl
    case cn4 => kernel_rfl
    case qn4 => exact fun _ _ _ h => h
    case dn4 => rfl
    case hyn4 => (intro z hSw; (try dsimp only at hSw); go_simp; (try with_reducible rfl))
    try simp only [Act.put, List.setIfInBounds_toArray, List.set_cons_zero, List.set_cons_succ]
    refine wpAnyH_take (i := 6) (oi := ?on5) (v := ?vn5) ?hin5 ?an5 ?bn5 ?cn5 ?qn5 (Or.inl ⟨?dn5, ?hyn5⟩) hHeld ?restn5
    case hin5 => (simp only [List.getElem?_toArray, List.getElem?_cons_succ, List.getElem?_cons_zero]; exact rfl)
    case an5 => kernel_rfl
    case bn5 => kernel_rfl
    case cn5 => kernel_rfl
    case qn5 => exact fun _ _ _ h => h
    case dn5 => rfl
    case hyn5 => (intro z hSw; (try dsimp only at hSw); go_simp; (try with_reducible rfl))
    try simp only [Act.put, List.setIfInBounds_toArray, List.set_cons_zero, List.set_cons_succ]
    refine wpAnyH_take (i := 7) (oi := ?on6) (v := ?vn6) ?hin6 ?an6 ?bn6 ?cn6 ?qn6 (Or.inl ⟨?dn6, ?hyn6⟩) hHeld ?restn6
    case hin6 => (simp only [List.getElem?_toArray, List.getElem?_cons_succ, List.getElem?_cons_zero]; exact rfl)
    case an6 => kernel_rfl
    case bn6 => kernel_rfl
    case cn6 => kernel_rfl
    case qn6 => exact fun _ _ _ h => h
    case dn6 => rfl
    case hyn6 => (intro z hSw; (try dsimp only at hSw); go_simp; (try with_reducible rfl))
    try simp only [Act.put, List.setIfInBounds_toArray, List.set_cons_zero, List.set_cons_succ]
    refine wpAnyH_ready (rs := [3]) (by kernel_rfl) (by simp) ?_
    refine AllReadyH.cons (o := ?on7) ?hin7 ?restn7 AllReadyH.nil
    case hin7 => (simp only [List.getElem?_toArray, List.getElem?_cons_succ, List.getElem?_cons_zero]; exact rfl)
    intro K hK
    go_simp
    go_at_call 71
    refine (KL.out _ (HAL.out.trans hd1)).mono ?_
    rintro e w2 ⟨va2, rfl, hn2, hgw2⟩
    have h2 : Grew w1 w2 := hd1.trans hgw2
    obtain ⟨B2, e2, rfl⟩ := nodes_slice hn2
    refine hK.out _ _ ?_ (fun hHeld => ?_)
    · (try dsimp only); first | with_reducible assumption | exact Grew.alloc ‹_› _
    clear hK K
    try simp only [Act.put, List.setIfInBounds_toArray, List.set_cons_zero, List.set_cons_succ]
    refine wpAnyH_ready (rs := [4]) (by kernel_rfl) (by simp) ?_
    refine AllReadyH.cons (o := ?on8) ?hin8 ?restn8 AllReadyH.nil
    case hin8 => (simp only [List.getElem?_toArray, List.getElem?_cons_succ, List.getElem?_cons_zero]; exact rfl)
    intro K hK
    go_simp
    go_at_call 49
    refine (KX.out _ _ (HAL.out.trans h2) hn2).mono ?_
    rintro e w3 ⟨rfl, hgw3⟩
    have h3 : Grew w1 w3 := h2.trans hgw3
    refine hK.out _ _ ?_ (fun hHeld => ?_)
    · (try dsimp only); first | with_reducible assumption | exact Grew.alloc ‹_› _
    clear hK K
    try simp only [Act.put, List.setIfInBounds_toArray, List.set_cons_zero, List.set_cons_succ]
    refine wpAnyH_ready (rs := [8]) (by kernel_rfl) (by simp) ?_
    refine AllReadyH.cons (o := ?on9) ?hin9 ?restn9 AllReadyH.nil
    case hin9 => (simp only [List.getElem?_toArray, List.getElem?_cons_succ, List.getElem?_cons_zero]; exact rfl)
    intro K hK
    go_simp
    go_at_call 72
    refine (KR.out _ (HAL.out.trans h3)).mono ?_
    rintro e w4 ⟨va4, rfl, hn4, hgw4⟩
    have h4 : Grew w1 w4 := h3.trans hgw4
    obtain ⟨B4, e4, rfl⟩ := nodes_slice hn4
    refine hK.out _ _ ?_ (fun hHeld => ?_)
    · (try dsimp only); first | with_reducible assumption | exact Grew.alloc ‹_› _
    clear hK K
    try simp only [Act.put, List.setIfInBounds_toArray, List.set_cons_zero, List.set_cons_succ]
    refine wpAnyH_ready (rs := [9]) (by kernel_rfl) (by simp) ?_
    refine AllReadyH.cons (o := ?on10) ?hin10 ?restn10 AllReadyH.nil
    case hin10 => (simp only [List.getElem?_toArray, List.getElem?_cons_succ, List.getElem?_cons_zero]; exact rfl)
    intro K hK
    go_simp
    go_at_call 49
    refine (KY.out _ _ (HAL.out.trans h4) hn4).mono ?_
    rintro e w5 ⟨rfl, hgw5⟩
    have h5 : Grew w1 w5 := h4.trans hgw5
    refine hK.out _ _ ?_ (fun hHeld => ?_)
    · (try dsimp only); first | with_reducible assumption | exact Grew.alloc ‹_› _
    clear hK K
    try simp only [Act.put, List.setIfInBounds_toArray, List.set_cons_zero, List.set_cons_succ]
    refine wpAnyH_take (i := 10) (oi := ?on11) (v := ?vn11) ?hin11 ?an11 ?bn11 ?cn11 ?qn11 (Or.inl ⟨?dn11, ?hyn11⟩) hHeld ?restn11
    case hin11 => (simp only [List.getElem?_toArray, List.getElem?_cons_succ, List.getElem?_cons_zero]; exact rfl)
    case an11 => kernel_rfl
    case bn11 => kernel_rfl
    case cn11 => kernel_rfl
    case qn11 => exact fun _ _ _ h => h
    case dn11 => rfl
    case hyn11 => (intro z hSw; (try dsimp only at hSw); go_simp; (try with_reducible rfl))
    try simp only [Act.put, List.setIfInBounds_toArray, List.set_cons_zero, List.set_cons_succ]
    refine wpAnyH_take (i := 11) (oi := ?on12) (v := ?vn12) ?hin12 ?an12 ?bn12 ?cn12 ?qn12 (Or.inl ⟨?dn12, ?hyn12⟩) hHeld ?restn12
    case hin12 => (simp only [List.getElem?_toArray, List.getElem?_cons_succ, List.getElem?_cons_zero]; exact rfl)
    case an12 => kernel_rfl
    case bn12 => kernel_rfl
    case cn12 => kernel_rfl
    case qn12 => exact fun _ _ _ h => h
    case dn12 => rfl
    case hyn12 => (intro z hSw; (try dsimp only at hSw); go_simp; (try with_reducible rfl))
    try simp only [Act.put, List.setIfInBounds_toArray, List.set_cons_zero, List.set_cons_succ]
    refine wpAnyH_done (by kernel_rfl) ?_ _
    go_wp2_with fail
    go_ret
    exact ⟨rfl, HAL.out.trans h5⟩
  | or x y ihx ihy =>
    intro v u va w h hu ha ht
    obtain ⟨hx, hy⟩ := fmOk_or ht
    have KL := Lib.hid (fun W (hW : Grew w W) => left_t (two_or x y) ht va W (ha.grew hW))
    have KR := Lib.hid (fun W (hW : Grew w W) => right_t (two_or x y) ht va W (ha.grew hW))
    have KX := Lib.hid (fun va W (hW : Grew w W) (hn : Nodes W va (Fm.enc x)) => ihx v u va W (h.grew hW) (hu.grew hW) hn hx)
    have KY := Lib.hid (fun va W (hW : Grew w W) (hn : Nodes W va (Fm.enc y)) => ihy v u va W (h.grew hW) (hu.grew hW) hn hy)
    have hop := or_i64 (fv A V x) (fv A V y) (by have := fv_sm hA hV x; omega) (by have := fv_sm hA hV y; omega)
    obtain ⟨b, o, n, c, rfl, hn0, hne, hk⟩ := head_t ha
    simp only [kindOf] at hk
    have hnn : (0 : Int) < (n : Int) := by omega
    obtain ⟨A', cA, rfl⟩ := ints_sliceN h
    obtain ⟨AU, cu, rfl⟩ := ints_sliceN hu
    show Calls _ _ _ _ fun e w' => e = .returned (.int .i64 ((fv A V x ||| fv A V y : Nat) : Int)) ∧ Grew w w'
    generalize fv A V x = X at *
    generalize fv A V y = Y at *
    generalize X ||| Y = Z at *
    clear h hu ha ht hA hne hx hy hV hl ihx ihy
    generalize V.length = NV at *
    generalize A.length = NA at *
    obtain ⟨w1, hw1⟩ : ∃ w1, w1 = w.alloc (.cells #[.int .i64 (NA : Int), .slice A' NA cA] 63) := ⟨_, rfl⟩
    have hal : Grew w w1 := by rw [hw1]; exact (Grew.refl w).alloc _
    have hb0 : w1.heap[w.heap.size]? = some (.cells #[.int .i64 (NA : Int), .slice A' NA cA] 63 (0, 0)) := by rw [hw1]; exact blk_new w _
    have p0 : ∀ W, Grew w1 W → W.cell? ⟨w.heap.size, 0, none⟩ = some (.int .i64 (NA : Int)) := fun W hW => by rw [blk_cell ((hW.block (blk_lt hb0)).trans hb0)]; rfl
    have p1 : ∀ W, Grew w1 W → W.cell? ⟨w.heap.size, 1, none⟩ = some (.slice A' NA cA) := fun W hW => by rw [blk_cell ((hW.block (blk_lt hb0)).trans hb0)]; rfl
    have k0 := fun W (hW : Grew w1 W) => hk W (hal.trans hW)
    have HAL := Lib.hid hal
    have k00 := hk _ ((Grew.refl w).alloc (.cells #[.int .i64 (NA : Int), .slice A' NA cA] 63))
    have hr1 := Grew.refl w1
    have hd1 := hr1.drew
    clear hk hb0 hal
    go_enter Tryz.func49, Tryz.ntmps49
    go_wp2_with fail
    simp only [← hw1]
    clear hw1 k00
    refine wp_region_held_drew (S := fun w' => Grew w1 w') (by kernel_rfl) hd1 (fun hHeld => ?_)
    refine wpAnyH_take (i := 0) (oi := ?on13) (v := ?vn13) ?hin13 ?an13 ?bn13 ?cn13 ?qn13 (Or.inl ⟨?dn13, ?hyn13⟩) hHeld ?restn13
    case hin13 => (simp only [List.getElem?_toArray, List.getElem?_cons_zero]; exact rfl)
    case an13 => kernel_rfl
    case bn13 => kernel_rfl
    case cn13 => kernel_rfl
    case qn13 => exact fun _ _ _ h => h
    case dn13 => rfl
    case hyn13 => (intro z hSw; (try dsimp only at hSw); go_simp; (try with_reducible rfl))
    try simp only [Act.put, List.setIfInBounds_toArray, List.set_cons_zero, List.set_cons_succ]
    refine wpAnyH_take (i := 1) (oi := ?on14) (v := ?vn14) ?hin14 ?an14 ?bn14 ?cn14 ?qn14 (Or.inl ⟨?dn14, ?hyn14⟩) hHeld ?restn14
    case hin14 => (simp only [List.getElem?_toArray, List.getElem?_cons_succ, List.getElem?_cons_zero]; exact rfl)
    case an14 => kernel_rfl
    case bn14 => kernel_rfl
    case cn14 => kernel_rfl
    case qn14 => exact fun _ _ _ h => h
    case dn14 => rfl
    case hyn14 => (intro z hSw; (try dsimp only at hSw); go_simp; (try with_reducible rfl))
    try simp only [Act.put, List.setIfInBounds_toArray, List.set_cons_zero, List.set_cons_succ]
    refine wpAnyH_take (i := 2) (oi := ?on15) (v := ?vn15) ?hin15 ?an15 ?bn15 ?cn15 ?qn15 (Or.inl ⟨?dn15, ?hyn15⟩) hHeld ?restn15
    case hin15 => (simp only [List.getElem?_toArray, List.getElem?_cons_succ, List.getElem?_cons_zero]; exact rfl)
    case an15 => kernel_rfl
    case bn15 => kernel_rfl
    case cn15 => kernel_rfl
    case qn15 => exact fun _ _ _ h => h
    case dn15 => rfl
    case hyn15 => (intro z hSw; (try dsimp only at hSw); go_simp; (try with_reducible rfl))
    try simp only [Act.put, List.setIfInBounds_toArray, List.set_cons_zero, List.set_cons_succ]
    refine wpAnyH_take (i := 5) (oi := ?on16) (v := ?vn16) ?hin16 ?an16 ?bn16 ?cn16 ?qn16 (Or.inl ⟨?dn16, ?hyn16⟩) hHeld ?restn16
    case hin16 => (simp only [List.getElem?_toArray, List.getElem?_cons_succ, List.getElem?_cons_zero]; exact rfl)
    case an16 => kernel_rfl
    case bn16 => kernel_rfl
    case cn16 => kernel_rfl
    case qn16 => exact fun _ _ _ h => h
    case dn16 => rfl
    case hyn16 => (intro z hSw; (try dsimp only at hSw); go_simp; (try with_reducible rfl))
    try simp only [Act.put, List.setIfInBounds_toArray, List.set_cons_zero, List.set_cons_succ]
    refine wpAnyH_take (i := 6) (oi := ?on17) (v := ?vn17) ?hin17 ?an17 ?bn17 ?cn17 ?qn17 (Or.inl ⟨?dn17, ?hyn17⟩) hHeld ?restn17
    case hin17 => (simp only [List.getElem?_toArray, List.getElem?_cons_succ, List.getElem?_cons_zero]; exact rfl)
    case an17 => kernel_rfl
    case bn17 => kernel_rfl
    case cn17 => kernel_rfl
    case qn17 => exact fun _ _ _ h => h
    case dn17 => rfl
    case hyn17 => (intro z hSw; (try dsimp only at hSw); go_simp; (try with_reducible rfl))
    try simp only [Act.put, List.setIfInBounds_toArray, List.set_cons_zero, List.set_cons_succ]
    refine wpAnyH_take (i := 7) (oi := ?on18) (v := ?vn18) ?hin18 ?an18 ?bn18 ?cn18 ?qn18 (Or.inl ⟨?dn18, ?hyn18⟩) hHeld ?restn18
    case hin18 => (simp only [List.getElem?_toArray, List.getElem?_cons_succ, List.getElem?_cons_zero]; exact rfl)
    case an18 => kernel_rfl
    case bn18 => kernel_rfl
    case cn18 => kernel_rfl
    case qn18 => exact fun _ _ _ h => h
    case dn18 => rfl
    case hyn18 => (intro z hSw; (try dsimp only at hSw); go_simp; (try with_reducible rfl))
    try simp only [Act.put, List.setIfInBounds_toArray, List.set_cons_zero, List.set_cons_succ]
    refine wpAnyH_ready (rs := [3]) (by kernel_rfl) (by simp) ?_
    refine AllReadyH.cons (o := ?on19) ?hin19 ?restn19 AllReadyH.nil
    case hin19 => (simp only [List.getElem?_toArray, List.getElem?_cons_succ, List.getElem?_cons_zero]; exact rfl)
    intro K hK
    go_simp
    go_at_call 71
    refine (KL.out _ (HAL.out.trans hd1)).mono ?_
    rintro e w2 ⟨va2, rfl, hn2, hgw2⟩
    have h2 : Grew w1 w2 := hd1.trans hgw2
    obtain ⟨B2, e2, rfl⟩ := nodes_slice hn2
    refine hK.out _ _ ?_ (fun hHeld => ?_)
    · (try dsimp only); first | with_reducible assumption | exact Grew.alloc ‹_› _
    clear hK K
    try simp only [Act.put, List.setIfInBounds_toArray, List.set_cons_zero, List.set_cons_succ]
    refine wpAnyH_ready (rs := [4]) (by kernel_rfl) (by simp) ?_
    refine AllReadyH.cons (o := ?on20) ?hin20 ?restn20 AllReadyH.nil
    case hin20 => (simp only [List.getElem?_toArray, List.getElem?_cons_succ, List.getElem?_cons_zero]; exact rfl)
    intro K hK
    go_simp
    go_at_call 49
    refine (KX.out _ _ (HAL.out.trans h2) hn2).mono ?_
    rintro e w3 ⟨rfl, hgw3⟩
    have h3 : Grew w1 w3 := h2.trans hgw3
    refine hK.out _ _ ?_ (fun hHeld => ?_)
    · (try dsimp only); first | with_reducible assumption | exact Grew.alloc ‹_› _
    clear hK K
    try simp only [Act.put, List.setIfInBounds_toArray, List.set_cons_zero, List.set_cons_succ]
    refine wpAnyH_ready (rs := [8]) (by kernel_rfl) (by simp) ?_
    refine AllReadyH.cons (o := ?on21) ?hin21 ?restn21 AllReadyH.nil
    case hin21 => (simp only [List.getElem?_toArray, List.getElem?_cons_succ, List.getElem?_cons_zero]; exact rfl)
    intro K hK
    go_simp
    go_at_call 72
    refine (KR.out _ (HAL.out.trans h3)).mono ?_
    rintro e w4 ⟨va4, rfl, hn4, hgw4⟩
    have h4 : Grew w1 w4 := h3.trans hgw4
    obtain ⟨B4, e4, rfl⟩ := nodes_slice hn4
    refine hK.out _ _ ?_ (fun hHeld => ?_)
    · (try dsimp only); first | with_reducible assumption | exact Grew.alloc ‹_› _
    clear hK K
    try simp only [Act.put, List.setIfInBounds_toArray, List.set_cons_zero, List.set_cons_succ]
    refine wpAnyH_ready (rs := [9]) (by kernel_rfl) (by simp) ?_
    refine AllReadyH.cons (o := ?on22) ?hin22 ?restn22 AllReadyH.nil
    case hin22 => (simp only [List.getElem?_toArray, List.getElem?_cons_succ, List.getElem?_cons_zero]; exact rfl)
    intro K hK
    go_simp
    go_at_call 49
    refine (KY.out _ _ (HAL.out.trans h4) hn4).mono ?_
    rintro e w5 ⟨rfl, hgw5⟩
    have h5 : Grew w1 w5 := h4.trans hgw5
    refine hK.out _ _ ?_ (fun hHeld => ?_)
    · (try dsimp only); first | with_reducible assumption | exact Grew.alloc ‹_› _
    clear hK K
    try simp only [Act.put, List.setIfInBounds_toArray, List.set_cons_zero, List.set_cons_succ]
    refine wpAnyH_take (i := 10) (oi := ?on23) (v := ?vn23) ?hin23 ?an23 ?bn23 ?cn23 ?qn23 (Or.inl ⟨?dn23, ?hyn23⟩) hHeld ?restn23
    case hin23 => (simp only [List.getElem?_toArray, List.getElem?_cons_succ, List.getElem?_cons_zero]; exact rfl)
    case an23 => kernel_rfl
    case bn23 => kernel_rfl
    case cn23 => kernel_rfl
    case qn23 => exact fun _ _ _ h => h
    case dn23 => rfl
    case hyn23 => (intro z hSw; (try dsimp only at hSw); go_simp; (try with_reducible rfl))
    try simp only [Act.put, List.setIfInBounds_toArray, List.set_cons_zero, List.set_cons_succ]
    refine wpAnyH_take (i := 11) (oi := ?on24) (v := ?vn24) ?hin24 ?an24 ?bn24 ?cn24 ?qn24 (Or.inl ⟨?dn24, ?hyn24⟩) hHeld ?restn24
    case hin24 => (simp only [List.getElem?_toArray, List.getElem?_cons_succ, List.getElem?_cons_zero]; exact rfl)
    case an24 => kernel_rfl
    case bn24 => kernel_rfl
    case cn24 => kernel_rfl
    case qn24 => exact fun _ _ _ h => h
    case dn24 => rfl
    case hyn24 => (intro z hSw; (try dsimp only at hSw); go_simp; (try with_reducible rfl))
    try simp only [Act.put, List.setIfInBounds_toArray, List.set_cons_zero, List.set_cons_succ]
    refine wpAnyH_done (by kernel_rfl) ?_ _
    go_wp2_with fail
    go_ret
    exact ⟨rfl, HAL.out.trans h5⟩
  | imp x y ihx ihy =>
    intro v u va w h hu ha ht
    obtain ⟨hx, hy⟩ := fmOk_imp ht
    have KL := Lib.hid (fun W (hW : Grew w W) => left_t (two_imp x y) ht va W (ha.grew hW))
    have KR := Lib.hid (fun W (hW : Grew w W) => right_t (two_imp x y) ht va W (ha.grew hW))
    have KX := Lib.hid (fun va W (hW : Grew w W) (hn : Nodes W va (Fm.enc x)) => ihx v u va W (h.grew hW) (hu.grew hW) hn hx)
    have KY := Lib.hid (fun va W (hW : Grew w W) (hn : Nodes W va (Fm.enc y)) => ihy v u va W (h.grew hW) (hu.grew hW) hn hy)
    have KA := Lib.hid (fun W (hW : Grew w W) => l17Arrow_c v A (fv A V x) (fv A V y) W (h.grew hW) hA (fv_sm hA hV x) (fv_sm hA hV y))
    obtain ⟨b, o, n, c, rfl, hn0, hne, hk⟩ := head_t ha
    simp only [kindOf] at hk
    have hnn : (0 : Int) < (n : Int) := by omega
    obtain ⟨A', cA, rfl⟩ := ints_sliceN h
    obtain ⟨AU, cu, rfl⟩ := ints_sliceN hu
    show Calls _ _ _ _ fun e w' => e = .returned (.int .i64 ((ar A (fv A V x) (fv A V y) : Nat) : Int)) ∧ Grew w w'
    generalize fv A V x = X at *
    generalize fv A V y = Y at *
    generalize ar A (X) (Y) = Z at *
    clear h hu ha ht hA hne hx hy hV hl ihx ihy
    generalize V.length = NV at *
    generalize A.length = NA at *
    obtain ⟨w1, hw1⟩ : ∃ w1, w1 = w.alloc (.cells #[.int .i64 (NA : Int), .slice A' NA cA] 63) := ⟨_, rfl⟩
    have hal : Grew w w1 := by rw [hw1]; exact (Grew.refl w).alloc _
    have hb0 : w1.heap[w.heap.size]? = some (.cells #[.int .i64 (NA : Int), .slice A' NA cA] 63 (0, 0)) := by rw [hw1]; exact blk_new w _
    have p0 : ∀ W, Grew w1 W → W.cell? ⟨w.heap.size, 0, none⟩ = some (.int .i64 (NA : Int)) := fun W hW => by rw [blk_cell ((hW.block (blk_lt hb0)).trans hb0)]; rfl
    have p1 : ∀ W, Grew w1 W → W.cell? ⟨w.heap.size, 1, none⟩ = some (.slice A' NA cA) := fun W hW => by rw [blk_cell ((hW.block (blk_lt hb0)).trans hb0)]; rfl
    have k0 := fun W (hW : Grew w1 W) => hk W (hal.trans hW)
    have HAL := Lib.hid hal
    have k00 := hk _ ((Grew.refl w).alloc (.cells #[.int .i64 (NA : Int), .slice A' NA cA] 63))
    have hr1 := Grew.refl w1
    have hd1 := hr1.drew
    clear hk hb0 hal
    go_enter Tryz.func49, Tryz.ntmps49
    go_wp2_with fail
    simp only [← hw1]
    clear hw1 k00
    refine wp_region_held_drew (S := fun w' => Grew w1 w') (by kernel_rfl) hd1 (fun hHeld => ?_)
    refine wpAnyH_take (i := 0) (oi := ?on25) (v := ?vn25) ?hin25 ?an25 ?bn25 ?cn25 ?qn25 (Or.inl ⟨?dn25, ?hyn25⟩) hHeld ?restn25
    case hin25 => (simp only [List.getElem?_toArray, List.getElem?_cons_zero]; exact rfl)
    case an25 => kernel_rfl
    case bn25 => kernel_rfl
    case cn25 => kernel_rfl
    case qn25 => exact fun _ _ _ h => h
    case dn25 => rfl
    case hyn25 => (intro z hSw; (try dsimp only at hSw); go_simp; (try with_reducible rfl))
    try simp only [Act.put, List.setIfInBounds_toArray, List.set_cons_zero, List.set_cons_succ]
    refine wpAnyH_take (i := 1) (oi := ?on26) (v := ?vn26) ?hin26 ?an26 ?bn26 ?cn26 ?qn26 (Or.inl ⟨?dn26, ?hyn26⟩) hHeld ?restn26
    case hin26 => (simp only [List.getElem?_toArray, List.getElem?_cons_succ, List.getElem?_cons_zero]; exact rfl)
    case an26 => kernel_rfl
    case bn26 => kernel_rfl
    case cn26 => kernel_rfl
    case qn26 => exact fun _ _ _ h => h
    case dn26 => rfl
    case hyn26 => (intro z hSw; (try dsimp only at hSw); go_simp; (try with_reducible rfl))
    try simp only [Act.put, List.setIfInBounds_toArray, List.set_cons_zero, List.set_cons_succ]
    refine wpAnyH_take (i := 2) (oi := ?on27) (v := ?vn27) ?hin27 ?an27 ?bn27 ?cn27 ?qn27 (Or.inl ⟨?dn27, ?hyn27⟩) hHeld ?restn27
    case hin27 => (simp only [List.getElem?_toArray, List.getElem?_cons_succ, List.getElem?_cons_zero]; exact rfl)
    case an27 => kernel_rfl
    case bn27 => kernel_rfl
    case cn27 => kernel_rfl
    case qn27 => exact fun _ _ _ h => h
    case dn27 => rfl
    case hyn27 => (intro z hSw; (try dsimp only at hSw); go_simp; (try with_reducible rfl))
    try simp only [Act.put, List.setIfInBounds_toArray, List.set_cons_zero, List.set_cons_succ]
    refine wpAnyH_take (i := 3) (oi := ?on28) (v := ?vn28) ?hin28 ?an28 ?bn28 ?cn28 ?qn28 (Or.inl ⟨?dn28, ?hyn28⟩) hHeld ?restn28
    case hin28 => (simp only [List.getElem?_toArray, List.getElem?_cons_succ, List.getElem?_cons_zero]; exact rfl)
    case an28 => kernel_rfl
    case bn28 => kernel_rfl
    case cn28 => kernel_rfl
    case qn28 => exact fun _ _ _ h => h
    case dn28 => rfl
    case hyn28 => (intro z hSw; (try dsimp only at hSw); go_simp; (try with_reducible rfl))
    try simp only [Act.put, List.setIfInBounds_toArray, List.set_cons_zero, List.set_cons_succ]
    refine wpAnyH_take (i := 6) (oi := ?on29) (v := ?vn29) ?hin29 ?an29 ?bn29 ?cn29 ?qn29 (Or.inl ⟨?dn29, ?hyn29⟩) hHeld ?restn29
    case hin29 => (simp only [List.getElem?_toArray, List.getElem?_cons_succ, List.getElem?_cons_zero]; exact rfl)
    case an29 => kernel_rfl
    case bn29 => kernel_rfl
    case cn29 => kernel_rfl
    case qn29 => exact fun _ _ _ h => h
    case dn29 => rfl
    case hyn29 => (intro z hSw; (try dsimp only at hSw); go_simp; (try with_reducible rfl))
    try simp only [Act.put, List.setIfInBounds_toArray, List.set_cons_zero, List.set_cons_succ]
    refine wpAnyH_take (i := 7) (oi := ?on30) (v := ?vn30) ?hin30 ?an30 ?bn30 ?cn30 ?qn30 (Or.inl ⟨?dn30, ?hyn30⟩) hHeld ?restn30
    case hin30 => (simp only [List.getElem?_toArray, List.getElem?_cons_succ, List.getElem?_cons_zero]; exact rfl)
    case an30 => kernel_rfl
    case bn30 => kernel_rfl
    case cn30 => kernel_rfl
    case qn30 => exact fun _ _ _ h => h
    case dn30 => rfl
    case hyn30 => (intro z hSw; (try dsimp only at hSw); go_simp; (try with_reducible rfl))
    try simp only [Act.put, List.setIfInBounds_toArray, List.set_cons_zero, List.set_cons_succ]
    refine wpAnyH_take (i := 8) (oi := ?on31) (v := ?vn31) ?hin31 ?an31 ?bn31 ?cn31 ?qn31 (Or.inl ⟨?dn31, ?hyn31⟩) hHeld ?restn31
    case hin31 => (simp only [List.getElem?_toArray, List.getElem?_cons_succ, List.getElem?_cons_zero]; exact rfl)
    case an31 => kernel_rfl
    case bn31 => kernel_rfl
    case cn31 => kernel_rfl
    case qn31 => exact fun _ _ _ h => h
    case dn31 => rfl
    case hyn31 => (intro z hSw; (try dsimp only at hSw); go_simp; (try with_reducible rfl))
    try simp only [Act.put, List.setIfInBounds_toArray, List.set_cons_zero, List.set_cons_succ]
    refine wpAnyH_ready (rs := [4]) (by kernel_rfl) (by simp) ?_
    refine AllReadyH.cons (o := ?on32) ?hin32 ?restn32 AllReadyH.nil
    case hin32 => (simp only [List.getElem?_toArray, List.getElem?_cons_succ, List.getElem?_cons_zero]; exact rfl)
    intro K hK
    go_simp
    go_at_call 71
    refine (KL.out _ (HAL.out.trans hd1)).mono ?_
    rintro e w2 ⟨va2, rfl, hn2, hgw2⟩
    have h2 : Grew w1 w2 := hd1.trans hgw2
    obtain ⟨B2, e2, rfl⟩ := nodes_slice hn2
    refine hK.out _ _ ?_ (fun hHeld => ?_)
    · (try dsimp only); first | with_reducible assumption | exact Grew.alloc ‹_› _
    clear hK K
    try simp only [Act.put, List.setIfInBounds_toArray, List.set_cons_zero, List.set_cons_succ]
    refine wpAnyH_ready (rs := [5]) (by kernel_rfl) (by simp) ?_
    refine AllReadyH.cons (o := ?on33) ?hin33 ?restn33 AllReadyH.nil
    case hin33 => (simp only [List.getElem?_toArray, List.getElem?_cons_succ, List.getElem?_cons_zero]; exact rfl)
    intro K hK
    go_simp
    go_at_call 49
    refine (KX.out _ _ (HAL.out.trans h2) hn2).mono ?_
    rintro e w3 ⟨rfl, hgw3⟩
    have h3 : Grew w1 w3 := h2.trans hgw3
    refine hK.out _ _ ?_ (fun hHeld => ?_)
    · (try dsimp only); first | with_reducible assumption | exact Grew.alloc ‹_› _
    clear hK K
    try simp only [Act.put, List.setIfInBounds_toArray, List.set_cons_zero, List.set_cons_succ]
    refine wpAnyH_ready (rs := [9]) (by kernel_rfl) (by simp) ?_
    refine AllReadyH.cons (o := ?on34) ?hin34 ?restn34 AllReadyH.nil
    case hin34 => (simp only [List.getElem?_toArray, List.getElem?_cons_succ, List.getElem?_cons_zero]; exact rfl)
    intro K hK
    go_simp
    go_at_call 72
    refine (KR.out _ (HAL.out.trans h3)).mono ?_
    rintro e w4 ⟨va4, rfl, hn4, hgw4⟩
    have h4 : Grew w1 w4 := h3.trans hgw4
    obtain ⟨B4, e4, rfl⟩ := nodes_slice hn4
    refine hK.out _ _ ?_ (fun hHeld => ?_)
    · (try dsimp only); first | with_reducible assumption | exact Grew.alloc ‹_› _
    clear hK K
    try simp only [Act.put, List.setIfInBounds_toArray, List.set_cons_zero, List.set_cons_succ]
    refine wpAnyH_ready (rs := [10]) (by kernel_rfl) (by simp) ?_
    refine AllReadyH.cons (o := ?on35) ?hin35 ?restn35 AllReadyH.nil
    case hin35 => (simp only [List.getElem?_toArray, List.getElem?_cons_succ, List.getElem?_cons_zero]; exact rfl)
    intro K hK
    go_simp
    go_at_call 49
    refine (KY.out _ _ (HAL.out.trans h4) hn4).mono ?_
    rintro e w5 ⟨rfl, hgw5⟩
    have h5 : Grew w1 w5 := h4.trans hgw5
    refine hK.out _ _ ?_ (fun hHeld => ?_)
    · (try dsimp only); first | with_reducible assumption | exact Grew.alloc ‹_› _
    clear hK K
    try simp only [Act.put, List.setIfInBounds_toArray, List.set_cons_zero, List.set_cons_succ]
    refine wpAnyH_ready (rs := [11]) (by kernel_rfl) (by simp) ?_
    refine AllReadyH.cons (o := ?on36) ?hin36 ?restn36 AllReadyH.nil
    case hin36 => (simp only [List.getElem?_toArray, List.getElem?_cons_succ, List.getElem?_cons_zero]; exact rfl)
    intro K hK
    go_simp
    go_at_call 73
    refine (KA.out _ (HAL.out.trans h5)).mono ?_
    rintro e w6 ⟨rfl, hgw6⟩
    have h6 : Grew w1 w6 := h5.trans hgw6
    refine hK.out _ _ ?_ (fun hHeld => ?_)
    · (try dsimp only); first | with_reducible assumption | exact Grew.alloc ‹_› _
    clear hK K
    try simp only [Act.put, List.setIfInBounds_toArray, List.set_cons_zero, List.set_cons_succ]
    refine wpAnyH_take (i := 12) (oi := ?on37) (v := ?vn37) ?hin37 ?an37 ?bn37 ?cn37 ?qn37 (Or.inl ⟨?dn37, ?hyn37⟩) hHeld ?restn37
    case hin37 => (simp only [List.getElem?_toArray, List.getElem?_cons_succ, List.getElem?_cons_zero]; exact rfl)
    case an37 => kernel_rfl
    case bn37 => kernel_rfl
    case cn37 => kernel_rfl
    case qn37 => exact fun _ _ _ h => h
    case dn37 => rfl
    case hyn37 => (intro z hSw; (try dsimp only at hSw); go_simp; (try with_reducible rfl))
    try simp only [Act.put, List.setIfInBounds_toArray, List.set_cons_zero, List.set_cons_succ]
    refine wpAnyH_done (by kernel_rfl) ?_ _
    go_wp2_with fail
    go_ret
    exact ⟨rfl, HAL.out.trans h6⟩
end Go.Proofs.YtefkgomecpnpbaaGreat

/- l02Is of the reference, at any list. -/
namespace Go.Proofs.YtefkgomecpnpbaaGreat
open Go.RowKit
open Fm (Nd Tree)

theorem nodeB_bad1 {a b : Int} (h : decide (0 ≤ a ∧ a ≤ 6) = false) : nodeB a b = false := by
  unfold nodeB
  have h' := of_decide_eq_false h
  rw [if_neg (by simp; omega), decide_eq_false (by omega)]
  rfl
theorem nodeB_bad2 {a b : Int} (h : decide (0 ≤ b ∧ b ≤ 5) = false) : nodeB a b = false := by
  unfold nodeB
  have h' := of_decide_eq_false h
  split
  · exact h
  · have : (b == 0) = false := by simp; omega
    rw [this, Bool.and_false]
theorem nodeB_bad3 {a b : Int} (h0 : (a != 0) = true) (h1 : (b != 0) = true) : nodeB a b = false := by
  unfold nodeB
  simp at h0 h1
  rw [if_neg (by simpa using h0)]
  simp [h1]
theorem nodeB_ok {a b : Int} (h1 : decide (0 ≤ a ∧ a ≤ 6) = true) (h2 : decide (0 ≤ b ∧ b ≤ 5) = true) (h : (a != 0) = false ∨ (b != 0) = false) : nodeB a b = true := by
  unfold nodeB
  have h1' := of_decide_eq_true h1
  split
  · exact h2
  · rename_i hne
    rcases h with h | h
    · simp at h; simp [h] at hne
    · simp at h
      subst h
      have : a ≠ 0 := by simpa using hne
      simp; omega

theorem l02Tree_c (v : Value) (xs : List Nd) (w : World) (h : Nodes w v xs) (hn : xs.length ≤ 1099511627776) :
    Calls Tryz.prog 68 #[v] w fun e w' => e = .returned (.bool (decide (1 ≤ xs.length) && !anyP noNode xs && (pend xs 0 == (xs.length : Int)))) ∧ Grew w w' := by
  rcases h.open_ with ⟨rfl, rfl⟩ | ⟨b, o, c, rfl, hc, hm, hb, hcell⟩
  · clear h
    go_enter Tryz.func68, Tryz.ntmps68
    go_wp2_with fail
    refine wp_loop_rounds 1 ?_; rw [rounds_succ]
    go_wp2_with fail
    go_ret
    exact ⟨rfl, Grew.refl _⟩
  obtain ⟨R, hR⟩ : ∃ R, R = anyP noNode xs := ⟨_, rfl⟩
  rw [← hR]
  have HA := Lib.hid (fun k hk h => hR.trans (@anyP_at noNode xs k hk h))
  have HZ := Lib.hid (fun h => hR.trans (@anyP_no noNode xs h))
  have HP := Lib.hid (fun W (hW : Grew w W) => l02Part_c _ xs 0 W (h.grew hW) hn (by omega))
  have HC := Lib.hid hcell
  clear hcell h hR
  generalize pend xs 0 = p at *
  generalize hN : xs.length = n at *
  clear hN
  go_enter Tryz.func68, Tryz.ntmps68
  go_wp2_with fail
  go_loopw [3] (fun i wr => ∃ j : Nat, j ≤ n ∧ i = .int .i64 j ∧ Grew w wr ∧ Hid (NoneP noNode xs j)) (fun i _ => n - (intOf i).toNat)
  case atStart => exact ⟨0, Nat.zero_le _, rfl, Grew.refl _, NoneP.zero _ _⟩
  case round =>
    obtain ⟨j, hj, rfl, hB, HJ⟩ := hrel
    by_cases hlt : j < n
    · have k1 : ∀ W, Grew w W → W.cell? ⟨b, o + j * 2, none⟩ = some (.int .i64 (kd xs j)) := fun W hW => (HC.out j hlt W hW).1
      have k2 : ∀ W, Grew w W → W.cell? ⟨b, o + j * 2 + 1, none⟩ = some (.int .i64 (sy xs j)) := fun W hW => (HC.out j hlt W hW).2
      have hA : Hid (nodeB (kd xs j) (sy xs j) = false → R = true) := Lib.hid (fun h => HA.out j hlt (by rw [noNode, h]; rfl))
      have hS : Hid (nodeB (kd xs j) (sy xs j) = true → NoneP noNode xs (j + 1)) := Lib.hid (fun h => HJ.out.succ (k := j) (by rw [noNode, h]; rfl))
      generalize kd xs j = x at *
      generalize sy xs j = y at *
      have I1 := fun w => l01In_c x 0 6 w
      have I2 := fun w => l01In_c y 0 5 w
      have hd : ∀ W, Grew w W → Grew w W.drew := fun W h => h.drew
      cases d1 : decide (0 ≤ x ∧ x ≤ 6) with
      | false =>
        have hv := Lib.hid (hA.out (nodeB_bad1 d1))
        rw [d1] at I1
        replace I1 := Lib.hid I1
        replace I2 := Lib.hid I2
        clear d1
        go_wp2_with fail
        refine (I1.out _).mono ?_
        rintro e w1 ⟨rfl, hg1⟩
        have hB1 := hB.trans hg1
        go_wp2_with fail
        go_ret
        rw [hv.out]
        exact ⟨by simp, hB1⟩
      | true =>
        rw [d1] at I1
        replace I1 := Lib.hid I1
        cases d2 : decide (0 ≤ y ∧ y ≤ 5) with
        | false =>
          have hv := Lib.hid (hA.out (nodeB_bad2 d2))
          rw [d2] at I2
          replace I2 := Lib.hid I2
          clear d1 d2
          go_wp2_with fail
          refine (I1.out _).mono ?_
          rintro e w1 ⟨rfl, hg1⟩
          have hB1 := hB.trans hg1
          go_wp2_with fail
          refine (I2.out _).mono ?_
          rintro e w2 ⟨rfl, hg2⟩
          have hB2 := hB1.trans hg2
          go_wp2_with fail
          go_ret
          rw [hv.out]
          exact ⟨by simp, hB2⟩
        | true =>
          rw [d2] at I2
          replace I2 := Lib.hid I2
          cases d3 : (x != 0) with
          | false =>
            have hs := Lib.hid (hS.out (nodeB_ok d1 d2 (.inl d3)))
            clear d1 d2
            go_wp2_with fail
            refine (I1.out _).mono ?_
            rintro e w1 ⟨rfl, hg1⟩
            have hB1 := hB.trans hg1
            go_wp2_with fail
            refine (I2.out _).mono ?_
            rintro e w2 ⟨rfl, hg2⟩
            have hB2 := hB1.trans hg2
            go_wp2_with fail
            go_roundw
            case rel => exact ⟨j + 1, by omega, by go_num, hB2, hs⟩
            case measure => simp [intOf]; omega
          | true =>
            cases d4 : (y != 0) with
            | true =>
              have hv := Lib.hid (hA.out (nodeB_bad3 d3 d4))
              clear d1 d2
              go_wp2_with fail
              refine (I1.out _).mono ?_
              rintro e w1 ⟨rfl, hg1⟩
              have hB1 := hB.trans hg1
              go_wp2_with fail
              refine (I2.out _).mono ?_
              rintro e w2 ⟨rfl, hg2⟩
              have hB2 := hB1.trans hg2
              go_wp2_with fail
              go_ret
              rw [hv.out]
              exact ⟨by simp, hB2⟩
            | false =>
              have hs := Lib.hid (hS.out (nodeB_ok d1 d2 (.inr d4)))
              clear d1 d2
              go_wp2_with fail
              refine (I1.out _).mono ?_
              rintro e w1 ⟨rfl, hg1⟩
              have hB1 := hB.trans hg1
              go_wp2_with fail
              refine (I2.out _).mono ?_
              rintro e w2 ⟨rfl, hg2⟩
              have hB2 := hB1.trans hg2
              go_wp2_with fail
              go_roundw
              case rel => exact ⟨j + 1, by omega, by go_num, hB2, hs⟩
              case measure => simp [intOf]; omega
    · obtain rfl : j = n := by omega
      have hv := Lib.hid (HZ.out HJ.out)
      by_cases hz : 0 < j
      · have hz1 : decide (1 ≤ j) = true := by simp; omega
        go_wp2_with fail
        refine (HP.out _ hB).mono ?_
        rintro e w1 ⟨rfl, hg1⟩
        go_wp2_with fail
        go_ret
        rw [hv.out]
        exact ⟨by rw [hz1]; simp, hB.trans hg1⟩
      · have hz1 : decide (1 ≤ j) = false := by simp; omega
        go_wp2_with fail
        go_ret
        rw [hv.out, hz1]
        exact ⟨by simp, hB⟩

theorem l02Is_c (v : Value) (xs : List Nd) (w : World) (h : Nodes w v xs) (hn : xs.length ≤ 1099511627776) :
    Calls Tryz.prog 44 #[v] w fun e w' => e = .returned (.bool (fmB xs)) ∧ Grew w w' := by
  have HT := fun W (hW : Grew w W) => l02Tree_c v xs W (h.grew hW) hn
  obtain ⟨A, c, rfl⟩ := nodes_slice h
  clear h
  unfold fmB
  generalize pend xs 0 = p at *
  generalize anyP noNode xs = q at *
  generalize hL : xs.length = n at *
  clear hL
  by_cases h2 : n ≤ 40
  · rw [show decide (1 ≤ n ∧ n ≤ 40) = decide (1 ≤ n) from by simp [h2]]
    generalize (decide (1 ≤ n) && !q && (p == (n : Int))) = r at *
    replace HT := Lib.hid HT
    go_enter Tryz.func44, Tryz.ntmps44
    go_wp2_with fail
    refine (HT.out _ (Grew.refl _)).mono ?_
    rintro e w1 ⟨rfl, hg1⟩
    go_wp2_with fail
    go_ret
    exact ⟨rfl, hg1⟩
  · rw [show decide (1 ≤ n ∧ n ≤ 40) = false from by simp [h2], Bool.false_and, Bool.false_and]
    replace HT := Lib.hid HT
    go_enter Tryz.func44, Tryz.ntmps44
    go_wp2_with fail
    go_ret
    exact ⟨rfl, Grew.refl _⟩
end Go.Proofs.YtefkgomecpnpbaaGreat

/- Nishimura formulas and indices of the reference. -/
namespace Go.Proofs.YtefkgomecpnpbaaGreat
open Go.RowKit
open Fm (Nd Tree)

theorem ladR_len : ∀ j, (ladK j).length = j
  | 0 => rfl
  | j + 1 => by rw [ladK, List.length_append, ladR_len j]; rfl
theorem ladR_lt : ∀ j, j ≤ 28 → ∀ m ∈ ladK j, m < 2 ^ 28 := by decide +kernel
theorem ladR_nt {j i : Nat} (h : j ≤ 28) : nt (ladK j) i < 2 ^ 28 := by
  by_cases hi : i < (ladK j).length
  · exact ladR_lt j h _ (nt_mem hi)
  · unfold nt; rw [List.getD_eq_getElem?_getD, List.getElem?_eq_none (by omega)]; decide
theorem ladR_3 (L : List Nat) (i : Nat) : ladX L (i + 3) = (2 ^ (i + 3) ||| nt L (i + 1)) ||| nt L i := by
  unfold ladX
  rw [if_neg (by omega), if_pos (by omega), Nat.or_assoc]
  rfl
theorem ladR_1 (L : List Nat) {x : Nat} (h : x < 2) : ladX L x = 2 ^ x := by
  unfold ladX
  rw [if_neg (by omega), if_neg (by omega)]
theorem ladR_next (j : Nat) : zs (ladK (j + 1)) = zs (ladK j) ++ [((ladX (ladK j) j : Nat) : Int)] := by rw [ladK, zs_append]; rfl

set_option maxHeartbeats 2000000 in
set_option maxRecDepth 20000 in
theorem l20Ladder_c (w : World) : Calls Tryz.prog 50 #[.int .i64 28] w (GivesPs w (zs lad)) := by
  have hinfo := info2P
  have HO := Lib.hid (fun v L W h => l16Make_c v L W h)
  have HK := Lib.hid ladR_next
  have HE : Hid (zs lad = zs (ladK 28)) := Lib.hid (by rw [lad_eq])
  have HLEN := Lib.hid (fun j => (by rw [zs_len, ladR_len] : (zs (ladK j)).length = j))
  have HLN := Lib.hid (fun j i (h : j ≤ 28) => @ladR_nt j i h)
  have HX3 := Lib.hid (fun j i => ladR_3 (ladK j) i)
  have HX1 := Lib.hid (fun j (h : j < 2) => ladR_1 (ladK j) h)
  have HONE := Lib.hid (fun j (h : j ≤ 30) W => l01One_q j h W)
  have HZ : Hid (zs (ladK 0) = []) := Lib.hid rfl
  obtain ⟨w1, hw1⟩ : ∃ w1 : World, w1 = w.alloc (.cells #[.int .i64 0, .slice none 0 0] 63) := ⟨_, rfl⟩
  have hg1 : Grew w w1 := by rw [hw1]; exact (Grew.refl w).alloc _
  have hb1 : w1.heap[w.heap.size]? = some (.cells #[.int .i64 0, .slice none 0 0] 63 (0, 0)) := by rw [hw1]; exact blk_new w _
  have HG1 := Lib.hid hg1
  have HB1 := Lib.hid hb1
  have hsz : w1.heap.size = w.heap.size + 1 := by rw [hw1]; simp
  have HSZ := Lib.hid hsz
  have HEM := Lib.hid (own_emptyI w1)
  have HEG : Hid (Grew w1 (w1.alloc (.cells #[] 2))) := Lib.hid ((Grew.refl w1).alloc _)
  clear hg1 hb1 hsz
  generalize zs lad = R at *
  go_enter Tryz.func50, Tryz.ntmps50
  go_wp2_with fail
  rw [← HSZ.out]
  simp only [← hw1]
  clear hw1
  go_loopw [3, 4, 5] (fun s i _ wr => ∃ j : Nat, j ≤ 28 ∧ i = .int .i64 (j : Int) ∧ OwnI wr w1.heap.size s (zs (ladK j)) ∧ Grew w1 wr) (fun _ i _ _ => 28 - (intOf i).toNat)
  case atStart => exact ⟨0, by omega, rfl, by rw [HZ.out]; exact HEM.out, HEG.out⟩
  case round =>
    obtain ⟨j, hj, rfl, hOw, hB⟩ := hrel
    by_cases hlt : j < 28
    · have hlen := Lib.hid (HLEN.out j)
      have hkn := Lib.hid (HK.out j)
      have KO := Lib.hid (HONE.out j (by omega))
      have hpl : (2 : Nat) ^ j < 2 ^ 28 := Nat.pow_lt_pow_right (by omega) hlt
      have HOR := Lib.hid (fun a b (ha : a < 2 ^ 28) (hb : b < 2 ^ 28) => or_i64 a b (by omega) (by omega))
      have HORL := Lib.hid (fun a b (ha : a < 2 ^ 28) (hb : b < 2 ^ 28) => (or_n ha hb : a ||| b < 2 ^ 28))
      obtain ⟨A, c, hs⟩ := ints_sliceN hOw.ints
      rw [ladR_len] at hs
      subst hs
      have HO1 := Lib.hid hOw
      have hi3 := hOw.ints
      have HCE := Lib.hid (fun h0 => cellsN (L := ladK j) (c := c) (A := A) (by rw [ladR_len]; exact hi3) h0)
      rw [ladR_len] at HCE
      clear hOw hi3
      by_cases h1 : j < 2
      · have hx := HX1.out j h1
        rw [hx] at hkn
        generalize (2 ^ j : Nat) = p at *
        clear hx
        have hj2 : ¬ (2 : Int) ≤ (j : Int) := by omega
        have hj3 : ¬ (3 : Int) ≤ (j : Int) := by omega
        go_wp2_with fail
        refine (KO.out _).mono ?_
        rintro e w2 ⟨rfl, rfl⟩
        go_wp2_with (first | (at_builtin; refine wpList_appI (w0 := w1) _ _ rfl rfl _ (zs (ladK j)) rfl (HO1.out.grew (Grew.alloc (Grew.refl _) _)) (hB.alloc _) _ ((p : Nat) : Int) rfl (rd_litI _ _ _) (by have := hlen.out; omega) ?_; intro v2 w3 hO2 hg3 _))
        go_roundw
        case rel => exact ⟨j + 1, by omega, by go_num, by rw [hkn.out]; exact hO2, hg3⟩
        case measure => simp [intOf]; omega
      by_cases h2 : j = 2
      · subst h2
        have hx : ladX (ladK 2) 2 = 5 := by decide
        rw [hx] at hkn
        obtain ⟨b, o, rfl, hcell⟩ := HCE.out (by omega)
        have k0 : wr.cell? ⟨b, o, none⟩ = some (.int .i64 1) := hcell 0 (by omega) _ (Grew.refl wr)
        have ho : bits .or .i64 4 1 = 5 := by decide
        have KO : Hid (∀ W, Calls Tryz.prog 69 #[.int .i64 2] W fun e w' => e = .returned (.int .i64 4) ∧ w' = W) := Lib.hid (fun W => l01One_q 2 (by omega) W)
        clear hcell hpl hx h1
        go_wp2_with fail
        refine (KO.out _).mono ?_
        rintro e w2 ⟨rfl, rfl⟩
        go_wp2_with (first | (at_builtin; refine wpList_appI (w0 := w1) _ _ rfl rfl _ (zs (ladK 2)) rfl (HO1.out.grew (Grew.alloc (Grew.refl _) _)) (hB.alloc _) _ (5) rfl (rd_litI _ _ _) (by have := hlen.out; omega) ?_; intro v2 w3 hO2 hg3 _))
        go_roundw
        case rel => exact ⟨3, by omega, by go_num, by rw [hkn.out]; exact hO2, hg3⟩
        case measure => simp [intOf]
      · obtain ⟨i0, hi0⟩ : ∃ i0, j = i0 + 3 := ⟨j - 3, by omega⟩
        obtain ⟨i1, hi1⟩ : ∃ i1, j = i1 + 2 := ⟨j - 2, by omega⟩
        have hx := HX3.out j i0
        rw [← hi0, show i0 + 1 = i1 by omega] at hx
        rw [hx] at hkn
        have l0 := HLN.out j i0 (by omega)
        have l1 := HLN.out j i1 (by omega)
        have o1 := HOR.out _ _ hpl l1
        have l2 := HORL.out _ _ hpl l1
        have o2 := HOR.out _ _ l2 l0
        obtain ⟨b, o, rfl, hcell⟩ := HCE.out (by omega)
        have k0 := hcell i0 (by omega) _ (Grew.refl wr)
        have k1 := hcell i1 (by omega) _ (Grew.refl wr)
        have hw2 : IntKind.i64.wrap ((j : Int) - 2) = (i1 : Int) := by rw [IntKind.wrap_i64]; omega
        have hw3 : IntKind.i64.wrap ((j : Int) - 3) = (i0 : Int) := by rw [IntKind.wrap_i64]; omega
        have hj2 : (2 : Int) ≤ (j : Int) := by omega
        have hj3 : (3 : Int) ≤ (j : Int) := by omega
        have hI0 : (0 : Int) ≤ (i0 : Int) := by omega
        have hI1 : (0 : Int) ≤ (i1 : Int) := by omega
        have hI2 : (i0 : Int) < (j : Int) := by omega
        have hI3 : (i1 : Int) < (j : Int) := by omega
        clear hcell hx h1 h2 hi0 hi1
        generalize nt (ladK j) i0 = q0 at *
        generalize nt (ladK j) i1 = q1 at *
        generalize (2 ^ j : Nat) = p at *
        generalize (p ||| q1 : Nat) = q2 at *
        generalize (q2 ||| q0 : Nat) = q3 at *
        go_wp2_with fail
        refine (KO.out _).mono ?_
        rintro e w2 ⟨rfl, rfl⟩
        go_wp2_with (first | (at_builtin; refine wpList_appI (w0 := w1) _ _ rfl rfl _ (zs (ladK j)) rfl (HO1.out.grew (Grew.alloc (Grew.refl _) _)) (hB.alloc _) _ ((q3 : Nat) : Int) rfl (rd_litI _ _ _) (by have := hlen.out; omega) ?_; intro v2 w3 hO2 hg3 _))
        go_roundw
        case rel => exact ⟨j + 1, by omega, by go_num, by rw [hkn.out]; exact hO2, hg3⟩
        case measure => simp [intOf]; omega
    · obtain rfl : j = 28 := by omega
      have HO1 := Lib.hid hOw
      rw [← HE.out] at HO1
      obtain ⟨A, c, hs⟩ := ints_slice HO1.out.ints
      have hR28 : R.length = 28 := by rw [HE.out]; exact HLEN.out 28
      have HR28 := Lib.hid hR28
      rw [hR28] at hs
      subst hs
      clear hOw hR28
      go_wp2_with fail
      refine (HO.out _ R _ HO1.out.ints (by rw [HR28.out]; omega)).mono ?_
      rintro e w2 ⟨v2, rfl, hOv, hg2⟩
      rw [HR28.out]
      obtain ⟨A2, c2, hs2⟩ := ints_slice hOv.ints
      rw [HR28.out] at hs2
      subst hs2
      have HOV := Lib.hid hOv
      clear hOv
      have hb2 := ((hB.trans hg2).block (blk_lt HB1.out)).trans HB1.out
      have c0 : w2.cell? ⟨w.heap.size, 0, none⟩ = some (.int .i64 0) := by rw [blk_cell hb2]; rfl
      have c1 : w2.cell? ⟨w.heap.size, 1, none⟩ = some (.slice none 0 0) := by rw [blk_cell hb2]; rfl
      have f0 := blk_frozen hb2 0
      have f1 := blk_frozen hb2 1
      have HB2 := Lib.hid hb2
      have hzz := Lib.hid hB.size
      clear hb2
      go_wp2_with fail
      (try simp only [Exit.inBlock, Exit.then])
      refine bodyPost_ret (results_cell_row rfl _ _ w.heap.size _ _ _ _ rfl (blk_set (blk_set HB2.out 0 _) 1 _) Tryz.underlying63 rfl hinfo) rfl ?_
      refine ⟨_, by rw [HR28.out]; rfl, ?_, ((HG1.out.trans (hB.trans hg2)).setCell (Nat.le_refl _) _).setCell (Nat.le_refl _) _⟩
      exact OwnI.base (own_only HOV.out (((Only.refl w.heap.size w2).setCell (o := 0) (.int .i64 28)).setCell (o := 1) (.slice A2 28 c2)) (fun hh => by have := own_of_ge HOV.out hh; have := HSZ.out; have := hzz.out; omega)) (by have := HSZ.out; have := hzz.out; omega)
theorem l20Set_neg (w : World) : Calls Tryz.prog 48 #[.int .i64 (-1)] w fun e w' => e = .returned (.int .i64 268435455) ∧ w' = w := by
  have HF : Hid (∀ W, Calls Tryz.prog 47 #[.int .i64 28] W fun e w' => e = .returned (.int .i64 268435455) ∧ w' = W) := Lib.hid (fun W => l01Full_q 28 (by omega) W)
  go_enter Tryz.func48, Tryz.ntmps48
  go_wp2_with fail
  refine (HF.out _).mono ?_
  rintro e w1 ⟨rfl, rfl⟩
  go_wp2_with fail
  go_ret
  exact ⟨rfl, rfl⟩
theorem l20Set_0 (w : World) : Calls Tryz.prog 48 #[.int .i64 0] w fun e w' => e = .returned (.int .i64 0) ∧ w' = w := by
  go_enter Tryz.func48, Tryz.ntmps48
  go_wp2_with fail
  go_ret
  exact ⟨rfl, rfl⟩
theorem l20Set_odd (k : Nat) (hk : k < 27) (w : World) : Calls Tryz.prog 48 #[.int .i64 (2 * (k : Int) + 1)] w fun e w' => e = .returned (.int .i64 ((full (k + 1) : Nat) : Int)) ∧ w' = w := by
  have HF := Lib.hid (fun W => l01Full_q (k + 1) (by omega) W)
  rw [← full_cast] at HF
  have h1 : ¬ (2 * (k : Int) + 1) < 0 := by omega
  have h2 : ¬ (2 * (k : Int) + 1) = 0 := by omega
  have h3 : (2 * (k : Int) + 1).tmod 2 = 1 := by rw [Int.tmod_eq_emod_of_nonneg (by omega)]; omega
  have h4 : IntKind.i64.wrap ((2 * (k : Int) + 1) + 1) = ((2 * k + 2 : Nat) : Int) := by rw [IntKind.wrap_i64]; omega
  have h5 : (((2 * k + 2 : Nat) : Int)).tdiv 2 = ((k + 1 : Nat) : Int) := by rw [Int.tdiv_eq_ediv_of_nonneg (by omega)]; omega
  have h6 : (2 * (k : Int) + 1) % 2 = 1 := by omega
  have h7 : (((2 * k + 2 : Nat) : Int)) / 2 = ((k + 1 : Nat) : Int) := by omega
  have hk2 : (2 * (k : Int) + 1) ≤ 53 := by omega
  have hk3 : k + 1 ≤ 27 := by omega
  generalize full (k + 1) = R at *
  generalize hQ : (2 * (k : Int) + 1) = q at *
  generalize 2 * k + 2 = r at *
  generalize k + 1 = m at *
  clear hQ
  go_enter Tryz.func48, Tryz.ntmps48
  go_wp2_with fail
  refine (HF.out _).mono ?_
  rintro e w1 ⟨rfl, rfl⟩
  go_wp2_with fail
  go_ret
  exact ⟨rfl, rfl⟩
set_option maxRecDepth 20000 in
theorem l20Set_even (k : Nat) (hk : k < 26) (w : World) : Calls Tryz.prog 48 #[.int .i64 (2 * (k : Int) + 2)] w fun e w' => e = .returned (.int .i64 ((full k ||| 2 ^ (k + 1) : Nat) : Int)) ∧ Grew w w' := by
  have HF := Lib.hid (fun W => l01Full_q k (by omega) W)
  rw [← full_cast] at HF
  have HO := Lib.hid (fun W => l01One_q (k + 1) (by omega) W)
  have hpl : (2 : Nat) ^ (k + 1) ≤ 2 ^ 28 := Nat.pow_le_pow_right (by omega) (by omega)
  have hfl := full_lt k
  have hpl1 : (2 : Nat) ^ k ≤ 2 ^ 28 := Nat.pow_le_pow_right (by omega) (by omega)
  have ho := or_i64 (full k) (2 ^ (k + 1)) (by omega) (by omega)
  have h1 : ¬ (2 * (k : Int) + 2) < 0 := by omega
  have h2 : ¬ (2 * (k : Int) + 2) = 0 := by omega
  have h3 : (2 * (k : Int) + 2).tmod 2 = 0 := by rw [Int.tmod_eq_emod_of_nonneg (by omega)]; omega
  have h4 : (2 * (k : Int) + 2).tdiv 2 = ((k + 1 : Nat) : Int) := by rw [Int.tdiv_eq_ediv_of_nonneg (by omega)]; omega
  have h5 : (2 * (k : Int) + 2) / 2 = ((k + 1 : Nat) : Int) := by omega
  have h6 : (2 * (k : Int) + 2) % 2 = 0 := by omega
  have h8 : IntKind.i64.wrap (((k + 1 : Nat) : Int) - 1) = (k : Int) := by rw [IntKind.wrap_i64]; omega
  have hk2 : (2 * (k : Int) + 2) ≤ 53 := by omega
  have hk3 : k + 1 ≤ 27 := by omega
  generalize full k ||| 2 ^ (k + 1) = R at *
  generalize hF : full k = f at *
  generalize hP : (2 ^ (k + 1) : Nat) = p at *
  generalize hQ : (2 * (k : Int) + 2) = q at *
  generalize hM : k + 1 = m at *
  have hgr := Grew.refl w
  have hdr := (Grew.refl w).drew
  clear hQ hM hP hF
  go_enter Tryz.func48, Tryz.ntmps48
  go_wp2_with fail
  refine (HF.out _).mono ?_
  rintro e w1 ⟨rfl, rfl⟩
  go_wp2_with fail
  refine (HO.out _).mono ?_
  rintro e w1 ⟨rfl, rfl⟩
  go_wp2_with fail
  go_ret
  exact ⟨rfl, Grew.refl _⟩
/-- l20Set gives the set of an index from -1 to 53. -/
theorem l20Set_c (i : Int) (h1 : -1 ≤ i) (h2 : i < 54) (w : World) : Calls Tryz.prog 48 #[.int .i64 i] w fun e w' => e = .returned (.int .i64 ((isetI i : Nat) : Int)) ∧ Grew w w' := by
  by_cases hn : i = -1
  · subst hn
    exact (l20Set_neg w).mono fun e w' h => ⟨h.1, h.2 ▸ Grew.refl _⟩
  by_cases h0 : i = 0
  · subst h0
    exact (l20Set_0 w).mono fun e w' h => ⟨h.1, h.2 ▸ Grew.refl _⟩
  by_cases ho : i % 2 = 1
  · obtain ⟨k, rfl⟩ : ∃ k : Nat, i = 2 * (k : Int) + 1 := ⟨(i / 2).toNat, by omega⟩
    refine (l20Set_odd k (by omega) w).mono fun e w' h => ⟨?_, h.2 ▸ Grew.refl _⟩
    rw [h.1]
    have e1 : isetI (2 * (k : Int) + 1) = full (k + 1) := by
      rw [show 2 * (k : Int) + 1 = ((2 * k + 1 : Nat) : Int) by omega, isetI_nat]
      unfold iset
      rw [if_pos (by omega)]
      congr 1
      omega
    rw [e1]
  · obtain ⟨k, rfl⟩ : ∃ k : Nat, i = 2 * (k : Int) + 2 := ⟨(i / 2 - 1).toNat, by omega⟩
    refine (l20Set_even k (by omega) w).mono fun e w' h => ⟨?_, h.2⟩
    rw [h.1]
    have e1 : isetI (2 * (k : Int) + 2) = full k ||| 2 ^ (k + 1) := by
      rw [show 2 * (k : Int) + 2 = ((2 * k + 2 : Nat) : Int) by omega, isetI_nat]
      unfold iset
      rw [if_neg (by omega), if_neg (by omega)]
      congr 2 <;> omega
    rw [e1]
set_option maxRecDepth 20000 in
theorem l20Index_c (d : Int) (h1 : -1 ≤ d) (h2 : d < 54) (w : World) : Calls Tryz.prog 22 #[.int .i64 ((isetI d : Nat) : Int)] w fun e w' => e = .returned (.int .i64 d) ∧ Grew w w' := by
  have HI := Lib.hid (fun i (a : -1 ≤ i) (b : i < 54) W => l20Set_c i a b W)
  have HJ := Lib.hid (fun i (a : -1 ≤ i) (b : i < 54) => @isetI_inj i d a b h1 h2)
  have HF : Hid (∀ W, Calls Tryz.prog 47 #[.int .i64 28] W fun e w' => e = .returned (.int .i64 268435455) ∧ w' = W) := Lib.hid (fun W => l01Full_q 28 (by omega) W)
  by_cases hd : d = -1
  · subst hd
    have e1 : isetI (-1) = 268435455 := by decide
    rw [e1]
    clear e1 h1 h2 HI HJ
    go_enter Tryz.func22, Tryz.ntmps22
    go_wp2_with fail
    refine (HF.out _).mono ?_
    rintro e w1 ⟨rfl, rfl⟩
    go_wp2_with fail
    go_ret
    exact ⟨rfl, Grew.refl _⟩
  obtain ⟨S, hS⟩ : ∃ S, S = isetI d := ⟨_, rfl⟩
  have hne : ¬ ((S : Nat) : Int) = 268435455 := by
    intro e
    have e28 : isetI (-1) = 268435455 := by decide
    have := isetI_inj (i := d) (j := -1) h1 h2 (by omega) (by omega) (by rw [← hS, e28]; omega)
    exact hd this
  rw [← hS]
  have HS := Lib.hid hS
  have hnb : (((S : Nat) : Int) == 268435455) = false := by simpa using hne
  have hd0 : 0 ≤ d := by omega
  clear hS
  go_enter Tryz.func22, Tryz.ntmps22
  go_wp2_with fail
  refine (HF.out _).mono ?_
  rintro e w1 ⟨rfl, rfl⟩
  go_wp2_with fail
  go_loopw [3] (fun i wr => ∃ k : Int, 0 ≤ k ∧ k ≤ d ∧ i = .int .i64 k ∧ Grew w1 wr) (fun i _ => (54 - intOf i).toNat)
  case atStart => exact ⟨0, by omega, hd0, rfl, Grew.refl _⟩
  case round =>
    obtain ⟨k, hk, hkd, rfl, hB⟩ := hrel
    have hi := Lib.hid (HI.out k (by omega) (by omega))
    have hlt : k < 54 := by omega
    by_cases he : k = d
    · have e : isetI k = S := by rw [he, HS.out]
      rw [e] at hi
      have HE := Lib.hid he
      clear he e
      go_wp2_with fail
      refine (hi.out _).mono ?_
      rintro e w2 ⟨rfl, hg2⟩
      go_wp2_with fail
      go_ret
      exact ⟨by rw [← HE.out]; rfl, hB.trans hg2⟩
    · have hne : ¬ ((isetI k : Nat) : Int) = ((S : Nat) : Int) := fun e => he (HJ.out k (by omega) (by omega) (by rw [← HS.out]; omega))
      have hlt2 : k < d := by omega
      generalize isetI k = z at *
      clear he
      go_wp2_with fail
      refine (hi.out _).mono ?_
      rintro e w2 ⟨rfl, hg2⟩
      go_wp2_with fail
      go_roundw
      case rel => exact ⟨k + 1, by omega, by omega, by go_num, hB.trans hg2⟩
      case measure => simp [intOf]; omega
theorem zs_lv : zs lv = [1, 0, 0, 0, 0, 0] := rfl
theorem lit6 (w : World) (t : TypeId) (ht : t = 2) : Ints (w.alloc (.cells #[.int .i64 1, .int .i64 0, .int .i64 0, .int .i64 0, .int .i64 0, .int .i64 0] t)) (.slice (some ⟨w.heap.size, 0, none⟩) 6 6) (zs lv) := by
  subst ht
  rw [zs_lv]
  exact OwnI.ints (B := w.heap.size) (World.ownsRow_lit (e := 2) (size := 1) w #[.int .i64 1, .int .i64 0, .int .i64 0, .int .i64 0, .int .i64 0, .int .i64 0] 6 (Nat.le_refl _) (by decide) rfl)
theorem l20Value_c (va : Value) (t : Tree) (w : World) (ha : Nodes w va (Fm.enc t)) (ht : FmOk t) (ho : Fm.One t) :
    Calls Tryz.prog 23 #[va, .int .i64 1] w fun e w' => e = .returned (.int .i64 ((isetI (nix (Fm.nc t)) : Nat) : Int)) ∧ Grew w w' := by
  rw [← fv_lad ho ht.1]
  have HL := Lib.hid l20Ladder_c
  have HF := Lib.hid (fun v u W (hv : Ints W v (zs lad)) (hu : Ints W u (zs lv)) (hW : Grew w W) => force_ok lad lv lad_rl lv_lt rfl t v u va W hv hu (ha.grew hW) ht)
  rw [lad_len] at HF
  obtain ⟨A, c, rfl⟩ := nodes_slice ha
  clear ha ht ho
  generalize fv lad lv t = R at *
  generalize (Fm.enc t).length = n at *
  unfold GivesPs at HL
  have hl28 : (zs lad).length = 28 := by rw [zs_len, lad_len]
  rw [hl28] at HL
  clear hl28
  go_enter Tryz.func23, Tryz.ntmps23
  go_wp2_with fail
  refine (HL.out _).mono ?_
  rintro e w1 ⟨v1, rfl, hO1, hg1⟩
  have hl := (OwnI.ints hO1)
  obtain ⟨A2, c2, hv⟩ := ints_slice hl
  rw [zs_len, lad_len] at hv
  subst hv
  have KF := Lib.hid (fun u W (hu : Ints W u (zs lv)) (hW : Grew w1 W) => HF.out _ u W (hl.grew hW) hu (hg1.trans hW))
  have HG1 := Lib.hid hg1
  clear hl hO1 hg1 HF
  go_wp2_with fail
  refine (KF.out _ _ (lit6 _ _ rfl) ((Grew.refl _).alloc _)).mono ?_
  rintro e w2 ⟨rfl, hg2⟩
  go_wp2_with fail
  go_ret
  exact ⟨rfl, HG1.out.trans (((Grew.refl _).alloc _).trans hg2)⟩
end Go.Proofs.YtefkgomecpnpbaaGreat

/- The source of the drawn inputs: l01Next. -/
namespace Go.Proofs.YtefkgomecpnpbaaGreat
open Go.RowKit

/-- The bytes that the source reads, in a block before block g. -/
def Code (w : World) (g : Nat) (v : Value) (N : Nat) : Prop :=
  N ≤ 4096 ∧ (∃ A c, v = .slice A N c) ∧ (0 < N → ∃ b o c, v = .slice (some ⟨b, o, none⟩) N c ∧ b < g ∧ N ≤ c ∧ c ≤ 9223372036854775807 ∧ ∀ j, j < N → ∃ x : Int, 0 ≤ x ∧ x ≤ 255 ∧ w.cell? ⟨b, o + j, none⟩ = some (.int .u8 x))
theorem Code.only {w w' : World} {g : Nat} {v : Value} {N : Nat} (h : Code w g v N) (hg : g < w.heap.size) (ho : Only g w w') : Code w' g v N := by
  obtain ⟨h1, h2, h3⟩ := h
  refine ⟨h1, h2, fun hp => ?_⟩
  obtain ⟨b, o, c, e, hb, hc, hm, hx⟩ := h3 hp
  refine ⟨b, o, c, e, hb, hc, hm, fun j hj => ?_⟩
  obtain ⟨x, x0, x1, hcell⟩ := hx j hj
  exact ⟨x, x0, x1, (ho.cell (p := ⟨b, o + j, none⟩) (by show b < _; omega) (by show b ≠ g; omega)).trans hcell⟩

def Src (w : World) (g : Nat) (v : Value) (N : Nat) : Prop :=
  Code w g v N ∧ ∃ (i : Nat) (h : Int), i ≤ N ∧ 0 ≤ h ∧ h ≤ 18446744073709551615 ∧ w.heap[g]? = some (.cells #[v, .int .i64 i, .int .u64 h] 57 (0, 0))
theorem Src.lt {w : World} {g : Nat} {v : Value} {N : Nat} (h : Src w g v N) : g < w.heap.size := by
  obtain ⟨_, _, _, _, _, _, h⟩ := h
  exact blk_lt h
theorem Src.grew {w w' : World} {g : Nat} {v : Value} {N : Nat} (h : Src w g v N) (hg : Grew w w') : Src w' g v N := by
  have hl := h.lt
  obtain ⟨h1, i, x, h2, h3, h4, h5⟩ := h
  exact ⟨h1.only hl hg.only, i, x, h2, h3, h4, (hg.block hl).trans h5⟩

theorem small_hash (X : Int) (h0 : 0 ≤ X) (h1 : X ≤ 18446744073709551615) : 0 ≤ wrap64 (bits .and .u64 (X / 8589934592) 16777215) ∧ wrap64 (bits .and .u64 (X / 8589934592) 16777215) ≤ 16777215 := by
  have h := bits_mask .u64 63 (by decide) Go.ConcN.wraps_u64_63 24 (by decide) (X / 8589934592) (by omega) (by omega)
  have e : ((2 : Int) ^ 24 - 1) = 16777215 := by decide
  have e2 : ((2 : Int) ^ 24) = 16777216 := by decide
  rw [e, e2] at h
  rw [h]
  unfold wrap64
  omega

theorem l01Next_c (g : Nat) (v : Value) (N : Nat) (n : Int) (w : World) (h : Src w g v N) (hn : n ≤ 9223372036854775807) :
    Calls Tryz.prog 36 #[.pointer (some ⟨g, 0, none⟩), .int .i64 n] w fun e w' => ∃ r : Int, e = .returned (.int .i64 r) ∧ 0 ≤ r ∧ (1 ≤ n → r < n) ∧ (n < 1 → r = 0) ∧ Src w' g v N ∧ Only g w w' := by
  by_cases h1 : n < 1
  · have HS := Lib.hid h
    clear h
    go_enter Tryz.func36, Tryz.ntmps36
    go_wp2_with fail
    go_ret
    exact ⟨_, rfl, by omega, fun h => absurd h (by omega), fun _ => rfl, HS.out, Only.refl _ _⟩
  obtain ⟨hC, i, hh, hi, hh0, hh1, hb⟩ := h
  have c0 : w.cell? ⟨g, 0, none⟩ = some v := by rw [blk_cell hb]; rfl
  have c1 : w.cell? ⟨g, 1, none⟩ = some (.int .i64 i) := by rw [blk_cell hb]; rfl
  have c2 : w.cell? ⟨g, 2, none⟩ = some (.int .u64 hh) := by rw [blk_cell hb]; rfl
  have f1 := blk_frozen hb 1
  have f2 := blk_frozen hb 2
  obtain ⟨A, c, rfl⟩ := hC.2.1
  have hN := hC.1
  have HB := Lib.hid hb
  have HC := Lib.hid hC
  clear hb hC
  go_enter Tryz.func36, Tryz.ntmps36
  go_wp2_with fail
  have hX0 : 0 ≤ IntKind.u64.wrap (IntKind.u64.wrap (hh * 6364136223846793005) + 1442695040888963407) := by rw [IntKind.wrap_u64]; omega
  have hX1 : IntKind.u64.wrap (IntKind.u64.wrap (hh * 6364136223846793005) + 1442695040888963407) ≤ 18446744073709551615 := by rw [IntKind.wrap_u64]; omega
  generalize IntKind.u64.wrap (IntKind.u64.wrap (hh * 6364136223846793005) + 1442695040888963407) = X at *
  obtain ⟨hY0, hY1⟩ := small_hash X hX0 hX1
  generalize wrap64 (bits .and .u64 (X / 8589934592) 16777215) = Y at *
  have hb1 := blk_set HB.out 2 (.int .u64 X)
  have ho1 := (Only.refl g w).setCell (o := 2) (.int .u64 X)
  have hC1 := HC.out.only (blk_lt HB.out) ho1
  clear c0 c1 c2 f1 f2 HB HC
  generalize w.setCell ⟨g, 2, none⟩ (.int .u64 X) = w1 at *
  have c0 : w1.cell? ⟨g, 0, none⟩ = some (.slice A N c) := by rw [blk_cell hb1]; rfl
  have c1 : w1.cell? ⟨g, 1, none⟩ = some (.int .i64 i) := by rw [blk_cell hb1]; rfl
  have f1 := blk_frozen hb1 1
  have HB := Lib.hid hb1
  clear hb1
  by_cases hlt : i < N
  · obtain ⟨b, o, c', e, hbg, hc, hm, hx⟩ := hC1.2.2 (by omega)
    obtain ⟨x, hx0, hx1, k1⟩ := hx i hlt
    obtain ⟨rfl, rfl⟩ : A = some ⟨b, o, none⟩ ∧ c = c' := by simpa using e
    have HC := Lib.hid hC1
    clear hC1 e hx
    go_quiet (fail)
    go_wp2_with fail
    go_quiet (fail)
    go_wp2_with fail
    go_ret
    exact ⟨_, rfl, Int.emod_nonneg _ (by omega), fun _ => Int.emod_lt_of_pos _ (by omega), fun h => absurd h (by omega), ⟨HC.out.only (blk_lt HB.out) (Only.setCell ((Only.refl g w1).drewN _) _), i + 1, X, by omega, hX0, hX1, blk_set (w := w1.drewN _) HB.out 1 _⟩, ho1.trans (Only.setCell ((Only.refl g w1).drewN _) _)⟩
  · have HC := Lib.hid hC1
    clear hC1
    go_quiet (fail)
    go_wp2_with fail
    go_ret
    exact ⟨_, rfl, Int.emod_nonneg _ (by omega), fun _ => Int.emod_lt_of_pos _ (by omega), fun h => absurd h (by omega), ⟨HC.out.only (blk_lt HB.out) ((Only.refl g w1).drewN _), i, X, by omega, hX0, hX1, HB.out⟩, ho1.drewN _⟩
end Go.Proofs.YtefkgomecpnpbaaGreat

/- The drawn formula: l02Draw gives a tree of at most as many nodes as told. -/
namespace Go.Proofs.YtefkgomecpnpbaaGreat
open Go.RowKit
open Fm (Nd)

theorem isEnc_vari {r : Int} (h0 : 0 ≤ r) (h1 : r < 6) : Fm.IsEnc (Fm.vari r) :=
  ⟨.var ⟨r.toNat, by omega⟩, by simp [Fm.vari, Fm.enc, Int.toNat_of_nonneg h0]⟩

/-- What the draw gives. -/
def Drawn (w : World) (g : Nat) (cv : Value) (N : Nat) (size : Int) (e : Ending) (w' : World) : Prop :=
  ∃ v xs, e = .returned v ∧ Own w' w.heap.size v xs ∧ Fm.IsEnc xs ∧ (xs.length : Int) ≤ size ∧ Src w' g cv N ∧ Only g w w'

theorem own_src {w w' : World} {B g : Nat} {v : Value} {xs : List Nd} (h : Own w B v xs) (hg : g < B) (ho : Only g w w') : Own w' B v xs :=
  own_only h ho (fun he => by have := own_of_ge h he; omega)

theorem l02Draw_g (g : Nat) (cv : Value) (N : Nat) (vs : Int) (hv0 : 1 ≤ vs) (hv1 : vs ≤ 6) : ∀ (m : Nat) (size : Int) (w : World), 1 ≤ size → size ≤ m → m ≤ 1000 → Src w g cv N →
    Calls Tryz.prog 39 #[.pointer (some ⟨g, 0, none⟩), .int .i64 size, .int .i64 vs, .bool true] w (Drawn w g cv N size) := by
  intro m
  induction m with
  | zero => intro size w h1 h2; omega
  | succ m ih =>
    intro size w h1 h2 hm hS
    have IH := Lib.hid (fun size w a b c => ih size w a b (by omega) c)
    clear ih
    have hgs := hS.lt
    by_cases hsz : size ≤ 2
    · have HSa := Lib.hid hS
      have hoa := Only.refl g w
      clear hS
      go_enter Tryz.func39, Tryz.ntmps39
      go_wp2_with fail
      refine (l01Next_c g cv N 8 _ HSa.out (by omega)).mono ?_
      rintro e wb ⟨r2, rfl, _, _, _, hSb, hob⟩
      have HSb := Lib.hid hSb
      have hab := hoa.trans hob
      clear hSb hob
      cases hr2 : (r2 == 0) with
      | true =>
        go_wp2_with fail
        refine (l02False_c _).mono ?_
        rintro e wc ⟨v, rfl, ho, hg⟩
        go_wp2_with fail
        go_ret
        exact ⟨_, _, rfl, ho.base hab.size, Fm.isEnc_falsum, by simp [Fm.falsum]; omega, HSb.out.grew hg, hab.grew hg⟩
      | false =>
        go_wp2_with fail
        refine (l01Next_c g cv N vs _ HSb.out (by omega)).mono ?_
        rintro e wc ⟨r3, rfl, hr30, hr31, _, hSc, hoc⟩
        have HSc := Lib.hid hSc
        have hac := hab.trans hoc
        clear hSc hoc
        go_wp2_with fail
        refine (l02Var_c r3 _).mono ?_
        rintro e wd ⟨v, rfl, ho, hg⟩
        go_wp2_with fail
        go_ret
        exact ⟨_, _, rfl, ho.base hac.size, isEnc_vari hr30 (by have := hr31 hv0; omega), by simp [Fm.vari]; omega, HSc.out.grew hg, hac.grew hg⟩
    have HS := Lib.hid hS
    clear hS
    go_enter Tryz.func39, Tryz.ntmps39
    go_wp2_with fail
    refine (l01Next_c g cv N 9 _ HS.out (by omega)).mono ?_
    rintro e wa ⟨r1, rfl, _, _, _, hSa, hoa⟩
    have HSa := Lib.hid hSa
    clear hSa HS
    cases hr1 : (r1 == 0) with
    | true =>
      go_wp2_with fail
      refine (l01Next_c g cv N 8 _ HSa.out (by omega)).mono ?_
      rintro e wb ⟨r2, rfl, _, _, _, hSb, hob⟩
      have HSb := Lib.hid hSb
      have hab := hoa.trans hob
      clear hSb hob
      cases hr2 : (r2 == 0) with
      | true =>
        go_wp2_with fail
        refine (l02False_c _).mono ?_
        rintro e wc ⟨v, rfl, ho, hg⟩
        go_wp2_with fail
        go_ret
        exact ⟨_, _, rfl, ho.base hab.size, Fm.isEnc_falsum, by simp [Fm.falsum]; omega, HSb.out.grew hg, hab.grew hg⟩
      | false =>
        go_wp2_with fail
        refine (l01Next_c g cv N vs _ HSb.out (by omega)).mono ?_
        rintro e wc ⟨r3, rfl, hr30, hr31, _, hSc, hoc⟩
        have HSc := Lib.hid hSc
        have hac := hab.trans hoc
        clear hSc hoc
        go_wp2_with fail
        refine (l02Var_c r3 _).mono ?_
        rintro e wd ⟨v, rfl, ho, hg⟩
        go_wp2_with fail
        go_ret
        exact ⟨_, _, rfl, ho.base hac.size, isEnc_vari hr30 (by have := hr31 hv0; omega), by simp [Fm.vari]; omega, HSc.out.grew hg, hac.grew hg⟩
    | false =>
    go_wp2_with fail
    refine (l01Next_c g cv N 3 _ HSa.out (by omega)).mono ?_
    rintro e wb ⟨r2, rfl, _, _, _, hSb, hob⟩
    have HSb := Lib.hid hSb
    have hab := hoa.trans hob
    clear hSb hob hoa HSa
    cases hr2 : (r2 == 0) with
    | true =>
      go_wp2_with fail
      refine (l01Next_c g cv N 2 _ HSb.out (by omega)).mono ?_
      rintro e wc ⟨r3, rfl, hr30, hr31, _, hSc, hoc⟩
      have HSc := Lib.hid hSc
      have hac := hab.trans hoc
      have hr32 := hr31 (by omega)
      clear hSc hoc hr31
      go_wp2_with fail
      refine (IH.out (size - 1) _ (by omega) (by omega) HSc.out).mono ?_
      rintro e wd ⟨v, xs, rfl, ho, he, hl, hSd, hod⟩
      have HSd := Lib.hid hSd
      clear hSd
      have HE := Lib.hid he
      clear he
      go_wp2_with fail
      refine (l02Pre_c _ v xs _ ho.nodes (by omega)).mono ?_
      rintro e we ⟨v2, rfl, ho2, hg2⟩
      go_wp2_with fail
      go_ret
      exact ⟨_, _, rfl, ho2.base (hac.trans hod).size, Fm.isEnc_pre (by omega) HE.out, by simp [Fm.pre]; omega, HSd.out.grew hg2, (hac.trans hod).grew hg2⟩
    | false =>
    go_wp2_with fail
    refine (l01Next_c g cv N 6 _ HSb.out (by omega)).mono ?_
    rintro e wc ⟨r3, rfl, _, _, _, hSc, hoc⟩
    have HSc := Lib.hid hSc
    have hac := hab.trans hoc
    clear hSc hoc hab HSb
    cases hr3 : (r3 == 0) with
    | true =>
      go_wp2_with fail
      refine (IH.out (size - 2) _ (by omega) (by omega) HSc.out).mono ?_
      rintro e wd ⟨v, xs, rfl, ho, he, hl, hSd, hod⟩
      have HSd := Lib.hid hSd
      clear hSd
      have HE := Lib.hid he
      clear he
      go_wp2_with fail
      refine (l02Not_c v xs _ ho.nodes (by omega)).mono ?_
      rintro e we ⟨v2, rfl, ho2, hg2⟩
      go_wp2_with fail
      go_ret
      exact ⟨_, _, rfl, ho2.base (hac.trans hod).size, Fm.isEnc_join (.inr (.inr rfl)) HE.out Fm.isEnc_falsum, by simp [Fm.neg, Fm.join, Fm.falsum]; omega, HSd.out.grew hg2, (hac.trans hod).grew hg2⟩
    | false =>
    go_wp2_with fail
    refine (l01Next_c g cv N (size - 2) _ HSc.out (by omega)).mono ?_
    rintro e wd ⟨r4, rfl, hr40, hr41, _, hSd, hod⟩
    have HSd := Lib.hid hSd
    have had := hac.trans hod
    have hr42 := hr41 (by omega)
    clear hSd hod hac HSc hr41
    go_wp2_with fail
    refine (IH.out (1 + r4) _ (by omega) (by omega) HSd.out).mono ?_
    rintro e we ⟨v1, xs, rfl, ho1, he1, hl1, hSe, hoe⟩
    have HSe := Lib.hid hSe
    have HE1 := Lib.hid he1
    have hsize := had.size
    have hae := had.trans hoe
    have HO1 := Lib.hid ho1
    clear hSe he1 hoe ho1
    go_wp2_with fail
    refine (l01Next_c g cv N 3 _ HSe.out (by omega)).mono ?_
    rintro e wf ⟨r5, rfl, hr50, hr51, _, hSf, hof⟩
    have HSf := Lib.hid hSf
    have HO2 := Lib.hid (own_src HO1.out (by omega) hof)
    have haf := hae.trans hof
    have hr52 := hr51 (by omega)
    clear hSf hof HO1 HSe hr51
    go_wp2_with fail
    refine (IH.out (size - 1 - (1 + r4)) _ (by omega) (by omega) HSf.out).mono ?_
    rintro e wg ⟨v2, ys, rfl, ho2, he2, hl2, hSg, hog⟩
    have HSg := Lib.hid hSg
    have HE2 := Lib.hid he2
    have hO3 := own_src HO2.out (by omega) hog
    have hag := haf.trans hog
    clear hSg he2 hog HSf HO2
    go_wp2_with fail
    refine (l02Pair_c _ v1 v2 xs ys _ hO3.nodes ho2.nodes (by omega)).mono ?_
    rintro e wh ⟨v3, rfl, ho3, hg3⟩
    go_wp2_with fail
    go_ret
    exact ⟨_, _, rfl, ho3.base hag.size, Fm.isEnc_join (by omega) HE1.out HE2.out, by simp [Fm.join]; omega, HSg.out.grew hg3, hag.grew hg3⟩
theorem l02Draw_c (g : Nat) (cv : Value) (N : Nat) : ∀ (m : Nat) (size : Int) (w : World), 1 ≤ size → size ≤ m → m ≤ 1000 → Src w g cv N →
    Calls Tryz.prog 39 #[.pointer (some ⟨g, 0, none⟩), .int .i64 size, .int .i64 6, .bool true] w (Drawn w g cv N size) := l02Draw_g g cv N 6 (by omega) (by omega)
end Go.Proofs.YtefkgomecpnpbaaGreat

/- The tail of a list of nodes. -/
namespace Go.Proofs.YtefkgomecpnpbaaGreat
open Go.RowKit
open Fm (Nd)

theorem nodes_tail {w : World} {b o n c : Nat} {xs : List Nd} (h : Nodes w (.slice (some ⟨b, o, none⟩) n c) xs) (i : Nat) (hi : i ≤ n) (hn : n ≤ c) (hx : xs.length = n) : Nodes w (.slice (if c = i then some ⟨b, o, none⟩ else some ⟨b, o + i * 2, none⟩) (n - i) (c - i)) (xs.drop i) := by
  obtain ⟨h1, h2, h3⟩ := h
  have hl : (xs.drop i).length = n - i := by rw [List.length_drop]; omega
  unfold Nodes
  rw [hl]
  refine ⟨by rw [cells_length, hl], by omega, ?_⟩
  rcases h3 with ⟨h4, _⟩ | ⟨b', o', c', h4, h5, h6, h7, h8⟩
  · cases h4
  · obtain ⟨⟨rfl, rfl⟩, _, rfl⟩ : (b = b' ∧ o = o') ∧ n = xs.length ∧ c = c' := by simpa using h4
    refine .inr ⟨b, if c = i then o else o + i * 2, c - i, by split <;> rfl, by omega, by omega, h7, fun j u hu => ?_⟩
    have hj : j < (cells (xs.drop i)).length := (List.getElem?_eq_some_iff.1 hu).1
    rw [cells_length, hl] at hj
    rw [if_neg (by omega)]
    have e : cells xs = cells (xs.take i) ++ cells (xs.drop i) := by rw [← cells_append, List.take_append_drop]
    have hk : (cells (xs.take i)).length = i * 2 := by rw [cells_length, List.length_take]; congr 1; omega
    have := h8 (i * 2 + j) u (by rw [e, List.getElem?_append_right (by omega), hk]; simpa using hu)
    rw [Nat.add_assoc]
    exact this

end Go.Proofs.YtefkgomecpnpbaaGreat

/- Drawn lists of nodes: l01Pick, l02Bend, l02Any give an own row of nodes that isn't long; what it holds does not matter. -/
namespace Go.Proofs.YtefkgomecpnpbaaGreat
open Go.RowKit
open Fm (Nd)

theorem l01Pick_c (g : Nat) (cv : Value) (N : Nat) (b : Nat) (w : World) (h : Src w g cv N) (hb : b < w.heap.size) (hne : b ≠ g) (hc : ∀ j, j < 5 → ∃ x : Int, w.cell? ⟨b, j, none⟩ = some (.int .i64 x)) :
    Calls Tryz.prog 95 #[.pointer (some ⟨g, 0, none⟩), .slice (some ⟨b, 0, none⟩) 5 5] w fun e w' => ∃ r : Int, e = .returned (.int .i64 r) ∧ Src w' g cv N ∧ Only g w w' := by
  have HS := Lib.hid h
  have HC := Lib.hid hc
  clear h hc
  go_enter Tryz.func95, Tryz.ntmps95
  go_wp2_with fail
  refine (l01Next_c g cv N 5 _ HS.out (by omega)).mono ?_
  rintro e w1 ⟨r, rfl, hr0, hr1, _, hS1, ho1⟩
  have hr2 := hr1 (by omega)
  obtain ⟨k, rfl⟩ : ∃ k : Nat, r = (k : Int) := ⟨r.toNat, by omega⟩
  obtain ⟨x, hx⟩ := HC.out k (by omega)
  have hx1 := (ho1.cell (p := ⟨b, k, none⟩) hb hne).trans hx
  have HS1 := Lib.hid hS1
  clear hx hS1 hr1
  go_wp2_with fail
  go_ret
  exact ⟨_, rfl, HS1.out, ho1⟩

/-- Stores into an own row. -/
theorem cells_set0 {cur : Array Value} {xs : List Nd} {k : Nat} {a : Int} (hk : k < xs.length) (hs : xs.length * 2 ≤ cur.size)
    (h : ∀ i, i < xs.length → cur[i * 2]? = some (.int .i64 (kd xs i)) ∧ cur[i * 2 + 1]? = some (.int .i64 (sy xs i))) :
    ∀ i, i < (xs.set k (a, sy xs k)).length → (cur.setIfInBounds (k * 2) (.int .i64 a))[i * 2]? = some (.int .i64 (kd (xs.set k (a, sy xs k)) i)) ∧ (cur.setIfInBounds (k * 2) (.int .i64 a))[i * 2 + 1]? = some (.int .i64 (sy (xs.set k (a, sy xs k)) i)) := by
  intro i hi
  rw [List.length_set] at hi
  obtain ⟨h1, h2⟩ := h i hi
  simp only [Array.getElem?_setIfInBounds]
  by_cases he : k = i
  · subst he
    rw [if_pos rfl, if_pos (by omega), if_neg (by omega), h2]
    simp [kd, sy, List.getD, hk]
  · rw [if_neg (by omega), if_neg (by omega), h1, h2]
    simp [kd, sy, List.getD, he]
theorem cells_set1 {cur : Array Value} {xs : List Nd} {k : Nat} {a : Int} (hk : k < xs.length) (hs : xs.length * 2 ≤ cur.size)
    (h : ∀ i, i < xs.length → cur[i * 2]? = some (.int .i64 (kd xs i)) ∧ cur[i * 2 + 1]? = some (.int .i64 (sy xs i))) :
    ∀ i, i < (xs.set k (kd xs k, a)).length → (cur.setIfInBounds (k * 2 + 1) (.int .i64 a))[i * 2]? = some (.int .i64 (kd (xs.set k (kd xs k, a)) i)) ∧ (cur.setIfInBounds (k * 2 + 1) (.int .i64 a))[i * 2 + 1]? = some (.int .i64 (sy (xs.set k (kd xs k, a)) i)) := by
  intro i hi
  rw [List.length_set] at hi
  obtain ⟨h1, h2⟩ := h i hi
  simp only [Array.getElem?_setIfInBounds]
  by_cases he : k = i
  · subst he
    rw [if_neg (by omega), if_pos rfl, if_pos (by omega), h1]
    simp [kd, sy, List.getD, hk]
  · rw [if_neg (by omega), if_neg (by omega), h1, h2]
    simp [kd, sy, List.getD, he]

theorem step_apprdN {P : Program} (w : World) {ops : Array Oper} {o : Oper} {a : Act} {K : Act → World → Prop} {Q : Exit → Act → World → Prop} {E : Prop} (hgd : o.guard = none) (s x : Operand) (t : TypeId)
    (ho : o.op = .call { callee := .builtin .append, args := #[s, x], argTypes := #[t, t] })
    (base : Nat) (e : TypeId) (i : TypeInfo) (z : Value) (size bytes : Nat) (ht : P.underlying t = some (.slice e)) (hi : P.info? e = some i) (hz : i.zero = some z)
    (hsize : i.size = size) (hby : i.bytes = bytes) (hzs : z.cells.size = size) (hsz : 0 < size)
    (v : Value) (n : Nat) (xs : List Value) (hs : a.eval s = v) (hown : w.ownsRow base e size v n xs)
    (vx : Value) (m : Nat) (news : List Value) (hx : a.eval x = vx) (hr : Rd w size vx m news) (h1 : ∀ u ∈ news, u.oneCell' = true)
    (h63 : n + m ≤ maxLen) (hbytes : (n + m) * bytes ≤ 140737488355328) (hbase : base ≤ w.heap.size)
    (h : ∀ v' w', w'.ownsRow base e size v' (n + m) (xs ++ news) → w.grownBy w' v.ownBlock → K (a.put o.dst v') w') :
    if Region.wanted o (yielded ops a.tmps) = true then Oper.wp P o a w K Q else E := by
  have hw : Region.wanted o (yielded ops a.tmps) = true := by simp [Region.wanted, hgd]
  rw [if_pos hw]
  obtain ⟨hl, _, hr⟩ := hr
  rcases hr with ⟨rfl, rfl⟩ | ⟨b, of, c, rfl, _, _, _, hc⟩
  · have hnews : news = [] := List.eq_nil_of_length_eq_zero (by simpa using hl)
    subst hnews
    have hrun := run_append_owned_none (P := P) w base t o.type e i size ht hi v n xs hown
    unfold Oper.wp execOp
    simp only [ho, resolve, invoke, builtin, Sem.run_bind, Sem.run_pure, Result.andThen_ok, List.map_toArray, List.map_cons, List.map_nil, hs, hx, hrun]
    exact h v w (by simpa using hown) (World.grownBy.refl _ _)
  · obtain ⟨v', w', hrun, h2, h3, _, _⟩ := run_append_own_at (P := P) w base t o.type e i z size bytes ht hi hz hsize hby hzs hsz v n xs hown ⟨b, of, none⟩ m c news hl (fun j u hu => by rw [Addr.add_lit]; exact hc j u hu) h1 h63 hbytes hbase
    unfold Oper.wp execOp
    simp only [ho, resolve, invoke, builtin, Sem.run_bind, Sem.run_pure, Result.andThen_ok, List.map_toArray, List.map_cons, List.map_nil, hs, hx, hrun]
    exact h v' w' h2 h3
/-- 'append(out, xs...)' as one step of a region, out an own row of nodes from block B on. -/
theorem step_appN {ops : Array Oper} {o : Oper} {a : Act} {K : Act → World → Prop} {Q : Exit → Act → World → Prop} {E : Prop} {w : World} (B : Nat) (hgd : o.guard = none) (s x : Operand)
    (ho : o.op = .call { callee := .builtin .append, args := #[s, x], argTypes := #[24, 24] })
    (v : Value) (xs : List Nd) (hs : a.eval s = v) (hown : Own w B v xs) (hB : B ≤ w.heap.size) (vx : Value) (ys : List Nd) (hx : a.eval x = vx) (hr : Nodes w vx ys) (hn : xs.length + ys.length ≤ 1099511627776)
    (h : ∀ v' w', Own w' B v' (xs ++ ys) → w.grownBy w' v.ownBlock → K (a.put o.dst v') w') : if Region.wanted o (yielded ops a.tmps) = true then Oper.wp Tryz.prog o a w K Q else E := by
  obtain ⟨i0, hi0, hz0, hz1, hz2⟩ := info_parts Tryz.infoNd
  refine step_apprdN w hgd s x _ ho B 45 i0 _ 2 16 Tryz.underlying24 hi0 hz0 hz1 hz2 rfl (by omega) v xs.length (cells xs) hs hown vx ys.length (cells ys) hx hr (cells_one ys) (big2 hn).1 (big2 hn).2 hB ?_
  intro v' w' h1 h2
  refine h v' w' ?_ h2
  unfold Own
  rw [cells_append, List.length_append]
  exact h1
theorem wpList_appN {ops : Array Oper} {rest : List Oper} {o : Oper} {a : Act} {Q : Exit → Act → World → Prop} {w : World} (B : Nat) (s x : Operand) (hgd : o.guard = none)
    (ho : o.op = .call { callee := .builtin .append, args := #[s, x], argTypes := #[24, 24] })
    (v : Value) (xs : List Nd) (hs : a.eval s = v) (hown : Own w B v xs) (hB : B ≤ w.heap.size) (vx : Value) (ys : List Nd) (hx : a.eval x = vx) (hr : Nodes w vx ys) (hn : xs.length + ys.length ≤ 1099511627776)
    (h : ∀ v' w', Own w' B v' (xs ++ ys) → w.grownBy w' v.ownBlock → wpList Tryz.prog ops Q rest (a.put o.dst v') w') : wpList Tryz.prog ops Q (o :: rest) a w := by
  obtain ⟨i0, hi0, hz0, hz1, hz2⟩ := info_parts Tryz.infoNd
  refine wpList_append_rd w hgd s x _ ho B 45 i0 _ 2 16 Tryz.underlying24 hi0 hz0 hz1 hz2 rfl (by omega) v xs.length (cells xs) hs hown vx ys.length (cells ys) hx hr (cells_one ys) (big2 hn).1 (big2 hn).2 hB ?_
  intro v' w' h1 h2 _
  refine h v' w' ?_ h2
  unfold Own
  rw [cells_append, List.length_append]
  exact h1
theorem Src.other {w w' : World} {g gb : Nat} {v : Value} {N : Nat} (h : Src w g v N) (ho : Only gb w w') (hgb : g < gb) : Src w' g v N := by
  have hl := h.lt
  obtain ⟨⟨h1, h2, h3⟩, i, x, h4, h5, h6, h7⟩ := h
  refine ⟨⟨h1, h2, fun hp => ?_⟩, i, x, h4, h5, h6, (ho.block hl (by omega)).trans h7⟩
  obtain ⟨b, o, c, e, hb, hc, hm, hx⟩ := h3 hp
  refine ⟨b, o, c, e, hb, hc, hm, fun j hj => ?_⟩
  obtain ⟨y, y0, y1, hcell⟩ := hx j hj
  exact ⟨y, y0, y1, (ho.cell (p := ⟨b, o + j, none⟩) (by show b < _; omega) (by show b ≠ gb; omega)).trans hcell⟩
theorem Only.newer {g gb : Nat} {a b c : World} (h : Only g a b) (k : Only gb b c) (hgb : a.heap.size ≤ gb) : Only g a c :=
  ⟨k.os.trans h.os, k.tape.trans h.tape, k.output.trans h.output, Nat.le_trans h.size k.size, fun i hi hne => (k.block (Nat.lt_of_lt_of_le hi h.size) (by omega)).trans (World.grownBy.block h i hi hne)⟩

theorem Src.other2 {w w' : World} {g : Nat} {v : Value} {N : Nat} {r : Option Nat} (h : Src w g v N) (ho : w.grownBy w' r) (hr : ∀ b, r = some b → g < b) : Src w' g v N := by
  cases r with
  | none => exact h.other (gb := w.heap.size) ⟨ho.os, ho.tape, ho.output, ho.size, fun i hi _ => ho.block i hi (by simp)⟩ h.lt
  | some b => exact h.other (gb := b) ho (hr b rfl)
theorem Only.newer2 {g : Nat} {a b c : World} {r : Option Nat} (h : Only g a b) (ho : b.grownBy c r) (hr : ∀ k, r = some k → a.heap.size ≤ k) : Only g a c := by
  cases r with
  | none => exact h.newer (gb := b.heap.size) ⟨ho.os, ho.tape, ho.output, ho.size, fun i hi _ => ho.block i hi (by simp)⟩ h.size
  | some k => exact h.newer (gb := k) ho (hr k rfl)

/-- What the bending gives: an own row of at most as many nodes as told. -/
def Bent (w : World) (g : Nat) (cv : Value) (N : Nat) (n : Nat) (e : Ending) (w' : World) : Prop :=
  ∃ v xs, e = .returned v ∧ Own w' w.heap.size v xs ∧ xs.length ≤ n ∧ Src w' g cv N ∧ Only g w w'

theorem l02Bend_c (g : Nat) (cv : Value) (N : Nat) (v : Value) (xs : List Nd) (w : World) (h : Src w g cv N) (hv : Nodes w v xs) (h0 : 0 < xs.length) (hn : xs.length ≤ 1000) :
    Calls Tryz.prog 66 #[.pointer (some ⟨g, 0, none⟩), v] w (Bent w g cv N (xs.length + 1)) := by
  have HS := Lib.hid h
  have hgl := h.lt
  clear h
  go_enter Tryz.func66, Tryz.ntmps66
  go_wp2_with fail
  refine (l02Own_c _ _ _ hv (by omega)).mono ?_
  rintro e w1 ⟨v1, rfl, ho1, hg1⟩
  obtain ⟨A1, c1, rfl⟩ := nodes_slice ho1.nodes
  have HO1 := Lib.hid ho1
  clear ho1
  go_wp2_with fail
  refine (l01Next_c g cv N xs.length _ (HS.out.grew hg1) (by omega)).mono ?_
  rintro e w2 ⟨r2, rfl, hr20, hr21, _, hS2, ho2⟩
  have hr22 := hr21 (by omega)
  obtain ⟨k, rfl⟩ : ∃ k : Nat, r2 = (k : Int) := ⟨r2.toNat, by omega⟩
  have hk : k < xs.length := by omega
  have HS2 := Lib.hid hS2
  clear hS2 hr21
  go_wp2_with fail
  refine (l01Next_c g cv N 5 _ HS2.out (by omega)).mono ?_
  rintro e w3 ⟨r3, rfl, hr30, hr31, _, hS3, ho3⟩
  have HS3 := Lib.hid hS3
  have hO3 := own_src HO1.out hgl (ho2.trans ho3)
  have hw3 := (hg1.only.trans ho2).trans ho3 (g := g)
  have hr32 := hr31 (by omega)
  clear hS3 HS2 HO1 ho2 ho3 hr31
  cases b0 : (r3 == 0) with
  | true =>
    go_wp2_with fail
    refine (l01Next_c g cv N 9 _ HS3.out (by omega)).mono ?_
    rintro e w4 ⟨r4, rfl, hr40, hr41, _, hS4, ho4⟩
    have hO4 := own_src hO3 hgl ho4
    have HS4 := Lib.hid hS4
    have hr42 := hr41 (by omega)
    have hw4 := hw3.trans ho4
    rcases hO4.open_ with ⟨_, rfl⟩ | ⟨gb, cb, cur, hvb, hBg, hgl4, hblk, hnc, hcm, hcs, hcell⟩
    · simp at h0
    simp only [Value.slice.injEq] at hvb
    obtain ⟨rfl, -, rfl⟩ := hvb
    have hk2 := hcell k hk
    have hcl : w4.cell? ⟨gb, k * 2, none⟩ = some (.int .i64 (kd xs k)) := by rw [blk_cell hblk]; exact hk2.1
    have hfr := blk_frozen hblk (k * 2)
    have HB := Lib.hid hblk
    have HCE := Lib.hid hcell
    clear hblk hcell hO4 hO3 hS4 hr41 hk2
    go_wp2_with fail
    go_ret
    refine ⟨_, xs.set k (r4 - 1, sy xs k), rfl, ?_, by simp, ?_, ?_⟩
    · have := Own.mk_ (w := w4.setCell ⟨gb, k * 2, none⟩ (.int .i64 (r4 - 1))) (B := w.heap.size) (xs := xs.set k (r4 - 1, sy xs k)) (c := c1) hBg (blk_set HB.out (k * 2) _) (by simpa using hnc) hcm (by simpa using hcs) (cells_set0 hk (by omega) HCE.out)
      simpa using this
    · exact HS4.out.other ((Only.refl gb w4).setCell _) (by omega)
    · exact hw4.newer ((Only.refl gb w4).setCell _) hBg
  | false =>
  cases b1 : (r3 == 1) with
  | true =>
    have hnew := fun o => blk_new w3 o
    have hal := fun o => (Grew.refl w3).alloc o
    go_wp2_with fail
    refine (l01Pick_c g cv N w3.heap.size _ (HS3.out.grew (hal _)) (blk_lt (hnew _)) (by have := HS3.out.lt; omega) (fun j hj => ?_)).mono ?_
    · rw [blk_cell (hnew _)]
      rcases (by omega : j = 0 ∨ j = 1 ∨ j = 2 ∨ j = 3 ∨ j = 4) with rfl | rfl | rfl | rfl | rfl <;> exact ⟨_, rfl⟩
    rintro e w4 ⟨r4, rfl, hS4, ho4⟩
    have hO4 := own_src (hO3.grew (hal _)) hgl ho4
    have hw4 := (hw3.trans (hal _).only).trans ho4 (g := g)
    have HS4 := Lib.hid hS4
    rcases hO4.open_ with ⟨_, rfl⟩ | ⟨gb, cb, cur, hvb, hBg, hgl4, hblk, hnc, hcm, hcs, hcell⟩
    · simp at h0
    simp only [Value.slice.injEq] at hvb
    obtain ⟨rfl, -, rfl⟩ := hvb
    have hk2 := hcell k hk
    have hcl : w4.cell? ⟨gb, k * 2 + 1, none⟩ = some (.int .i64 (sy xs k)) := by rw [blk_cell hblk]; exact hk2.2
    have hfr := blk_frozen hblk (k * 2 + 1)
    have HB := Lib.hid hblk
    have HCE := Lib.hid hcell
    clear hblk hcell hO4 hO3 hS4 hk2 hnew hal ho4
    go_wp2_with fail
    go_ret
    refine ⟨_, xs.set k (kd xs k, r4), rfl, ?_, by simp, ?_, ?_⟩
    · have := Own.mk_ (w := w4.setCell ⟨gb, k * 2 + 1, none⟩ (.int .i64 r4)) (B := w.heap.size) (xs := xs.set k (kd xs k, r4)) (c := c1) hBg (blk_set HB.out (k * 2 + 1) _) (by simpa using hnc) hcm (by simpa using hcs) (cells_set1 hk (by omega) HCE.out)
      simpa using this
    · exact HS4.out.other ((Only.refl gb w4).setCell _) (by omega)
    · exact hw4.newer ((Only.refl gb w4).setCell _) hBg
  | false =>
  cases b2 : (r3 == 2) with
  | true =>
    go_wp2_with fail
    refine (l01Next_c g cv N 7 _ HS3.out (by omega)).mono ?_
    rintro e w4 ⟨r4, rfl, hr40, hr41, _, hS4, ho4⟩
    have hO4 := own_src hO3 hgl ho4
    have HS4 := Lib.hid hS4
    have HO4 := Lib.hid (hO4.grew ((Grew.refl w4).alloc (.cells #[.int .i64 r4, .int .i64 0] 45)))
    have hw4 := hw3.trans ho4
    have hone := Own.one w4 w4.heap.size r4 0 (Nat.le_refl _)
    clear hS4 ho4 hO3 hO4 hr41
    go_wp2_with (first
      | (at_builtin; refine wpList_appN w.heap.size _ _ rfl rfl _ xs rfl HO4.out (Nat.le_trans hw4.size ((Grew.refl w4).alloc _).size) _ [(r4, 0)] rfl hone.nodes (by simp; omega) ?_; intro v5 w5 hown5 hg5))
    go_ret
    refine ⟨_, _, rfl, hown5, by simp, ?_, ?_⟩
    · exact (HS4.out.grew ((Grew.refl w4).alloc _)).other2 hg5 (fun b hb => Nat.lt_of_lt_of_le hgl (own_of_ge HO4.out hb))
    · exact (hw4.grew ((Grew.refl w4).alloc _)).newer2 hg5 (fun b hb => own_of_ge HO4.out hb)
  | false =>
  cases b3 : (r3 == 3) with
  | true =>
    have i1 : (k : Int) ≤ (c1 : Int) := by
      have := hO3.nodes.open_
      rcases this with ⟨_, rfl⟩ | ⟨b, o, c, hv, hc, _⟩
      · simp at h0
      · simp only [Value.slice.injEq] at hv
        obtain ⟨-, -, rfl⟩ := hv
        omega
    rcases hO3.open_ with ⟨_, rfl⟩ | ⟨gb, cb, cur, hvb, hBg, hgl4, hblk, hnc, hcm, hcs, hcell⟩
    · simp at h0
    simp only [Value.slice.injEq] at hvb
    obtain ⟨rfl, -, rfl⟩ := hvb
    have HB := Lib.hid hblk
    have HCE := Lib.hid hcell
    clear hblk hcell hO3
    go_wp2_with fail
    go_ret
    refine ⟨_, xs.take k, rfl, ?_, by rw [List.length_take]; omega, HS3.out, hw3⟩
    have hl : (xs.take k).length = k := by rw [List.length_take]; omega
    have := Own.mk_ (w := w3) (B := w.heap.size) (xs := xs.take k) (c := c1) hBg HB.out (by omega) hcm hcs (fun i hi => ?_)
    · rw [hl] at this
      exact this
    · rw [hl] at hi
      have := HCE.out i (by omega)
      simpa [kd, sy, List.getD, hi] using this
  | false =>
  cases b4 : (r3 == 4) with
  | true =>
    rcases hO3.open_ with ⟨_, rfl⟩ | ⟨gb, cb, cur, hvb, hBg, hgl4, hblk, hnc, hcm, hcs, hcell⟩
    · simp at h0
    simp only [Value.slice.injEq] at hvb
    obtain ⟨rfl, -, rfl⟩ := hvb
    have i1 : (k : Int) ≤ (c1 : Int) := by omega
    have i2 : (k : Int) + 1 ≤ (xs.length : Int) := by omega
    have i3 : (0 : Int) ≤ (k : Int) + 1 := by omega
    have i4 : IntKind.i64.wrap ((k : Int) + 1) = (k : Int) + 1 := by rw [IntKind.wrap_i64]; omega
    have hl : (xs.take k).length = k := by rw [List.length_take]; omega
    have hown0 : Own w3 w.heap.size (.slice (some ⟨gb, 0, none⟩) k c1) (xs.take k) := by
      have := Own.mk_ (w := w3) (B := w.heap.size) (xs := xs.take k) (c := c1) hBg hblk (by omega) hcm hcs (fun i hi => ?_)
      · rw [hl] at this
        exact this
      · rw [hl] at hi
        have := hcell i (by omega)
        simpa [kd, sy, List.getD, hi] using this
    have R2 := nodes_tail hO3.nodes (k + 1) (by omega) hnc rfl
    have hr0 := Grew.refl w3
    have HOW := Lib.hid (fun W (hW : Grew w3 W) => hown0.grew hW)
    have HR2 := Lib.hid (fun W (hW : Grew w3 W) => R2.grew hW)
    clear hblk hcell hown0 R2 hO3
    go_wp2_with fail
    have hsz := Nat.le_trans hw3.size (Nat.le_refl _)
    have ho1 := HOW.out _ hr0.drew
    have ho2 := HR2.out _ hr0.drew
    have hlk : (xs.take k).length + (xs.drop (k + 1)).length ≤ 1099511627776 := by simp; omega
    go_region_law (refine step_appN (w := w3.drew) w.heap.size rfl (.tmp 50) (.tmp 54) rfl (.slice (some ⟨gb, 0, none⟩) k c1) (xs.take k) (by simp [Act.eval, Act.put]) ho1 hsz (.slice (if c1 = k + 1 then some ⟨gb, 0, none⟩ else some ⟨gb, 0 + (k + 1) * 2, none⟩) (xs.length - (k + 1)) (c1 - (k + 1))) (xs.drop (k + 1)) (by simp [Act.eval, Act.put]) ho2 hlk ?_; intro v4 w4 hown4 hg4)
    go_wp2_with fail
    all_goals
      go_ret
      exact ⟨_, _, rfl, hown4, by simp; omega, HS3.out.grew hr0.drew |>.other2 hg4 (fun b hb => by simp [Value.ownBlock] at hb; omega), (hw3.grew hr0.drew).newer2 hg4 (fun b hb => by simp [Value.ownBlock] at hb; omega)⟩
  | false =>
    simp only [beq_eq_false_iff_ne, ne_eq] at b0 b1 b2 b3 b4
    omega

theorem isEnc_pos {xs : List Nd} (h : Fm.IsEnc xs) : 0 < xs.length := by
  obtain ⟨t, rfl⟩ := h
  cases t <;> simp [Fm.enc]

def slen : Value → Nat
  | .slice _ n _ => n
  | _ => 0

theorem l02Any_g (g : Nat) (cv : Value) (N : Nat) (sz vs : Int) (hz0 : 1 ≤ sz) (hz1 : sz ≤ 20) (hv0 : 1 ≤ vs) (hv1 : vs ≤ 6) (w : World) (h : Src w g cv N) :
    Calls Tryz.prog 37 #[.pointer (some ⟨g, 0, none⟩), .int .i64 sz, .int .i64 vs, .bool true] w (Bent w g cv N 47) := by
  have HS := Lib.hid h
  have hgl := h.lt
  clear h
  go_enter Tryz.func37, Tryz.ntmps37
  go_wp2_with fail
  refine (l02Draw_g g cv N vs hv0 hv1 20 sz _ (by omega) (by omega) (by omega) HS.out).mono ?_
  rintro e w1 ⟨v1, xs, rfl, ho1, he1, hl1, hS1, hw1⟩
  have HO1 := Lib.hid ho1
  have HS1 := Lib.hid hS1
  have hp1 := isEnc_pos he1
  clear ho1 hS1 he1
  go_wp2_with fail
  refine (l01Next_c g cv N 40 _ HS1.out (by omega)).mono ?_
  rintro e w2 ⟨r, rfl, hr0, hr1, _, hS2, ho2⟩
  have HO2 := Lib.hid (own_src HO1.out hgl ho2)
  have HS2 := Lib.hid hS2
  have hw2 := hw1.trans ho2
  clear hS2 ho2 HO1 HS1 hr1
  cases b0 : (r == 0) with
  | true =>
    go_wp2_with fail
    refine (l02Bend_c g cv N v1 xs _ HS2.out HO2.out.nodes hp1 (by omega)).mono ?_
    rintro e w3 ⟨v3, ys, rfl, ho3, hl3, hS3, hw3⟩
    go_wp2_with fail
    go_ret
    exact ⟨_, _, rfl, ho3.base hw2.size, by omega, hS3, hw2.trans hw3⟩
  | false =>
  cases b1 : (r == 1) with
  | false =>
    go_wp2_with fail
    go_ret
    exact ⟨_, _, rfl, HO2.out, by omega, HS2.out, hw2⟩
  | true =>
    go_wp2_with fail
    go_loopw [9] (fun vv wr => ∃ ys, Own wr w.heap.size vv ys ∧ ys.length ≤ 47 ∧ Src wr g cv N ∧ Only g w wr) (fun vv _ => 48 - slen vv)
    case atStart => exact ⟨xs, HO2.out, by omega, HS2.out, hw2⟩
    case round =>
      obtain ⟨ys, hO, hl, hS, hB⟩ := hrel
      obtain ⟨A, c, rfl⟩ := nodes_slice hO.nodes
      have HS := Lib.hid hS
      have HO := Lib.hid hO
      clear hS hO
      cases h40 : decide ((ys.length : Int) ≤ 40) with
      | false =>
        go_wp2_with fail
        go_ret
        exact ⟨_, _, rfl, HO.out, hl, HS.out, hB⟩
      | true =>
        simp only [decide_eq_true_eq] at h40
        go_wp2_with fail
        refine (l01Next_c g cv N 60 _ HS.out (by omega)).mono ?_
        rintro e w3 ⟨r3, rfl, _, _, _, hS3, ho3⟩
        have HO3 := Lib.hid (own_src HO.out hgl ho3)
        have HS3 := Lib.hid hS3
        have hw3 := hB.trans ho3
        clear hS3 ho3 HO HS hB
        by_cases h3 : 0 < r3
        · go_wp2_with fail
          refine (l01Next_c g cv N 3 _ HS3.out (by omega)).mono ?_
          rintro e w4 ⟨r4, rfl, hr40, hr41, _, hS4, ho4⟩
          have HO4 := Lib.hid (own_src HO3.out hgl ho4)
          have HS4 := Lib.hid hS4
          have hw4 := hw3.trans ho4
          have hr42 := hr41 (by omega)
          clear hS4 ho4 HO3 HS3 hw3 hr41
          go_wp2_with fail
          refine (l02Draw_g g cv N vs hv0 hv1 6 6 _ (by omega) (by omega) (by omega) HS4.out).mono ?_
          rintro e w5 ⟨v5, zs, rfl, ho5, he5, hl5, hS5, hw5⟩
          have HO5 := Lib.hid (own_src HO4.out hgl hw5)
          have HS5 := Lib.hid hS5
          have hw6 := hw4.trans hw5
          have hp5 := isEnc_pos he5
          clear hS5 HO4 HS4 hw4 he5
          go_wp2_with fail
          refine (l02Pair_c _ _ v5 ys zs _ HO5.out.nodes ho5.nodes (by omega)).mono ?_
          rintro e w7 ⟨v7, rfl, ho7, hg7⟩
          obtain ⟨A7, c7, rfl⟩ := nodes_slice ho7.nodes
          have HL7 := Lib.hid (show (Fm.join (2 + r4) ys zs).length = 1 + ys.length + zs.length by simp [Fm.join]; omega)
          go_wp2_with fail
          go_roundw
          case rel => exact ⟨_, ho7.base hw6.size, by rw [HL7.out]; omega, HS5.out.grew hg7, hw6.grew hg7⟩
          case measure => simp only [slen]; rw [HL7.out]; omega
        · go_wp2_with fail
          go_ret
          exact ⟨_, _, rfl, HO3.out, hl, HS3.out, hw3⟩
theorem l02Any_c (g : Nat) (cv : Value) (N : Nat) (w : World) (h : Src w g cv N) :
    Calls Tryz.prog 37 #[.pointer (some ⟨g, 0, none⟩), .int .i64 20, .int .i64 6, .bool true] w (Bent w g cv N 47) := l02Any_g g cv N 20 6 (by omega) (by omega) (by omega) (by omega) w h
end Go.Proofs.YtefkgomecpnpbaaGreat

/- A proposition as a Boolean. No program is in sight. -/
namespace Go.Proofs.YtefkgomecpnpbaaGreat
open Go.RowKit

noncomputable def dc (p : Prop) : Bool := @decide p (Classical.propDecidable _)
theorem dc_true {p : Prop} (h : p) : dc p = true := @decide_eq_true _ (Classical.propDecidable _) h
theorem dc_false {p : Prop} (h : ¬ p) : dc p = false := @decide_eq_false _ (Classical.propDecidable _) h
theorem of_dc {p : Prop} (h : dc p = true) : p := @of_decide_eq_true _ (Classical.propDecidable _) h
theorem not_dc {p : Prop} (h : dc p = false) : ¬ p := @of_decide_eq_false _ (Classical.propDecidable _) h
theorem dc_congr {p q : Prop} (h : p ↔ q) : dc p = dc q := by rw [propext h]
theorem dc_and (p q : Prop) : dc (p ∧ q) = (dc p && dc q) := by
  by_cases hp : p
  · by_cases hq : q
    · rw [dc_true hp, dc_true hq, dc_true ⟨hp, hq⟩]; rfl
    · rw [dc_true hp, dc_false hq, dc_false fun h => hq h.2]; rfl
  · rw [dc_false hp, dc_false fun h => hp h.1]; rfl

end Go.Proofs.YtefkgomecpnpbaaGreat

/- The rules of a search over lists of formulas: what follows, and what grows smaller. No program is in sight. -/
namespace Go.Proofs.YtefkgomecpnpbaaGreat
open Go.RowKit
open Fm (Tree Ent)

/-- The formula follows from those of the list. -/
def EntL (L : List Tree) (c : Tree) : Prop := Ent (fun a => a ∈ L) c
theorem entL_congr {L K : List Tree} {c : Tree} (h : ∀ a, a ∈ L ↔ a ∈ K) : EntL L c ↔ EntL K c := Ent.congr h
theorem entL_more {L K : List Tree} {c : Tree} (h : ∀ a, a ∈ L → a ∈ K) (hL : EntL L c) : EntL K c := Ent.more h hL
/-- L is R with one formula more. -/
def Adds (L R : List Tree) (x : Tree) : Prop := ∀ b, b ∈ L ↔ b ∈ R ∨ b = x
theorem adds_ent {L R : List Tree} {x c : Tree} (h : Adds L R x) : EntL L c ↔ Ent (Fm.plus (fun b => b ∈ R) x) c := Ent.congr h
/-- L is R with two formulas more. -/
def Adds2 (L R : List Tree) (x y : Tree) : Prop := ∀ b, b ∈ L ↔ b ∈ R ∨ b = x ∨ b = y
theorem adds2_ent {L R : List Tree} {x y c : Tree} (h : Adds2 L R x y) : EntL L c ↔ Ent (Fm.plus (Fm.plus (fun b => b ∈ R) x) y) c :=
  Ent.congr fun b => (h b).trans or_assoc.symm

theorem el_mem {L : List Tree} {c : Tree} (h : c ∈ L) : EntL L c := Fm.ent_mem h
theorem el_fls {L : List Tree} {c : Tree} (h : Tree.fls ∈ L) : EntL L c := Fm.ent_fls h
theorem el_or_useless {L R : List Tree} {x y c : Tree} (ha : Adds L R (.or x y)) (h : x ∈ R ∨ y ∈ R) : EntL L c ↔ EntL R c := (adds_ent ha).trans (Fm.ent_or_useless h)
theorem el_imp_useless {L R : List Tree} {x y c : Tree} (ha : Adds L R (.imp x y)) (h : y ∈ R) : EntL L c ↔ EntL R c := (adds_ent ha).trans (Fm.ent_imp_useless h)
theorem el_fls_imp {L R : List Tree} {y c : Tree} (ha : Adds L R (.imp .fls y)) : EntL L c ↔ EntL R c := (adds_ent ha).trans Fm.ent_fls_imp
theorem el_and {L R K : List Tree} {x y c : Tree} (ha : Adds L R (.and x y)) (hk : Adds2 K R x y) : EntL L c ↔ EntL K c := (adds_ent ha).trans (Fm.ent_and.trans (adds2_ent hk).symm)
theorem el_or {L R K1 K2 : List Tree} {x y c : Tree} (ha : Adds L R (.or x y)) (h1 : Adds K1 R x) (h2 : Adds K2 R y) : EntL L c ↔ EntL K1 c ∧ EntL K2 c :=
  (adds_ent ha).trans (Fm.ent_or.trans (and_congr (adds_ent h1).symm (adds_ent h2).symm))
theorem el_and_imp {L R K : List Tree} {x y z c : Tree} (ha : Adds L R (.imp (.and x y) z)) (hk : Adds K R (.imp x (.imp y z))) : EntL L c ↔ EntL K c := (adds_ent ha).trans (Fm.ent_and_imp.trans (adds_ent hk).symm)
theorem el_or_imp {L R K : List Tree} {x y z c : Tree} (ha : Adds L R (.imp (.or x y) z)) (hk : Adds2 K R (.imp x z) (.imp y z)) : EntL L c ↔ EntL K c := (adds_ent ha).trans (Fm.ent_or_imp.trans (adds2_ent hk).symm)
theorem el_mp {L R K : List Tree} {x y c : Tree} (ha : Adds L R (.imp x y)) (hx : x ∈ R) (hk : Adds K R y) : EntL L c ↔ EntL K c := (adds_ent ha).trans ((Fm.ent_mp hx).trans (adds_ent hk).symm)
theorem el_r_and {L : List Tree} {x y : Tree} : EntL L (.and x y) ↔ EntL L x ∧ EntL L y := Fm.ent_r_and
theorem el_r_imp {L K : List Tree} {x y : Tree} (hk : Adds K L x) : EntL L (.imp x y) ↔ EntL K y := Fm.ent_r_imp.trans (adds_ent hk).symm
theorem el_r_or1 {L : List Tree} {x y : Tree} (h : EntL L x) : EntL L (.or x y) := Fm.ent_r_or1 h
theorem el_r_or2 {L : List Tree} {x y : Tree} (h : EntL L y) : EntL L (.or x y) := Fm.ent_r_or2 h
theorem el_imp_imp {L R K1 K2 : List Tree} {x y z c : Tree} (ha : Adds L R (.imp (.imp x y) z)) (h1 : Adds2 K1 R (.imp y z) x) (h2 : Adds K2 R z) (e1 : EntL K1 y) (e2 : EntL K2 c) : EntL L c :=
  (adds_ent ha).2 (Fm.ent_imp_imp ((adds2_ent h1).1 e1) ((adds_ent h2).1 e2))

/-- No rule of the left side applies to a formula that loses nothing. -/
def StuckL (L : List Tree) (a : Tree) : Prop := Fm.Stuck (fun b => b ∈ L) a
/-- Where every formula is stuck, a consequence comes by one of the ways. -/
theorem el_ways {L : List Tree} {c : Tree} (hs : ∀ a, a ∈ L → StuckL L a) (hc : ¬ c ∈ L) (hk : (∃ v, c = .var v) ∨ c = .fls ∨ ∃ x y, c = .or x y) (h : EntL L c) :
    (∃ x y, c = .or x y ∧ (EntL L x ∨ EntL L y)) ∨ ∃ x y z, (Tree.imp (.imp x y) z) ∈ L ∧
      ∀ R, (∀ b, b ∈ L → b ≠ .imp (.imp x y) z → b ∈ R) → (∀ K, Adds2 K R (.imp y z) x → EntL K y) ∧ ∀ K, Adds K R z → EntL K c := by
  rcases Fm.ent_ways hs hc hk h with h1 | ⟨x, y, z, h1, h2, h3⟩
  · exact .inl h1
  · refine .inr ⟨x, y, z, h1, fun R hR => ⟨fun K hK => ?_, fun K hK => ?_⟩⟩
    · refine Ent.more (fun b hb => (hK b).2 ?_) h2
      rcases hb with ⟨hb, hne⟩ | hb | hb
      · exact .inl (hR b hb hne)
      · exact .inr (.inl hb)
      · exact .inr (.inr hb)
    · refine Ent.more (fun b hb => (hK b).2 ?_) h3
      rcases hb with ⟨hb, hne⟩ | hb
      · exact .inl (hR b hb hne)
      · exact .inr hb

/-! What grows smaller. -/
def wt : Tree → Nat
  | .var _ => 1
  | .fls => 1
  | .and a b => wt a + wt b + 2
  | .or a b => wt a + wt b + 1
  | .imp a b => wt a + wt b + 1
  | .box a => wt a + 1
  | .dia a => wt a + 1
theorem wt_pos (t : Tree) : 1 ≤ wt t := by cases t <;> simp [wt]
def nn (t : Tree) : Nat := (Fm.enc t).length
theorem nn_pos (t : Tree) : 1 ≤ nn t := Fm.enc_pos t
theorem nn_and (a b : Tree) : nn (.and a b) = nn a + nn b + 1 := by simp [nn, Fm.enc]
theorem nn_or (a b : Tree) : nn (.or a b) = nn a + nn b + 1 := by simp [nn, Fm.enc]
theorem nn_imp (a b : Tree) : nn (.imp a b) = nn a + nn b + 1 := by simp [nn, Fm.enc]
def tot (f : Tree → Nat) (L : List Tree) : Nat := (L.map f).sum
theorem tot_nil (f : Tree → Nat) : tot f [] = 0 := rfl
theorem tot_cons (f : Tree → Nat) (a : Tree) (L : List Tree) : tot f (a :: L) = f a + tot f L := by simp [tot]
theorem tot_app (f : Tree → Nat) (L K : List Tree) : tot f (L ++ K) = tot f L + tot f K := by simp [tot]
theorem tot_one (f : Tree → Nat) (a : Tree) : tot f [a] = f a := by simp [tot]
theorem tot_two (f : Tree → Nat) (a b : Tree) : tot f [a, b] = f a + f b := by simp [tot]
theorem tot_perm {f : Tree → Nat} {L K : List Tree} (h : L.Perm K) : tot f L = tot f K := (h.map f).sum_nat
theorem tot_sub {f : Tree → Nat} {L K : List Tree} (h : L.Sublist K) : tot f L ≤ tot f K := by
  induction h with
  | slnil => exact Nat.le_refl _
  | cons a _ ih => rw [tot_cons]; omega
  | cons_cons a _ ih => rw [tot_cons, tot_cons]; omega
def f4 (t : Tree) : Nat := 4 ^ wt t
def f2 (t : Tree) : Nat := 2 ^ nn t
def mu (L : List Tree) (c : Tree) : Nat := tot f4 L + f4 c
def nu (L : List Tree) (c : Tree) : Nat := tot f2 L + f2 c
theorem p4_lt {a b : Nat} (h : a < b) : 4 * 4 ^ a ≤ 4 ^ b := by
  obtain ⟨k, rfl⟩ : ∃ k, b = a + 1 + k := ⟨b - a - 1, by omega⟩
  rw [Nat.pow_add, Nat.pow_succ]
  have := Nat.pow_pos (n := k) (show 0 < 4 by omega)
  calc 4 * 4 ^ a = 4 ^ a * 4 * 1 := by omega
    _ ≤ 4 ^ a * 4 * 4 ^ k := Nat.mul_le_mul_left _ this
theorem p4_pos (a : Nat) : 1 ≤ 4 ^ a := Nat.pow_pos (by omega)
theorem p2_lt {a b : Nat} (h : a < b) : 2 * 2 ^ a ≤ 2 ^ b := by
  obtain ⟨k, rfl⟩ : ∃ k, b = a + 1 + k := ⟨b - a - 1, by omega⟩
  rw [Nat.pow_add, Nat.pow_succ]
  have := Nat.pow_pos (n := k) (show 0 < 2 by omega)
  calc 2 * 2 ^ a = 2 ^ a * 2 * 1 := by omega
    _ ≤ 2 ^ a * 2 * 2 ^ k := Nat.mul_le_mul_left _ this
theorem p2_lt2 {a b : Nat} (h : a + 2 ≤ b) : 4 * 2 ^ a ≤ 2 ^ b := by
  have h1 := p2_lt (show a < a + 1 by omega)
  have h2 := p2_lt (show a + 1 < b by omega)
  omega
theorem p2_pos (a : Nat) : 1 ≤ 2 ^ a := Nat.pow_pos (by omega)

theorem f4_pos (a : Tree) : 1 ≤ f4 a := p4_pos _
theorem f4_and (a b : Tree) : f4 a + f4 b < f4 (.and a b) := by
  have h1 := p4_lt (show wt a < wt (.and a b) by simp only [wt]; omega)
  have h2 := p4_lt (show wt b < wt (.and a b) by simp only [wt]; omega)
  have := f4_pos a
  unfold f4 at *; omega
theorem f4_or (a b : Tree) : f4 a + f4 b < f4 (.or a b) := by
  have h1 := p4_lt (show wt a < wt (.or a b) by have := wt_pos b; simp only [wt]; omega)
  have h2 := p4_lt (show wt b < wt (.or a b) by have := wt_pos a; simp only [wt]; omega)
  have := f4_pos a
  unfold f4 at *; omega
theorem f4_imp (a b : Tree) : f4 a + f4 b < f4 (.imp a b) := by
  have h1 := p4_lt (show wt a < wt (.imp a b) by have := wt_pos b; simp only [wt]; omega)
  have h2 := p4_lt (show wt b < wt (.imp a b) by have := wt_pos a; simp only [wt]; omega)
  have := f4_pos a
  unfold f4 at *; omega
theorem f4_and_imp (x y z : Tree) : f4 (.imp x (.imp y z)) < f4 (.imp (.and x y) z) := by
  have h1 := p4_lt (show wt (.imp x (.imp y z)) < wt (.imp (.and x y) z) by simp only [wt]; omega)
  have := f4_pos (.imp x (.imp y z))
  unfold f4 at *; omega
theorem f4_or_imp (x y z : Tree) : f4 (.imp x z) + f4 (.imp y z) < f4 (.imp (.or x y) z) := by
  have h1 := p4_lt (show wt (.imp x z) < wt (.imp (.or x y) z) by have := wt_pos y; simp only [wt]; omega)
  have h2 := p4_lt (show wt (.imp y z) < wt (.imp (.or x y) z) by have := wt_pos x; simp only [wt]; omega)
  have := f4_pos (.imp x z)
  unfold f4 at *; omega
theorem f4_imp_imp (x y z : Tree) : f4 (.imp y z) + f4 x + f4 y < f4 (.imp (.imp x y) z) := by
  have h1 := p4_lt (show wt (.imp y z) < wt (.imp (.imp x y) z) by have := wt_pos x; simp only [wt]; omega)
  have h2 := p4_lt (show wt x < wt (.imp (.imp x y) z) by have := wt_pos y; simp only [wt]; omega)
  have h3 := p4_lt (show wt y < wt (.imp (.imp x y) z) by have := wt_pos x; simp only [wt]; omega)
  have := f4_pos x
  unfold f4 at *; omega
theorem f4_imp_imp' (x y z : Tree) : f4 (.imp y z) + f4 (.imp x y) < f4 (.imp (.imp x y) z) := by
  have h1 := p4_lt (show wt (.imp y z) < wt (.imp (.imp x y) z) by have := wt_pos x; simp only [wt]; omega)
  have h2 := p4_lt (show wt (.imp x y) < wt (.imp (.imp x y) z) by have := wt_pos z; simp only [wt]; omega)
  have := f4_pos (.imp x y)
  unfold f4 at *; omega
theorem f2_pos (a : Tree) : 1 ≤ f2 a := p2_pos _
theorem f2_and (a b : Tree) : f2 a + f2 b ≤ f2 (.and a b) := by
  have h1 := p2_lt (show nn a < nn (.and a b) by rw [nn_and]; omega)
  have h2 := p2_lt (show nn b < nn (.and a b) by rw [nn_and]; omega)
  unfold f2 at *; omega
theorem f2_or (a b : Tree) : f2 a + f2 b ≤ f2 (.or a b) := by
  have h1 := p2_lt (show nn a < nn (.or a b) by rw [nn_or]; omega)
  have h2 := p2_lt (show nn b < nn (.or a b) by rw [nn_or]; omega)
  unfold f2 at *; omega
theorem f2_imp (a b : Tree) : f2 a + f2 b ≤ f2 (.imp a b) := by
  have h1 := p2_lt (show nn a < nn (.imp a b) by rw [nn_imp]; omega)
  have h2 := p2_lt (show nn b < nn (.imp a b) by rw [nn_imp]; omega)
  unfold f2 at *; omega
theorem f2_and_imp (x y z : Tree) : f2 (.imp x (.imp y z)) = f2 (.imp (.and x y) z) := by
  unfold f2
  congr 1
  simp only [nn_imp, nn_and]; omega
theorem f2_or_imp (x y z : Tree) : f2 (.imp x z) + f2 (.imp y z) ≤ f2 (.imp (.or x y) z) := by
  have h1 := p2_lt (show nn (.imp x z) < nn (.imp (.or x y) z) by simp only [nn_imp, nn_or]; omega)
  have h2 := p2_lt (show nn (.imp y z) < nn (.imp (.or x y) z) by simp only [nn_imp, nn_or]; omega)
  unfold f2 at *; omega
theorem f2_imp_imp (x y z : Tree) : f2 (.imp y z) + f2 x + f2 y ≤ f2 (.imp (.imp x y) z) := by
  have h1 := p2_lt2 (show nn (.imp y z) + 2 ≤ nn (.imp (.imp x y) z) by have := nn_pos x; simp only [nn_imp]; omega)
  have h2 := p2_lt2 (show nn x + 2 ≤ nn (.imp (.imp x y) z) by simp only [nn_imp]; omega)
  have h3 := p2_lt2 (show nn y + 2 ≤ nn (.imp (.imp x y) z) by simp only [nn_imp]; omega)
  unfold f2 at *; omega
theorem f2_imp_imp' (x y z : Tree) : f2 (.imp y z) + f2 (.imp x y) ≤ f2 (.imp (.imp x y) z) := by
  have h1 := p2_lt (show nn (.imp y z) < nn (.imp (.imp x y) z) by simp only [nn_imp]; omega)
  have h2 := p2_lt (show nn (.imp x y) < nn (.imp (.imp x y) z) by simp only [nn_imp]; omega)
  unfold f2 at *; omega
theorem len_tot (L : List Tree) : L.length ≤ tot f2 L := by
  induction L with
  | nil => exact Nat.le_refl _
  | cons a L ih => rw [tot_cons]; have := f2_pos a; simp only [List.length_cons]; omega
theorem len_nu (L : List Tree) (c : Tree) : L.length ≤ nu L c := by have := len_tot L; unfold nu; omega
theorem tot2_pow (L : List Tree) : tot f2 L ≤ 2 ^ tot nn L ∧ (1 ≤ L.length → 1 ≤ tot nn L) ∧ (L = [] → tot f2 L = 0) := by
  induction L with
  | nil => exact ⟨by simp [tot], by simp, fun _ => rfl⟩
  | cons a L ih =>
    have ha := nn_pos a
    refine ⟨?_, fun _ => by rw [tot_cons]; omega, by simp⟩
    rw [tot_cons, tot_cons]
    cases L with
    | nil => simp [tot, f2]
    | cons b K =>
      have h1 := ih.2.1 (by simp)
      have h2 := p2_lt (show nn a < nn a + tot nn (b :: K) by omega)
      have h3 := p2_lt (show tot nn (b :: K) < nn a + tot nn (b :: K) by omega)
      have h4 := ih.1
      unfold f2 at *
      omega
theorem nu_pow (L : List Tree) (c : Tree) : nu L c ≤ 2 ^ (tot nn L + nn c) := by
  have hc := nn_pos c
  cases L with
  | nil => simp [nu, tot, f2]
  | cons b K =>
    have h1 := (tot2_pow (b :: K)).2.1 (by simp)
    have h2 := p2_lt (show tot nn (b :: K) < tot nn (b :: K) + nn c by omega)
    have h3 := p2_lt (show nn c < tot nn (b :: K) + nn c by omega)
    have h4 := (tot2_pow (b :: K)).1
    unfold nu
    have h5 : f2 c = 2 ^ nn c := rfl
    omega
theorem nu_small {L : List Tree} {c : Tree} (h : tot nn L + nn c ≤ 20) : nu L c ≤ 1048576 := by
  have h1 := nu_pow L c
  have h2 : 2 ^ (tot nn L + nn c) ≤ 2 ^ 20 := Nat.pow_le_pow_right (by omega) h
  have h3 : (2 : Nat) ^ 20 = 1048576 := by decide
  omega

/-! Formulas of the search. -/
theorem fmOk_nn {A : Tree} (h : FmOk A) : nn A ≤ 40 := h.1
theorem fmOk_imp_mk {A B : Tree} (hA : FmOk A) (hB : FmOk B) (h : nn A + nn B + 1 ≤ 40) : FmOk (.imp A B) := FmOk.join (k := 4) rfl (by omega) hA hB (by have := nn_imp A B; unfold nn at *; omega)
theorem fmOk_and_imp {x y z : Tree} (h : FmOk (.imp (.and x y) z)) : FmOk (.imp x (.imp y z)) := by
  obtain ⟨h1, h2⟩ := fmOk_imp h
  obtain ⟨h3, h4⟩ := fmOk_and h1
  have h5 := fmOk_nn h
  simp only [nn_imp, nn_and] at h5
  exact fmOk_imp_mk h3 (fmOk_imp_mk h4 h2 (by omega)) (by rw [nn_imp]; omega)
theorem fmOk_or_imp {x y z : Tree} (h : FmOk (.imp (.or x y) z)) : FmOk (.imp x z) ∧ FmOk (.imp y z) := by
  obtain ⟨h1, h2⟩ := fmOk_imp h
  obtain ⟨h3, h4⟩ := fmOk_or h1
  have h5 := fmOk_nn h
  simp only [nn_imp, nn_or] at h5
  exact ⟨fmOk_imp_mk h3 h2 (by omega), fmOk_imp_mk h4 h2 (by omega)⟩
theorem fmOk_imp_imp {x y z : Tree} (h : FmOk (.imp (.imp x y) z)) : FmOk x ∧ FmOk y ∧ FmOk z ∧ FmOk (.imp x y) ∧ FmOk (.imp y z) := by
  obtain ⟨h1, h2⟩ := fmOk_imp h
  obtain ⟨h3, h4⟩ := fmOk_imp h1
  have h5 := fmOk_nn h
  simp only [nn_imp] at h5
  exact ⟨h3, h4, h2, h1, fmOk_imp_mk h4 h2 (by omega)⟩
/-- A state of the search. -/
def OkS (L : List Tree) (c : Tree) : Prop := (∀ a ∈ L, FmOk a) ∧ FmOk c ∧ nu L c ≤ 1048576
end Go.Proofs.YtefkgomecpnpbaaGreat

/- The drawn plain formula: l02Draw without modal operators gives a tree of at most as many nodes as told. -/
namespace Go.Proofs.YtefkgomecpnpbaaGreat
open Go.RowKit
open Fm (Nd Tree)

theorem fmOk_fls : FmOk .fls := ⟨by simp [Fm.enc], anyP_mem.2 fun x hx => by
  have : x = (1, 0) := by simpa [Fm.enc] using hx
  subst this; rfl⟩
theorem fmOk_var (i : Fin 6) : FmOk (.var i) := ⟨by simp [Fm.enc], anyP_mem.2 fun x hx => by
  have : x = (0, (i.val : Int)) := by simpa [Fm.enc] using hx
  subst this; rfl⟩
theorem vari_tree {r : Int} (h0 : 0 ≤ r) (h1 : r < 6) : ∃ t, Fm.vari r = Fm.enc t ∧ FmOk t :=
  ⟨.var ⟨r.toNat, by omega⟩, by simp [Fm.vari, Fm.enc, Int.toNat_of_nonneg h0], fmOk_var _⟩
theorem join_tree {k : Int} {a b : Tree} (h0 : 2 ≤ k) (h1 : k ≤ 4) (ha : FmOk a) (hb : FmOk b) (hl : 1 + nn a + nn b ≤ 40) : ∃ t, Fm.join k (Fm.enc a) (Fm.enc b) = Fm.enc t ∧ FmOk t ∧ nn t = 1 + nn a + nn b := by
  unfold nn at *
  have hk : k = 2 ∨ k = 3 ∨ k = 4 := by omega
  rcases hk with rfl | rfl | rfl
  · exact ⟨.and a b, rfl, FmOk.join (k := 2) rfl (by omega) ha hb (by simp [Fm.enc]; omega), by simp [Fm.enc]; omega⟩
  · exact ⟨.or a b, rfl, FmOk.join (k := 3) rfl (by omega) ha hb (by simp [Fm.enc]; omega), by simp [Fm.enc]; omega⟩
  · exact ⟨.imp a b, rfl, FmOk.join (k := 4) rfl (by omega) ha hb (by simp [Fm.enc]; omega), by simp [Fm.enc]; omega⟩

/-- What the draw gives. -/
def DrawnP (w : World) (g : Nat) (cv : Value) (N : Nat) (size : Int) (e : Ending) (w' : World) : Prop :=
  ∃ v t, e = .returned v ∧ Own w' w.heap.size v (Fm.enc t) ∧ FmOk t ∧ (nn t : Int) ≤ size ∧ Src w' g cv N ∧ Only g w w'

theorem own_srcP {w w' : World} {B g : Nat} {v : Value} {xs : List Nd} (h : Own w B v xs) (hg : g < B) (ho : Only g w w') : Own w' B v xs :=
  own_only h ho (fun he => by have := own_of_ge h he; omega)
theorem draw_leaf {w w0 : World} {g : Nat} {cv v : Value} {N : Nat} {size : Int} {t : Tree} {xs : List Nd} (hsz : 1 ≤ size) (h1 : xs = Fm.enc t) (h2 : FmOk t) (h3 : nn t ≤ 1) (ho : Own w w0.heap.size v xs) (hS : Src w g cv N) (hO : Only g w0 w) : DrawnP w0 g cv N size (.returned v) w := by
  subst h1
  exact ⟨v, t, rfl, ho, h2, by omega, hS, hO⟩

set_option maxHeartbeats 2000000 in
theorem l02DrawP_c (g : Nat) (cv : Value) (N : Nat) (vs : Int) (hv0 : 1 ≤ vs) (hv1 : vs ≤ 6) : ∀ (m : Nat) (size : Int) (w : World), 1 ≤ size → size ≤ m → m ≤ 40 → Src w g cv N →
    Calls Tryz.prog 39 #[.pointer (some ⟨g, 0, none⟩), .int .i64 size, .int .i64 vs, .bool false] w (DrawnP w g cv N size) := by
  intro m
  induction m with
  | zero => intro size w h1 h2; omega
  | succ m ih =>
    intro size w h1 h2 hm hS
    have IH := Lib.hid (fun size w a b c => ih size w a b (by omega) c)
    clear ih
    have hgs := hS.lt
    by_cases hsz : size ≤ 2
    · have HSa := Lib.hid hS
      have hoa := Only.refl g w
      clear hS
      go_enter Tryz.func39, Tryz.ntmps39
      go_wp2_with fail
      refine (l01Next_c g cv N 8 _ HSa.out (by omega)).mono ?_
      rintro e wb ⟨r2, rfl, _, _, _, hSb, hob⟩
      have HSb := Lib.hid hSb
      have hab := hoa.trans hob
      clear hSb hob
      cases hr2 : (r2 == 0) with
      | true =>
        go_wp2_with fail
        refine (l02False_c _).mono ?_
        rintro e wc ⟨v, rfl, ho, hg⟩
        go_wp2_with fail
        go_ret
        exact draw_leaf h1 (t := .fls) rfl fmOk_fls (by simp [nn, Fm.enc]) (ho.base hab.size) (HSb.out.grew hg) (hab.grew hg)
      | false =>
        go_wp2_with fail
        refine (l01Next_c g cv N vs _ HSb.out (by omega)).mono ?_
        rintro e wc ⟨r3, rfl, hr30, hr31, _, hSc, hoc⟩
        have HSc := Lib.hid hSc
        have hac := hab.trans hoc
        clear hSc hoc
        go_wp2_with fail
        refine (l02Var_c r3 _).mono ?_
        rintro e wd ⟨v, rfl, ho, hg⟩
        go_wp2_with fail
        go_ret
        obtain ⟨tv, htv, hok⟩ := vari_tree hr30 (by have := hr31 (by omega); omega)
        exact draw_leaf h1 htv hok (by unfold nn; rw [← htv]; simp [Fm.vari]) (ho.base hac.size) (HSc.out.grew hg) (hac.grew hg)
    have HS := Lib.hid hS
    clear hS
    go_enter Tryz.func39, Tryz.ntmps39
    go_wp2_with fail
    refine (l01Next_c g cv N 9 _ HS.out (by omega)).mono ?_
    rintro e wa ⟨r1, rfl, _, _, _, hSa, hoa⟩
    have HSa := Lib.hid hSa
    clear hSa HS
    cases hr1 : (r1 == 0) with
    | true =>
      go_wp2_with fail
      refine (l01Next_c g cv N 8 _ HSa.out (by omega)).mono ?_
      rintro e wb ⟨r2, rfl, _, _, _, hSb, hob⟩
      have HSb := Lib.hid hSb
      have hab := hoa.trans hob
      clear hSb hob
      cases hr2 : (r2 == 0) with
      | true =>
        go_wp2_with fail
        refine (l02False_c _).mono ?_
        rintro e wc ⟨v, rfl, ho, hg⟩
        go_wp2_with fail
        go_ret
        exact draw_leaf h1 (t := .fls) rfl fmOk_fls (by simp [nn, Fm.enc]) (ho.base hab.size) (HSb.out.grew hg) (hab.grew hg)
      | false =>
        go_wp2_with fail
        refine (l01Next_c g cv N vs _ HSb.out (by omega)).mono ?_
        rintro e wc ⟨r3, rfl, hr30, hr31, _, hSc, hoc⟩
        have HSc := Lib.hid hSc
        have hac := hab.trans hoc
        clear hSc hoc
        go_wp2_with fail
        refine (l02Var_c r3 _).mono ?_
        rintro e wd ⟨v, rfl, ho, hg⟩
        go_wp2_with fail
        go_ret
        obtain ⟨tv, htv, hok⟩ := vari_tree hr30 (by have := hr31 (by omega); omega)
        exact draw_leaf h1 htv hok (by unfold nn; rw [← htv]; simp [Fm.vari]) (ho.base hac.size) (HSc.out.grew hg) (hac.grew hg)
    | false =>
    have HSb := HSa
    have hab := hoa
    clear hoa HSa
    go_wp2_with fail
    refine (l01Next_c g cv N 6 _ HSb.out (by omega)).mono ?_
    rintro e wc ⟨r3, rfl, _, _, _, hSc, hoc⟩
    have HSc := Lib.hid hSc
    have hac := hab.trans hoc
    clear hSc hoc hab HSb
    cases hr3 : (r3 == 0) with
    | true =>
      go_wp2_with fail
      refine (IH.out (size - 2) _ (by omega) (by omega) HSc.out).mono ?_
      rintro e wd ⟨v, t, rfl, ho, he, hl, hSd, hod⟩
      have HSd := Lib.hid hSd
      clear hSd
      have HE := Lib.hid he
      clear he
      unfold nn at hl
      go_wp2_with fail
      refine (l02Not_c v _ _ ho.nodes (by omega)).mono ?_
      rintro e we ⟨v2, rfl, ho2, hg2⟩
      go_wp2_with fail
      go_ret
      obtain ⟨t2, q1, q2, q3⟩ := join_tree (k := 4) (by omega) (by omega) HE.out fmOk_fls (b := .fls) (by simp [nn, Fm.enc]; omega)
      have q4 : Fm.neg (Fm.enc t) = Fm.enc t2 := q1
      rw [q4] at ho2
      exact ⟨_, t2, rfl, ho2.base (hac.trans hod).size, q2, by rw [q3]; simp [nn, Fm.enc]; omega, HSd.out.grew hg2, (hac.trans hod).grew hg2⟩
    | false =>
    go_wp2_with fail
    refine (l01Next_c g cv N (size - 2) _ HSc.out (by omega)).mono ?_
    rintro e wd ⟨r4, rfl, hr40, hr41, _, hSd, hod⟩
    have HSd := Lib.hid hSd
    have had := hac.trans hod
    have hr42 := hr41 (by omega)
    clear hSd hod hac HSc hr41
    go_wp2_with fail
    refine (IH.out (1 + r4) _ (by omega) (by omega) HSd.out).mono ?_
    rintro e we ⟨v1, t1, rfl, ho1, he1, hl1, hSe, hoe⟩
    have HSe := Lib.hid hSe
    have HE1 := Lib.hid he1
    have hsize := had.size
    have hae := had.trans hoe
    have HO1 := Lib.hid ho1
    clear hSe he1 hoe ho1
    go_wp2_with fail
    refine (l01Next_c g cv N 3 _ HSe.out (by omega)).mono ?_
    rintro e wf ⟨r5, rfl, hr50, hr51, _, hSf, hof⟩
    have HSf := Lib.hid hSf
    have HO2 := Lib.hid (own_srcP HO1.out (by omega) hof)
    have haf := hae.trans hof
    have hr52 := hr51 (by omega)
    clear hSf hof HO1 HSe hr51
    go_wp2_with fail
    refine (IH.out (size - 1 - (1 + r4)) _ (by omega) (by omega) HSf.out).mono ?_
    rintro e wg ⟨v2, t2, rfl, ho2, he2, hl2, hSg, hog⟩
    have hl9 := hl1
    have hl8 := hl2
    unfold nn at hl9 hl8
    have HSg := Lib.hid hSg
    have HE2 := Lib.hid he2
    have hO3 := own_srcP HO2.out (by omega) hog
    have hag := haf.trans hog
    clear hSg he2 hog HSf HO2
    go_wp2_with fail
    refine (l02Pair_c _ v1 v2 _ _ _ hO3.nodes ho2.nodes (by omega)).mono ?_
    rintro e wh ⟨v3, rfl, ho3, hg3⟩
    go_wp2_with fail
    go_ret
    obtain ⟨t3, q1, q2, q3⟩ := join_tree (k := 2 + r5) (by omega) (by omega) HE1.out HE2.out (by omega)
    rw [q1] at ho3
    exact ⟨_, t3, rfl, ho3.base hag.size, q2, by rw [q3]; omega, HSg.out.grew hg3, hag.grew hg3⟩
end Go.Proofs.YtefkgomecpnpbaaGreat

/- The source made: l01From; the damage: l01Damage. -/
namespace Go.Proofs.YtefkgomecpnpbaaGreat
open Go.RowKit

/-- The bytes that came in. -/
def ArgB (w : World) (v : Value) (N : Nat) : Prop :=
  (∃ A c, v = .slice A N c) ∧ N ≤ 9223372036854775807 ∧ (0 < N → ∃ b o c, v = .slice (some ⟨b, o, none⟩) N c ∧ b < w.heap.size ∧ N ≤ c ∧ c ≤ 9223372036854775807 ∧ ∀ j, j < N → ∃ x : Int, 0 ≤ x ∧ x ≤ 255 ∧ w.cell? ⟨b, o + j, none⟩ = some (.int .u8 x))
theorem ArgB.code {w w' : World} {v : Value} {N g : Nat} (h : ArgB w v N) (hN : N ≤ 4096) (hg : Grew w w') (hl : w.heap.size ≤ g) : Code w' g v N := by
  obtain ⟨h1, _, h2⟩ := h
  refine ⟨hN, h1, fun hp => ?_⟩
  obtain ⟨b, o, c, e, hb, hc, hm, hx⟩ := h2 hp
  refine ⟨b, o, c, e, by omega, hc, hm, fun j hj => ?_⟩
  obtain ⟨x, x0, x1, hcell⟩ := hx j hj
  exact ⟨x, x0, x1, (hg.cell (p := ⟨b, o + j, none⟩) hb).trans hcell⟩

theorem l01From_c (v : Value) (N : Nat) (w : World) (h : ArgB w v N) (hN : N ≤ 4096) :
    Calls Tryz.prog 18 #[v] w fun e w' => ∃ g, e = .returned (.pointer (some ⟨g, 0, none⟩)) ∧ w.heap.size ≤ g ∧ Src w' g v N ∧ Grew w w' := by
  have HC := Lib.hid (fun w' (hg : Grew w w') => h.code hN hg (Nat.le_refl w.heap.size))
  obtain ⟨⟨A, c, rfl⟩, hmax, h2⟩ := h
  have H2 := Lib.hid h2
  clear h2
  go_enter Tryz.func18, Tryz.ntmps18
  go_wp2_with fail
  have hnew := fun o => blk_new w o
  go_loopw [4] (fun i wr => ∃ (j : Nat) (x : Int), j ≤ N ∧ i = .int .i64 j ∧ 0 ≤ x ∧ x ≤ 18446744073709551615 ∧ wr.heap[w.heap.size]? = some (.cells #[.slice A N c, .int .i64 0, .int .u64 x] 57 (0, 0)) ∧ Grew w wr) (fun i _ => N - (intOf i).toNat)
  case atStart => exact ⟨0, _, Nat.zero_le _, rfl, by omega, by omega, hnew _, (Grew.refl w).alloc _⟩
  case round =>
    obtain ⟨j, x, hj, rfl, hx0, hx1, hb, hB⟩ := hrel
    by_cases hlt : j < N
    · obtain ⟨b, o, c', e, hbg, hc, hm, hx⟩ := H2.out (by omega)
      obtain ⟨y, hy0, hy1, k1⟩ := hx j hlt
      obtain ⟨rfl, rfl⟩ : A = some ⟨b, o, none⟩ ∧ c = c' := by simpa using e
      have k2 := (hB.cell (p := ⟨b, o + j, none⟩) hbg).trans k1
      have c2 : wr.cell? ⟨w.heap.size, 2, none⟩ = some (.int .u64 x) := by rw [blk_cell hb]; rfl
      have f2 := blk_frozen hb 2
      have HB := Lib.hid hb
      have h4 : (j : Int) < 4096 := by omega
      clear hb e hx k1
      go_wp2_with fail
      have hw0 : ∀ z : Int, 0 ≤ IntKind.u64.wrap z := fun z => by rw [IntKind.wrap_u64]; omega
      have hw1 : ∀ z : Int, IntKind.u64.wrap z ≤ 18446744073709551615 := fun z => by rw [IntKind.wrap_u64]; omega
      have HW0 := Lib.hid hw0
      have HW1 := Lib.hid hw1
      clear hw0 hw1
      go_region
      go_wp2_with fail
      go_roundw
      case rel => exact ⟨j + 1, _, by omega, by go_num, HW0.out _, HW1.out _, blk_set (w := wr.drewN _) HB.out 2 _, (hB.drewN _).setCell (Nat.le_refl _) _⟩
      case measure => simp [intOf]; omega
    · go_wp2_with fail
      go_ret
      exact ⟨_, rfl, Nat.le_refl _, ⟨HC.out _ hB, 0, x, Nat.zero_le _, hx0, hx1, hb⟩, hB⟩
end Go.Proofs.YtefkgomecpnpbaaGreat

/- NishimuraOf of the reference, the draw of a formula. -/
namespace Go.Proofs.YtefkgomecpnpbaaGreat
open Go.RowKit
open Fm (Nd Tree)

set_option maxRecDepth 20000 in
theorem nisr_odd (k : Nat) (hk : 2 * k + 3 ≤ 8) (ih : ∀ m, m < 2 * k + 3 → ∀ w, Calls Tryz.prog 25 #[.int .i64 (m : Int)] w (Gives w (Fm.enc (nis m)))) (w : World) :
    Calls Tryz.prog 25 #[.int .i64 ((2 * k + 3 : Nat) : Int)] w (Gives w (Fm.enc (nis (2 * k + 3)))) := by
  rw [nis_enc1]
  have l1 := nis_len (2 * k + 2) (by omega)
  have l2 := nis_len (2 * k + 1) (by omega)
  obtain ⟨N, hN⟩ : ∃ N, N = 2 * k + 3 := ⟨_, rfl⟩
  obtain ⟨a, ha⟩ : ∃ a, a = 2 * k + 2 := ⟨_, rfl⟩
  obtain ⟨b, hb⟩ : ∃ b, b = 2 * k + 1 := ⟨_, rfl⟩
  have h1 := Lib.hid (ih a (by omega))
  have h2 := Lib.hid (ih b (by omega))
  have w1 : IntKind.i64.wrap ((N : Int) - 1) = (a : Int) := by rw [IntKind.wrap_i64]; omega
  have w2 : IntKind.i64.wrap ((N : Int) - 2) = (b : Int) := by rw [IntKind.wrap_i64]; omega
  have hm : (N : Int).tmod 2 = 1 := by rw [Int.tmod_eq_emod_of_nonneg (by omega)]; omega
  have hm2 : (N : Int) % 2 = 1 := by omega
  have e0 : ¬ (N : Int) = 0 := by omega
  have e1 : ¬ (N : Int) = 1 := by omega
  have e2 : ¬ (N : Int) = 2 := by omega
  have hN8 : (N : Int) ≤ 8 := by omega
  rw [← hN, ← ha, ← hb]
  rw [← ha] at l1
  rw [← hb] at l2
  clear hN ha hb ih hk
  generalize Fm.enc (nis a) = X at *
  generalize Fm.enc (nis b) = Y at *
  go_enter Tryz.func25, Tryz.ntmps25
  go_wp2_with fail
  refine (h1.out _).mono ?_
  rintro e w3 ⟨v1, rfl, o1, g1⟩
  go_wp2_with fail
  refine (h2.out _).mono ?_
  rintro e w4 ⟨v2, rfl, o2, g2⟩
  go_wp2_with fail
  refine (l02Pair_c 3 v1 v2 X Y _ (o1.grew g2).nodes o2.nodes (by omega)).mono ?_
  rintro e w5 ⟨v3, rfl, o3, g3⟩
  go_wp2_with fail
  go_ret
  have g12 := g1.trans g2
  exact ⟨_, rfl, o3.base g12.size, g12.trans g3⟩
set_option maxRecDepth 20000 in
theorem nisr_even (k : Nat) (hk : 2 * k + 4 ≤ 8) (ih : ∀ m, m < 2 * k + 4 → ∀ w, Calls Tryz.prog 25 #[.int .i64 (m : Int)] w (Gives w (Fm.enc (nis m)))) (w : World) :
    Calls Tryz.prog 25 #[.int .i64 ((2 * k + 4 : Nat) : Int)] w (Gives w (Fm.enc (nis (2 * k + 4)))) := by
  rw [nis_enc2]
  have l1 := nis_len (2 * k + 2) (by omega)
  have l2 := nis_len (2 * k + 1) (by omega)
  obtain ⟨N, hN⟩ : ∃ N, N = 2 * k + 4 := ⟨_, rfl⟩
  obtain ⟨a, ha⟩ : ∃ a, a = 2 * k + 2 := ⟨_, rfl⟩
  obtain ⟨b, hb⟩ : ∃ b, b = 2 * k + 1 := ⟨_, rfl⟩
  have h1 := Lib.hid (ih a (by omega))
  have h2 := Lib.hid (ih b (by omega))
  have w1 : IntKind.i64.wrap ((N : Int) - 2) = (a : Int) := by rw [IntKind.wrap_i64]; omega
  have w2 : IntKind.i64.wrap ((N : Int) - 3) = (b : Int) := by rw [IntKind.wrap_i64]; omega
  have hm : (N : Int).tmod 2 = 0 := by rw [Int.tmod_eq_emod_of_nonneg (by omega)]; omega
  have hm2 : (N : Int) % 2 = 0 := by omega
  have e0 : ¬ (N : Int) = 0 := by omega
  have e1 : ¬ (N : Int) = 1 := by omega
  have e2 : ¬ (N : Int) = 2 := by omega
  have hN8 : (N : Int) ≤ 8 := by omega
  rw [← hN, ← ha, ← hb]
  rw [← ha] at l1
  rw [← hb] at l2
  clear hN ha hb ih hk
  generalize Fm.enc (nis a) = X at *
  generalize Fm.enc (nis b) = Y at *
  go_enter Tryz.func25, Tryz.ntmps25
  go_wp2_with fail
  refine (h1.out _).mono ?_
  rintro e w3 ⟨v1, rfl, o1, g1⟩
  go_wp2_with fail
  refine (h2.out _).mono ?_
  rintro e w4 ⟨v2, rfl, o2, g2⟩
  go_wp2_with fail
  refine (l02Pair_c 4 v1 v2 X Y _ (o1.grew g2).nodes o2.nodes (by omega)).mono ?_
  rintro e w5 ⟨v3, rfl, o3, g3⟩
  go_wp2_with fail
  go_ret
  have g12 := g1.trans g2
  exact ⟨_, rfl, o3.base g12.size, g12.trans g3⟩
theorem nisr_0 (w : World) : Calls Tryz.prog 25 #[.int .i64 0] w (Gives w (Fm.enc (nis 0))) := by
  rw [enc_n0]
  have h := Lib.hid l02False_c
  go_enter Tryz.func25, Tryz.ntmps25
  go_wp2_with fail
  refine (h.out _).mono ?_
  rintro e w3 ⟨v1, rfl, o1, g1⟩
  go_wp2_with fail
  go_ret
  exact ⟨_, rfl, o1, g1⟩
theorem nisr_1 (w : World) : Calls Tryz.prog 25 #[.int .i64 1] w (Gives w (Fm.enc (nis 1))) := by
  rw [enc_n1]
  have h := Lib.hid l02Var_c
  go_enter Tryz.func25, Tryz.ntmps25
  go_wp2_with fail
  refine (h.out _ _).mono ?_
  rintro e w3 ⟨v1, rfl, o1, g1⟩
  go_wp2_with fail
  go_ret
  exact ⟨_, rfl, o1, g1⟩
theorem nisr_2 (w : World) : Calls Tryz.prog 25 #[.int .i64 2] w (Gives w (Fm.enc (nis 2))) := by
  rw [enc_n2]
  have h := Lib.hid l02Var_c
  have h2 := Lib.hid (fun v W hv => l02Not_c v (Fm.vari 0) W hv (by decide))
  go_enter Tryz.func25, Tryz.ntmps25
  go_wp2_with fail
  refine (h.out _ _).mono ?_
  rintro e w3 ⟨v1, rfl, o1, g1⟩
  go_wp2_with fail
  refine (h2.out _ _ o1.nodes).mono ?_
  rintro e w4 ⟨v2, rfl, o2, g2⟩
  go_wp2_with fail
  go_ret
  exact ⟨_, rfl, o2.base g1.size, g1.trans g2⟩
theorem l20Formula_c : ∀ (n : Nat), n ≤ 8 → ∀ w, Calls Tryz.prog 25 #[.int .i64 (n : Int)] w (Gives w (Fm.enc (nis n))) := by
  intro n
  induction n using Nat.strongRecOn with
  | ind n ih =>
    intro hn w
    by_cases h0 : n = 0
    · subst h0; exact nisr_0 w
    by_cases h1 : n = 1
    · subst h1; exact nisr_1 w
    by_cases h2 : n = 2
    · subst h2; exact nisr_2 w
    by_cases ho : n % 2 = 1
    · obtain ⟨k, rfl⟩ : ∃ k, n = 2 * k + 3 := ⟨(n - 3) / 2, by omega⟩
      exact nisr_odd k hn (fun m hm w => ih m hm (by omega) w) w
    · obtain ⟨k, rfl⟩ : ∃ k, n = 2 * k + 4 := ⟨(n - 4) / 2, by omega⟩
      exact nisr_even k hn (fun m hm w => ih m hm (by omega) w) w

theorem vars_code (xs : List Nd) (hv : Vs xs) : (decide (1 < (mbs (vm xs)).length) || (decide ((mbs (vm xs)).length = 1) && !decide (nt (mbs (vm xs)) 0 = 0))) = decide (1 < vm xs) := vars_one _ (vmK_lt hv _ (Nat.le_refl _))
set_option maxHeartbeats 1000000 in
theorem l20Code_c (va : Value) (xs : List Nd) (w : World) (ha : Nodes w va xs) (hn : xs.length ≤ 1048576) :
    Calls Tryz.prog 21 #[va] w fun e w' => e = .returned (.int .i64 (lcode xs)) ∧ Grew w w' := by
  have HF := Lib.hid (l02Is_c va xs w ha (by omega))
  have HP := Lib.hid (fun W (hW : Grew w W) => l02Plain_c va xs W (ha.grew hW) (by omega))
  have HV := Lib.hid (fun (h : fmB xs = true) W (hW : Grew w W) => l02Variables_c va xs W (ha.grew hW) (vs_fm h) hn)
  have HW := Lib.hid (fun (h : fmB xs = true) => vars_code xs (vs_fm h))
  have H1 := Lib.hid (@lcode_1 xs)
  have H5 := Lib.hid (@lcode_5 xs)
  have H0 := Lib.hid (@lcode_0 xs)
  obtain ⟨A, c, rfl⟩ := nodes_slice ha
  clear ha hn
  generalize lcode xs = R at *
  generalize vm xs = m at *
  generalize xs.length = n at *
  cases h1 : fmB xs with
  | false =>
    rw [h1] at HF
    have e1 := Lib.hid (H1.out h1)
    clear h1
    go_enter Tryz.func21, Tryz.ntmps21
    go_wp2_with fail
    refine (HF.out).mono ?_
    rintro e w1 ⟨rfl, hg1⟩
    go_wp2_with fail
    go_ret
    exact ⟨by rw [e1.out]; rfl, hg1⟩
  | true =>
    rw [h1] at HF
    have HV := Lib.hid (HV.out h1)
    have HW := Lib.hid (HW.out h1)
    have H5 := Lib.hid (H5.out h1)
    have H0 := Lib.hid (H0.out h1)
    clear h1
    go_enter Tryz.func21, Tryz.ntmps21
    go_wp2_with fail
    refine (HF.out).mono ?_
    rintro e w1 ⟨rfl, hg1⟩
    go_wp2_with fail
    refine (HV.out _ hg1).mono ?_
    rintro e w2 ⟨v2, rfl, o2, hg2⟩
    obtain ⟨A2, c2, rfl⟩ := ints_sliceN o2.ints
    have HC2 := Lib.hid (fun h0 => cellsN o2.ints h0)
    have hg12 := hg1.trans hg2
    clear o2
    generalize hq : (mbs m).length = q at *
    replace hq := Lib.hid hq
    generalize hz : nt (mbs m) 0 = z0 at *
    replace hz := Lib.hid hz
    cases h2 : anyP isBD xs with
    | true =>
      rw [h2] at HP
      have e1 := Lib.hid (H5.out (.inl h2))
      clear h2
      go_wp2_with fail
      refine (HP.out _ hg12).mono ?_
      rintro e w3 ⟨rfl, hg3⟩
      go_wp2_with fail
      go_ret
      exact ⟨by rw [e1.out]; rfl, hg12.trans hg3⟩
    | false =>
      rw [h2] at HP
      by_cases hl : 1 < q
      · have h3 : 1 < m := by
          have := HW.out
          rw [decide_eq_true hl, Bool.true_or] at this
          exact of_decide_eq_true this.symm
        have e1 := Lib.hid (H5.out (.inr h3))
        clear h2 h3
        go_wp2_with fail
        refine (HP.out _ hg12).mono ?_
        rintro e w3 ⟨rfl, hg3⟩
        go_wp2_with fail
        go_ret
        exact ⟨by rw [e1.out]; rfl, hg12.trans hg3⟩
      · by_cases hl1 : q = 1
        · obtain ⟨b, o, rfl, hcell⟩ := HC2.out (by omega)
          have k0 := hcell 0 (by omega)
          rw [hz.out, Nat.add_zero] at k0
          by_cases hz0 : z0 = 0
          · have h3 : ¬ 1 < m := by
              have := HW.out
              rw [decide_eq_false hl, hl1, hz0] at this
              exact of_decide_eq_false (by rw [← this]; rfl)
            have e1 := Lib.hid (H0.out h2 h3)
            subst hl1
            subst hz0
            clear h2 h3 hcell hl
            go_wp2_with fail
            refine (HP.out _ hg12).mono ?_
            rintro e w3 ⟨rfl, hg3⟩
            have k1 := k0 _ hg3
            go_wp2_with fail
            go_ret
            exact ⟨by rw [e1.out]; rfl, hg12.trans hg3⟩
          · have h3 : 1 < m := by
              have := HW.out
              rw [decide_eq_false hl, hl1, decide_eq_false hz0] at this
              exact of_decide_eq_true (by rw [← this]; rfl)
            have e1 := Lib.hid (H5.out (.inr h3))
            have hz1 : ¬ (z0 : Int) = 0 := by omega
            subst hl1
            clear h2 h3 hcell hl
            go_wp2_with fail
            refine (HP.out _ hg12).mono ?_
            rintro e w3 ⟨rfl, hg3⟩
            have k1 := k0 _ hg3
            go_wp2_with fail
            go_ret
            exact ⟨by rw [e1.out]; rfl, hg12.trans hg3⟩
        · have h3 : ¬ 1 < m := by
            have := HW.out
            rw [decide_eq_false hl, decide_eq_false hl1] at this
            exact of_decide_eq_false (by rw [← this]; rfl)
          have e1 := Lib.hid (H0.out h2 h3)
          clear h2 h3
          go_wp2_with fail
          refine (HP.out _ hg12).mono ?_
          rintro e w3 ⟨rfl, hg3⟩
          go_wp2_with fail
          go_ret
          exact ⟨by rw [e1.out]; rfl, hg12.trans hg3⟩
theorem nisR_no (va : Value) (xs : List Nd) (w : World) (ha : Nodes w va xs) (hn : xs.length ≤ 1048576) (hc : lcode xs ≠ 0) :
    Calls Tryz.prog 7 #[va] w (GivesC2 w ([], lcode xs)) := by
  have HC := Lib.hid (l20Code_c va xs w ha hn)
  obtain ⟨A, c, rfl⟩ := nodes_slice ha
  clear ha hn
  generalize lcode xs = d at *
  generalize xs.length = n at *
  go_enter Tryz.func7, Tryz.ntmps7
  go_wp2_with fail
  refine (HC.out).mono ?_
  rintro e w1 ⟨rfl, hg1⟩
  go_wp2_with fail
  go_ret2
  exact ⟨_, rfl, Own.nil_ _ _, hg1⟩
theorem nisR_yes (va : Value) (t : Tree) (w : World) (ha : Nodes w va (Fm.enc t)) (hc : lcode (Fm.enc t) = 0) (ht : FmOk t) (ho : Fm.One t) :
    Calls Tryz.prog 7 #[va] w (GivesC2 w (noL (nix (Fm.nc t)))) := by
  have HC := Lib.hid (l20Code_c va (Fm.enc t) w ha (by have := ht.1; omega))
  rw [hc] at HC
  have HV := Lib.hid (fun W (hW : Grew w W) => l20Value_c va t W (ha.grew hW) ht ho)
  obtain ⟨r1, r2⟩ := nix_range ht.1
  have HI := Lib.hid (fun W => l20Index_c (nix (Fm.nc t)) r1 r2 W)
  have KT := Lib.hid l02True_c
  have KN := Lib.hid l20Formula_c
  obtain ⟨A, c, rfl⟩ := nodes_slice ha
  clear ha hc ht ho
  generalize isetI (nix (Fm.nc t)) = S at *
  generalize nix (Fm.nc t) = d at *
  generalize (Fm.enc t).length = n at *
  by_cases h1 : d = -1
  · subst h1
    rw [noL_neg]
    go_enter Tryz.func7, Tryz.ntmps7
    go_wp2_with fail
    refine (HC.out).mono ?_
    rintro e w1 ⟨rfl, hg1⟩
    go_wp2_with fail
    refine (HV.out _ hg1).mono ?_
    rintro e w2 ⟨rfl, hg2⟩
    go_wp2_with fail
    refine (HI.out _).mono ?_
    rintro e w3 ⟨rfl, hg3⟩
    have h13 := (hg1.trans hg2).trans hg3
    go_wp2_with fail
    refine (KT.out _).mono ?_
    rintro e w4 ⟨v2, rfl, o2, hg4⟩
    go_wp2_with fail
    go_ret2
    exact ⟨_, rfl, o2.base h13.size, h13.trans hg4⟩
  have hd0 : ¬ d < 0 := by omega
  by_cases h8 : 8 < d
  · rw [noL_big h8]
    go_enter Tryz.func7, Tryz.ntmps7
    go_wp2_with fail
    refine (HC.out).mono ?_
    rintro e w1 ⟨rfl, hg1⟩
    go_wp2_with fail
    refine (HV.out _ hg1).mono ?_
    rintro e w2 ⟨rfl, hg2⟩
    go_wp2_with fail
    refine (HI.out _).mono ?_
    rintro e w3 ⟨rfl, hg3⟩
    have h13 := (hg1.trans hg2).trans hg3
    go_wp2_with fail
    go_ret2
    exact ⟨_, rfl, Own.nil_ _ _, h13⟩
  · obtain ⟨m, rfl⟩ : ∃ m : Nat, d = (m : Int) := ⟨d.toNat, by omega⟩
    have hm : m ≤ 8 := by omega
    rw [noL_nat hm]
    have KN := Lib.hid (KN.out m hm)
    generalize Fm.enc (nis m) = X at *
    go_enter Tryz.func7, Tryz.ntmps7
    go_wp2_with fail
    refine (HC.out).mono ?_
    rintro e w1 ⟨rfl, hg1⟩
    go_wp2_with fail
    refine (HV.out _ hg1).mono ?_
    rintro e w2 ⟨rfl, hg2⟩
    go_wp2_with fail
    refine (HI.out _).mono ?_
    rintro e w3 ⟨rfl, hg3⟩
    have h13 := (hg1.trans hg2).trans hg3
    go_wp2_with fail
    refine (KN.out _).mono ?_
    rintro e w4 ⟨v2, rfl, o2, hg4⟩
    go_wp2_with fail
    go_ret2
    exact ⟨_, rfl, o2.base h13.size, h13.trans hg4⟩
end Go.Proofs.YtefkgomecpnpbaaGreat

/- Lists of lists of nodes: slices.ContainsFunc over them; areFormulas. -/
namespace Go.Proofs.YtefkgomecpnpbaaGreat
open Go.RowKit
open Fm (Nd Tree)

/-- A list of lists of nodes. -/
def nl (Ls : List (List Nd)) (i : Nat) : List Nd := Ls.getD i []
/-- The value reads as the list of lists. -/
def NL (w : World) (v : Value) (Ls : List (List Nd)) : Prop :=
  ∃ b o c, v = .slice (some ⟨b, o, none⟩) Ls.length c ∧ Ls.length ≤ c ∧ c ≤ 9223372036854775807 ∧
    ∀ i, i < Ls.length → ∃ u, (∀ W, Grew w W → W.cell? ⟨b, o + i, none⟩ = some u) ∧ Nodes w u (nl Ls i)
theorem NL.grew {w w' : World} {v : Value} {Ls : List (List Nd)} (h : NL w v Ls) (hg : Grew w w') : NL w' v Ls := by
  obtain ⟨b, o, c, h1, h2, h3, h4⟩ := h
  refine ⟨b, o, c, h1, h2, h3, fun i hi => ?_⟩
  obtain ⟨u, k1, k2⟩ := h4 i hi
  exact ⟨u, fun W hW => k1 W (hg.trans hW), k2.grew hg⟩
theorem NL.one {w : World} {T : TypeId} {u : Value} {xs : List Nd} (h : Nodes w u xs) : NL (w.alloc (.cells #[u] T)) (.slice (some ⟨w.heap.size, 0, none⟩) 1 1) [xs] := by
  refine ⟨w.heap.size, 0, 1, rfl, Nat.le_refl _, by omega, fun i hi => ?_⟩
  obtain rfl : i = 0 := by simpa using hi
  exact ⟨u, fun W hW => (hW.cell (p := ⟨w.heap.size, 0 + 0, none⟩) (by simp)).trans (by simp), h.grew ((Grew.refl w).alloc _)⟩
theorem NL.two {w : World} {T : TypeId} {u u2 : Value} {xs ys : List Nd} (h : Nodes w u xs) (h2 : Nodes w u2 ys) : NL (w.alloc (.cells #[u, u2] T)) (.slice (some ⟨w.heap.size, 0, none⟩) 2 2) [xs, ys] := by
  refine ⟨w.heap.size, 0, 2, rfl, Nat.le_refl _, by omega, fun i hi => ?_⟩
  have hi2 : i < 2 := by simpa using hi
  match i, hi2 with
  | 0, _ => exact ⟨u, fun W hW => (hW.cell (p := ⟨w.heap.size, 0 + 0, none⟩) (by simp)).trans (by simp), h.grew ((Grew.refl w).alloc _)⟩
  | 1, _ => exact ⟨u2, fun W hW => (hW.cell (p := ⟨w.heap.size, 0 + 1, none⟩) (by simp)).trans (by simp), h2.grew ((Grew.refl w).alloc _)⟩

/-- None of the first k lists meets the predicate. -/
def NoneN (p : List Nd → Bool) (Ls : List (List Nd)) (k : Nat) : Prop := ∀ i, i < k → p (nl Ls i) = false
theorem NoneN.zero (p : List Nd → Bool) (Ls : List (List Nd)) : NoneN p Ls 0 := fun i hi => absurd hi (by omega)
theorem NoneN.succ {p : List Nd → Bool} {Ls : List (List Nd)} {k : Nat} (h : NoneN p Ls k) (h1 : p (nl Ls k) = false) : NoneN p Ls (k + 1) := by
  intro i hi
  rcases Nat.lt_or_ge i k with hk | hk
  · exact h i hk
  · obtain rfl : i = k := by omega
    exact h1
theorem nl_get {Ls : List (List Nd)} {i : Nat} (h : i < Ls.length) : Ls[i] = nl Ls i := by simp [nl, List.getD, h]
theorem noneN_any {p : List Nd → Bool} {Ls : List (List Nd)} (h : NoneN p Ls Ls.length) : Ls.any p = false := by
  rw [List.any_eq_false]
  intro x hx
  obtain ⟨i, hi, rfl⟩ := List.getElem_of_mem hx
  rw [nl_get hi, h i hi]
  simp
theorem anyN_at {p : List Nd → Bool} {Ls : List (List Nd)} {k : Nat} (hk : k < Ls.length) (h : p (nl Ls k) = true) : Ls.any p = true := by
  rw [List.any_eq_true]
  exact ⟨Ls[k], List.getElem_mem hk, by rw [nl_get hk]; exact h⟩
theorem noneN_of {p : List Nd → Bool} {Ls : List (List Nd)} (h : Ls.any p = false) {i : Nat} (hi : i < Ls.length) : p (nl Ls i) = false := by
  rw [List.any_eq_false] at h
  have := h _ (List.getElem_mem hi)
  rw [nl_get hi] at this
  simpa using this

theorem indexFuncN_c (v : Value) (Ls : List (List Nd)) (f : Nat) (p : List Nd → Bool) (w : World) (h : NL w v Ls)
    (hf : ∀ i, i < Ls.length → ∀ u W, Nodes W u (nl Ls i) → Calls Tryz.prog f #[u] W fun e W' => e = .returned (.bool (p (nl Ls i))) ∧ Grew W W') (eg : ∀ args w, (callFunc f args).run Tryz.prog w = .ok (.enter f args) w) :
    Calls Tryz.prog 107 #[v, .func (.func f) #[] #[]] w fun e w' => ∃ r : Int, e = .returned (.int .i64 r) ∧ Grew w w' ∧ decide (0 ≤ r) = Ls.any p := by
  obtain ⟨b, o, c, rfl, hc, hm, hcell⟩ := h
  obtain ⟨R, hR⟩ : ∃ R, R = Ls.any p := ⟨_, rfl⟩
  rw [← hR]
  have HA := Lib.hid (fun k hk h => hR.trans (@anyN_at p Ls k hk h))
  have HZ := Lib.hid (fun h => hR.trans (@noneN_any p Ls h))
  have HC := Lib.hid hcell
  have HF := Lib.hid hf
  clear hcell hf hR
  generalize hN : Ls.length = n at *
  clear hN
  go_enter Tryz.func107, Tryz.ntmps107
  go_wp2_with fail
  go_loopw [5, 8] (fun _ i wr => ∃ j : Nat, j ≤ n ∧ i = .int .i64 j ∧ Grew w wr ∧ Hid (NoneN p Ls j)) (fun _ i _ => n - (intOf i).toNat)
  case atStart => exact ⟨0, Nat.zero_le _, rfl, Grew.refl _, NoneN.zero _ _⟩
  case round =>
    obtain ⟨j, hj, rfl, hB, HJ⟩ := hrel
    by_cases hlt : j < n
    · obtain ⟨u, k0, hd⟩ := HC.out j hlt
      have k1 := k0 _ hB
      have hz := Lib.hid (fun W (hW : Grew w W) => HF.out j hlt u W (hd.grew hW))
      have hA := Lib.hid (HA.out j hlt)
      have hS := Lib.hid (fun h => HJ.out.succ (k := j) h)
      obtain ⟨A, c', rfl⟩ := nodes_slice hd
      clear k0 hd
      generalize nl Ls j = x at *
      go_wp2_with fail
      go_at_fn f
      refine (hz.out _ hB).mono ?_
      rintro e w1 ⟨rfl, hg1⟩
      have hB1 := hB.trans hg1
      cases hp : p x with
      | true =>
        have hv := hA.out hp
        go_wp2_with fail
        go_ret
        exact ⟨_, rfl, hB1, by rw [hv]; simp⟩
      | false =>
        have hs := Lib.hid (hS.out hp)
        go_wp2_with fail
        go_roundw
        case rel => exact ⟨j + 1, by omega, by go_num, hB1, hs⟩
        case measure => simp [intOf]; omega
    · obtain rfl : j = n := by omega
      have hv := Lib.hid (HZ.out HJ.out)
      go_wp2_with fail
      go_ret
      exact ⟨_, rfl, hB, by rw [hv.out]; rfl⟩

theorem containsFuncN_c (v : Value) (Ls : List (List Nd)) (f : Nat) (p : List Nd → Bool) (w : World) (h : NL w v Ls)
    (hf : ∀ i, i < Ls.length → ∀ u W, Nodes W u (nl Ls i) → Calls Tryz.prog f #[u] W fun e W' => e = .returned (.bool (p (nl Ls i))) ∧ Grew W W') (eg : ∀ args w, (callFunc f args).run Tryz.prog w = .ok (.enter f args) w) :
    Calls Tryz.prog 84 #[v, .func (.func f) #[] #[]] w fun e w' => e = .returned (.bool (Ls.any p)) ∧ Grew w w' := by
  have HI := Lib.hid (indexFuncN_c v Ls f p w h hf eg)
  clear h hf eg
  generalize Ls.any p = R at *
  go_enter Tryz.func84, Tryz.ntmps84
  go_wp2_with fail
  refine HI.out.mono ?_
  rintro e w1 ⟨r, rfl, hg1, hr⟩
  go_wp2_with fail
  go_ret
  exact ⟨by rw [← hr]; rfl, hg1⟩


noncomputable def badF (xs : List Nd) : Bool := !fmB xs
theorem badF_le {xs : List Nd} (h : badF xs = false) : 1 ≤ xs.length ∧ xs.length ≤ 40 := by
  unfold badF fmB at h
  simp only [Bool.not_eq_false', Bool.and_eq_true, decide_eq_true_eq] at h
  exact h.1.1
theorem areF1_c (u : Value) (xs : List Nd) (W : World) (h : Nodes W u xs) (hn : xs.length ≤ 1099511627776) : Calls Tryz.prog 106 #[u] W fun e W' => e = .returned (.bool (badF xs)) ∧ Grew W W' := by
  have K := Lib.hid (isFormula_g u xs W h hn)
  obtain ⟨A, c, rfl⟩ := nodes_slice h
  unfold badF
  clear h
  generalize fmB xs = d at *
  go_enter Tryz.func106, Tryz.ntmps106
  go_wp2_with fail
  refine (K.out).mono ?_
  rintro e w1 ⟨rfl, hg1⟩
  go_wp2_with fail
  go_ret
  exact ⟨rfl, hg1⟩
theorem areFormulas_c (v : Value) (Ls : List (List Nd)) (w : World) (h : NL w v Ls) (hf : ∀ i, i < Ls.length → (nl Ls i).length ≤ 1099511627776) :
    Calls Tryz.prog 83 #[v] w fun e w' => e = .returned (.bool (!Ls.any badF)) ∧ Grew w w' := by
  have e1 : ∀ args w, (callFunc 106 args).run Tryz.prog w = .ok (.enter 106 args) w := enters_of Tryz.func106 (by kernel_rfl) rfl
  have K1 := Lib.hid (containsFuncN_c v Ls 106 badF w h (fun i hi u W hu => areF1_c u _ W hu (hf i hi)) e1)
  clear h hf e1
  generalize Ls.any badF = R at *
  go_enter Tryz.func83, Tryz.ntmps83
  go_wp2_with fail
  refine (K1.out).mono ?_
  rintro e w1 ⟨rfl, hg1⟩
  go_wp2_with fail
  go_ret
  exact ⟨rfl, hg1⟩
end Go.Proofs.YtefkgomecpnpbaaGreat

/- The codes of formulas that are decided together: smallFormulasCode of the program, l23Formulas of the reference. -/
namespace Go.Proofs.YtefkgomecpnpbaaGreat
open Go.RowKit
open Fm (Nd Tree)

theorem NL.lists {w : World} {v : Value} {Ls : List (List Nd)} (h : NL w v Ls) (h0 : 0 < Ls.length) : Lists w v Ls := by
  obtain ⟨b, o, c, rfl, h2, h3, h4⟩ := h
  refine .inr ⟨b, o, c, rfl, h2, h3, ?_, fun i hi => ?_⟩
  · obtain ⟨u, k1, _⟩ := h4 0 h0
    have := k1 _ (Grew.refl w)
    rcases Nat.lt_or_ge b w.heap.size with hb | hb
    · exact hb
    · simp [World.cell?, Array.getElem?_eq_none hb] at this
  · obtain ⟨u, k1, k2⟩ := h4 i hi
    exact ⟨u, k1 _ (Grew.refl w), k2⟩
noncomputable def badP (xs : List Nd) : Bool := !!anyP isBD xs
/-- The code of formulas that are decided together. -/
noncomputable def fcode (Ls : List (List Nd)) : Int := if Ls.any badF then 1 else if Ls.any badP then 5 else if 20 < Ls.flatten.length then 3 else 0
theorem plain1_c (u : Value) (xs : List Nd) (W : World) (h : Nodes W u xs) (hn : xs.length ≤ 1099511627776) : Calls Tryz.prog 85 #[u] W fun e W' => e = .returned (.bool (badP xs)) ∧ Grew W W' := by
  have K := Lib.hid (isPlain_c u xs W h hn)
  obtain ⟨A, c, rfl⟩ := nodes_slice h
  unfold badP
  clear h
  generalize anyP isBD xs = d at *
  generalize hd : (!d) = d' at *
  go_enter Tryz.func85, Tryz.ntmps85
  go_wp2_with fail
  refine (K.out).mono ?_
  rintro e w1 ⟨rfl, hg1⟩
  go_wp2_with fail
  go_ret
  exact ⟨rfl, hg1⟩
noncomputable def pcode (Ls : List (List Nd)) : Int := if Ls.any badF then 1 else if Ls.any badP then 5 else 0
theorem plainCode_c (v : Value) (Ls : List (List Nd)) (w : World) (h : NL w v Ls) (hf : ∀ i, i < Ls.length → (nl Ls i).length ≤ 1099511627776) :
    Calls Tryz.prog 60 #[v] w fun e w' => e = .returned (.int .i64 (pcode Ls)) ∧ Grew w w' := by
  have e1 : ∀ args w, (callFunc 85 args).run Tryz.prog w = .ok (.enter 85 args) w := enters_of Tryz.func85 (by kernel_rfl) rfl
  have K0 := Lib.hid (areFormulas_c v Ls w h hf)
  have K1 := Lib.hid (fun W (hW : Grew w W) => containsFuncN_c v Ls 85 badP W (h.grew hW) (fun i hi u W hu => plain1_c u _ W hu (hf i hi)) e1)
  clear h hf e1
  unfold pcode
  generalize Ls.any badF = R at *
  generalize Ls.any badP = R2 at *
  cases R with
  | true =>
    go_enter Tryz.func60, Tryz.ntmps60
    go_wp2_with fail
    refine (K0.out).mono ?_
    rintro e w1 ⟨rfl, hg1⟩
    go_wp2_with fail
    go_ret
    exact ⟨rfl, hg1⟩
  | false =>
    cases R2 with
    | true =>
      go_enter Tryz.func60, Tryz.ntmps60
      go_wp2_with fail
      refine (K0.out).mono ?_
      rintro e w1 ⟨rfl, hg1⟩
      go_wp2_with fail
      refine (K1.out _ hg1).mono ?_
      rintro e w2 ⟨rfl, hg2⟩
      go_wp2_with fail
      go_ret
      exact ⟨rfl, hg1.trans hg2⟩
    | false =>
      go_enter Tryz.func60, Tryz.ntmps60
      go_wp2_with fail
      refine (K0.out).mono ?_
      rintro e w1 ⟨rfl, hg1⟩
      go_wp2_with fail
      refine (K1.out _ hg1).mono ?_
      rintro e w2 ⟨rfl, hg2⟩
      go_wp2_with fail
      go_ret
      exact ⟨rfl, hg1.trans hg2⟩
theorem smallCode_c (v : Value) (Ls : List (List Nd)) (w : World) (h : NL w v Ls) (h0 : 0 < Ls.length) (hl : Ls.length ≤ 100) (hf : ∀ i, i < Ls.length → (nl Ls i).length ≤ 1099511627776) (ht : Ls.flatten.length ≤ 1099511627776) :
    Calls Tryz.prog 32 #[v] w fun e w' => e = .returned (.int .i64 (fcode Ls)) ∧ Grew w w' := by
  have K0 := Lib.hid (plainCode_c v Ls w h hf)
  have K1 := Lib.hid (fun W (hW : Grew w W) => concat_c v Ls W ((h.grew hW).lists h0) (by omega) ht)
  have hp : pcode Ls = 0 → fcode Ls = if 20 < Ls.flatten.length then 3 else 0 := fun h => by
    unfold pcode at h; unfold fcode
    split at h
    · cases h
    · split at h
      · cases h
      · rename_i h1 h2; rw [if_neg h1, if_neg h2]
  have hp2 : pcode Ls ≠ 0 → fcode Ls = pcode Ls := fun h => by
    unfold pcode at *; unfold fcode
    split at h
    · rename_i h1; rw [if_pos h1, if_pos h1]
    · rename_i h1
      split at h
      · rename_i h2; rw [if_neg h1, if_pos h2, if_neg h1, if_pos h2]
      · exact absurd rfl h
  obtain ⟨b, o, c, rfl, _⟩ := h
  clear hf
  by_cases hz : pcode Ls = 0
  · rw [hp hz]
    rw [hz] at K0
    clear hp hp2 hz
    unfold Gives at K1
    generalize Ls.flatten = F at *
    by_cases h20 : 20 < F.length
    · rw [if_pos h20]
      go_enter Tryz.func32, Tryz.ntmps32
      go_wp2_with fail
      refine (K0.out).mono ?_
      rintro e w1 ⟨rfl, hg1⟩
      go_wp2_with fail
      refine (K1.out _ hg1).mono ?_
      rintro e w2 ⟨u, rfl, hu, hg2⟩
      obtain ⟨A, c2, rfl⟩ := nodes_slice hu.nodes
      clear hu
      go_wp2_with fail
      go_ret
      exact ⟨rfl, hg1.trans hg2⟩
    · rw [if_neg h20]
      go_enter Tryz.func32, Tryz.ntmps32
      go_wp2_with fail
      refine (K0.out).mono ?_
      rintro e w1 ⟨rfl, hg1⟩
      go_wp2_with fail
      refine (K1.out _ hg1).mono ?_
      rintro e w2 ⟨u, rfl, hu, hg2⟩
      obtain ⟨A, c2, rfl⟩ := nodes_slice hu.nodes
      clear hu
      go_wp2_with fail
      go_ret
      exact ⟨rfl, hg1.trans hg2⟩
  · rw [hp2 hz]
    clear hp hp2 K1
    generalize pcode Ls = k at *
    have hk : (k != 0) = true := by simpa using hz
    go_enter Tryz.func32, Tryz.ntmps32
    go_wp2_with fail
    refine (K0.out).mono ?_
    rintro e w1 ⟨rfl, hg1⟩
    go_wp2_with fail
    go_ret
    exact ⟨rfl, hg1⟩

/-- What the reference's loop holds. -/
noncomputable def plainN (Ls : List (List Nd)) (j : Nat) : Bool := (Ls.take j).all fun x => !anyP isBD x
theorem plainN_zero (Ls : List (List Nd)) : plainN Ls 0 = true := by simp [plainN]
theorem plainN_succ {Ls : List (List Nd)} {j : Nat} (h : j < Ls.length) : plainN Ls (j + 1) = (plainN Ls j && !anyP isBD (nl Ls j)) := by
  unfold plainN
  rw [List.take_succ_eq_append_getElem h, List.all_append, ← nl_get h]
  simp
theorem plainN_all (Ls : List (List Nd)) : plainN Ls Ls.length = !Ls.any badP := by
  unfold plainN
  rw [List.take_length]
  induction Ls with
  | nil => rfl
  | cons a Ls ih => rw [List.all_cons, List.any_cons, ih]; unfold badP; cases anyP isBD a <;> simp
theorem fcode_bad {Ls : List (List Nd)} (h : Ls.any badF = true) : fcode Ls = 1 := by unfold fcode; rw [if_pos h]
theorem fcode_no {Ls : List (List Nd)} (h : NoneN badF Ls Ls.length) : fcode Ls = if (!plainN Ls Ls.length) = true then 5 else if (20 : Int) < (total Ls Ls.length : Nat) then 3 else 0 := by
  unfold fcode
  rw [noneN_any h, if_neg (by simp), plainN_all, Bool.not_not]
  have e : total Ls Ls.length = Ls.flatten.length := by unfold total; rw [List.take_length]
  rw [e]
  congr 1
  by_cases h20 : 20 < Ls.flatten.length
  · rw [if_pos h20, if_pos (by omega)]
  · rw [if_neg h20, if_neg (by omega)]
end Go.Proofs.YtefkgomecpnpbaaGreat

/- The moves of the search on lists: each is sound, loses nothing where it must not, and makes the sequent smaller. No program is in sight. -/
namespace Go.Proofs.YtefkgomecpnpbaaGreat
open Go.RowKit
open Fm (Tree Ent)

noncomputable def hasL (L : List Tree) (x : Tree) : Bool := dc (x ∈ L)
theorem hasL_true {L : List Tree} {x : Tree} : hasL L x = true ↔ x ∈ L := ⟨of_dc, dc_true⟩
theorem hasL_false {L : List Tree} {x : Tree} : hasL L x = false ↔ ¬ x ∈ L := ⟨not_dc, dc_false⟩
noncomputable def with1 (L : List Tree) (x : Tree) : List Tree := if hasL L x then L else L ++ [x]
noncomputable def withL (L xs : List Tree) : List Tree := xs.foldl with1 L
theorem with1_mem {L : List Tree} {x b : Tree} : b ∈ with1 L x ↔ b ∈ L ∨ b = x := by
  unfold with1
  cases h : hasL L x with
  | true =>
    have := hasL_true.1 h
    simp only [if_true]
    exact ⟨.inl, fun k => k.elim id (fun e => e ▸ this)⟩
  | false => simp
theorem with1_adds (L : List Tree) (x : Tree) : Adds (withL L [x]) L x := fun _ => with1_mem
theorem with2_adds (L : List Tree) (x y : Tree) : Adds2 (withL L [x, y]) L x y := fun b => by
  show b ∈ with1 (with1 L x) y ↔ _
  rw [with1_mem, with1_mem, or_assoc]
theorem with1_tot (f : Tree → Nat) (L : List Tree) (x : Tree) : tot f (with1 L x) ≤ tot f L + f x := by
  unfold with1
  split
  · omega
  · rw [tot_app, tot_one]; exact Nat.le_refl _
theorem withL_tot1 (f : Tree → Nat) (L : List Tree) (x : Tree) : tot f (withL L [x]) ≤ tot f L + f x := with1_tot f L x
theorem withL_tot2 (f : Tree → Nat) (L : List Tree) (x y : Tree) : tot f (withL L [x, y]) ≤ tot f L + f x + f y := by
  have h1 := with1_tot f (with1 L x) y
  have h2 := with1_tot f L x
  show tot f (with1 (with1 L x) y) ≤ _
  omega

theorem erase_tot (f : Tree → Nat) : ∀ (L : List Tree) (i : Nat) (a : Tree), L[i]? = some a → tot f L = tot f (L.eraseIdx i) + f a
  | [], i, a, h => by simp at h
  | b :: L, 0, a, h => by
    obtain rfl : b = a := by simpa using h
    rw [tot_cons]
    show f b + tot f L = tot f L + f b
    omega
  | b :: L, i + 1, a, h => by
    have := erase_tot f L i a (by simpa using h)
    rw [tot_cons]
    show f b + tot f L = tot f (b :: L.eraseIdx i) + f a
    rw [tot_cons]
    omega
theorem erase_adds : ∀ (L : List Tree) (i : Nat) (a : Tree), L[i]? = some a → Adds L (L.eraseIdx i) a
  | [], i, a, h => by simp at h
  | b :: L, 0, a, h => by
    obtain rfl : b = a := by simpa using h
    intro x
    show x ∈ b :: L ↔ x ∈ L ∨ x = b
    rw [List.mem_cons, Or.comm]
  | b :: L, i + 1, a, h => by
    intro x
    have := erase_adds L i a (by simpa using h) x
    show x ∈ b :: L ↔ x ∈ b :: L.eraseIdx i ∨ x = a
    rw [List.mem_cons, List.mem_cons, this, or_assoc]
theorem erase_mem {L : List Tree} {i : Nat} {a : Tree} (hi : L[i]? = some a) {b : Tree} (hb : b ∈ L) (hne : b ≠ a) : b ∈ L.eraseIdx i := ((erase_adds L i a hi b).1 hb).resolve_right hne
theorem at_mem {L : List Tree} {i : Nat} {a : Tree} (hi : L[i]? = some a) : a ∈ L := List.mem_of_getElem? hi

/-- A smaller state. -/
def Mv (L : List Tree) (c : Tree) (K : List Tree) (d : Tree) : Prop := OkS K d ∧ mu K d < mu L c
theorem mv_mk {L K : List Tree} {c d : Tree} (hS : OkS L c) (h1 : ∀ a ∈ K, FmOk a) (h2 : FmOk d) (h3 : tot f4 K + f4 d < tot f4 L + f4 c) (h4 : tot f2 K + f2 d ≤ tot f2 L + f2 c) : Mv L c K d :=
  ⟨⟨h1, h2, by have := hS.2.2; unfold nu at *; omega⟩, h3⟩

section
variable {L : List Tree} {c : Tree} {i : Nat}

theorem ok_erase (hS : OkS L c) : ∀ b ∈ L.eraseIdx i, FmOk b := fun b hb => hS.1 b ((List.eraseIdx_sublist L i).subset hb)
theorem ok_with1 {K : List Tree} {x : Tree} (h : ∀ b ∈ K, FmOk b) (hx : FmOk x) : ∀ b ∈ withL K [x], FmOk b := fun b hb => ((with1_adds K x b).1 hb).elim (h b) (fun e => e ▸ hx)
theorem ok_with2 {K : List Tree} {x y : Tree} (h : ∀ b ∈ K, FmOk b) (hx : FmOk x) (hy : FmOk y) : ∀ b ∈ withL K [x, y], FmOk b := fun b hb =>
  ((with2_adds K x y b).1 hb).elim (h b) (fun e => e.elim (fun e => e ▸ hx) (fun e => e ▸ hy))

/-- A formula follows from another one at once. -/
noncomputable def usl (R : List Tree) : Tree → Bool
  | .or x y => hasL R x || hasL R y
  | .imp x y => Fm.isF x || hasL R y
  | _ => false

theorem mv_useless (hS : OkS L c) {a : Tree} (hi : L[i]? = some a) (hu : usl (L.eraseIdx i) a = true) : Mv L c (L.eraseIdx i) c ∧ dc (EntL L c) = dc (EntL (L.eraseIdx i) c) := by
  have ha := erase_adds L i a hi
  refine ⟨mv_mk hS (ok_erase hS) hS.2.1 ?_ ?_, dc_congr ?_⟩
  · have := erase_tot f4 L i a hi; have := f4_pos a; omega
  · have := erase_tot f2 L i a hi; omega
  · cases a with
    | or x y =>
      refine el_or_useless ha ?_
      rcases Bool.or_eq_true_iff.1 hu with h | h
      · exact .inl (hasL_true.1 h)
      · exact .inr (hasL_true.1 h)
    | imp x y =>
      rcases Bool.or_eq_true_iff.1 hu with h | h
      · obtain rfl := Fm.isF_eq h
        exact el_fls_imp ha
      · exact el_imp_useless ha (hasL_true.1 h)
    | _ => cases hu
theorem mv_and (hS : OkS L c) {x y : Tree} (hi : L[i]? = some (.and x y)) : Mv L c (withL (L.eraseIdx i) [x, y]) c ∧ dc (EntL L c) = dc (EntL (withL (L.eraseIdx i) [x, y]) c) := by
  obtain ⟨hx, hy⟩ := fmOk_and (hS.1 _ (at_mem hi))
  refine ⟨mv_mk hS (ok_with2 (ok_erase hS) hx hy) hS.2.1 ?_ ?_, dc_congr (el_and (erase_adds L i _ hi) (with2_adds _ x y))⟩
  · have := erase_tot f4 L i _ hi; have := f4_and x y; have := withL_tot2 f4 (L.eraseIdx i) x y; omega
  · have := erase_tot f2 L i _ hi; have := f2_and x y; have := withL_tot2 f2 (L.eraseIdx i) x y; omega
theorem mv_or (hS : OkS L c) {x y : Tree} (hi : L[i]? = some (.or x y)) : Mv L c (withL (L.eraseIdx i) [x]) c ∧ Mv L c (withL (L.eraseIdx i) [y]) c ∧ dc (EntL L c) = (dc (EntL (withL (L.eraseIdx i) [x]) c) && dc (EntL (withL (L.eraseIdx i) [y]) c)) := by
  obtain ⟨hx, hy⟩ := fmOk_or (hS.1 _ (at_mem hi))
  have h4 := erase_tot f4 L i _ hi
  have h2 := erase_tot f2 L i _ hi
  have k4 := f4_or x y
  have k2 := f2_or x y
  refine ⟨mv_mk hS (ok_with1 (ok_erase hS) hx) hS.2.1 ?_ ?_, mv_mk hS (ok_with1 (ok_erase hS) hy) hS.2.1 ?_ ?_, ?_⟩
  · have := withL_tot1 f4 (L.eraseIdx i) x; omega
  · have := withL_tot1 f2 (L.eraseIdx i) x; omega
  · have := withL_tot1 f4 (L.eraseIdx i) y; omega
  · have := withL_tot1 f2 (L.eraseIdx i) y; omega
  · rw [← dc_and]
    exact dc_congr (el_or (erase_adds L i _ hi) (with1_adds _ x) (with1_adds _ y))
theorem mv_and_imp (hS : OkS L c) {x y z : Tree} (hi : L[i]? = some (.imp (.and x y) z)) : Mv L c (withL (L.eraseIdx i) [.imp x (.imp y z)]) c ∧ dc (EntL L c) = dc (EntL (withL (L.eraseIdx i) [.imp x (.imp y z)]) c) := by
  have hx := fmOk_and_imp (hS.1 _ (at_mem hi))
  refine ⟨mv_mk hS (ok_with1 (ok_erase hS) hx) hS.2.1 ?_ ?_, dc_congr (el_and_imp (erase_adds L i _ hi) (with1_adds _ _))⟩
  · have := erase_tot f4 L i _ hi; have := f4_and_imp x y z; have := withL_tot1 f4 (L.eraseIdx i) (.imp x (.imp y z)); omega
  · have := erase_tot f2 L i _ hi; have := f2_and_imp x y z; have := withL_tot1 f2 (L.eraseIdx i) (.imp x (.imp y z)); omega
theorem mv_or_imp (hS : OkS L c) {x y z : Tree} (hi : L[i]? = some (.imp (.or x y) z)) : Mv L c (withL (L.eraseIdx i) [.imp x z, .imp y z]) c ∧ dc (EntL L c) = dc (EntL (withL (L.eraseIdx i) [.imp x z, .imp y z]) c) := by
  obtain ⟨hx, hy⟩ := fmOk_or_imp (hS.1 _ (at_mem hi))
  refine ⟨mv_mk hS (ok_with2 (ok_erase hS) hx hy) hS.2.1 ?_ ?_, dc_congr (el_or_imp (erase_adds L i _ hi) (with2_adds _ _ _))⟩
  · have := erase_tot f4 L i _ hi; have := f4_or_imp x y z; have := withL_tot2 f4 (L.eraseIdx i) (.imp x z) (.imp y z); omega
  · have := erase_tot f2 L i _ hi; have := f2_or_imp x y z; have := withL_tot2 f2 (L.eraseIdx i) (.imp x z) (.imp y z); omega
theorem mv_mp (hS : OkS L c) {x y : Tree} (hi : L[i]? = some (.imp x y)) (hx : hasL (L.eraseIdx i) x = true) : Mv L c (withL (L.eraseIdx i) [y]) c ∧ dc (EntL L c) = dc (EntL (withL (L.eraseIdx i) [y]) c) := by
  obtain ⟨_, hy⟩ := fmOk_imp (hS.1 _ (at_mem hi))
  refine ⟨mv_mk hS (ok_with1 (ok_erase hS) hy) hS.2.1 ?_ ?_, dc_congr (el_mp (erase_adds L i _ hi) (hasL_true.1 hx) (with1_adds _ _))⟩
  · have := erase_tot f4 L i _ hi; have := f4_imp x y; have := withL_tot1 f4 (L.eraseIdx i) y; omega
  · have := erase_tot f2 L i _ hi; have := f2_imp x y; have := withL_tot1 f2 (L.eraseIdx i) y; omega
theorem mv_r_and {x y : Tree} (hS : OkS L (.and x y)) : Mv L (.and x y) L x ∧ Mv L (.and x y) L y ∧ dc (EntL L (.and x y)) = (dc (EntL L x) && dc (EntL L y)) := by
  obtain ⟨hx, hy⟩ := fmOk_and hS.2.1
  have k4 := f4_and x y
  have k2 := f2_and x y
  exact ⟨mv_mk hS hS.1 hx (by omega) (by omega), mv_mk hS hS.1 hy (by omega) (by omega), by rw [← dc_and]; exact dc_congr el_r_and⟩
theorem mv_r_imp {x y : Tree} (hS : OkS L (.imp x y)) : Mv L (.imp x y) (withL L [x]) y ∧ dc (EntL L (.imp x y)) = dc (EntL (withL L [x]) y) := by
  obtain ⟨hx, hy⟩ := fmOk_imp hS.2.1
  have k4 := f4_imp x y
  have k2 := f2_imp x y
  have l4 := withL_tot1 f4 L x
  have l2 := withL_tot1 f2 L x
  exact ⟨mv_mk hS (ok_with1 hS.1 hx) hy (by omega) (by omega), dc_congr (el_r_imp (with1_adds _ _))⟩
theorem mv_r_or {x y : Tree} (hS : OkS L (.or x y)) : Mv L (.or x y) L x ∧ Mv L (.or x y) L y ∧ (dc (EntL L x) = true → dc (EntL L (.or x y)) = true) ∧ (dc (EntL L y) = true → dc (EntL L (.or x y)) = true) := by
  obtain ⟨hx, hy⟩ := fmOk_or hS.2.1
  have k4 := f4_or x y
  have k2 := f2_or x y
  exact ⟨mv_mk hS hS.1 hx (by omega) (by omega), mv_mk hS hS.1 hy (by omega) (by omega), fun h => dc_true (el_r_or1 (of_dc h)), fun h => dc_true (el_r_or2 (of_dc h))⟩
theorem mv_imp_imp (hS : OkS L c) {x y z : Tree} (hi : L[i]? = some (.imp (.imp x y) z)) : Mv L c (withL (L.eraseIdx i) [.imp y z, x]) y ∧ Mv L c (withL (L.eraseIdx i) [z]) c ∧
    (dc (EntL (withL (L.eraseIdx i) [.imp y z, x]) y) = true → dc (EntL (withL (L.eraseIdx i) [z]) c) = true → dc (EntL L c) = true) := by
  obtain ⟨hx, hy, hz, _, hyz⟩ := fmOk_imp_imp (hS.1 _ (at_mem hi))
  have h4 := erase_tot f4 L i _ hi
  have h2 := erase_tot f2 L i _ hi
  have k4 := f4_imp_imp x y z
  have k2 := f2_imp_imp x y z
  have j4 := f4_imp (.imp x y) z
  have j2 := f2_imp (.imp x y) z
  refine ⟨mv_mk hS (ok_with2 (ok_erase hS) hyz hx) hy ?_ ?_, mv_mk hS (ok_with1 (ok_erase hS) hz) hS.2.1 ?_ ?_, fun e1 e2 => dc_true (el_imp_imp (erase_adds L i _ hi) (with2_adds _ _ _) (with1_adds _ _) (of_dc e1) (of_dc e2))⟩
  · have := withL_tot2 f4 (L.eraseIdx i) (.imp y z) x; omega
  · have := withL_tot2 f2 (L.eraseIdx i) (.imp y z) x; omega
  · have := withL_tot1 f4 (L.eraseIdx i) z; omega
  · have := withL_tot1 f2 (L.eraseIdx i) z; omega

/-- The first k formulas are stuck. -/
def StuckN (L : List Tree) (k : Nat) : Prop := ∀ j a, j < k → L[j]? = some a → StuckL L a
theorem StuckN.zero (L : List Tree) : StuckN L 0 := fun j _ hj => absurd hj (by omega)
theorem StuckN.succ {L : List Tree} {k : Nat} {a : Tree} (h : StuckN L k) (hk : L[k]? = some a) (ha : StuckL L a) : StuckN L (k + 1) := by
  intro j b hj hb
  rcases Nat.lt_or_ge j k with h1 | h1
  · exact h j b h1 hb
  · obtain rfl : j = k := by omega
    rw [hk] at hb
    cases hb
    exact ha
theorem stuck_var (v : Fin 6) : StuckL L (.var v) := .inl ⟨v, rfl⟩
theorem stuck_imp_var {v : Fin 6} {y : Tree} (hi : L[i]? = some (.imp (.var v) y)) (h : hasL (L.eraseIdx i) (.var v) = false) : StuckL L (.imp (.var v) y) :=
  .inr (.inl ⟨v, y, rfl, fun hm => hasL_false.1 h (erase_mem hi hm (by simp))⟩)
theorem stuck_imp_imp (x y z : Tree) : StuckL L (.imp (.imp x y) z) := .inr (.inr ⟨x, y, z, rfl⟩)
/-- A right side at which the search goes to the left. -/
def Shut (L : List Tree) (c : Tree) : Prop := (∃ v, c = .var v) ∨ c = .fls ∨ ∃ x y, c = .or x y ∧ dc (EntL L x) = false ∧ dc (EntL L y) = false
theorem ways_fail (hst : StuckN L L.length) (hc : hasL L c = false) (hk : Shut L c)
    (hno : ∀ i x y z, L[i]? = some (.imp (.imp x y) z) → (dc (EntL (withL (L.eraseIdx i) [.imp y z, x]) y) && dc (EntL (withL (L.eraseIdx i) [z]) c)) = false) : dc (EntL L c) = false := by
  refine dc_false fun hE => ?_
  have hs : ∀ a, a ∈ L → StuckL L a := fun a ha => by
    obtain ⟨j, hj, he⟩ := List.getElem_of_mem ha
    exact hst j a hj (by rw [List.getElem?_eq_getElem hj, he])
  have hk2 : (∃ v, c = .var v) ∨ c = .fls ∨ ∃ x y, c = .or x y := hk.imp id (fun h => h.imp id (fun ⟨x, y, h, _⟩ => ⟨x, y, h⟩))
  rcases el_ways hs (hasL_false.1 hc) hk2 hE with ⟨x, y, rfl, h⟩ | ⟨x, y, z, hm, h⟩
  · rcases hk with ⟨v, hv⟩ | hf | ⟨x', y', he, hx, hy⟩
    · cases hv
    · cases hf
    · cases he
      exact h.elim (not_dc hx) (not_dc hy)
  · obtain ⟨j, hj, he⟩ := List.getElem_of_mem hm
    have hj2 : L[j]? = some (.imp (.imp x y) z) := by rw [List.getElem?_eq_getElem hj, he]
    obtain ⟨h1, h2⟩ := h (L.eraseIdx j) (fun b hb hne => erase_mem hj2 hb hne)
    have := hno j x y z hj2
    rw [dc_true (h1 _ (with2_adds _ _ _)), dc_true (h2 _ (with1_adds _ _))] at this
    cases this
theorem ok_one {x : Tree} (hx : FmOk x) : ∀ a ∈ [x], FmOk a := fun a ha => by rw [List.mem_singleton] at ha; rw [ha]; exact hx
theorem ok_two {x y : Tree} (hx : FmOk x) (hy : FmOk y) : ∀ a ∈ [x, y], FmOk a := fun a ha => by
  rcases List.mem_cons.1 ha with rfl | ha
  · exact hx
  · rw [List.mem_singleton] at ha; rw [ha]; exact hy
/-- None of the first k implications of an implication gives the formula. -/
def NoWay (L : List Tree) (c : Tree) (k : Nat) : Prop := ∀ i, i < k → ∀ x y z, L[i]? = some (.imp (.imp x y) z) → (dc (EntL (withL (L.eraseIdx i) [.imp y z, x]) y) && dc (EntL (withL (L.eraseIdx i) [z]) c)) = false
theorem NoWay.zero (L : List Tree) (c : Tree) : NoWay L c 0 := fun i hi => absurd hi (by omega)
theorem NoWay.succ {k : Nat} {t : Tree} (h : NoWay L c k) (hk : L[k]? = some t) (ht : ∀ x y z, t = .imp (.imp x y) z → (dc (EntL (withL (L.eraseIdx k) [.imp y z, x]) y) && dc (EntL (withL (L.eraseIdx k) [z]) c)) = false) : NoWay L c (k + 1) := by
  intro i hi x y z hx
  rcases Nat.lt_or_ge i k with h1 | h1
  · exact h i h1 x y z hx
  · obtain rfl : i = k := by omega
    rw [hk] at hx
    injection hx with hx
    exact ht x y z hx
theorem NoWay.all (h : NoWay L c L.length) : ∀ i x y z, L[i]? = some (.imp (.imp x y) z) → (dc (EntL (withL (L.eraseIdx i) [.imp y z, x]) y) && dc (EntL (withL (L.eraseIdx i) [z]) c)) = false :=
  fun i x y z hi => h i (List.getElem?_eq_some_iff.1 hi).1 x y z hi
end
end Go.Proofs.YtefkgomecpnpbaaGreat

/- The keys of the sequents that are remembered: equal keys are keys of equal sequents. No program is in sight. -/
namespace Go.Proofs.YtefkgomecpnpbaaGreat
open Go.RowKit
open Fm (Tree)

/-- A byte that is no separator. -/
def inner1 (b : UInt8) : Prop := b ≠ 47 ∧ b ≠ 59
theorem inner_wrap {l o : Nat} {s : List UInt8} (h : ∀ b ∈ s, inner1 b) : ∀ b ∈ Fm.wrap l o s, inner1 b := by
  unfold Fm.wrap
  split
  · intro b hb
    rcases List.mem_append.1 hb with hb | hb
    · rcases List.mem_append.1 hb with hb | hb
      · rw [List.mem_singleton] at hb; subst hb; exact ⟨by decide, by decide⟩
      · exact h b hb
    · rw [List.mem_singleton] at hb; subst hb; exact ⟨by decide, by decide⟩
  · exact h
theorem inner_bin {x y : List UInt8} {c : UInt8} (hx : ∀ b ∈ x, inner1 b) (hc : inner1 c) (hy : ∀ b ∈ y, inner1 b) : ∀ b ∈ x ++ [c] ++ y, inner1 b := by
  intro b hb
  simp only [List.mem_append, List.mem_singleton] at hb
  rcases hb with (hb | rfl) | hb
  · exact hx b hb
  · exact hc
  · exact hy b hb
theorem inner_txt (t : Tree) : ∀ l, ∀ b ∈ Fm.txt t l, inner1 b := by
  induction t with
  | var v =>
    intro l b hb
    simp only [Fm.txt, List.mem_singleton] at hb
    subst hb
    have h : ∀ v : Fin 6, UInt8.ofNat (112 + v.val) ≠ 47 ∧ UInt8.ofNat (112 + v.val) ≠ 59 := by decide
    exact h v
  | fls =>
    intro l b hb
    simp only [Fm.txt, List.mem_singleton] at hb
    subst hb
    exact ⟨by decide, by decide⟩
  | and x y hx hy => intro l; exact inner_wrap (inner_bin (hx 2) ⟨by decide, by decide⟩ (hy 3))
  | or x y hx hy => intro l; exact inner_wrap (inner_bin (hx 1) ⟨by decide, by decide⟩ (hy 2))
  | imp x y hx hy =>
    intro l
    simp only [Fm.txt]
    split
    · split
      · intro b hb
        simp only [List.mem_singleton] at hb
        subst hb
        exact ⟨by decide, by decide⟩
      · intro b hb
        simp only [List.cons_append, List.nil_append, List.mem_cons] at hb
        rcases hb with rfl | hb
        · exact ⟨by decide, by decide⟩
        · exact hx 3 b hb
    · exact inner_wrap (inner_bin (hx 1) ⟨by decide, by decide⟩ (hy 0))
  | box x hx =>
    intro l b hb
    simp only [Fm.txt, List.cons_append, List.nil_append, List.mem_cons] at hb
    rcases hb with rfl | rfl | hb
    · exact ⟨by decide, by decide⟩
    · exact ⟨by decide, by decide⟩
    · exact hx 3 b hb
  | dia x hx =>
    intro l b hb
    simp only [Fm.txt, List.cons_append, List.nil_append, List.mem_cons] at hb
    rcases hb with rfl | rfl | hb
    · exact ⟨by decide, by decide⟩
    · exact ⟨by decide, by decide⟩
    · exact hx 3 b hb

/-- The key of texts, each with a mark behind it. -/
def keyL (T : List ByteArray) : List UInt8 := T.flatMap fun t => t.data.toList ++ [47]
theorem keyL_snoc (T : List ByteArray) (t : ByteArray) : keyL (T ++ [t]) = keyL T ++ (t.data.toList ++ [47]) := by simp [keyL, List.flatMap_append]
/-- The key of a sequent. -/
def skey (T : List ByteArray) (r : ByteArray) : ByteArray := bs (keyL T ++ [59] ++ (r.data.toList ++ [47]))
theorem split_at {c : UInt8} : ∀ {x y A B : List UInt8}, (∀ b ∈ x, b ≠ c) → (∀ b ∈ y, b ≠ c) → x ++ c :: A = y ++ c :: B → x = y ∧ A = B
  | [], [], A, B, _, _, h => ⟨rfl, by simpa using h⟩
  | [], b :: y, A, B, _, hy, h => by
    simp only [List.nil_append, List.cons_append, List.cons.injEq] at h
    exact absurd h.1.symm (hy b (.head _))
  | a :: x, [], A, B, hx, _, h => by
    simp only [List.nil_append, List.cons_append, List.cons.injEq] at h
    exact absurd h.1 (hx a (.head _))
  | a :: x, b :: y, A, B, hx, hy, h => by
    simp only [List.cons_append, List.cons.injEq] at h
    obtain ⟨h1, h2⟩ := split_at (fun b hb => hx b (.tail _ hb)) (fun b hb => hy b (.tail _ hb)) h.2
    exact ⟨by rw [h.1, h1], h2⟩
theorem key_inj : ∀ {T S : List ByteArray} {A B : List UInt8}, (∀ t ∈ T, ∀ b ∈ t.data.toList, inner1 b) → (∀ t ∈ S, ∀ b ∈ t.data.toList, inner1 b) → keyL T ++ 59 :: A = keyL S ++ 59 :: B → T.map (·.data.toList) = S.map (·.data.toList) ∧ A = B
  | [], [], A, B, _, _, h => ⟨rfl, by simpa [keyL] using h⟩
  | [], s :: S, A, B, _, hS, h => by
    exfalso
    simp only [keyL, List.flatMap_nil, List.nil_append, List.flatMap_cons, List.append_assoc] at h
    have hs := hS s (.head _)
    cases hd : s.data.toList with
    | nil => rw [hd] at h; simp at h
    | cons b r =>
      rw [hd] at h hs
      simp only [List.cons_append, List.cons.injEq] at h
      exact (hs b (.head _)).2 h.1.symm
  | t :: T, [], A, B, hT, _, h => by
    exfalso
    simp only [keyL, List.flatMap_nil, List.nil_append, List.flatMap_cons, List.append_assoc] at h
    have hs := hT t (.head _)
    cases hd : t.data.toList with
    | nil => rw [hd] at h; simp at h
    | cons b r =>
      rw [hd] at h hs
      simp only [List.cons_append, List.cons.injEq] at h
      exact (hs b (.head _)).2 h.1
  | t :: T, s :: S, A, B, hT, hS, h => by
    have h2 : t.data.toList ++ 47 :: (keyL T ++ 59 :: A) = s.data.toList ++ 47 :: (keyL S ++ 59 :: B) := by
      simpa [keyL, List.flatMap_cons, List.append_assoc] using h
    obtain ⟨h3, h4⟩ := split_at (fun b hb => (hT t (.head _) b hb).1) (fun b hb => (hS s (.head _) b hb).1) h2
    obtain ⟨h5, h6⟩ := key_inj (fun t ht => hT t (.tail _ ht)) (fun t ht => hS t (.tail _ ht)) h4
    exact ⟨by simp only [List.map_cons, h3, h5], h6⟩
theorem tx_inner (A : Tree) : ∀ b ∈ (tx A).data.toList, inner1 b := by
  unfold tx
  rw [bs_list]
  exact inner_txt A 0
theorem map_tx_inj {L K : List Tree} (hL : ∀ a ∈ L, FmOk a) (hK : ∀ a ∈ K, FmOk a) (h : (L.map tx).map (·.data.toList) = (K.map tx).map (·.data.toList)) : L = K := by
  induction L generalizing K with
  | nil =>
    cases K with
    | nil => rfl
    | cons b K => simp at h
  | cons a L ih =>
    cases K with
    | nil => simp at h
    | cons b K =>
      simp only [List.map_cons, List.cons.injEq] at h
      have h1 : tx a = tx b := by rw [← bs_eq (tx a), ← bs_eq (tx b), h.1]
      have h2 := tx_inj (hL a (.head _)).1 (hK b (.head _)).1 h1
      rw [h2, ih (fun a ha => hL a (.tail _ ha)) (fun a ha => hK a (.tail _ ha)) h.2]
theorem skey_inj {L K : List Tree} {c d : Tree} (hL : ∀ a ∈ L, FmOk a) (hK : ∀ a ∈ K, FmOk a) (hc : FmOk c) (hd : FmOk d) (h : skey (L.map tx) (tx c) = skey (K.map tx) (tx d)) : L = K ∧ c = d := by
  have h1 : keyL (L.map tx) ++ 59 :: ((tx c).data.toList ++ [47]) = keyL (K.map tx) ++ 59 :: ((tx d).data.toList ++ [47]) := by
    have h2 := congrArg (fun s : ByteArray => s.data.toList) h
    unfold skey at h2
    simp only [bs_list] at h2
    simpa [List.append_assoc] using h2
  have hT : ∀ {M : List Tree}, ∀ t ∈ M.map tx, ∀ b ∈ t.data.toList, inner1 b := fun t ht => by
    obtain ⟨A, _, rfl⟩ := List.mem_map.1 ht
    exact tx_inner A
  obtain ⟨h3, h4⟩ := key_inj hT hT h1
  refine ⟨map_tx_inj hL hK h3, ?_⟩
  have h5 : (tx c).data.toList = (tx d).data.toList := (split_at (c := 47) (A := []) (B := []) (fun b hb => (tx_inner c b hb).1) (fun b hb => (tx_inner d b hb).1) h4).1
  exact tx_inj hc.1 hd.1 (by rw [← bs_eq (tx c), ← bs_eq (tx d), h5])

/-- What may be remembered at a key. -/
def MemoI (k : ByteArray) (r : Bool) : Prop := ∀ (L : List Tree) (c : Tree), (∀ a ∈ L, FmOk a) → FmOk c → k = skey (L.map tx) (tx c) → r = dc (EntL L c)
theorem memoI_mk {L : List Tree} {c : Tree} (hL : ∀ a ∈ L, FmOk a) (hc : FmOk c) : MemoI (skey (L.map tx) (tx c)) (dc (EntL L c)) := fun K d hK hd h => by
  obtain ⟨rfl, rfl⟩ := skey_inj hL hK hc hd h
  rfl
end Go.Proofs.YtefkgomecpnpbaaGreat

/- Contracts of the library (sorting, compacting strings), laid at this program. -/
namespace Go.Proofs
open Go.Shelf
def Tryz.lays190_ren : Go.Shelf.Ren := ⟨fun | 190 => 111 | 125 => 128 | 258 => 127 | 128 => 150 | 129 => 151 | 302 => 141 | 303 => 142 | 304 => 143 | 305 => 144 | 306 => 145 | 307 => 146 | 308 => 147 | 309 => 148 | 310 => 149 | 333 => 157 | 329 => 158 | 330 => 159 | 334 => 160 | 335 => 161 | 336 => 162 | 344 => 167 | n => n, fun | 31 => 68 | 9 => 9 | 3 => 3 | 46 => 72 | 0 => 0 | 51 => 141 | 53 => 49 | 4 => 4 | 183 => 133 | 182 => 132 | 131 => 138 | 5 => 5 | 218 => 147 | 222 => 151 | 228 => 154 | 229 => 155 | n => n, fun | n => n⟩
theorem Tryz.lays190 : Go.Proofs.Lays.n190 Tryz.prog Tryz.lays190_ren := {
  mixed := by kernel_rfl
  f125 := Tryz.func128.trans (congrArg some (by kernel_rfl))
  f128 := Tryz.func150.trans (congrArg some (by kernel_rfl))
  f129 := Tryz.func151.trans (congrArg some (by kernel_rfl))
  f190 := Tryz.func111.trans (congrArg some (by kernel_rfl))
  f258 := Tryz.func127.trans (congrArg some (by kernel_rfl))
  f302 := Tryz.func141.trans (congrArg some (by kernel_rfl))
  f303 := Tryz.func142.trans (congrArg some (by kernel_rfl))
  f304 := Tryz.func143.trans (congrArg some (by kernel_rfl))
  f305 := Tryz.func144.trans (congrArg some (by kernel_rfl))
  f306 := Tryz.func145.trans (congrArg some (by kernel_rfl))
  f307 := Tryz.func146.trans (congrArg some (by kernel_rfl))
  f308 := Tryz.func147.trans (congrArg some (by kernel_rfl))
  f309 := Tryz.func148.trans (congrArg some (by kernel_rfl))
  f310 := Tryz.func149.trans (congrArg some (by kernel_rfl))
  f329 := Tryz.func158.trans (congrArg some (by kernel_rfl))
  f330 := Tryz.func159.trans (congrArg some (by kernel_rfl))
  f333 := Tryz.func157.trans (congrArg some (by kernel_rfl))
  f334 := Tryz.func160.trans (congrArg some (by kernel_rfl))
  f335 := Tryz.func161.trans (congrArg some (by kernel_rfl))
  f336 := Tryz.func162.trans (congrArg some (by kernel_rfl))
  f344 := Tryz.func167.trans (congrArg some (by kernel_rfl))
  t0 := Tryz.underlying0
  a0 := Tryz.isAgg0
  z0 := Tryz.sizeOf0
  v0 := Tryz.zeroValue0
  t3 := Tryz.underlying3
  a3 := Tryz.isAgg3
  z3 := Tryz.sizeOf3
  v3 := Tryz.zeroValue3
  t4 := Tryz.underlying4
  a4 := Tryz.isAgg4
  z4 := Tryz.sizeOf4
  v4 := Tryz.zeroValue4
  t5 := Tryz.underlying5
  a5 := Tryz.isAgg5
  z5 := Tryz.sizeOf5
  v5 := Tryz.zeroValue5
  t9 := Tryz.underlying9
  a9 := Tryz.isAgg9
  z9 := Tryz.sizeOf9
  v9 := Tryz.zeroValue9
  t31 := Tryz.underlying68
  a31 := Tryz.isAgg68
  z31 := Tryz.sizeOf68
  v31 := Tryz.zeroValue68
  t46 := Tryz.underlying72
  a46 := Tryz.isAgg72
  z46 := Tryz.sizeOf72
  v46 := Tryz.zeroValue72
  t51 := Tryz.underlying141
  a51 := Tryz.isAgg141
  z51 := Tryz.sizeOf141
  v51 := Tryz.zeroValue141
  t53 := Tryz.underlying49
  a53 := Tryz.isAgg49
  z53 := Tryz.sizeOf49
  v53 := Tryz.zeroValue49
  t131 := Tryz.underlying138
  a131 := Tryz.isAgg138
  z131 := Tryz.sizeOf138
  v131 := Tryz.zeroValue138
  t182 := Tryz.underlying132
  a182 := Tryz.isAgg132
  z182 := Tryz.sizeOf132
  v182 := Tryz.zeroValue132
  t183 := Tryz.underlying133
  a183 := Tryz.isAgg133
  z183 := Tryz.sizeOf133
  v183 := Tryz.zeroValue133
  t218 := Tryz.underlying147
  a218 := Tryz.isAgg147
  z218 := Tryz.sizeOf147
  v218 := Tryz.zeroValue147
  t222 := Tryz.underlying151
  a222 := Tryz.isAgg151
  z222 := Tryz.sizeOf151
  v222 := Tryz.zeroValue151
  t228 := Tryz.underlying154
  a228 := Tryz.isAgg154
  z228 := Tryz.sizeOf154
  v228 := Tryz.zeroValue154
  t229 := Tryz.underlying155
  a229 := Tryz.isAgg155
  z229 := Tryz.sizeOf155
  v229 := Tryz.zeroValue155 }
open Go.Sort Go.RowKit in
theorem Tryz.slices_Sort_string (blk off cap : Nat) (ss : List (List UInt8)) (w : World) (hH : Holds encStr w blk off ss.toArray) (hblk : blk < w.heap.size) (hsz : ss.length < 4611686018427387904) :
    Calls Tryz.prog 111 #[.slice (some ⟨blk, off, none⟩) ss.length cap] w fun e w' =>
      e = .returned (.tuple #[]) ∧ ∃ n os, w' = grow (putRow encStr (Sort.ahead w n) blk off (ss.mergeSort fun x y => decide (x ≤ y)).toArray) os := Any.slices_Sort_string Tryz.lays190 blk off cap ss w hH hblk hsz
def Tryz.lays194_ren : Go.Shelf.Ren := ⟨fun | 194 => 112 | n => n, fun | 31 => 68 | 9 => 9 | 3 => 3 | 4 => 4 | 0 => 0 | n => n, fun | n => n⟩
theorem Tryz.lays194 : Go.Proofs.Lays.n194 Tryz.prog Tryz.lays194_ren := {
  mixed := by kernel_rfl
  f194 := Tryz.func112.trans (congrArg some (by kernel_rfl))
  t0 := Tryz.underlying0
  a0 := Tryz.isAgg0
  z0 := Tryz.sizeOf0
  v0 := Tryz.zeroValue0
  t3 := Tryz.underlying3
  a3 := Tryz.isAgg3
  z3 := Tryz.sizeOf3
  v3 := Tryz.zeroValue3
  t4 := Tryz.underlying4
  a4 := Tryz.isAgg4
  z4 := Tryz.sizeOf4
  v4 := Tryz.zeroValue4
  t9 := Tryz.underlying9
  a9 := Tryz.isAgg9
  z9 := Tryz.sizeOf9
  v9 := Tryz.zeroValue9
  t31 := Tryz.underlying68
  a31 := Tryz.isAgg68
  z31 := Tryz.sizeOf68
  v31 := Tryz.zeroValue68 }
open Go.RowKit Go.Lib Go.Sort in
theorem Tryz.slices_Compact_string (blk off cap : Nat) (zs : List (List UInt8)) (w : World) (hH : Holds encStr w blk off zs.toArray) (hsz : zs.length ≤ 9223372036854775807) (hcap : zs.length ≤ cap) :
    Calls Tryz.prog 112 #[.slice (some ⟨blk, off, none⟩) zs.length cap] w fun e w' => e = .returned (.slice (some ⟨blk, off, none⟩) (Lib.compact zs).length cap) ∧ ∃ q, w' = putRow encStr (Sort.ahead w q) blk off (Lib.compact zs ++ List.replicate (zs.length - (Lib.compact zs).length) []).toArray := Any.slices_Compact_string Tryz.lays194 blk off cap zs w hH hsz hcap
open Go.RowKit Go.Lib Go.Sort in
theorem Tryz.slices_Compact_string_empty (a : Option Addr) (cap : Nat) (w : World) :
    Calls Tryz.prog 112 #[.slice a 0 cap] w fun e w' => e = .returned (.slice a 0 cap) ∧ w' = w := Any.slices_Compact_string_empty Tryz.lays194 a cap w
open Go.RowKit Go.Sort in
theorem Tryz.slices_Sort_string_none (p : Option Addr) (cap : Nat) (w : World) :
    Calls Tryz.prog 111 #[.slice p 0 cap] w fun e w' => e = .returned (.tuple #[]) ∧ w' = w := Any.slices_Sort_string_none Tryz.lays190 p cap w
end Go.Proofs

/- Texts sorted, each once. -/
namespace Go.Proofs.YtefkgomecpnpbaaGreat
open Go.RowKit Go.Sort

/-! What compacting leaves. -/
theorem compact_sub (zs : List (List UInt8)) : (Lib.compact zs).Sublist zs := by
  have h : ((List.range zs.toArray.size).map (zs.toArray[·]!)) = zs := by have := Lib.range_map_get zs.toArray; simpa using this
  unfold Lib.compact Lib.compactUpTo
  have h2 := ((List.filter_sublist (l := List.range zs.length) (p := Lib.keeps zs.toArray)).map (zs.toArray[·]!))
  rw [show (List.range zs.length).map (zs.toArray[·]!) = zs by simpa using h] at h2
  exact h2
theorem compact_has (d : Array (List UInt8)) (m : Nat) : ∀ j, j < m → d[j]! ∈ Lib.compactUpTo d m := by
  intro j
  induction j with
  | zero =>
    intro hj
    exact List.mem_map.2 ⟨0, List.mem_filter.2 ⟨List.mem_range.2 hj, Lib.keeps_lt_one d 0 (by omega)⟩, rfl⟩
  | succ j ih =>
    intro hj
    by_cases h : d[j + 1]! = d[j]!
    · rw [h]; exact ih (by omega)
    · exact List.mem_map.2 ⟨j + 1, List.mem_filter.2 ⟨List.mem_range.2 hj, Lib.keeps_pos (by simpa using h)⟩, rfl⟩
theorem compact_mem (zs : List (List UInt8)) (x : List UInt8) : x ∈ Lib.compact zs ↔ x ∈ zs := by
  constructor
  · exact fun h => (compact_sub zs).subset h
  · intro h
    obtain ⟨j, hj, rfl⟩ := List.getElem_of_mem h
    have := compact_has zs.toArray zs.length j hj
    simpa [Lib.compact, getElem!_pos, hj] using this

/-- The bytes of texts. -/
def bl (L : List ByteArray) : List (List UInt8) := L.map (·.data.toList)
/-- Texts put together, sorted, each once. -/
def putB (L : List ByteArray) : List (List UInt8) := Lib.compact ((bl L).mergeSort fun x y => decide (x ≤ y))
theorem putB_mem (L : List ByteArray) (x : List UInt8) : x ∈ putB L ↔ x ∈ bl L := by
  unfold putB
  rw [compact_mem, (List.mergeSort_perm _ _).mem_iff]
/-- A part of them in some order. -/
theorem putB_perm (L : List ByteArray) : ∃ M, (putB L).Sublist M ∧ M.Perm (bl L) := ⟨_, compact_sub _, List.mergeSort_perm _ _⟩
theorem scells_bl (L : List ByteArray) : scells L = (bl L).map encStr := by
  unfold scells bl
  rw [List.map_map]
  apply List.map_congr_left
  intro x _
  rfl
theorem ofB (M : List (List UInt8)) : scells (M.map fun b => (⟨b.toArray⟩ : ByteArray)) = M.map encStr := by
  unfold scells
  rw [List.map_map]
  rfl
def putS (L : List ByteArray) : List ByteArray := (putB L).map fun b => (⟨b.toArray⟩ : ByteArray)

end Go.Proofs.YtefkgomecpnpbaaGreat

/- Texts put to a sorted list (put of the program): concat, sort, compact. -/
namespace Go.Proofs.YtefkgomecpnpbaaGreat
open Go.RowKit Go.Sort

theorem growS_c (n : Nat) (w : World) (hn : n ≤ 1099511627776) :
    Calls Tryz.prog 126 #[.slice none 0 0, .int .i64 n] w (GivesS w []) := by
  obtain ⟨i0, hi0, hz0, hz1, hz2⟩ := info_parts Tryz.infoStr
  rcases Nat.eq_zero_or_pos n with rfl | h0
  · go_enter Tryz.func126, Tryz.ntmps126
    go_wp2_with fail
    go_ret
    exact ⟨_, rfl, OwnS.nil_ _ _, Grew.refl _⟩
  · have hr := fun ty => run_grow_nil (P := Tryz.prog) w 68 3 ty 9 i0 _ 1 Tryz.underlying68 Tryz.underlying3 hi0 hz0 hz1 rfl (by omega) n h0 (by rw [hz2]; omega) (by omega)
    have HR := Lib.hid hr
    clear hr hz0 hz1 hz2 hi0
    go_enter Tryz.func126, Tryz.ntmps126
    go_wp2_with (at_builtin; obtain ⟨G, cs, hG1, hG2, hcs, hrun⟩ := HR.out _; refine Lib.wpList_append_run _ rfl _ _ _ _ rfl _ _ rfl rfl _ _ hrun ?_; have HC := Lib.hid hcs; clear hcs hrun)
    go_ret
    refine ⟨_, rfl, ?_, ((Grew.refl w).alloc _).drew⟩
    exact OwnS.mk_ (L := []) (Nat.le_refl _) (blk_new w _) (by simp) hG2 (by have := HC.out; omega) (by simp)

/-- 'out = append(out, xs...)', out a row of strings of the call's own. -/
theorem wpList_appSs {ops : Array Oper} {rest : List Oper} {o : Oper} {a : Act} {Q : Exit → Act → World → Prop} {w w0 : World} (s x : Operand) (hgd : o.guard = none)
    (ho : o.op = .call { callee := .builtin .append, args := #[s, x], argTypes := #[68, 68] })
    (v : Value) (L : List ByteArray) (hs : a.eval s = v) (hown : OwnS w w0.heap.size v L) (hg : Grew w0 w) (vx : Value) (K : List ByteArray) (hx : a.eval x = vx) (hr : Strs w vx K) (hn : L.length + K.length ≤ 1099511627776)
    (h : ∀ v' w', OwnS w' w0.heap.size v' (L ++ K) → Grew w0 w' → w.grownBy w' v.ownBlock → wpList Tryz.prog ops Q rest (a.put o.dst v') w') : wpList Tryz.prog ops Q (o :: rest) a w := by
  obtain ⟨i0, hi0, hz0, hz1, hz2⟩ := info_parts Tryz.infoStr
  refine wpList_append_rd w hgd s x _ ho w0.heap.size 9 i0 _ 1 16 Tryz.underlying68 hi0 hz0 hz1 hz2 rfl (by omega) v L.length (scells L) hs hown vx K.length (scells K) hx hr (scells_one K) (by unfold maxLen; omega) (by omega) hg.size ?_
  intro v' w' h1 h2 h3
  refine h v' w' ?_ (hg.grown h2 fun k hk => (hown.lt k hk).1) h2
  unfold OwnS
  rw [List.length_append, scells_append]
  exact h1

set_option maxHeartbeats 2000000 in
/-- Two lists, one behind the other. -/
theorem concat2_c (b : Nat) (A1 A2 : Option Addr) (c1 c2 : Nat) (L K : List ByteArray) (w : World) (h1 : Strs w (.slice A1 L.length c1) L) (h2 : Strs w (.slice A2 K.length c2) K)
    (k1 : ∀ W, Grew w W → W.cell? ⟨b, 0, none⟩ = some (.slice A1 L.length c1)) (k2 : ∀ W, Grew w W → W.cell? ⟨b, 1, none⟩ = some (.slice A2 K.length c2)) (hn : L.length + K.length ≤ 1099511627776) :
    Calls Tryz.prog 110 #[.slice (some ⟨b, 0, none⟩) 2 2] w (GivesS w (L ++ K)) := by
  have H1 := Lib.hid h1
  have H2 := Lib.hid h2
  have KG := Lib.hid (growS_c (L.length + K.length) w hn)
  have e1 : IntKind.i64.wrap ((L.length : Int) + (K.length : Int)) = (L.length : Int) + (K.length : Int) := by rw [IntKind.wrap_i64]; omega
  have p1 := k1 _ (Grew.refl _)
  have p2 := k2 _ (Grew.refl _)
  have eKG : ((L.length + K.length : Nat) : Int) = (L.length : Int) + (K.length : Int) := by omega
  rw [eKG] at KG
  have hL0 : (0 : Int) ≤ (L.length : Int) := by omega
  have hK0 : (0 : Int) ≤ (L.length : Int) + (K.length : Int) := by omega
  have hL1 : L.length ≤ 1099511627776 := by omega
  clear h1 h2 eKG
  go_enter Tryz.func110, Tryz.ntmps110
  go_wp2_with fail
  refine wp_loop_rounds 3 ?_
  rw [rounds_succ]
  go_wp2_with fail
  rw [rounds_succ]
  go_wp2_with fail
  rw [rounds_succ]
  go_wp2_with fail
  refine (KG.out).mono ?_
  rintro e w1 ⟨v1, rfl, ho1, hg1⟩
  have q1 := k1 _ hg1
  have r1 := Lib.hid (H1.out.grew hg1)
  go_wp2_with fail
  refine wp_loop_rounds 3 ?_
  rw [rounds_succ]
  go_wp2_with (first | (at_builtin; refine wpList_appSs (w0 := w) _ _ rfl rfl _ [] rfl ho1 hg1 _ L rfl r1.out (by simp; omega) ?_; intro v2 w2 hown2 hg2 _))
  rw [rounds_succ]
  have q2 := k2 _ hg2
  have r2 := Lib.hid (H2.out.grew hg2)
  go_wp2_with (first | (at_builtin; refine wpList_appSs (w0 := w) _ _ rfl rfl _ _ rfl hown2 hg2 _ K rfl r2.out (by simp; omega) ?_; intro v3 w3 hown3 hg3 _))
  rw [rounds_succ]
  go_wp2_with fail
  go_ret
  exact ⟨_, rfl, by simpa using hown3, hg3⟩
end Go.Proofs.YtefkgomecpnpbaaGreat

/- A row of texts behind sorting and compacting. -/
namespace Go.Proofs.YtefkgomecpnpbaaGreat
open Go.RowKit Go.Sort

theorem left_put {w w1 : World} {g cap n nn q : Nat} {os : Array Obj} {ss : List (List UInt8)} (hown : w1.ownsRow w.heap.size 9 1 (.slice (some ⟨g, 0, none⟩) n cap) n (ss.map encStr)) (hbel : Grew w w1) (hbg : w.heap.size ≤ g) (hlen : ss.length = n) :
    (putRow encStr (Sort.ahead (grow (putRow encStr (Sort.ahead w1 nn) g 0 (ss.mergeSort fun x y => decide (x ≤ y)).toArray) os) q) g 0 (Lib.compact (ss.mergeSort fun x y => decide (x ≤ y)) ++ List.replicate (n - (Lib.compact (ss.mergeSort fun x y => decide (x ≤ y))).length) []).toArray).ownsRow w.heap.size 9 1 (.slice (some ⟨g, 0, none⟩) (Lib.compact (ss.mergeSort fun x y => decide (x ≤ y))).length cap) (Lib.compact (ss.mergeSort fun x y => decide (x ≤ y))).length ((Lib.compact (ss.mergeSort fun x y => decide (x ≤ y))).map encStr) ∧
    Grew w (putRow encStr (Sort.ahead (grow (putRow encStr (Sort.ahead w1 nn) g 0 (ss.mergeSort fun x y => decide (x ≤ y)).toArray) os) q) g 0 (Lib.compact (ss.mergeSort fun x y => decide (x ≤ y)) ++ List.replicate (n - (Lib.compact (ss.mergeSort fun x y => decide (x ≤ y))).length) []).toArray) := by
  have hl2 : (ss.mergeSort fun x y => decide (x ≤ y)).length = ss.length := List.length_mergeSort ss
  have hle := Lib.compact_length_le (ss.mergeSort fun x y => decide (x ≤ y))
  subst hlen
  rcases hown.2 with ⟨h0, _⟩ | ⟨g', cap', cur, hv, hbase, hb, h1, h2, h3, h4⟩
  · cases h0
  cases hv
  have hs := ownsRow_sorted (n := nn) (os := os) (ts := ss.mergeSort fun x y => decide (x ≤ y)) hl2 hbase hb h1 h2 h3
  have hc := Lib.ownsRow_putRow (q := q) (k := (Lib.compact (ss.mergeSort fun x y => decide (x ≤ y))).length) (ys := Lib.compact (ss.mergeSort fun x y => decide (x ≤ y)) ++ List.replicate (ss.length - (Lib.compact (ss.mergeSort fun x y => decide (x ≤ y))).length) []) hs (by simp; omega) (by omega)
  rw [List.take_left] at hc
  exact ⟨hc, Lib.below_putRow (Below.grown hbel (grownBy_sorted _) hbel.size (fun j hj => by cases hj; exact hbase)) hbg⟩

theorem putS_nil : putS [] = [] := by simp [putS, putB, bl, Lib.compact, Lib.compactUpTo]

end Go.Proofs.YtefkgomecpnpbaaGreat

/- put of the program. -/
namespace Go.Proofs.YtefkgomecpnpbaaGreat
open Go.RowKit Go.Sort

set_option maxHeartbeats 2000000 in
theorem put_c (v vt : Value) (L K : List ByteArray) (w : World) (h : Strs w v L) (hk : Strs w vt K) (hn : L.length + K.length ≤ 1099511627776) :
    Calls Tryz.prog 88 #[v, vt] w fun e w' => ∃ u, e = .returned u ∧ OwnS w' w.heap.size u (putS (L ++ K)) ∧ Grew w w' := by
  obtain ⟨A1, c1, rfl⟩ := strs_slice h
  obtain ⟨A2, c2, rfl⟩ := strs_slice hk
  have HAL := Lib.hid ((Grew.refl w).alloc (.cells #[.slice A1 L.length c1, .slice A2 K.length c2] 68))
  have KC := Lib.hid (concat2_c w.heap.size A1 A2 c1 c2 L K (w.alloc (.cells #[.slice A1 L.length c1, .slice A2 K.length c2] 68)) (h.grew HAL.out) (hk.grew HAL.out)
    (fun W hW => (hW.cell (p := ⟨w.heap.size, 0, none⟩) (by simp)).trans (by simp)) (fun W hW => (hW.cell (p := ⟨w.heap.size, 1, none⟩) (by simp)).trans (by simp)) hn)
  have hll : (L ++ K).length ≤ 1099511627776 := by rw [List.length_append]; exact hn
  clear h hk
  generalize L ++ K = M at *
  by_cases hM : M = []
  · subst hM
    rw [putS_nil]
    have KS := Lib.hid (fun p cap w => Tryz.slices_Sort_string_none p cap w)
    have KT := Lib.hid (fun p cap w => Tryz.slices_Compact_string_empty p cap w)
    go_enter Tryz.func88, Tryz.ntmps88
    go_wp2_with fail
    refine (KC.out).mono ?_
    rintro e w1 ⟨v1, rfl, ho1, hg1⟩
    obtain ⟨A, c, rfl⟩ := strs_slice ho1.strs
    simp only [List.length_nil]
    go_wp2_with fail
    refine (KS.out _ _ _).mono ?_
    rintro e w2 ⟨rfl, rfl⟩
    go_wp2_with fail
    refine (KT.out _ _ _).mono ?_
    rintro e w3 ⟨rfl, rfl⟩
    go_wp2_with fail
    go_ret
    exact ⟨_, rfl, ho1.base HAL.out.size, HAL.out.trans hg1⟩
  · have hpos : 0 < M.length := List.length_pos_iff.2 hM
    have hbl : (bl M).length = M.length := by simp [bl]
    have hP : putS M = (Lib.compact ((bl M).mergeSort fun x y => decide (x ≤ y))).map fun b => (⟨b.toArray⟩ : ByteArray) := rfl
    have hPL : (putS M).length = (Lib.compact ((bl M).mergeSort fun x y => decide (x ≤ y))).length := by rw [hP]; simp
    have HEND := Lib.hid (fun (w' : World) g cap (hown : w'.ownsRow w.heap.size 9 1 (.slice (some ⟨g, 0, none⟩) (Lib.compact ((bl M).mergeSort fun x y => decide (x ≤ y))).length cap) (Lib.compact ((bl M).mergeSort fun x y => decide (x ≤ y))).length ((Lib.compact ((bl M).mergeSort fun x y => decide (x ≤ y))).map encStr)) =>
      (show OwnS w' w.heap.size (.slice (some ⟨g, 0, none⟩) (Lib.compact ((bl M).mergeSort fun x y => decide (x ≤ y))).length cap) (putS M) from by
        have hr := hown
        unfold OwnS
        rw [hPL]
        have e := ofB (Lib.compact ((bl M).mergeSort fun x y => decide (x ≤ y)))
        rw [← hP] at e
        rw [e]
        exact hr))
    have HSC := scells_bl M
    clear hM hP hPL
    go_enter Tryz.func88, Tryz.ntmps88
    go_wp2_with fail
    refine (KC.out).mono ?_
    rintro e w1 ⟨v1, rfl, ho1, hg1⟩
    have g1 := HAL.out.trans hg1
    have ho2 : w1.ownsRow w.heap.size 9 1 v1 M.length ((bl M).map encStr) := by
      have := ho1.base HAL.out.size
      unfold OwnS at this
      rw [HSC] at this
      exact this
    obtain ⟨g, cap, rfl, hbg, hgl, hncap, hcm, hlen, hH⟩ := Lib.holds_of_ownsRow ho2 (by
      intro h0
      rw [h0] at ho2
      rcases ho2.2 with ⟨_, h3⟩ | ⟨_, _, _, h3, _⟩
      · omega
      · cases h3)
    have hcm2 : cap ≤ 9223372036854775807 := hcm
    have KS := Tryz.slices_Sort_string g 0 cap (bl M) w1 hH hgl (by omega)
    rw [hlen] at KS
    replace KS := Lib.hid KS
    have X := Lib.hid (show _ ∧ _ from ⟨ho2, hH⟩)
    have KT := Lib.hid (fun (nn : Nat) (os : Array Obj) => (by
      have hl2 : ((bl M).mergeSort fun x y => decide (x ≤ y)).length = M.length := by rw [List.length_mergeSort]; exact hlen
      have hH2 : Holds encStr (grow (putRow encStr (Sort.ahead w1 nn) g 0 ((bl M).mergeSort fun x y => decide (x ≤ y)).toArray) os) g 0 ((bl M).mergeSort fun x y => decide (x ≤ y)).toArray :=
        holds_grow encStr _ os g 0 _ (by simpa [putRow, mapBlock, Sort.ahead] using hgl) (holds_putRow encStr _ g 0 _ _ (holds_ahead encStr w1 nn g 0 _ hH) (by simp))
      have hc := Tryz.slices_Compact_string g 0 cap ((bl M).mergeSort fun x y => decide (x ≤ y)) _ hH2 (by omega) (by omega)
      rw [hl2] at hc
      exact hc))
    clear ho1 ho2 hH HSC hbl
    go_wp2_with fail
    refine (KS.out).mono ?_
    rintro e w2 ⟨rfl, nn, os, rfl⟩
    go_wp2_with fail
    refine (KT.out nn os).mono ?_
    rintro e w3 ⟨rfl, q, rfl⟩
    go_wp2_with fail
    go_ret
    obtain ⟨z1, z2⟩ := left_put (nn := nn) (q := q) (os := os) X.out.1 g1 hbg hlen
    exact ⟨_, rfl, HEND.out _ _ _ z1, z2⟩
end Go.Proofs.YtefkgomecpnpbaaGreat

/- slices.Index, slices.Contains at texts. -/
namespace Go.Proofs.YtefkgomecpnpbaaGreat
open Go.RowKit

theorem bytes_ne' {a b : ByteArray} (h : a ≠ b) : (a.toList == b.toList) = false := by
  rw [beq_eq_false_iff_ne]
  intro he
  exact h (by rw [Lib.toList_data, Lib.toList_data] at he; cases a; cases b; simpa using he)
theorem bytes_eq' (a : ByteArray) : (a.toList == a.toList) = true := by simp
/-- The first k texts are others. -/
def NotS (L : List ByteArray) (s : ByteArray) (k : Nat) : Prop := ∀ i, i < k → st L i ≠ s
theorem NotS.zero (L : List ByteArray) (s : ByteArray) : NotS L s 0 := fun i hi => absurd hi (by omega)
theorem NotS.succ {L : List ByteArray} {s : ByteArray} {k : Nat} (h : NotS L s k) (h1 : st L k ≠ s) : NotS L s (k + 1) := by
  intro i hi
  rcases Nat.lt_or_ge i k with hk | hk
  · exact h i hk
  · obtain rfl : i = k := by omega
    exact h1
theorem notS_all {L : List ByteArray} {s : ByteArray} (h : NotS L s L.length) : ¬ s ∈ L := by
  intro hm
  obtain ⟨i, hi, he⟩ := List.getElem_of_mem hm
  exact h i hi (by rw [← st_get hi, he])
theorem st_mem {L : List ByteArray} {k : Nat} (hk : k < L.length) : st L k ∈ L := by rw [← st_get hk]; exact List.getElem_mem hk

theorem indexS_c (v : Value) (L : List ByteArray) (s : ByteArray) (w : World) (h : Strs w v L) (hn : L.length ≤ 1099511627776) :
    Calls Tryz.prog 130 #[v, .string s] w fun e w' => ∃ r : Int, e = .returned (.int .i64 r) ∧ Grew w w' ∧ decide (0 ≤ r) = dc (s ∈ L) := by
  obtain ⟨R, hR⟩ : ∃ R, R = dc (s ∈ L) := ⟨_, rfl⟩
  rw [← hR]
  rcases h.open_ with ⟨rfl, rfl⟩ | ⟨b, o, c, rfl, hc, hm, hb, hcell⟩
  · have hv := Lib.hid (hR.trans (dc_false (by simp)))
    clear h hR
    go_enter Tryz.func130, Tryz.ntmps130
    go_wp2_with fail
    refine wp_loop_rounds 1 ?_; rw [rounds_succ]
    go_wp2_with fail
    go_ret
    exact ⟨_, rfl, Grew.refl _, by rw [hv.out]; rfl⟩
  have HA := Lib.hid (fun k (hk : k < L.length) (he : st L k = s) => hR.trans (dc_true (by rw [← he]; exact st_mem hk)))
  have HZ := Lib.hid (fun h => hR.trans (dc_false (@notS_all L s h)))
  have HC := Lib.hid hcell
  clear h hcell hR
  generalize hN : L.length = n at *
  clear hN
  go_enter Tryz.func130, Tryz.ntmps130
  go_wp2_with fail
  go_loopw [8] (fun i wr => ∃ j : Nat, j ≤ n ∧ i = .int .i64 j ∧ Grew w wr ∧ Hid (NotS L s j)) (fun i _ => n - (intOf i).toNat)
  case atStart => exact ⟨0, Nat.zero_le _, rfl, Grew.refl _, NotS.zero _ _⟩
  case round =>
    obtain ⟨j, hj, rfl, hB, HJ⟩ := hrel
    by_cases hlt : j < n
    · have k1 := HC.out j hlt _ hB
      have hA := Lib.hid (HA.out j hlt)
      have hS := Lib.hid (fun h => HJ.out.succ (k := j) h)
      generalize st L j = x at *
      by_cases hx : x = s
      · have hv := Lib.hid (hA.out hx)
        subst hx
        have q1 := bytes_eq' x
        clear hA hS
        go_wp2_with fail
        go_ret
        exact ⟨_, rfl, hB, by rw [hv.out]; simp⟩
      · have hs := Lib.hid (hS.out hx)
        have q1 := bytes_ne' (fun e : s = x => hx e.symm)
        have q2 := bytes_ne' hx
        clear hA hS hx
        go_wp2_with fail
        go_roundw
        case rel => exact ⟨j + 1, by omega, by go_num, hB, hs⟩
        case measure => simp [intOf]; omega
    · obtain rfl : j = n := by omega
      have hv := Lib.hid (HZ.out HJ.out)
      go_wp2_with fail
      go_ret
      exact ⟨_, rfl, hB, by rw [hv.out]; rfl⟩
theorem containsS_c (v : Value) (L : List ByteArray) (s : ByteArray) (w : World) (h : Strs w v L) (hn : L.length ≤ 1099511627776) :
    Calls Tryz.prog 118 #[v, .string s] w fun e w' => e = .returned (.bool (dc (s ∈ L))) ∧ Grew w w' := by
  have HI := Lib.hid (indexS_c v L s w h hn)
  obtain ⟨A, c, rfl⟩ := strs_slice h
  clear h
  generalize dc (s ∈ L) = R at *
  go_enter Tryz.func118, Tryz.ntmps118
  go_wp2_with fail
  refine HI.out.mono ?_
  rintro e w1 ⟨r, rfl, hg1, hr⟩
  go_wp2_with fail
  go_ret
  exact ⟨by rw [← hr]; rfl, hg1⟩

theorem own_emptyS' (w : World) : OwnS (w.alloc (.cells #[] 9)) w.heap.size (.slice (some ⟨w.heap.size, 0, none⟩) 0 0) [] :=
  World.ownsRow_lit (e := 9) (size := 1) w #[] 0 (Nat.le_refl _) (by omega) rfl
end Go.Proofs.YtefkgomecpnpbaaGreat

/- slices.Clone at texts. -/
namespace Go.Proofs.YtefkgomecpnpbaaGreat
open Go.RowKit

theorem cloneS_c (v : Value) (L : List ByteArray) (w : World) (h : Strs w v L) (hn : L.length ≤ 1099511627776) :
    Calls Tryz.prog 165 #[v] w (GivesS w L) := by
  have q : ∀ (w : World) (a : Option Addr) (n c n' c' : Nat), (binOp .eql 68 (.slice a n c) (.slice none n' c')).run Tryz.prog w = .ok (.bool a.isNone) w := fun w a n c n' c' => Lib.run_eql_slice_nil w _ _ a n c n' c' Tryz.underlying68
  have he := own_emptyS' w
  rcases h.open_ with ⟨rfl, rfl⟩ | ⟨b, o, c, rfl, hc, hm, hb, hf⟩
  · clear he h
    go_enter Tryz.func165, Tryz.ntmps165
    go_wp2_with fail
    go_ret
    exact ⟨_, rfl, OwnS.nil_ _ _, Grew.refl _⟩
  · clear hf
    go_enter Tryz.func165, Tryz.ntmps165
    go_wp2_with (first
      | (at_builtin; refine wpList_appSs (w0 := w) _ _ rfl rfl _ [] rfl he ((Grew.refl w).alloc _) _ L rfl (h.grew ((Grew.refl w).alloc _)) (by simp; omega) ?_; intro v1 w1 hown1 hg1 _))
    go_ret
    exact ⟨_, rfl, by simpa using hown1, hg1⟩
end Go.Proofs.YtefkgomecpnpbaaGreat

/- Contracts of the library (deleting texts), laid at this program. -/
namespace Go.Proofs
open Go.Shelf
def Tryz.laysSlH10_f170_ren : Go.Shelf.Ren := ⟨fun | 10 => 164 | 6 => 156 | n => n, fun | 22 => 68 | 23 => 9 | 25 => 130 | 3 => 3 | 4 => 4 | 0 => 0 | n => n, fun | n => n⟩
theorem Tryz.laysSlH10_f170 : Go.Proofs.SlLaysH.n10 Tryz.prog Tryz.laysSlH10_f170_ren := {
  mixed := by kernel_rfl
  f6 := ⟨Tryz.f156.name, by decide, Tryz.func156.trans (congrArg some (by kernel_rfl))⟩
  f10 := ⟨Tryz.f164.name, by decide, Tryz.func164.trans (congrArg some (by kernel_rfl))⟩
  t0 := Tryz.underlying0
  a0 := Tryz.isAgg0
  z0 := Tryz.sizeOf0
  v0 := Tryz.zeroValue0
  t3 := Tryz.underlying3
  a3 := Tryz.isAgg3
  z3 := Tryz.sizeOf3
  v3 := Tryz.zeroValue3
  t4 := Tryz.underlying4
  a4 := Tryz.isAgg4
  z4 := Tryz.sizeOf4
  v4 := Tryz.zeroValue4
  t22 := Tryz.underlying68
  a22 := Tryz.isAgg68
  z22 := Tryz.sizeOf68
  v22 := Tryz.zeroValue68
  a23 := Tryz.isAgg9
  z23 := Tryz.sizeOf9
  t25 := Tryz.underlying130
  a25 := Tryz.isAgg130
  z25 := Tryz.sizeOf130
  v25 := Tryz.zeroValue130 }
open Go.RowKit Go.Lib Go.Sort in
theorem Tryz.slices_DeleteFunc {α : Type} [Inhabited α] (enc : α → Value) (hO : OneCell enc) (p : α → Bool) (g : Nat) (lb : Array Value) (eg : ∀ args w, (callFunc g args).run Tryz.prog w = .ok (.enter g args) w) (zr : α) (v23 : ∀ w, (zeroValue 9).run Tryz.prog w = .ok (enc zr) w) (blk off cap : Nat) (d : Array α) (w : World) (hp : PredAt Tryz.prog g lb enc p w) (hpo : PredOver Tryz.prog g lb enc p blk off d.size w) (hH : Holds enc w blk off d) (hsz : d.size ≤ 9223372036854775807) (hcap : d.size ≤ cap) :
    Calls Tryz.prog 164 #[.slice (some ⟨blk, off, none⟩) d.size cap, .func (.func g) #[] lb] w fun e w' => e = .returned (.slice (some ⟨blk, off, none⟩) (d.toList.filter fun x => !p x).length cap) ∧ ∃ q, w' = putRow enc (Sort.ahead w q) blk off ((d.toList.filter fun x => !p x) ++ List.replicate (d.size - (d.toList.filter fun x => !p x).length) zr).toArray := AnyE.slices_DeleteFunc Tryz.laysSlH10_f170 enc hO p g lb eg zr v23 blk off cap d w hp hpo hH hsz hcap
end Go.Proofs

/- drop of the program: a list without a text. -/
namespace Go.Proofs.YtefkgomecpnpbaaGreat
open Go.RowKit Go.Sort

/-- A list without a text. -/
noncomputable def dropS (L : List ByteArray) (t : ByteArray) : List ByteArray := L.filter fun x => !dc (x = t)
theorem dropS_nil (t : ByteArray) : dropS [] t = [] := rfl

theorem drop1_c (s t : ByteArray) (bt : Nat) (W : World) (k : W.cell? ⟨bt, 0, none⟩ = some (.string t)) :
    Calls Tryz.prog 166 #[.string s, .pointer (some ⟨bt, 0, none⟩)] W fun e W' => e = .returned (.bool (dc (s = t))) ∧ W' = W := by
  by_cases h : s = t
  · rw [dc_true h]
    subst h
    have q1 := bytes_eq' s
    go_enter Tryz.func166, Tryz.ntmps166
    go_wp2_with fail
    go_ret
    exact ⟨rfl, rfl⟩
  · rw [dc_false h]
    have q1 := bytes_ne' h
    go_enter Tryz.func166, Tryz.ntmps166
    go_wp2_with fail
    go_ret
    exact ⟨rfl, rfl⟩

theorem indexFunc0_c (A : Option Addr) (c : Nat) (fv : Value) (w : World) : Calls Tryz.prog 156 #[.slice A 0 c, fv] w fun e w' => e = .returned (.int .i64 (-1)) ∧ w' = w := by
  go_enter Tryz.func156, Tryz.ntmps156
  go_wp2_with fail
  refine wp_loop_rounds 1 ?_; rw [rounds_succ]
  go_wp2_with fail
  go_ret
  exact ⟨rfl, rfl⟩
theorem deleteFunc0_c (A : Option Addr) (c : Nat) (fv : Value) (w : World) : Calls Tryz.prog 164 #[.slice A 0 c, fv] w fun e w' => e = .returned (.slice A 0 c) ∧ w' = w := by
  have K := Lib.hid (indexFunc0_c A c fv w)
  go_enter Tryz.func164, Tryz.ntmps164
  go_wp2_with fail
  refine (K.out).mono ?_
  rintro e w1 ⟨rfl, rfl⟩
  go_wp2_with fail
  go_ret
  exact ⟨rfl, rfl⟩
theorem oneS : OneCell Value.string := fun _ => rfl

/-- The world behind DeleteFunc. -/
theorem left_drop {w0 w : World} {L : List ByteArray} {t : ByteArray} {g cap q : Nat} (hown : w.ownsRow w0.heap.size 9 1 (.slice (some ⟨g, 0, none⟩) L.length cap) L.length (L.map Value.string)) (hg : w0.heap.size ≤ g) (hb : Grew w0 w) :
    OwnS (putRow Value.string (Sort.ahead w q) g 0 ((L.toArray.toList.filter fun x => !dc (x = t)) ++ List.replicate (L.toArray.size - (L.toArray.toList.filter fun x => !dc (x = t)).length) ByteArray.empty).toArray) w0.heap.size (.slice (some ⟨g, 0, none⟩) (L.toArray.toList.filter fun x => !dc (x = t)).length cap) (dropS L t) ∧
    Grew w0 (putRow Value.string (Sort.ahead w q) g 0 ((L.toArray.toList.filter fun x => !dc (x = t)) ++ List.replicate (L.toArray.size - (L.toArray.toList.filter fun x => !dc (x = t)).length) ByteArray.empty).toArray) := by
  have hle : (L.filter fun x => !dc (x = t)).length ≤ L.length := List.length_filter_le _ _
  have hc := Lib.ownsRow_putRow (q := q) (k := (L.filter fun x => !dc (x = t)).length) (ys := (L.filter fun x => !dc (x = t)) ++ List.replicate (L.length - (L.filter fun x => !dc (x = t)).length) ByteArray.empty) hown (by simp; omega) hle
  rw [List.take_left] at hc
  exact ⟨hc, Lib.below_putRow hb hg⟩

set_option maxHeartbeats 2000000 in
theorem dropO_c (v : Value) (L : List ByteArray) (t : ByteArray) (w : World) (h : Strs w v L) (hn : L.length ≤ 1099511627776) :
    Calls Tryz.prog 155 #[v, .string t] w (GivesS w (dropS L t)) := by
  have hal := Lib.hid ((Grew.refl w).alloc (.cells #[.string t] 9))
  have KC := Lib.hid (cloneS_c v L _ (h.grew hal.out) hn)
  obtain ⟨A, c, rfl⟩ := strs_slice h
  clear h
  by_cases hL : L = []
  · subst hL
    rw [dropS_nil]
    have KD := Lib.hid (fun A c fv w => deleteFunc0_c A c fv w)
    go_enter Tryz.func155, Tryz.ntmps155
    go_wp2_with fail
    refine (KC.out).mono ?_
    rintro e w1 ⟨v1, rfl, ho1, hg1⟩
    obtain ⟨A1, c1, rfl⟩ := strs_slice ho1.strs
    simp only [List.length_nil]
    go_wp2_with fail
    refine (KD.out _ _ _ _).mono ?_
    rintro e w2 ⟨rfl, rfl⟩
    go_wp2_with fail
    go_ret
    exact ⟨_, rfl, ho1.base hal.out.size, hal.out.trans hg1⟩
  · have hpos : 0 < L.length := List.length_pos_iff.2 hL
    have eg : ∀ args w, (callFunc 166 args).run Tryz.prog w = .ok (.enter 166 args) w := enters_of Tryz.func166 (by kernel_rfl) rfl
    have zr : ∀ w, (zeroValue 9).run Tryz.prog w = .ok (.string ByteArray.empty) w := Tryz.zeroValue9
    clear hL
    go_enter Tryz.func155, Tryz.ntmps155
    go_wp2_with fail
    refine (KC.out).mono ?_
    rintro e w1 ⟨v1, rfl, ho1, hg1⟩
    have g1 := hal.out.trans hg1
    have hbt : w1.cell? ⟨w.heap.size, 0, none⟩ = some (.string t) := (hg1.cell (p := ⟨w.heap.size, 0, none⟩) (by simp)).trans (by simp)
    have hbl : w.heap.size < w1.heap.size := by have := hg1.size; simp at this; omega
    have ho2 : w1.ownsRow (w.alloc (.cells #[.string t] 9)).heap.size 9 1 v1 L.length (L.map Value.string) := ho1
    obtain ⟨g, cap, rfl, hbg, hgl, hncap, hcm, hlen, hH⟩ := Lib.holds_of_ownsRow ho2 (by
      intro h0
      rw [h0] at ho2
      rcases ho2.2 with ⟨_, h3⟩ | ⟨_, _, _, h3, _⟩
      · omega
      · cases h3)
    have hcm2 : cap ≤ 9223372036854775807 := hcm
    have hgw : w.heap.size < g := by simp at hbg; omega
    have KD := Tryz.slices_DeleteFunc Value.string oneS (fun x => dc (x = t)) 166 #[.pointer (some ⟨w.heap.size, 0, none⟩)] eg ByteArray.empty zr g 0 cap L.toArray w1
      (fun W x hb => (drop1_c x t w.heap.size W ((hb.cell (p := ⟨w.heap.size, 0, none⟩) hbl).trans hbt)).mono fun e W' ⟨h1, h2⟩ => ⟨h1, 0, by rw [h2]; rfl⟩)
      (fun n os dk x hs => (drop1_c x t w.heap.size _ (by
        unfold sortWorld
        rw [cell?_grow _ _ _ (by simpa [putRow, mapBlock, Sort.ahead] using hbl), cell?_putRow_other _ _ _ _ _ _ (.inl (by show w.heap.size ≠ g; omega))]
        exact hbt)).mono fun e W' ⟨h1, h2⟩ => ⟨h1, 0, by rw [h2]; rfl⟩)
      hH (by simp; omega) (by simp; omega)
    have KE : L.toArray.size = L.length := by simp
    rw [show (Value.slice (some ⟨g, 0, none⟩) L.toArray.size cap) = .slice (some ⟨g, 0, none⟩) L.length cap by rw [KE]] at KD
    replace KD := Lib.hid KD
    have HEND := Lib.hid (fun q => @left_drop w w1 L t g cap q (own_base ho2 (by simp)) (by omega) g1)
    clear ho1 ho2 hH eg zr KE
    go_wp2_with fail
    refine (KD.out).mono ?_
    rintro e w2 ⟨rfl, q, rfl⟩
    go_wp2_with fail
    go_ret
    obtain ⟨z1, z2⟩ := HEND.out q
    exact ⟨_, rfl, z1, z2⟩
theorem drop_c (v : Value) (L : List ByteArray) (t : ByteArray) (w : World) (h : Strs w v L) (hn : L.length ≤ 1099511627776) :
    Calls Tryz.prog 155 #[v, .string t] w fun e w' => ∃ u, e = .returned u ∧ Strs w' u (dropS L t) ∧ Grew w w' :=
  (dropO_c v L t w h hn).mono fun _ _ ⟨u, h1, h2, h3⟩ => ⟨u, h1, h2.strs, h3⟩
end Go.Proofs.YtefkgomecpnpbaaGreat

/- The moves of the program's search: lists of formulas by their texts. No walk is in sight. -/
namespace Go.Proofs.YtefkgomecpnpbaaGreat
open Go.RowKit
open Fm (Tree)

theorem fo_tx {a : Tree} (h : FmOk a) : fo (tx a) = a := by
  obtain ⟨h1, h2⟩ := fo_ok (gp_tx h)
  exact tx_inj h1.1 h.1 h2
theorem map_fo_tx {L : List Tree} (h : ∀ a ∈ L, FmOk a) : (L.map tx).map fo = L := by
  rw [List.map_map]
  have : ∀ a ∈ L, (fo ∘ tx) a = id a := fun a ha => fo_tx (h a ha)
  rw [List.map_congr_left this, List.map_id]
def mkB (b : List UInt8) : ByteArray := ⟨b.toArray⟩
theorem mkB_data (s : ByteArray) : mkB s.data.toList = s := by cases s; simp [mkB]
theorem map_mkB (T : List ByteArray) : (bl T).map mkB = T := by
  unfold bl
  rw [List.map_map]
  have : ∀ s ∈ T, (mkB ∘ fun x : ByteArray => x.data.toList) s = id s := fun s _ => mkB_data s
  rw [List.map_congr_left this, List.map_id]
theorem mkB_inj {a b : List UInt8} (h : mkB a = mkB b) : a = b := by
  have := congrArg (fun s : ByteArray => s.data.toList) h
  simpa [mkB] using this

/-- What put leaves of formulas. -/
structure PutOf (M P : List Tree) : Prop where
  ok : ∀ a ∈ P, FmOk a
  mem : ∀ a, a ∈ P ↔ a ∈ M
  tot : ∀ f : Tree → Nat, tot f P ≤ tot f M
theorem putS_of {M : List Tree} (hM : ∀ a ∈ M, FmOk a) : ∃ P, putS (M.map tx) = P.map tx ∧ PutOf M P := by
  have hmem : ∀ s, s ∈ putS (M.map tx) ↔ s ∈ M.map tx := fun s => by
    unfold putS
    constructor
    · intro h
      obtain ⟨b, hb, rfl⟩ := List.mem_map.1 h
      rw [putB_mem] at hb
      obtain ⟨s, hs, rfl⟩ := List.mem_map.1 hb
      have e : (⟨s.data.toList.toArray⟩ : ByteArray) = s := mkB_data s
      rw [e]; exact hs
    · intro h
      exact List.mem_map.2 ⟨s.data.toList, (putB_mem _ _).2 (List.mem_map.2 ⟨s, h, rfl⟩), mkB_data s⟩
  have hall : ∀ s ∈ putS (M.map tx), ∃ a ∈ M, tx a = s := fun s hs => List.mem_map.1 ((hmem s).1 hs)
  refine ⟨(putS (M.map tx)).map fo, ?_, ⟨?_, ?_, ?_⟩⟩
  · rw [List.map_map]
    have : ∀ s ∈ putS (M.map tx), (tx ∘ fo) s = id s := fun s hs => by
      obtain ⟨a, ha, rfl⟩ := hall s hs
      show tx (fo (tx a)) = tx a
      rw [fo_tx (hM a ha)]
    rw [List.map_congr_left this, List.map_id]
  · intro a ha
    obtain ⟨s, hs, rfl⟩ := List.mem_map.1 ha
    obtain ⟨b, hb, rfl⟩ := hall s hs
    rw [fo_tx (hM b hb)]; exact hM b hb
  · intro a
    constructor
    · intro ha
      obtain ⟨s, hs, rfl⟩ := List.mem_map.1 ha
      obtain ⟨b, hb, rfl⟩ := hall s hs
      rw [fo_tx (hM b hb)]; exact hb
    · intro ha
      exact List.mem_map.2 ⟨tx a, (hmem _).2 (List.mem_map.2 ⟨a, ha, rfl⟩), fo_tx (hM a ha)⟩
  · intro f
    obtain ⟨N, h1, h2⟩ := putB_perm (M.map tx)
    have e : (putS (M.map tx)).map fo = (putB (M.map tx)).map fun b => fo (mkB b) := by unfold putS; rw [List.map_map]; rfl
    rw [e]
    have h3 := tot_sub (f := f) (h1.map fun b => fo (mkB b))
    have h4 := tot_perm (f := f) (h2.map fun b => fo (mkB b))
    have h5 : (bl (M.map tx)).map (fun b => fo (mkB b)) = M := by
      have : (bl (M.map tx)).map (fun b => fo (mkB b)) = ((bl (M.map tx)).map mkB).map fo := by rw [List.map_map]; rfl
      rw [this, map_mkB, map_fo_tx hM]
    rw [h5] at h4
    omega

/-- A list without a formula. -/
noncomputable def dropT (L : List Tree) (t : Tree) : List Tree := L.filter fun a => !dc (a = t)
theorem dropT_mem {L : List Tree} {t a : Tree} : a ∈ dropT L t ↔ a ∈ L ∧ a ≠ t := by
  unfold dropT
  rw [List.mem_filter]
  constructor
  · rintro ⟨h1, h2⟩
    exact ⟨h1, fun e => by rw [dc_true e] at h2; cases h2⟩
  · rintro ⟨h1, h2⟩
    exact ⟨h1, by rw [dc_false h2]; rfl⟩
theorem dropS_of {L : List Tree} {t : Tree} (hL : ∀ a ∈ L, FmOk a) (ht : FmOk t) : dropS (L.map tx) (tx t) = (dropT L t).map tx := by
  unfold dropS dropT
  rw [List.filter_map]
  congr 1
  apply List.filter_congr
  intro a ha
  show (!dc (tx a = tx t)) = !dc (a = t)
  rw [dc_congr ⟨fun h => tx_inj (hL a ha).1 ht.1 h, fun h => by rw [h]⟩]
theorem dropT_ok {L : List Tree} {t : Tree} (hL : ∀ a ∈ L, FmOk a) : ∀ a ∈ dropT L t, FmOk a := fun a ha => hL a (dropT_mem.1 ha).1
theorem dropT_tot (f : Tree → Nat) {L : List Tree} {t : Tree} (ht : t ∈ L) : tot f (dropT L t) + f t ≤ tot f L := by
  induction L with
  | nil => cases ht
  | cons a L ih =>
    unfold dropT at *
    rw [List.filter_cons, tot_cons]
    by_cases h : a = t
    · subst h
      rw [dc_true rfl]
      have h2 : tot f (L.filter fun b => !dc (b = a)) ≤ tot f L := tot_sub List.filter_sublist
      simp only [Bool.not_true, Bool.false_eq_true, if_false]
      omega
    · rw [dc_false h]
      have := ih ((List.mem_cons.1 ht).resolve_left (fun e => h e.symm))
      simp only [Bool.not_false, if_true]
      rw [tot_cons]
      omega
theorem dropT_adds {L : List Tree} {t : Tree} (ht : t ∈ L) : Adds L (dropT L t) t := fun b => by
  rw [dropT_mem]
  constructor
  · intro hb
    by_cases h : b = t
    · exact .inr h
    · exact .inl ⟨hb, h⟩
  · rintro (h | rfl)
    · exact h.1
    · exact ht
/-- A list with formulas in the place of one. -/
def Ins (L : List Tree) (t : Tree) (K P : List Tree) : Prop := PutOf (dropT L t ++ K) P
theorem Ins.adds {L : List Tree} {t x : Tree} {P : List Tree} (h : Ins L t [x] P) : Adds P (dropT L t) x := fun b => by rw [h.mem, List.mem_append, List.mem_singleton]
theorem Ins.adds2 {L : List Tree} {t x y : Tree} {P : List Tree} (h : Ins L t [x, y] P) : Adds2 P (dropT L t) x y := fun b => by rw [h.mem, List.mem_append, List.mem_cons, List.mem_singleton]
theorem Ins.same {L : List Tree} {t : Tree} {P : List Tree} (h : Ins L t [] P) : ∀ b, b ∈ P ↔ b ∈ dropT L t := fun b => by rw [h.mem, List.append_nil]
theorem Ins.le (f : Tree → Nat) {L : List Tree} {t : Tree} {K P : List Tree} (h : Ins L t K P) (ht : t ∈ L) : tot f P + f t ≤ tot f L + tot f K := by
  have h1 := h.tot f
  rw [tot_app] at h1
  have h2 := dropT_tot f ht
  omega

/-- The premises of a rule. -/
abbrev Gl := List Tree × Tree
noncomputable def allGl (ps : List Gl) : Bool := ps.all fun p => dc (EntL p.1 p.2)
/-- What is known of the premises that a formula of the left side gives. -/
def Taken (L : List Tree) (c t : Tree) (ps : List Gl) (ok : Bool) : Prop :=
  (ok = true → (∀ p ∈ ps, Mv L c p.1 p.2) ∧ dc (EntL L c) = allGl ps) ∧ (ok = false → StuckL L t)
section
variable {L : List Tree} {c t : Tree}
theorem tk_one {P : List Tree} (hM : Mv L c P c) (hE : EntL L c ↔ EntL P c) : Taken L c t [(P, c)] true :=
  ⟨fun _ => ⟨fun p hp => by rw [List.mem_singleton] at hp; rw [hp]; exact hM, by simp [allGl, dc_congr hE]⟩, fun h => by cases h⟩
theorem tk_and (hS : OkS L c) {x y : Tree} (ht : (.and x y) ∈ L) {P : List Tree} (h : Ins L (.and x y) [x, y] P) : Taken L c (.and x y) [(P, c)] true := by
  have a4 := h.le f4 ht
  have a2 := h.le f2 ht
  rw [tot_two] at a4 a2
  have b4 := f4_and x y
  have b2 := f2_and x y
  exact tk_one (mv_mk hS h.ok hS.2.1 (by omega) (by omega)) (el_and (dropT_adds ht) h.adds2)
theorem tk_or (hS : OkS L c) {x y : Tree} (ht : (.or x y) ∈ L) {P Q : List Tree} (h : Ins L (.or x y) [x] P) (h' : Ins L (.or x y) [y] Q) : Taken L c (.or x y) [(P, c), (Q, c)] true := by
  have a4 := h.le f4 ht
  have a2 := h.le f2 ht
  have c4 := h'.le f4 ht
  have c2 := h'.le f2 ht
  rw [tot_one] at a4 a2 c4 c2
  have b4 := f4_or x y
  have b2 := f2_or x y
  refine ⟨fun _ => ⟨fun p hp => ?_, ?_⟩, fun h => by cases h⟩
  · rcases List.mem_cons.1 hp with rfl | hp
    · exact mv_mk hS h.ok hS.2.1 (by show tot f4 P + f4 c < _; omega) (by show tot f2 P + f2 c ≤ _; omega)
    · rw [List.mem_singleton] at hp
      rw [hp]
      exact mv_mk hS h'.ok hS.2.1 (by show tot f4 Q + f4 c < _; omega) (by show tot f2 Q + f2 c ≤ _; omega)
  · have e := dc_congr (el_or (c := c) (dropT_adds ht) h.adds h'.adds)
    rw [dc_and] at e
    simp [allGl, e]
theorem tk_fls (hS : OkS L c) {y : Tree} (ht : (.imp .fls y) ∈ L) {P : List Tree} (h : Ins L (.imp .fls y) [] P) : Taken L c (.imp .fls y) [(P, c)] true := by
  have a4 := h.le f4 ht
  have a2 := h.le f2 ht
  rw [tot_nil] at a4 a2
  have b4 := f4_pos (.imp .fls y)
  exact tk_one (mv_mk hS h.ok hS.2.1 (by omega) (by omega)) ((el_fls_imp (dropT_adds ht)).trans (entL_congr fun b => (h.same b).symm))
theorem tk_var (hS : OkS L c) {v : Fin 6} {y : Tree} (ht : (.imp (.var v) y) ∈ L) {P : List Tree} (h : Ins L (.imp (.var v) y) [y] P) : Taken L c (.imp (.var v) y) [(P, c)] (hasL L (.var v)) := by
  cases hh : hasL L (.var v) with
  | false => exact ⟨fun h => (by cases h), fun _ => .inr (.inl ⟨v, y, rfl, hasL_false.1 hh⟩)⟩
  | true =>
    have a4 := h.le f4 ht
    have a2 := h.le f2 ht
    rw [tot_one] at a4 a2
    have b4 := f4_imp (.var v) y
    have b2 := f2_imp (.var v) y
    exact tk_one (mv_mk hS h.ok hS.2.1 (by omega) (by omega)) (el_mp (dropT_adds ht) (dropT_mem.2 ⟨hasL_true.1 hh, by simp⟩) h.adds)
theorem tk_and_imp (hS : OkS L c) {x y z : Tree} (ht : (.imp (.and x y) z) ∈ L) {P : List Tree} (h : Ins L (.imp (.and x y) z) [.imp x (.imp y z)] P) : Taken L c (.imp (.and x y) z) [(P, c)] true := by
  have a4 := h.le f4 ht
  have a2 := h.le f2 ht
  rw [tot_one] at a4 a2
  have b4 := f4_and_imp x y z
  have b2 := f2_and_imp x y z
  exact tk_one (mv_mk hS h.ok hS.2.1 (by omega) (by omega)) (el_and_imp (dropT_adds ht) h.adds)
theorem tk_or_imp (hS : OkS L c) {x y z : Tree} (ht : (.imp (.or x y) z) ∈ L) {P : List Tree} (h : Ins L (.imp (.or x y) z) [.imp x z, .imp y z] P) : Taken L c (.imp (.or x y) z) [(P, c)] true := by
  have a4 := h.le f4 ht
  have a2 := h.le f2 ht
  rw [tot_two] at a4 a2
  have b4 := f4_or_imp x y z
  have b2 := f2_or_imp x y z
  exact tk_one (mv_mk hS h.ok hS.2.1 (by omega) (by omega)) (el_or_imp (dropT_adds ht) h.adds2)
theorem tk_none {ps : List Gl} (h : StuckL L t) : Taken L c t ps false := ⟨fun h => (by cases h), fun _ => h⟩
/-- The two premises for an implication of an implication. -/
theorem mv_ii (hS : OkS L c) {x y z : Tree} (ht : (.imp (.imp x y) z) ∈ L) {P Q : List Tree} (h : Ins L (.imp (.imp x y) z) [.imp y z] P) (h' : Ins L (.imp (.imp x y) z) [z] Q) : Mv L c P (.imp x y) ∧ Mv L c Q c ∧ (EntL P (.imp x y) → EntL Q c → EntL L c) := by
  have a4 := h.le f4 ht
  have a2 := h.le f2 ht
  have c4 := h'.le f4 ht
  have c2 := h'.le f2 ht
  rw [tot_one] at a4 a2 c4 c2
  have b4 := f4_imp_imp' x y z
  have b2 := f2_imp_imp' x y z
  have d4 := f4_imp (.imp x y) z
  have d2 := f2_imp (.imp x y) z
  obtain ⟨_, _, _, hxy, _⟩ := fmOk_imp_imp (hS.1 _ ht)
  refine ⟨mv_mk hS h.ok hxy (by omega) (by omega), mv_mk hS h'.ok hS.2.1 (by omega) (by omega), fun e1 e2 => ?_⟩
  have hK : Adds2 (dropT L (.imp (.imp x y) z) ++ [.imp y z, x]) (dropT L (.imp (.imp x y) z)) (.imp y z) x := fun b => by rw [List.mem_append, List.mem_cons, List.mem_singleton]
  have e3 : EntL (dropT L (.imp (.imp x y) z) ++ [.imp y z, x]) y := by
    have hA : Adds (dropT L (.imp (.imp x y) z) ++ [.imp y z, x]) P x := fun b => by
      rw [hK b, h.adds b, or_assoc]
    exact (el_r_imp hA).1 e1
  exact el_imp_imp (dropT_adds ht) hK h'.adds e3 e2
/-- None of the first k texts' formulas gives the right side. -/
def NoWayP (L : List Tree) (c : Tree) (k : Nat) : Prop := ∀ i, i < k → ∀ x y z, L[i]? = some (.imp (.imp x y) z) → ∀ P Q, Ins L (.imp (.imp x y) z) [.imp y z] P → Ins L (.imp (.imp x y) z) [z] Q → (dc (EntL P (.imp x y)) && dc (EntL Q c)) = false
theorem waysP_fail (hst : StuckN L L.length) (hc : hasL L c = false) (hk : Shut L c) (hno : NoWayP L c L.length) (hex : ∀ t K, t ∈ L → (∀ a ∈ K, FmOk a) → ∃ P, Ins L t K P) (hok : ∀ a ∈ L, FmOk a) : dc (EntL L c) = false := by
  refine dc_false fun hE => ?_
  have hs : ∀ a, a ∈ L → StuckL L a := fun a ha => by
    obtain ⟨j, hj, he⟩ := List.getElem_of_mem ha
    exact hst j a hj (by rw [List.getElem?_eq_getElem hj, he])
  have hk2 : (∃ v, c = .var v) ∨ c = .fls ∨ ∃ x y, c = .or x y := hk.imp id (fun h => h.imp id (fun ⟨x, y, h, _⟩ => ⟨x, y, h⟩))
  rcases el_ways hs (hasL_false.1 hc) hk2 hE with ⟨x, y, rfl, h⟩ | ⟨x, y, z, hm, h⟩
  · rcases hk with ⟨v, hv⟩ | hf | ⟨x', y', he, hx, hy⟩
    · cases hv
    · cases hf
    · cases he
      exact h.elim (not_dc hx) (not_dc hy)
  · obtain ⟨j, hj, he⟩ := List.getElem_of_mem hm
    have hj2 : L[j]? = some (.imp (.imp x y) z) := by rw [List.getElem?_eq_getElem hj, he]
    obtain ⟨hx, hy, hz, _, hyz⟩ := fmOk_imp_imp (hok _ hm)
    obtain ⟨P, hP⟩ := hex _ [.imp y z] hm (ok_one hyz)
    obtain ⟨Q, hQ⟩ := hex _ [z] hm (ok_one hz)
    obtain ⟨h1, h2⟩ := h (dropT L (.imp (.imp x y) z)) (fun b hb hne => dropT_mem.2 ⟨hb, hne⟩)
    have := hno j hj x y z hj2 P Q hP hQ
    have e1 : EntL P (.imp x y) := by
      refine (el_r_imp (K := P ++ [x]) (fun b => by rw [List.mem_append, List.mem_singleton])).2 (h1 _ fun b => ?_)
      rw [List.mem_append, List.mem_singleton, hP.adds b, or_assoc]
    rw [dc_true e1, dc_true (h2 _ hQ.adds)] at this
    cases this
theorem ins_ex {L : List Tree} (hL : ∀ a ∈ L, FmOk a) (t : Tree) (K : List Tree) (hK : ∀ a ∈ K, FmOk a) : ∃ P, Ins L t K P := by
  obtain ⟨P, _, h⟩ := putS_of (M := dropT L t ++ K) (fun a ha => (List.mem_append.1 ha).elim (dropT_ok hL a) (hK a))
  exact ⟨P, h⟩
end
end Go.Proofs.YtefkgomecpnpbaaGreat

/- Sequents of the program: with, instead, proving. -/
namespace Go.Proofs.YtefkgomecpnpbaaGreat
open Go.RowKit
open Fm (Tree)

/-- The value reads as the texts of the formulas. -/
def TL (w : World) (v : Value) (L : List Tree) : Prop := Strs w v (L.map tx)
theorem TL.grew {w w' : World} {v : Value} {L : List Tree} (h : TL w v L) (hg : Grew w w') : TL w' v L := Strs.grew h hg
theorem TL.slice {w : World} {v : Value} {L : List Tree} (h : TL w v L) : ∃ A n c, v = .slice A n c := by
  obtain ⟨A, c, e⟩ := strs_slice h
  exact ⟨A, _, c, e⟩
theorem TL.nil_ (w : World) : TL w (.slice none 0 0) [] := Strs.nil_ w

theorem put_t (v vt : Value) (L K : List Tree) (w : World) (h : TL w v L) (hk : TL w vt K) (hL : ∀ a ∈ L, FmOk a) (hK : ∀ a ∈ K, FmOk a) (hn : L.length + K.length ≤ 1099511627776) :
    Calls Tryz.prog 88 #[v, vt] w fun e w' => ∃ u P, e = .returned u ∧ PutOf (L ++ K) P ∧ OwnS w' w.heap.size u (P.map tx) ∧ Grew w w' := by
  refine (put_c v vt (L.map tx) (K.map tx) w h hk (by simpa using hn)).mono ?_
  rintro e w' ⟨u, rfl, h1, h2⟩
  rw [← List.map_append] at h1
  obtain ⟨P, e1, hP⟩ := putS_of (M := L ++ K) (fun a ha => (List.mem_append.1 ha).elim (hL a) (hK a))
  rw [e1] at h1
  exact ⟨u, P, rfl, hP, h1, h2⟩
theorem drop_t (v : Value) (L : List Tree) (t : Tree) (w : World) (h : TL w v L) (hL : ∀ a ∈ L, FmOk a) (ht : FmOk t) (hn : L.length ≤ 1099511627776) :
    Calls Tryz.prog 155 #[v, .string (tx t)] w fun e w' => ∃ u, e = .returned u ∧ TL w' u (dropT L t) ∧ Grew w w' := by
  refine (drop_c v (L.map tx) (tx t) w h (by simpa using hn)).mono ?_
  rintro e w' ⟨u, rfl, h1, h2⟩
  rw [dropS_of hL ht] at h1
  exact ⟨u, rfl, h1, h2⟩
theorem dropT_len (L : List Tree) (t : Tree) : (dropT L t).length ≤ L.length := List.length_filter_le _ _

theorem infoG : (Tryz.prog.info? 90).map (fun i => (i.zero, i.size, i.bytes)) = some (some (.agg #[.slice none 0 0, .string ByteArray.empty]), 2, 40) := by kernel_rfl
theorem infoG2 : (Tryz.prog.info? 90).map (·.size) = some 2 := by kernel_rfl

theorem proving_c (A : Option Addr) (n c : Nat) (r s : ByteArray) (w : World) :
    Calls Tryz.prog 122 #[.agg #[.slice A n c, .string r], .string s] w fun e w' => e = .returned (.agg #[.slice A n c, .string s]) ∧ Grew w w' := by
  have hinfo := infoG2
  have hb : ∀ o1 o2, ((w.alloc o1).alloc o2).heap[w.heap.size + 1]? = some o2 := fun o1 o2 => by
    have h := blk_new (w.alloc o1) o2
    have e : (w.alloc o1).heap.size = w.heap.size + 1 := by simp
    rwa [e] at h
  go_enter Tryz.func122, Tryz.ntmps122
  go_wp2_with fail
  (try simp only [Exit.inBlock, Exit.then])
  refine bodyPost_ret (results_cell_row rfl _ _ (w.heap.size + 1) _ _ _ _ rfl (hb _ _) Tryz.underlying90 rfl hinfo) rfl ?_
  exact ⟨rfl, ((Grew.refl w).alloc _).alloc _⟩

set_option maxHeartbeats 2000000 in
theorem with_c (v vt : Value) (L K : List Tree) (r : ByteArray) (w : World) (h : TL w v L) (hk : TL w vt K) (hL : ∀ a ∈ L, FmOk a) (hK : ∀ a ∈ K, FmOk a) (hn : L.length + K.length ≤ 1099511627776) :
    Calls Tryz.prog 123 #[.agg #[v, .string r], vt] w fun e w' => ∃ u P, e = .returned (.agg #[u, .string r]) ∧ PutOf (L ++ K) P ∧ TL w' u P ∧ Grew w w' := by
  have KP := Lib.hid (fun W (hW : Grew w W) => put_t v vt L K W (h.grew hW) (hk.grew hW) hL hK hn)
  obtain ⟨A, n, c, rfl⟩ := h.slice
  obtain ⟨B, m, d, rfl⟩ := hk.slice
  clear h hk
  have hinfo := infoG2
  go_enter Tryz.func123, Tryz.ntmps123
  go_wp2_with fail
  have hgg := Lib.hid (((Grew.refl w).alloc (.cells #[.slice A n c, .string r] 90)).alloc (.cells #[.slice none 0 0, .string ⟨#[]⟩] 90))
  have hb := blk_new (w.alloc (.cells #[.slice A n c, .string r] 90)) (.cells #[.slice none 0 0, .string ⟨#[]⟩] 90)
  rw [show (w.alloc (.cells #[.slice A n c, .string r] 90)).heap.size = w.heap.size + 1 by simp] at hb
  have hbd : ((w.alloc (.cells #[.slice A n c, .string r] 90)).alloc (.cells #[.slice none 0 0, .string ⟨#[]⟩] 90)).heap[w.heap.size]? = some (.cells #[.slice A n c, .string r] 90 (0, 0)) :=
    (((Grew.refl (w.alloc (.cells #[.slice A n c, .string r] 90))).alloc _).block (k := w.heap.size) (by simp)).trans (blk_new w _)
  generalize hw2 : (w.alloc (.cells #[.slice A n c, .string r] 90)).alloc (.cells #[.slice none 0 0, .string ⟨#[]⟩] 90) = w2 at *
  clear hw2
  have HB := Lib.hid (fun W (hW : Grew w2 W) => (hW.block (blk_lt hb)).trans hb)
  have HD := Lib.hid hbd
  have c1 : ∀ W, Only (w.heap.size + 1) w2 W → W.cell? ⟨w.heap.size, 0, none⟩ = some (.slice A n c) := fun W hW => (hW.cell (p := ⟨w.heap.size, 0, none⟩) (blk_lt hbd) (by show w.heap.size ≠ w.heap.size + 1; omega)).trans (blk_cell hbd 0)
  have c2 : ∀ W, Only (w.heap.size + 1) w2 W → W.cell? ⟨w.heap.size, 1, none⟩ = some (.string r) := fun W hW => (hW.cell (p := ⟨w.heap.size, 1, none⟩) (blk_lt hbd) (by show w.heap.size ≠ w.heap.size + 1; omega)).trans (blk_cell hbd 1)
  have c3 : ∀ W, Grew w2 W → W.cell? ⟨w.heap.size + 1, 0, none⟩ = some (.slice none 0 0) := fun W hW => blk_cell (HB.out W hW) 0
  have c4 : ∀ W, Grew w2 W → W.cell? ⟨w.heap.size + 1, 1, none⟩ = some (.string ⟨#[]⟩) := fun W hW => blk_cell (HB.out W hW) 1
  have c5 : ∀ W, Grew w2 W → W.frozen? ⟨w.heap.size + 1, 0, none⟩ = false := fun W hW => blk_frozen (HB.out W hW) 0
  have c6 : ∀ W, Grew w2 W → W.frozen? ⟨w.heap.size + 1, 1, none⟩ = false := fun W hW => blk_frozen (HB.out W hW) 1
  have hO1 : Only (w.heap.size + 1) w2 w2 := Only.refl _ _
  have hOd : Only (w.heap.size + 1) w2 w2.drew := hO1.drew
  have hd1 := (Grew.refl w2).drew
  have gd := hgg.out.trans hd1
  clear hb hbd
  go_region_held3 (fun w' => Only (w.heap.size + 1) w2 w') (first | with_reducible assumption | exact Only.setCell (Only.setCell (by with_reducible assumption) _) _)
    (first | (go_at_call 88; refine (KP.out _ gd).mono ?_; rintro e w3 ⟨u, P, rfl, hP, hu, hg3⟩; have hk2 : Grew w2 w3 := hd1.trans hg3; have hO2 : Only (w.heap.size + 1) w2 w3 := hk2.only; have HU := Lib.hid hu; obtain ⟨A2, n2, k2, rfl⟩ := TL.slice hu.strs; clear hu))
  go_wp2_with fail
  (try simp only [Exit.inBlock, Exit.then])
  have hb6 : ((w3.setCell ⟨w.heap.size + 1, 0, none⟩ (.slice A2 n2 k2)).setCell ⟨w.heap.size + 1, 1, none⟩ (.string r)).heap[w.heap.size + 1]? = some (.cells #[.slice A2 n2 k2, .string r] 90 (0, 0)) :=
    blk_set (blk_set (HB.out _ hk2) _ _) _ _
  refine bodyPost_ret (results_cell_row rfl _ _ (w.heap.size + 1) _ _ _ _ rfl hb6 Tryz.underlying90 rfl hinfo) rfl ?_
  have hsz : w2.drew.heap.size = w2.heap.size := rfl
  have hlt : w.heap.size + 1 < w2.heap.size := blk_lt (HB.out _ (Grew.refl _))
  have e1 := own_only HU.out (((Only.refl (w.heap.size + 1) w3).setCell (o := 0) (.slice A2 n2 k2)).setCell (o := 1) (.string r)) (fun h => by have := own_of_ge HU.out h; omega)
  exact ⟨_, P, rfl, hP, OwnS.strs e1, ((hgg.out.trans hk2).setCell (by show w.heap.size ≤ w.heap.size + 1; omega) _).setCell (by show w.heap.size ≤ w.heap.size + 1; omega) _⟩
end Go.Proofs.YtefkgomecpnpbaaGreat

/- Sequents of the program: instead. -/
namespace Go.Proofs.YtefkgomecpnpbaaGreat
open Go.RowKit
open Fm (Tree)

set_option maxHeartbeats 2000000 in
theorem instead_c (v vt : Value) (L K : List Tree) (t : Tree) (r : ByteArray) (w : World) (h : TL w v L) (hk : TL w vt K) (hL : ∀ a ∈ L, FmOk a) (hK : ∀ a ∈ K, FmOk a) (ht : FmOk t) (hn : L.length + K.length ≤ 1099511627776) :
    Calls Tryz.prog 135 #[.agg #[v, .string r], .string (tx t), vt] w fun e w' => ∃ u P, e = .returned (.agg #[u, .string r]) ∧ Ins L t K P ∧ TL w' u P ∧ Grew w w' := by
  have KD := Lib.hid (fun W (hW : Grew w W) => drop_t v L t W (h.grew hW) hL ht (by omega))
  have KP := Lib.hid (fun u W (hW : Grew w W) (hu : TL W u (dropT L t)) => put_t u vt (dropT L t) K W hu (hk.grew hW) (dropT_ok hL) hK (by have := dropT_len L t; omega))
  obtain ⟨A, n, c, rfl⟩ := h.slice
  obtain ⟨B, m, d, rfl⟩ := hk.slice
  clear h hk
  have hinfo := infoG2
  go_enter Tryz.func135, Tryz.ntmps135
  go_wp2_with fail
  have hgg := Lib.hid (((Grew.refl w).alloc (.cells #[.slice A n c, .string r] 90)).alloc (.cells #[.slice none 0 0, .string ⟨#[]⟩] 90))
  have hb := blk_new (w.alloc (.cells #[.slice A n c, .string r] 90)) (.cells #[.slice none 0 0, .string ⟨#[]⟩] 90)
  rw [show (w.alloc (.cells #[.slice A n c, .string r] 90)).heap.size = w.heap.size + 1 by simp] at hb
  have hbd : ((w.alloc (.cells #[.slice A n c, .string r] 90)).alloc (.cells #[.slice none 0 0, .string ⟨#[]⟩] 90)).heap[w.heap.size]? = some (.cells #[.slice A n c, .string r] 90 (0, 0)) :=
    (((Grew.refl (w.alloc (.cells #[.slice A n c, .string r] 90))).alloc _).block (k := w.heap.size) (by simp)).trans (blk_new w _)
  generalize hw2 : (w.alloc (.cells #[.slice A n c, .string r] 90)).alloc (.cells #[.slice none 0 0, .string ⟨#[]⟩] 90) = w2 at *
  clear hw2
  have HB := Lib.hid (fun W (hW : Grew w2 W) => (hW.block (blk_lt hb)).trans hb)
  have HD := Lib.hid hbd
  have c1 : ∀ W, Only (w.heap.size + 1) w2 W → W.cell? ⟨w.heap.size, 0, none⟩ = some (.slice A n c) := fun W hW => (hW.cell (p := ⟨w.heap.size, 0, none⟩) (blk_lt hbd) (by show w.heap.size ≠ w.heap.size + 1; omega)).trans (blk_cell hbd 0)
  have c2 : ∀ W, Only (w.heap.size + 1) w2 W → W.cell? ⟨w.heap.size, 1, none⟩ = some (.string r) := fun W hW => (hW.cell (p := ⟨w.heap.size, 1, none⟩) (blk_lt hbd) (by show w.heap.size ≠ w.heap.size + 1; omega)).trans (blk_cell hbd 1)
  have c3 : ∀ W, Grew w2 W → W.cell? ⟨w.heap.size + 1, 0, none⟩ = some (.slice none 0 0) := fun W hW => blk_cell (HB.out W hW) 0
  have c4 : ∀ W, Grew w2 W → W.cell? ⟨w.heap.size + 1, 1, none⟩ = some (.string ⟨#[]⟩) := fun W hW => blk_cell (HB.out W hW) 1
  have c5 : ∀ W, Grew w2 W → W.frozen? ⟨w.heap.size + 1, 0, none⟩ = false := fun W hW => blk_frozen (HB.out W hW) 0
  have c6 : ∀ W, Grew w2 W → W.frozen? ⟨w.heap.size + 1, 1, none⟩ = false := fun W hW => blk_frozen (HB.out W hW) 1
  have hO1 : Only (w.heap.size + 1) w2 w2 := Only.refl _ _
  have hOd : Only (w.heap.size + 1) w2 w2.drew := hO1.drew
  have hd1 := (Grew.refl w2).drew
  have gd := hgg.out.trans hd1
  clear hb hbd
  go_region_held3 (fun w' => Only (w.heap.size + 1) w2 w') (first | with_reducible assumption | exact Only.setCell (Only.setCell (by with_reducible assumption) _) _)
    (first
     | (go_at_call 88; refine (KP.out _ _ gD HUd.out).mono ?_; rintro e w4 ⟨u, P, rfl, hP, hu, hg4⟩; have hk4 : Grew w2 w4 := hk2.trans hg4; have hO4 : Only (w.heap.size + 1) w2 w4 := hk4.only; have hsz4 := hk2.size; have HU := Lib.hid hu; obtain ⟨A2, n2, k2, rfl⟩ := TL.slice hu.strs; clear hu)
     | (go_at_call 155; refine (KD.out _ gd).mono ?_; rintro e w3 ⟨u1, rfl, hu1, hg3⟩; have hk2 : Grew w2 w3 := hd1.trans hg3; have gD := hgg.out.trans hk2; have hO2 : Only (w.heap.size + 1) w2 w3 := hk2.only; have HUd := Lib.hid hu1; obtain ⟨A1, n1, k1, rfl⟩ := hu1.slice; clear hu1))
  go_wp2_with fail
  (try simp only [Exit.inBlock, Exit.then])
  have hb6 : ((w4.setCell ⟨w.heap.size + 1, 0, none⟩ (.slice A2 n2 k2)).setCell ⟨w.heap.size + 1, 1, none⟩ (.string r)).heap[w.heap.size + 1]? = some (.cells #[.slice A2 n2 k2, .string r] 90 (0, 0)) :=
    blk_set (blk_set (HB.out _ hk4) _ _) _ _
  refine bodyPost_ret (results_cell_row rfl _ _ (w.heap.size + 1) _ _ _ _ rfl hb6 Tryz.underlying90 rfl hinfo) rfl ?_
  have hlt : w.heap.size + 1 < w2.heap.size := blk_lt (HB.out _ (Grew.refl _))
  have e1 := own_only HU.out (((Only.refl (w.heap.size + 1) w4).setCell (o := 0) (.slice A2 n2 k2)).setCell (o := 1) (.string r)) (fun h => by have := own_of_ge HU.out h; omega)
  exact ⟨_, P, rfl, hP, OwnS.strs e1, ((hgg.out.trans hk4).setCell (by show w.heap.size ≤ w.heap.size + 1; omega) _).setCell (by show w.heap.size ≤ w.heap.size + 1; omega) _⟩
end Go.Proofs.YtefkgomecpnpbaaGreat

/- A text appended to a row of strings of the call's own. -/
namespace Go.Proofs.YtefkgomecpnpbaaGreat
open Go.RowKit

/-- 'out = append(out, s)', out a row of strings of the call's own. -/
theorem wpList_appStr {ops : Array Oper} {rest : List Oper} {o : Oper} {a : Act} {Q : Exit → Act → World → Prop} {w w0 : World} (s x : Operand) (hgd : o.guard = none)
    (ho : o.op = .call { callee := .builtin .append, args := #[s, x], argTypes := #[68, 68] })
    (v : Value) (L : List ByteArray) (hs : a.eval s = v) (hown : OwnS w w0.heap.size v L) (hg : Grew w0 w) (vx : Value) (k : ByteArray) (hx : a.eval x = vx) (hr : Rd w 1 vx 1 [.string k]) (hn : L.length ≤ 1048576)
    (h : ∀ v' w', OwnS w' w0.heap.size v' (L ++ [k]) → Grew w0 w' → w.grownBy w' v.ownBlock → wpList Tryz.prog ops Q rest (a.put o.dst v') w') : wpList Tryz.prog ops Q (o :: rest) a w := by
  obtain ⟨i0, hi0, hz0, hz1, hz2⟩ := info_parts Tryz.infoStr
  refine wpList_append_rd w hgd s x _ ho w0.heap.size 9 i0 _ 1 16 Tryz.underlying68 hi0 hz0 hz1 hz2 rfl (by omega) v L.length (scells L) hs hown vx 1 [.string k] hx hr (by simp [Value.oneCell']) (by unfold maxLen; omega) (by omega) hg.size ?_
  intro v' w' h1 h2 h3
  refine h v' w' ?_ (hg.grown h2 fun k hk => (hown.lt k hk).1) h2
  unfold OwnS
  rw [List.length_append, scells_append]
  exact h1

end Go.Proofs.YtefkgomecpnpbaaGreat

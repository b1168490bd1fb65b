/- Texts in one file: MvS FvS RgS RhA RhB MnV MnW FaW From BigW FaX RhD FcN FvO LawRh IntArg IntLaw IntEq IntMark FrM NdLaw LawRg LawRi Args0 ArgB. -/
import Derived.Deep.RegionHeld3
import Derived.BigQuiet
import Derived.StillTailTactics
import Derived.BigRegion
import Derived.Deep.LoopGhost
import Derived.Deep.OwnRows
import Derived.ChangeSlices
import Derived.Deep.Strs
import Derived.Lib.SmallJoins
import Derived.Carry
import Derived.ProofKit
import Derived.Test.YtpfncncohnhanaaGreatDoorPc1
import Derived.Test.YtpfncncohnhanaaGreatDoorPc2
import Derived.Test.YtpfncncohnhanaaGreatDoorPc3
import Derived.Test.YtpfncncohnhanaaGreatDoorPc4
import Derived.Test.YtpfncncohnhanaaGreatDoorPc5
set_option linter.all false

/- l06Truth of the reference. -/
namespace Go.Proofs.YtpfncncohnhanaaGreatDoor
open Go.RowKit
open Fm (Nd Tree)

theorem mv_sm {A V : List Nat} (hA : Rl A) (hV : ∀ m ∈ V, m < 2 ^ A.length) (t : Tree) : mv A V t < 1073741824 := Nat.lt_of_lt_of_le (mv_lt hV t) (pow30' hA.1)
theorem full_sm {n : Nat} (h : n ≤ 30) : full n < 1073741824 := Nat.lt_of_lt_of_le (full_lt n) (pow30' h)
theorem tail_un {w : World} {b o n c : Nat} {k : Int} {x : Tree} (h : Nodes w (.slice (some ⟨b, o, none⟩) n c) ((k, 0) :: Fm.enc x)) :
    ¬ c = 1 ∧ 1 ≤ n ∧ n ≤ c ∧ c ≤ 9223372036854775807 ∧ Nodes w (.slice (some ⟨b, o + 2, none⟩) (n - 1) (c - 1)) (Fm.enc x) := by
  have hp := Fm.enc_pos x
  rcases h.open_ with ⟨h1, _⟩ | ⟨b', o', c', h1, h2, h3, h4, h5⟩
  · cases h1
  · obtain ⟨⟨rfl, rfl⟩, rfl, rfl⟩ : (b = b' ∧ o = o') ∧ n = ((k, 0) :: Fm.enc x).length ∧ c = c' := by simpa using h1
    simp only [List.length_cons] at h2 h ⊢
    have hc1 : ¬ c = 1 := by omega
    have h6 := nodes_tail h 1 (by omega) h2 (by simp)
    rw [if_neg hc1] at h6
    exact ⟨hc1, by omega, h2, h3, h6⟩
def TruthOk (A V : List Nat) (t : Tree) : Prop := ∀ (v u va : Value) (w : World), Ints w v (zs A) → Ints w u (zs V) → Nodes w va (Fm.enc t) → (Fm.enc t).length ≤ 1048576 →
    Calls Tryz.prog 116 #[.agg #[.int .i64 (A.length : Int), v, u], va] w fun e w' => e = .returned (.int .i64 ((mv A V t : Nat) : Int)) ∧ Grew w w'
theorem enc_two {k : Int} {x y : Tree} {n : Nat} (h : ((k, 0) :: (Fm.enc x ++ Fm.enc y)).length ≤ n) : (Fm.enc x).length ≤ n ∧ (Fm.enc y).length ≤ n := by
  simp only [List.length_cons, List.length_append] at h
  constructor <;> omega
set_option maxHeartbeats 4000000 in
theorem truth_ok (A V : List Nat) (hA : Rl A) (hV : ∀ m ∈ V, m < 2 ^ A.length) (hl : V.length = 6) : ∀ t : Tree, TruthOk A V t := by
  intro t
  induction t with
  | fls =>
    intro v u va w h hu ha ht
    obtain ⟨b, o, n, c, rfl, hn0, hne, hk⟩ := head_t ha
    simp only [kindOf] at hk
    have hnn : (0 : Int) < (n : Int) := by omega
    have HFull := Lib.hid (l01Full_q A.length hA.1)
    rw [← full_cast] at HFull
    have hfs := full_sm hA.1
    obtain ⟨A', cA, rfl⟩ := ints_sliceN h
    obtain ⟨AU, cu, rfl⟩ := ints_sliceN hu
    show Calls _ _ _ _ fun e w' => e = .returned (.int .i64 0) ∧ Grew w w'
    clear h hu ha ht hA hne hV hl
    generalize full A.length = FU at *
    generalize A.length = NA at *
    generalize V.length = NV at *
    have k0 : ∀ W, Grew (w.alloc (.cells #[.int .i64 (NA : Int), .slice A' NA cA, .slice AU NV cu] 131)) W → W.cell? ⟨b, o, none⟩ = some (.int .i64 1) := fun W hW => hk W (((Grew.refl w).alloc _).trans hW)
    clear hk
    obtain ⟨w1, hw1⟩ : ∃ w1, w1 = w.alloc (.cells #[.int .i64 (NA : Int), .slice A' NA cA, .slice AU NV cu] 131) := ⟨_, rfl⟩
    rw [← hw1] at k0
    have hal : Grew w w1 := by rw [hw1]; exact (Grew.refl w).alloc _
    have hb0 : w1.heap[w.heap.size]? = some (.cells #[.int .i64 (NA : Int), .slice A' NA cA, .slice AU NV cu] 131 (0, 0)) := by rw [hw1]; exact blk_new w _
    have p0 : ∀ W, Grew w1 W → W.cell? ⟨w.heap.size, 0, none⟩ = some (.int .i64 (NA : Int)) := fun W hW => by rw [blk_cell ((hW.block (blk_lt hb0)).trans hb0)]; rfl
    have p1 : ∀ W, Grew w1 W → W.cell? ⟨w.heap.size, 1, none⟩ = some (.slice A' NA cA) := fun W hW => by rw [blk_cell ((hW.block (blk_lt hb0)).trans hb0)]; rfl
    have p2 : ∀ W, Grew w1 W → W.cell? ⟨w.heap.size, 2, none⟩ = some (.slice AU NV cu) := fun W hW => by rw [blk_cell ((hW.block (blk_lt hb0)).trans hb0)]; rfl
    have hr1 := Grew.refl w1
    have hd1 := hr1.drew
    have p00 := p0 w1 hr1
    have k00 := k0 w1 hr1
    have HAL := Lib.hid hal
    clear hb0 hal
    go_enter Tryz.func116, Tryz.ntmps116
    go_wp2_with fail
    simp only [← hw1]
    clear hw1
    refine (HFull.out _).mono ?_
    rintro e wf ⟨rfl, hwf⟩
    rw [hwf]
    clear hwf
    go_wp2_with fail
    go_ret
    exact ⟨rfl, HAL.out⟩
  | var s =>
    intro v u va w h hu ha ht
    obtain ⟨b, o, c, rfl, hc0, hc1, hbl, hcell⟩ : ∃ b o c, va = .slice (some ⟨b, o, none⟩) 1 c ∧ 1 ≤ c ∧ c ≤ 9223372036854775807 ∧ b < w.heap.size ∧ ∀ W, Grew w W → W.cell? ⟨b, o, none⟩ = some (.int .i64 0) ∧ W.cell? ⟨b, o + 1, none⟩ = some (.int .i64 (s.val : Int)) := by
      rcases ha.open_ with ⟨_, h0⟩ | ⟨b, o, c, rfl, q1, q2, q3, q4⟩
      · exact absurd h0 (by simp [Fm.enc])
      · exact ⟨b, o, c, rfl, q1, q2, q3, fun W hW => by simpa [kd, sy, Fm.enc, List.getD] using q4 0 (by simp [Fm.enc]) W hW⟩
    have HFull := Lib.hid (l01Full_q A.length hA.1)
    rw [← full_cast] at HFull
    have hfs := full_sm hA.1
    obtain ⟨A', cA, rfl⟩ := ints_sliceN h
    obtain ⟨AU, cu, rfl⟩ := ints_sliceN hu
    have hcu := cellsN hu (by omega)
    obtain ⟨bu, ou, rfl, hcu⟩ := hcu
    have hs : s.val < 6 := s.isLt
    have k2 := hcu s.val (by omega)
    show Calls _ _ _ _ fun e w' => e = .returned (.int .i64 ((nt V s.val : Nat) : Int)) ∧ Grew w w'
    generalize nt V s.val = y at *
    generalize s.val = sv at *
    rw [hl]
    clear h hu ha ht hA hcu hV hl
    generalize full A.length = FU at *
    generalize A.length = NA at *
    have hsi : (sv : Int) < 6 := by omega
    have k0 : ∀ W, Grew (w.alloc (.cells #[.int .i64 (NA : Int), .slice A' NA cA, .slice (some ⟨bu, ou, none⟩) 6 cu] 131)) W → W.cell? ⟨b, o, none⟩ = some (.int .i64 0) := fun W hW => (hcell W (((Grew.refl w).alloc _).trans hW)).1
    have k1 : ∀ W, Grew (w.alloc (.cells #[.int .i64 (NA : Int), .slice A' NA cA, .slice (some ⟨bu, ou, none⟩) 6 cu] 131)) W → W.cell? ⟨b, o + 1, none⟩ = some (.int .i64 (sv : Int)) := fun W hW => (hcell W (((Grew.refl w).alloc _).trans hW)).2
    have k3 : ∀ W, Grew (w.alloc (.cells #[.int .i64 (NA : Int), .slice A' NA cA, .slice (some ⟨bu, ou, none⟩) 6 cu] 131)) W → W.cell? ⟨bu, ou + sv, none⟩ = some (.int .i64 (y : Int)) := fun W hW => k2 W (((Grew.refl w).alloc _).trans hW)
    clear hcell k2
    obtain ⟨w1, hw1⟩ : ∃ w1, w1 = w.alloc (.cells #[.int .i64 (NA : Int), .slice A' NA cA, .slice (some ⟨bu, ou, none⟩) 6 cu] 131) := ⟨_, rfl⟩
    rw [← hw1] at k0 k1 k3
    have hal : Grew w w1 := by rw [hw1]; exact (Grew.refl w).alloc _
    have hb0 : w1.heap[w.heap.size]? = some (.cells #[.int .i64 (NA : Int), .slice A' NA cA, .slice (some ⟨bu, ou, none⟩) 6 cu] 131 (0, 0)) := by rw [hw1]; exact blk_new w _
    have p0 : ∀ W, Grew w1 W → W.cell? ⟨w.heap.size, 0, none⟩ = some (.int .i64 (NA : Int)) := fun W hW => by rw [blk_cell ((hW.block (blk_lt hb0)).trans hb0)]; rfl
    have p1 : ∀ W, Grew w1 W → W.cell? ⟨w.heap.size, 1, none⟩ = some (.slice A' NA cA) := fun W hW => by rw [blk_cell ((hW.block (blk_lt hb0)).trans hb0)]; rfl
    have p2 : ∀ W, Grew w1 W → W.cell? ⟨w.heap.size, 2, none⟩ = some (.slice (some ⟨bu, ou, none⟩) 6 cu) := fun W hW => by rw [blk_cell ((hW.block (blk_lt hb0)).trans hb0)]; rfl
    have hr1 := Grew.refl w1
    have hd1 := hr1.drew
    have p00 := p0 w1 hr1
    have k00 := k0 w1 hr1
    have HAL := Lib.hid hal
    clear hb0 hal
    go_enter Tryz.func116, Tryz.ntmps116
    go_wp2_with fail
    simp only [← hw1]
    clear hw1
    refine (HFull.out _).mono ?_
    rintro e wf ⟨rfl, hwf⟩
    rw [hwf]
    clear hwf
    go_wp2_with fail
    go_quiet (fail)
    go_wp2_with fail
    go_ret
    exact ⟨rfl, HAL.out.drewN _⟩
  | and x y ihx ihy =>
    intro v u va w h hu ha ht
    obtain ⟨hx, hy⟩ := enc_two (k := kindOf (.and x y)) ht
    have KL := Lib.hid (fun W (hW : Grew w W) => l02Left_c va (Fm.enc (.and x y)) x W (ha.grew hW) (by omega) (at_first (two_and x y)))
    have KR := Lib.hid (fun W (hW : Grew w W) => l02Right_c va (Fm.enc (.and x y)) x y W (ha.grew hW) (by omega) (at_first (two_and x y)) (at_second (two_and x y)) (two_and x y).len)
    have KX := Lib.hid (fun va W (hW : Grew w W) (hn : Nodes W va (Fm.enc x)) => ihx v u va W (h.grew hW) (hu.grew hW) hn hx)
    have KY := Lib.hid (fun va W (hW : Grew w W) (hn : Nodes W va (Fm.enc y)) => ihy v u va W (h.grew hW) (hu.grew hW) hn hy)
    have HFull := Lib.hid (l01Full_q A.length hA.1)
    rw [← full_cast] at HFull
    have hfs := full_sm hA.1
    obtain ⟨A', cA, rfl⟩ := ints_sliceN h
    obtain ⟨AU, cu, rfl⟩ := ints_sliceN hu
    have hop := and_i64 (mv A V x) (mv A V y) (by have := mv_sm hA hV x; omega) (by have := mv_sm hA hV y; omega)
    obtain ⟨b, o, n, c, rfl, hn0, hne, hk⟩ := head_t ha
    simp only [kindOf] at hk
    have hnn : (0 : Int) < (n : Int) := by omega
    show Calls _ _ _ _ fun e w' => e = .returned (.int .i64 ((mv A V x &&& mv A V y : Nat) : Int)) ∧ Grew w w'
    generalize mv A V x = X at *
    generalize mv A V y = Y at *
    clear h hu ha ht hA hne hx hy hV hl ihx ihy hfs
    generalize full A.length = FU at *
    generalize X &&& Y = Z at *
    generalize V.length = NV at *
    generalize A.length = NA at *
    have k0 : ∀ W, Grew (w.alloc (.cells #[.int .i64 (NA : Int), .slice A' NA cA, .slice AU NV cu] 131)) W → W.cell? ⟨b, o, none⟩ = some (.int .i64 2) := fun W hW => hk W (((Grew.refl w).alloc _).trans hW)
    clear hk
    obtain ⟨w1, hw1⟩ : ∃ w1, w1 = w.alloc (.cells #[.int .i64 (NA : Int), .slice A' NA cA, .slice AU NV cu] 131) := ⟨_, rfl⟩
    rw [← hw1] at k0
    have hal : Grew w w1 := by rw [hw1]; exact (Grew.refl w).alloc _
    have hb0 : w1.heap[w.heap.size]? = some (.cells #[.int .i64 (NA : Int), .slice A' NA cA, .slice AU NV cu] 131 (0, 0)) := by rw [hw1]; exact blk_new w _
    have p0 : ∀ W, Grew w1 W → W.cell? ⟨w.heap.size, 0, none⟩ = some (.int .i64 (NA : Int)) := fun W hW => by rw [blk_cell ((hW.block (blk_lt hb0)).trans hb0)]; rfl
    have p1 : ∀ W, Grew w1 W → W.cell? ⟨w.heap.size, 1, none⟩ = some (.slice A' NA cA) := fun W hW => by rw [blk_cell ((hW.block (blk_lt hb0)).trans hb0)]; rfl
    have p2 : ∀ W, Grew w1 W → W.cell? ⟨w.heap.size, 2, none⟩ = some (.slice AU NV cu) := fun W hW => by rw [blk_cell ((hW.block (blk_lt hb0)).trans hb0)]; rfl
    have hr1 := Grew.refl w1
    have hd1 := hr1.drew
    have p00 := p0 w1 hr1
    have k00 := k0 w1 hr1
    have HAL := Lib.hid hal
    clear hb0 hal
    go_enter Tryz.func116, Tryz.ntmps116
    go_wp2_with fail
    simp only [← hw1]
    clear hw1
    refine (HFull.out _).mono ?_
    rintro e wf ⟨rfl, hwf⟩
    rw [hwf]
    clear hwf
    go_wp2_with fail
    refine wp_region_held_drew (S := fun w' => Grew w1 w') (by kernel_rfl) hd1 (fun hHeld => ?_)
    refine wpAnyH_take (i := 0) (oi := ?on1) (v := ?vn1) ?hin1 ?an1 ?bn1 ?cn1 ?qn1 (Or.inl ⟨?dn1, ?hyn1⟩) hHeld ?restn1
    case hin1 => (simp only [List.getElem?_toArray, List.getElem?_cons_zero]; exact rfl)
    case an1 => kernel_rfl
    case bn1 => kernel_rfl
    case cn1 => kernel_rfl
    case qn1 => exact fun _ _ _ h => h
    case dn1 => rfl
    case hyn1 => (intro z hSw; (try dsimp only at hSw); go_simp; (try with_reducible rfl))
    try simp only [Act.put, List.setIfInBounds_toArray, List.set_cons_zero, List.set_cons_succ]
    refine wpAnyH_take (i := 1) (oi := ?on2) (v := ?vn2) ?hin2 ?an2 ?bn2 ?cn2 ?qn2 (Or.inl ⟨?dn2, ?hyn2⟩) hHeld ?restn2
    case hin2 => (simp only [List.getElem?_toArray, List.getElem?_cons_succ, List.getElem?_cons_zero]; exact rfl)
    case an2 => kernel_rfl
    case bn2 => kernel_rfl
    case cn2 => kernel_rfl
    case qn2 => exact fun _ _ _ h => h
    case dn2 => rfl
    case hyn2 => (intro z hSw; (try dsimp only at hSw); go_simp; (try with_reducible rfl))
    try simp only [Act.put, List.setIfInBounds_toArray, List.set_cons_zero, List.set_cons_succ]
    refine wpAnyH_take (i := 4) (oi := ?on3) (v := ?vn3) ?hin3 ?an3 ?bn3 ?cn3 ?qn3 (Or.inl ⟨?dn3, ?hyn3⟩) hHeld ?restn3
    case hin3 => (simp only [List.getElem?_toArray, List.getElem?_cons_succ, List.getElem?_cons_zero]; exact rfl)
    case an3 => kernel_rfl
    case bn3 => kernel_rfl
    case cn3 => kernel_rfl
    case qn3 => exact fun _ _ _ h => h
    case dn3 => rfl
    case hyn3 => (intro z hSw; (try dsimp only at hSw); go_simp; (try with_reducible rfl))
    try simp only [Act.put, List.setIfInBounds_toArray, List.set_cons_zero, List.set_cons_succ]
    refine wpAnyH_take (i := 5) (oi := ?on4) (v := ?vn4) ?hin4 ?an4 ?bn4 ?cn4 ?qn4 (Or.inl ⟨?dn4, ?hyn4⟩) hHeld ?restn4
    case hin4 => (simp only [List.getElem?_toArray, List.getElem?_cons_succ, List.getElem?_cons_zero]; exact rfl)
    case an4 => kernel_rfl
    case bn4 => kernel_rfl
    case cn4 => kernel_rfl
    case qn4 => exact fun _ _ _ h => h
    case dn4 => rfl
    case hyn4 => (intro z hSw; (try dsimp only at hSw); go_simp; (try with_reducible rfl))
    try simp only [Act.put, List.setIfInBounds_toArray, List.set_cons_zero, List.set_cons_succ]
    refine wpAnyH_ready (rs := [2]) (by kernel_rfl) (by simp) ?_
    refine AllReadyH.cons (o := ?on5) ?hin5 ?restn5 AllReadyH.nil
    case hin5 => (simp only [List.getElem?_toArray, List.getElem?_cons_succ, List.getElem?_cons_zero]; exact rfl)
    intro K hK
    go_simp
    go_at_call 162
    refine (KL.out _ (HAL.out.trans hd1)).mono ?_
    rintro e w2 ⟨va2, rfl, hn2, hgw2⟩
    have h2 : Grew w1 w2 := hd1.trans hgw2
    obtain ⟨B2, e2, rfl⟩ := nodes_slice hn2
    refine hK.out _ _ ?_ (fun hHeld => ?_)
    · (try dsimp only); first | with_reducible assumption | exact Grew.alloc ‹_› _
    clear hK K
    try simp only [Act.put, List.setIfInBounds_toArray, List.set_cons_zero, List.set_cons_succ]
    refine wpAnyH_ready (rs := [3]) (by kernel_rfl) (by simp) ?_
    refine AllReadyH.cons (o := ?on6) ?hin6 ?restn6 AllReadyH.nil
    case hin6 => (simp only [List.getElem?_toArray, List.getElem?_cons_succ, List.getElem?_cons_zero]; exact rfl)
    intro K hK
    go_simp
    go_at_call 116
    refine (KX.out _ _ (HAL.out.trans h2) hn2).mono ?_
    rintro e w3 ⟨rfl, hgw3⟩
    have h3 : Grew w1 w3 := h2.trans hgw3
    refine hK.out _ _ ?_ (fun hHeld => ?_)
    · (try dsimp only); first | with_reducible assumption | exact Grew.alloc ‹_› _
    clear hK K
    try simp only [Act.put, List.setIfInBounds_toArray, List.set_cons_zero, List.set_cons_succ]
    refine wpAnyH_ready (rs := [6]) (by kernel_rfl) (by simp) ?_
    refine AllReadyH.cons (o := ?on7) ?hin7 ?restn7 AllReadyH.nil
    case hin7 => (simp only [List.getElem?_toArray, List.getElem?_cons_succ, List.getElem?_cons_zero]; exact rfl)
    intro K hK
    go_simp
    go_at_call 163
    refine (KR.out _ (HAL.out.trans h3)).mono ?_
    rintro e w4 ⟨va4, rfl, hn4, hgw4⟩
    have h4 : Grew w1 w4 := h3.trans hgw4
    obtain ⟨B4, e4, rfl⟩ := nodes_slice hn4
    refine hK.out _ _ ?_ (fun hHeld => ?_)
    · (try dsimp only); first | with_reducible assumption | exact Grew.alloc ‹_› _
    clear hK K
    try simp only [Act.put, List.setIfInBounds_toArray, List.set_cons_zero, List.set_cons_succ]
    refine wpAnyH_ready (rs := [7]) (by kernel_rfl) (by simp) ?_
    refine AllReadyH.cons (o := ?on8) ?hin8 ?restn8 AllReadyH.nil
    case hin8 => (simp only [List.getElem?_toArray, List.getElem?_cons_succ, List.getElem?_cons_zero]; exact rfl)
    intro K hK
    go_simp
    go_at_call 116
    refine (KY.out _ _ (HAL.out.trans h4) hn4).mono ?_
    rintro e w5 ⟨rfl, hgw5⟩
    have h5 : Grew w1 w5 := h4.trans hgw5
    refine hK.out _ _ ?_ (fun hHeld => ?_)
    · (try dsimp only); first | with_reducible assumption | exact Grew.alloc ‹_› _
    clear hK K
    try simp only [Act.put, List.setIfInBounds_toArray, List.set_cons_zero, List.set_cons_succ]
    refine wpAnyH_take (i := 8) (oi := ?on9) (v := ?vn9) ?hin9 ?an9 ?bn9 ?cn9 ?qn9 (Or.inl ⟨?dn9, ?hyn9⟩) hHeld ?restn9
    case hin9 => (simp only [List.getElem?_toArray, List.getElem?_cons_succ, List.getElem?_cons_zero]; exact rfl)
    case an9 => kernel_rfl
    case bn9 => kernel_rfl
    case cn9 => kernel_rfl
    case qn9 => exact fun _ _ _ h => h
    case dn9 => rfl
    case hyn9 => (intro z hSw; (try dsimp only at hSw); go_simp; (try with_reducible rfl))
    try simp only [Act.put, List.setIfInBounds_toArray, List.set_cons_zero, List.set_cons_succ]
    refine wpAnyH_take (i := 9) (oi := ?on10) (v := ?vn10) ?hin10 ?an10 ?bn10 ?cn10 ?qn10 (Or.inl ⟨?dn10, ?hyn10⟩) hHeld ?restn10
    case hin10 => (simp only [List.getElem?_toArray, List.getElem?_cons_succ, List.getElem?_cons_zero]; exact rfl)
    case an10 => kernel_rfl
    case bn10 => kernel_rfl
    case cn10 => kernel_rfl
    case qn10 => exact fun _ _ _ h => h
    case dn10 => rfl
    case hyn10 => (intro z hSw; (try dsimp only at hSw); go_simp; (try with_reducible rfl))
    try simp only [Act.put, List.setIfInBounds_toArray, List.set_cons_zero, List.set_cons_succ]
    refine wpAnyH_done (by kernel_rfl) ?_ _
    go_wp2_with fail
    go_ret
    exact ⟨rfl, HAL.out.trans h5⟩
  | or x y ihx ihy =>
    intro v u va w h hu ha ht
    obtain ⟨hx, hy⟩ := enc_two (k := kindOf (.or x y)) ht
    have KL := Lib.hid (fun W (hW : Grew w W) => l02Left_c va (Fm.enc (.or x y)) x W (ha.grew hW) (by omega) (at_first (two_or x y)))
    have KR := Lib.hid (fun W (hW : Grew w W) => l02Right_c va (Fm.enc (.or x y)) x y W (ha.grew hW) (by omega) (at_first (two_or x y)) (at_second (two_or x y)) (two_or x y).len)
    have KX := Lib.hid (fun va W (hW : Grew w W) (hn : Nodes W va (Fm.enc x)) => ihx v u va W (h.grew hW) (hu.grew hW) hn hx)
    have KY := Lib.hid (fun va W (hW : Grew w W) (hn : Nodes W va (Fm.enc y)) => ihy v u va W (h.grew hW) (hu.grew hW) hn hy)
    have HFull := Lib.hid (l01Full_q A.length hA.1)
    rw [← full_cast] at HFull
    have hfs := full_sm hA.1
    obtain ⟨A', cA, rfl⟩ := ints_sliceN h
    obtain ⟨AU, cu, rfl⟩ := ints_sliceN hu
    have hop := or_i64 (mv A V x) (mv A V y) (by have := mv_sm hA hV x; omega) (by have := mv_sm hA hV y; omega)
    obtain ⟨b, o, n, c, rfl, hn0, hne, hk⟩ := head_t ha
    simp only [kindOf] at hk
    have hnn : (0 : Int) < (n : Int) := by omega
    show Calls _ _ _ _ fun e w' => e = .returned (.int .i64 ((mv A V x ||| mv A V y : Nat) : Int)) ∧ Grew w w'
    generalize mv A V x = X at *
    generalize mv A V y = Y at *
    clear h hu ha ht hA hne hx hy hV hl ihx ihy hfs
    generalize full A.length = FU at *
    generalize X ||| Y = Z at *
    generalize V.length = NV at *
    generalize A.length = NA at *
    have k0 : ∀ W, Grew (w.alloc (.cells #[.int .i64 (NA : Int), .slice A' NA cA, .slice AU NV cu] 131)) W → W.cell? ⟨b, o, none⟩ = some (.int .i64 3) := fun W hW => hk W (((Grew.refl w).alloc _).trans hW)
    clear hk
    obtain ⟨w1, hw1⟩ : ∃ w1, w1 = w.alloc (.cells #[.int .i64 (NA : Int), .slice A' NA cA, .slice AU NV cu] 131) := ⟨_, rfl⟩
    rw [← hw1] at k0
    have hal : Grew w w1 := by rw [hw1]; exact (Grew.refl w).alloc _
    have hb0 : w1.heap[w.heap.size]? = some (.cells #[.int .i64 (NA : Int), .slice A' NA cA, .slice AU NV cu] 131 (0, 0)) := by rw [hw1]; exact blk_new w _
    have p0 : ∀ W, Grew w1 W → W.cell? ⟨w.heap.size, 0, none⟩ = some (.int .i64 (NA : Int)) := fun W hW => by rw [blk_cell ((hW.block (blk_lt hb0)).trans hb0)]; rfl
    have p1 : ∀ W, Grew w1 W → W.cell? ⟨w.heap.size, 1, none⟩ = some (.slice A' NA cA) := fun W hW => by rw [blk_cell ((hW.block (blk_lt hb0)).trans hb0)]; rfl
    have p2 : ∀ W, Grew w1 W → W.cell? ⟨w.heap.size, 2, none⟩ = some (.slice AU NV cu) := fun W hW => by rw [blk_cell ((hW.block (blk_lt hb0)).trans hb0)]; rfl
    have hr1 := Grew.refl w1
    have hd1 := hr1.drew
    have p00 := p0 w1 hr1
    have k00 := k0 w1 hr1
    have HAL := Lib.hid hal
    clear hb0 hal
    go_enter Tryz.func116, Tryz.ntmps116
    go_wp2_with fail
    simp only [← hw1]
    clear hw1
    refine (HFull.out _).mono ?_
    rintro e wf ⟨rfl, hwf⟩
    rw [hwf]
    clear hwf
    go_wp2_with fail
    refine wp_region_held_drew (S := fun w' => Grew w1 w') (by kernel_rfl) hd1 (fun hHeld => ?_)
    refine wpAnyH_take (i := 0) (oi := ?on11) (v := ?vn11) ?hin11 ?an11 ?bn11 ?cn11 ?qn11 (Or.inl ⟨?dn11, ?hyn11⟩) hHeld ?restn11
    case hin11 => (simp only [List.getElem?_toArray, List.getElem?_cons_zero]; exact rfl)
    case an11 => kernel_rfl
    case bn11 => kernel_rfl
    case cn11 => kernel_rfl
    case qn11 => exact fun _ _ _ h => h
    case dn11 => rfl
    case hyn11 => (intro z hSw; (try dsimp only at hSw); go_simp; (try with_reducible rfl))
    try simp only [Act.put, List.setIfInBounds_toArray, List.set_cons_zero, List.set_cons_succ]
    refine wpAnyH_take (i := 1) (oi := ?on12) (v := ?vn12) ?hin12 ?an12 ?bn12 ?cn12 ?qn12 (Or.inl ⟨?dn12, ?hyn12⟩) hHeld ?restn12
    case hin12 => (simp only [List.getElem?_toArray, List.getElem?_cons_succ, List.getElem?_cons_zero]; exact rfl)
    case an12 => kernel_rfl
    case bn12 => kernel_rfl
    case cn12 => kernel_rfl
    case qn12 => exact fun _ _ _ h => h
    case dn12 => rfl
    case hyn12 => (intro z hSw; (try dsimp only at hSw); go_simp; (try with_reducible rfl))
    try simp only [Act.put, List.setIfInBounds_toArray, List.set_cons_zero, List.set_cons_succ]
    refine wpAnyH_take (i := 4) (oi := ?on13) (v := ?vn13) ?hin13 ?an13 ?bn13 ?cn13 ?qn13 (Or.inl ⟨?dn13, ?hyn13⟩) hHeld ?restn13
    case hin13 => (simp only [List.getElem?_toArray, List.getElem?_cons_succ, List.getElem?_cons_zero]; exact rfl)
    case an13 => kernel_rfl
    case bn13 => kernel_rfl
    case cn13 => kernel_rfl
    case qn13 => exact fun _ _ _ h => h
    case dn13 => rfl
    case hyn13 => (intro z hSw; (try dsimp only at hSw); go_simp; (try with_reducible rfl))
    try simp only [Act.put, List.setIfInBounds_toArray, List.set_cons_zero, List.set_cons_succ]
    refine wpAnyH_take (i := 5) (oi := ?on14) (v := ?vn14) ?hin14 ?an14 ?bn14 ?cn14 ?qn14 (Or.inl ⟨?dn14, ?hyn14⟩) hHeld ?restn14
    case hin14 => (simp only [List.getElem?_toArray, List.getElem?_cons_succ, List.getElem?_cons_zero]; exact rfl)
    case an14 => kernel_rfl
    case bn14 => kernel_rfl
    case cn14 => kernel_rfl
    case qn14 => exact fun _ _ _ h => h
    case dn14 => rfl
    case hyn14 => (intro z hSw; (try dsimp only at hSw); go_simp; (try with_reducible rfl))
    try simp only [Act.put, List.setIfInBounds_toArray, List.set_cons_zero, List.set_cons_succ]
    refine wpAnyH_ready (rs := [2]) (by kernel_rfl) (by simp) ?_
    refine AllReadyH.cons (o := ?on15) ?hin15 ?restn15 AllReadyH.nil
    case hin15 => (simp only [List.getElem?_toArray, List.getElem?_cons_succ, List.getElem?_cons_zero]; exact rfl)
    intro K hK
    go_simp
    go_at_call 162
    refine (KL.out _ (HAL.out.trans hd1)).mono ?_
    rintro e w2 ⟨va2, rfl, hn2, hgw2⟩
    have h2 : Grew w1 w2 := hd1.trans hgw2
    obtain ⟨B2, e2, rfl⟩ := nodes_slice hn2
    refine hK.out _ _ ?_ (fun hHeld => ?_)
    · (try dsimp only); first | with_reducible assumption | exact Grew.alloc ‹_› _
    clear hK K
    try simp only [Act.put, List.setIfInBounds_toArray, List.set_cons_zero, List.set_cons_succ]
    refine wpAnyH_ready (rs := [3]) (by kernel_rfl) (by simp) ?_
    refine AllReadyH.cons (o := ?on16) ?hin16 ?restn16 AllReadyH.nil
    case hin16 => (simp only [List.getElem?_toArray, List.getElem?_cons_succ, List.getElem?_cons_zero]; exact rfl)
    intro K hK
    go_simp
    go_at_call 116
    refine (KX.out _ _ (HAL.out.trans h2) hn2).mono ?_
    rintro e w3 ⟨rfl, hgw3⟩
    have h3 : Grew w1 w3 := h2.trans hgw3
    refine hK.out _ _ ?_ (fun hHeld => ?_)
    · (try dsimp only); first | with_reducible assumption | exact Grew.alloc ‹_› _
    clear hK K
    try simp only [Act.put, List.setIfInBounds_toArray, List.set_cons_zero, List.set_cons_succ]
    refine wpAnyH_ready (rs := [6]) (by kernel_rfl) (by simp) ?_
    refine AllReadyH.cons (o := ?on17) ?hin17 ?restn17 AllReadyH.nil
    case hin17 => (simp only [List.getElem?_toArray, List.getElem?_cons_succ, List.getElem?_cons_zero]; exact rfl)
    intro K hK
    go_simp
    go_at_call 163
    refine (KR.out _ (HAL.out.trans h3)).mono ?_
    rintro e w4 ⟨va4, rfl, hn4, hgw4⟩
    have h4 : Grew w1 w4 := h3.trans hgw4
    obtain ⟨B4, e4, rfl⟩ := nodes_slice hn4
    refine hK.out _ _ ?_ (fun hHeld => ?_)
    · (try dsimp only); first | with_reducible assumption | exact Grew.alloc ‹_› _
    clear hK K
    try simp only [Act.put, List.setIfInBounds_toArray, List.set_cons_zero, List.set_cons_succ]
    refine wpAnyH_ready (rs := [7]) (by kernel_rfl) (by simp) ?_
    refine AllReadyH.cons (o := ?on18) ?hin18 ?restn18 AllReadyH.nil
    case hin18 => (simp only [List.getElem?_toArray, List.getElem?_cons_succ, List.getElem?_cons_zero]; exact rfl)
    intro K hK
    go_simp
    go_at_call 116
    refine (KY.out _ _ (HAL.out.trans h4) hn4).mono ?_
    rintro e w5 ⟨rfl, hgw5⟩
    have h5 : Grew w1 w5 := h4.trans hgw5
    refine hK.out _ _ ?_ (fun hHeld => ?_)
    · (try dsimp only); first | with_reducible assumption | exact Grew.alloc ‹_› _
    clear hK K
    try simp only [Act.put, List.setIfInBounds_toArray, List.set_cons_zero, List.set_cons_succ]
    refine wpAnyH_take (i := 8) (oi := ?on19) (v := ?vn19) ?hin19 ?an19 ?bn19 ?cn19 ?qn19 (Or.inl ⟨?dn19, ?hyn19⟩) hHeld ?restn19
    case hin19 => (simp only [List.getElem?_toArray, List.getElem?_cons_succ, List.getElem?_cons_zero]; exact rfl)
    case an19 => kernel_rfl
    case bn19 => kernel_rfl
    case cn19 => kernel_rfl
    case qn19 => exact fun _ _ _ h => h
    case dn19 => rfl
    case hyn19 => (intro z hSw; (try dsimp only at hSw); go_simp; (try with_reducible rfl))
    try simp only [Act.put, List.setIfInBounds_toArray, List.set_cons_zero, List.set_cons_succ]
    refine wpAnyH_take (i := 9) (oi := ?on20) (v := ?vn20) ?hin20 ?an20 ?bn20 ?cn20 ?qn20 (Or.inl ⟨?dn20, ?hyn20⟩) hHeld ?restn20
    case hin20 => (simp only [List.getElem?_toArray, List.getElem?_cons_succ, List.getElem?_cons_zero]; exact rfl)
    case an20 => kernel_rfl
    case bn20 => kernel_rfl
    case cn20 => kernel_rfl
    case qn20 => exact fun _ _ _ h => h
    case dn20 => rfl
    case hyn20 => (intro z hSw; (try dsimp only at hSw); go_simp; (try with_reducible rfl))
    try simp only [Act.put, List.setIfInBounds_toArray, List.set_cons_zero, List.set_cons_succ]
    refine wpAnyH_done (by kernel_rfl) ?_ _
    go_wp2_with fail
    go_ret
    exact ⟨rfl, HAL.out.trans h5⟩
  | imp x y ihx ihy =>
    intro v u va w h hu ha ht
    obtain ⟨hx, hy⟩ := enc_two (k := kindOf (.imp x y)) ht
    have KL := Lib.hid (fun W (hW : Grew w W) => l02Left_c va (Fm.enc (.imp x y)) x W (ha.grew hW) (by omega) (at_first (two_imp x y)))
    have KR := Lib.hid (fun W (hW : Grew w W) => l02Right_c va (Fm.enc (.imp x y)) x y W (ha.grew hW) (by omega) (at_first (two_imp x y)) (at_second (two_imp x y)) (two_imp x y).len)
    have KX := Lib.hid (fun va W (hW : Grew w W) (hn : Nodes W va (Fm.enc x)) => ihx v u va W (h.grew hW) (hu.grew hW) hn hx)
    have KY := Lib.hid (fun va W (hW : Grew w W) (hn : Nodes W va (Fm.enc y)) => ihy v u va W (h.grew hW) (hu.grew hW) hn hy)
    have HFull := Lib.hid (l01Full_q A.length hA.1)
    rw [← full_cast] at HFull
    have hfs := full_sm hA.1
    obtain ⟨A', cA, rfl⟩ := ints_sliceN h
    obtain ⟨AU, cu, rfl⟩ := ints_sliceN hu
    have hdl := dif_le (a := full A.length) (b := mv A V x)
    have hop1 := andNot_i64 (full A.length) (mv A V x) (by omega) (by have := mv_sm hA hV x; omega)
    have hop := or_i64 (dif (full A.length) (mv A V x)) (mv A V y) (by omega) (by have := mv_sm hA hV y; omega)
    obtain ⟨b, o, n, c, rfl, hn0, hne, hk⟩ := head_t ha
    simp only [kindOf] at hk
    have hnn : (0 : Int) < (n : Int) := by omega
    show Calls _ _ _ _ fun e w' => e = .returned (.int .i64 ((dif (full A.length) (mv A V x) ||| mv A V y : Nat) : Int)) ∧ Grew w w'
    generalize mv A V x = X at *
    generalize mv A V y = Y at *
    clear h hu ha ht hA hne hx hy hV hl ihx ihy hfs hdl
    generalize full A.length = FU at *
    generalize dif FU (X) ||| Y = Z at *
    generalize dif FU X = D at *
    generalize V.length = NV at *
    generalize A.length = NA at *
    have k0 : ∀ W, Grew (w.alloc (.cells #[.int .i64 (NA : Int), .slice A' NA cA, .slice AU NV cu] 131)) W → W.cell? ⟨b, o, none⟩ = some (.int .i64 4) := fun W hW => hk W (((Grew.refl w).alloc _).trans hW)
    clear hk
    obtain ⟨w1, hw1⟩ : ∃ w1, w1 = w.alloc (.cells #[.int .i64 (NA : Int), .slice A' NA cA, .slice AU NV cu] 131) := ⟨_, rfl⟩
    rw [← hw1] at k0
    have hal : Grew w w1 := by rw [hw1]; exact (Grew.refl w).alloc _
    have hb0 : w1.heap[w.heap.size]? = some (.cells #[.int .i64 (NA : Int), .slice A' NA cA, .slice AU NV cu] 131 (0, 0)) := by rw [hw1]; exact blk_new w _
    have p0 : ∀ W, Grew w1 W → W.cell? ⟨w.heap.size, 0, none⟩ = some (.int .i64 (NA : Int)) := fun W hW => by rw [blk_cell ((hW.block (blk_lt hb0)).trans hb0)]; rfl
    have p1 : ∀ W, Grew w1 W → W.cell? ⟨w.heap.size, 1, none⟩ = some (.slice A' NA cA) := fun W hW => by rw [blk_cell ((hW.block (blk_lt hb0)).trans hb0)]; rfl
    have p2 : ∀ W, Grew w1 W → W.cell? ⟨w.heap.size, 2, none⟩ = some (.slice AU NV cu) := fun W hW => by rw [blk_cell ((hW.block (blk_lt hb0)).trans hb0)]; rfl
    have hr1 := Grew.refl w1
    have hd1 := hr1.drew
    have p00 := p0 w1 hr1
    have k00 := k0 w1 hr1
    have HAL := Lib.hid hal
    clear hb0 hal
    go_enter Tryz.func116, Tryz.ntmps116
    go_wp2_with fail
    simp only [← hw1]
    clear hw1
    refine (HFull.out _).mono ?_
    rintro e wf ⟨rfl, hwf⟩
    rw [hwf]
    clear hwf
    go_wp2_with fail
    refine wp_region_held_drew (S := fun w' => Grew w1 w') (by kernel_rfl) hd1 (fun hHeld => ?_)
    refine wpAnyH_take (i := 0) (oi := ?on21) (v := ?vn21) ?hin21 ?an21 ?bn21 ?cn21 ?qn21 (Or.inl ⟨?dn21, ?hyn21⟩) hHeld ?restn21
    case hin21 => (simp only [List.getElem?_toArray, List.getElem?_cons_zero]; exact rfl)
    case an21 => kernel_rfl
    case bn21 => kernel_rfl
    case cn21 => kernel_rfl
    case qn21 => exact fun _ _ _ h => h
    case dn21 => rfl
    case hyn21 => (intro z hSw; (try dsimp only at hSw); go_simp; (try with_reducible rfl))
    try simp only [Act.put, List.setIfInBounds_toArray, List.set_cons_zero, List.set_cons_succ]
    refine wpAnyH_take (i := 1) (oi := ?on22) (v := ?vn22) ?hin22 ?an22 ?bn22 ?cn22 ?qn22 (Or.inl ⟨?dn22, ?hyn22⟩) hHeld ?restn22
    case hin22 => (simp only [List.getElem?_toArray, List.getElem?_cons_succ, List.getElem?_cons_zero]; exact rfl)
    case an22 => kernel_rfl
    case bn22 => kernel_rfl
    case cn22 => kernel_rfl
    case qn22 => exact fun _ _ _ h => h
    case dn22 => rfl
    case hyn22 => (intro z hSw; (try dsimp only at hSw); go_simp; (try with_reducible rfl))
    try simp only [Act.put, List.setIfInBounds_toArray, List.set_cons_zero, List.set_cons_succ]
    refine wpAnyH_take (i := 2) (oi := ?on23) (v := ?vn23) ?hin23 ?an23 ?bn23 ?cn23 ?qn23 (Or.inl ⟨?dn23, ?hyn23⟩) hHeld ?restn23
    case hin23 => (simp only [List.getElem?_toArray, List.getElem?_cons_succ, List.getElem?_cons_zero]; exact rfl)
    case an23 => kernel_rfl
    case bn23 => kernel_rfl
    case cn23 => kernel_rfl
    case qn23 => exact fun _ _ _ h => h
    case dn23 => rfl
    case hyn23 => (intro z hSw; (try dsimp only at hSw); go_simp; (try with_reducible rfl))
    try simp only [Act.put, List.setIfInBounds_toArray, List.set_cons_zero, List.set_cons_succ]
    refine wpAnyH_take (i := 6) (oi := ?on24) (v := ?vn24) ?hin24 ?an24 ?bn24 ?cn24 ?qn24 (Or.inl ⟨?dn24, ?hyn24⟩) hHeld ?restn24
    case hin24 => (simp only [List.getElem?_toArray, List.getElem?_cons_succ, List.getElem?_cons_zero]; exact rfl)
    case an24 => kernel_rfl
    case bn24 => kernel_rfl
    case cn24 => kernel_rfl
    case qn24 => exact fun _ _ _ h => h
    case dn24 => rfl
    case hyn24 => (intro z hSw; (try dsimp only at hSw); go_simp; (try with_reducible rfl))
    try simp only [Act.put, List.setIfInBounds_toArray, List.set_cons_zero, List.set_cons_succ]
    refine wpAnyH_take (i := 7) (oi := ?on25) (v := ?vn25) ?hin25 ?an25 ?bn25 ?cn25 ?qn25 (Or.inl ⟨?dn25, ?hyn25⟩) hHeld ?restn25
    case hin25 => (simp only [List.getElem?_toArray, List.getElem?_cons_succ, List.getElem?_cons_zero]; exact rfl)
    case an25 => kernel_rfl
    case bn25 => kernel_rfl
    case cn25 => kernel_rfl
    case qn25 => exact fun _ _ _ h => h
    case dn25 => rfl
    case hyn25 => (intro z hSw; (try dsimp only at hSw); go_simp; (try with_reducible rfl))
    try simp only [Act.put, List.setIfInBounds_toArray, List.set_cons_zero, List.set_cons_succ]
    refine wpAnyH_ready (rs := [3]) (by kernel_rfl) (by simp) ?_
    refine AllReadyH.cons (o := ?on26) ?hin26 ?restn26 AllReadyH.nil
    case hin26 => (simp only [List.getElem?_toArray, List.getElem?_cons_succ, List.getElem?_cons_zero]; exact rfl)
    intro K hK
    go_simp
    go_at_call 162
    refine (KL.out _ (HAL.out.trans hd1)).mono ?_
    rintro e w2 ⟨va2, rfl, hn2, hgw2⟩
    have h2 : Grew w1 w2 := hd1.trans hgw2
    obtain ⟨B2, e2, rfl⟩ := nodes_slice hn2
    refine hK.out _ _ ?_ (fun hHeld => ?_)
    · (try dsimp only); first | with_reducible assumption | exact Grew.alloc ‹_› _
    clear hK K
    try simp only [Act.put, List.setIfInBounds_toArray, List.set_cons_zero, List.set_cons_succ]
    refine wpAnyH_ready (rs := [4]) (by kernel_rfl) (by simp) ?_
    refine AllReadyH.cons (o := ?on27) ?hin27 ?restn27 AllReadyH.nil
    case hin27 => (simp only [List.getElem?_toArray, List.getElem?_cons_succ, List.getElem?_cons_zero]; exact rfl)
    intro K hK
    go_simp
    go_at_call 116
    refine (KX.out _ _ (HAL.out.trans h2) hn2).mono ?_
    rintro e w3 ⟨rfl, hgw3⟩
    have h3 : Grew w1 w3 := h2.trans hgw3
    refine hK.out _ _ ?_ (fun hHeld => ?_)
    · (try dsimp only); first | with_reducible assumption | exact Grew.alloc ‹_› _
    clear hK K
    try simp only [Act.put, List.setIfInBounds_toArray, List.set_cons_zero, List.set_cons_succ]
    refine wpAnyH_take (i := 5) (oi := ?on28) (v := ?vn28) ?hin28 ?an28 ?bn28 ?cn28 ?qn28 (Or.inl ⟨?dn28, ?hyn28⟩) hHeld ?restn28
    case hin28 => (simp only [List.getElem?_toArray, List.getElem?_cons_succ, List.getElem?_cons_zero]; exact rfl)
    case an28 => kernel_rfl
    case bn28 => kernel_rfl
    case cn28 => kernel_rfl
    case qn28 => exact fun _ _ _ h => h
    case dn28 => rfl
    case hyn28 => (intro z hSw; (try dsimp only at hSw); go_simp; (try with_reducible rfl))
    try simp only [Act.put, List.setIfInBounds_toArray, List.set_cons_zero, List.set_cons_succ]
    refine wpAnyH_ready (rs := [8]) (by kernel_rfl) (by simp) ?_
    refine AllReadyH.cons (o := ?on29) ?hin29 ?restn29 AllReadyH.nil
    case hin29 => (simp only [List.getElem?_toArray, List.getElem?_cons_succ, List.getElem?_cons_zero]; exact rfl)
    intro K hK
    go_simp
    go_at_call 163
    refine (KR.out _ (HAL.out.trans h3)).mono ?_
    rintro e w4 ⟨va4, rfl, hn4, hgw4⟩
    have h4 : Grew w1 w4 := h3.trans hgw4
    obtain ⟨B4, e4, rfl⟩ := nodes_slice hn4
    refine hK.out _ _ ?_ (fun hHeld => ?_)
    · (try dsimp only); first | with_reducible assumption | exact Grew.alloc ‹_› _
    clear hK K
    try simp only [Act.put, List.setIfInBounds_toArray, List.set_cons_zero, List.set_cons_succ]
    refine wpAnyH_ready (rs := [9]) (by kernel_rfl) (by simp) ?_
    refine AllReadyH.cons (o := ?on30) ?hin30 ?restn30 AllReadyH.nil
    case hin30 => (simp only [List.getElem?_toArray, List.getElem?_cons_succ, List.getElem?_cons_zero]; exact rfl)
    intro K hK
    go_simp
    go_at_call 116
    refine (KY.out _ _ (HAL.out.trans h4) hn4).mono ?_
    rintro e w5 ⟨rfl, hgw5⟩
    have h5 : Grew w1 w5 := h4.trans hgw5
    refine hK.out _ _ ?_ (fun hHeld => ?_)
    · (try dsimp only); first | with_reducible assumption | exact Grew.alloc ‹_› _
    clear hK K
    try simp only [Act.put, List.setIfInBounds_toArray, List.set_cons_zero, List.set_cons_succ]
    refine wpAnyH_take (i := 10) (oi := ?on31) (v := ?vn31) ?hin31 ?an31 ?bn31 ?cn31 ?qn31 (Or.inl ⟨?dn31, ?hyn31⟩) hHeld ?restn31
    case hin31 => (simp only [List.getElem?_toArray, List.getElem?_cons_succ, List.getElem?_cons_zero]; exact rfl)
    case an31 => kernel_rfl
    case bn31 => kernel_rfl
    case cn31 => kernel_rfl
    case qn31 => exact fun _ _ _ h => h
    case dn31 => rfl
    case hyn31 => (intro z hSw; (try dsimp only at hSw); go_simp; (try with_reducible rfl))
    try simp only [Act.put, List.setIfInBounds_toArray, List.set_cons_zero, List.set_cons_succ]
    refine wpAnyH_take (i := 11) (oi := ?on32) (v := ?vn32) ?hin32 ?an32 ?bn32 ?cn32 ?qn32 (Or.inl ⟨?dn32, ?hyn32⟩) hHeld ?restn32
    case hin32 => (simp only [List.getElem?_toArray, List.getElem?_cons_succ, List.getElem?_cons_zero]; exact rfl)
    case an32 => kernel_rfl
    case bn32 => kernel_rfl
    case cn32 => kernel_rfl
    case qn32 => exact fun _ _ _ h => h
    case dn32 => rfl
    case hyn32 => (intro z hSw; (try dsimp only at hSw); go_simp; (try with_reducible rfl))
    try simp only [Act.put, List.setIfInBounds_toArray, List.set_cons_zero, List.set_cons_succ]
    refine wpAnyH_done (by kernel_rfl) ?_ _
    go_wp2_with fail
    go_ret
    exact ⟨rfl, HAL.out.trans h5⟩
  | box x ihx =>
    intro v u va w h hu ha ht
    have hx : (Fm.enc x).length ≤ 1048576 := by
      have := ht
      simp only [Fm.enc, List.length_cons] at this
      omega
    have KX := Lib.hid (fun va W (hW : Grew w W) (hn : Nodes W va (Fm.enc x)) => ihx v u va W (h.grew hW) (hu.grew hW) hn hx)
    have hms := mv_sm hA hV x
    have HFull := Lib.hid (l01Full_q A.length hA.1)
    rw [← full_cast] at HFull
    have hfs := full_sm hA.1
    obtain ⟨A', cA, rfl⟩ := ints_sliceN h
    obtain ⟨AU, cu, rfl⟩ := ints_sliceN hu
    have KB := Lib.hid (fun W (hW : Grew w W) => l01Box_q _ A (mv A V x) W (h.grew hW) hA.sm hA.1 (by omega))
    obtain ⟨b, o, n, c, rfl, hn0, hne, hk⟩ := head_t ha
    simp only [kindOf] at hk
    obtain ⟨hc1, hn1, hnc, hcm, hT⟩ := tail_un (k := 5) ha
    have hnn : (0 : Int) < (n : Int) := by omega
    have hn1i : (1 : Int) ≤ (n : Int) := by omega
    have HT := Lib.hid (fun W (hW : Grew w W) => hT.grew hW)
    show Calls _ _ _ _ fun e w' => e = .returned (.int .i64 ((bx A (mv A V x) : Nat) : Int)) ∧ Grew w w'
    generalize mv A V x = X at *
    clear h hu ha ht hA hne hx hV hl ihx hfs hT hms
    generalize full A.length = FU at *
    generalize bx A (X) = Z at *
    generalize V.length = NV at *
    generalize A.length = NA at *
    have k0 : ∀ W, Grew (w.alloc (.cells #[.int .i64 (NA : Int), .slice A' NA cA, .slice AU NV cu] 131)) W → W.cell? ⟨b, o, none⟩ = some (.int .i64 5) := fun W hW => hk W (((Grew.refl w).alloc _).trans hW)
    clear hk
    obtain ⟨w1, hw1⟩ : ∃ w1, w1 = w.alloc (.cells #[.int .i64 (NA : Int), .slice A' NA cA, .slice AU NV cu] 131) := ⟨_, rfl⟩
    rw [← hw1] at k0
    have hal : Grew w w1 := by rw [hw1]; exact (Grew.refl w).alloc _
    have hb0 : w1.heap[w.heap.size]? = some (.cells #[.int .i64 (NA : Int), .slice A' NA cA, .slice AU NV cu] 131 (0, 0)) := by rw [hw1]; exact blk_new w _
    have p0 : ∀ W, Grew w1 W → W.cell? ⟨w.heap.size, 0, none⟩ = some (.int .i64 (NA : Int)) := fun W hW => by rw [blk_cell ((hW.block (blk_lt hb0)).trans hb0)]; rfl
    have p1 : ∀ W, Grew w1 W → W.cell? ⟨w.heap.size, 1, none⟩ = some (.slice A' NA cA) := fun W hW => by rw [blk_cell ((hW.block (blk_lt hb0)).trans hb0)]; rfl
    have p2 : ∀ W, Grew w1 W → W.cell? ⟨w.heap.size, 2, none⟩ = some (.slice AU NV cu) := fun W hW => by rw [blk_cell ((hW.block (blk_lt hb0)).trans hb0)]; rfl
    have hr1 := Grew.refl w1
    have hd1 := hr1.drew
    have p00 := p0 w1 hr1
    have k00 := k0 w1 hr1
    have HAL := Lib.hid hal
    clear hb0 hal
    go_enter Tryz.func116, Tryz.ntmps116
    go_wp2_with fail
    simp only [← hw1]
    clear hw1
    refine (HFull.out _).mono ?_
    rintro e wf ⟨rfl, hwf⟩
    rw [hwf]
    clear hwf
    go_wp2_with fail
    refine wp_region_held_drew (S := fun w' => Grew w1 w') (by kernel_rfl) hd1 (fun hHeld => ?_)
    refine wpAnyH_take (i := 0) (oi := ?on33) (v := ?vn33) ?hin33 ?an33 ?bn33 ?cn33 ?qn33 (Or.inl ⟨?dn33, ?hyn33⟩) hHeld ?restn33
    case hin33 => (simp only [List.getElem?_toArray, List.getElem?_cons_zero]; exact rfl)
    case an33 => kernel_rfl
    case bn33 => kernel_rfl
    case cn33 => kernel_rfl
    case qn33 => exact fun _ _ _ h => h
    case dn33 => rfl
    case hyn33 => (intro z hSw; (try dsimp only at hSw); go_simp; (try with_reducible rfl))
    try simp only [Act.put, List.setIfInBounds_toArray, List.set_cons_zero, List.set_cons_succ]
    refine wpAnyH_take (i := 1) (oi := ?on34) (v := ?vn34) ?hin34 ?an34 ?bn34 ?cn34 ?qn34 (Or.inl ⟨?dn34, ?hyn34⟩) hHeld ?restn34
    case hin34 => (simp only [List.getElem?_toArray, List.getElem?_cons_succ, List.getElem?_cons_zero]; exact rfl)
    case an34 => kernel_rfl
    case bn34 => kernel_rfl
    case cn34 => kernel_rfl
    case qn34 => exact fun _ _ _ h => h
    case dn34 => rfl
    case hyn34 => (intro z hSw; (try dsimp only at hSw); go_simp; (try with_reducible rfl))
    try simp only [Act.put, List.setIfInBounds_toArray, List.set_cons_zero, List.set_cons_succ]
    refine wpAnyH_take (i := 2) (oi := ?on35) (v := ?vn35) ?hin35 ?an35 ?bn35 ?cn35 ?qn35 (Or.inl ⟨?dn35, ?hyn35⟩) hHeld ?restn35
    case hin35 => (simp only [List.getElem?_toArray, List.getElem?_cons_succ, List.getElem?_cons_zero]; exact rfl)
    case an35 => kernel_rfl
    case bn35 => kernel_rfl
    case cn35 => kernel_rfl
    case qn35 => exact fun _ _ _ h => h
    case dn35 => rfl
    case hyn35 => (intro z hSw; (try dsimp only at hSw); go_simp; (try with_reducible rfl))
    try simp only [Act.put, List.setIfInBounds_toArray, List.set_cons_zero, List.set_cons_succ]
    refine wpAnyH_take (i := 3) (oi := ?on36) (v := ?vn36) ?hin36 ?an36 ?bn36 ?cn36 ?qn36 (Or.inl ⟨?dn36, ?hyn36⟩) hHeld ?restn36
    case hin36 => (simp only [List.getElem?_toArray, List.getElem?_cons_succ, List.getElem?_cons_zero]; exact rfl)
    case an36 => kernel_rfl
    case bn36 => kernel_rfl
    case cn36 => kernel_rfl
    case qn36 => exact fun _ _ _ h => h
    case dn36 => rfl
    case hyn36 => (intro z hSw; (try dsimp only at hSw); go_simp; (try with_reducible rfl))
    try simp only [Act.put, List.setIfInBounds_toArray, List.set_cons_zero, List.set_cons_succ]
    refine wpAnyH_take (i := 4) (oi := ?on37) (v := ?vn37) ?hin37 ?an37 ?bn37 ?cn37 ?qn37 (Or.inl ⟨?dn37, ?hyn37⟩) hHeld ?restn37
    case hin37 => (simp only [List.getElem?_toArray, List.getElem?_cons_succ, List.getElem?_cons_zero]; exact rfl)
    case an37 => kernel_rfl
    case bn37 => kernel_rfl
    case cn37 => kernel_rfl
    case qn37 => exact fun _ _ _ h => h
    case dn37 => rfl
    case hyn37 => (intro z hSw; (try dsimp only at hSw); go_simp; (try with_reducible rfl))
    try simp only [Act.put, List.setIfInBounds_toArray, List.set_cons_zero, List.set_cons_succ]
    refine wpAnyH_take (i := 5) (oi := ?on38) (v := ?vn38) ?hin38 ?an38 ?bn38 ?cn38 ?qn38 (Or.inl ⟨?dn38, ?hyn38⟩) hHeld ?restn38
    case hin38 => (simp only [List.getElem?_toArray, List.getElem?_cons_succ, List.getElem?_cons_zero]; exact rfl)
    case an38 => kernel_rfl
    case bn38 => kernel_rfl
    case cn38 => kernel_rfl
    case qn38 => exact fun _ _ _ h => h
    case dn38 => rfl
    case hyn38 => (intro z hSw; (try dsimp only at hSw); go_simp; (try with_reducible rfl))
    try simp only [Act.put, List.setIfInBounds_toArray, List.set_cons_zero, List.set_cons_succ]
    refine wpAnyH_ready (rs := [6]) (by kernel_rfl) (by simp) ?_
    refine AllReadyH.cons (o := ?on39) ?hin39 ?restn39 AllReadyH.nil
    case hin39 => (simp only [List.getElem?_toArray, List.getElem?_cons_succ, List.getElem?_cons_zero]; exact rfl)
    intro K hK
    go_simp
    go_at_call 116
    refine (KX.out _ _ (HAL.out.trans hd1) (HT.out _ (HAL.out.trans hd1))).mono ?_
    rintro e w3 ⟨rfl, hgw3⟩
    have h3 : Grew w1 w3 := hd1.trans hgw3
    refine hK.out _ _ ?_ (fun hHeld => ?_)
    · (try dsimp only); first | with_reducible assumption | exact Grew.alloc ‹_› _
    clear hK K
    try simp only [Act.put, List.setIfInBounds_toArray, List.set_cons_zero, List.set_cons_succ]
    refine wpAnyH_ready (rs := [7]) (by kernel_rfl) (by simp) ?_
    refine AllReadyH.cons (o := ?on40) ?hin40 ?restn40 AllReadyH.nil
    case hin40 => (simp only [List.getElem?_toArray, List.getElem?_cons_succ, List.getElem?_cons_zero]; exact rfl)
    intro K hK
    go_simp
    go_at_call 161
    refine (KB.out _ (HAL.out.trans h3)).mono ?_
    rintro e w4 ⟨rfl, d4, hw4⟩
    have h4 : Grew w1 w4 := by rw [hw4]; exact h3.drewN _
    refine hK.out _ _ ?_ (fun hHeld => ?_)
    · (try dsimp only); first | with_reducible assumption | exact Grew.alloc ‹_› _
    clear hK K
    try simp only [Act.put, List.setIfInBounds_toArray, List.set_cons_zero, List.set_cons_succ]
    refine wpAnyH_take (i := 8) (oi := ?on41) (v := ?vn41) ?hin41 ?an41 ?bn41 ?cn41 ?qn41 (Or.inl ⟨?dn41, ?hyn41⟩) hHeld ?restn41
    case hin41 => (simp only [List.getElem?_toArray, List.getElem?_cons_succ, List.getElem?_cons_zero]; exact rfl)
    case an41 => kernel_rfl
    case bn41 => kernel_rfl
    case cn41 => kernel_rfl
    case qn41 => exact fun _ _ _ h => h
    case dn41 => rfl
    case hyn41 => (intro z hSw; (try dsimp only at hSw); go_simp; (try with_reducible rfl))
    try simp only [Act.put, List.setIfInBounds_toArray, List.set_cons_zero, List.set_cons_succ]
    refine wpAnyH_done (by kernel_rfl) ?_ _
    go_wp2_with fail
    go_ret
    exact ⟨rfl, HAL.out.trans h4⟩
  | dia x ihx =>
    intro v u va w h hu ha ht
    have hx : (Fm.enc x).length ≤ 1048576 := by
      have := ht
      simp only [Fm.enc, List.length_cons] at this
      omega
    have KX := Lib.hid (fun va W (hW : Grew w W) (hn : Nodes W va (Fm.enc x)) => ihx v u va W (h.grew hW) (hu.grew hW) hn hx)
    have hms := mv_sm hA hV x
    have HFull := Lib.hid (l01Full_q A.length hA.1)
    rw [← full_cast] at HFull
    have hfs := full_sm hA.1
    obtain ⟨A', cA, rfl⟩ := ints_sliceN h
    obtain ⟨AU, cu, rfl⟩ := ints_sliceN hu
    have hdl := dif_le (a := full A.length) (b := mv A V x)
    have hbl := Nat.lt_of_lt_of_le (bx_lt A (dif (full A.length) (mv A V x))) (pow30' hA.1)
    have KB := Lib.hid (fun W (hW : Grew w W) => l01Box_q _ A (dif (full A.length) (mv A V x)) W (h.grew hW) hA.sm hA.1 (by omega))
    have hop1 := andNot_i64 (full A.length) (mv A V x) (by omega) (by omega)
    have hop := andNot_i64 (full A.length) (bx A (dif (full A.length) (mv A V x))) (by omega) (by omega)
    obtain ⟨b, o, n, c, rfl, hn0, hne, hk⟩ := head_t ha
    simp only [kindOf] at hk
    obtain ⟨hc1, hn1, hnc, hcm, hT⟩ := tail_un (k := 6) ha
    have hnn : (0 : Int) < (n : Int) := by omega
    have hn1i : (1 : Int) ≤ (n : Int) := by omega
    have HT := Lib.hid (fun W (hW : Grew w W) => hT.grew hW)
    show Calls _ _ _ _ fun e w' => e = .returned (.int .i64 ((dif (full A.length) (bx A (dif (full A.length) (mv A V x))) : Nat) : Int)) ∧ Grew w w'
    generalize mv A V x = X at *
    clear h hu ha ht hA hne hx hV hl ihx hfs hT hms hdl hbl
    generalize full A.length = FU at *
    generalize dif FU (bx A (dif FU (X))) = Z at *
    generalize bx A (dif FU X) = Y at *
    generalize dif FU X = D at *
    generalize V.length = NV at *
    generalize A.length = NA at *
    have k0 : ∀ W, Grew (w.alloc (.cells #[.int .i64 (NA : Int), .slice A' NA cA, .slice AU NV cu] 131)) W → W.cell? ⟨b, o, none⟩ = some (.int .i64 6) := fun W hW => hk W (((Grew.refl w).alloc _).trans hW)
    clear hk
    obtain ⟨w1, hw1⟩ : ∃ w1, w1 = w.alloc (.cells #[.int .i64 (NA : Int), .slice A' NA cA, .slice AU NV cu] 131) := ⟨_, rfl⟩
    rw [← hw1] at k0
    have hal : Grew w w1 := by rw [hw1]; exact (Grew.refl w).alloc _
    have hb0 : w1.heap[w.heap.size]? = some (.cells #[.int .i64 (NA : Int), .slice A' NA cA, .slice AU NV cu] 131 (0, 0)) := by rw [hw1]; exact blk_new w _
    have p0 : ∀ W, Grew w1 W → W.cell? ⟨w.heap.size, 0, none⟩ = some (.int .i64 (NA : Int)) := fun W hW => by rw [blk_cell ((hW.block (blk_lt hb0)).trans hb0)]; rfl
    have p1 : ∀ W, Grew w1 W → W.cell? ⟨w.heap.size, 1, none⟩ = some (.slice A' NA cA) := fun W hW => by rw [blk_cell ((hW.block (blk_lt hb0)).trans hb0)]; rfl
    have p2 : ∀ W, Grew w1 W → W.cell? ⟨w.heap.size, 2, none⟩ = some (.slice AU NV cu) := fun W hW => by rw [blk_cell ((hW.block (blk_lt hb0)).trans hb0)]; rfl
    have hr1 := Grew.refl w1
    have hd1 := hr1.drew
    have p00 := p0 w1 hr1
    have k00 := k0 w1 hr1
    have HAL := Lib.hid hal
    clear hb0 hal
    go_enter Tryz.func116, Tryz.ntmps116
    go_wp2_with fail
    simp only [← hw1]
    clear hw1
    refine (HFull.out _).mono ?_
    rintro e wf ⟨rfl, hwf⟩
    rw [hwf]
    clear hwf
    go_wp2_with fail
    refine wp_region_held_drew (S := fun w' => Grew w1 w') (by kernel_rfl) hd1 (fun hHeld => ?_)
    refine wpAnyH_take (i := 0) (oi := ?on42) (v := ?vn42) ?hin42 ?an42 ?bn42 ?cn42 ?qn42 (Or.inl ⟨?dn42, ?hyn42⟩) hHeld ?restn42
    case hin42 => (simp only [List.getElem?_toArray, List.getElem?_cons_zero]; exact rfl)
    case an42 => kernel_rfl
    case bn42 => kernel_rfl
    case cn42 => kernel_rfl
    case qn42 => exact fun _ _ _ h => h
    case dn42 => rfl
    case hyn42 => (intro z hSw; (try dsimp only at hSw); go_simp; (try with_reducible rfl))
    try simp only [Act.put, List.setIfInBounds_toArray, List.set_cons_zero, List.set_cons_succ]
    refine wpAnyH_take (i := 1) (oi := ?on43) (v := ?vn43) ?hin43 ?an43 ?bn43 ?cn43 ?qn43 (Or.inl ⟨?dn43, ?hyn43⟩) hHeld ?restn43
    case hin43 => (simp only [List.getElem?_toArray, List.getElem?_cons_succ, List.getElem?_cons_zero]; exact rfl)
    case an43 => kernel_rfl
    case bn43 => kernel_rfl
    case cn43 => kernel_rfl
    case qn43 => exact fun _ _ _ h => h
    case dn43 => rfl
    case hyn43 => (intro z hSw; (try dsimp only at hSw); go_simp; (try with_reducible rfl))
    try simp only [Act.put, List.setIfInBounds_toArray, List.set_cons_zero, List.set_cons_succ]
    refine wpAnyH_take (i := 2) (oi := ?on44) (v := ?vn44) ?hin44 ?an44 ?bn44 ?cn44 ?qn44 (Or.inl ⟨?dn44, ?hyn44⟩) hHeld ?restn44
    case hin44 => (simp only [List.getElem?_toArray, List.getElem?_cons_succ, List.getElem?_cons_zero]; exact rfl)
    case an44 => kernel_rfl
    case bn44 => kernel_rfl
    case cn44 => kernel_rfl
    case qn44 => exact fun _ _ _ h => h
    case dn44 => rfl
    case hyn44 => (intro z hSw; (try dsimp only at hSw); go_simp; (try with_reducible rfl))
    try simp only [Act.put, List.setIfInBounds_toArray, List.set_cons_zero, List.set_cons_succ]
    refine wpAnyH_take (i := 3) (oi := ?on45) (v := ?vn45) ?hin45 ?an45 ?bn45 ?cn45 ?qn45 (Or.inl ⟨?dn45, ?hyn45⟩) hHeld ?restn45
    case hin45 => (simp only [List.getElem?_toArray, List.getElem?_cons_succ, List.getElem?_cons_zero]; exact rfl)
    case an45 => kernel_rfl
    case bn45 => kernel_rfl
    case cn45 => kernel_rfl
    case qn45 => exact fun _ _ _ h => h
    case dn45 => rfl
    case hyn45 => (intro z hSw; (try dsimp only at hSw); go_simp; (try with_reducible rfl))
    try simp only [Act.put, List.setIfInBounds_toArray, List.set_cons_zero, List.set_cons_succ]
    refine wpAnyH_take (i := 4) (oi := ?on46) (v := ?vn46) ?hin46 ?an46 ?bn46 ?cn46 ?qn46 (Or.inl ⟨?dn46, ?hyn46⟩) hHeld ?restn46
    case hin46 => (simp only [List.getElem?_toArray, List.getElem?_cons_succ, List.getElem?_cons_zero]; exact rfl)
    case an46 => kernel_rfl
    case bn46 => kernel_rfl
    case cn46 => kernel_rfl
    case qn46 => exact fun _ _ _ h => h
    case dn46 => rfl
    case hyn46 => (intro z hSw; (try dsimp only at hSw); go_simp; (try with_reducible rfl))
    try simp only [Act.put, List.setIfInBounds_toArray, List.set_cons_zero, List.set_cons_succ]
    refine wpAnyH_take (i := 5) (oi := ?on47) (v := ?vn47) ?hin47 ?an47 ?bn47 ?cn47 ?qn47 (Or.inl ⟨?dn47, ?hyn47⟩) hHeld ?restn47
    case hin47 => (simp only [List.getElem?_toArray, List.getElem?_cons_succ, List.getElem?_cons_zero]; exact rfl)
    case an47 => kernel_rfl
    case bn47 => kernel_rfl
    case cn47 => kernel_rfl
    case qn47 => exact fun _ _ _ h => h
    case dn47 => rfl
    case hyn47 => (intro z hSw; (try dsimp only at hSw); go_simp; (try with_reducible rfl))
    try simp only [Act.put, List.setIfInBounds_toArray, List.set_cons_zero, List.set_cons_succ]
    refine wpAnyH_take (i := 6) (oi := ?on48) (v := ?vn48) ?hin48 ?an48 ?bn48 ?cn48 ?qn48 (Or.inl ⟨?dn48, ?hyn48⟩) hHeld ?restn48
    case hin48 => (simp only [List.getElem?_toArray, List.getElem?_cons_succ, List.getElem?_cons_zero]; exact rfl)
    case an48 => kernel_rfl
    case bn48 => kernel_rfl
    case cn48 => kernel_rfl
    case qn48 => exact fun _ _ _ h => h
    case dn48 => rfl
    case hyn48 => (intro z hSw; (try dsimp only at hSw); go_simp; (try with_reducible rfl))
    try simp only [Act.put, List.setIfInBounds_toArray, List.set_cons_zero, List.set_cons_succ]
    refine wpAnyH_take (i := 7) (oi := ?on49) (v := ?vn49) ?hin49 ?an49 ?bn49 ?cn49 ?qn49 (Or.inl ⟨?dn49, ?hyn49⟩) hHeld ?restn49
    case hin49 => (simp only [List.getElem?_toArray, List.getElem?_cons_succ, List.getElem?_cons_zero]; exact rfl)
    case an49 => kernel_rfl
    case bn49 => kernel_rfl
    case cn49 => kernel_rfl
    case qn49 => exact fun _ _ _ h => h
    case dn49 => rfl
    case hyn49 => (intro z hSw; (try dsimp only at hSw); go_simp; (try with_reducible rfl))
    try simp only [Act.put, List.setIfInBounds_toArray, List.set_cons_zero, List.set_cons_succ]
    refine wpAnyH_ready (rs := [8]) (by kernel_rfl) (by simp) ?_
    refine AllReadyH.cons (o := ?on50) ?hin50 ?restn50 AllReadyH.nil
    case hin50 => (simp only [List.getElem?_toArray, List.getElem?_cons_succ, List.getElem?_cons_zero]; exact rfl)
    intro K hK
    go_simp
    go_at_call 116
    refine (KX.out _ _ (HAL.out.trans hd1) (HT.out _ (HAL.out.trans hd1))).mono ?_
    rintro e w3 ⟨rfl, hgw3⟩
    have h3 : Grew w1 w3 := hd1.trans hgw3
    refine hK.out _ _ ?_ (fun hHeld => ?_)
    · (try dsimp only); first | with_reducible assumption | exact Grew.alloc ‹_› _
    clear hK K
    try simp only [Act.put, List.setIfInBounds_toArray, List.set_cons_zero, List.set_cons_succ]
    refine wpAnyH_take (i := 9) (oi := ?on51) (v := ?vn51) ?hin51 ?an51 ?bn51 ?cn51 ?qn51 (Or.inl ⟨?dn51, ?hyn51⟩) hHeld ?restn51
    case hin51 => (simp only [List.getElem?_toArray, List.getElem?_cons_succ, List.getElem?_cons_zero]; exact rfl)
    case an51 => kernel_rfl
    case bn51 => kernel_rfl
    case cn51 => kernel_rfl
    case qn51 => exact fun _ _ _ h => h
    case dn51 => rfl
    case hyn51 => (intro z hSw; (try dsimp only at hSw); go_simp; (try with_reducible rfl))
    try simp only [Act.put, List.setIfInBounds_toArray, List.set_cons_zero, List.set_cons_succ]
    refine wpAnyH_ready (rs := [10]) (by kernel_rfl) (by simp) ?_
    refine AllReadyH.cons (o := ?on52) ?hin52 ?restn52 AllReadyH.nil
    case hin52 => (simp only [List.getElem?_toArray, List.getElem?_cons_succ, List.getElem?_cons_zero]; exact rfl)
    intro K hK
    go_simp
    go_at_call 161
    refine (KB.out _ (HAL.out.trans h3)).mono ?_
    rintro e w4 ⟨rfl, d4, hw4⟩
    have h4 : Grew w1 w4 := by rw [hw4]; exact h3.drewN _
    refine hK.out _ _ ?_ (fun hHeld => ?_)
    · (try dsimp only); first | with_reducible assumption | exact Grew.alloc ‹_› _
    clear hK K
    try simp only [Act.put, List.setIfInBounds_toArray, List.set_cons_zero, List.set_cons_succ]
    refine wpAnyH_take (i := 11) (oi := ?on53) (v := ?vn53) ?hin53 ?an53 ?bn53 ?cn53 ?qn53 (Or.inl ⟨?dn53, ?hyn53⟩) hHeld ?restn53
    case hin53 => (simp only [List.getElem?_toArray, List.getElem?_cons_succ, List.getElem?_cons_zero]; exact rfl)
    case an53 => kernel_rfl
    case bn53 => kernel_rfl
    case cn53 => kernel_rfl
    case qn53 => exact fun _ _ _ h => h
    case dn53 => rfl
    case hyn53 => (intro z hSw; (try dsimp only at hSw); go_simp; (try with_reducible rfl))
    try simp only [Act.put, List.setIfInBounds_toArray, List.set_cons_zero, List.set_cons_succ]
    refine wpAnyH_take (i := 12) (oi := ?on54) (v := ?vn54) ?hin54 ?an54 ?bn54 ?cn54 ?qn54 (Or.inl ⟨?dn54, ?hyn54⟩) hHeld ?restn54
    case hin54 => (simp only [List.getElem?_toArray, List.getElem?_cons_succ, List.getElem?_cons_zero]; exact rfl)
    case an54 => kernel_rfl
    case bn54 => kernel_rfl
    case cn54 => kernel_rfl
    case qn54 => exact fun _ _ _ h => h
    case dn54 => rfl
    case hyn54 => (intro z hSw; (try dsimp only at hSw); go_simp; (try with_reducible rfl))
    try simp only [Act.put, List.setIfInBounds_toArray, List.set_cons_zero, List.set_cons_succ]
    refine wpAnyH_done (by kernel_rfl) ?_ _
    go_wp2_with fail
    go_ret
    exact ⟨rfl, HAL.out.trans h4⟩
end Go.Proofs.YtpfncncohnhanaaGreatDoor


/- The reference's values of all models on a frame: l06Values, l06First, l06Valid. -/
namespace Go.Proofs.YtpfncncohnhanaaGreatDoor
open Go.RowKit
open Fm (Nd Tree)

theorem fand_facts (n num k c : Nat) (hk : k < c) (hn : n ≤ 8) (hnum : num ≤ 65536) :
    bits .and .i64 ((num / 2 ^ (n * (c - 1 - k)) : Nat) : Int) ((full n : Nat) : Int) = ((dg n c num k : Nat) : Int) ∧ ((num / 2 ^ (n * (c - 1 - k)) : Nat) : Int) / 2 ^ n = ((num / 2 ^ (n * (c - k)) : Nat) : Int) := by
  have hkb : num / 2 ^ (n * (c - 1 - k)) < 9223372036854775808 := Nat.lt_of_le_of_lt (Nat.div_le_self _ _) (by omega)
  have hf : full n < 9223372036854775808 := Nat.lt_of_lt_of_le (full_lt n) (Nat.le_trans (Nat.pow_le_pow_right (by omega) hn) (by decide))
  have h3 := and_i64 (num / 2 ^ (n * (c - 1 - k))) (full n) hkb hf
  rw [dg_and] at h3
  refine ⟨h3, ?_⟩
  have e : n * (c - k) = n * (c - 1 - k) + n := by
    rw [show c - k = (c - 1 - k) + 1 by omega, Nat.mul_add, Nat.mul_one]
  rw [e, Nat.pow_add, ← Nat.div_div_eq_div_mul]
  generalize num / 2 ^ (n * (c - 1 - k)) = q
  rw [Int.natCast_ediv, Int.natCast_pow]
  rfl
set_option maxHeartbeats 1000000 in
theorem l06Values_c (n : Nat) (v vV : Value) (vars : List Nat) (num : Nat) (w : World) (hv : ∃ A m c, v = .slice A m c) (hV : Ints w vV (zs vars)) (h6 : ∀ x ∈ vars, x < 6) (hnd : vars.Nodup) (hvl : vars.length ≤ 6) (hn : n ≤ 8) (hnum : num ≤ 65536) :
    Calls Tryz.prog 115 #[.agg #[.int .i64 (n : Int), v], vV, .int .i64 (num : Int)] w fun e w' => ∃ u, e = .returned u ∧ Ints w' u (zs (vals n vars num)) ∧ Grew w w' := by
  have hmk : ∀ W : World, (Instr.makeSlice 24 (.int .i64 6) (.int .i64 6)).run Tryz.prog W = .ok (.slice (some ⟨W.heap.size, 0, none⟩) 6 6) (W.alloc (.cells (madeCells #[Value.int .i64 0] 6) 2)) := fun W => run_make_rows (P := Tryz.prog) 24 2 (.int .i64 0) 1 8 #[.int .i64 0] Tryz.underlying24 Tryz.infoI rfl .i64 .i64 6 (by omega) (by omega) W
  obtain ⟨A1, m1, c1, rfl⟩ := hv
  obtain ⟨AV, nV, rfl⟩ := ints_sliceN hV
  have HVC := Lib.hid (fun h0 => cellsN hV h0)
  obtain ⟨wb, hwb⟩ : ∃ wb, wb = w.alloc (.cells #[.int .i64 (n : Int), .slice A1 m1 c1] 26) := ⟨_, rfl⟩
  have hgb : Grew w wb := by rw [hwb]; exact (Grew.refl w).alloc _
  have hsb : wb.heap.size = w.heap.size + 1 := by rw [hwb]; simp
  have hb0 : wb.heap[w.heap.size]? = some (.cells #[.int .i64 (n : Int), .slice A1 m1 c1] 26 (0, 0)) := by rw [hwb]; exact blk_new w _
  obtain ⟨wa, hwa⟩ : ∃ wa, wa = wb.alloc (.cells (madeCells #[Value.int .i64 0] 6) 2) := ⟨_, rfl⟩
  have hga : Grew wb wa := by rw [hwa]; exact (Grew.refl wb).alloc _
  have hR0 : NRow wa wb.heap.size 6 6 (fun _ => 0) := ⟨_, by rw [hwa]; exact blk_new wb _, size_madeCells _ _, Nat.le_refl _, by omega, fun i hi => made_z hi⟩
  rw [hsb] at hR0
  clear hsb
  have hba := (hga.block (blk_lt hb0)).trans hb0
  have HC0 := Lib.hid (fun A (hA : Only (w.heap.size + 1) wa A) => show A.cell? ⟨w.heap.size, 0, none⟩ = some (.int .i64 (n : Int)) from by rw [blk_cell ((hA.block (blk_lt hba) (by omega)).trans hba)]; rfl)
  have HGW := Lib.hid (hgb.trans hga)
  have HVK := Lib.hid (fun A (hA : Only (w.heap.size + 1) wa A) => hA.grew_of HGW.out (by omega))
  have HFU := Lib.hid (l01Full_q n (by omega))
  rw [← full_cast] at HFU
  have HDG := Lib.hid (fun k (hk : k < vars.length) => fand_facts n num k vars.length hk hn hnum)
  have HE := Lib.hid (show num / 2 ^ (n * (vars.length - vars.length)) = num from by rw [Nat.sub_self, Nat.mul_zero, Nat.pow_zero, Nat.div_one])
  have HQ0 : Hid (QG n vars num vars.length (fun _ => 0)) := Lib.hid ⟨fun p hp hpl => absurd hpl (by omega), fun _ _ _ => rfl⟩
  have HR0 := Lib.hid hR0
  have HO0 := Lib.hid (Only.refl (w.heap.size + 1) wa)
  have hw : (((vars.length : Nat) : Int) - 1) < 9223372036854775807 := by omega
  clear hV hb0 hba hR0 hgb hga
  go_enter Tryz.func115, Tryz.ntmps115
  go_wp2_with fail
  simp only [← hwb]
  simp only [← hwa]
  clear hwa hwb
  go_loopw [2, 8] (fun q i wr => ∃ (k : Nat) (f : Nat → Nat), k ≤ vars.length ∧ i = .int .i64 ((k : Int) - 1) ∧ q = .int .i64 ((num / 2 ^ (n * (vars.length - k)) : Nat) : Int) ∧ Hid (Only (w.heap.size + 1) wa wr) ∧ Hid (NRow wr (w.heap.size + 1) 6 6 f) ∧ Hid (QG n vars num k f)) (fun _ i _ => ((intOf i) + 1).toNat)
  case atStart => exact ⟨vars.length, _, Nat.le_refl _, rfl, by rw [HE.out], HO0, HR0, HQ0⟩
  case round =>
    obtain ⟨k, f, hk, rfl, rfl, hO, hR, hQ⟩ := hrel
    cases k with
    | zero =>
      have hI := hR.out.ints
      rw [hQ.out.pg.vals] at hI
      have HI := Lib.hid hI
      have HG := Lib.hid (HVK.out _ hO.out)
      clear hI
      go_wp2_with fail
      go_ret
      exact ⟨_, rfl, HI.out, HG.out⟩
    | succ k =>
      have ei : (((k + 1 : Nat) : Int) - 1) = (k : Int) := by omega
      rw [ei]
      obtain ⟨b, o, rfl, hvc⟩ := HVC.out (by omega)
      have c0 := HC0.out
      have hcv := fun A (hA : Only (w.heap.size + 1) wa A) => hvc k (by omega) A (HVK.out A hA)
      have hv6 := h6 _ (nt_mem (show k < vars.length by omega))
      obtain ⟨d1, d2⟩ := HDG.out k (by omega)
      rw [show vars.length - (k + 1) = vars.length - 1 - k by omega]
      have c6 := fun A (hA : Grew wr A) => (hR.out.grew hA).cell hv6
      have c7 := fun A (hA : Grew wr A) => (hR.out.grew hA).free (nt vars k)
      have r2 := (Grew.refl wr).drew
      have e2 := hO.out.drew
      have hb0 : (0 : Int) ≤ (k : Int) := by omega
      have hb1 : (k : Int) < (vars.length : Int) := by omega
      have hb2 : (0 : Int) ≤ (nt vars k : Int) := by omega
      have hb3 : (nt vars k : Int) < 6 := by omega
      have hn64 : (n : Int) < 64 := by omega
      have hn64' : n < 64 := by omega
      have hwz : w.heap.size + 1 ≤ wr.heap.size := Nat.le_of_lt hR.out.lt
      clear hvc
      generalize num / 2 ^ (n * (vars.length - 1 - k)) = Y at *
      generalize hZ : num / 2 ^ (n * (vars.length - k)) = Z at *
      replace hZ := Lib.hid hZ
      generalize full n = FU at *
      have hR3 := Lib.hid ((hR.out.set (f' := fun q => if q = nt vars k then dg n vars.length num k else f q) hv6 (if_pos rfl) (fun q _ hq => if_neg hq)).grew (Grew.refl _).drew)
      have hQ3 := Lib.hid (hQ.out.set (f' := fun q => if q = nt vars k then dg n vars.length num k else f q) hnd (by omega) (if_pos rfl) (fun q hq => if_neg hq))
      have hO3 := Lib.hid ((hO.out.setCell (o := nt vars k) (.int .i64 ((dg n vars.length num k : Nat) : Int))).drew)
      generalize dg n vars.length num k = D at *
      go_wp2_with fail
      go_region_held3 (fun w' => Only (w.heap.size + 1) wa w') (first | assumption | exact Only.setCell ‹_› _ | exact Only.drew ‹_›) (first
        | (go_at_call 87; refine (HFU.out _).mono ?_; rintro e w9 ⟨rfl, hw9⟩; rw [hw9]; clear hw9))
      have c8 := HC0.out _ hO3.out
      clear c0 hcv c6 c7 e2 r2 hO hR hQ
      go_wp2_with fail
      go_roundw
      case rel => exact ⟨k, _, by omega, rfl, by rw [hZ.out], hO3, hR3, hQ3⟩
      case measure => simp [intOf] <;> omega
set_option maxHeartbeats 1000000 in
theorem l06First_c (v va : Value) (A : List Nat) (t : Tree) (w : World) (h : Ints w v (zs A)) (ha : Nodes w va (Fm.enc t)) (hA : Rl A) (h8 : A.length ≤ 8) (hvs : Vs (Fm.enc t)) (hn : (Fm.enc t).length ≤ 1048576) (hfit : A.length * (mbs (vm (Fm.enc t))).length ≤ 16) :
    Calls Tryz.prog 69 #[.agg #[.int .i64 (A.length : Int), v], va] w fun e w' => ∃ u m, e = .returned (.tuple #[u, m, .bool (!vldB A (mbs (vm (Fm.enc t))) t)]) ∧ Grew w w' := by
  have hvm : vm (Fm.enc t) < 2 ^ 6 := by have := vmK_lt hvs (Fm.enc t).length (Nat.le_refl _); unfold vm; exact this
  have hv6 : ∀ x ∈ mbs (vm (Fm.enc t)), x < 6 := fun x hx => mbs_lt (n := 6) hvm hx
  have hvl : (mbs (vm (Fm.enc t))).length ≤ 6 := by
    have e : mbs (vm (Fm.enc t)) = mb (vm (Fm.enc t)) 6 := mb_top hvm 30 (by omega)
    rw [e]
    exact mb_len _ _
  have hnd : (mbs (vm (Fm.enc t))).Nodup := List.Nodup.sublist List.filter_sublist List.nodup_range
  have HVA := Lib.hid (fun W (hW : Grew w W) => l02Variables_c va (Fm.enc t) W (ha.grew hW) hvs hn)
  obtain ⟨A1, c1, rfl⟩ := ints_sliceN h
  obtain ⟨A2, c2, rfl⟩ := nodes_slice ha
  have HVL := Lib.hid (fun vV k W (hV : Ints W vV (zs (mbs (vm (Fm.enc t))))) (hk : k ≤ 65536) => l06Values_c A.length (.slice A1 A.length c1) vV (mbs (vm (Fm.enc t))) k W ⟨_, _, _, rfl⟩ hV hv6 hnd hvl h8 hk)
  have HTR := Lib.hid (fun k u W (hW : Grew w W) (hu : Ints W u (zs (vals A.length (mbs (vm (Fm.enc t))) k))) => truth_ok A (vals A.length (mbs (vm (Fm.enc t))) k) hA (vals_lt _ _ _) (vals_len _ _ _) t _ u _ W (h.grew hW) hu (ha.grew hW) hn)
  have HFU := Lib.hid (l01Full_q A.length hA.1)
  rw [← full_cast] at HFU
  have HON := Lib.hid (l01One_q (A.length * (mbs (vm (Fm.enc t))).length) (by omega))
  have HY := Lib.hid (fun h => @vldB_yes A (mbs (vm (Fm.enc t))) t h)
  have HNO := Lib.hid (fun x h1 h2 => @vldB_no A (mbs (vm (Fm.enc t))) t x h1 h2)
  have hM : 2 ^ (A.length * (mbs (vm (Fm.enc t))).length) ≤ 65536 := Nat.le_trans (Nat.pow_le_pow_right (by omega) hfit) (by decide)
  unfold allV at HY HNO
  generalize vldB A (mbs (vm (Fm.enc t))) t = R at *
  have hmul : wrap64 ((A.length : Int) * ((mbs (vm (Fm.enc t))).length : Int)) = ((A.length * (mbs (vm (Fm.enc t))).length : Nat) : Int) := by rw [← Int.natCast_mul, wrap64]; omega
  generalize mbs (vm (Fm.enc t)) = vars at *
  generalize A.length * vars.length = q at *
  generalize (2 ^ q : Nat) = M at *
  clear hvs hvm hv6 hnd h8
  obtain ⟨w1, hw1⟩ : ∃ w1, w1 = w.alloc (.cells #[.int .i64 (A.length : Int), .slice A1 A.length c1] 26) := ⟨_, rfl⟩
  have hal : Grew w w1 := by rw [hw1]; exact (Grew.refl w).alloc _
  have hb0 : w1.heap[w.heap.size]? = some (.cells #[.int .i64 (A.length : Int), .slice A1 A.length c1] 26 (0, 0)) := by rw [hw1]; exact blk_new w _
  have p0 : ∀ W, Grew w1 W → W.cell? ⟨w.heap.size, 0, none⟩ = some (.int .i64 (A.length : Int)) := fun W hW => by rw [blk_cell ((hW.block (blk_lt hb0)).trans hb0)]; rfl
  have p1 : ∀ W, Grew w1 W → W.cell? ⟨w.heap.size, 1, none⟩ = some (.slice A1 A.length c1) := fun W hW => by rw [blk_cell ((hW.block (blk_lt hb0)).trans hb0)]; rfl
  have HAL := Lib.hid hal
  clear h ha hal hb0 hA
  generalize (Fm.enc t).length = nt' at *
  have HMV : Hid (∀ k, mv A (vals A.length vars k) t = mv A (vals A.length vars k) t) := Lib.hid (fun _ => rfl)
  generalize full A.length = FU at *
  go_enter Tryz.func69, Tryz.ntmps69
  go_wp2_with fail
  simp only [← hw1]
  clear hw1
  refine (HVA.out _ HAL.out).mono ?_
  rintro e w2 ⟨vV, rfl, hO2, hg2⟩
  obtain ⟨AV, cV, rfl⟩ := ints_sliceN hO2.ints
  have HI2 := Lib.hid hO2.ints
  clear hO2
  go_wp2_with fail
  go_loopw [8, 9, 10] (fun i _ _ wr => ∃ k : Nat, k ≤ M ∧ i = .int .i64 (k : Int) ∧ Grew w2 wr ∧ Hid (∀ j, j < k → mv A (vals A.length vars j) t = FU)) (fun i _ _ _ => M - (intOf i).toNat)
  case atStart => exact ⟨0, Nat.zero_le _, rfl, Grew.refl _, Lib.hid (fun j hj => absurd hj (by omega))⟩
  case round =>
    obtain ⟨k, hk, rfl, hB, hall⟩ := hrel
    have hBr := hg2.trans hB
    have d0 := p0 _ hBr
    by_cases hlt : k < M
    · go_wp2_with fail
      refine (HON.out _).mono ?_
      rintro e w3 ⟨rfl, hw3⟩
      rw [hw3]
      clear hw3
      have d1 := p1 _ hBr
      go_wp2_with fail
      refine (HVL.out _ k _ (HI2.out.grew hB) (by omega)).mono ?_
      rintro e w4 ⟨u4, rfl, hu4, hg4⟩
      have hBr4 := hBr.trans hg4
      obtain ⟨AU, cU, rfl⟩ := ints_sliceN hu4
      rw [vals_len] at hu4 ⊢
      have HT4 := Lib.hid (HTR.out k _ _ (HAL.out.trans hBr4) hu4)
      have e0 := p0 _ hBr4
      have e1 := p1 _ hBr4
      have HU4 := Lib.hid hu4
      clear hu4
      go_wp2_with fail
      refine (HT4.out).mono ?_
      rintro e w5 ⟨rfl, hg5⟩
      have hBr5 := hBr4.trans hg5
      have f0 := p0 _ hBr5
      have hB5 := (hB.trans hg4).trans hg5
      have hs := Lib.hid (show ∀ j, j < k + 1 → j ≠ k → mv A (vals A.length vars j) t = FU from fun j hj hjk => hall.out j (by omega))
      by_cases he : mv A (vals A.length vars k) t = FU
      · have hbe : (((mv A (vals A.length vars k) t : Nat) : Int) != ((FU : Nat) : Int)) = false := by simp [he]
        have HE := Lib.hid he
        clear he
        go_wp2_with fail
        refine (HFU.out _).mono ?_
        rintro e w6 ⟨rfl, hw6⟩
        rw [hw6]
        clear hw6
        go_wp2_with fail
        go_roundw
        case rel => exact ⟨k + 1, by omega, by go_num, hB5, Lib.hid (fun j hj => by
          by_cases hjk : j = k
          · rw [hjk]; exact HE.out
          · exact hs.out j hj hjk)⟩
        case measure => simp [intOf]; omega
      · have hbe : (((mv A (vals A.length vars k) t : Nat) : Int) != ((FU : Nat) : Int)) = true := by simp; omega
        have HR := Lib.hid (HNO.out _ (List.mem_map.2 ⟨k, List.mem_range.2 hlt, rfl⟩) he)
        clear he
        go_wp2_with fail
        refine (HFU.out _).mono ?_
        rintro e w6 ⟨rfl, hw6⟩
        rw [hw6]
        clear hw6
        go_wp2_with fail
        go_ret3
        exact ⟨_, _, by rw [HR.out]; rfl, HAL.out.trans hBr5⟩
    · obtain rfl : k = M := by omega
      have HR := Lib.hid (HY.out (fun x hx => by
        obtain ⟨j, hj, rfl⟩ := List.mem_map.1 hx
        exact hall.out j (List.mem_range.1 hj)))
      go_wp2_with fail
      refine (HON.out _).mono ?_
      rintro e w3 ⟨rfl, hw3⟩
      rw [hw3]
      clear hw3
      go_wp2_with fail
      go_ret3
      exact ⟨_, _, by rw [HR.out]; rfl, HAL.out.trans hBr⟩
theorem l06Valid_c (v va : Value) (A : List Nat) (t : Tree) (w : World) (h : Ints w v (zs A)) (ha : Nodes w va (Fm.enc t)) (hA : Rl A) (h8 : A.length ≤ 8) (hvs : Vs (Fm.enc t)) (hn : (Fm.enc t).length ≤ 1048576) (hfit : A.length * (mbs (vm (Fm.enc t))).length ≤ 16) :
    Calls Tryz.prog 31 #[.agg #[.int .i64 (A.length : Int), v], va] w fun e w' => e = .returned (.bool (vldB A (mbs (vm (Fm.enc t))) t)) ∧ Grew w w' := by
  have HU := Lib.hid (fun W (hW : Grew w W) => l06First_c v va A t W (h.grew hW) (ha.grew hW) hA h8 hvs hn hfit)
  obtain ⟨A1, c1, rfl⟩ := ints_sliceN h
  obtain ⟨A2, c2, rfl⟩ := nodes_slice ha
  have HG := Lib.hid ((Grew.refl w).alloc (.cells #[.int .i64 (A.length : Int), .slice A1 A.length c1] 26))
  clear h ha hA hvs hfit
  generalize vldB A (mbs (vm (Fm.enc t))) t = q at *
  generalize A.length = n at *
  generalize (Fm.enc t).length = m at *
  go_enter Tryz.func31, Tryz.ntmps31
  go_wp2_with fail
  refine (HU.out _ HG.out).mono ?_
  rintro e w1 ⟨u, k, rfl, hg1⟩
  go_wp2_with fail
  go_ret
  exact ⟨by cases q <;> rfl, HG.out.trans hg1⟩
end Go.Proofs.YtpfncncohnhanaaGreatDoor


/- The reference's l09Frames and RefutingFrame. -/
namespace Go.Proofs.YtpfncncohnhanaaGreatDoor
open Go.RowKit
open Fm (Nd Tree)

def lgFs (k : Nat) (P : List (List Nat)) : List (List Nat) := P.filter (lgB k)
theorem lgFs_snoc_yes {k : Nat} {P : List (List Nat)} {A : List Nat} (h : lgB k A = true) : lgFs k (P ++ [A]) = lgFs k P ++ [A] := by simp [lgFs, List.filter_append, h]
theorem lgFs_snoc_no {k : Nat} {P : List (List Nat)} {A : List Nat} (h : lgB k A = false) : lgFs k (P ++ [A]) = lgFs k P := by simp [lgFs, List.filter_append, h]
theorem lgFs_len (k : Nat) (P : List (List Nat)) : (lgFs k P).length ≤ P.length := List.length_filter_le _ _
set_option maxHeartbeats 2000000 in
theorem l09Frames_c (s : ByteArray) (n k : Nat) (h3 : n ≤ 3) (w : World) (hk : k < 16) (hf : findS lgNames s = (k : Int)) :
    Calls Tryz.prog 30 #[.string s, .int .i64 (n : Int)] w fun e w' => ∃ v, e = .returned v ∧ OwnFs w' w.heap.size v (lgFs k (frs n)) ∧ Grew w w' := by
  have HAL := Lib.hid (allFrames_s n h3 w)
  have HOF := Lib.hid (fun v A W (h : Ints W v (zs A)) hA => l09Of_c v A s k W h hA hk hf)
  have HMEM := Lib.hid (fun i (hi : i < (frs n).length) => frs_ok (n := n) (by omega) (show (frs n).getD i [] ∈ frs n by simp [List.getD, hi]))
  have HTK := Lib.hid (fun i (hi : i < (frs n).length) => take_next (L := frs n) [] hi)
  have HALL : Hid ((frs n).take (frs n).length = frs n) := Lib.hid List.take_length
  have hpl := frs_len h3
  clear hf
  unfold GivesFsC at HAL
  generalize frs n = P at *
  generalize hpe : P.length = pl at *
  have HPL := Lib.hid hpe
  clear hpe
  go_enter Tryz.func30, Tryz.ntmps30
  go_wp2_with fail
  refine (HAL.out).mono ?_
  rintro e w1 ⟨v1, rfl, hO1, hg1⟩
  have HAT := Lib.hid (fun i (hi : i < P.length) => hO1.at_ (i := i) hi)
  obtain ⟨A1, c1, rfl⟩ := hO1.slice
  rw [HPL.out] at HAT ⊢
  clear hO1 HAL
  go_wp2_with fail
  go_loopw [7, 8] (fun o i wr => ∃ j : Nat, j ≤ pl ∧ i = .int .i64 (j : Int) ∧ Grew w1 wr ∧ Hid (OwnFs wr w.heap.size o (lgFs k (P.take j))) ∧ Hid (∀ g, o.ownBlock = some g → w1.heap.size ≤ g)) (fun _ i _ => pl - (intOf i).toNat)
  case atStart => exact ⟨0, by omega, rfl, (Grew.refl _).alloc _, Lib.hid ((OwnFs.lit _).base hg1.size), Lib.hid (fun g hg => (OwnFs.lit w1).ge hg)⟩
  case round =>
    obtain ⟨j, hj, rfl, hB, hO, hNB⟩ := hrel
    by_cases hlt : j < pl
    · obtain ⟨go, co, uo, he, hgo, hco, huo⟩ := HAT.out j hlt
      injection he with he1 _ he3
      subst he1 he3
      have hmem := HMEM.out j hlt
      have htk := Lib.hid (HTK.out j hlt)
      have k0 := fun W (hW : Grew wr W) => (hco W (hB.trans hW)).1
      have k1 := fun W (hW : Grew wr W) => (hco W (hB.trans hW)).2
      have r1 := Grew.refl wr
      have hI := Lib.hid (HOF.out uo (P.getD j []) wr (huo.ints.grew hB) hmem.2.1)
      have hU := huo.base (Nat.le_of_eq rfl)
      have HU := Lib.hid (huo.grew hB)
      have hfl : (lgFs k (P.take j)).length ≤ pl := Nat.le_trans (lgFs_len _ _) (by rw [List.length_take]; omega)
      obtain ⟨Au, cu, rfl⟩ := ints_sliceN huo.ints
      clear huo hco hmem hU
      generalize P.getD j [] = L at *
      cases hlb : lgB k L with
      | false =>
        have hN := Lib.hid (lgFs_snoc_no (P := P.take j) hlb)
        rw [hlb] at hI
        clear hlb
        go_wp2_with fail
        refine (hI.out).mono ?_
        rintro e w2 ⟨rfl, hg2⟩
        go_wp2_with fail
        go_roundw
        case rel => exact ⟨j + 1, by omega, by go_num, hB.trans hg2, Lib.hid (by rw [htk.out, hN.out]; exact hO.out.grew hg2), hNB⟩
        case measure => simp [intOf]; omega
      | true =>
        have hN := Lib.hid (lgFs_snoc_yes (P := P.take j) hlb)
        rw [hlb] at hI
        clear hlb
        obtain ⟨A7, c7, rfl⟩ := hO.out.slice
        go_wp2_with fail
        refine (hI.out).mono ?_
        rintro e w2 ⟨rfl, hg2⟩
        have q0 := k0 w2 hg2
        have q1 := k1 w2 hg2
        have hB2 := hB.trans hg2
        have hl2 := (Grew.refl w2).alloc (.cells #[.int .i64 (L.length : Int), .slice Au L.length cu] 26)
        have hO9b := hO.out.grew (hg2.trans hl2)
        have hsz := (hB2.trans hl2).size
        have hq : ∀ p ∈ [(Value.slice Au L.length cu, L)], OwnI (w2.alloc (.cells #[.int .i64 (L.length : Int), .slice Au L.length cu] 26)) w.heap.size p.1 (zs p.2) := fun p hp => by
          rw [List.mem_singleton] at hp
          subst hp
          exact HU.out.grew (hg2.trans hl2)
        clear k0 k1
        go_wp2_with (at_builtin
                     refine wpList_appFs w.heap.size _ _ rfl rfl _ (lgFs k (P.take j)) rfl hO9b (by have := hg1.size; omega) _ [(.slice Au L.length cu, L)] rfl (rd_litFs _ _ _ _) hq (by simp only [List.length_cons, List.length_nil]; omega) ?_
                     intro v9 w9 hO10 hgr9 hnb9
                     have hB10 := Grew.grown (hB2.trans hl2) hgr9 (fun q hq => hNB.out q hq)
                     have hNB9 : Hid (∀ g, v9.ownBlock = some g → w1.heap.size ≤ g) := Lib.hid (fun g hgg => by
                       rcases hnb9 with h0 | h0
                       · rw [h0] at hgg; exact hNB.out g hgg
                       · rw [h0] at hgg
                         injection hgg with hgg
                         omega))
        go_roundw
        case rel => exact ⟨j + 1, by omega, by go_num, hB10, Lib.hid (by rw [htk.out, hN.out]; exact hO10), hNB9⟩
        case measure => simp [intOf]; omega
    · obtain rfl : j = pl := by omega
      have hO9 := hO.out
      rw [HALL.out] at hO9
      have HO := Lib.hid hO9
      clear hO9
      go_wp2_with fail
      go_ret
      exact ⟨_, rfl, HO.out, hg1.trans hB⟩
theorem sfrs_le {k : Nat} : ∀ {m : Nat}, k ≤ m → ∃ R, sfrs m = sfrs k ++ R
  | 0, h => ⟨[], by obtain rfl : k = 0 := by omega
                    simp⟩
  | m + 1, h => by
    by_cases hk : k ≤ m
    · obtain ⟨R, hR⟩ := sfrs_le hk
      exact ⟨R ++ frs m, by rw [sfrs_succ, hR, List.append_assoc]⟩
    · obtain rfl : k = m + 1 := by omega
      exact ⟨[], by simp⟩
theorem lgFs_ok {k n : Nat} (h3 : n ≤ 3) {A : List Nat} (h : A ∈ lgFs k (frs n)) : A.length = n ∧ Rl A ∧ lgB k A = true := by
  unfold lgFs at h
  rw [List.mem_filter] at h
  obtain ⟨h1, h2, _⟩ := frs_ok (by omega) h.1
  exact ⟨h1, h2, h.2⟩
theorem rfg_one {k : Nat} {t : Tree} : ∀ B ∈ sfrs 1, rfgB k t B = false := by
  intro B hB
  have := (sfrs_ok (k := 1) (by omega) hB).1
  exact rfgB_nil (by omega)
theorem rfg_out {k : Nat} {t : Tree} {P : List (List Nat)} (h : ∀ B ∈ lgFs k P, rfgB k t B = false) : ∀ B ∈ P, rfgB k t B = false := by
  intro B hB
  cases hl : lgB k B with
  | false => exact rfgB_no hl
  | true => exact h B (List.mem_filter.2 ⟨hB, hl⟩)
theorem firstH_next {k n : Nat} {t : Tree} (hN : ∀ B ∈ sfrs n, rfgB k t B = false) (h : ∀ B ∈ lgFs k (frs n), rfgB k t B = false) : ∀ B ∈ sfrs (n + 1), rfgB k t B = false := by
  rw [sfrs_succ]
  intro B hB
  rcases List.mem_append.1 hB with hB | hB
  · exact hN B hB
  · exact rfg_out h B hB
theorem filter_split {α : Type} {p : α → Bool} : ∀ {P : List α} {L : α} {X Y : List α}, P.filter p = X ++ L :: Y → ∃ X' Y', P = X' ++ L :: Y' ∧ X'.filter p = X
  | [], L, X, Y, h => by simp at h
  | a :: P, L, X, Y, h => by
    by_cases ha : p a = true
    · rw [List.filter_cons_of_pos ha] at h
      cases X with
      | nil =>
        rw [List.nil_append] at h
        injection h with h1 h2
        exact ⟨[], P, by rw [h1]; rfl, rfl⟩
      | cons b X =>
        rw [List.cons_append] at h
        injection h with h1 h2
        obtain ⟨X', Y', h3, h4⟩ := filter_split h2
        exact ⟨a :: X', Y', by rw [h3]; rfl, by rw [List.filter_cons_of_pos ha, h4, h1]⟩
    · rw [List.filter_cons_of_neg ha] at h
      obtain ⟨X', Y', h3, h4⟩ := filter_split h
      exact ⟨a :: X', Y', by rw [h3]; rfl, by rw [List.filter_cons_of_neg ha, h4]⟩
theorem firstH_hit {k n : Nat} {t : Tree} {L : List Nat} {X Y : List (List Nat)} (hN : ∀ B ∈ sfrs n, rfgB k t B = false) (h3 : n ≤ 3) (e : lgFs k (frs n) = X ++ L :: Y) (h : ∀ B ∈ X, rfgB k t B = false) (hr : rfgB k t L = true) : firstG k t (sfrs 4) = (0, L) := by
  obtain ⟨X', Y', h1, h2⟩ := filter_split e
  obtain ⟨R, hR⟩ := sfrs_le (k := n + 1) (m := 4) (by omega)
  rw [hR, sfrs_succ, h1, List.append_assoc, List.append_assoc, List.cons_append, ← List.append_assoc]
  refine firstG_hit (fun B hB => ?_) hr
  rcases List.mem_append.1 hB with hB | hB
  · exact hN B hB
  · exact rfg_out (P := X') (by unfold lgFs; rw [h2]; exact h) B hB
set_option maxHeartbeats 2000000 in
theorem refutingFrame_s (s : ByteArray) (va : Value) (xs : List Nd) (w : World) (ha : Nodes w va xs) (hn : xs.length ≤ 1048576) :
    Calls Tryz.prog 7 #[.string s, va] w (GivesRg w s xs) := by
  have hinfo := info2F
  have HF := Lib.hid (fun W (hW : Grew w W) => l02Is_c va xs W (ha.grew hW) (by omega))
  have HPl := Lib.hid (fun v W (h : Strs W v lgNames) => l09Find_c v lgNames s W h (by rw [lgNames_len]; omega))
  obtain ⟨w0, hw0⟩ : ∃ w0, w0 = w.alloc (.cells #[.int .i64 0, .slice none 0 0] 26) := ⟨_, rfl⟩
  have hg0 : Grew w w0 := by rw [hw0]; exact (Grew.refl w).alloc _
  have HB0 := Lib.hid (show w0.heap[w.heap.size]? = some (.cells #[.int .i64 0, .slice none 0 0] 26 (0, 0)) by rw [hw0]; exact blk_new w _)
  have HA := Lib.hid ha
  obtain ⟨A1, c1, rfl⟩ := nodes_slice ha
  clear ha
  have hnx := hn
  generalize hxl : xs.length = nx at HF hn ⊢
  cases hf : fmB xs with
  | false =>
    have hR := Lib.hid (rgF_bad (s := s) hf)
    rw [hf] at HF
    go_enter Tryz.func7, Tryz.ntmps7
    go_wp2_with fail
    simp only [← hw0]
    clear hw0
    refine (HF.out _ hg0).mono ?_
    rintro e w2 ⟨rfl, hg2⟩
    have hb2 := ((hg2).block (blk_lt HB0.out)).trans HB0.out
    have q0 : w2.cell? ⟨w.heap.size, 0, none⟩ = some (.int .i64 0) := by rw [blk_cell hb2]; rfl
    have q1 : w2.cell? ⟨w.heap.size, 1, none⟩ = some (.slice none 0 0) := by rw [blk_cell hb2]; rfl
    have qf0 := blk_frozen hb2 0
    have qf1 := blk_frozen hb2 1
    have HB2 := Lib.hid hb2
    clear hb2
    go_wp2_with fail
    (try simp only [Exit.inBlock, Exit.then])
    refine bodyPost_ret (results_cell_tmp_rowF rfl _ _ w.heap.size _ _ _ _ rfl (blk_set (blk_set HB2.out 0 _) 1 _) Tryz.underlying26 rfl hinfo) rfl ?_
    exact givesRg_nil hR.out (((hg0.trans (hg2)).setCell (Nat.le_refl _) _).setCell (Nat.le_refl _) _)
  | true =>
    rw [hf] at HF
    rcases findS_range lgNames s with hbx | ⟨k, hk, hbx⟩
    · have hR := Lib.hid (rgF_name hf hbx)
      rw [hbx] at HPl
      clear hf hbx
      go_enter Tryz.func7, Tryz.ntmps7
      go_wp2_with fail
      simp only [← hw0]
      clear hw0
      refine (HF.out _ hg0).mono ?_
      rintro e w2 ⟨rfl, hg2⟩
      go_wp2_with fail
      refine (l09Logics_c _).mono ?_
      rintro e w3a ⟨v3a, rfl, hO3a, hg3a⟩
      have HP2 := Lib.hid (HPl.out _ _ hO3a.strs)
      obtain ⟨A3a, c3a, rfl⟩ := strs_slice hO3a.strs
      clear hO3a
      go_wp2_with fail
      refine (HP2.out).mono ?_
      rintro e w3 ⟨rfl, hg3b⟩
      have hg3 := hg3a.trans hg3b
      have hb2 := ((hg2.trans hg3).block (blk_lt HB0.out)).trans HB0.out
      have q0 : w3.cell? ⟨w.heap.size, 0, none⟩ = some (.int .i64 0) := by rw [blk_cell hb2]; rfl
      have q1 : w3.cell? ⟨w.heap.size, 1, none⟩ = some (.slice none 0 0) := by rw [blk_cell hb2]; rfl
      have qf0 := blk_frozen hb2 0
      have qf1 := blk_frozen hb2 1
      have HB2 := Lib.hid hb2
      clear hb2
      go_wp2_with fail
      (try simp only [Exit.inBlock, Exit.then])
      refine bodyPost_ret (results_cell_tmp_rowF rfl _ _ w.heap.size _ _ _ _ rfl (blk_set (blk_set HB2.out 0 _) 1 _) Tryz.underlying26 rfl hinfo) rfl ?_
      exact givesRg_nil hR.out (((hg0.trans (hg2.trans hg3)).setCell (Nat.le_refl _) _).setCell (Nat.le_refl _) _)
    · rw [hbx] at HPl
      rw [lgNames_len] at hk
      have hvs := vs_fm hf
      have HVI := Lib.hid (fun W (hW : Grew w W) => l02Variables_c _ xs W (HA.out.grew hW) hvs hnx)
      have HMF := Lib.hid (And.intro hf hbx)
      have hR3 := Lib.hid (rgF_many (k := k) hf hbx)
      rw [hxl] at HVI
      clear hf hbx hvs
      go_enter Tryz.func7, Tryz.ntmps7
      go_wp2_with fail
      simp only [← hw0]
      clear hw0
      refine (HF.out _ hg0).mono ?_
      rintro e w2 ⟨rfl, hg2⟩
      go_wp2_with fail
      refine (l09Logics_c _).mono ?_
      rintro e w3a ⟨v3a, rfl, hO3a, hg3a⟩
      have HP2 := Lib.hid (HPl.out _ _ hO3a.strs)
      obtain ⟨A3a, c3a, rfl⟩ := strs_slice hO3a.strs
      clear hO3a
      go_wp2_with fail
      refine (HP2.out).mono ?_
      rintro e w3 ⟨rfl, hg3b⟩
      have hg3 := hg3a.trans hg3b
      have hk0 : ((k : Int) < 0) = False := by simp
      go_wp2_with fail
      refine (HVI.out _ ((hg0.trans hg2).trans hg3)).mono ?_
      rintro e w4 ⟨v4, rfl, hO4, hg4⟩
      have hg34 := (hg2.trans hg3).trans hg4
      obtain ⟨A4, c4, rfl⟩ := ints_sliceN hO4.ints
      clear hO4
      by_cases hm : 3 < (mbs (vm xs)).length
      · have hR := Lib.hid (hR3.out hm)
        have hm' : (3 : Int) < ((mbs (vm xs)).length : Int) := by omega
        generalize (mbs (vm xs)).length = nm at *
        have hb2 := ((hg34).block (blk_lt HB0.out)).trans HB0.out
        have q0 : w4.cell? ⟨w.heap.size, 0, none⟩ = some (.int .i64 0) := by rw [blk_cell hb2]; rfl
        have q1 : w4.cell? ⟨w.heap.size, 1, none⟩ = some (.slice none 0 0) := by rw [blk_cell hb2]; rfl
        have qf0 := blk_frozen hb2 0
        have qf1 := blk_frozen hb2 1
        have HB2 := Lib.hid hb2
        clear hb2
        go_wp2_with fail
        (try simp only [Exit.inBlock, Exit.then])
        refine bodyPost_ret (results_cell_tmp_rowF rfl _ _ w.heap.size _ _ _ _ rfl (blk_set (blk_set HB2.out 0 _) 1 _) Tryz.underlying26 rfl hinfo) rfl ?_
        exact givesRg_nil hR.out (((hg0.trans (hg34)).setCell (Nat.le_refl _) _).setCell (Nat.le_refl _) _)
      · have hm' : ¬ (3 : Int) < ((mbs (vm xs)).length : Int) := by omega
        obtain ⟨t, rfl, h40⟩ := fmB_tree HMF.out.1
        have hGO := Lib.hid (rgF_go (k := k) HMF.out.1 HMF.out.2 hm)
        have HV := Lib.hid (fun v A W (h : Ints W v (zs A)) (hW : Grew w W) hA (h8 : A.length ≤ 3) => l06Valid_c v _ A t W h (HA.out.grew hW) hA (by omega) (vs_enc t) hnx (Nat.le_trans (Nat.mul_le_mul h8 (show _ ≤ 3 by omega)) (by decide)))
        rw [hxl] at HV
        have HAL := Lib.hid (fun n (h3 : n ≤ 3) W => l09Frames_c s n k h3 W hk HMF.out.2)
        have HSU := Lib.hid sfrs_succ
        have HSPL := Lib.hid (fun m (h : m ≤ 4) => sfrs_le h)
        have HPL := Lib.hid (fun n (h : n ≤ 3) => Nat.le_trans (lgFs_len k (frs n)) (frs_len h))
        have HME := Lib.hid (fun n (h : n ≤ 3) A (hA : A ∈ lgFs k (frs n)) => lgFs_ok (k := k) h hA)
        have hs0 : w.heap.size < w0.heap.size := blk_lt HB0.out
        have hs34 := (hg0.trans hg34).size
        have hs344 := hg34.size
        clear hm HF HPl HVI HMF hR3 HA hxl hk
        generalize (mbs (vm (Fm.enc t))).length = nm at *
        have hcgt : decide ((3 : Int) < (nm : Int)) = false := decide_eq_false hm'
        clear h40
        go_wp2_with fail
        go_loopw [6] (fun i wr => ∃ n : Nat, 1 ≤ n ∧ n ≤ 4 ∧ i = .int .i64 (n : Int) ∧ Grew w4 wr ∧ Hid (∀ B ∈ sfrs n, rfgB k t B = false)) (fun i _ => 5 - (intOf i).toNat)
        case atStart => exact ⟨1, by omega, by omega, rfl, Grew.refl _, Lib.hid rfg_one⟩
        case round =>
          obtain ⟨n, hn1, hn4, rfl, hB, hN⟩ := hrel
          by_cases hlt : n ≤ 3
          · have hP := Lib.hid (HAL.out n hlt wr)
            have hlt' : (n : Int) ≤ 3 := by omega
            have hpl := HPL.out n hlt
            have HMEM := Lib.hid (fun i (hi : i < (lgFs k (frs n)).length) => HME.out n hlt _ (show (lgFs k (frs n)).getD i [] ∈ lgFs k (frs n) by simp [List.getD, hi]))
            have HTK := Lib.hid (fun i (hi : i < (lgFs k (frs n)).length) => take_next (L := lgFs k (frs n)) [] hi)
            have HSP2 := Lib.hid (fun i (hi : i < (lgFs k (frs n)).length) => (show (lgFs k (frs n)).take i ++ (lgFs k (frs n)).getD i [] :: (lgFs k (frs n)).drop (i + 1) = lgFs k (frs n) by rw [← List.singleton_append, ← List.append_assoc, ← take_next [] hi, List.take_append_drop]))
            have HALL : Hid ((lgFs k (frs n)).take (lgFs k (frs n)).length = lgFs k (frs n)) := Lib.hid List.take_length
            have hsu := HSU.out n
            have hS4 := HSPL.out (n + 1) (by omega)
            have HS := Lib.hid (And.intro hsu hS4)
            have HHIT := Lib.hid (fun L (P Q : List (List Nat)) (e : lgFs k (frs n) = P ++ L :: Q) (h : ∀ B ∈ P, rfgB k t B = false) (hr : rfgB k t L = true) => firstH_hit (k := k) (t := t) hN.out hlt e h hr)
            have HNX := Lib.hid (fun (h : ∀ B ∈ lgFs k (frs n), rfgB k t B = false) => firstH_next (k := k) (t := t) hN.out h)
            clear hsu hS4 HS
            go_wp2_with fail
            refine (hP.out).mono ?_
            rintro e w5 ⟨v5, rfl, hO5, hg5⟩
            have HAT := Lib.hid (fun i (hi : i < (lgFs k (frs n)).length) => hO5.at_ (i := i) hi)
            obtain ⟨A5, c5, rfl⟩ := hO5.slice
            have hg05 := hg34.trans (hB.trans hg5)
            have hs5 := hB.size
            clear hO5 hP
            generalize lgFs k (frs n) = P at *
            generalize hpl2 : P.length = pl at *
            clear hpl2
            generalize wr = wk at *
            go_wp2_with fail
            go_loopw [8] (fun i wr => ∃ j : Nat, j ≤ pl ∧ i = .int .i64 (j : Int) ∧ Grew w5 wr ∧ Hid (∀ B ∈ P.take j, rfgB k t B = false)) (fun i _ => pl - (intOf i).toNat)
            case atStart => exact ⟨0, by omega, rfl, Grew.refl _, Lib.hid (by simp)⟩
            case round =>
              obtain ⟨j, hj, rfl, hB2, hN2⟩ := hrel
              by_cases hlj : j < pl
              · obtain ⟨go, co, uo, he, hgo, hco, huo⟩ := HAT.out j hlj
                injection he with he1 _ he3
                subst he1 he3
                have hmem := HMEM.out j hlj
                have htk := Lib.hid (HTK.out j hlj)
                have hsp := Lib.hid (HSP2.out j hlj)
                have k0 := fun W (hW : Grew wr W) => (hco W (hB2.trans hW)).1
                have k1 := fun W (hW : Grew wr W) => (hco W (hB2.trans hW)).2
                have r1 := Grew.refl wr
                obtain ⟨Au, cu, rfl⟩ := ints_sliceN huo.ints
                have HUW := Lib.hid huo
                have hVV := Lib.hid (HV.out _ _ wr (huo.ints.grew hB2) ((hg0.trans hg05).trans hB2) hmem.2.1 (by rw [hmem.1]; exact hlt))
                have hre := rfgB_yes (t := t) (show 0 < (P.getD j []).length by rw [hmem.1]; omega) hmem.2.2
                clear huo hco hmem
                generalize P.getD j [] = L at *
                cases hvl : vldB L (mbs (vm (Fm.enc t))) t with
                | false =>
                  have hr : rfgB k t L = true := by rw [hre, hvl]; rfl
                  rw [hvl] at hVV
                  have hR : Hid (rgF s (Fm.enc t) = (0, L)) := Lib.hid (by rw [hGO.out]; exact HHIT.out L _ _ hsp.out.symm hN2.out hr)
                  clear hr hre hvl
                  go_wp2_with fail
                  refine hVV.out.mono ?_
                  rintro e w7 ⟨rfl, hg7⟩
                  have hB7 := hB2.trans hg7
                  have p0 := k0 w7 hg7
                  have p1 := k1 w7 hg7
                  have hb2 := ((hg05.trans hB7).block (blk_lt HB0.out)).trans HB0.out
                  have q0 : w7.cell? ⟨w.heap.size, 0, none⟩ = some (.int .i64 0) := by rw [blk_cell hb2]; rfl
                  have q1 : w7.cell? ⟨w.heap.size, 1, none⟩ = some (.slice none 0 0) := by rw [blk_cell hb2]; rfl
                  have qf0 := blk_frozen hb2 0
                  have qf1 := blk_frozen hb2 1
                  have HB2 := Lib.hid hb2
                  clear hb2
                  go_wp2_with fail
                  (try simp only [Exit.inBlock, Exit.then])
                  refine bodyPost_ret (results_cell_tmp_rowF rfl _ _ w.heap.size _ _ _ _ rfl (blk_set (blk_set HB2.out 0 _) 1 _) Tryz.underlying26 rfl hinfo) rfl ?_
                  have hk9 : Only w.heap.size w7 ((w7.setCell ⟨w.heap.size, 0, none⟩ (.int .i64 (L.length : Int))).setCell ⟨w.heap.size, 1, none⟩ (.slice Au L.length cu)) := ((Only.refl _ _).setCell _).setCell _
                  have hO9 := own_only (HUW.out.grew hB7) hk9 (fun hh => by have := own_of_ge HUW.out hh; omega)
                  exact ⟨_, by rw [hR.out]; rfl, by rw [hR.out]; exact own_base hO9 (by omega), ((hg0.trans (hg05.trans hB7)).setCell (Nat.le_refl _) _).setCell (Nat.le_refl _) _⟩
                | true =>
                  have hN3 : Hid (∀ B ∈ P.take (j + 1), rfgB k t B = false) := Lib.hid (by
                    rw [htk.out]
                    intro B hB
                    rcases List.mem_append.1 hB with h | h
                    · exact hN2.out B h
                    · rw [List.mem_singleton] at h; rw [h, hre, hvl]; rfl)
                  rw [hvl] at hVV
                  clear hre hvl
                  go_wp2_with fail
                  refine hVV.out.mono ?_
                  rintro e w7 ⟨rfl, hg7⟩
                  have hB7 := hB2.trans hg7
                  go_wp2_with fail
                  go_roundw
                  case rel => exact ⟨j + 1, by omega, by go_num, hB7, hN3⟩
                  case measure => simp [intOf]; omega
              · obtain rfl : j = pl := by omega
                have hN3 := Lib.hid (HNX.out (by have := hN2.out; rwa [HALL.out] at this))
                go_wp2_with fail
                go_roundw
                case rel => exact ⟨n + 1, by omega, by omega, by go_num, (hB.trans hg5).trans hB2, hN3⟩
                case measure => simp [intOf]; omega
          · obtain rfl : n = 4 := by omega
            have hR : Hid (rgF s (Fm.enc t) = (4, [])) := Lib.hid (by rw [hGO.out]; exact firstG_none hN.out)
            have hb2 := ((hg34.trans hB).block (blk_lt HB0.out)).trans HB0.out
            have q0 : wr.cell? ⟨w.heap.size, 0, none⟩ = some (.int .i64 0) := by rw [blk_cell hb2]; rfl
            have q1 : wr.cell? ⟨w.heap.size, 1, none⟩ = some (.slice none 0 0) := by rw [blk_cell hb2]; rfl
            have qf0 := blk_frozen hb2 0
            have qf1 := blk_frozen hb2 1
            have HB2 := Lib.hid hb2
            clear hb2
            go_wp2_with fail
            (try simp only [Exit.inBlock, Exit.then])
            refine bodyPost_ret (results_cell_tmp_rowF rfl _ _ w.heap.size _ _ _ _ rfl (blk_set (blk_set HB2.out 0 _) 1 _) Tryz.underlying26 rfl hinfo) rfl ?_
            exact givesRg_nil hR.out (((hg0.trans (hg34.trans hB)).setCell (Nat.le_refl _) _).setCell (Nat.le_refl _) _)
end Go.Proofs.YtpfncncohnhanaaGreatDoor


/- The program's IsFrameOf, LeastFrame, FramesOf at the frames of the list. -/
namespace Go.Proofs.YtpfncncohnhanaaGreatDoor
open Go.RowKit

theorem frB_of {A : List Nat} (hA : Rl A) (h8 : A.length ≤ 8) : frB (A.length : Int) (zs A) = true := by
  unfold frB
  rw [zs_len, mks_ofX hA.2, decide_eq_true (show (0 : Int) ≤ (A.length : Int) ∧ (A.length : Int) ≤ 8 by omega), decide_eq_true rfl]
  rfl
theorem isFrameOfE_c (v : Value) (A : List Nat) (s : ByteArray) (k : Nat) (w : World) (h : Ints w v (zs A)) (hA : Rl A) (h8 : A.length ≤ 8) (hN : TabAt w 1 axNames) (hT : TabAt w 2 lgTab) (hk : k < 16) (hf : findS lgNames s = (k : Int)) :
    Calls Tryz.prog 23 #[.agg #[.int .i64 (A.length : Int), v], .string s] w (GivesBC w (lgB k A, 0)) := by
  unfold GivesBC
  obtain ⟨w0, hw0⟩ : ∃ w0, w0 = w.alloc (.cells #[.int .i64 (A.length : Int), v] 26) := ⟨_, rfl⟩
  have hal : Grew w w0 := by rw [hw0]; exact (Grew.refl w).alloc _
  have y0 : ∀ W, Grew w0 W → W.cell? ⟨w.heap.size, 0, none⟩ = some (.int .i64 (A.length : Int)) := fun W hW => (hW.cell (p := ⟨w.heap.size, 0, none⟩) (by rw [hw0]; simp)).trans (by rw [hw0]; simp)
  have y1 : ∀ W, Grew w0 W → W.cell? ⟨w.heap.size, 1, none⟩ = some v := fun W hW => (hW.cell (p := ⟨w.heap.size, 1, none⟩) (by rw [hw0]; simp)).trans (by rw [hw0]; simp)
  have H1 := Lib.hid (fun W (hW : Grew w W) => isFrame_c (A.length : Int) v (zs A) W (h.grew hW))
  rw [frB_of hA h8] at H1
  have H2 := Lib.hid (fun W (hW : Grew w W) => isLogic_lg s W (hT.grew hW))
  have hdd : decide (0 ≤ findS lgNames s) = true := by rw [hf]; exact decide_eq_true (by omega)
  rw [hdd] at H2
  have H3 := Lib.hid (fun W (hW : Grew w W) => isFrameOf_c v A s k W (h.grew hW) hA h8 (hN.grew hW) (hT.grew hW) hk hf)
  obtain ⟨A1, c1, rfl⟩ := ints_sliceN h
  have HG := Lib.hid hal
  have r0 := Grew.refl w0
  clear h hA hal hf hN hT hdd
  generalize lgB k A = R at *
  generalize A.length = n at *
  go_enter Tryz.func23, Tryz.ntmps23
  go_wp2_with fail
  simp only [← hw0]
  clear hw0
  go_wp2_with fail
  refine (H1.out _ HG.out).mono ?_
  rintro e w1 ⟨rfl, hg1⟩
  go_wp2_with fail
  refine (H2.out _ (HG.out.trans hg1)).mono ?_
  rintro e w2 ⟨rfl, hg2⟩
  have hk2 := hg1.trans hg2
  go_wp2_with fail
  refine (H3.out _ (HG.out.trans hk2)).mono ?_
  rintro e w3 ⟨rfl, hg3⟩
  go_wp2_with fail
  go_ret2
  exact ⟨rfl, HG.out.trans (hk2.trans hg3)⟩
def GivesLf (w : World) (A : List Nat) (e : Ending) (w' : World) : Prop := ∃ v, e = .returned (.tuple #[.agg #[.int .i64 ((lst A).length : Int), v], .int .i64 0]) ∧ Ints w' v (zs (lst A)) ∧ Grew w w'
theorem leastFrame_c (v : Value) (A : List Nat) (w : World) (h : Ints w v (zs A)) (hA : Rl A) (h6 : A.length ≤ 6) :
    Calls Tryz.prog 24 #[.agg #[.int .i64 (A.length : Int), v]] w (GivesLf w A) := by
  unfold GivesLf
  have hinfo := info2F
  obtain ⟨w0, hw0⟩ : ∃ w0, w0 = (w.alloc (.cells #[.int .i64 (A.length : Int), v] 26)).alloc (.cells #[.int .i64 0, .slice none 0 0] 26) := ⟨_, rfl⟩
  have hal : Grew w w0 := by rw [hw0]; exact ((Grew.refl w).alloc _).alloc _
  have hbA : w0.heap[w.heap.size]? = some (.cells #[.int .i64 (A.length : Int), v] 26 (0, 0)) := by rw [hw0]; exact (((Grew.refl _).alloc _).block (by simp)).trans (blk_new w _)
  have hbR : w0.heap[w.heap.size + 1]? = some (.cells #[.int .i64 0, .slice none 0 0] 26 (0, 0)) := by
    rw [hw0]
    have := blk_new (w.alloc (.cells #[.int .i64 (A.length : Int), v] 26)) (.cells #[.int .i64 0, .slice none 0 0] 26)
    rwa [show (w.alloc (.cells #[.int .i64 (A.length : Int), v] 26)).heap.size = w.heap.size + 1 by simp] at this
  have y0 : ∀ W, Grew w0 W → W.cell? ⟨w.heap.size, 0, none⟩ = some (.int .i64 (A.length : Int)) := fun W hW => by rw [blk_cell ((hW.block (blk_lt hbA)).trans hbA)]; rfl
  have y1 : ∀ W, Grew w0 W → W.cell? ⟨w.heap.size, 1, none⟩ = some v := fun W hW => by rw [blk_cell ((hW.block (blk_lt hbA)).trans hbA)]; rfl
  have hbl := blk_lt hbR
  have HBR := Lib.hid (fun W (hW : Grew w0 W) => (hW.block (blk_lt hbR)).trans hbR)
  have H1 := Lib.hid (fun W (hW : Grew w W) => isFrame_c (A.length : Int) v (zs A) W (h.grew hW))
  rw [frB_of hA (by omega)] at H1
  have H2 := Lib.hid (fun W (hW : Grew w W) => leastRelation_c v A W (h.grew hW) hA h6)
  have HFO := Lib.hid (fun W u (hu : Ints W u (zs (lst A))) => frameOf_c u (zs (lst A)) W hu)
  have hle : ¬ (6 : Int) < (A.length : Int) := by omega
  have hled : decide ((6 : Int) < (A.length : Int)) = false := decide_eq_false hle
  obtain ⟨A1, c1, rfl⟩ := ints_sliceN h
  have HG := Lib.hid hal
  have r0 := Grew.refl w0
  rw [zs_len] at HFO
  clear h hA hal hbA hbR hle
  generalize lst A = R at *
  generalize A.length = n at *
  go_enter Tryz.func24, Tryz.ntmps24
  go_wp2_with fail
  simp only [← hw0]
  clear hw0
  go_wp2_with fail
  refine (H1.out _ HG.out).mono ?_
  rintro e w1 ⟨rfl, hg1⟩
  go_wp2_with fail
  refine (H2.out _ (HG.out.trans hg1)).mono ?_
  rintro e w2 ⟨v2, rfl, hO2, hg2⟩
  have hk2 := hg1.trans hg2
  have HF2 := Lib.hid (HFO.out _ _ hO2.ints)
  have HO2 := Lib.hid hO2
  obtain ⟨A2, c2, rfl⟩ := ints_sliceN hO2.ints
  clear hO2
  go_wp2_with fail
  refine (HF2.out).mono ?_
  rintro e w3 ⟨rfl, hg3⟩
  have hk3 := hk2.trans hg3
  have hb2 := HBR.out w3 hk3
  have q0 : w3.cell? ⟨w.heap.size + 1, 0, none⟩ = some (.int .i64 0) := by rw [blk_cell hb2]; rfl
  have q1 : w3.cell? ⟨w.heap.size + 1, 1, none⟩ = some (.slice none 0 0) := by rw [blk_cell hb2]; rfl
  have qf0 := blk_frozen hb2 0
  have qf1 := blk_frozen hb2 1
  have HB2 := Lib.hid hb2
  clear hb2
  go_wp2_with fail
  (try simp only [Exit.inBlock, Exit.then])
  refine bodyPost_ret (results_cell_tmp_rowF rfl _ _ (w.heap.size + 1) _ _ _ _ rfl (blk_set (blk_set HB2.out 0 _) 1 _) Tryz.underlying26 rfl hinfo) rfl ?_
  have hk9 : Only (w.heap.size + 1) w3 ((w3.setCell ⟨w.heap.size + 1, 0, none⟩ (.int .i64 (R.length : Int))).setCell ⟨w.heap.size + 1, 1, none⟩ (.slice A2 R.length c2)) := ((Only.refl _ _).setCell _).setCell _
  have hs1 := hg1.size
  exact ⟨_, rfl, (show OwnI _ w1.heap.size _ (zs R) from own_only (HO2.out.grew hg3) hk9 (fun hh => by have := own_of_ge HO2.out hh; omega)).ints, ((HG.out.trans hk3).setCell (Nat.le_succ _) _).setCell (Nat.le_succ _) _⟩
theorem fcells_at2 (ps : List Fv) (m : Nat) (h : m < ps.length * 2) : ∃ q, ps[m / 2]? = some q ∧ (fscells ps)[m]? = some (if m % 2 = 0 then .int .i64 (q.2.length : Int) else q.1) := by
  have hm : m / 2 < ps.length := by omega
  refine ⟨ps[m / 2], List.getElem?_eq_getElem hm, ?_⟩
  obtain ⟨e1, e2⟩ := fscells_at ps (m / 2) _ (List.getElem?_eq_getElem hm)
  by_cases h0 : m % 2 = 0
  · rw [if_pos h0, ← e1]
    congr 1
    omega
  · rw [if_neg h0, ← e2]
    congr 1
    omega
theorem fcells_of {cur : Array Value} {K : List Fv} (h : ∀ k q, K[k]? = some q → FAt cur k q) (_hc : K.length * 2 ≤ cur.size) : cur.toList.take (K.length * 2) = fscells K := by
  apply List.ext_getElem?
  intro m
  by_cases hm : m < K.length * 2
  · obtain ⟨q, hq, e⟩ := fcells_at2 K m hm
    obtain ⟨h1, h2⟩ := h _ q hq
    rw [e, List.getElem?_take, if_pos hm, Array.getElem?_toList]
    by_cases h0 : m % 2 = 0
    · rw [if_pos h0, ← h1]
      congr 1
      omega
    · rw [if_neg h0, ← h2]
      congr 1
      omega
  · rw [List.getElem?_take, if_neg hm, List.getElem?_eq_none (by rw [fscells_length]; omega)]
theorem map_filter2 (k : Nat) : ∀ ps : List Fv, (ps.filter fun q => !!lgB k q.2).map (fun p => p.2) = lgFs k (ps.map fun p => p.2)
  | [] => rfl
  | p :: ps => by
    have ih := map_filter2 k ps
    unfold lgFs at ih ⊢
    rw [List.map_cons, List.filter_cons, List.filter_cons]
    cases h : lgB k p.2 with
    | true => simp [← ih]
    | false => simp [← ih]
theorem framesOf1_ok (s : ByteArray) (k bn : Nat) (v : Value) (A : List Nat) (w : World) (h : Ints w v (zs A)) (hA : Rl A) (h8 : A.length ≤ 8) (hN : TabAt w 1 axNames) (hT : TabAt w 2 lgTab) (hk : k < 16) (hf : findS lgNames s = (k : Int))
    (hb : bn < w.heap.size) (hc : w.cell? ⟨bn, 0, none⟩ = some (.string s)) :
    Calls Tryz.prog 63 #[.agg #[.int .i64 (A.length : Int), v], .pointer (some ⟨bn, 0, none⟩)] w fun e w' => e = .returned (.bool (!lgB k A)) ∧ Grew w w' := by
  obtain ⟨w0, hw0⟩ : ∃ w0, w0 = w.alloc (.cells #[.int .i64 (A.length : Int), v] 26) := ⟨_, rfl⟩
  have hal : Grew w w0 := by rw [hw0]; exact (Grew.refl w).alloc _
  have y0 : w0.cell? ⟨w.heap.size, 0, none⟩ = some (.int .i64 (A.length : Int)) := by rw [hw0]; simp
  have y1 : w0.cell? ⟨w.heap.size, 1, none⟩ = some v := by rw [hw0]; simp
  have y2 : ∀ o, (w.alloc o).cell? ⟨bn, 0, none⟩ = some (.string s) := fun o => (((Grew.refl w).alloc o).cell (p := ⟨bn, 0, none⟩) hb).trans hc
  have H3 := Lib.hid (fun W (hW : Grew w W) => isFrameOf_c v A s k W (h.grew hW) hA h8 (hN.grew hW) (hT.grew hW) hk hf)
  obtain ⟨A1, c1, rfl⟩ := ints_sliceN h
  have HG := Lib.hid hal
  clear h hA hal hf hN hT hc hb
  generalize lgB k A = R at *
  generalize A.length = n at *
  go_enter Tryz.func63, Tryz.ntmps63
  go_wp2_with fail
  simp only [← hw0]
  clear hw0
  refine (H3.out _ HG.out).mono ?_
  rintro e w3 ⟨rfl, hg3⟩
  go_wp2_with fail
  go_ret
  exact ⟨rfl, HG.out.trans hg3⟩
set_option maxHeartbeats 2000000 in
theorem framesOf_c (s : ByteArray) (n k : Nat) (h3 : n ≤ 3) (w : World) (hN : TabAt w 1 axNames) (hT : TabAt w 2 lgTab) (hk : k < 16) (hf : findS lgNames s = (k : Int)) (hne : frs n ≠ []) :
    Calls Tryz.prog 25 #[.string s, .int .i64 (n : Int)] w (GivesFsC w (lgFs k (frs n))) := by
  unfold GivesFsC
  obtain ⟨w0, hw0⟩ : ∃ w0, w0 = w.alloc (.cells #[.string s] 9) := ⟨_, rfl⟩
  have hal : Grew w w0 := by rw [hw0]; exact (Grew.refl w).alloc _
  have hb0 : w0.heap[w.heap.size]? = some (.cells #[.string s] 9 (0, 0)) := by rw [hw0]; exact blk_new w _
  have y0 : w0.cell? ⟨w.heap.size, 0, none⟩ = some (.string s) := by rw [blk_cell hb0]; rfl
  have H2 := Lib.hid (fun W (hW : Grew w W) => isLogic_lg s W (hT.grew hW))
  have hdd : decide (0 ≤ findS lgNames s) = true := by rw [hf]; exact decide_eq_true (by omega)
  rw [hdd] at H2
  have HAF := Lib.hid (allFrames_c n h3)
  have eg := enters_of Tryz.func63 (by kernel_rfl) rfl
  have HCL := Lib.hid (fun v A W (h : Ints W v (zs A)) hA h8 hN hT hb hc => framesOf1_ok s k w.heap.size v A W h hA h8 hN hT hk hf hb hc)
  have HOKF := Lib.hid (fun A (h : A ∈ frs n) => frs_ok (n := n) (by omega) h)
  have HTN := Lib.hid (And.intro hN hT)
  have HG := Lib.hid hal
  have HB0 := Lib.hid hb0
  have hn0 : 0 < (frs n).length := List.length_pos_iff.2 hne
  have HPL := frs_len h3
  unfold GivesFsC at HAF
  clear hal hN hT hf hb0 hdd hne
  generalize frs n = P at *
  go_enter Tryz.func25, Tryz.ntmps25
  go_wp2_with fail
  simp only [← hw0]
  clear hw0
  go_wp2_with fail
  refine (H2.out _ HG.out).mono ?_
  rintro e w1 ⟨rfl, hg1⟩
  go_wp2_with fail
  refine (HAF.out _).mono ?_
  rintro e w2 ⟨v2, rfl, hO2, hg2⟩
  have HG2 := Lib.hid (hg1.trans hg2)
  obtain ⟨ps, e1, hr, hel⟩ := hO2
  obtain ⟨_, h4⟩ := hr
  rcases h4 with ⟨_, h5⟩ | ⟨g, cap, cur, rfl, hbg, hg, hnc, hcm, hcs, ht⟩
  · omega
  have hpl : ps.length = P.length := by rw [← e1, List.length_map]
  have hg12 := hg1.size
  have hgw : w0.heap.size ≤ g := Nat.le_trans hg12 hbg
  have hs0 : w.heap.size < w0.heap.size := blk_lt HB0.out
  have hcur : ∀ i q, ps[i]? = some q → FAt cur i q := fun i q hq => by
    obtain ⟨a1, a2⟩ := fscells_at ps i q hq
    have hi := (List.getElem?_eq_some_iff.1 hq).1
    constructor
    · rw [← a1, ← ht, List.getElem?_take, if_pos (by omega), Array.getElem?_toList]
    · rw [← a2, ← ht, List.getElem?_take, if_pos (by omega), Array.getElem?_toList]
  have hsl : ∀ q ∈ ps, ∃ A m c, q.1 = .slice A m c := fun q hq => by
    obtain ⟨A, c, e⟩ := ints_slice (hel q hq).ints
    exact ⟨_, _, _, e⟩
  have hpf : PredF w2 g 63 #[.pointer (some ⟨w.heap.size, 0, none⟩)] ps (fun q => !lgB k q.2) := fun q W hq hW => by
    have hm : q.2 ∈ P := by rw [← e1]; exact List.mem_map.2 ⟨q, hq, rfl⟩
    obtain ⟨b1, b2, _⟩ := HOKF.out _ hm
    have hgr : Grew w0 W := HG2.out.grown hW (fun i hi => by injection hi with hi; omega)
    have hiq : OwnI W w1.heap.size q.1 (zs q.2) := own_only (hel q hq) hW (fun hh => by
      rcases (hel q hq).2 with ⟨he, _⟩ | ⟨g', c', cur', he, hb', hg', _⟩
      · rw [he] at hh; cases hh
      · rw [he] at hh
        injection hh with hh
        subst hh
        rw [hg] at hg'
        injection hg' with hg'
        injection hg' with _ hg' _
        exact absurd hg' (by decide))
    exact HCL.out q.1 q.2 W hiq.ints b2 (by omega) (HTN.out.1.grew (HG.out.trans hgr)) (HTN.out.2.grew (HG.out.trans hgr)) (by have := hgr.size; omega) ((hgr.cell (p := ⟨w.heap.size, 0, none⟩) hs0).trans y0)
  have HD := Lib.hid (deleteFuncF_c g cap cur ps _ _ _ w2 hg (by omega) hcur (by omega) hcm hsl hpf eg)
  have HEL := Lib.hid hel
  have HE1 := Lib.hid e1
  have HGB := Lib.hid hg
  rw [hpl] at HD
  clear hpf hsl hcur hel e1 hg ht hcs
  go_wp2_with fail
  refine (HD.out).mono ?_
  rintro e w3 ⟨rfl, ⟨cur3, hb3, hc3, hat3⟩, ho3⟩
  have HO3 := Lib.hid ho3
  have HAT := Lib.hid hat3
  have HB3 := Lib.hid hb3
  have hKl : (ps.filter fun q => !(fun q => !lgB k q.2) q).length ≤ cap := Nat.le_trans (List.length_filter_le _ _) (by omega)
  have hEM := Lib.hid (map_filter2 k ps)
  have HML := Lib.hid (fun q (hq : q ∈ ps.filter fun q => !(fun q => !lgB k q.2) q) => (List.mem_filter.1 hq).1)
  clear hat3 hb3 ho3
  generalize hK : (ps.filter fun q => !(fun q => !lgB k q.2) q) = K at *
  go_wp2_with fail
  go_ret2
  have hkk : K.map (fun p => p.2) = lgFs k P := by
    rw [← HE1.out]
    exact hEM.out
  have hgr3 : Grew w0 w3 := HG2.out.grown HO3.out (fun i hi => by injection hi with hi; omega)
  have hll : K.length = (lgFs k P).length := by rw [← hkk, List.length_map]
  refine ⟨_, rfl, ⟨K, hkk, ?_, fun q hq => ?_⟩, HG.out.trans hgr3⟩
  · rw [← hll]
    refine ⟨fscells_length K, .inr ⟨g, cap, cur3, rfl, by omega, HB3.out, hKl, hcm, hc3, ?_⟩⟩
    exact fcells_of HAT.out (by omega)
  · have hqp := HML.out q hq
    have hx := HEL.out q hqp
    refine OwnI.base (own_only hx HO3.out (fun hh => ?_)) (by omega)
    rcases hx.2 with ⟨he, _⟩ | ⟨g', c', cur', he, hb', hg', _⟩
    · rw [he] at hh; cases hh
    · rw [he] at hh
      injection hh with hh
      subst hh
      have h9 := HGB.out
      rw [h9] at hg'
      injection hg' with hg'
      injection hg' with _ hg' _
      exact absurd hg' (by decide)
end Go.Proofs.YtpfncncohnhanaaGreatDoor


/- The laws' comparing of frames: likeInts, sameFrame9, at whatever frames. -/
namespace Go.Proofs.YtpfncncohnhanaaGreatDoor
open Go.RowKit

def GivesB2 (w : World) (P : Prop) (e : Ending) (w' : World) : Prop := ∃ b : Bool, e = .returned (.bool b) ∧ Grew w w' ∧ (P → b = true)
theorem likeInts_any (v1 v2 : Value) (L1 L2 : List Int) (w : World) (h1 : Ints w v1 L1) (h2 : Ints w v2 L2) (hn : L1.length ≤ 1099511627776) :
    Calls Tryz.prog 58 #[v1, v2] w (GivesB2 w (L1 = L2)) := by
  unfold GivesB2
  by_cases hl : L1.length = L2.length
  · rcases h1.open_ with ⟨rfl, rfl⟩ | ⟨b1, o1, c1, rfl, hc1, hm1, hb1, hf⟩
    · obtain ⟨A, c, rfl⟩ := ints_slice h2
      simp only [← hl, List.length_nil]
      go_enter Tryz.func58, Tryz.ntmps58
      go_wp2_with fail
      refine wp_loop_rounds 1 ?_; rw [rounds_succ]
      go_wp2_with fail
      go_ret
      exact ⟨_, rfl, Grew.refl _, fun _ => rfl⟩
    rcases h2.open_ with ⟨rfl, rfl⟩ | ⟨b2, o2, c2, rfl, hc2, hm2, hb2, hh⟩
    · simp only [hl, List.length_nil]
      go_enter Tryz.func58, Tryz.ntmps58
      go_wp2_with fail
      refine wp_loop_rounds 1 ?_; rw [rounds_succ]
      go_wp2_with fail
      go_ret
      exact ⟨_, rfl, Grew.refl _, fun _ => rfl⟩
    clear h1 h2
    rw [← hl] at hh hc2 ⊢
    have HF := Lib.hid hf
    have HH := Lib.hid hh
    have HNE : Hid (∀ j, it L1 j ≠ it L2 j → L1 = L2 → False) := Lib.hid (fun j h e => h (by rw [e]))
    clear hf hh hl
    generalize hN : L1.length = n at *
    clear hN
    go_enter Tryz.func58, Tryz.ntmps58
    go_wp2_with fail
    go_loopg [5] n (fun k i wr => ∃ j : Nat, j ≤ n ∧ k = n - j ∧ i = .int .i64 j ∧ Grew w wr)
    case atStart => exact ⟨0, Nat.zero_le _, by omega, rfl, Grew.refl _⟩
    case round =>
      obtain ⟨j, hj, rfl, rfl, hB⟩ := hrel
      by_cases hlt : j < n
      · have k1 : ∀ W, Grew w W → W.cell? ⟨b1, o1 + j, none⟩ = some (.int .i64 (it L1 j)) := fun W hW => HF.out j hlt W hW
        have k3 : ∀ W, Grew w W → W.cell? ⟨b2, o2 + j, none⟩ = some (.int .i64 (it L2 j)) := fun W hW => HH.out j hlt W hW
        by_cases hz1 : it L1 j = it L2 j
        · rw [← hz1] at k3
          clear hz1
          generalize it L1 j = z at *
          have hz : (z != z) = false := by simp
          go_wp2_with fail
          go_quiet (fail)
          go_wp2_with fail
          go_roundg (n - (j + 1))
          case measure => omega
          case rel => exact ⟨j + 1, by omega, rfl, by go_num, hB.drewN _⟩
        · have hno := Lib.hid (HNE.out j hz1)
          have hz : (it L1 j != it L2 j) = true := by simpa using hz1
          clear hz1
          generalize it L1 j = z at *
          generalize it L2 j = z2 at *
          go_wp2_with fail
          go_quiet (fail)
          go_wp2_with fail
          go_ret
          exact ⟨_, rfl, hB.drewN _, fun h => absurd h hno.out⟩
      · have hjn : j = n := by omega
        subst hjn
        go_wp2_with fail
        go_ret
        exact ⟨_, rfl, hB, fun _ => rfl⟩
  · obtain ⟨A1, c1, rfl⟩ := ints_slice h1
    obtain ⟨A2, c2, rfl⟩ := ints_slice h2
    have hne := Lib.hid (fun h : L1 = L2 => hl (by rw [h]))
    have hlb : (((L1.length : Nat) : Int) != (L2.length : Int)) = true := by rw [bne_iff_ne]; omega
    clear h1 h2 hl
    generalize L1.length = n1 at *
    generalize L2.length = n2 at *
    go_enter Tryz.func58, Tryz.ntmps58
    go_wp2_with fail
    go_ret
    exact ⟨_, rfl, Grew.refl _, fun h => absurd h hne.out⟩
theorem sameFrame9_c (m1 m2 : Int) (v1 v2 : Value) (L1 L2 : List Int) (w : World) (h1 : Ints w v1 L1) (h2 : Ints w v2 L2) (hn : L1.length ≤ 1099511627776) :
    Calls Tryz.prog 22 #[.agg #[.int .i64 m1, v1], .agg #[.int .i64 m2, v2]] w (GivesB2 w (m1 = m2 ∧ L1 = L2)) := by
  unfold GivesB2
  have HL := Lib.hid (fun W (hW : Grew w W) => likeInts_any v1 v2 L1 L2 W (h1.grew hW) (h2.grew hW) hn)
  unfold GivesB2 at HL
  obtain ⟨w0, hw0⟩ : ∃ w0, w0 = (w.alloc (.cells #[.int .i64 m1, v1] 26)).alloc (.cells #[.int .i64 m2, v2] 26) := ⟨_, rfl⟩
  have hal : Grew w w0 := by rw [hw0]; exact ((Grew.refl w).alloc _).alloc _
  have HG := Lib.hid hal
  obtain ⟨A1, c1, rfl⟩ := ints_slice h1
  obtain ⟨A2, c2, rfl⟩ := ints_slice h2
  clear h1 h2 hal
  generalize L1.length = n1 at *
  generalize L2.length = n2 at *
  by_cases he : m1 = m2
  · subst he
    have hq : (m1 == m1) = true := by simp
    go_enter Tryz.func22, Tryz.ntmps22
    go_wp2_with fail
    simp only [← hw0]
    clear hw0
    refine (HL.out _ HG.out).mono ?_
    rintro e w1 ⟨b, rfl, hg1, hb⟩
    go_wp2_with fail
    go_ret
    exact ⟨_, rfl, HG.out.trans hg1, fun h => hb h.2⟩
  · have hq : (m1 == m2) = false := by simpa using he
    clear HG hw0
    go_enter Tryz.func22, Tryz.ntmps22
    go_wp2_with fail
    go_ret
    exact ⟨_, rfl, ((Grew.refl w).alloc _).alloc _, fun h => absurd h.1 he⟩
end Go.Proofs.YtpfncncohnhanaaGreatDoor


/- FnMonotone: the draws l16Join, l16Rooted; only their shape is told. -/
namespace Go.Proofs.YtpfncncohnhanaaGreatDoor
open Go.RowKit

end Go.Proofs.YtpfncncohnhanaaGreatDoor


/- FnMonotone: the draws l16Rooted, l16Draw; only their shape is told. -/
namespace Go.Proofs.YtpfncncohnhanaaGreatDoor
open Go.RowKit

theorem blk_lt' {w : World} {k : Nat} {o : Obj} (h : w.heap[k]? = some o) : k < w.heap.size := (Array.getElem?_eq_some_iff.1 h).1
def SO (g : Nat) (cv : Value) (N : Nat) (w w' : World) : Prop := Src w' g cv N ∧ Only g w w'
theorem SO.drew {g : Nat} {cv : Value} {N : Nat} {w w' : World} (h : SO g cv N w w') : SO g cv N w w'.drew := ⟨h.1.grew (Grew.refl _).drew, h.2.drew⟩
def SR (g : Nat) (cv : Value) (N : Nat) (w0 : World) (pb gr n c : Nat) (bx : Obj) (W : World) : Prop := Src W g cv N ∧ Only g w0 W ∧ W.heap[pb]? = some bx ∧ ∃ K : List Int, K.length = n ∧ OwnI W w0.heap.size (.slice (some ⟨gr, 0, none⟩) n c) K
theorem SR.drew {g : Nat} {cv : Value} {N : Nat} {w0 W : World} {pb gr n c : Nat} {bx : Obj} (h : SR g cv N w0 pb gr n c bx W) : SR g cv N w0 pb gr n c bx W.drew := by
  obtain ⟨h1, h2, h3, K, h4, h5⟩ := h
  exact ⟨h1.grew (Grew.refl _).drew, h2.drew, h3, K, h4, h5.grew (Grew.refl _).drew⟩
theorem SR.next {g : Nat} {cv : Value} {N : Nat} {w0 W W' : World} {pb gr n c : Nat} {bx : Obj} (h : SR g cv N w0 pb gr n c bx W) (hS : Src W' g cv N) (ho : Only g W W') (hg : g < w0.heap.size) (hgp : pb ≠ g) : SR g cv N w0 pb gr n c bx W' := by
  obtain ⟨h1, h2, h3, K, h4, h5⟩ := h
  exact ⟨hS, h2.trans ho, (ho.block (blk_lt' h3) hgp).trans h3, K, h4, own_srcI h5 hg ho⟩
end Go.Proofs.YtpfncncohnhanaaGreatDoor


/- The draw of a frame: l05Draw of the reference. -/
namespace Go.Proofs.YtpfncncohnhanaaGreatDoor
open Go.RowKit

theorem SO.alloc {g : Nat} {cv : Value} {N : Nat} {w w' : World} (h : SO g cv N w w') (o : Obj) : SO g cv N w (w'.alloc o) := ⟨h.1.grew ((Grew.refl _).alloc o), h.2.grew ((Grew.refl _).alloc o)⟩
theorem SR.alloc {g : Nat} {cv : Value} {N : Nat} {w0 W : World} {pb gr n c : Nat} {bx : Obj} (h : SR g cv N w0 pb gr n c bx W) (o : Obj) : SR g cv N w0 pb gr n c bx (W.alloc o) := by
  obtain ⟨h1, h2, h3, K, h4, h5⟩ := h
  have hg := (Grew.refl W).alloc o
  exact ⟨h1.grew hg, h2.grew hg, (hg.block (blk_lt' h3)).trans h3, K, h4, h5.grew hg⟩
end Go.Proofs.YtpfncncohnhanaaGreatDoor


/- The source made: l01From; the damage: l01Damage. -/
namespace Go.Proofs.YtpfncncohnhanaaGreatDoor
open Go.RowKit

def ArgB (w : World) (v : Value) (N : Nat) : Prop :=
  (∃ A c, v = .slice A N c) ∧ N ≤ 9223372036854775807 ∧ (0 < N → ∃ b o c, v = .slice (some ⟨b, o, none⟩) N c ∧ b < w.heap.size ∧ N ≤ c ∧ c ≤ 9223372036854775807 ∧ ∀ j, j < N → ∃ x : Int, 0 ≤ x ∧ x ≤ 255 ∧ w.cell? ⟨b, o + j, none⟩ = some (.int .u8 x))
theorem ArgB.code {w w' : World} {v : Value} {N g : Nat} (h : ArgB w v N) (hN : N ≤ 4096) (hg : Grew w w') (hl : w.heap.size ≤ g) : Code w' g v N := by
  obtain ⟨h1, _, h2⟩ := h
  refine ⟨hN, h1, fun hp => ?_⟩
  obtain ⟨b, o, c, e, hb, hc, hm, hx⟩ := h2 hp
  refine ⟨b, o, c, e, by omega, hc, hm, fun j hj => ?_⟩
  obtain ⟨x, x0, x1, hcell⟩ := hx j hj
  exact ⟨x, x0, x1, (hg.cell (p := ⟨b, o + j, none⟩) hb).trans hcell⟩

theorem l01From_c (v : Value) (N : Nat) (w : World) (h : ArgB w v N) (hN : N ≤ 4096) :
    Calls Tryz.prog 43 #[v] w fun e w' => ∃ g, e = .returned (.pointer (some ⟨g, 0, none⟩)) ∧ w.heap.size ≤ g ∧ Src w' g v N ∧ Grew w w' := by
  have HC := Lib.hid (fun w' (hg : Grew w w') => h.code hN hg (Nat.le_refl w.heap.size))
  obtain ⟨⟨A, c, rfl⟩, hmax, h2⟩ := h
  have H2 := Lib.hid h2
  clear h2
  go_enter Tryz.func43, Tryz.ntmps43
  go_wp2_with fail
  have hnew := fun o => blk_new w o
  go_loopw [4] (fun i wr => ∃ (j : Nat) (x : Int), j ≤ N ∧ i = .int .i64 j ∧ 0 ≤ x ∧ x ≤ 18446744073709551615 ∧ wr.heap[w.heap.size]? = some (.cells #[.slice A N c, .int .i64 0, .int .u64 x] 103 (0, 0)) ∧ Grew w wr) (fun i _ => N - (intOf i).toNat)
  case atStart => exact ⟨0, _, Nat.zero_le _, rfl, by omega, by omega, hnew _, (Grew.refl w).alloc _⟩
  case round =>
    obtain ⟨j, x, hj, rfl, hx0, hx1, hb, hB⟩ := hrel
    by_cases hlt : j < N
    · obtain ⟨b, o, c', e, hbg, hc, hm, hx⟩ := H2.out (by omega)
      obtain ⟨y, hy0, hy1, k1⟩ := hx j hlt
      obtain ⟨rfl, rfl⟩ : A = some ⟨b, o, none⟩ ∧ c = c' := by simpa using e
      have k2 := (hB.cell (p := ⟨b, o + j, none⟩) hbg).trans k1
      have c2 : wr.cell? ⟨w.heap.size, 2, none⟩ = some (.int .u64 x) := by rw [blk_cell hb]; rfl
      have f2 := blk_frozen hb 2
      have HB := Lib.hid hb
      have h4 : (j : Int) < 4096 := by omega
      clear hb e hx k1
      go_wp2_with fail
      have hw0 : ∀ z : Int, 0 ≤ IntKind.u64.wrap z := fun z => by rw [IntKind.wrap_u64]; omega
      have hw1 : ∀ z : Int, IntKind.u64.wrap z ≤ 18446744073709551615 := fun z => by rw [IntKind.wrap_u64]; omega
      have HW0 := Lib.hid hw0
      have HW1 := Lib.hid hw1
      clear hw0 hw1
      go_region
      go_wp2_with fail
      go_roundw
      case rel => exact ⟨j + 1, _, by omega, by go_num, HW0.out _, HW1.out _, blk_set (w := wr.drewN _) HB.out 2 _, (hB.drewN _).setCell (Nat.le_refl _) _⟩
      case measure => simp [intOf]; omega
    · go_wp2_with fail
      go_ret
      exact ⟨_, rfl, Nat.le_refl _, ⟨HC.out _ hB, 0, x, Nat.zero_le _, hx0, hx1, hb⟩, hB⟩
end Go.Proofs.YtpfncncohnhanaaGreatDoor


/- The bytes that came in: as before in a later world; are they many? -/
namespace Go.Proofs.YtpfncncohnhanaaGreatDoor
open Go.RowKit

theorem ArgB.grew {w W : World} {v : Value} {N : Nat} (h : ArgB w v N) (hW : Grew w W) : ArgB W v N := by
  obtain ⟨h1, h2, h3⟩ := h
  refine ⟨h1, h2, fun hp => ?_⟩
  obtain ⟨b, o, c, e, hb, hc, hm, hx⟩ := h3 hp
  refine ⟨b, o, c, e, Nat.lt_of_lt_of_le hb hW.size, hc, hm, fun j hj => ?_⟩
  obtain ⟨x, x0, x1, hcell⟩ := hx j hj
  exact ⟨x, x0, x1, (hW.cell (p := ⟨b, o + j, none⟩) hb).trans hcell⟩
theorem big_c (v : Value) (N : Nat) (w : World) (h : ∃ A c, v = .slice A N c) :
    Calls Tryz.prog 15 #[v] w fun e w' => e = .returned (.bool (decide (4096 < N))) ∧ Grew w w' := by
  obtain ⟨A, c, rfl⟩ := h
  by_cases hb : 4096 < N
  · rw [decide_eq_true hb]
    go_enter Tryz.func15, Tryz.ntmps15
    go_wp2_with fail
    go_ret
    exact ⟨by simp; omega, Grew.refl _⟩
  · rw [decide_eq_false hb]
    go_enter Tryz.func15, Tryz.ntmps15
    go_wp2_with fail
    go_ret
    exact ⟨by simp; omega, Grew.refl _⟩
end Go.Proofs.YtpfncncohnhanaaGreatDoor


/- The draw of a frame and an axiom's name: l09Axiom, DrawAxiomHolds of the reference. -/
namespace Go.Proofs.YtpfncncohnhanaaGreatDoor
open Go.RowKit

def IntsB (w : World) (B : Nat) (v : Value) (L : List Int) : Prop := Ints w v L ∧ ∀ b o r n c, v = .slice (some ⟨b, o, r⟩) n c → B ≤ b
theorem IntsB.own {w : World} {B : Nat} {v : Value} {L : List Int} (h : OwnI w B v L) : IntsB w B v L := by
  refine ⟨h.ints, ?_⟩
  rintro b o r n c rfl
  rcases h.2 with ⟨he, _⟩ | ⟨g, c', cur, he, hB, _⟩
  · cases he
  · injection he with e1
    injection e1 with e1
    injection e1 with e1
    omega
theorem IntsB.base {w : World} {B B' : Nat} {v : Value} {L : List Int} (h : IntsB w B v L) (hb : B' ≤ B) : IntsB w B' v L := ⟨h.1, fun b o r n c he => Nat.le_trans hb (h.2 b o r n c he)⟩
theorem IntsB.grew {w w' : World} {B : Nat} {v : Value} {L : List Int} (h : IntsB w B v L) (hg : Grew w w') : IntsB w' B v L := ⟨h.1.grew hg, h.2⟩
theorem IntsB.only {w w' : World} {B g : Nat} {v : Value} {L : List Int} (h : IntsB w B v L) (ho : Only g w w') (hg : g < B) : IntsB w' B v L := by
  obtain ⟨⟨h1, h2, h3⟩, h4⟩ := h
  refine ⟨⟨h1, h2, ?_⟩, h4⟩
  rcases h3 with ⟨h5, h6⟩ | ⟨b, o, c, h5, h6, h7, h8, h9⟩
  · exact .inl ⟨h5, h6⟩
  · refine .inr ⟨b, o, c, h5, h6, h7, Nat.lt_of_lt_of_le h8 ho.size, fun j x hx => ?_⟩
    have hb := h4 b o none _ c h5
    exact (ho.cell (p := ⟨b, o + j, none⟩) h8 (by show b ≠ g; omega)).trans (h9 j x hx)
end Go.Proofs.YtpfncncohnhanaaGreatDoor


/- The draw of FnRefutingFrames: a name and a list of nodes of bounded length; only the shape is told. -/
namespace Go.Proofs.YtpfncncohnhanaaGreatDoor
open Go.RowKit
open Fm (Nd)

theorem l02Any_w (g : Nat) (cv : Value) (N : Nat) (sz vs : Int) (hz0 : 1 ≤ sz) (hz1 : sz ≤ 40) (hv0 : 1 ≤ vs) (hv1 : vs ≤ 6) (w : World) (h : Src w g cv N) :
    Calls Tryz.prog 56 #[.pointer (some ⟨g, 0, none⟩), .int .i64 sz, .int .i64 vs, .bool true] w (Bent w g cv N 47) := by
  have HS := Lib.hid h
  have hgl := h.lt
  clear h
  go_enter Tryz.func56, Tryz.ntmps56
  go_wp2_with fail
  refine (l02Draw_g g cv N vs hv0 hv1 40 sz _ (by omega) (by omega) (by omega) HS.out).mono ?_
  rintro e w1 ⟨v1, xs, rfl, ho1, he1, hl1, hS1, hw1⟩
  have HO1 := Lib.hid ho1
  have HS1 := Lib.hid hS1
  have hp1 := isEnc_pos he1
  clear ho1 hS1 he1
  go_wp2_with fail
  refine (l01Next_c g cv N 40 _ HS1.out (by omega)).mono ?_
  rintro e w2 ⟨r, rfl, hr0, hr1, _, hS2, ho2⟩
  have HO2 := Lib.hid (own_src HO1.out hgl ho2)
  have HS2 := Lib.hid hS2
  have hw2 := hw1.trans ho2
  clear hS2 ho2 HO1 HS1 hr1
  cases b0 : (r == 0) with
  | true =>
    go_wp2_with fail
    refine (l02Bend_c g cv N v1 xs _ HS2.out HO2.out.nodes hp1 (by omega)).mono ?_
    rintro e w3 ⟨v3, ys, rfl, ho3, hl3, hS3, hw3⟩
    go_wp2_with fail
    go_ret
    exact ⟨_, _, rfl, ho3.base hw2.size, by omega, hS3, hw2.trans hw3⟩
  | false =>
  cases b1 : (r == 1) with
  | false =>
    go_wp2_with fail
    go_ret
    exact ⟨_, _, rfl, HO2.out, by omega, HS2.out, hw2⟩
  | true =>
    go_wp2_with fail
    go_loopw [9] (fun vv wr => ∃ ys, Own wr w.heap.size vv ys ∧ ys.length ≤ 47 ∧ Src wr g cv N ∧ Only g w wr) (fun vv _ => 48 - slen vv)
    case atStart => exact ⟨xs, HO2.out, by omega, HS2.out, hw2⟩
    case round =>
      obtain ⟨ys, hO, hl, hS, hB⟩ := hrel
      obtain ⟨A, c, rfl⟩ := nodes_slice hO.nodes
      have HS := Lib.hid hS
      have HO := Lib.hid hO
      clear hS hO
      cases h40 : decide ((ys.length : Int) ≤ 40) with
      | false =>
        go_wp2_with fail
        go_ret
        exact ⟨_, _, rfl, HO.out, hl, HS.out, hB⟩
      | true =>
        simp only [decide_eq_true_eq] at h40
        go_wp2_with fail
        refine (l01Next_c g cv N 60 _ HS.out (by omega)).mono ?_
        rintro e w3 ⟨r3, rfl, _, _, _, hS3, ho3⟩
        have HO3 := Lib.hid (own_src HO.out hgl ho3)
        have HS3 := Lib.hid hS3
        have hw3 := hB.trans ho3
        clear hS3 ho3 HO HS hB
        by_cases h3 : 0 < r3
        · go_wp2_with fail
          refine (l01Next_c g cv N 3 _ HS3.out (by omega)).mono ?_
          rintro e w4 ⟨r4, rfl, hr40, hr41, _, hS4, ho4⟩
          have HO4 := Lib.hid (own_src HO3.out hgl ho4)
          have HS4 := Lib.hid hS4
          have hw4 := hw3.trans ho4
          have hr42 := hr41 (by omega)
          clear hS4 ho4 HO3 HS3 hw3 hr41
          go_wp2_with fail
          refine (l02Draw_g g cv N vs hv0 hv1 6 6 _ (by omega) (by omega) (by omega) HS4.out).mono ?_
          rintro e w5 ⟨v5, zs, rfl, ho5, he5, hl5, hS5, hw5⟩
          have HO5 := Lib.hid (own_src HO4.out hgl hw5)
          have HS5 := Lib.hid hS5
          have hw6 := hw4.trans hw5
          have hp5 := isEnc_pos he5
          clear hS5 HO4 HS4 hw4 he5
          go_wp2_with fail
          refine (l02Pair_c _ _ v5 ys zs _ HO5.out.nodes ho5.nodes (by omega)).mono ?_
          rintro e w7 ⟨v7, rfl, ho7, hg7⟩
          obtain ⟨A7, c7, rfl⟩ := nodes_slice ho7.nodes
          have HL7 := Lib.hid (show (Fm.join (2 + r4) ys zs).length = 1 + ys.length + zs.length by simp [Fm.join]; omega)
          go_wp2_with fail
          go_roundw
          case rel => exact ⟨_, ho7.base hw6.size, by rw [HL7.out]; omega, HS5.out.grew hg7, hw6.grew hg7⟩
          case measure => simp only [slen]; rw [HL7.out]; omega
        · go_wp2_with fail
          go_ret
          exact ⟨_, _, rfl, HO3.out, hl, HS3.out, hw3⟩
theorem l09Logic_c (g : Nat) (cv : Value) (N : Nat) (w : World) (h : Src w g cv N) :
    Calls Tryz.prog 54 #[.pointer (some ⟨g, 0, none⟩)] w fun e w' => ∃ s : ByteArray, e = .returned (.string s) ∧ Src w' g cv N ∧ Only g w w' := by
  have hgl := h.lt
  have HS := Lib.hid h
  clear h
  go_enter Tryz.func54, Tryz.ntmps54
  go_wp2_with fail
  refine (l01Next_c g cv N 30 _ HS.out (by omega)).mono ?_
  rintro e w1 ⟨r, rfl, _, _, _, hS1, ho1⟩
  have HS1 := Lib.hid hS1
  have hs1 := ho1.size
  clear hS1
  cases b0 : (r == 0) with
  | true =>
    have hga := (Grew.refl w1).alloc (.cells #[.string ⟨#[]⟩, .string ⟨#[76]⟩, .string ⟨#[83, 54]⟩, .string ⟨#[107]⟩] 9)
    have HC := Lib.hid (show ∀ k : Nat, k < 4 → ∃ s : ByteArray, (w1.alloc (.cells #[.string ⟨#[]⟩, .string ⟨#[76]⟩, .string ⟨#[83, 54]⟩, .string ⟨#[107]⟩] 9)).cell? ⟨w1.heap.size, k, none⟩ = some (.string s) from fun k hk => by
      match k, hk with
      | 0, _ => exact ⟨_, by simp; rfl⟩
      | 1, _ => exact ⟨_, by simp; rfl⟩
      | 2, _ => exact ⟨_, by simp; rfl⟩
      | 3, _ => exact ⟨_, by simp; rfl⟩)
    have HX := Lib.hid (show w1.heap.size < (w1.alloc (.cells #[.string ⟨#[]⟩, .string ⟨#[76]⟩, .string ⟨#[83, 54]⟩, .string ⟨#[107]⟩] 9)).heap.size from by simp)
    have HN := Lib.hid (l01Next_c g cv N 4 _ (HS1.out.grew hga) (by omega))
    have hUa := ho1.grew hga
    clear hga
    go_wp2_with fail
    refine HN.out.mono ?_
    rintro e w2 ⟨q, rfl, hq0, hq1, _, hS2, ho2⟩
    have hq2 := hq1 (by omega)
    obtain ⟨k, rfl⟩ : ∃ n : Nat, q = n := ⟨q.toNat, by omega⟩
    obtain ⟨s, hs⟩ := HC.out k (by omega)
    have hcx := (ho2.cell (p := ⟨w1.heap.size, k, none⟩) HX.out (by show w1.heap.size ≠ g; omega)).trans hs
    have HS2 := Lib.hid hS2
    clear hs hS2 hq1 HN
    go_wp2_with fail
    go_ret
    exact ⟨_, rfl, HS2.out, hUa.trans ho2⟩
  | false =>
    go_wp2_with fail
    refine (l09Logics_c _).mono ?_
    rintro e w2 ⟨v2, rfl, hO2, hg2⟩
    rcases hO2.strs.open_ with ⟨rfl, h0⟩ | ⟨b, o, c, rfl, hc, hm, hb, hcell⟩
    · cases h0
    have hbg := own_of_ge hO2 (g := b) (by first | rfl | exact (by
      rcases hO2.2 with ⟨he, _⟩ | ⟨g', c', cur, he, _⟩
      · cases he
      · injection he with e1; injection e1 with e1; injection e1 with e1 e2; subst e1; rw [e2]; rfl))
    rw [lgNames_len] at hc hcell ⊢
    have HC := Lib.hid (fun k hk => hcell k hk w2 (Grew.refl _))
    have HN := Lib.hid (l01Next_c g cv N 16 _ (HS1.out.grew hg2) (by omega))
    have hUa := ho1.grew hg2
    clear hcell hO2
    go_wp2_with fail
    refine HN.out.mono ?_
    rintro e w3 ⟨q, rfl, hq0, hq1, _, hS3, ho3⟩
    have hq2 := hq1 (by omega)
    obtain ⟨k, rfl⟩ : ∃ n : Nat, q = n := ⟨q.toNat, by omega⟩
    have hcx := (ho3.cell (p := ⟨b, o + k, none⟩) hb (by show b ≠ g; omega)).trans (HC.out k (by omega))
    have HS3 := Lib.hid hS3
    clear hS3 hq1 HN
    go_wp2_with fail
    go_ret
    exact ⟨_, rfl, HS3.out, hUa.trans ho3⟩


def RhDrawn (w : World) (e : Ending) (w' : World) : Prop := ∃ v xs s, e = .returned (.tuple #[.string s, v]) ∧ Nodes w' v xs ∧ xs.length ≤ 47 ∧ Grew w w'
set_option maxHeartbeats 2000000 in
theorem drawRefuting_c (v : Value) (N : Nat) (w : World) (h : ArgB w v N) (hN : N ≤ 4096) :
    Calls Tryz.prog 21 #[v] w (RhDrawn w) := by
  have HF := Lib.hid (l01From_c v N w h hN)
  clear h
  go_enter Tryz.func21, Tryz.ntmps21
  go_wp2_with fail
  refine (HF.out).mono ?_
  rintro e w1 ⟨g, rfl, hgw, hS1, hg1⟩
  have HS1 := Lib.hid hS1
  have hgl := hS1.lt
  clear hS1 HF
  go_wp2_with fail
  refine (l09Logic_c g v N w1 HS1.out).mono ?_
  rintro e w2 ⟨s, rfl, hS2, ho2⟩
  have HS2 := Lib.hid hS2
  have hgl2 := hS2.lt
  clear hS2
  have hG : ∀ W, Only g w1 W → Grew w W := fun W hW => hW.grew_of hg1 hgw
  have HG := Lib.hid hG
  clear hG
  go_wp2_with fail
  refine (l01Next_c g v N 30 _ HS2.out (by omega)).mono ?_
  rintro e w3 ⟨r3, rfl, _, _, _, hS3, ho3⟩
  have HS3 := Lib.hid hS3
  have hw3 := ho2.trans ho3
  clear hS3 ho2 ho3
  cases b3 : (r3 == 0) with
  | true =>
    go_wp2_with fail
    refine (l02Any_w g v N 40 6 (by omega) (by omega) (by omega) (by omega) _ HS3.out).mono ?_
    rintro e w4 ⟨v4, xs, rfl, hO4, hl4, hS4, ho4⟩
    have HO4 := Lib.hid hO4
    have HG4 := Lib.hid (HG.out _ (hw3.trans ho4))
    obtain ⟨A4, c4, rfl⟩ := nodes_slice hO4.nodes
    clear hO4 hS4 ho4
    go_wp2_with fail
    go_ret2
    exact ⟨_, xs, _, rfl, HO4.out.nodes, hl4, HG4.out⟩
  | false =>
    go_wp2_with fail
    refine (l01Next_c g v N 3 _ HS3.out (by omega)).mono ?_
    rintro e w4 ⟨r4, rfl, _, _, _, hS4, ho4⟩
    have HS4 := Lib.hid hS4
    have hw4 := hw3.trans ho4
    clear hS4 ho4 hw3
    cases b4 : (r4 == 0) with
    | false =>
      go_wp2_with fail
      refine (l02Any_w g v N 9 2 (by omega) (by omega) (by omega) (by omega) _ HS4.out).mono ?_
      rintro e w5 ⟨v5, xs, rfl, hO5, hl5, hS5, ho5⟩
      have HO5 := Lib.hid hO5
      have HG5 := Lib.hid (HG.out _ (hw4.trans ho5))
      obtain ⟨A5, c5, rfl⟩ := nodes_slice hO5.nodes
      clear hO5 hS5 ho5
      go_wp2_with fail
      go_ret2
      exact ⟨_, xs, _, rfl, HO5.out.nodes, hl5, HG5.out⟩
    | true =>
      go_wp2_with fail
      refine (l09Names_c _).mono ?_
      rintro e w5 ⟨v5, rfl, hO5, hg5⟩
      rcases hO5.strs.open_ with ⟨rfl, h0⟩ | ⟨b, o, c, rfl, hc, hm, hb, hcell⟩
      · cases h0
      have hbg := own_of_ge hO5 (g := b) (by first | rfl | exact (by
        rcases hO5.2 with ⟨he, _⟩ | ⟨g', c', cur, he, _⟩
        · cases he
        · injection he with e1; injection e1 with e1; injection e1 with e1 e2; subst e1; rw [e2]; rfl))
      rw [axNames_len] at hc hcell ⊢
      have HC := Lib.hid (fun k hk => hcell k hk w5 (Grew.refl _))
      have HN := Lib.hid (l01Next_c g v N 13 _ (HS4.out.grew hg5) (by omega))
      have hU5 := hw4.grew hg5
      have hgl4 := HS4.out.lt
      clear hcell hO5
      go_wp2_with fail
      refine HN.out.mono ?_
      rintro e w6 ⟨q, rfl, hq0, hq1, _, hS6, ho6⟩
      have hq2 := hq1 (by omega)
      obtain ⟨k, rfl⟩ : ∃ n : Nat, q = n := ⟨q.toNat, by omega⟩
      have hcx := (ho6.cell (p := ⟨b, o + k, none⟩) hb (by show b ≠ g; omega)).trans (HC.out k (by omega))
      have hU6 := hU5.trans ho6
      have hk13 : k < 13 := by omega
      have HFm := Lib.hid (l09Formula_c (st axNames k) k w6 hk13 (findS_ax hk13))
      have hal := Lib.hid (axTree_len hk13)
      clear hS6 hq1 HN hU5 ho6
      generalize st axNames k = t at *
      go_wp2_with fail
      refine HFm.out.mono ?_
      rintro e w7 ⟨v7, rfl, hO7, hg7⟩
      have HO7 := Lib.hid hO7
      have HG7 := Lib.hid (HG.out _ (hU6.grew hg7))
      obtain ⟨A7, c7, rfl⟩ := nodes_slice hO7.nodes
      clear hO7
      go_wp2_with fail
      go_ret2
      exact ⟨_, _, _, rfl, HO7.out.nodes, Nat.le_trans hal.out.1 (by omega), HG7.out⟩
end Go.Proofs.YtpfncncohnhanaaGreatDoor


/- Lists of lists of nodes: slices.ContainsFunc over them; areFormulas. -/
namespace Go.Proofs.YtpfncncohnhanaaGreatDoor
open Go.RowKit
open Fm (Nd Tree)

def nl (Ls : List (List Nd)) (i : Nat) : List Nd := Ls.getD i []
def NL (w : World) (v : Value) (Ls : List (List Nd)) : Prop :=
  ∃ b o c, v = .slice (some ⟨b, o, none⟩) Ls.length c ∧ Ls.length ≤ c ∧ c ≤ 9223372036854775807 ∧
    ∀ i, i < Ls.length → ∃ u, (∀ W, Grew w W → W.cell? ⟨b, o + i, none⟩ = some u) ∧ Nodes w u (nl Ls i)
theorem NL.grew {w w' : World} {v : Value} {Ls : List (List Nd)} (h : NL w v Ls) (hg : Grew w w') : NL w' v Ls := by
  obtain ⟨b, o, c, h1, h2, h3, h4⟩ := h
  refine ⟨b, o, c, h1, h2, h3, fun i hi => ?_⟩
  obtain ⟨u, k1, k2⟩ := h4 i hi
  exact ⟨u, fun W hW => k1 W (hg.trans hW), k2.grew hg⟩
theorem NL.one {w : World} {T : TypeId} {u : Value} {xs : List Nd} (h : Nodes w u xs) : NL (w.alloc (.cells #[u] T)) (.slice (some ⟨w.heap.size, 0, none⟩) 1 1) [xs] := by
  refine ⟨w.heap.size, 0, 1, rfl, Nat.le_refl _, by omega, fun i hi => ?_⟩
  obtain rfl : i = 0 := by simpa using hi
  exact ⟨u, fun W hW => (hW.cell (p := ⟨w.heap.size, 0 + 0, none⟩) (by simp)).trans (by simp), h.grew ((Grew.refl w).alloc _)⟩
theorem NL.two {w : World} {T : TypeId} {u u2 : Value} {xs ys : List Nd} (h : Nodes w u xs) (h2 : Nodes w u2 ys) : NL (w.alloc (.cells #[u, u2] T)) (.slice (some ⟨w.heap.size, 0, none⟩) 2 2) [xs, ys] := by
  refine ⟨w.heap.size, 0, 2, rfl, Nat.le_refl _, by omega, fun i hi => ?_⟩
  have hi2 : i < 2 := by simpa using hi
  match i, hi2 with
  | 0, _ => exact ⟨u, fun W hW => (hW.cell (p := ⟨w.heap.size, 0 + 0, none⟩) (by simp)).trans (by simp), h.grew ((Grew.refl w).alloc _)⟩
  | 1, _ => exact ⟨u2, fun W hW => (hW.cell (p := ⟨w.heap.size, 0 + 1, none⟩) (by simp)).trans (by simp), h2.grew ((Grew.refl w).alloc _)⟩

def NoneN (p : List Nd → Bool) (Ls : List (List Nd)) (k : Nat) : Prop := ∀ i, i < k → p (nl Ls i) = false
theorem NoneN.zero (p : List Nd → Bool) (Ls : List (List Nd)) : NoneN p Ls 0 := fun i hi => absurd hi (by omega)
theorem NoneN.succ {p : List Nd → Bool} {Ls : List (List Nd)} {k : Nat} (h : NoneN p Ls k) (h1 : p (nl Ls k) = false) : NoneN p Ls (k + 1) := by
  intro i hi
  rcases Nat.lt_or_ge i k with hk | hk
  · exact h i hk
  · obtain rfl : i = k := by omega
    exact h1
theorem nl_get {Ls : List (List Nd)} {i : Nat} (h : i < Ls.length) : Ls[i] = nl Ls i := by simp [nl, List.getD, h]
theorem noneN_any {p : List Nd → Bool} {Ls : List (List Nd)} (h : NoneN p Ls Ls.length) : Ls.any p = false := by
  rw [List.any_eq_false]
  intro x hx
  obtain ⟨i, hi, rfl⟩ := List.getElem_of_mem hx
  rw [nl_get hi, h i hi]
  simp
theorem anyN_at {p : List Nd → Bool} {Ls : List (List Nd)} {k : Nat} (hk : k < Ls.length) (h : p (nl Ls k) = true) : Ls.any p = true := by
  rw [List.any_eq_true]
  exact ⟨Ls[k], List.getElem_mem hk, by rw [nl_get hk]; exact h⟩
theorem indexFuncN_c (v : Value) (Ls : List (List Nd)) (f : Nat) (p : List Nd → Bool) (w : World) (h : NL w v Ls)
    (hf : ∀ i, i < Ls.length → ∀ u W, Nodes W u (nl Ls i) → Calls Tryz.prog f #[u] W fun e W' => e = .returned (.bool (p (nl Ls i))) ∧ Grew W W') (eg : ∀ args w, (callFunc f args).run Tryz.prog w = .ok (.enter f args) w) :
    Calls Tryz.prog 172 #[v, .func (.func f) #[] #[]] w fun e w' => ∃ r : Int, e = .returned (.int .i64 r) ∧ Grew w w' ∧ decide (0 ≤ r) = Ls.any p := by
  obtain ⟨b, o, c, rfl, hc, hm, hcell⟩ := h
  obtain ⟨R, hR⟩ : ∃ R, R = Ls.any p := ⟨_, rfl⟩
  rw [← hR]
  have HA := Lib.hid (fun k hk h => hR.trans (@anyN_at p Ls k hk h))
  have HZ := Lib.hid (fun h => hR.trans (@noneN_any p Ls h))
  have HC := Lib.hid hcell
  have HF := Lib.hid hf
  clear hcell hf hR
  generalize hN : Ls.length = n at *
  clear hN
  go_enter Tryz.func172, Tryz.ntmps172
  go_wp2_with fail
  go_loopw [5, 8] (fun _ i wr => ∃ j : Nat, j ≤ n ∧ i = .int .i64 j ∧ Grew w wr ∧ Hid (NoneN p Ls j)) (fun _ i _ => n - (intOf i).toNat)
  case atStart => exact ⟨0, Nat.zero_le _, rfl, Grew.refl _, NoneN.zero _ _⟩
  case round =>
    obtain ⟨j, hj, rfl, hB, HJ⟩ := hrel
    by_cases hlt : j < n
    · obtain ⟨u, k0, hd⟩ := HC.out j hlt
      have k1 := k0 _ hB
      have hz := Lib.hid (fun W (hW : Grew w W) => HF.out j hlt u W (hd.grew hW))
      have hA := Lib.hid (HA.out j hlt)
      have hS := Lib.hid (fun h => HJ.out.succ (k := j) h)
      obtain ⟨A, c', rfl⟩ := nodes_slice hd
      clear k0 hd
      generalize nl Ls j = x at *
      go_wp2_with fail
      go_at_fn f
      refine (hz.out _ hB).mono ?_
      rintro e w1 ⟨rfl, hg1⟩
      have hB1 := hB.trans hg1
      cases hp : p x with
      | true =>
        have hv := hA.out hp
        go_wp2_with fail
        go_ret
        exact ⟨_, rfl, hB1, by rw [hv]; simp⟩
      | false =>
        have hs := Lib.hid (hS.out hp)
        go_wp2_with fail
        go_roundw
        case rel => exact ⟨j + 1, by omega, by go_num, hB1, hs⟩
        case measure => simp [intOf]; omega
    · obtain rfl : j = n := by omega
      have hv := Lib.hid (HZ.out HJ.out)
      go_wp2_with fail
      go_ret
      exact ⟨_, rfl, hB, by rw [hv.out]; rfl⟩

theorem containsFuncN_c (v : Value) (Ls : List (List Nd)) (f : Nat) (p : List Nd → Bool) (w : World) (h : NL w v Ls)
    (hf : ∀ i, i < Ls.length → ∀ u W, Nodes W u (nl Ls i) → Calls Tryz.prog f #[u] W fun e W' => e = .returned (.bool (p (nl Ls i))) ∧ Grew W W') (eg : ∀ args w, (callFunc f args).run Tryz.prog w = .ok (.enter f args) w) :
    Calls Tryz.prog 144 #[v, .func (.func f) #[] #[]] w fun e w' => e = .returned (.bool (Ls.any p)) ∧ Grew w w' := by
  have HI := Lib.hid (indexFuncN_c v Ls f p w h hf eg)
  clear h hf eg
  generalize Ls.any p = R at *
  go_enter Tryz.func144, Tryz.ntmps144
  go_wp2_with fail
  refine HI.out.mono ?_
  rintro e w1 ⟨r, rfl, hg1, hr⟩
  go_wp2_with fail
  go_ret
  exact ⟨by rw [← hr]; rfl, hg1⟩


noncomputable def badF (xs : List Nd) : Bool := !fmB xs
theorem badF_le {xs : List Nd} (h : badF xs = false) : 1 ≤ xs.length ∧ xs.length ≤ 40 := by
  unfold badF fmB at h
  simp only [Bool.not_eq_false', Bool.and_eq_true, decide_eq_true_eq] at h
  exact h.1.1
theorem areF1_c (u : Value) (xs : List Nd) (W : World) (h : Nodes W u xs) (hn : xs.length ≤ 1099511627776) : Calls Tryz.prog 145 #[u] W fun e W' => e = .returned (.bool (badF xs)) ∧ Grew W W' := by
  have K := Lib.hid (isFormula_g u xs W h hn)
  obtain ⟨A, c, rfl⟩ := nodes_slice h
  unfold badF
  clear h
  generalize fmB xs = d at *
  go_enter Tryz.func145, Tryz.ntmps145
  go_wp2_with fail
  refine (K.out).mono ?_
  rintro e w1 ⟨rfl, hg1⟩
  go_wp2_with fail
  go_ret
  exact ⟨rfl, hg1⟩
theorem areFormulas_c (v : Value) (Ls : List (List Nd)) (w : World) (h : NL w v Ls) (hf : ∀ i, i < Ls.length → (nl Ls i).length ≤ 1099511627776) :
    Calls Tryz.prog 96 #[v] w fun e w' => e = .returned (.bool (!Ls.any badF)) ∧ Grew w w' := by
  have e1 : ∀ args w, (callFunc 145 args).run Tryz.prog w = .ok (.enter 145 args) w := enters_of Tryz.func145 (by kernel_rfl) rfl
  have K1 := Lib.hid (containsFuncN_c v Ls 145 badF w h (fun i hi u W hu => areF1_c u _ W hu (hf i hi)) e1)
  clear h hf e1
  generalize Ls.any badF = R at *
  go_enter Tryz.func96, Tryz.ntmps96
  go_wp2_with fail
  refine (K1.out).mono ?_
  rintro e w1 ⟨rfl, hg1⟩
  go_wp2_with fail
  go_ret
  exact ⟨rfl, hg1⟩
end Go.Proofs.YtpfncncohnhanaaGreatDoor


/- searchCode and IsValidOn of the program, at a frame and a formula that fit. -/
namespace Go.Proofs.YtpfncncohnhanaaGreatDoor
open Go.RowKit
open Fm (Nd Tree)

set_option maxHeartbeats 2000000 in
set_option maxRecDepth 100000 in
theorem searchCode0_c (n : Int) (b : Nat) (v va : Value) (L : List Int) (xs : List Nd) (w : World) (h : Ints w v L) (ha : Nodes w va xs) (hc : w.cell? ⟨b, 0, none⟩ = some va) (hb : b < w.heap.size) (hfr : frB n L = true) (hvs : Vs xs) (hg : badF xs = false) (hfit : L.length * (mbs (vm xs)).length ≤ 16) :
    Calls Tryz.prog 53 #[.agg #[.int .i64 n, v], .slice (some ⟨b, 0, none⟩) 1 1] w fun e w' => e = .returned (.int .i64 0) ∧ Grew w w' := by
  obtain ⟨rfl, h8, _, _⟩ := frB_ok hfr
  have hn40 := (badF_le hg).2
  have hNL : NL w (.slice (some ⟨b, 0, none⟩) 1 1) [xs] := ⟨b, 0, 1, rfl, Nat.le_refl _, by omega, fun i hi => by
    obtain rfl : i = 0 := by simpa using hi
    exact ⟨va, fun W hW => (hW.cell (p := ⟨b, 0 + 0, none⟩) hb).trans hc, ha⟩⟩
  have HF := Lib.hid (fun W (hW : Grew w W) => areFormulas_c _ [xs] W (hNL.grew hW) (fun i hi => by
    obtain rfl : i = 0 := by simpa using hi
    show xs.length ≤ _
    omega))
  rw [show (!([xs] : List (List Nd)).any badF) = true from by simp [hg]] at HF
  have HI := Lib.hid (fun W (hW : Grew w W) => isFrame_c (L.length : Int) v L W (h.grew hW))
  rw [hfr] at HI
  have HV := Lib.hid (fun W (hW : Grew w W) => variablesIn_one_c b va xs W ((hW.cell (p := ⟨b, 0, none⟩) hb).trans hc) (Nat.lt_of_lt_of_le hb hW.size) (ha.grew hW) hvs (by omega))
  unfold GivesI at HV
  have hal := (Grew.refl w).alloc (.cells #[.int .i64 (L.length : Int), v] 26)
  have y0 : ∀ W, Grew (w.alloc (.cells #[.int .i64 (L.length : Int), v] 26)) W → W.cell? ⟨w.heap.size, 0, none⟩ = some (.int .i64 (L.length : Int)) := fun W hW => (hW.cell (p := ⟨w.heap.size, 0, none⟩) (by simp)).trans (by simp)
  have y1 : ∀ W, Grew (w.alloc (.cells #[.int .i64 (L.length : Int), v] 26)) W → W.cell? ⟨w.heap.size, 1, none⟩ = some v := fun W hW => (hW.cell (p := ⟨w.heap.size, 1, none⟩) (by simp)).trans (by simp)
  have HG := Lib.hid hal
  have r1 := Grew.refl (w.alloc (.cells #[.int .i64 (L.length : Int), v] 26))
  have hzl : (zs (mbs (vm xs))).length = (mbs (vm xs)).length := zs_len _
  rw [← hzl] at hfit
  obtain ⟨M, hM⟩ : ∃ M, M = zs (mbs (vm xs)) := ⟨_, rfl⟩
  rw [← hM] at hfit HV
  have hmul : wrap64 ((L.length : Int) * (M.length : Int)) = ((L.length * M.length : Nat) : Int) := by rw [← Int.natCast_mul, wrap64]; omega
  have hgt : decide ((16 : Int) < IntKind.i64.wrap ((L.length : Int) * (M.length : Int))) = false := by rw [IntKind.wrap_i64, decide_eq_false_iff_not, ← Int.natCast_mul]; omega
  clear hmul
  obtain ⟨A, c, rfl⟩ := ints_slice h
  clear h ha hc hfr hvs hg hal hNL hzl hM hn40 hfit
  generalize L.length = m at *
  go_enter Tryz.func53, Tryz.ntmps53
  go_wp2_with fail
  refine (HI.out _ HG.out).mono ?_
  rintro e w1 ⟨rfl, hg1⟩
  go_wp2_with fail
  refine (HF.out _ (HG.out.trans hg1)).mono ?_
  rintro e w2 ⟨rfl, hg2⟩
  have hg12 := hg1.trans hg2
  have h2 := HG.out.trans hg12
  have z0 := fun W (hW : Grew w2 W) => y0 W (hg12.trans hW)
  have z1 := fun W (hW : Grew w2 W) => y1 W (hg12.trans hW)
  have r2 := Grew.refl w2
  have r2d := r2.drew
  clear y0 y1 r1
  go_wp2_with fail
  refine wp_region_held_drew (S := fun w' => Grew w2 w') (by kernel_rfl) r2d (fun hHeld => ?_)
  refine wpAnyH_take (i := 0) (oi := ?on1) (v := ?vn1) ?hin1 ?an1 ?bn1 ?cn1 ?qn1 (Or.inl ⟨?dn1, ?hyn1⟩) hHeld ?restn1
  case hin1 => (simp only [List.getElem?_toArray, List.getElem?_cons_zero]; exact rfl)
  case an1 => kernel_rfl
  case bn1 => kernel_rfl
  case cn1 => kernel_rfl
  case qn1 => exact fun _ _ _ h => h
  case dn1 => rfl
  case hyn1 => (intro z hSw; (try dsimp only at hSw); go_simp; (try with_reducible rfl))
  try simp only [Act.put, List.setIfInBounds_toArray, List.set_cons_zero, List.set_cons_succ]
  refine wpAnyH_take (i := 1) (oi := ?on2) (v := ?vn2) ?hin2 ?an2 ?bn2 ?cn2 ?qn2 (Or.inl ⟨?dn2, ?hyn2⟩) hHeld ?restn2
  case hin2 => (simp only [List.getElem?_toArray, List.getElem?_cons_succ, List.getElem?_cons_zero]; exact rfl)
  case an2 => kernel_rfl
  case bn2 => kernel_rfl
  case cn2 => kernel_rfl
  case qn2 => exact fun _ _ _ h => h
  case dn2 => rfl
  case hyn2 => (intro z hSw; (try dsimp only at hSw); go_simp; (try with_reducible rfl))
  try simp only [Act.put, List.setIfInBounds_toArray, List.set_cons_zero, List.set_cons_succ]
  refine wpAnyH_take (i := 2) (oi := ?on3) (v := ?vn3) ?hin3 ?an3 ?bn3 ?cn3 ?qn3 (Or.inl ⟨?dn3, ?hyn3⟩) hHeld ?restn3
  case hin3 => (simp only [List.getElem?_toArray, List.getElem?_cons_succ, List.getElem?_cons_zero]; exact rfl)
  case an3 => kernel_rfl
  case bn3 => kernel_rfl
  case cn3 => kernel_rfl
  case qn3 => exact fun _ _ _ h => h
  case dn3 => rfl
  case hyn3 => (intro z hSw; (try dsimp only at hSw); go_simp; (try with_reducible rfl))
  try simp only [Act.put, List.setIfInBounds_toArray, List.set_cons_zero, List.set_cons_succ]
  refine wpAnyH_ready (rs := [3]) (by kernel_rfl) (by simp) ?_
  refine AllReadyH.cons (o := ?on4) ?hin4 ?restn4 AllReadyH.nil
  case hin4 => (simp only [List.getElem?_toArray, List.getElem?_cons_succ, List.getElem?_cons_zero]; exact rfl)
  intro K hK
  go_simp
  go_at_call 35
  refine (HV.out _ (h2.drewN _)).mono ?_
  rintro e w3 ⟨vv, rfl, ho3, hg3⟩
  have h3 : Grew w2 w3 := Grew.trans (by repeat (first | with_reducible assumption | with_reducible refine Grew.alloc ?_ _ | with_reducible refine Grew.drew ?_ | with_reducible refine Grew.drewN ?_ _)) hg3
  obtain ⟨A3, c3, rfl⟩ := ints_slice ho3.ints
  have HS3 := Lib.hid (fun W hW => size_q _ _ W (ho3.ints.grew hW))
  refine hK.out _ _ ?_ (fun hHeld => ?_)
  · (try dsimp only); first | with_reducible assumption | exact Grew.alloc ‹_› _
  clear hK K
  try simp only [Act.put, List.setIfInBounds_toArray, List.set_cons_zero, List.set_cons_succ]
  refine wpAnyH_ready (rs := [4]) (by kernel_rfl) (by simp) ?_
  refine AllReadyH.cons (o := ?on5) ?hin5 ?restn5 AllReadyH.nil
  case hin5 => (simp only [List.getElem?_toArray, List.getElem?_cons_succ, List.getElem?_cons_zero]; exact rfl)
  intro K hK
  go_simp
  go_at_call 89
  refine (HS3.out _ (by first | exact Grew.refl _ | exact (Grew.refl _).drew | exact (Grew.refl _).drewN _)).mono ?_
  rintro e w4 ⟨rfl, hw4⟩
  have h4 : Grew w2 w4 := by subst hw4; first | exact h3 | exact h3.drew | exact h3.drewN _
  refine hK.out _ _ ?_ (fun hHeld => ?_)
  · (try dsimp only); first | with_reducible assumption | exact Grew.alloc ‹_› _
  clear hK K
  try simp only [Act.put, List.setIfInBounds_toArray, List.set_cons_zero, List.set_cons_succ]
  refine wpAnyH_take (i := 5) (oi := ?on6) (v := ?vn6) ?hin6 ?an6 ?bn6 ?cn6 ?qn6 (Or.inl ⟨?dn6, ?hyn6⟩) hHeld ?restn6
  case hin6 => (simp only [List.getElem?_toArray, List.getElem?_cons_succ, List.getElem?_cons_zero]; exact rfl)
  case an6 => kernel_rfl
  case bn6 => kernel_rfl
  case cn6 => kernel_rfl
  case qn6 => exact fun _ _ _ h => h
  case dn6 => rfl
  case hyn6 => (intro z hSw; (try dsimp only at hSw); go_simp; (try with_reducible rfl))
  try simp only [Act.put, List.setIfInBounds_toArray, List.set_cons_zero, List.set_cons_succ]
  refine wpAnyH_take (i := 6) (oi := ?on7) (v := ?vn7) ?hin7 ?an7 ?bn7 ?cn7 ?qn7 (Or.inl ⟨?dn7, ?hyn7⟩) hHeld ?restn7
  case hin7 => (simp only [List.getElem?_toArray, List.getElem?_cons_succ, List.getElem?_cons_zero]; exact rfl)
  case an7 => kernel_rfl
  case bn7 => kernel_rfl
  case cn7 => kernel_rfl
  case qn7 => exact fun _ _ _ h => h
  case dn7 => rfl
  case hyn7 => (intro z hSw; (try dsimp only at hSw); go_simp; (try with_reducible rfl))
  try simp only [Act.put, List.setIfInBounds_toArray, List.set_cons_zero, List.set_cons_succ]
  refine wpAnyH_take (i := 7) (oi := ?on8) (v := ?vn8) ?hin8 ?an8 ?bn8 ?cn8 ?qn8 (Or.inl ⟨?dn8, ?hyn8⟩) hHeld ?restn8
  case hin8 => (simp only [List.getElem?_toArray, List.getElem?_cons_succ, List.getElem?_cons_zero]; exact rfl)
  case an8 => kernel_rfl
  case bn8 => kernel_rfl
  case cn8 => kernel_rfl
  case qn8 => exact fun _ _ _ h => h
  case dn8 => rfl
  case hyn8 => (intro z hSw; (try dsimp only at hSw); go_simp; (try with_reducible rfl))
  try simp only [Act.put, List.setIfInBounds_toArray, List.set_cons_zero, List.set_cons_succ]
  refine wpAnyH_done (by kernel_rfl) ?_ _
  go_wp2_with fail
  go_ret
  exact ⟨rfl, h2.trans h4⟩
theorem validOn_c (n : Int) (v va : Value) (L : List Int) (t : Tree) (w : World) (h : Ints w v L) (ha : Nodes w va (Fm.enc t)) (hfr : frB n L = true) (hvs : Vs (Fm.enc t)) (hg : badF (Fm.enc t) = false) (hfit : L.length * (mbs (vm (Fm.enc t))).length ≤ 16) :
    Calls Tryz.prog 20 #[.agg #[.int .i64 n, v], va] w (GivesBC w (vldB (nats L) (mbs (vm (Fm.enc t))) t, 0)) := by
  unfold GivesBC
  have hn40 := (badF_le hg).2
  obtain ⟨rfl, h8, hz, hA⟩ := frB_ok hfr
  have HS := Lib.hid (fun b W (hW : Grew w W) hc hb => searchCode0_c (L.length : Int) b v va L (Fm.enc t) W (h.grew hW) (ha.grew hW) hc hb hfr hvs hg hfit)
  have HV := Lib.hid (fun W (hW : Grew w W) => frameValid_c v va (nats L) t W (by rw [hz]; exact h.grew hW) (ha.grew hW) hA (by rw [nats_len]; exact h8) hvs (by omega) (by rw [nats_len]; exact hfit))
  rw [nats_len] at HV
  have hal := (Grew.refl w).alloc (.cells #[.int .i64 (L.length : Int), v] 26)
  have y0 : ∀ W, Grew (w.alloc (.cells #[.int .i64 (L.length : Int), v] 26)) W → W.cell? ⟨w.heap.size, 0, none⟩ = some (.int .i64 (L.length : Int)) := fun W hW => (hW.cell (p := ⟨w.heap.size, 0, none⟩) (by simp)).trans (by simp)
  have y1 : ∀ W, Grew (w.alloc (.cells #[.int .i64 (L.length : Int), v] 26)) W → W.cell? ⟨w.heap.size, 1, none⟩ = some v := fun W hW => (hW.cell (p := ⟨w.heap.size, 1, none⟩) (by simp)).trans (by simp)
  have HG := Lib.hid hal
  have r1 := Grew.refl (w.alloc (.cells #[.int .i64 (L.length : Int), v] 26))
  obtain ⟨A, c, rfl⟩ := ints_slice h
  obtain ⟨A2, c2, rfl⟩ := nodes_slice ha
  clear h ha hfr hvs hg hal hz hA hfit hn40 h8
  generalize vldB (nats L) (mbs (vm (Fm.enc t))) t = R at *
  generalize (Fm.enc t).length = m2 at *
  generalize L.length = m at *
  go_enter Tryz.func20, Tryz.ntmps20
  go_wp2_with fail
  refine (HS.out _ _ (HG.out.alloc _) (by simp) (by simp)).mono ?_
  rintro e w1 ⟨rfl, hg1⟩
  have hg1' := Grew.of_alloc hg1
  go_wp2_with fail
  refine (HV.out _ (HG.out.trans hg1')).mono ?_
  rintro e w2 ⟨rfl, hg2⟩
  go_wp2_with fail
  go_ret2
  exact ⟨rfl, HG.out.trans (hg1'.trans hg2)⟩
end Go.Proofs.YtpfncncohnhanaaGreatDoor


/- The law FnRefutingFrames, walked. -/
namespace Go.Proofs.YtpfncncohnhanaaGreatDoor
open Go.RowKit
open Fm (Nd Tree)

theorem firstG_spec {k : Nat} {t : Tree} : ∀ {P : List (List Nat)} {c : Int} {R : List Nat}, firstG k t P = (c, R) → (c = 4 ∧ R = []) ∨ (c = 0 ∧ rfgB k t R = true ∧ ∃ X Y, P = X ++ R :: Y ∧ ∀ B ∈ X, rfgB k t B = false)
  | [], c, R, h => by
    have h' : ((4 : Int), ([] : List Nat)) = (c, R) := h
    injection h' with h1 h2
    exact .inl ⟨h1.symm, h2.symm⟩
  | A :: P, c, R, h => by
    have h' : (if rfgB k t A = true then ((0 : Int), A) else firstG k t P) = (c, R) := h
    by_cases ha : rfgB k t A = true
    · rw [if_pos ha] at h'
      injection h' with h1 h2
      subst h2
      exact .inr ⟨h1.symm, ha, [], P, rfl, fun B hB => by cases hB⟩
    · rw [if_neg ha] at h'
      rcases firstG_spec h' with h1 | ⟨h1, h2, X, Y, h3, h4⟩
      · exact .inl h1
      · refine .inr ⟨h1, h2, A :: X, Y, by rw [h3]; rfl, fun B hB => ?_⟩
        rcases List.mem_cons.1 hB with rfl | hB
        · simpa using ha
        · exact h4 B hB
theorem sfrs_pw : ∀ k, (sfrs k).Pairwise fun A B => A.length ≤ B.length := by
  intro k
  unfold sfrs
  rw [List.pairwise_flatMap]
  refine ⟨fun n _ => ?_, ?_⟩
  · refine List.Pairwise.imp_of_mem ?_ (frs_asc n)
    intro A B hA hB _
    rw [(frs_mem.1 hA).1, (frs_mem.1 hB).1]
    exact Nat.le_refl _
  · refine List.pairwise_lt_range.imp fun {a b} hab => ?_
    intro A hA B hB
    rw [(frs_mem.1 hA).1, (frs_mem.1 hB).1]
    exact Nat.le_of_lt hab
theorem rgF_nz {s : ByteArray} {xs : List Nd} {c : Int} {R : List Nat} (h : rgF s xs = (c, R)) (hc : c ≠ 0) : R = [] := by
  cases hf : fmB xs with
  | false => rw [rgF_bad hf] at h; injection h with _ h; exact h.symm
  | true =>
    rcases findS_range lgNames s with h2 | ⟨k, hk, h2⟩
    · rw [rgF_name hf h2] at h; injection h with _ h; exact h.symm
    · by_cases h3 : 3 < (mbs (vm xs)).length
      · rw [rgF_many hf h2 h3] at h; injection h with _ h; exact h.symm
      · obtain ⟨t, rfl, _⟩ := fmB_tree hf
        rw [rgF_go hf h2 h3] at h
        rcases firstG_spec h with h1 | h1
        · exact h1.2
        · exact absurd h1.1 hc
theorem sfrs_in {k : Nat} {R : List Nat} (h : R ∈ sfrs k) : R ∈ frs R.length ∧ R.length < k := by
  unfold sfrs at h
  obtain ⟨n, hn, hR⟩ := List.mem_flatMap.1 h
  rw [(frs_mem.1 hR).1]
  exact ⟨hR, List.mem_range.1 hn⟩
theorem rgF_zero {s : ByteArray} {xs : List Nd} {R : List Nat} (h : rgF s xs = (0, R)) : ∃ (k : Nat) (t : Tree), k < 16 ∧ findS lgNames s = (k : Int) ∧ xs = Fm.enc t ∧ fmB (Fm.enc t) = true ∧ ¬ 3 < (mbs (vm (Fm.enc t))).length ∧ R.length < 4 ∧ Rl R ∧ lst R = R ∧ lgB k R = true ∧ vldB R (mbs (vm (Fm.enc t))) t = false ∧ R ∈ lgFs k (frs R.length) ∧
    ∃ G, rgF ⟨#[75]⟩ (Fm.enc t) = (0, G) ∧ G.length ≤ R.length := by
  cases hf : fmB xs with
  | false => rw [rgF_bad hf] at h; injection h with h _; omega
  | true =>
    rcases findS_range lgNames s with h2 | ⟨k, hk, h2⟩
    · rw [rgF_name hf h2] at h; injection h with h _; omega
    · by_cases h3 : 3 < (mbs (vm xs)).length
      · rw [rgF_many hf h2 h3] at h; injection h with h _; omega
      · obtain ⟨t, rfl, _⟩ := fmB_tree hf
        rw [rgF_go hf h2 h3] at h
        rw [lgNames_len] at hk
        rcases firstG_spec h with h1 | ⟨_, hr, X, Y, hX, _⟩
        · exact absurd h1.1 (by omega)
        · have hmem : R ∈ sfrs 4 := by rw [hX]; simp
          obtain ⟨o1, o2, o3⟩ := sfrs_ok (by omega) hmem
          have hr2 := hr
          unfold rfgB at hr2
          rw [Bool.and_eq_true, Bool.and_eq_true, decide_eq_true_eq] at hr2
          obtain ⟨hp, hl, hv⟩ := hr2
          have hv2 : vldB R (mbs (vm (Fm.enc t))) t = false := by simpa using hv
          refine ⟨k, t, hk, h2, rfl, hf, h3, o1, o2, o3, hl, hv2, List.mem_filter.2 ⟨(sfrs_in hmem).1, hl⟩, ?_⟩
          have hK : findS lgNames ⟨#[75]⟩ = ((4 : Nat) : Int) := by kernel_rfl
          have hr4 : rfgB 4 t R = true := by
            rw [rfgB_yes hp rfl, hv2]
            rfl
          rw [rgF_go hf hK h3]
          cases hG : firstG 4 t (sfrs 4) with
          | mk c G =>
            rcases firstG_spec hG with h5 | ⟨h5, _, X2, Y2, e2, n2⟩
            · exfalso
              have : ∀ P : List (List Nat), R ∈ P → firstG 4 t P ≠ (4, []) := by
                intro P
                induction P with
                | nil => intro h; cases h
                | cons A P ih =>
                  intro hR he
                  have he' : (if rfgB 4 t A = true then ((0 : Int), A) else firstG 4 t P) = (4, []) := he
                  by_cases ha : rfgB 4 t A = true
                  · rw [if_pos ha] at he'
                    injection he' with he' _
                    omega
                  · rw [if_neg ha] at he'
                    rcases List.mem_cons.1 hR with rfl | hR
                    · exact ha hr4
                    · exact ih hR he'
              exact this _ hmem (by rw [hG, h5.1, h5.2])
            · refine ⟨G, by rw [h5], ?_⟩
              have hpw := sfrs_pw 4
              rw [e2] at hmem hpw
              rcases List.mem_append.1 hmem with hm | hm
              · exact absurd (n2 R hm) (by rw [hr4]; decide)
              · rcases List.mem_cons.1 hm with rfl | hm
                · exact Nat.le_refl _
                · exact (List.pairwise_cons.1 (List.pairwise_append.1 hpw).2.1).1 R hm
end Go.Proofs.YtpfncncohnhanaaGreatDoor


/- Slices of int64 that came in: szInt64S. -/
namespace Go.Proofs.YtpfncncohnhanaaGreatDoor
open Go.RowKit

def ArgI (w : World) (v : Value) (L : List Int) : Prop := (∃ A c, v = .slice A L.length c ∧ L.length ≤ 9223372036854775807) ∧ (0 < L.length → Ints w v L)
theorem ArgI.grew {w w' : World} {v : Value} {L : List Int} (h : ArgI w v L) (hg : Grew w w') : ArgI w' v L := ⟨h.1, fun hp => (h.2 hp).grew hg⟩

end Go.Proofs.YtpfncncohnhanaaGreatDoor


/- The laws' own helpers on slices of int64: toInt64S, eqInt64S, markInt64S, heldInt64S. -/
namespace Go.Proofs.YtpfncncohnhanaaGreatDoor
open Go.RowKit

end Go.Proofs.YtpfncncohnhanaaGreatDoor


/- Two lists of int64 that are equal: eqInt64S. -/
namespace Go.Proofs.YtpfncncohnhanaaGreatDoor
open Go.RowKit

end Go.Proofs.YtpfncncohnhanaaGreatDoor


/- The laws' marks on slices of int64. -/
namespace Go.Proofs.YtpfncncohnhanaaGreatDoor
open Go.RowKit

end Go.Proofs.YtpfncncohnhanaaGreatDoor


/- The laws' own helpers on frames: eqFrame, markFrame, heldFrame. -/
namespace Go.Proofs.YtpfncncohnhanaaGreatDoor
open Go.RowKit

end Go.Proofs.YtpfncncohnhanaaGreatDoor


/- The laws' own helpers on slices of nodes that came in: szNodeS, toNodeS. -/
namespace Go.Proofs.YtpfncncohnhanaaGreatDoor
open Go.RowKit
open Fm (Nd)

def ArgN (w : World) (v : Value) (xs : List Nd) : Prop := (∃ A c, v = .slice A xs.length c ∧ xs.length ≤ 9223372036854775807) ∧ (0 < xs.length → Nodes w v xs)
theorem ArgN.grew {w w' : World} {v : Value} {xs : List Nd} (h : ArgN w v xs) (hg : Grew w w') : ArgN w' v xs := ⟨h.1, fun hp => (h.2 hp).grew hg⟩

end Go.Proofs.YtpfncncohnhanaaGreatDoor


/- The law FnExactRefutingFrame, walked. -/
namespace Go.Proofs.YtpfncncohnhanaaGreatDoor
open Go.RowKit
open Fm (Nd)

theorem rgF_len (s : ByteArray) (xs : List Nd) : (rgF s xs).2.length ≤ 4 := by
  have hF : ∀ (k : Nat) (t : Fm.Tree) (P : List (List Nat)), (∀ A ∈ P, A.length ≤ 4) → (firstG k t P).2.length ≤ 4 := by
    intro k t P
    induction P with
    | nil => intro _; simp [firstG]
    | cons A P ih =>
      intro h
      unfold firstG
      split
      · exact h A (List.mem_cons_self ..)
      · exact ih fun B hB => h B (List.mem_cons_of_mem _ hB)
  unfold rgF
  split
  · simp
  · split
    · simp
    · split
      · simp
      · split
        · exact hF _ _ _ fun A hA => Nat.le_of_lt (sfrs_ok (by omega) hA).1
        · simp

end Go.Proofs.YtpfncncohnhanaaGreatDoor


/- The law FnRefutingFrames, walked. -/
namespace Go.Proofs.YtpfncncohnhanaaGreatDoor
open Go.RowKit
open Fm (Nd Tree)

theorem box_cells (w : World) (a b : Value) : (∀ W, Grew (w.alloc (.cells #[a, b] 26)) W → W.cell? ⟨w.heap.size, 0, none⟩ = some a) ∧ ∀ W, Grew (w.alloc (.cells #[a, b] 26)) W → W.cell? ⟨w.heap.size, 1, none⟩ = some b :=
  ⟨fun W hW => (hW.cell (p := ⟨w.heap.size, 0, none⟩) (by simp)).trans (by simp), fun W hW => (hW.cell (p := ⟨w.heap.size, 1, none⟩) (by simp)).trans (by simp)⟩
set_option maxHeartbeats 8000000 in
set_option maxRecDepth 8192 in
theorem lawRh_c (v : Value) (N : Nat) (w : World) (h : ArgB w v N) (hNm : TabAt w 1 axNames) (hTt : TabAt w 2 lgTab) :
    Calls Tryz.prog 5 #[v] w fun e w' => e = .returned (.bool true) ∧ Grew w w' := by
  have HB := big_c v N w h.1
  by_cases hbig : 4096 < N
  · rw [decide_eq_true hbig] at HB
    replace HB := Lib.hid HB
    obtain ⟨⟨A, c, rfl⟩, _⟩ := h
    clear hNm hTt
    go_enter Tryz.func5, Tryz.ntmps5
    go_wp2_with fail
    refine HB.out.mono ?_
    rintro e w1 ⟨rfl, hg1⟩
    go_wp2_with fail
    go_ret
    exact ⟨rfl, hg1⟩
  rw [decide_eq_false hbig] at HB
  replace HB := Lib.hid HB
  have HD := Lib.hid (fun W (hW : Grew w W) => drawRefuting_c v N W (h.grew hW) (by omega))
  have HNm := Lib.hid (fun W (hW : Grew w W) => hNm.grew hW)
  have HTt := Lib.hid (fun W (hW : Grew w W) => hTt.grew hW)
  obtain ⟨⟨A, c, rfl⟩, _⟩ := h
  clear hNm hTt
  go_enter Tryz.func5, Tryz.ntmps5
  go_wp2_with fail
  refine HB.out.mono ?_
  rintro e w1 ⟨rfl, hg1⟩
  go_wp2_with fail
  refine (HD.out _ hg1).mono ?_
  rintro e w2 ⟨vA, xs, s, rfl, hA, hxl, hg2⟩
  have g2 := hg1.trans hg2
  have KI := Lib.hid (fun t W (hW : Grew w2 W) => refutingFrame_i t vA xs W (hA.grew hW) (by omega) (HNm.out W (g2.trans hW)) (HTt.out W (g2.trans hW)))
  have KS := Lib.hid (fun W (hW : Grew w2 W) => refutingFrame_s s vA xs W (hA.grew hW) (by omega))
  have HA := Lib.hid hA
  have HX := Lib.hid hxl
  obtain ⟨A1, c1, rfl⟩ := nodes_slice hA
  have HG2 := Lib.hid g2
  clear HB HD hbig hA hxl g2 hg1 hg2
  have r2 := Grew.refl w2
  have KI1 := Lib.hid (KI.out s w2 r2)
  unfold GivesRg at KI1 KS
  obtain ⟨rr, hrr⟩ : ∃ rr, rr = rgF s xs := ⟨_, rfl⟩
  rw [← hrr] at KI1 KS
  have hRl : rr.2.length ≤ 4 := by rw [hrr]; exact rgF_len s xs
  have hrr := Lib.hid hrr
  obtain ⟨cd, R⟩ := rr
  simp only at KI1 KS hRl
  generalize hxn : xs.length = xn at *
  go_wp2_with fail
  refine (KI1.out).mono ?_
  rintro e w3 ⟨vF, rfl, hF, hg3⟩
  have HF := Lib.hid hF
  obtain ⟨AF, cF, rfl⟩ := ints_sliceN hF.ints
  clear hF KI1
  obtain ⟨wa, hwa⟩ : ∃ wa, wa = w3.alloc (.cells #[.int .i64 (R.length : Int), .slice AF R.length cF] 26) := ⟨_, rfl⟩
  obtain ⟨y0, y1⟩ := box_cells w3 (.int .i64 (R.length : Int)) (.slice AF R.length cF)
  have ga : Grew w3 wa := by rw [hwa]; exact (Grew.refl w3).alloc _
  rw [← hwa] at y0 y1
  have G3 := Lib.hid (hg3.trans ga)
  have KS1 := Lib.hid (KS.out wa (hg3.trans ga))
  have HF2 := Lib.hid (fun W (hW : Grew wa W) => HF.out.ints.grew (ga.trans hW))
  clear HF KS
  go_wp2_with fail
  simp only [← hwa]
  clear hwa ga
  refine (KS1.out).mono ?_
  rintro e w4 ⟨vS, rfl, hS, hg4⟩
  have HS := Lib.hid hS
  obtain ⟨AS, cS, rfl⟩ := ints_sliceN hS.ints
  clear hS KS1
  obtain ⟨wb, hwb⟩ : ∃ wb, wb = w4.alloc (.cells #[.int .i64 (R.length : Int), .slice AS R.length cS] 26) := ⟨_, rfl⟩
  obtain ⟨z0, z1⟩ := box_cells w4 (.int .i64 (R.length : Int)) (.slice AS R.length cS)
  have gb : Grew w4 wb := by rw [hwb]; exact (Grew.refl w4).alloc _
  rw [← hwb] at z0 z1
  have Gb := hg4.trans gb
  have x0 : ∀ o, (w4.alloc o).cell? ⟨w3.heap.size, 0, none⟩ = some (.int .i64 (R.length : Int)) := fun o => y0 _ (hg4.trans ((Grew.refl w4).alloc o))
  have x1 : ∀ o, (w4.alloc o).cell? ⟨w3.heap.size, 1, none⟩ = some (.slice AF R.length cF) := fun o => y1 _ (hg4.trans ((Grew.refl w4).alloc o))
  have HS2 := Lib.hid (HS.out.ints.grew gb)
  have KE := Lib.hid (sameFrame9_c (R.length : Int) (R.length : Int) _ _ (zs R) (zs R) wb (HF2.out wb Gb) HS2.out (by rw [zs_len]; omega))
  unfold GivesB2 at KE
  have hcc : (cd != cd) = false := by simp
  have GW := Lib.hid (HG2.out.trans (G3.out.trans Gb))
  clear HS HS2 z0 z1
  go_wp2_with fail
  simp only [← hwb]
  clear hwb gb hg4
  refine (KE.out).mono ?_
  rintro e w5 ⟨b5, rfl, hg5, hb5⟩
  obtain rfl : b5 = true := hb5 (by first | trivial | exact ⟨rfl, rfl⟩)
  have G5 := Gb.trans hg5
  clear hb5 KE x0 x1
  by_cases hcd : cd = 0
  · subst hcd
    obtain ⟨k, t, hk, hf, rfl, hfm, h3, hR4, hRR, hRm, hlg, hvl, hmem, Gf, hG, hGl⟩ := rgF_zero hrr.out.symm
    have hfr := frB_of hRR (by omega)
    have KI2 := Lib.hid (KI.out ⟨#[75]⟩)
    unfold GivesRg at KI2
    rw [hG] at KI2
    have hnf : frs R.length ≠ [] := by
      intro h0
      have := (List.mem_filter.1 hmem).1
      rw [h0] at this
      cases this
    have TN := Lib.hid (fun W (hW : Grew w5 W) => HNm.out W ((GW.out.trans hg5).trans hW))
    have TT := Lib.hid (fun W (hW : Grew w5 W) => HTt.out W ((GW.out.trans hg5).trans hW))
    have FI := Lib.hid (fun W (hW : Grew w5 W) => HF2.out W (G5.trans hW))
    have NA := Lib.hid (fun W (hW : Grew w5 W) => HA.out.grew (G3.out.trans (G5.trans hW)))
    have K1 := Lib.hid (fun W (hW : Grew w5 W) => isFrameOfE_c (.slice AF R.length cF) R s k W (FI.out W hW) hRR (by omega) (TN.out W hW) (TT.out W hW) hk hf)
    have K2 := Lib.hid (fun W (hW : Grew w5 W) => validOn_c (R.length : Int) (.slice AF R.length cF) _ (zs R) t W (FI.out W hW) (NA.out W hW) hfr (vs_enc t) (by unfold badF; rw [hfm]; rfl) (by rw [zs_len]; exact Nat.le_trans (Nat.mul_le_mul (show R.length ≤ 3 by omega) (show _ ≤ 3 by omega)) (by decide)))
    have K3 := Lib.hid (fun W (hW : Grew w5 W) => leastFrame_c (.slice AF R.length cF) R W (FI.out W hW) hRR (by omega))
    have K4 := Lib.hid (fun W (hW : Grew w5 W) => framesOf_c s R.length k (by omega) W (TN.out W hW) (TT.out W hW) hk hf hnf)
    have K5 := Lib.hid (fun W (hW : Grew w5 W) => KI2.out W (G3.out.trans (G5.trans hW)))
    unfold GivesBC at K1 K2
    rw [hlg] at K1
    rw [nats_zsX, hvl] at K2
    unfold GivesLf at K3
    rw [hRm] at K3
    have KSF := Lib.hid (fun W (hW : Grew w5 W) (L : List Nat) v2 (h2 : Ints W v2 (zs L)) (hl : L.length ≤ 1000) => sameFrame9_c (L.length : Int) (R.length : Int) v2 (.slice AF R.length cF) (zs L) (zs R) W h2 (FI.out W hW) (by rw [zs_len]; omega))
    have KSG := Lib.hid (fun W (hW : Grew w5 W) v2 (h2 : Ints W v2 (zs R)) => sameFrame9_c (R.length : Int) (R.length : Int) v2 (.slice AF R.length cF) (zs R) (zs R) W h2 (FI.out W hW) (by rw [zs_len]; omega))
    have HME := Lib.hid hmem
    have HLG := Lib.hid (fun A (hA : A ∈ lgFs k (frs R.length)) => (lgFs_ok (by omega) hA).1)
    have HLL := Lib.hid (Nat.le_trans (lgFs_len k (frs R.length)) (frs_len (n := R.length) (by omega)))
    unfold GivesFsC at K4
    unfold GivesB2 at KSF KSG
    have hGg : ¬ (R.length : Int) < (Gf.length : Int) := by omega
    have hGn : ¬ R.length < Gf.length := by omega
    have u0 := fun W (hW : Grew w5 W) => y0 W (G5.trans hW)
    have u1 := fun W (hW : Grew w5 W) => y1 W (G5.trans hW)
    have GW5 := Lib.hid (GW.out.trans hg5)
    have hRlt : R.length ≤ 3 := by omega
    clear hrr hfm hG hnf hf hlg hvl hmem hRR hRm hfr KI KI2 HNm HTt y0 y1 GW hg5 G3 Gb G5 HA HF2 h3 hk hR4 HX HG2 hcc hxn hGl TN TT NA r2
    generalize lgFs k (frs R.length) = P at *
    have r5 := Grew.refl w5
    go_wp2_with fail
    refine (K1.out _ r5).mono ?_
    rintro e w6 ⟨rfl, hg6⟩
    go_wp2_with fail
    refine (K2.out _ hg6).mono ?_
    rintro e w7 ⟨rfl, hg7⟩
    have g7 := hg6.trans hg7
    go_wp2_with fail
    refine (K3.out _ g7).mono ?_
    rintro e w8 ⟨vL, rfl, hL, hg8⟩
    obtain ⟨AL, cL, rfl⟩ := ints_sliceN hL
    have g8 := g7.trans hg8
    obtain ⟨wc, hwc⟩ : ∃ wc, wc = w8.alloc (.cells #[.int .i64 (R.length : Int), .slice AL R.length cL] 26) := ⟨_, rfl⟩
    obtain ⟨l0, l1⟩ := box_cells w8 (.int .i64 (R.length : Int)) (.slice AL R.length cL)
    have gc : Grew w8 wc := by rw [hwc]; exact (Grew.refl w8).alloc _
    rw [← hwc] at l0 l1
    have G8 := Lib.hid (g8.trans gc)
    have HL := Lib.hid (fun W (hW : Grew wc W) => hL.grew (gc.trans hW))
    clear hL
    go_wp2_with fail
    simp only [← hwc]
    clear hwc gc g8 g7 hg6 hg7 hg8 r5
    refine (K5.out wc G8.out).mono ?_
    rintro e w9 ⟨vG, rfl, hGf, hg9⟩
    have hGI := Lib.hid hGf.ints
    obtain ⟨AG, cG, rfl⟩ := ints_sliceN hGf.ints
    clear hGf
    have l0' : ∀ o, (w9.alloc o).cell? ⟨w8.heap.size, 0, none⟩ = some (.int .i64 (R.length : Int)) := fun o => l0 _ (hg9.trans ((Grew.refl w9).alloc o))
    have l1' : ∀ o, (w9.alloc o).cell? ⟨w8.heap.size, 1, none⟩ = some (.slice AL R.length cL) := fun o => l1 _ (hg9.trans ((Grew.refl w9).alloc o))
    have u0' : ∀ o, (w9.alloc o).cell? ⟨w3.heap.size, 0, none⟩ = some (.int .i64 (R.length : Int)) := fun o => u0 _ (G8.out.trans (hg9.trans ((Grew.refl w9).alloc o)))
    have u1' : ∀ o, (w9.alloc o).cell? ⟨w3.heap.size, 1, none⟩ = some (.slice AF R.length cF) := fun o => u1 _ (G8.out.trans (hg9.trans ((Grew.refl w9).alloc o)))
    obtain ⟨wd, hwd⟩ : ∃ wd, wd = w9.alloc (.cells #[.int .i64 (Gf.length : Int), .slice AG Gf.length cG] 26) := ⟨_, rfl⟩
    obtain ⟨m0, _⟩ := box_cells w9 (.int .i64 (Gf.length : Int)) (.slice AG Gf.length cG)
    have gd : Grew w9 wd := by rw [hwd]; exact (Grew.refl w9).alloc _
    rw [← hwd] at m0
    have G9 := Lib.hid (G8.out.trans (hg9.trans gd))
    have KE2 := Lib.hid (KSG.out wd G9.out (.slice AL R.length cL) (HL.out wd (hg9.trans gd)))
    clear l0 l1 HL K1 K2 K3 K5
    go_wp2_with fail
    simp only [← hwd]
    clear hwd gd hg9
    refine (KE2.out).mono ?_
    rintro e w10 ⟨b10, rfl, hg10, hb10⟩
    obtain rfl : b10 = true := hb10 (by first | trivial | exact ⟨rfl, rfl⟩)
    have G10 := Lib.hid (G9.out.trans hg10)
    have m0' := m0 w10 hg10
    have u0'' := u0 w10 G10.out
    clear l0' l1' u0' u1' hb10 m0 KE2
    go_wp2_with fail
    refine (K4.out w10 G10.out).mono ?_
    rintro e w11 ⟨vP, rfl, hP, hg11⟩
    have HAT := Lib.hid (fun i (hi : i < P.length) => hP.at_ (i := i) hi)
    have HTK := Lib.hid (fun i (hi : i < P.length) => take_next (L := P) [] hi)
    have HAL : Hid (P.take P.length = P) := Lib.hid List.take_length
    have HMM := Lib.hid (fun i (hi : i < P.length) => (show P.getD i [] ∈ P by simp [List.getD, hi]))
    obtain ⟨AP, cP, rfl⟩ := hP.slice
    have hpl := HLL.out
    have G11 := Lib.hid (G10.out.trans hg11)
    clear hP m0' u0'' K4 HLL hg10 hg11
    generalize hple : P.length = pl at *
    clear hple
    go_wp2_with fail
    go_loopw [19, 20] (fun s19 s20 wr => ∃ (j : Nat) (b : Bool), j ≤ pl ∧ s19 = .bool b ∧ s20 = .int .i64 (j : Int) ∧ Grew w11 wr ∧ Hid (R ∈ P.take j → b = true)) (fun _ s20 _ => pl - (intOf s20).toNat)
    case atStart => exact ⟨0, false, by omega, rfl, rfl, Grew.refl _, Lib.hid (by simp)⟩
    case round =>
      obtain ⟨j, b, hj, rfl, rfl, hB, HI⟩ := hrel
      by_cases hlt : j < pl
      · have htk := Lib.hid (HTK.out j hlt)
        cases b with
        | true =>
          go_wp2_with fail
          go_quiet (fail)
          go_wp2_with fail
          go_roundw
          case rel => exact ⟨j + 1, true, by omega, rfl, by go_num, hB.drewN _, Lib.hid (fun _ => rfl)⟩
          case measure => simp [intOf]; omega
        | false =>
          obtain ⟨go, co, uo, he, hgo, hco, huo⟩ := HAT.out j hlt
          injection he with he1 _ he3
          subst he1 he3
          have k0 := fun W (hW : Grew wr W) => (hco W (hB.trans hW)).1
          have k1 := fun W (hW : Grew wr W) => (hco W (hB.trans hW)).2
          have v0 := fun W (hW : Grew wr W) => u0 W (G11.out.trans (hB.trans hW))
          have v1 := fun W (hW : Grew wr W) => u1 W (G11.out.trans (hB.trans hW))
          have hLl := HLG.out _ (HMM.out j hlt)
          have hd : Grew wr wr.drew := (Grew.refl wr).drew
          have KX := Lib.hid (KSF.out wr.drew (G11.out.trans (hB.trans hd)) (P.getD j []) uo (huo.ints.grew (hB.trans hd)) (by omega))
          obtain ⟨Au, cu, rfl⟩ := ints_sliceN huo.ints
          clear huo hco hLl
          generalize P.getD j [] = L at *
          go_wp2_with fail
          go_region_held3 (fun w' => Grew wr w') (with_reducible assumption) (first | (go_at_call 22; refine (KX.out).mono ?_; rintro e w12 ⟨b12, rfl, hg12, hb12⟩; have hk12 := hd.trans hg12; have HB12 := Lib.hid hb12; clear hb12))
          go_wp2_with fail
          go_roundw
          case rel => exact ⟨j + 1, b12, by omega, rfl, by go_num, hB.trans hk12, Lib.hid (fun hm => by
            rw [htk.out] at hm
            rcases List.mem_append.1 hm with hm | hm
            · exact absurd (HI.out hm) (by decide)
            · rw [List.mem_singleton] at hm
              subst hm
              exact HB12.out (by first | trivial | exact ⟨rfl, rfl⟩))⟩
          case measure => simp [intOf]; omega
      · obtain rfl : j = pl := by omega
        obtain rfl : b = true := HI.out (by rw [HAL.out]; exact HME.out)
        go_wp2_with fail
        go_ret
        exact ⟨rfl, GW5.out.trans (G11.out.trans hB)⟩
  · have hR : R = [] := rgF_nz hrr.out.symm hcd
    have hq : (cd != 0) = true := by simpa using hcd
    have x0 := y0 w5 G5
    subst hR
    have x0' : w5.cell? ⟨w3.heap.size, 0, none⟩ = some (.int .i64 0) := x0
    clear x0
    go_wp2_with fail
    go_ret
    exact ⟨rfl, GW.out.trans hg5⟩
end Go.Proofs.YtpfncncohnhanaaGreatDoor


/- A cell that is read lies in a block that is there. -/
namespace Go.Proofs.YtpfncncohnhanaaGreatDoor
open Go.RowKit

theorem cell_lt {w : World} {a : Addr} {u : Value} (h : w.cell? a = some u) : a.block < w.heap.size := by
  unfold World.cell? at h
  split at h
  · rename_i hh
    exact (Array.getElem?_eq_some_iff.1 hh).1
  · cases h

end Go.Proofs.YtpfncncohnhanaaGreatDoor


/- An argument that is a list of bytes. -/
namespace Go.Proofs.YtpfncncohnhanaaGreatDoor
open Go.RowKit

theorem argB_of_trod {H : Type} {enc : TypeId × Value → H} {P : Program} {W : World} {sp : Nat → Bool} {held : Bool} {n : Nat} {t e : TypeId} {v : Value} {y : DataW H × List MemPlace}
    (ht : P.underlying t = some (.slice e)) (he : P.underlying e = some (.int .u8)) (hc : P.cellsOf e = 1) (h : DataW.trod enc P W 0 sp held n t [v] = some y) : ∃ N, ArgB W v N := by
  rcases Go.ChangeShapes.open_ints ht he hc h with ⟨hv, _⟩ | ⟨a, len, cap, zs, hv, _, hl, hm, hz, _, hcell, hwf⟩
  · obtain rfl : v = .slice none 0 0 := by simpa using hv
    exact ⟨0, ⟨none, 0, rfl⟩, by omega, fun h => absurd h (by omega)⟩
  · obtain rfl : v = .slice (some a) len cap := by simpa using hv
    have hlm : len ≤ zs.length := by rw [hz]; split <;> omega
    have hmax : maxLen = 9223372036854775807 := by decide
    rw [hmax] at hm
    refine ⟨len, ⟨some a, cap, rfl⟩, by omega, fun hp => ?_⟩
    obtain ⟨b, off, spot⟩ := a
    have h0 := hcell 0 (by omega)
    have hspot : spot = none := by simpa [Addr.add] using World.cell?_spot h0
    subst hspot
    have hb := cell_lt h0
    have hadd : ∀ i, (⟨b, off, none⟩ : Addr).add i = ⟨b, off + i, none⟩ := fun i => by
      unfold Addr.add
      split
      · subst_vars; rfl
      · rfl
    rw [hadd] at hb
    refine ⟨b, off, cap, rfl, hb, hl, hm, fun j hj => ⟨zs.getD j 0, ?_, ?_, ?_⟩⟩
    · have hw := hwf (zs.getD j 0) (by simp [List.getD, show j < zs.length by omega])
      simp [Lit.wf, IntKind.min, IntKind.max, IntKind.signed, IntKind.bits] at hw
      have := hw.1
      simpa [List.getD] using this
    · have hw := hwf (zs.getD j 0) (by simp [List.getD, show j < zs.length by omega])
      simp [Lit.wf, IntKind.min, IntKind.max, IntKind.signed, IntKind.bits] at hw
      have := hw.2
      simp [List.getD] at this ⊢
      omega
    · rw [← hadd]
      exact hcell j (by omega)
end Go.Proofs.YtpfncncohnhanaaGreatDoor


/- Texts in one file: HpA. -/
import Derived.Test.YtnbnhapepcegpaaGreatDoorPa1
import Derived.Test.YtnbnhapepcegpaaGreatDoorPa2
import Derived.Test.YtnbnhapepcegpaaGreatDoorPa3
set_option linter.all false

/- isAxiomatic of the program: is a line without premises right? -/
namespace Go.Proofs.YtnbnhapepcegpaaGreatDoor
open Go.RowKit
open Fm (Nd)

theorem indexI_c (v : Value) (L : List Int) (x : Int) (w : World) (h : Ints w v L) :
    Calls Tryz.prog 91 #[v, .int .i64 x] w fun e w' => ∃ r : Int, e = .returned (.int .i64 r) ∧ decide (0 ≤ r) = decide (x ∈ L) ∧ Grew w w' := by
  rcases h.open_ with ⟨rfl, rfl⟩ | ⟨b, o, c, rfl, hc, hm, hb, hcell⟩
  · clear h
    go_enter Tryz.func91, Tryz.ntmps91
    go_wp2_with fail
    refine wp_loop_rounds 1 ?_; rw [rounds_succ]
    go_wp2_with fail
    go_ret
    exact ⟨_, rfl, by simp, Grew.refl _⟩
  · obtain ⟨R, hR⟩ : ∃ R, R = decide (x ∈ L) := ⟨_, rfl⟩
    rw [← hR]
    have HY := Lib.hid (fun i (hi : i < L.length) (he : it L i = x) => (by rw [hR]; exact decide_eq_true (by rw [← he]; exact it_mem hi) : R = true))
    have HZ := Lib.hid (fun (h : NotI L x L.length) => hR.trans h.all)
    have HC := Lib.hid hcell
    clear h hcell hR
    generalize hN : L.length = n at *
    clear hN
    go_enter Tryz.func91, Tryz.ntmps91
    go_wp2_with fail
    go_loopw [5, 8] (fun _ i wr => ∃ j : Nat, j ≤ n ∧ i = .int .i64 j ∧ Grew w wr ∧ Hid (NotI L x j)) (fun _ i _ => n - (intOf i).toNat)
    case atStart => exact ⟨0, Nat.zero_le _, rfl, Grew.refl _, NotI.zero _ _⟩
    case round =>
      obtain ⟨j, hj, rfl, hB, HJ⟩ := hrel
      by_cases hlt : j < n
      · have k1 := HC.out j hlt _ hB
        have hS := Lib.hid (fun h => HJ.out.succ (k := j) h)
        have hY := Lib.hid (HY.out j hlt)
        generalize it L j = y at *
        by_cases hy : y = x
        · have hv := Lib.hid (hY.out hy)
          subst hy
          go_wp2_with fail
          go_ret
          exact ⟨_, rfl, by rw [hv.out]; simp, hB⟩
        · have hs := Lib.hid (hS.out hy)
          have hq : (x == y) = false := by simpa using fun h : x = y => hy h.symm
          clear hy
          go_wp2_with fail
          go_roundw
          case rel => exact ⟨j + 1, by omega, by go_num, hB, hs⟩
          case measure => simp [intOf]; omega
      · obtain rfl : j = n := by omega
        have hv := Lib.hid (HZ.out HJ.out)
        go_wp2_with fail
        go_ret
        exact ⟨_, rfl, by rw [hv.out]; rfl, hB⟩
theorem containsI_c (v : Value) (L : List Int) (x : Int) (w : World) (h : Ints w v L) :
    Calls Tryz.prog 77 #[v, .int .i64 x] w fun e w' => e = .returned (.bool (decide (x ∈ L))) ∧ Grew w w' := by
  have HI := Lib.hid (indexI_c v L x w h)
  clear h
  generalize decide (x ∈ L) = R at *
  go_enter Tryz.func77, Tryz.ntmps77
  go_wp2_with fail
  refine HI.out.mono ?_
  rintro e w1 ⟨r, rfl, hr, hg1⟩
  go_wp2_with fail
  go_ret
  exact ⟨by rw [← hr]; rfl, hg1⟩
theorem sizeN_c (v : Value) (H : List (List Nd)) (w : World) (h : ∃ A c, v = .slice A H.length c) :
    Calls Tryz.prog 76 #[v] w fun e w' => e = .returned (.int .i64 H.length) ∧ Grew w w' := by
  obtain ⟨A, c, rfl⟩ := h
  generalize H.length = n at *
  go_enter Tryz.func76, Tryz.ntmps76
  go_wp2_with fail
  go_ret
  exact ⟨rfl, Grew.refl _⟩

/-- A derivation in memory. -/
def Der (w : World) (D : Nat) (s : ByteArray) (vH vL vU : Value) : Prop := w.heap[D]? = some (.cells #[.string s, vH, vL, vU] 58 (0, 0))
theorem Der.grew {w w' : World} {D : Nat} {s : ByteArray} {vH vL vU : Value} (h : Der w D s vH vL vU) (hg : Grew w w') : Der w' D s vH vL vU := (hg.block (blk_lt h)).trans h
theorem Der.at_ {w : World} {D : Nat} {s : ByteArray} {vH vL vU : Value} (h : Der w D s vH vL vU) :
    (∀ W, Grew w W → W.cell? ⟨D, 0, none⟩ = some (.string s)) ∧ (∀ W, Grew w W → W.cell? ⟨D, 1, none⟩ = some vH) ∧ (∀ W, Grew w W → W.cell? ⟨D, 2, none⟩ = some vL) ∧ (∀ W, Grew w W → W.cell? ⟨D, 3, none⟩ = some vU) :=
  ⟨fun W hW => (blk_cell (h.grew hW) 0).trans rfl, fun W hW => (blk_cell (h.grew hW) 1).trans rfl, fun W hW => (blk_cell (h.grew hW) 2).trans rfl, fun W hW => (blk_cell (h.grew hW) 3).trans rfl⟩

theorem ax_2 {s : ByteArray} {H : List (List Nd)} {a b : Int} {f : List Nd} : axB s H (2, a, b, f) = (b == 0 && (decide (0 ≤ a ∧ a ≤ (H.length : Int) - 1) && decide (H.getD a.toNat [] = f))) := by
  unfold axB
  simp only [show ((2 : Int) == 2) = true from rfl, if_true]
theorem ax_n {s : ByteArray} {H : List (List Nd)} {r a b : Int} {f : List Nd} (h : r ≠ 2) : axB s H (r, a, b, f) = (b == 0 && (decide (a ∈ (sysL s).getD []) && instB a.toNat f)) := by
  unfold axB
  simp only [show (r == 2) = false by simpa using h, Bool.false_eq_true, if_false]

set_option maxHeartbeats 2000000 in
set_option maxRecDepth 100000 in
theorem isAxiomatic_c (D : Nat) (s : ByteArray) (vH vL vU u : Value) (H : List (List Nd)) (x : Hl) (t : Fm.Tree) (w : World) (hD : Der w D s vH vL vU) (hH : Nls w vH H) (hfH : FitsNl H) (hHn : H.length ≤ 1048576)
    (hX : TabAt w 0 schTexts) (hu : Nodes w u (Fm.enc t)) (ht : (Fm.enc t).length ≤ 40) (hx : x.2.2.2 = Fm.enc t) :
    Calls Tryz.prog 58 #[.pointer (some ⟨D, 0, none⟩), .agg #[.int .i64 x.1, .int .i64 x.2.1, .int .i64 x.2.2.1, u]] w fun e w' => e = .returned (.bool (axB s H x)) ∧ Grew w w' := by
  obtain ⟨rr, fi, se, fo⟩ := x
  simp only at hx ⊢
  subst hx
  obtain ⟨R, hR⟩ : ∃ R, R = axB s H (rr, fi, se, Fm.enc t) := ⟨_, rfl⟩
  rw [← hR]
  have HHY := Lib.hid (fun i (hi : i < H.length) => (⟨nls_at hH hi, hfH _ (nlD_mem hi)⟩ : (∃ bH oH cH u, vH = .slice (some ⟨bH, oH, none⟩) H.length cH ∧ (∀ W, Grew w W → W.cell? ⟨bH, oH + i, none⟩ = some u) ∧ Nodes w u (H.getD i [])) ∧ (H.getD i []).length ≤ 1048576))
  obtain ⟨d0, d1, d2, d3⟩ := hD.at_
  have HU := Lib.hid (fun W (hW : Grew w W) => hu.grew hW)
  have HTX := Lib.hid (fun W (hW : Grew w W) => hX.grew hW)
  obtain ⟨AH, cH, rfl⟩ := Nls_slice hH
  obtain ⟨A0, c0, rfl⟩ := nodes_slice hu
  clear hD hH hfH hu hX
  generalize hfl : (Fm.enc t).length = fl at *
  replace hfl := Lib.hid hfl
  have hal := (Grew.refl w).alloc (.cells #[.int .i64 rr, .int .i64 fi, .int .i64 se, .slice A0 fl c0] 51)
  have f0 : ∀ W, Grew (w.alloc (.cells #[.int .i64 rr, .int .i64 fi, .int .i64 se, .slice A0 fl c0] 51)) W → W.cell? ⟨w.heap.size, 0, none⟩ = some (.int .i64 rr) := fun W hW => (hW.cell (p := ⟨w.heap.size, 0, none⟩) (by simp)).trans (by simp)
  have f1 : ∀ W, Grew (w.alloc (.cells #[.int .i64 rr, .int .i64 fi, .int .i64 se, .slice A0 fl c0] 51)) W → W.cell? ⟨w.heap.size, 1, none⟩ = some (.int .i64 fi) := fun W hW => (hW.cell (p := ⟨w.heap.size, 1, none⟩) (by simp)).trans (by simp)
  have f2 : ∀ W, Grew (w.alloc (.cells #[.int .i64 rr, .int .i64 fi, .int .i64 se, .slice A0 fl c0] 51)) W → W.cell? ⟨w.heap.size, 2, none⟩ = some (.int .i64 se) := fun W hW => (hW.cell (p := ⟨w.heap.size, 2, none⟩) (by simp)).trans (by simp)
  have f3 : ∀ W, Grew (w.alloc (.cells #[.int .i64 rr, .int .i64 fi, .int .i64 se, .slice A0 fl c0] 51)) W → W.cell? ⟨w.heap.size, 3, none⟩ = some (.slice A0 fl c0) := fun W hW => (hW.cell (p := ⟨w.heap.size, 3, none⟩) (by simp)).trans (by simp)
  generalize hwb : w.alloc (.cells #[.int .i64 rr, .int .i64 fi, .int .i64 se, .slice A0 fl c0] 51) = wb at *
  have rb := Grew.refl wb
  have rbd := rb.drew
  have rald := hal.drew
  replace hwb := hwb.symm
  have b0 := fun W (hW : Grew wb W) => d0 W (hal.trans hW)
  have b1 := fun W (hW : Grew wb W) => d1 W (hal.trans hW)
  clear d0 d1 d2 d3
  cases hse : (se == 0) with
  | false =>
    have hne : (se != 0) = true := by simpa using hse
    have hv : R = false := by
      rw [hR]
      unfold axB
      simp only [hse, Bool.false_and]
    go_enter Tryz.func58, Tryz.ntmps58
    go_wp2_with fail
    rw [← hwb]
    clear hwb
    try go_wp2_with fail
    go_ret
    exact ⟨by rw [hv]; rfl, hal⟩
  | true =>
  have hne : (se != 0) = false := by simpa using hse
  by_cases h2r : rr = 2
  · subst h2r
    rw [ax_2, hse, Bool.true_and] at hR
    have KZ := Lib.hid (fun W => sizeN_c (.slice AH H.length cH) H W ⟨_, _, rfl⟩)
    have KNH := fun W => inRange_c fi 0 ((H.length : Int) - 1) W
    cases hin : decide (0 ≤ fi ∧ fi ≤ (H.length : Int) - 1) with
    | false =>
      rw [hin, Bool.false_and] at hR
      rw [hin] at KNH
      replace KNH := Lib.hid KNH
      generalize H.length = hlen at *
      have iw : IntKind.i64.wrap ((hlen : Int) - 1) = (hlen : Int) - 1 := by rw [IntKind.wrap_i64]; omega
      go_enter Tryz.func58, Tryz.ntmps58
      go_wp2_with fail
      rw [← hwb]
      clear hwb
      refine wp_region_held_drew (S := fun w' => Grew wb w') (by kernel_rfl) rbd (fun hHeld => ?_)
      refine wpAnyH_take (i := 0) (oi := ?on1) (v := ?vn1) ?hin1 ?an1 ?bn1 ?cn1 ?qn1 (Or.inl ⟨?dn1, ?hyn1⟩) hHeld ?restn1
      case hin1 => (simp only [List.getElem?_toArray, List.getElem?_cons_zero]; exact rfl)
      case an1 => kernel_rfl
      case bn1 => kernel_rfl
      case cn1 => kernel_rfl
      case qn1 => exact fun _ _ _ h => h
      case dn1 => rfl
      case hyn1 => (intro z hSw; (try dsimp only at hSw); go_simp; (try with_reducible rfl))
      try simp only [Act.put, List.setIfInBounds_toArray, List.set_cons_zero, List.set_cons_succ]
      refine wpAnyH_take (i := 1) (oi := ?on2) (v := ?vn2) ?hin2 ?an2 ?bn2 ?cn2 ?qn2 (Or.inl ⟨?dn2, ?hyn2⟩) hHeld ?restn2
      case hin2 => (simp only [List.getElem?_toArray, List.getElem?_cons_succ, List.getElem?_cons_zero]; exact rfl)
      case an2 => kernel_rfl
      case bn2 => kernel_rfl
      case cn2 => kernel_rfl
      case qn2 => exact fun _ _ _ h => h
      case dn2 => rfl
      case hyn2 => (intro z hSw; (try dsimp only at hSw); go_simp; (try with_reducible rfl))
      try simp only [Act.put, List.setIfInBounds_toArray, List.set_cons_zero, List.set_cons_succ]
      refine wpAnyH_take (i := 2) (oi := ?on3) (v := ?vn3) ?hin3 ?an3 ?bn3 ?cn3 ?qn3 (Or.inl ⟨?dn3, ?hyn3⟩) hHeld ?restn3
      case hin3 => (simp only [List.getElem?_toArray, List.getElem?_cons_succ, List.getElem?_cons_zero]; exact rfl)
      case an3 => kernel_rfl
      case bn3 => kernel_rfl
      case cn3 => kernel_rfl
      case qn3 => exact fun _ _ _ h => h
      case dn3 => rfl
      case hyn3 => (intro z hSw; (try dsimp only at hSw); go_simp; (try with_reducible rfl))
      try simp only [Act.put, List.setIfInBounds_toArray, List.set_cons_zero, List.set_cons_succ]
      refine wpAnyH_take (i := 3) (oi := ?on4) (v := ?vn4) ?hin4 ?an4 ?bn4 ?cn4 ?qn4 (Or.inl ⟨?dn4, ?hyn4⟩) hHeld ?restn4
      case hin4 => (simp only [List.getElem?_toArray, List.getElem?_cons_succ, List.getElem?_cons_zero]; exact rfl)
      case an4 => kernel_rfl
      case bn4 => kernel_rfl
      case cn4 => kernel_rfl
      case qn4 => exact fun _ _ _ h => h
      case dn4 => rfl
      case hyn4 => (intro z hSw; (try dsimp only at hSw); go_simp; (try with_reducible rfl))
      try simp only [Act.put, List.setIfInBounds_toArray, List.set_cons_zero, List.set_cons_succ]
      refine wpAnyH_take (i := 4) (oi := ?on5) (v := ?vn5) ?hin5 ?an5 ?bn5 ?cn5 ?qn5 (Or.inl ⟨?dn5, ?hyn5⟩) hHeld ?restn5
      case hin5 => (simp only [List.getElem?_toArray, List.getElem?_cons_succ, List.getElem?_cons_zero]; exact rfl)
      case an5 => kernel_rfl
      case bn5 => kernel_rfl
      case cn5 => kernel_rfl
      case qn5 => exact fun _ _ _ h => h
      case dn5 => rfl
      case hyn5 => (intro z hSw; (try dsimp only at hSw); go_simp; (try with_reducible rfl))
      try simp only [Act.put, List.setIfInBounds_toArray, List.set_cons_zero, List.set_cons_succ]
      refine wpAnyH_take (i := 5) (oi := ?on6) (v := ?vn6) ?hin6 ?an6 ?bn6 ?cn6 ?qn6 (Or.inl ⟨?dn6, ?hyn6⟩) hHeld ?restn6
      case hin6 => (simp only [List.getElem?_toArray, List.getElem?_cons_succ, List.getElem?_cons_zero]; exact rfl)
      case an6 => kernel_rfl
      case bn6 => kernel_rfl
      case cn6 => kernel_rfl
      case qn6 => exact fun _ _ _ h => h
      case dn6 => rfl
      case hyn6 => (intro z hSw; (try dsimp only at hSw); go_simp; (try with_reducible rfl))
      try simp only [Act.put, List.setIfInBounds_toArray, List.set_cons_zero, List.set_cons_succ]
      refine wpAnyH_ready (rs := [6]) (by kernel_rfl) (by simp) ?_
      refine AllReadyH.cons (o := ?on7) ?hin7 ?restn7 AllReadyH.nil
      case hin7 => (simp only [List.getElem?_toArray, List.getElem?_cons_succ, List.getElem?_cons_zero]; exact rfl)
      intro K hK
      go_simp
      go_at_call 76
      refine (KZ.out _).mono ?_
      rintro e w3 ⟨rfl, hg3⟩
      have h3 : Grew wb w3 := Grew.trans (by repeat (first | with_reducible assumption | with_reducible refine Grew.alloc ?_ _ | with_reducible refine Grew.drew ?_ | with_reducible refine Grew.drewN ?_ _)) hg3
      refine hK.out _ _ ?_ (fun hHeld => ?_)
      · (try dsimp only); first | with_reducible assumption | exact Grew.alloc ‹_› _
      clear hK K
      try simp only [Act.put, List.setIfInBounds_toArray, List.set_cons_zero, List.set_cons_succ]
      refine wpAnyH_take (i := 7) (oi := ?on8) (v := ?vn8) ?hin8 ?an8 ?bn8 ?cn8 ?qn8 (Or.inl ⟨?dn8, ?hyn8⟩) hHeld ?restn8
      case hin8 => (simp only [List.getElem?_toArray, List.getElem?_cons_succ, List.getElem?_cons_zero]; exact rfl)
      case an8 => kernel_rfl
      case bn8 => kernel_rfl
      case cn8 => kernel_rfl
      case qn8 => exact fun _ _ _ h => h
      case dn8 => rfl
      case hyn8 => (intro z hSw; (try dsimp only at hSw); go_simp; (try with_reducible rfl))
      try simp only [Act.put, List.setIfInBounds_toArray, List.set_cons_zero, List.set_cons_succ]
      refine wpAnyH_ready (rs := [8]) (by kernel_rfl) (by simp) ?_
      refine AllReadyH.cons (o := ?on9) ?hin9 ?restn9 AllReadyH.nil
      case hin9 => (simp only [List.getElem?_toArray, List.getElem?_cons_succ, List.getElem?_cons_zero]; exact rfl)
      intro K hK
      go_simp
      go_at_call 57
      refine (KNH.out _).mono ?_
      rintro e w4 ⟨rfl, hg4⟩
      have h4 : Grew wb w4 := h3.trans hg4
      refine hK.out _ _ ?_ (fun hHeld => ?_)
      · (try dsimp only); first | with_reducible assumption | exact Grew.alloc ‹_› _
      clear hK K
      try simp only [Act.put, List.setIfInBounds_toArray, List.set_cons_zero, List.set_cons_succ]
      refine wpAnyH_take (i := 9) (oi := ?on10) (v := ?vn10) ?hin10 ?an10 ?bn10 ?cn10 ?qn10 (Or.inl ⟨?dn10, ?hyn10⟩) hHeld ?restn10
      case hin10 => (simp only [List.getElem?_toArray, List.getElem?_cons_succ, List.getElem?_cons_zero]; exact rfl)
      case an10 => kernel_rfl
      case bn10 => kernel_rfl
      case cn10 => kernel_rfl
      case qn10 => exact fun _ _ _ h => h
      case dn10 => rfl
      case hyn10 => (intro z hSw; (try dsimp only at hSw); go_simp; (try with_reducible rfl))
      try simp only [Act.put, List.setIfInBounds_toArray, List.set_cons_zero, List.set_cons_succ]
      refine wpAnyH_take (i := 10) (oi := ?on11) ?hin11 ?an11 ?bn11 ?cn11 ?qn11 (Or.inr ⟨?dn11, rfl⟩) hHeld ?restn11
      case hin11 => (simp only [List.getElem?_toArray, List.getElem?_cons_succ, List.getElem?_cons_zero]; exact rfl)
      case an11 => kernel_rfl
      case bn11 => kernel_rfl
      case cn11 => kernel_rfl
      case qn11 => exact fun _ _ _ h => h
      case dn11 => rfl
      try simp only [Act.put, List.setIfInBounds_toArray, List.set_cons_zero, List.set_cons_succ]
      refine wpAnyH_take (i := 11) (oi := ?on12) ?hin12 ?an12 ?bn12 ?cn12 ?qn12 (Or.inr ⟨?dn12, rfl⟩) hHeld ?restn12
      case hin12 => (simp only [List.getElem?_toArray, List.getElem?_cons_succ, List.getElem?_cons_zero]; exact rfl)
      case an12 => kernel_rfl
      case bn12 => kernel_rfl
      case cn12 => kernel_rfl
      case qn12 => exact fun _ _ _ h => h
      case dn12 => rfl
      try simp only [Act.put, List.setIfInBounds_toArray, List.set_cons_zero, List.set_cons_succ]
      refine wpAnyH_take (i := 12) (oi := ?on13) ?hin13 ?an13 ?bn13 ?cn13 ?qn13 (Or.inr ⟨?dn13, rfl⟩) hHeld ?restn13
      case hin13 => (simp only [List.getElem?_toArray, List.getElem?_cons_succ, List.getElem?_cons_zero]; exact rfl)
      case an13 => kernel_rfl
      case bn13 => kernel_rfl
      case cn13 => kernel_rfl
      case qn13 => exact fun _ _ _ h => h
      case dn13 => rfl
      try simp only [Act.put, List.setIfInBounds_toArray, List.set_cons_zero, List.set_cons_succ]
      refine wpAnyH_take (i := 13) (oi := ?on14) ?hin14 ?an14 ?bn14 ?cn14 ?qn14 (Or.inr ⟨?dn14, rfl⟩) hHeld ?restn14
      case hin14 => (simp only [List.getElem?_toArray, List.getElem?_cons_succ, List.getElem?_cons_zero]; exact rfl)
      case an14 => kernel_rfl
      case bn14 => kernel_rfl
      case cn14 => kernel_rfl
      case qn14 => exact fun _ _ _ h => h
      case dn14 => rfl
      try simp only [Act.put, List.setIfInBounds_toArray, List.set_cons_zero, List.set_cons_succ]
      refine wpAnyH_take (i := 14) (oi := ?on15) ?hin15 ?an15 ?bn15 ?cn15 ?qn15 (Or.inr ⟨?dn15, rfl⟩) hHeld ?restn15
      case hin15 => (simp only [List.getElem?_toArray, List.getElem?_cons_succ, List.getElem?_cons_zero]; exact rfl)
      case an15 => kernel_rfl
      case bn15 => kernel_rfl
      case cn15 => kernel_rfl
      case qn15 => exact fun _ _ _ h => h
      case dn15 => rfl
      try simp only [Act.put, List.setIfInBounds_toArray, List.set_cons_zero, List.set_cons_succ]
      refine wpAnyH_take (i := 15) (oi := ?on16) ?hin16 ?an16 ?bn16 ?cn16 ?qn16 (Or.inr ⟨?dn16, rfl⟩) hHeld ?restn16
      case hin16 => (simp only [List.getElem?_toArray, List.getElem?_cons_succ, List.getElem?_cons_zero]; exact rfl)
      case an16 => kernel_rfl
      case bn16 => kernel_rfl
      case cn16 => kernel_rfl
      case qn16 => exact fun _ _ _ h => h
      case dn16 => rfl
      try simp only [Act.put, List.setIfInBounds_toArray, List.set_cons_zero, List.set_cons_succ]
      refine wpAnyH_take (i := 16) (oi := ?on17) ?hin17 ?an17 ?bn17 ?cn17 ?qn17 (Or.inr ⟨?dn17, rfl⟩) hHeld ?restn17
      case hin17 => (simp only [List.getElem?_toArray, List.getElem?_cons_succ, List.getElem?_cons_zero]; exact rfl)
      case an17 => kernel_rfl
      case bn17 => kernel_rfl
      case cn17 => kernel_rfl
      case qn17 => exact fun _ _ _ h => h
      case dn17 => rfl
      try simp only [Act.put, List.setIfInBounds_toArray, List.set_cons_zero, List.set_cons_succ]
      refine wpAnyH_take (i := 17) (oi := ?on18) ?hin18 ?an18 ?bn18 ?cn18 ?qn18 (Or.inr ⟨?dn18, rfl⟩) hHeld ?restn18
      case hin18 => (simp only [List.getElem?_toArray, List.getElem?_cons_succ, List.getElem?_cons_zero]; exact rfl)
      case an18 => kernel_rfl
      case bn18 => kernel_rfl
      case cn18 => kernel_rfl
      case qn18 => exact fun _ _ _ h => h
      case dn18 => rfl
      try simp only [Act.put, List.setIfInBounds_toArray, List.set_cons_zero, List.set_cons_succ]
      refine wpAnyH_take (i := 18) (oi := ?on19) ?hin19 ?an19 ?bn19 ?cn19 ?qn19 (Or.inr ⟨?dn19, rfl⟩) hHeld ?restn19
      case hin19 => (simp only [List.getElem?_toArray, List.getElem?_cons_succ, List.getElem?_cons_zero]; exact rfl)
      case an19 => kernel_rfl
      case bn19 => kernel_rfl
      case cn19 => kernel_rfl
      case qn19 => exact fun _ _ _ h => h
      case dn19 => rfl
      try simp only [Act.put, List.setIfInBounds_toArray, List.set_cons_zero, List.set_cons_succ]
      refine wpAnyH_take (i := 19) (oi := ?on20) ?hin20 ?an20 ?bn20 ?cn20 ?qn20 (Or.inr ⟨?dn20, rfl⟩) hHeld ?restn20
      case hin20 => (simp only [List.getElem?_toArray, List.getElem?_cons_succ, List.getElem?_cons_zero]; exact rfl)
      case an20 => kernel_rfl
      case bn20 => kernel_rfl
      case cn20 => kernel_rfl
      case qn20 => exact fun _ _ _ h => h
      case dn20 => rfl
      try simp only [Act.put, List.setIfInBounds_toArray, List.set_cons_zero, List.set_cons_succ]
      refine wpAnyH_take (i := 20) (oi := ?on21) ?hin21 ?an21 ?bn21 ?cn21 ?qn21 (Or.inr ⟨?dn21, rfl⟩) hHeld ?restn21
      case hin21 => (simp only [List.getElem?_toArray, List.getElem?_cons_succ, List.getElem?_cons_zero]; exact rfl)
      case an21 => kernel_rfl
      case bn21 => kernel_rfl
      case cn21 => kernel_rfl
      case qn21 => exact fun _ _ _ h => h
      case dn21 => rfl
      try simp only [Act.put, List.setIfInBounds_toArray, List.set_cons_zero, List.set_cons_succ]
      refine wpAnyH_take (i := 21) (oi := ?on22) (v := ?vn22) ?hin22 ?an22 ?bn22 ?cn22 ?qn22 (Or.inl ⟨?dn22, ?hyn22⟩) hHeld ?restn22
      case hin22 => (simp only [List.getElem?_toArray, List.getElem?_cons_succ, List.getElem?_cons_zero]; exact rfl)
      case an22 => kernel_rfl
      case bn22 => kernel_rfl
      case cn22 => kernel_rfl
      case qn22 => exact fun _ _ _ h => h
      case dn22 => rfl
      case hyn22 => (intro z hSw; (try dsimp only at hSw); go_simp; (try with_reducible rfl))
      try simp only [Act.put, List.setIfInBounds_toArray, List.set_cons_zero, List.set_cons_succ]
      refine wpAnyH_take (i := 22) (oi := ?on23) (v := ?vn23) ?hin23 ?an23 ?bn23 ?cn23 ?qn23 (Or.inl ⟨?dn23, ?hyn23⟩) hHeld ?restn23
      case hin23 => (simp only [List.getElem?_toArray, List.getElem?_cons_succ, List.getElem?_cons_zero]; exact rfl)
      case an23 => kernel_rfl
      case bn23 => kernel_rfl
      case cn23 => kernel_rfl
      case qn23 => exact fun _ _ _ h => h
      case dn23 => rfl
      case hyn23 => (intro z hSw; (try dsimp only at hSw); go_simp; (try with_reducible rfl))
      try simp only [Act.put, List.setIfInBounds_toArray, List.set_cons_zero, List.set_cons_succ]
      refine wpAnyH_done (by kernel_rfl) ?_ _
      go_wp2_with fail
      go_ret
      exact ⟨by rw [hR]; rfl, hal.trans h4⟩
    | true =>
      rw [hin, Bool.true_and] at hR
      rw [hin] at KNH
      replace KNH := Lib.hid KNH
      have hin2 : 0 ≤ fi ∧ fi ≤ (H.length : Int) - 1 := by simpa using hin
      obtain ⟨a, rfl⟩ : ∃ a : Nat, fi = (a : Int) := ⟨fi.toNat, by omega⟩
      rw [Int.toNat_natCast] at hR
      obtain ⟨⟨bH, oH, cH', uH, hvH, hcH, hnH⟩, hfa⟩ := HHY.out a (by omega)
      obtain ⟨rfl, rfl⟩ : AH = some ⟨bH, oH, none⟩ ∧ cH = cH' := by simpa using hvH
      have KE := Lib.hid (fun W (hW : Grew w W) => same_c _ _ _ _ W (hnH.grew hW) (HU.out W hW) (by omega))
      obtain ⟨AU, cU, rfl⟩ := nodes_slice hnH
      have hcH2 := fun W (hW : Grew wb W) => hcH W (hal.trans hW)
      have hah : (a : Int) < (H.length : Int) := by omega
      clear hvH hcH hnH HHY
      generalize decide (H.getD a [] = Fm.enc t) = eb at *
      generalize (H.getD a []).length = ul at *
      generalize H.length = hlen at *
      have iw : IntKind.i64.wrap ((hlen : Int) - 1) = (hlen : Int) - 1 := by rw [IntKind.wrap_i64]; omega
      go_enter Tryz.func58, Tryz.ntmps58
      go_wp2_with fail
      rw [← hwb]
      clear hwb
      refine wp_region_held_drew (S := fun w' => Grew wb w') (by kernel_rfl) rbd (fun hHeld => ?_)
      refine wpAnyH_take (i := 0) (oi := ?on24) (v := ?vn24) ?hin24 ?an24 ?bn24 ?cn24 ?qn24 (Or.inl ⟨?dn24, ?hyn24⟩) hHeld ?restn24
      case hin24 => (simp only [List.getElem?_toArray, List.getElem?_cons_zero]; exact rfl)
      case an24 => kernel_rfl
      case bn24 => kernel_rfl
      case cn24 => kernel_rfl
      case qn24 => exact fun _ _ _ h => h
      case dn24 => rfl
      case hyn24 => (intro z hSw; (try dsimp only at hSw); go_simp; (try with_reducible rfl))
      try simp only [Act.put, List.setIfInBounds_toArray, List.set_cons_zero, List.set_cons_succ]
      refine wpAnyH_take (i := 1) (oi := ?on25) (v := ?vn25) ?hin25 ?an25 ?bn25 ?cn25 ?qn25 (Or.inl ⟨?dn25, ?hyn25⟩) hHeld ?restn25
      case hin25 => (simp only [List.getElem?_toArray, List.getElem?_cons_succ, List.getElem?_cons_zero]; exact rfl)
      case an25 => kernel_rfl
      case bn25 => kernel_rfl
      case cn25 => kernel_rfl
      case qn25 => exact fun _ _ _ h => h
      case dn25 => rfl
      case hyn25 => (intro z hSw; (try dsimp only at hSw); go_simp; (try with_reducible rfl))
      try simp only [Act.put, List.setIfInBounds_toArray, List.set_cons_zero, List.set_cons_succ]
      refine wpAnyH_take (i := 2) (oi := ?on26) (v := ?vn26) ?hin26 ?an26 ?bn26 ?cn26 ?qn26 (Or.inl ⟨?dn26, ?hyn26⟩) hHeld ?restn26
      case hin26 => (simp only [List.getElem?_toArray, List.getElem?_cons_succ, List.getElem?_cons_zero]; exact rfl)
      case an26 => kernel_rfl
      case bn26 => kernel_rfl
      case cn26 => kernel_rfl
      case qn26 => exact fun _ _ _ h => h
      case dn26 => rfl
      case hyn26 => (intro z hSw; (try dsimp only at hSw); go_simp; (try with_reducible rfl))
      try simp only [Act.put, List.setIfInBounds_toArray, List.set_cons_zero, List.set_cons_succ]
      refine wpAnyH_take (i := 3) (oi := ?on27) (v := ?vn27) ?hin27 ?an27 ?bn27 ?cn27 ?qn27 (Or.inl ⟨?dn27, ?hyn27⟩) hHeld ?restn27
      case hin27 => (simp only [List.getElem?_toArray, List.getElem?_cons_succ, List.getElem?_cons_zero]; exact rfl)
      case an27 => kernel_rfl
      case bn27 => kernel_rfl
      case cn27 => kernel_rfl
      case qn27 => exact fun _ _ _ h => h
      case dn27 => rfl
      case hyn27 => (intro z hSw; (try dsimp only at hSw); go_simp; (try with_reducible rfl))
      try simp only [Act.put, List.setIfInBounds_toArray, List.set_cons_zero, List.set_cons_succ]
      refine wpAnyH_take (i := 4) (oi := ?on28) (v := ?vn28) ?hin28 ?an28 ?bn28 ?cn28 ?qn28 (Or.inl ⟨?dn28, ?hyn28⟩) hHeld ?restn28
      case hin28 => (simp only [List.getElem?_toArray, List.getElem?_cons_succ, List.getElem?_cons_zero]; exact rfl)
      case an28 => kernel_rfl
      case bn28 => kernel_rfl
      case cn28 => kernel_rfl
      case qn28 => exact fun _ _ _ h => h
      case dn28 => rfl
      case hyn28 => (intro z hSw; (try dsimp only at hSw); go_simp; (try with_reducible rfl))
      try simp only [Act.put, List.setIfInBounds_toArray, List.set_cons_zero, List.set_cons_succ]
      refine wpAnyH_take (i := 5) (oi := ?on29) (v := ?vn29) ?hin29 ?an29 ?bn29 ?cn29 ?qn29 (Or.inl ⟨?dn29, ?hyn29⟩) hHeld ?restn29
      case hin29 => (simp only [List.getElem?_toArray, List.getElem?_cons_succ, List.getElem?_cons_zero]; exact rfl)
      case an29 => kernel_rfl
      case bn29 => kernel_rfl
      case cn29 => kernel_rfl
      case qn29 => exact fun _ _ _ h => h
      case dn29 => rfl
      case hyn29 => (intro z hSw; (try dsimp only at hSw); go_simp; (try with_reducible rfl))
      try simp only [Act.put, List.setIfInBounds_toArray, List.set_cons_zero, List.set_cons_succ]
      refine wpAnyH_ready (rs := [6]) (by kernel_rfl) (by simp) ?_
      refine AllReadyH.cons (o := ?on30) ?hin30 ?restn30 AllReadyH.nil
      case hin30 => (simp only [List.getElem?_toArray, List.getElem?_cons_succ, List.getElem?_cons_zero]; exact rfl)
      intro K hK
      go_simp
      go_at_call 76
      refine (KZ.out _).mono ?_
      rintro e w3 ⟨rfl, hg3⟩
      have h3 : Grew wb w3 := Grew.trans (by repeat (first | with_reducible assumption | with_reducible refine Grew.alloc ?_ _ | with_reducible refine Grew.drew ?_ | with_reducible refine Grew.drewN ?_ _)) hg3
      refine hK.out _ _ ?_ (fun hHeld => ?_)
      · (try dsimp only); first | with_reducible assumption | exact Grew.alloc ‹_› _
      clear hK K
      try simp only [Act.put, List.setIfInBounds_toArray, List.set_cons_zero, List.set_cons_succ]
      refine wpAnyH_take (i := 7) (oi := ?on31) (v := ?vn31) ?hin31 ?an31 ?bn31 ?cn31 ?qn31 (Or.inl ⟨?dn31, ?hyn31⟩) hHeld ?restn31
      case hin31 => (simp only [List.getElem?_toArray, List.getElem?_cons_succ, List.getElem?_cons_zero]; exact rfl)
      case an31 => kernel_rfl
      case bn31 => kernel_rfl
      case cn31 => kernel_rfl
      case qn31 => exact fun _ _ _ h => h
      case dn31 => rfl
      case hyn31 => (intro z hSw; (try dsimp only at hSw); go_simp; (try with_reducible rfl))
      try simp only [Act.put, List.setIfInBounds_toArray, List.set_cons_zero, List.set_cons_succ]
      refine wpAnyH_ready (rs := [8]) (by kernel_rfl) (by simp) ?_
      refine AllReadyH.cons (o := ?on32) ?hin32 ?restn32 AllReadyH.nil
      case hin32 => (simp only [List.getElem?_toArray, List.getElem?_cons_succ, List.getElem?_cons_zero]; exact rfl)
      intro K hK
      go_simp
      go_at_call 57
      refine (KNH.out _).mono ?_
      rintro e w4 ⟨rfl, hg4⟩
      have h4 : Grew wb w4 := h3.trans hg4
      refine hK.out _ _ ?_ (fun hHeld => ?_)
      · (try dsimp only); first | with_reducible assumption | exact Grew.alloc ‹_› _
      clear hK K
      try simp only [Act.put, List.setIfInBounds_toArray, List.set_cons_zero, List.set_cons_succ]
      refine wpAnyH_take (i := 9) (oi := ?on33) (v := ?vn33) ?hin33 ?an33 ?bn33 ?cn33 ?qn33 (Or.inl ⟨?dn33, ?hyn33⟩) hHeld ?restn33
      case hin33 => (simp only [List.getElem?_toArray, List.getElem?_cons_succ, List.getElem?_cons_zero]; exact rfl)
      case an33 => kernel_rfl
      case bn33 => kernel_rfl
      case cn33 => kernel_rfl
      case qn33 => exact fun _ _ _ h => h
      case dn33 => rfl
      case hyn33 => (intro z hSw; (try dsimp only at hSw); go_simp; (try with_reducible rfl))
      try simp only [Act.put, List.setIfInBounds_toArray, List.set_cons_zero, List.set_cons_succ]
      refine wpAnyH_take (i := 10) (oi := ?on34) (v := ?vn34) ?hin34 ?an34 ?bn34 ?cn34 ?qn34 (Or.inl ⟨?dn34, ?hyn34⟩) hHeld ?restn34
      case hin34 => (simp only [List.getElem?_toArray, List.getElem?_cons_succ, List.getElem?_cons_zero]; exact rfl)
      case an34 => kernel_rfl
      case bn34 => kernel_rfl
      case cn34 => kernel_rfl
      case qn34 => exact fun _ _ _ h => h
      case dn34 => rfl
      case hyn34 => (intro z hSw; (try dsimp only at hSw); go_simp; (try with_reducible rfl))
      try simp only [Act.put, List.setIfInBounds_toArray, List.set_cons_zero, List.set_cons_succ]
      refine wpAnyH_take (i := 11) (oi := ?on35) (v := ?vn35) ?hin35 ?an35 ?bn35 ?cn35 ?qn35 (Or.inl ⟨?dn35, ?hyn35⟩) hHeld ?restn35
      case hin35 => (simp only [List.getElem?_toArray, List.getElem?_cons_succ, List.getElem?_cons_zero]; exact rfl)
      case an35 => kernel_rfl
      case bn35 => kernel_rfl
      case cn35 => kernel_rfl
      case qn35 => exact fun _ _ _ h => h
      case dn35 => rfl
      case hyn35 => (intro z hSw; (try dsimp only at hSw); go_simp; (try with_reducible rfl))
      try simp only [Act.put, List.setIfInBounds_toArray, List.set_cons_zero, List.set_cons_succ]
      refine wpAnyH_take (i := 12) (oi := ?on36) (v := ?vn36) ?hin36 ?an36 ?bn36 ?cn36 ?qn36 (Or.inl ⟨?dn36, ?hyn36⟩) hHeld ?restn36
      case hin36 => (simp only [List.getElem?_toArray, List.getElem?_cons_succ, List.getElem?_cons_zero]; exact rfl)
      case an36 => kernel_rfl
      case bn36 => kernel_rfl
      case cn36 => kernel_rfl
      case qn36 => exact fun _ _ _ h => h
      case dn36 => rfl
      case hyn36 => (intro z hSw; (try dsimp only at hSw); go_simp; (try with_reducible rfl))
      try simp only [Act.put, List.setIfInBounds_toArray, List.set_cons_zero, List.set_cons_succ]
      refine wpAnyH_take (i := 13) (oi := ?on37) (v := ?vn37) ?hin37 ?an37 ?bn37 ?cn37 ?qn37 (Or.inl ⟨?dn37, ?hyn37⟩) hHeld ?restn37
      case hin37 => (simp only [List.getElem?_toArray, List.getElem?_cons_succ, List.getElem?_cons_zero]; exact rfl)
      case an37 => kernel_rfl
      case bn37 => kernel_rfl
      case cn37 => kernel_rfl
      case qn37 => exact fun _ _ _ h => h
      case dn37 => rfl
      case hyn37 => (intro z hSw; (try dsimp only at hSw); go_simp; (try with_reducible rfl))
      try simp only [Act.put, List.setIfInBounds_toArray, List.set_cons_zero, List.set_cons_succ]
      refine wpAnyH_take (i := 14) (oi := ?on38) (v := ?vn38) ?hin38 ?an38 ?bn38 ?cn38 ?qn38 (Or.inl ⟨?dn38, ?hyn38⟩) hHeld ?restn38
      case hin38 => (simp only [List.getElem?_toArray, List.getElem?_cons_succ, List.getElem?_cons_zero]; exact rfl)
      case an38 => kernel_rfl
      case bn38 => kernel_rfl
      case cn38 => kernel_rfl
      case qn38 => exact fun _ _ _ h => h
      case dn38 => rfl
      case hyn38 => (intro z hSw; (try dsimp only at hSw); go_simp; (try with_reducible rfl))
      try simp only [Act.put, List.setIfInBounds_toArray, List.set_cons_zero, List.set_cons_succ]
      refine wpAnyH_take (i := 15) (oi := ?on39) (v := ?vn39) ?hin39 ?an39 ?bn39 ?cn39 ?qn39 (Or.inl ⟨?dn39, ?hyn39⟩) hHeld ?restn39
      case hin39 => (simp only [List.getElem?_toArray, List.getElem?_cons_succ, List.getElem?_cons_zero]; exact rfl)
      case an39 => kernel_rfl
      case bn39 => kernel_rfl
      case cn39 => kernel_rfl
      case qn39 => exact fun _ _ _ h => h
      case dn39 => rfl
      case hyn39 => (intro z hSw; (try dsimp only at hSw); go_simp; (try with_reducible rfl))
      try simp only [Act.put, List.setIfInBounds_toArray, List.set_cons_zero, List.set_cons_succ]
      refine wpAnyH_take (i := 16) (oi := ?on40) (v := ?vn40) ?hin40 ?an40 ?bn40 ?cn40 ?qn40 (Or.inl ⟨?dn40, ?hyn40⟩) hHeld ?restn40
      case hin40 => (simp only [List.getElem?_toArray, List.getElem?_cons_succ, List.getElem?_cons_zero]; exact rfl)
      case an40 => kernel_rfl
      case bn40 => kernel_rfl
      case cn40 => kernel_rfl
      case qn40 => exact fun _ _ _ h => h
      case dn40 => rfl
      case hyn40 => (intro z hSw; (try dsimp only at hSw); go_simp; (try with_reducible rfl))
      try simp only [Act.put, List.setIfInBounds_toArray, List.set_cons_zero, List.set_cons_succ]
      refine wpAnyH_take (i := 17) (oi := ?on41) (v := ?vn41) ?hin41 ?an41 ?bn41 ?cn41 ?qn41 (Or.inl ⟨?dn41, ?hyn41⟩) hHeld ?restn41
      case hin41 => (simp only [List.getElem?_toArray, List.getElem?_cons_succ, List.getElem?_cons_zero]; exact rfl)
      case an41 => kernel_rfl
      case bn41 => kernel_rfl
      case cn41 => kernel_rfl
      case qn41 => exact fun _ _ _ h => h
      case dn41 => rfl
      case hyn41 => (intro z hSw; (try dsimp only at hSw); go_simp; (try with_reducible rfl))
      try simp only [Act.put, List.setIfInBounds_toArray, List.set_cons_zero, List.set_cons_succ]
      refine wpAnyH_take (i := 18) (oi := ?on42) (v := ?vn42) ?hin42 ?an42 ?bn42 ?cn42 ?qn42 (Or.inl ⟨?dn42, ?hyn42⟩) hHeld ?restn42
      case hin42 => (simp only [List.getElem?_toArray, List.getElem?_cons_succ, List.getElem?_cons_zero]; exact rfl)
      case an42 => kernel_rfl
      case bn42 => kernel_rfl
      case cn42 => kernel_rfl
      case qn42 => exact fun _ _ _ h => h
      case dn42 => rfl
      case hyn42 => (intro z hSw; (try dsimp only at hSw); go_simp; (try with_reducible rfl))
      try simp only [Act.put, List.setIfInBounds_toArray, List.set_cons_zero, List.set_cons_succ]
      refine wpAnyH_take (i := 19) (oi := ?on43) (v := ?vn43) ?hin43 ?an43 ?bn43 ?cn43 ?qn43 (Or.inl ⟨?dn43, ?hyn43⟩) hHeld ?restn43
      case hin43 => (simp only [List.getElem?_toArray, List.getElem?_cons_succ, List.getElem?_cons_zero]; exact rfl)
      case an43 => kernel_rfl
      case bn43 => kernel_rfl
      case cn43 => kernel_rfl
      case qn43 => exact fun _ _ _ h => h
      case dn43 => rfl
      case hyn43 => (intro z hSw; (try dsimp only at hSw); go_simp; (try with_reducible rfl))
      try simp only [Act.put, List.setIfInBounds_toArray, List.set_cons_zero, List.set_cons_succ]
      refine wpAnyH_ready (rs := [20]) (by kernel_rfl) (by simp) ?_
      refine AllReadyH.cons (o := ?on44) ?hin44 ?restn44 AllReadyH.nil
      case hin44 => (simp only [List.getElem?_toArray, List.getElem?_cons_succ, List.getElem?_cons_zero]; exact rfl)
      intro K hK
      go_simp
      go_at_call 59
      refine (KE.out _ (hal.trans h4)).mono ?_
      rintro e w5 ⟨rfl, hg5⟩
      have h5 : Grew wb w5 := h4.trans hg5
      refine hK.out _ _ ?_ (fun hHeld => ?_)
      · (try dsimp only); first | with_reducible assumption | exact Grew.alloc ‹_› _
      clear hK K
      try simp only [Act.put, List.setIfInBounds_toArray, List.set_cons_zero, List.set_cons_succ]
      refine wpAnyH_take (i := 21) (oi := ?on45) (v := ?vn45) ?hin45 ?an45 ?bn45 ?cn45 ?qn45 (Or.inl ⟨?dn45, ?hyn45⟩) hHeld ?restn45
      case hin45 => (simp only [List.getElem?_toArray, List.getElem?_cons_succ, List.getElem?_cons_zero]; exact rfl)
      case an45 => kernel_rfl
      case bn45 => kernel_rfl
      case cn45 => kernel_rfl
      case qn45 => exact fun _ _ _ h => h
      case dn45 => rfl
      case hyn45 => (intro z hSw; (try dsimp only at hSw); go_simp; (try with_reducible rfl))
      try simp only [Act.put, List.setIfInBounds_toArray, List.set_cons_zero, List.set_cons_succ]
      refine wpAnyH_take (i := 22) (oi := ?on46) (v := ?vn46) ?hin46 ?an46 ?bn46 ?cn46 ?qn46 (Or.inl ⟨?dn46, ?hyn46⟩) hHeld ?restn46
      case hin46 => (simp only [List.getElem?_toArray, List.getElem?_cons_succ, List.getElem?_cons_zero]; exact rfl)
      case an46 => kernel_rfl
      case bn46 => kernel_rfl
      case cn46 => kernel_rfl
      case qn46 => exact fun _ _ _ h => h
      case dn46 => rfl
      case hyn46 => (intro z hSw; (try dsimp only at hSw); go_simp; (try with_reducible rfl))
      try simp only [Act.put, List.setIfInBounds_toArray, List.set_cons_zero, List.set_cons_succ]
      refine wpAnyH_done (by kernel_rfl) ?_ _
      go_wp2_with fail
      go_ret
      exact ⟨by rw [hR]; rfl, hal.trans h5⟩
  rw [ax_n h2r, hse, Bool.true_and] at hR
  have z2 : (rr == 2) = false := by simpa using h2r
  have KS := Lib.hid (fun W => schemesOf_c s W)
  have c00 : (w.alloc (.cells #[.int .i64 rr, .int .i64 fi, .int .i64 se, .slice A0 fl c0] 51)).cell? ⟨D, 0, none⟩ = some (.string s) := by rw [← hwb]; exact b0 wb rb
  cases hhas : decide (fi ∈ (sysL s).getD []) with
  | false =>
    rw [hhas, Bool.false_and] at hR
    go_enter Tryz.func58, Tryz.ntmps58
    go_wp2_with fail
    rw [← hwb]
    clear hwb c00
    refine (KS.out _).mono ?_
    rintro e w3 ⟨v3, rfl, ho3, hg3⟩
    obtain ⟨A3, c3, rfl⟩ := ints_slice ho3.ints
    have h3 : Grew wb w3 := Grew.trans (by repeat (first | with_reducible assumption | with_reducible refine Grew.alloc ?_ _ | with_reducible refine Grew.drew ?_ | with_reducible refine Grew.drewN ?_ _)) hg3
    have KH := containsI_c _ _ fi w3 ho3.ints
    rw [hhas] at KH
    replace KH := Lib.hid KH
    clear ho3
    generalize ((sysL s).getD []).length = sl at *
    have r3 := Grew.refl w3
    go_wp2_with fail
    refine KH.out.mono ?_
    rintro e w4 ⟨rfl, hg4⟩
    go_wp2_with fail
    go_ret
    exact ⟨by rw [hR]; rfl, hal.trans (h3.trans hg4)⟩
  | true =>
    rw [hhas, Bool.true_and] at hR
    have hmem : fi ∈ (sysL s).getD [] := by simpa using hhas
    have hfi : 0 ≤ fi ∧ fi < 19 := by
      cases hsy : sysL s with
      | none => rw [hsy] at hmem; simp at hmem
      | some Ls => rw [hsy] at hmem; exact (sysL_mem hsy).2.2 fi hmem
    obtain ⟨a, rfl⟩ : ∃ a : Nat, fi = (a : Int) := ⟨fi.toNat, by omega⟩
    rw [Int.toNat_natCast] at hR
    have KI := Lib.hid (fun W (hW : Grew w W) => isInstance_c a _ t W (by omega) (HTX.out W hW) (HU.out W hW) (by rw [hfl.out]; exact ht))
    generalize instB a (Fm.enc t) = ib at *
    clear hmem
    go_enter Tryz.func58, Tryz.ntmps58
    go_wp2_with fail
    rw [← hwb]
    clear hwb c00
    refine (KS.out _).mono ?_
    rintro e w3 ⟨v3, rfl, ho3, hg3⟩
    obtain ⟨A3, c3, rfl⟩ := ints_slice ho3.ints
    have h3 : Grew wb w3 := Grew.trans (by repeat (first | with_reducible assumption | with_reducible refine Grew.alloc ?_ _ | with_reducible refine Grew.drew ?_ | with_reducible refine Grew.drewN ?_ _)) hg3
    have KH := containsI_c _ _ (a : Int) w3 ho3.ints
    rw [hhas] at KH
    replace KH := Lib.hid KH
    clear ho3
    generalize ((sysL s).getD []).length = sl at *
    have r3 := Grew.refl w3
    go_wp2_with fail
    refine KH.out.mono ?_
    rintro e w4 ⟨rfl, hg4⟩
    have h4 := h3.trans hg4
    have r4 := Grew.refl w4
    go_wp2_with fail
    refine (KI.out _ (hal.trans h4)).mono ?_
    rintro e w5 ⟨rfl, hg5⟩
    go_wp2_with fail
    go_ret
    exact ⟨by rw [hR]; rfl, hal.trans (h4.trans hg5)⟩
end Go.Proofs.YtnbnhapepcegpaaGreatDoor

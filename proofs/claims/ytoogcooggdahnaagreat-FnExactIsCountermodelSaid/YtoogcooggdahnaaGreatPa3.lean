/- Texts in one file: KrR MbF MbE Make MbW MbR MbX MbH Range MbP MbQ MbEl MbY. -/
import Derived.Deep.QuietTactic
import Derived.BigQuiet
import Derived.Deep.LoopGhost
import Derived.Lib.SliceRun
import Derived.Lib.SlicesS
import Derived.Outline
import Derived.Deep.OwnRows
import Derived.Deep.RegionHeld3
import Derived.Shelf.Abstract
import Derived.Test.YtoogcooggdahnaaGreatProg
import Derived.Test.YtoogcooggdahnaaGreatPa1
import Derived.Test.YtoogcooggdahnaaGreatPa2
set_option linter.all false

/- The elements at which a sequent is refuted: refuted of the program, l24Against of the reference. -/
namespace Go.Proofs.YtoogcooggdahnaaGreat
open Go.RowKit
open Fm (Nd Tree)

theorem pf_fo {s : ByteArray} (h : gp s = true) : (Fm.pf s).1 = Fm.enc (fo s) := by
  obtain ⟨h1, h2⟩ := fo_ok h
  have := tx_pf h1.1
  rw [h2] at this
  rw [this]
/-- The elements where the first k formulas of a list are forced and another one is not. -/
def rf (A V : List Nat) (T : Nat → Tree) (c : Tree) : Nat → Nat
  | 0 => dif (full A.length) (fv A V c)
  | k + 1 => rf A V T c k &&& fv A V (T k)
theorem rf_sm {A V : List Nat} (hA : Rl A) (T : Nat → Tree) (c : Tree) : ∀ k, rf A V T c k < 1073741824
  | 0 => by
    have h1 := full_lt A.length
    have h2 := pow30' hA.1
    have h3 := dif_le (a := full A.length) (b := fv A V c)
    show dif _ _ < _
    omega
  | k + 1 => Nat.lt_of_le_of_lt Nat.and_le_left (rf_sm hA T c k)
/-- A list of lists of nodes: each is there in all later worlds. -/
theorem lists_open {w : World} {v : Value} {LL : List (List Nd)} (h : Lists w v LL) : ∃ B c, v = .slice B LL.length c ∧ (0 < LL.length → ∃ b o, B = some ⟨b, o, none⟩ ∧ ∀ i, i < LL.length → ∃ A n cA, (∀ W, Grew w W → W.cell? ⟨b, o + i, none⟩ = some (.slice A n cA)) ∧ Nodes w (.slice A n cA) (LL.getD i [])) := by
  rcases h with ⟨rfl, rfl⟩ | ⟨b, o, c, rfl, h1, h2, h3, h4⟩
  · exact ⟨none, 0, rfl, fun h => absurd h (by simp)⟩
  · refine ⟨_, c, rfl, fun _ => ⟨b, o, rfl, fun i hi => ?_⟩⟩
    obtain ⟨u, h5, h6⟩ := h4 i hi
    obtain ⟨A, cA, rfl⟩ := nodes_slice h6
    exact ⟨A, _, cA, fun W hW => (hW.cell (p := ⟨b, o + i, none⟩) h3).trans h5, h6⟩

set_option maxHeartbeats 4000000 in
theorem refuted_c (v u vl : Value) (A V : List Nat) (L : List ByteArray) (s : ByteArray) (w : World) (h : Ints w v (zs A)) (hu : Ints w u (zs V)) (hL : Strs w vl L) (hA : Rl A) (hV : ∀ m ∈ V, m < 2 ^ A.length) (hl : V.length = 6) (hs : gp s = true) (hg : ∀ i, i < L.length → gp (st L i) = true) (hF : Fits L) (hn : L.length ≤ 1048576) (hz : s.size ≤ 140737488355328) :
    Calls Tryz.prog 24 #[.agg #[.int .i64 (A.length : Int), v], u, vl, .string s] w fun e w' => e = .returned (.int .i64 ((rf A V (fun j => fo (st L j)) (fo s) L.length : Nat) : Int)) ∧ Grew w w' := by
  have KP := Lib.hid (fun W => parsed_c s W hz)
  rw [pf_fo hs] at KP
  have KL := Lib.hid (fun W (hW : Grew w W) => formulasOf_c vl L W (hL.grew hW) hF hn)
  have KA := Lib.hid (fun W hv => posAll_c A.length v W hv hA.1)
  have KF := Lib.hid (fun t va W (hW : Grew w W) (hn : Nodes W va (Fm.enc t)) ht => forced_c v u va A V t W (h.grew hW) (hu.grew hW) hn hA hV hl ht)
  have HC0 := Lib.hid (fo_ok hs).1
  have h1 := full_lt A.length
  have h2 := pow30' hA.1
  have hd := andNot_i64 (full A.length) (fv A V (fo s)) (by omega) (by have := fv_sm hA hV (fo s); omega)
  have HD := Lib.hid (show dif (full A.length) (fv A V (fo s)) = rf A V (fun j => fo (st L j)) (fo s) 0 from rfl)
  have HR := Lib.hid (fun k => show rf A V (fun j => fo (st L j)) (fo s) (k + 1) = rf A V (fun j => fo (st L j)) (fo s) k &&& fv A V (fo (st L k)) from rfl)
  have HS := Lib.hid (fun k => rf_sm (V := V) hA (fun j => fo (st L j)) (fo s) k)
  have HV := Lib.hid (fun t => fv_sm hA hV t)
  have HT := Lib.hid (fun i (hi : i < L.length) => (fo_ok (hg i hi)).1)
  have HLF := Lib.hid (fun i (hi : i < L.length) => (lf_at hi).trans (pf_fo (hg i hi)))
  have HLN := Lib.hid (lf_length L)
  obtain ⟨A', cA, rfl⟩ := ints_sliceN h
  obtain ⟨AU, cu, rfl⟩ := ints_sliceN hu
  obtain ⟨AL, cL, rfl⟩ := strs_slice hL
  have KA := Lib.hid (fun W => KA.out W ⟨_, _, _, rfl⟩)
  clear h hu hL hV hl hs hg hF hz h1 h2 hA
  generalize hdd : dif (full A.length) (fv A V (fo s)) = D0 at *
  clear hdd
  generalize full A.length = FU at *
  generalize hCC : fo s = C at *
  clear hCC
  generalize hRR : rf A V (fun j => fo (st L j)) C = RF at *
  clear hRR
  generalize V.length = NV at *
  generalize L.length = n at *
  generalize A.length = NA at *
  obtain ⟨w1, hw1⟩ : ∃ w1, w1 = w.alloc (.cells #[.int .i64 (NA : Int), .slice A' NA cA] 30) := ⟨_, rfl⟩
  have hal : Grew w w1 := by rw [hw1]; exact (Grew.refl w).alloc _
  have hb0 : w1.heap[w.heap.size]? = some (.cells #[.int .i64 (NA : Int), .slice A' NA cA] 30 (0, 0)) := by rw [hw1]; exact blk_new w _
  have p0 : ∀ W, Grew w1 W → W.cell? ⟨w.heap.size, 0, none⟩ = some (.int .i64 (NA : Int)) := fun W hW => by rw [blk_cell ((hW.block (blk_lt hb0)).trans hb0)]; rfl
  have p1 : ∀ W, Grew w1 W → W.cell? ⟨w.heap.size, 1, none⟩ = some (.slice A' NA cA) := fun W hW => by rw [blk_cell ((hW.block (blk_lt hb0)).trans hb0)]; rfl
  have HAL := Lib.hid hal
  have hr1 := Grew.refl w1
  have hd1 := hr1.drew
  clear hal hb0
  go_enter Tryz.func24, Tryz.ntmps24
  go_wp2_with fail
  simp only [← hw1]
  clear hw1
  refine wp_region_held_drew (S := fun w' => Grew w1 w') (by kernel_rfl) hd1 (fun hHeld => ?_)
  refine wpAnyH_take (i := 0) (oi := ?on1) (v := ?vn1) ?hin1 ?an1 ?bn1 ?cn1 ?qn1 (Or.inl ⟨?dn1, ?hyn1⟩) hHeld ?restn1
  case hin1 => (simp only [List.getElem?_toArray, List.getElem?_cons_zero]; exact rfl)
  case an1 => kernel_rfl
  case bn1 => kernel_rfl
  case cn1 => kernel_rfl
  case qn1 => exact fun _ _ _ h => h
  case dn1 => rfl
  case hyn1 => (intro z hSw; (try dsimp only at hSw); go_simp; (try with_reducible rfl))
  try simp only [Act.put, List.setIfInBounds_toArray, List.set_cons_zero, List.set_cons_succ]
  refine wpAnyH_take (i := 2) (oi := ?on2) (v := ?vn2) ?hin2 ?an2 ?bn2 ?cn2 ?qn2 (Or.inl ⟨?dn2, ?hyn2⟩) hHeld ?restn2
  case hin2 => (simp only [List.getElem?_toArray, List.getElem?_cons_succ, List.getElem?_cons_zero]; exact rfl)
  case an2 => kernel_rfl
  case bn2 => kernel_rfl
  case cn2 => kernel_rfl
  case qn2 => exact fun _ _ _ h => h
  case dn2 => rfl
  case hyn2 => (intro z hSw; (try dsimp only at hSw); go_simp; (try with_reducible rfl))
  try simp only [Act.put, List.setIfInBounds_toArray, List.set_cons_zero, List.set_cons_succ]
  refine wpAnyH_take (i := 3) (oi := ?on3) (v := ?vn3) ?hin3 ?an3 ?bn3 ?cn3 ?qn3 (Or.inl ⟨?dn3, ?hyn3⟩) hHeld ?restn3
  case hin3 => (simp only [List.getElem?_toArray, List.getElem?_cons_succ, List.getElem?_cons_zero]; exact rfl)
  case an3 => kernel_rfl
  case bn3 => kernel_rfl
  case cn3 => kernel_rfl
  case qn3 => exact fun _ _ _ h => h
  case dn3 => rfl
  case hyn3 => (intro z hSw; (try dsimp only at hSw); go_simp; (try with_reducible rfl))
  try simp only [Act.put, List.setIfInBounds_toArray, List.set_cons_zero, List.set_cons_succ]
  refine wpAnyH_take (i := 4) (oi := ?on4) (v := ?vn4) ?hin4 ?an4 ?bn4 ?cn4 ?qn4 (Or.inl ⟨?dn4, ?hyn4⟩) hHeld ?restn4
  case hin4 => (simp only [List.getElem?_toArray, List.getElem?_cons_succ, List.getElem?_cons_zero]; exact rfl)
  case an4 => kernel_rfl
  case bn4 => kernel_rfl
  case cn4 => kernel_rfl
  case qn4 => exact fun _ _ _ h => h
  case dn4 => rfl
  case hyn4 => (intro z hSw; (try dsimp only at hSw); go_simp; (try with_reducible rfl))
  try simp only [Act.put, List.setIfInBounds_toArray, List.set_cons_zero, List.set_cons_succ]
  refine wpAnyH_ready (rs := [1]) (by kernel_rfl) (by simp) ?_
  refine AllReadyH.cons (o := ?on5) ?hin5 ?restn5 AllReadyH.nil
  case hin5 => (simp only [List.getElem?_toArray, List.getElem?_cons_succ, List.getElem?_cons_zero]; exact rfl)
  intro K hK
  go_simp
  go_at_call 39
  refine (KA.out _).mono ?_
  rintro e w2 ⟨rfl, hgw2⟩
  have h2 : Grew w1 w2 := hd1.trans hgw2
  refine hK.out _ _ ?_ (fun hHeld => ?_)
  · (try dsimp only); first | with_reducible assumption | exact Grew.alloc ‹_› _
  clear hK K
  try simp only [Act.put, List.setIfInBounds_toArray, List.set_cons_zero, List.set_cons_succ]
  refine wpAnyH_ready (rs := [5]) (by kernel_rfl) (by simp) ?_
  refine AllReadyH.cons (o := ?on6) ?hin6 ?restn6 AllReadyH.nil
  case hin6 => (simp only [List.getElem?_toArray, List.getElem?_cons_succ, List.getElem?_cons_zero]; exact rfl)
  intro K hK
  go_simp
  go_at_call 41
  refine (KP.out _).mono ?_
  rintro e w3 ⟨va, rfl, hn3, hgw3, hz3⟩
  clear hz3
  obtain ⟨B3, e3, rfl⟩ := nodes_slice hn3.nodes
  have h3 : Grew w1 w3 := h2.trans hgw3
  refine hK.out _ _ ?_ (fun hHeld => ?_)
  · (try dsimp only); first | with_reducible assumption | exact Grew.alloc ‹_› _
  clear hK K
  try simp only [Act.put, List.setIfInBounds_toArray, List.set_cons_zero, List.set_cons_succ]
  refine wpAnyH_ready (rs := [6]) (by kernel_rfl) (by simp) ?_
  refine AllReadyH.cons (o := ?on7) ?hin7 ?restn7 AllReadyH.nil
  case hin7 => (simp only [List.getElem?_toArray, List.getElem?_cons_succ, List.getElem?_cons_zero]; exact rfl)
  intro K hK
  go_simp
  go_at_call 40
  refine (KF.out _ _ _ (HAL.out.trans h3) hn3.nodes HC0.out).mono ?_
  rintro e w4 ⟨rfl, hgw4⟩
  have h4 : Grew w1 w4 := h3.trans hgw4
  refine hK.out _ _ ?_ (fun hHeld => ?_)
  · (try dsimp only); first | with_reducible assumption | exact Grew.alloc ‹_› _
  clear hK K
  try simp only [Act.put, List.setIfInBounds_toArray, List.set_cons_zero, List.set_cons_succ]
  refine wpAnyH_take (i := 7) (oi := ?on8) (v := ?vn8) ?hin8 ?an8 ?bn8 ?cn8 ?qn8 (Or.inl ⟨?dn8, ?hyn8⟩) hHeld ?restn8
  case hin8 => (simp only [List.getElem?_toArray, List.getElem?_cons_succ, List.getElem?_cons_zero]; exact rfl)
  case an8 => kernel_rfl
  case bn8 => kernel_rfl
  case cn8 => kernel_rfl
  case qn8 => exact fun _ _ _ h => h
  case dn8 => rfl
  case hyn8 => (intro z hSw; (try dsimp only at hSw); go_simp; (try with_reducible rfl))
  try simp only [Act.put, List.setIfInBounds_toArray, List.set_cons_zero, List.set_cons_succ]
  refine wpAnyH_take (i := 8) (oi := ?on9) (v := ?vn9) ?hin9 ?an9 ?bn9 ?cn9 ?qn9 (Or.inl ⟨?dn9, ?hyn9⟩) hHeld ?restn9
  case hin9 => (simp only [List.getElem?_toArray, List.getElem?_cons_succ, List.getElem?_cons_zero]; exact rfl)
  case an9 => kernel_rfl
  case bn9 => kernel_rfl
  case cn9 => kernel_rfl
  case qn9 => exact fun _ _ _ h => h
  case dn9 => rfl
  case hyn9 => (intro z hSw; (try dsimp only at hSw); go_simp; (try with_reducible rfl))
  try simp only [Act.put, List.setIfInBounds_toArray, List.set_cons_zero, List.set_cons_succ]
  refine wpAnyH_done (by kernel_rfl) ?_ _
  clear hn3 hgw3 hgw2 hgw4 h3 h2
  go_wp2_with fail
  refine (KL.out _ (HAL.out.trans h4)).mono ?_
  rintro e w5 ⟨vq, rfl, hq, hg5⟩
  have h5 : Grew w1 w5 := h4.trans hg5
  obtain ⟨B, cB, rfl, hqc⟩ := lists_open hq
  rw [HLN.out] at hqc ⊢
  have HQ := Lib.hid hqc
  clear hqc hq hg5 h4
  go_wp2_with fail
  go_loopw [9, 11, 23] (fun q _ i wr => ∃ j : Nat, j ≤ n ∧ i = .int .i64 j ∧ q = .int .i64 ((RF j : Nat) : Int) ∧ Grew w5 wr) (fun _ _ i _ => n - (intOf i).toNat)
  case atStart => exact ⟨0, by omega, rfl, by rw [HD.out], Grew.refl _⟩
  case round =>
    obtain ⟨j, hj, rfl, rfl, hB⟩ := hrel
    by_cases hlt : j < n
    · obtain ⟨b2, o2, rfl, hcell⟩ := HQ.out (by omega)
      obtain ⟨A6, n6, c6, hc6, hn6⟩ := hcell j hlt
      rw [HLF.out j hlt] at hn6
      have k1 := hc6 _ hB
      have h1r := h5.trans hB
      have KFj := Lib.hid (KF.out (fo (st L j)) _ wr (HAL.out.trans h1r) (hn6.grew hB) (HT.out j hlt))
      have hop := and_i64 (RF j) (fv A V (fo (st L j))) (by have := HS.out j; omega) (by have := HV.out (fo (st L j)); omega)
      have hr := HR.out j
      rw [hr.symm] at hop
      have q0 := p0 _ h1r
      have q1 := p1 _ h1r
      clear hcell hc6 hn6 hr
      generalize fv A V (fo (st L j)) = y at *
      go_wp2_with fail
      refine KFj.out.mono ?_
      rintro e w7 ⟨rfl, hg7⟩
      go_wp2_with fail
      go_roundw
      case rel => exact ⟨j + 1, by omega, by go_num, rfl, hB.trans hg7⟩
      case measure => simp [intOf]; omega
    · obtain rfl : j = n := by omega
      go_wp2_with fail
      go_ret
      exact ⟨rfl, HAL.out.trans (h5.trans hB)⟩
set_option maxHeartbeats 4000000 in
theorem l24Against_c (v u vl : Value) (A V : List Nat) (L : List ByteArray) (s : ByteArray) (w : World) (h : Ints w v (zs A)) (hu : Ints w u (zs V)) (hL : Strs w vl L) (hA : Rl A) (hV : ∀ m ∈ V, m < 2 ^ A.length) (hl : V.length = 6) (hs : gp s = true) (hg : ∀ i, i < L.length → gp (st L i) = true) (hF : Fits L) (hn : L.length ≤ 1048576) (hz : s.size ≤ 140737488355328) :
    Calls Tryz.prog 19 #[.agg #[.int .i64 (A.length : Int), v], u, vl, .string s] w fun e w' => e = .returned (.int .i64 ((rf A V (fun j => fo (st L j)) (fo s) L.length : Nat) : Int)) ∧ Grew w w' := by
  have KP := fun W => l22Formula_c s W hz
  unfold GivesP at KP
  simp only [pf_fo hs, hs] at KP
  replace KP := Lib.hid KP
  have KL := Lib.hid (fun W (hW : Grew w W) => l22Formulas_c vl L W (hL.grew hW) hF hn)
  have KA := Lib.hid (fun W => (l01Full_q A.length hA.1 W).mono fun e w' (h : _ ∧ _) => (⟨h.1.trans (by rw [full_cast]), h.2⟩ : e = .returned (.int .i64 ((full A.length : Nat) : Int)) ∧ w' = W))
  have KF := Lib.hid (fun t va W (hW : Grew w W) (hn : Nodes W va (Fm.enc t)) ht => force_ok A V hA hV hl t v u va W (h.grew hW) (hu.grew hW) hn ht)
  have HC0 := Lib.hid (fo_ok hs).1
  have h1 := full_lt A.length
  have h2 := pow30' hA.1
  have hd := andNot_i64 (full A.length) (fv A V (fo s)) (by omega) (by have := fv_sm hA hV (fo s); omega)
  have HD := Lib.hid (show dif (full A.length) (fv A V (fo s)) = rf A V (fun j => fo (st L j)) (fo s) 0 from rfl)
  have HR := Lib.hid (fun k => show rf A V (fun j => fo (st L j)) (fo s) (k + 1) = rf A V (fun j => fo (st L j)) (fo s) k &&& fv A V (fo (st L k)) from rfl)
  have HS := Lib.hid (fun k => rf_sm (V := V) hA (fun j => fo (st L j)) (fo s) k)
  have HV := Lib.hid (fun t => fv_sm hA hV t)
  have HT := Lib.hid (fun i (hi : i < L.length) => (fo_ok (hg i hi)).1)
  have HLF := Lib.hid (fun i (hi : i < L.length) => (lf_at hi).trans (pf_fo (hg i hi)))
  have HLN := Lib.hid (lf_length L)
  obtain ⟨A', cA, rfl⟩ := ints_sliceN h
  obtain ⟨AU, cu, rfl⟩ := ints_sliceN hu
  obtain ⟨AL, cL, rfl⟩ := strs_slice hL
  clear h hu hL hV hl hs hg hF hz h1 h2 hA
  generalize hdd : dif (full A.length) (fv A V (fo s)) = D0 at *
  clear hdd
  generalize full A.length = FU at *
  generalize hCC : fo s = C at *
  clear hCC
  generalize hRR : rf A V (fun j => fo (st L j)) C = RF at *
  clear hRR
  generalize V.length = NV at *
  generalize L.length = n at *
  generalize A.length = NA at *
  obtain ⟨w1, hw1⟩ : ∃ w1, w1 = w.alloc (.cells #[.int .i64 (NA : Int), .slice A' NA cA] 30) := ⟨_, rfl⟩
  have hal : Grew w w1 := by rw [hw1]; exact (Grew.refl w).alloc _
  have hb0 : w1.heap[w.heap.size]? = some (.cells #[.int .i64 (NA : Int), .slice A' NA cA] 30 (0, 0)) := by rw [hw1]; exact blk_new w _
  have p0 : ∀ W, Grew w1 W → W.cell? ⟨w.heap.size, 0, none⟩ = some (.int .i64 (NA : Int)) := fun W hW => by rw [blk_cell ((hW.block (blk_lt hb0)).trans hb0)]; rfl
  have p1 : ∀ W, Grew w1 W → W.cell? ⟨w.heap.size, 1, none⟩ = some (.slice A' NA cA) := fun W hW => by rw [blk_cell ((hW.block (blk_lt hb0)).trans hb0)]; rfl
  have HAL := Lib.hid hal
  have hr1 := Grew.refl w1
  have hd1 := hr1.drew
  clear hal hb0
  go_enter Tryz.func19, Tryz.ntmps19
  go_wp2_with fail
  simp only [← hw1]
  clear hw1
  refine (KL.out _ HAL.out).mono ?_
  rintro e w2 ⟨vq, rfl, hq, hg2⟩
  have h2 : Grew w1 w2 := hg2
  obtain ⟨B, cB, rfl, hqc⟩ := lists_open hq
  rw [HLN.out] at hqc ⊢
  have HQ := Lib.hid hqc
  clear hqc hq hg2
  go_wp2_with fail
  refine (KP.out _).mono ?_
  rintro e w3 ⟨va, rfl, hn3, hg3⟩
  have h3 : Grew w1 w3 := h2.trans hg3
  obtain ⟨B3, e3, rfl⟩ := nodes_slice hn3.nodes
  have hc3 : Grew w2 w3 := hg3
  clear hg3
  have a0 := fun W (hW : Grew w3 W) => p0 W (h3.trans hW)
  have a1 := fun W (hW : Grew w3 W) => p1 W (h3.trans hW)
  have hcr := Grew.refl w3
  have hcd := hcr.drew
  go_wp2_with fail
  refine wp_region_held_drew (S := fun w' => Grew w3 w') (by kernel_rfl) hcd (fun hHeld => ?_)
  refine wpAnyH_take (i := 0) (oi := ?on10) (v := ?vn10) ?hin10 ?an10 ?bn10 ?cn10 ?qn10 (Or.inl ⟨?dn10, ?hyn10⟩) hHeld ?restn10
  case hin10 => (simp only [List.getElem?_toArray, List.getElem?_cons_zero]; exact rfl)
  case an10 => kernel_rfl
  case bn10 => kernel_rfl
  case cn10 => kernel_rfl
  case qn10 => exact fun _ _ _ h => h
  case dn10 => rfl
  case hyn10 => (intro z hSw; (try dsimp only at hSw); go_simp; (try with_reducible rfl))
  try simp only [Act.put, List.setIfInBounds_toArray, List.set_cons_zero, List.set_cons_succ]
  refine wpAnyH_take (i := 1) (oi := ?on11) (v := ?vn11) ?hin11 ?an11 ?bn11 ?cn11 ?qn11 (Or.inl ⟨?dn11, ?hyn11⟩) hHeld ?restn11
  case hin11 => (simp only [List.getElem?_toArray, List.getElem?_cons_succ, List.getElem?_cons_zero]; exact rfl)
  case an11 => kernel_rfl
  case bn11 => kernel_rfl
  case cn11 => kernel_rfl
  case qn11 => exact fun _ _ _ h => h
  case dn11 => rfl
  case hyn11 => (intro z hSw; (try dsimp only at hSw); go_simp; (try with_reducible rfl))
  try simp only [Act.put, List.setIfInBounds_toArray, List.set_cons_zero, List.set_cons_succ]
  refine wpAnyH_take (i := 3) (oi := ?on12) (v := ?vn12) ?hin12 ?an12 ?bn12 ?cn12 ?qn12 (Or.inl ⟨?dn12, ?hyn12⟩) hHeld ?restn12
  case hin12 => (simp only [List.getElem?_toArray, List.getElem?_cons_succ, List.getElem?_cons_zero]; exact rfl)
  case an12 => kernel_rfl
  case bn12 => kernel_rfl
  case cn12 => kernel_rfl
  case qn12 => exact fun _ _ _ h => h
  case dn12 => rfl
  case hyn12 => (intro z hSw; (try dsimp only at hSw); go_simp; (try with_reducible rfl))
  try simp only [Act.put, List.setIfInBounds_toArray, List.set_cons_zero, List.set_cons_succ]
  refine wpAnyH_take (i := 4) (oi := ?on13) (v := ?vn13) ?hin13 ?an13 ?bn13 ?cn13 ?qn13 (Or.inl ⟨?dn13, ?hyn13⟩) hHeld ?restn13
  case hin13 => (simp only [List.getElem?_toArray, List.getElem?_cons_succ, List.getElem?_cons_zero]; exact rfl)
  case an13 => kernel_rfl
  case bn13 => kernel_rfl
  case cn13 => kernel_rfl
  case qn13 => exact fun _ _ _ h => h
  case dn13 => rfl
  case hyn13 => (intro z hSw; (try dsimp only at hSw); go_simp; (try with_reducible rfl))
  try simp only [Act.put, List.setIfInBounds_toArray, List.set_cons_zero, List.set_cons_succ]
  refine wpAnyH_take (i := 5) (oi := ?on14) (v := ?vn14) ?hin14 ?an14 ?bn14 ?cn14 ?qn14 (Or.inl ⟨?dn14, ?hyn14⟩) hHeld ?restn14
  case hin14 => (simp only [List.getElem?_toArray, List.getElem?_cons_succ, List.getElem?_cons_zero]; exact rfl)
  case an14 => kernel_rfl
  case bn14 => kernel_rfl
  case cn14 => kernel_rfl
  case qn14 => exact fun _ _ _ h => h
  case dn14 => rfl
  case hyn14 => (intro z hSw; (try dsimp only at hSw); go_simp; (try with_reducible rfl))
  try simp only [Act.put, List.setIfInBounds_toArray, List.set_cons_zero, List.set_cons_succ]
  refine wpAnyH_ready (rs := [2]) (by kernel_rfl) (by simp) ?_
  refine AllReadyH.cons (o := ?on15) ?hin15 ?restn15 AllReadyH.nil
  case hin15 => (simp only [List.getElem?_toArray, List.getElem?_cons_succ, List.getElem?_cons_zero]; exact rfl)
  intro K hK
  go_simp
  go_at_call 30
  refine (KA.out _).mono ?_
  rintro e w4 ⟨rfl, rfl⟩
  refine hK.out _ _ ?_ (fun hHeld => ?_)
  · (try dsimp only); first | with_reducible assumption | exact Grew.alloc ‹_› _
  clear hK K
  try simp only [Act.put, List.setIfInBounds_toArray, List.set_cons_zero, List.set_cons_succ]
  refine wpAnyH_ready (rs := [6]) (by kernel_rfl) (by simp) ?_
  refine AllReadyH.cons (o := ?on16) ?hin16 ?restn16 AllReadyH.nil
  case hin16 => (simp only [List.getElem?_toArray, List.getElem?_cons_succ, List.getElem?_cons_zero]; exact rfl)
  intro K hK
  go_simp
  go_at_call 31
  refine (KF.out _ _ _ ((HAL.out.trans h3).trans hcd) (hn3.nodes.grew hcd) HC0.out).mono ?_
  rintro e w5 ⟨rfl, hgw5⟩
  have h5 : Grew w3 w5 := hcd.trans hgw5
  refine hK.out _ _ ?_ (fun hHeld => ?_)
  · (try dsimp only); first | with_reducible assumption | exact Grew.alloc ‹_› _
  clear hK K
  try simp only [Act.put, List.setIfInBounds_toArray, List.set_cons_zero, List.set_cons_succ]
  refine wpAnyH_take (i := 7) (oi := ?on17) (v := ?vn17) ?hin17 ?an17 ?bn17 ?cn17 ?qn17 (Or.inl ⟨?dn17, ?hyn17⟩) hHeld ?restn17
  case hin17 => (simp only [List.getElem?_toArray, List.getElem?_cons_succ, List.getElem?_cons_zero]; exact rfl)
  case an17 => kernel_rfl
  case bn17 => kernel_rfl
  case cn17 => kernel_rfl
  case qn17 => exact fun _ _ _ h => h
  case dn17 => rfl
  case hyn17 => (intro z hSw; (try dsimp only at hSw); go_simp; (try with_reducible rfl))
  try simp only [Act.put, List.setIfInBounds_toArray, List.set_cons_zero, List.set_cons_succ]
  refine wpAnyH_take (i := 8) (oi := ?on18) (v := ?vn18) ?hin18 ?an18 ?bn18 ?cn18 ?qn18 (Or.inl ⟨?dn18, ?hyn18⟩) hHeld ?restn18
  case hin18 => (simp only [List.getElem?_toArray, List.getElem?_cons_succ, List.getElem?_cons_zero]; exact rfl)
  case an18 => kernel_rfl
  case bn18 => kernel_rfl
  case cn18 => kernel_rfl
  case qn18 => exact fun _ _ _ h => h
  case dn18 => rfl
  case hyn18 => (intro z hSw; (try dsimp only at hSw); go_simp; (try with_reducible rfl))
  try simp only [Act.put, List.setIfInBounds_toArray, List.set_cons_zero, List.set_cons_succ]
  refine wpAnyH_done (by kernel_rfl) ?_ _
  have h53 := h3.trans h5
  have hc5 := hc3.trans h5
  clear hn3 hgw5 h5 hcd hcr a0 a1 h3 hc3
  go_wp2_with fail
  go_loopw [12, 13] (fun q i wr => ∃ j : Nat, j ≤ n ∧ i = .int .i64 j ∧ q = .int .i64 ((RF j : Nat) : Int) ∧ Grew w5 wr) (fun _ i _ => n - (intOf i).toNat)
  case atStart => exact ⟨0, by omega, rfl, by rw [HD.out], Grew.refl _⟩
  case round =>
    obtain ⟨j, hj, rfl, rfl, hB⟩ := hrel
    by_cases hlt : j < n
    · obtain ⟨b2, o2, rfl, hcell⟩ := HQ.out (by omega)
      obtain ⟨A6, n6, c6, hc6, hn6⟩ := hcell j hlt
      rw [HLF.out j hlt] at hn6
      have h1r := h53.trans hB
      have h2r := hc5.trans hB
      have k1 := fun W (hW : Grew wr W) => hc6 W (h2r.trans hW)
      have KFj := Lib.hid (fun W (hW : Grew wr W) => KF.out (fo (st L j)) _ W (HAL.out.trans (h1r.trans hW)) (hn6.grew (h2r.trans hW)) (HT.out j hlt))
      have hop := and_i64 (RF j) (fv A V (fo (st L j))) (by have := HS.out j; omega) (by have := HV.out (fo (st L j)); omega)
      have hr := HR.out j
      rw [hr.symm] at hop
      have q0 := fun W (hW : Grew wr W) => p0 W (h1r.trans hW)
      have q1 := fun W (hW : Grew wr W) => p1 W (h1r.trans hW)
      have hr7 := Grew.refl wr
      have hr7d := hr7.drew
      clear hcell hc6 hn6 hr
      generalize fv A V (fo (st L j)) = y at *
      have hlti : (j : Int) < (n : Int) := by omega
      go_wp2_with fail
      refine wp_region_held_drew (S := fun w' => Grew wr w') (by kernel_rfl) hr7d (fun hHeld => ?_)
      refine wpAnyH_take (i := 0) (oi := ?on19) (v := ?vn19) ?hin19 ?an19 ?bn19 ?cn19 ?qn19 (Or.inl ⟨?dn19, ?hyn19⟩) hHeld ?restn19
      case hin19 => (simp only [List.getElem?_toArray, List.getElem?_cons_zero]; exact rfl)
      case an19 => kernel_rfl
      case bn19 => kernel_rfl
      case cn19 => kernel_rfl
      case qn19 => exact fun _ _ _ h => h
      case dn19 => rfl
      case hyn19 => (intro z hSw; (try dsimp only at hSw); go_simp; (try with_reducible rfl))
      try simp only [Act.put, List.setIfInBounds_toArray, List.set_cons_zero, List.set_cons_succ]
      refine wpAnyH_take (i := 1) (oi := ?on20) (v := ?vn20) ?hin20 ?an20 ?bn20 ?cn20 ?qn20 (Or.inl ⟨?dn20, ?hyn20⟩) hHeld ?restn20
      case hin20 => (simp only [List.getElem?_toArray, List.getElem?_cons_succ, List.getElem?_cons_zero]; exact rfl)
      case an20 => kernel_rfl
      case bn20 => kernel_rfl
      case cn20 => kernel_rfl
      case qn20 => exact fun _ _ _ h => h
      case dn20 => rfl
      case hyn20 => (intro z hSw; (try dsimp only at hSw); go_simp; (try with_reducible rfl))
      try simp only [Act.put, List.setIfInBounds_toArray, List.set_cons_zero, List.set_cons_succ]
      refine wpAnyH_take (i := 2) (oi := ?on21) (v := ?vn21) ?hin21 ?an21 ?bn21 ?cn21 ?qn21 (Or.inl ⟨?dn21, ?hyn21⟩) hHeld ?restn21
      case hin21 => (simp only [List.getElem?_toArray, List.getElem?_cons_succ, List.getElem?_cons_zero]; exact rfl)
      case an21 => kernel_rfl
      case bn21 => kernel_rfl
      case cn21 => kernel_rfl
      case qn21 => exact fun _ _ _ h => h
      case dn21 => rfl
      case hyn21 => (intro z hSw; (try dsimp only at hSw); go_simp; (try with_reducible rfl))
      try simp only [Act.put, List.setIfInBounds_toArray, List.set_cons_zero, List.set_cons_succ]
      refine wpAnyH_take (i := 3) (oi := ?on22) (v := ?vn22) ?hin22 ?an22 ?bn22 ?cn22 ?qn22 (Or.inl ⟨?dn22, ?hyn22⟩) hHeld ?restn22
      case hin22 => (simp only [List.getElem?_toArray, List.getElem?_cons_succ, List.getElem?_cons_zero]; exact rfl)
      case an22 => kernel_rfl
      case bn22 => kernel_rfl
      case cn22 => kernel_rfl
      case qn22 => exact fun _ _ _ h => h
      case dn22 => rfl
      case hyn22 => (intro z hSw; (try dsimp only at hSw); go_simp; (try with_reducible rfl))
      try simp only [Act.put, List.setIfInBounds_toArray, List.set_cons_zero, List.set_cons_succ]
      refine wpAnyH_take (i := 4) (oi := ?on23) (v := ?vn23) ?hin23 ?an23 ?bn23 ?cn23 ?qn23 (Or.inl ⟨?dn23, ?hyn23⟩) hHeld ?restn23
      case hin23 => (simp only [List.getElem?_toArray, List.getElem?_cons_succ, List.getElem?_cons_zero]; exact rfl)
      case an23 => kernel_rfl
      case bn23 => kernel_rfl
      case cn23 => kernel_rfl
      case qn23 => exact fun _ _ _ h => h
      case dn23 => rfl
      case hyn23 => (intro z hSw; (try dsimp only at hSw); go_simp; (try with_reducible rfl))
      try simp only [Act.put, List.setIfInBounds_toArray, List.set_cons_zero, List.set_cons_succ]
      refine wpAnyH_take (i := 5) (oi := ?on24) (v := ?vn24) ?hin24 ?an24 ?bn24 ?cn24 ?qn24 (Or.inl ⟨?dn24, ?hyn24⟩) hHeld ?restn24
      case hin24 => (simp only [List.getElem?_toArray, List.getElem?_cons_succ, List.getElem?_cons_zero]; exact rfl)
      case an24 => kernel_rfl
      case bn24 => kernel_rfl
      case cn24 => kernel_rfl
      case qn24 => exact fun _ _ _ h => h
      case dn24 => rfl
      case hyn24 => (intro z hSw; (try dsimp only at hSw); go_simp; (try with_reducible rfl))
      try simp only [Act.put, List.setIfInBounds_toArray, List.set_cons_zero, List.set_cons_succ]
      refine wpAnyH_take (i := 6) (oi := ?on25) (v := ?vn25) ?hin25 ?an25 ?bn25 ?cn25 ?qn25 (Or.inl ⟨?dn25, ?hyn25⟩) hHeld ?restn25
      case hin25 => (simp only [List.getElem?_toArray, List.getElem?_cons_succ, List.getElem?_cons_zero]; exact rfl)
      case an25 => kernel_rfl
      case bn25 => kernel_rfl
      case cn25 => kernel_rfl
      case qn25 => exact fun _ _ _ h => h
      case dn25 => rfl
      case hyn25 => (intro z hSw; (try dsimp only at hSw); go_simp; (try with_reducible rfl))
      try simp only [Act.put, List.setIfInBounds_toArray, List.set_cons_zero, List.set_cons_succ]
      refine wpAnyH_ready (rs := [7]) (by kernel_rfl) (by simp) ?_
      refine AllReadyH.cons (o := ?on26) ?hin26 ?restn26 AllReadyH.nil
      case hin26 => (simp only [List.getElem?_toArray, List.getElem?_cons_succ, List.getElem?_cons_zero]; exact rfl)
      intro K hK
      go_simp
      go_at_call 31
      refine (KFj.out _ hr7d).mono ?_
      rintro e w7 ⟨rfl, hg7⟩
      have h7 : Grew wr w7 := hr7d.trans hg7
      refine hK.out _ _ ?_ (fun hHeld => ?_)
      · (try dsimp only); first | with_reducible assumption | exact Grew.alloc ‹_› _
      clear hK K
      try simp only [Act.put, List.setIfInBounds_toArray, List.set_cons_zero, List.set_cons_succ]
      refine wpAnyH_take (i := 8) (oi := ?on27) (v := ?vn27) ?hin27 ?an27 ?bn27 ?cn27 ?qn27 (Or.inl ⟨?dn27, ?hyn27⟩) hHeld ?restn27
      case hin27 => (simp only [List.getElem?_toArray, List.getElem?_cons_succ, List.getElem?_cons_zero]; exact rfl)
      case an27 => kernel_rfl
      case bn27 => kernel_rfl
      case cn27 => kernel_rfl
      case qn27 => exact fun _ _ _ h => h
      case dn27 => rfl
      case hyn27 => (intro z hSw; (try dsimp only at hSw); go_simp; (try with_reducible rfl))
      try simp only [Act.put, List.setIfInBounds_toArray, List.set_cons_zero, List.set_cons_succ]
      refine wpAnyH_take (i := 9) (oi := ?on28) (v := ?vn28) ?hin28 ?an28 ?bn28 ?cn28 ?qn28 (Or.inl ⟨?dn28, ?hyn28⟩) hHeld ?restn28
      case hin28 => (simp only [List.getElem?_toArray, List.getElem?_cons_succ, List.getElem?_cons_zero]; exact rfl)
      case an28 => kernel_rfl
      case bn28 => kernel_rfl
      case cn28 => kernel_rfl
      case qn28 => exact fun _ _ _ h => h
      case dn28 => rfl
      case hyn28 => (intro z hSw; (try dsimp only at hSw); go_simp; (try with_reducible rfl))
      try simp only [Act.put, List.setIfInBounds_toArray, List.set_cons_zero, List.set_cons_succ]
      refine wpAnyH_done (by kernel_rfl) ?_ _
      go_wp2_with fail
      go_roundw
      case rel => exact ⟨j + 1, by omega, by go_num, rfl, hB.trans h7⟩
      case measure => simp [intOf]; omega
    · obtain rfl : j = n := by omega
      go_wp2_with fail
      go_ret
      exact ⟨rfl, HAL.out.trans (h53.trans hB)⟩
end Go.Proofs.YtoogcooggdahnaaGreat

/- slices.ContainsFunc over numbers: predicates with captured values. -/
namespace Go.Proofs.YtoogcooggdahnaaGreat
open Go.RowKit

theorem it_memI {L : List Int} {i : Nat} (h : i < L.length) : it L i ∈ L := by rw [← it_get h]; exact List.getElem_mem h
theorem mem_itI {L : List Int} {x : Int} (h : x ∈ L) : ∃ i, i < L.length ∧ it L i = x := by
  obtain ⟨i, hi, rfl⟩ := List.getElem_of_mem h
  exact ⟨i, hi, (it_get hi).symm⟩
/-- None of the first k numbers has the property. -/
def NoneI (p : Int → Bool) (L : List Int) (k : Nat) : Prop := ∀ i, i < k → p (it L i) = false
theorem NoneI.zero (p : Int → Bool) (L : List Int) : NoneI p L 0 := fun i hi => absurd hi (by omega)
theorem NoneI.succ {p : Int → Bool} {L : List Int} {k : Nat} (h : NoneI p L k) (h1 : p (it L k) = false) : NoneI p L (k + 1) := by
  intro i hi
  by_cases he : i = k
  · rw [he]; exact h1
  · exact h i (by omega)
theorem noneI_any {p : Int → Bool} {L : List Int} (h : NoneI p L L.length) : L.any p = false := by
  rw [List.any_eq_false]
  intro x hx
  obtain ⟨i, hi, rfl⟩ := mem_itI hx
  rw [h i hi]; simp
theorem anyI_at {p : Int → Bool} {L : List Int} (k : Nat) (hk : k < L.length) (h : p (it L k) = true) : L.any p = true := by
  rw [List.any_eq_true]
  exact ⟨_, it_memI hk, h⟩
theorem cellsI {w : World} {A : _} {c : Nat} {L : List Int} (h : Ints w (.slice A L.length c) L) (h0 : 0 < L.length) :
    ∃ b o, A = some ⟨b, o, none⟩ ∧ ∀ i, i < L.length → ∀ W, Grew w W → W.cell? ⟨b, o + i, none⟩ = some (.int .i64 (it L i)) := by
  rcases h.open_ with ⟨_, h1⟩ | ⟨b, o, c', e, _, _, _, hc⟩
  · have := congrArg List.length h1
    rw [List.length_nil] at this
    omega
  · injection e with e1 e2 e3
    subst e1
    exact ⟨b, o, rfl, hc⟩

/-- What the function value gives at the numbers of a list. -/
def PredI (w : World) (f : Nat) (caps : Array Value) (L : List Int) (p : Int → Bool) : Prop := ∀ s W, s ∈ L → Grew w W → Calls Tryz.prog f (#[.int .i64 s] ++ caps) W fun e W' => e = .returned (.bool (p s)) ∧ Grew W W'

theorem indexFuncI_c (v : Value) (L : List Int) (f : Nat) (caps : Array Value) (p : Int → Bool) (w : World) (h : Ints w v L) (hf : PredI w f caps L p) (eg : ∀ args w, (callFunc f args).run Tryz.prog w = .ok (.enter f args) w) :
    Calls Tryz.prog 56 #[v, .func (.func f) #[] caps] w fun e w' => ∃ r : Int, e = .returned (.int .i64 r) ∧ Grew w w' ∧ decide (0 ≤ r) = L.any p := by
  obtain ⟨A, c, rfl⟩ := ints_slice h
  obtain ⟨R, hR⟩ : ∃ R, R = L.any p := ⟨_, rfl⟩
  rw [← hR]
  have HA := Lib.hid (fun k hk h => hR.trans (@anyI_at p L k hk h))
  have HZ := Lib.hid (fun h => hR.trans (@noneI_any p L h))
  have hmx : L.length ≤ 9223372036854775807 := h.2.1
  have HC := Lib.hid (fun h0 => cellsI h h0)
  have HF := Lib.hid hf
  have HM := Lib.hid (fun k (hk : k < L.length) => it_memI hk)
  clear h hf hR
  unfold PredI at HF
  generalize hN : L.length = n at *
  clear hN
  go_enter Tryz.func56, Tryz.ntmps56
  go_wp2_with fail
  go_loopw [5, 8] (fun _ i wr => ∃ j : Nat, j ≤ n ∧ i = .int .i64 j ∧ Grew w wr ∧ Hid (NoneI p L j)) (fun _ i _ => n - (intOf i).toNat)
  case atStart => exact ⟨0, Nat.zero_le _, rfl, Grew.refl _, NoneI.zero _ _⟩
  case round =>
    obtain ⟨j, hj, rfl, hB, HJ⟩ := hrel
    by_cases hlt : j < n
    · obtain ⟨b, o, rfl, hcell⟩ := HC.out (by omega)
      have k1 := hcell j hlt _ hB
      clear hcell
      have hA := Lib.hid (HA.out j hlt)
      have hS := Lib.hid (fun h => HJ.out.succ (k := j) h)
      have hF := Lib.hid (HF.out _ _ (HM.out j hlt) hB)
      generalize it L j = x at *
      go_wp2_with fail
      refine (hF.out).mono ?_
      rintro e w1 ⟨rfl, hg1⟩
      have hB1 := hB.trans hg1
      cases hp : p x with
      | true =>
        have hv := hA.out hp
        go_wp2_with fail
        go_ret
        exact ⟨_, rfl, hB1, by rw [hv]; simp⟩
      | false =>
        have hs := Lib.hid (hS.out hp)
        go_wp2_with fail
        go_roundw
        case rel => exact ⟨j + 1, by omega, by go_num, hB1, hs⟩
        case measure => simp [intOf]; omega
    · obtain rfl : j = n := by omega
      have hv := Lib.hid (HZ.out HJ.out)
      go_wp2_with fail
      go_ret
      exact ⟨_, rfl, hB, by rw [hv.out]; rfl⟩
theorem containsFuncI_c (v : Value) (L : List Int) (f : Nat) (caps : Array Value) (p : Int → Bool) (w : World) (h : Ints w v L) (hf : PredI w f caps L p) (eg : ∀ args w, (callFunc f args).run Tryz.prog w = .ok (.enter f args) w) :
    Calls Tryz.prog 33 #[v, .func (.func f) #[] caps] w fun e w' => e = .returned (.bool (L.any p)) ∧ Grew w w' := by
  have HI := Lib.hid (indexFuncI_c v L f caps p w h hf eg)
  obtain ⟨A, c, rfl⟩ := ints_slice h
  clear h hf eg
  generalize L.any p = R at *
  go_enter Tryz.func33, Tryz.ntmps33
  go_wp2_with fail
  refine HI.out.mono ?_
  rintro e w1 ⟨r, rfl, hg1, hr⟩
  go_wp2_with fail
  go_ret
  exact ⟨by rw [← hr]; rfl, hg1⟩
end Go.Proofs.YtoogcooggdahnaaGreat

/- Rows of numbers: slices.Equal, slices.Clone; l01Own. -/
namespace Go.Proofs.YtoogcooggdahnaaGreat
open Go.RowKit

theorem wpList_appR {ops : Array Oper} {rest : List Oper} {o : Oper} {a : Act} {Q : Exit → Act → World → Prop} {w w0 : World} (s x : Operand) (hgd : o.guard = none)
    (ho : o.op = .call { callee := .builtin .append, args := #[s, x], argTypes := #[22, 22] })
    (v : Value) (L : List Int) (hs : a.eval s = v) (hown : OwnI w w0.heap.size v L) (hg : Grew w0 w) (vx : Value) (K : List Int) (hx : a.eval x = vx) (hr : Ints w vx K) (hn : L.length + K.length ≤ 1099511627776)
    (h : ∀ v' w', OwnI w' w0.heap.size v' (L ++ K) → Grew w0 w' → w.grownBy w' v.ownBlock → wpList Tryz.prog ops Q rest (a.put o.dst v') w') : wpList Tryz.prog ops Q (o :: rest) a w := by
  obtain ⟨i0, hi0, hz0, hz1, hz2⟩ := info_parts Tryz.infoI
  refine wpList_append_rd w hgd s x _ ho w0.heap.size 2 i0 _ 1 8 Tryz.underlying22 hi0 hz0 hz1 hz2 rfl (by omega) v L.length (icells L) hs hown vx K.length (icells K) hx hr (icells_one K) (by unfold maxLen; omega) (by omega) hg.size ?_
  intro v' w' h1 h2 h3
  refine h v' w' ?_ (hg.grown h2 fun k hk => (hown.lt k hk).1) h2
  unfold OwnI
  rw [List.length_append, icells_append]
  exact h1
theorem cloneR_c (v : Value) (L : List Int) (w : World) (h : Ints w v L) (hn : L.length ≤ 1099511627776) :
    Calls Tryz.prog 102 #[v] w (GivesI w L) := by
  have q : ∀ (w : World) (a : Option Addr) (n c n' c' : Nat), (binOp .eql 22 (.slice a n c) (.slice none n' c')).run Tryz.prog w = .ok (.bool a.isNone) w := fun w a n c n' c' => Lib.run_eql_slice_nil w _ _ a n c n' c' Tryz.underlying22
  have he := own_emptyI w
  rcases h.open_ with ⟨rfl, rfl⟩ | ⟨b, o, c, rfl, hc, hm, hb, hf⟩
  · clear he h
    go_enter Tryz.func102, Tryz.ntmps102
    go_wp2_with fail
    go_ret
    exact ⟨_, rfl, OwnI.nil_ _ _, Grew.refl _⟩
  · clear hf
    go_enter Tryz.func102, Tryz.ntmps102
    go_wp2_with (first
      | (at_builtin; refine wpList_appR (w0 := w) _ _ rfl rfl _ [] rfl he ((Grew.refl w).alloc _) _ L rfl (h.grew ((Grew.refl w).alloc _)) (by simp; omega) ?_; intro v1 w1 hown1 hg1 _))
    go_ret
    exact ⟨_, rfl, by simpa using hown1, hg1⟩
theorem ownR_c (v : Value) (L : List Int) (w : World) (h : Ints w v L) (hn : L.length ≤ 1099511627776) :
    Calls Tryz.prog 98 #[v] w (GivesI w L) := by
  have he := own_emptyI w
  obtain ⟨A, c, rfl⟩ := ints_slice h
  go_enter Tryz.func98, Tryz.ntmps98
  go_wp2_with (first
    | (at_builtin; refine wpList_appR (w0 := w) _ _ rfl rfl _ [] rfl he ((Grew.refl w).alloc _) _ L rfl (h.grew ((Grew.refl w).alloc _)) (by simp; omega) ?_; intro v1 w1 hown1 hg1 _))
  go_ret
  exact ⟨_, rfl, by simpa using hown1, hg1⟩

/-- The first k numbers are the same. -/
def AgreeR (xs ys : List Int) (k : Nat) : Prop := ∀ i, i < k → it xs i = it ys i
theorem AgreeR.zero (xs ys : List Int) : AgreeR xs ys 0 := fun i hi => absurd hi (by omega)
theorem AgreeR.succ {xs ys : List Int} {k : Nat} (h : AgreeR xs ys k) (h1 : it xs k = it ys k) : AgreeR xs ys (k + 1) := by
  intro i hi
  rcases Nat.lt_or_ge i k with hk | hk
  · exact h i hk
  · obtain rfl : i = k := by omega
    exact h1
theorem equalR_c (v1 v2 : Value) (xs ys : List Int) (w : World) (h1 : Ints w v1 xs) (h2 : Ints w v2 ys) (hl : xs.length = ys.length) :
    Calls Tryz.prog 79 #[v1, v2] w fun e w' => e = .returned (.bool (decide (xs = ys))) ∧ Grew w w' := by
  obtain ⟨A1, c1, rfl⟩ := ints_slice h1
  obtain ⟨A2, c2, rfl⟩ := ints_slice h2
  have HC1 := Lib.hid (fun h0 => cellsI h1 h0)
  have HC2 := Lib.hid (fun h0 => cellsI h2 h0)
  have HE := Lib.hid (fun h => it_ext hl h)
  rw [← hl] at HC2 ⊢
  have HX := Lib.hid (fun (h : xs = ys) (i : Nat) => (by rw [h] : it xs i = it ys i))
  obtain ⟨D, hD⟩ : ∃ D, D = decide (xs = ys) := ⟨_, rfl⟩
  rw [← hD]
  have HD := Lib.hid hD
  have hmx : xs.length ≤ 9223372036854775807 := h1.2.1
  clear hl hD h1 h2
  generalize hN : xs.length = n at *
  clear hN
  go_enter Tryz.func79, Tryz.ntmps79
  go_wp2_with fail
  go_loopg [4, 13] n (fun k _ i wr => ∃ j : Nat, j ≤ n ∧ k = n - j ∧ i = .int .i64 j ∧ Grew w wr ∧ Hid (AgreeR xs ys j))
  case atStart => exact ⟨0, Nat.zero_le _, by omega, rfl, Grew.refl _, AgreeR.zero _ _⟩
  case round =>
    obtain ⟨j, hj, hk, rfl, hB, HJ⟩ := hrel
    by_cases hlt : j < n
    · obtain ⟨b1, o1, rfl, hcell1⟩ := HC1.out (by omega)
      obtain ⟨b2, o2, rfl, hcell2⟩ := HC2.out (by omega)
      have k1 := hcell1 j hlt _ hB
      have k2 := hcell2 j hlt _ hB
      have hS := Lib.hid (fun h => HJ.out.succ (k := j) h)
      have hX := Lib.hid (fun h => HX.out h j)
      clear hcell1 hcell2 HE
      generalize it xs j = x at *
      generalize it ys j = y at *
      by_cases hxy : x = y
      · have hs := Lib.hid (hS.out hxy)
        have hq : (x == y) = true := by rw [hxy]; simp
        clear hS hX hxy
        go_wp2_with fail
        go_quiet (fail)
        go_wp2_with fail
        go_roundg (n - (j + 1))
        case rel => exact ⟨j + 1, by omega, rfl, by go_num, hB.drewN _, hs⟩
        case measure => omega
      · have hq : (x == y) = false := by simpa using hxy
        have hv : D = false := by
          rw [HD.out]
          exact decide_eq_false fun h => hxy (hX.out h)
        clear hS hX hxy
        go_wp2_with fail
        go_quiet (fail)
        go_wp2_with fail
        go_ret
        exact ⟨by rw [hv]; rfl, hB.drewN _⟩
    · obtain rfl : j = n := by omega
      have hv : D = true := by
        rw [HD.out]
        exact decide_eq_true (HE.out HJ.out)
      have hw := Lib.hid hv
      clear hv
      go_wp2_with fail
      go_ret
      exact ⟨by rw [hw.out]; rfl, hB⟩
end Go.Proofs.YtoogcooggdahnaaGreat

/- make of rows of elements of several cells; the blocks of three allocations. -/
namespace Go.Proofs.YtoogcooggdahnaaGreat
open Go.RowKit

theorem run_make_rows {P : Program} (t e : TypeId) (z : Value) (size bytes : Nat) (zs : Array Value) (ht : P.underlying t = some (.slice e)) (hinfo : (P.info? e).map (fun i => (i.zero, i.size, i.bytes)) = some (some z, size, bytes)) (hzs : z.cells = zs)
    (kl kc : IntKind) (n : Nat) (hbytes : bytes * n ≤ 281474976710656) (h63 : n ≤ 9223372036854775807) (w : World) :
    (Instr.makeSlice t (.int kl (n : Int)) (.int kc (n : Int))).run P w = .ok (.slice (some ⟨w.heap.size, 0, none⟩) n n) (w.alloc (.cells (madeCells zs (n * size)) e)) := by
  obtain ⟨i, hi, hz, hs, hb⟩ := info_parts hinfo
  have hb' : (i.bytes : Int) * (n : Int) ≤ 281474976710656 := by
    rw [hb]
    have h : ((bytes * n : Nat) : Int) ≤ 281474976710656 := by omega
    rwa [Int.natCast_mul] at h
  have hr := run_make (P := P) w t e i z ht hi hz kl kc n n (by omega) (Int.le_refl _) hb' (by omega)
  simp only [Int.toNat_natCast, hs, hzs] at hr
  exact hr

theorem blk3_mid (w : World) (a b c : Obj) : (((w.alloc a).alloc b).alloc c).heap[w.heap.size + 1]? = some b := by
  have h := blk_new (w.alloc a) b
  have e : (w.alloc a).heap.size = w.heap.size + 1 := by simp
  rw [e] at h
  have h2 := ((Grew.refl ((w.alloc a).alloc b)).alloc c).block (k := w.heap.size + 1) (by simp)
  rw [h2, h]
end Go.Proofs.YtoogcooggdahnaaGreat

/- Relations: inverse, transitive of the program. -/
namespace Go.Proofs.YtoogcooggdahnaaGreat
open Go.RowKit

/-- A block of natural numbers, c cells, of which the first n are read. -/
def NRow (w : World) (g n c : Nat) (f : Nat → Nat) : Prop := ∃ cur, w.heap[g]? = some (.cells cur 2 (0, 0)) ∧ cur.size = c ∧ n ≤ c ∧ c ≤ 9223372036854775807 ∧ ∀ i, i < n → cur[i]? = some (.int .i64 ((f i : Nat) : Int))
theorem NRow.lt {w : World} {g n c : Nat} {f : Nat → Nat} (h : NRow w g n c f) : g < w.heap.size := by
  obtain ⟨cur, h1, _⟩ := h
  exact blk_lt h1
theorem NRow.grew {w w' : World} {g n c : Nat} {f : Nat → Nat} (h : NRow w g n c f) (hg : Grew w w') : NRow w' g n c f := by
  have hl := h.lt
  obtain ⟨cur, h1, h2⟩ := h
  exact ⟨cur, (hg.block hl).trans h1, h2⟩
theorem NRow.cell {w : World} {g n c : Nat} {f : Nat → Nat} (h : NRow w g n c f) {p : Nat} (hp : p < n) : w.cell? ⟨g, p, none⟩ = some (.int .i64 ((f p : Nat) : Int)) := by
  obtain ⟨cur, h1, _, _, _, h3⟩ := h
  rw [blk_cell h1]
  exact h3 p hp
theorem NRow.free {w : World} {g n c : Nat} {f : Nat → Nat} (h : NRow w g n c f) (p : Nat) : w.frozen? ⟨g, p, none⟩ = false := by
  obtain ⟨cur, h1, _⟩ := h
  exact blk_frozen h1 p
theorem NRow.set {w : World} {g n c : Nat} {f f' : Nat → Nat} (h : NRow w g n c f) {p : Nat} (hp : p < n) {z : Nat} (hz : f' p = z) (hf : ∀ i, i < n → i ≠ p → f' i = f i) : NRow (w.setCell ⟨g, p, none⟩ (.int .i64 (z : Int))) g n c f' := by
  obtain ⟨cur, h1, h2, hn, hm, h3⟩ := h
  refine ⟨_, blk_set h1 p _, by simp [h2], hn, hm, fun i hi => ?_⟩
  rw [Array.getElem?_setIfInBounds]
  by_cases hip : p = i
  · subst hip
    rw [if_pos rfl, if_pos (by omega), hz]
  · rw [if_neg hip, h3 i hi, hf i hi (fun h => hip h.symm)]
theorem NRow.ints {w : World} {g n c : Nat} {f : Nat → Nat} (h : NRow w g n c f) : Ints w (.slice (some ⟨g, 0, none⟩) n c) (zs ((List.range n).map f)) := by
  obtain ⟨cur, h1, h2, hn, hm, h3⟩ := h
  have hl : (zs ((List.range n).map f)).length = n := by simp [zs]
  unfold Ints
  rw [hl]
  refine ⟨by simp [icells, zs], by omega, .inr ⟨g, 0, c, rfl, hn, hm, blk_lt h1, fun i u hu => ?_⟩⟩
  have hi : i < n := by
    have := (List.getElem?_eq_some_iff.1 hu).1
    simpa [icells, zs] using this
  rw [Nat.zero_add, blk_cell h1, h3 i hi, ← hu]
  simp [icells, zs, hi]
theorem made_z {n i : Nat} (hi : i < n) : (madeCells #[Value.int .i64 0] n)[i]? = some (.int .i64 0) := by
  have e := toList_madeCells_one (.int .i64 0) n
  rw [← Array.getElem?_toList, e]
  simp [hi]

theorem cellsO {w : World} {B c : Nat} {A : _} {L : List Nat} (h : OwnI w B (.slice A L.length c) (zs L)) (h0 : 0 < L.length) :
    ∃ b, A = some ⟨b, 0, none⟩ ∧ B ≤ b ∧ b < w.heap.size ∧ ∀ i, i < L.length → w.cell? ⟨b, i, none⟩ = some (.int .i64 ((nt L i : Nat) : Int)) := by
  obtain ⟨b, o, rfl, hc⟩ := cellsN h.ints h0
  rcases h.2 with ⟨he, _⟩ | ⟨g, c', cur, he, hB, hh, _⟩
  · cases he
  · injection he with e1 _ _
    injection e1 with e1
    injection e1 with e1 e2
    subst e1 e2
    exact ⟨b, rfl, hB, blk_lt hh, fun i hi => by have := hc i hi w (Grew.refl w); rwa [Nat.zero_add] at this⟩

/-- The call returns a row of numbers that stand in a block of its own. -/
def GivesB (w : World) (n : Nat) (P : (Nat → Nat) → Prop) (e : Ending) (w' : World) : Prop := ∃ g c f, e = .returned (.slice (some ⟨g, 0, none⟩) n c) ∧ NRow w' g n c f ∧ P f ∧ w.heap.size ≤ g ∧ Grew w w'

theorem inverse_c (v : Value) (A : List Nat) (w : World) (h : Ints w v (zs A)) (hA : Rl A) :
    Calls Tryz.prog 74 #[v] w (GivesB w A.length (Bk (nt A) A.length A.length 0)) := by
  have hn30 := hA.1
  have hmk := fun W => run_make_rows (P := Tryz.prog) 22 2 (.int .i64 0) 1 8 #[.int .i64 0] Tryz.underlying22 Tryz.infoI rfl .i64 .i64 A.length (by omega) (by omega) W
  rw [Nat.mul_one] at hmk
  have hnr : NRow (w.alloc (.cells (madeCells #[Value.int .i64 0] A.length) 2)) w.heap.size A.length A.length (fun _ => 0) := ⟨_, blk_new w _, size_madeCells _ _, Nat.le_refl _, by omega, fun i hi => made_z hi⟩
  have HNR := Lib.hid hnr
  have HAL := Lib.hid ((Grew.refl w).alloc (.cells (madeCells #[Value.int .i64 0] A.length) 2))
  clear hnr
  generalize madeCells #[Value.int .i64 0] A.length = cur0 at *
  have HB0 := Lib.hid (Bk.zero (nt A) A.length)
  have HST := Lib.hid (fun i k f f' h hk hi h1 h2 => @Bk.step (nt A) A.length i k f f' h hk hi h1 h2)
  have HNX := Lib.hid (fun i f h (hi : i < A.length) => @Bk.next (nt A) A.length i f h (hA.sm.at_ hi))
  have HM := Lib.hid (fun i (hi : i < A.length) => membersOf_c (nt A i) (hA.sm.at_ hi))
  have HLT := Lib.hid (fun i (hi : i < A.length) k (hk : k < (mbs (nt A i)).length) => mbs_lt (hA.lt hi) (nt_mem hk))
  have HL30 := Lib.hid mbs_len
  have HSM := Lib.hid (fun i k f (h : Bk (nt A) A.length i k f) j hj => (h j hj).1)
  have HO := Lib.hid (fun a k (ha : a < 1073741824) (h : k < 30) => or_i64 a (2 ^ k) (by omega) (Nat.lt_trans (pow30 h) (by omega)))
  obtain ⟨A', c, rfl⟩ := ints_sliceN h
  have HC := Lib.hid (fun h0 => cellsN h h0)
  clear h hA
  generalize hN : A.length = n at *
  clear hN
  go_enter Tryz.func74, Tryz.ntmps74
  go_wp2_with fail
  go_loopw [4, 5, 7, 13, 21] (fun _ _ _ i _ wr => ∃ (j : Nat) (f : Nat → Nat), j ≤ n ∧ i = .int .i64 j ∧ Hid (NRow wr w.heap.size n n f) ∧ Hid (Bk (nt A) n j 0 f) ∧ Grew w wr) (fun _ _ _ i _ _ => n - (intOf i).toNat)
  case atStart => exact ⟨0, fun _ => 0, Nat.zero_le _, rfl, HNR, HB0, HAL.out⟩
  clear hmk HNR HB0 HAL
  case round =>
    obtain ⟨j, f, hj, rfl, hR, hK, hB⟩ := hrel
    by_cases hlt : j < n
    · obtain ⟨b, o, rfl, hcell⟩ := HC.out (by omega)
      have k1 := hcell j hlt _ hB
      have hM := Lib.hid (HM.out j hlt)
      have hLT := Lib.hid (HLT.out j hlt)
      have hl30 := HL30.out (nt A j)
      have hST := Lib.hid (HST.out j)
      have hNX := Lib.hid (fun f h => HNX.out j f h hlt)
      have hp := wrap_pow (k := j) (by omega)
      have hO := Lib.hid (fun a ha => HO.out a j ha (by omega))
      have hSM := Lib.hid (HSM.out j)
      obtain ⟨p, hpj⟩ : ∃ p, p = 2 ^ j := ⟨_, rfl⟩
      rw [← hpj] at hp hO hST
      clear hcell hpj
      generalize nt A j = m at *
      generalize hL : mbs m = L at *
      clear hL
      go_wp2_with fail
      refine (hM.out _).mono ?_
      rintro e w1 ⟨v1, rfl, hO1, hg1⟩
      obtain ⟨A2, c2, rfl⟩ := ints_sliceN hO1.ints
      have HD := Lib.hid (fun h0 => cellsO hO1 h0)
      have hgl := Lib.hid (hR.out.lt)
      clear hO1
      generalize hNL : L.length = nl at *
      clear hNL
      go_wp2_with fail
      go_loopw [7, 21] (fun _ i wr => ∃ (k : Nat) (f : Nat → Nat), k ≤ nl ∧ i = .int .i64 k ∧ Hid (NRow wr w.heap.size n n f) ∧ Hid (Bk (nt A) n j k f) ∧ Grew w wr ∧ Only w.heap.size w1 wr) (fun _ i _ => nl - (intOf i).toNat)
      case atStart => exact ⟨0, f, Nat.zero_le _, rfl, hR.out.grew hg1, hK, hB.trans hg1, Only.refl _ _⟩
      case round =>
        obtain ⟨k, f2, hk, rfl, hR2, hK2, hB2, hU2⟩ := hrel
        by_cases hlk : k < nl
        · obtain ⟨b2, rfl, hb2, hb2w, hcell2⟩ := HD.out (by omega)
          have hne : b2 ≠ w.heap.size := by have := hgl.out; omega
          have k2 := (hU2.cell (p := ⟨b2, k, none⟩) hb2w hne).trans (hcell2 k hlk)
          have hx := hLT.out k hlk
          have hst := Lib.hid (hST.out k f2)
          clear hcell2
          generalize nt L k = x at *
          have c2' : ∀ W, Grew wr W → W.cell? ⟨w.heap.size, x, none⟩ = some (.int .i64 ((f2 x : Nat) : Int)) := fun W hW => (hR2.out.grew hW).cell hx
          have c3' : ∀ W, Grew wr W → W.frozen? ⟨w.heap.size, x, none⟩ = false := fun W hW => (hR2.out.grew hW).free x
          have hr1 := Grew.refl wr
          have hd1 := (Grew.refl wr).drew
          have ho := hO.out _ (hSM.out k f2 hK2.out x hx)
          have hi0 : (0 : Int) ≤ (x : Int) := by omega
          have hi6 : (x : Int) < (n : Int) := by omega
          generalize f2 x = y at *
          go_wp2_with fail
          go_region
          go_wp2_with fail
          go_roundw
          case rel =>
            have e1 : (fun q => if q = x then y ||| p else f2 q) x = y ||| p := if_pos rfl
            have e2 : ∀ q, q < n → q ≠ x → (fun q => if q = x then y ||| p else f2 q) q = f2 q := fun q _ hq => if_neg hq
            exact ⟨k + 1, fun q => if q = x then y ||| p else f2 q, by omega, by go_num, Lib.hid ((hR2.out.set hx e1 e2).grew ((Grew.refl _).drew)), Lib.hid (hst.out _ hK2.out hlk (by omega) e1 e2), (hB2.setCell (Nat.le_refl _) _).drew, (hU2.setCell _).drew⟩
          case measure => simp [intOf]; omega
        · obtain rfl : k = nl := by omega
          have hN2 := Lib.hid (hNX.out f2 hK2.out)
          go_wp2_with fail
          go_roundw
          case rel => exact ⟨j + 1, f2, by omega, by go_num, hR2, hN2, hB2⟩
          case measure => simp [intOf]; omega
    · obtain rfl : j = n := by omega
      go_wp2_with fail
      go_ret
      exact ⟨_, _, f, rfl, hR.out, hK.out, Nat.le_refl _, hB⟩

theorem transitive_c (v : Value) (A : List Nat) (w : World) (h : Ints w v (zs A)) (hA : Rl A) (h0 : 0 < A.length) :
    Calls Tryz.prog 80 #[v] w (GivesB w A.length (Wr (nt A) A.length A.length 0)) := by
  have hn30 := hA.1
  have HCL := Lib.hid (cloneR_c v (zs A) w h (by rw [zs_len]; omega))
  have HZ := Lib.hid (Wr.zero hA)
  have HNX := Lib.hid (fun j f h => @Wr.next (nt A) A.length j f h)
  have HSK := Lib.hid (fun j i f h hi hb => @Wr.skip (nt A) A.length j i f h hi hb)
  have HST := Lib.hid (fun j i f f' h hi hj hb h1 h2 => @Wr.step (nt A) A.length j i f f' h hi hj hb h1 h2)
  have HSM := Lib.hid (fun j i f (h : Wr (nt A) A.length j i f) x hx => (h.1 x hx).1)
  have HH := Lib.hid (fun m i (hm : m < 1073741824) (hi : i < 64) => has_q m i (by omega) hi)
  have HO := Lib.hid (fun a b (ha : a < 1073741824) (hb : b < 1073741824) => or_i64 a b (by omega) (by omega))
  obtain ⟨A', c, rfl⟩ := ints_sliceN h
  have HEZ : Hid (∀ w1 A2 c2, OwnI w1 w.heap.size (.slice A2 A.length c2) (zs A) → ∃ g, A2 = some ⟨g, 0, none⟩ ∧ w.heap.size ≤ g ∧ NRow w1 g A.length c2 (nt A)) := Lib.hid (fun w1 A2 c2 hO => by
    rcases hO.2 with ⟨he, _⟩ | ⟨g, c', cur, he, hB, hh, hnc, hcm, hcs, htk⟩
    · injection he with _ e2 _
      omega
    · injection he with e1 _ e3
      subst e1 e3
      refine ⟨g, rfl, hB, cur, hh, by omega, by rw [zs_len] at hnc; exact hnc, hcm, fun i hi => ?_⟩
      have hc := hO.ints.open_
      rcases hc with ⟨he, _⟩ | ⟨b, o, c3, he, _, _, _, hcell⟩
      · cases he
      · injection he with e1 _ _
        injection e1 with e1
        injection e1 with e1 e2
        subst e1 e2
        have := hcell i (by rw [zs_len]; exact hi) w1 (Grew.refl _)
        rw [Nat.zero_add, blk_cell hh, zs_it hi] at this
        exact this)
  clear h hA
  generalize hN : A.length = n at *
  have hNL := Lib.hid hN
  clear hN
  go_enter Tryz.func80, Tryz.ntmps80
  go_wp2_with fail
  refine HCL.out.mono ?_
  rintro e w1 ⟨v1, rfl, hO1, hg1⟩
  obtain ⟨A2, c2, rfl⟩ := ints_sliceN hO1.ints
  rw [hNL.out] at *
  obtain ⟨g, rfl, hgw, hR0⟩ := HEZ.out _ _ _ hO1
  have HR0 := Lib.hid hR0
  clear hR0 hO1 HEZ HCL
  go_wp2_with fail
  go_loopw [4, 5, 10, 13, 14, 15] (fun _ _ i _ _ _ wr => ∃ (j : Nat) (f : Nat → Nat), j ≤ n ∧ i = .int .i64 j ∧ Hid (NRow wr g n c2 f) ∧ Hid (Wr (nt A) n j 0 f) ∧ Grew w wr) (fun _ _ i _ _ _ _ => n - (intOf i).toNat)
  case atStart => exact ⟨0, _, Nat.zero_le _, rfl, HR0, HZ, hg1⟩
  clear HZ HR0
  case round =>
    obtain ⟨j, f, hj, rfl, hR, hK, hB⟩ := hrel
    by_cases hlt : j < n
    · go_wp2_with fail
      go_loopw [5, 15] (fun _ i wr => ∃ (k : Nat) (f : Nat → Nat), k ≤ n ∧ i = .int .i64 k ∧ Hid (NRow wr g n c2 f) ∧ Hid (Wr (nt A) n j k f) ∧ Grew w wr) (fun _ i _ => n - (intOf i).toNat)
      case atStart => exact ⟨0, f, Nat.zero_le _, rfl, hR, hK, hB⟩
      case round =>
        obtain ⟨k, f2, hk, rfl, hR2, hK2, hB2⟩ := hrel
        by_cases hlk : k < n
        · have c2' : ∀ W, Grew wr W → W.cell? ⟨g, k, none⟩ = some (.int .i64 ((f2 k : Nat) : Int)) := fun W hW => (hR2.out.grew hW).cell hlk
          have c3' : ∀ W, Grew wr W → W.cell? ⟨g, j, none⟩ = some (.int .i64 ((f2 j : Nat) : Int)) := fun W hW => (hR2.out.grew hW).cell hlt
          have c4' : ∀ W, Grew wr W → W.frozen? ⟨g, k, none⟩ = false := fun W hW => (hR2.out.grew hW).free k
          have ho := HO.out _ _ (HSM.out j k f2 hK2.out k hlk) (HSM.out j k f2 hK2.out j hlt)
          have hH := Lib.hid (HH.out (f2 k) j (HSM.out j k f2 hK2.out k hlk) (by omega))
          have hst := Lib.hid (fun f' => HST.out j k f2 f' hK2.out hlk hlt)
          have hsk := Lib.hid (HSK.out j k f2 hK2.out hlk)
          have hr1 := Grew.refl wr
          have hd1 := (Grew.refl wr).drew
          generalize f2 k = y at *
          generalize f2 j = z at *
          generalize y.testBit j = t at *
          have hi0 : (0 : Int) ≤ (k : Int) := by omega
          have hi6 : (k : Int) < (n : Int) := by omega
          have hj0 : (0 : Int) ≤ (j : Int) := by omega
          have hj6 : (j : Int) < (n : Int) := by omega
          go_wp2_with fail
          refine (hH.out _).mono ?_
          rintro e w2 ⟨rfl, rfl⟩
          cases t with
          | true =>
            have hst2 := Lib.hid (fun f' => hst.out f' rfl)
            go_wp2_with fail
            go_region
            go_wp2_with fail
            go_roundw
            case rel =>
              have e1 : (fun q => if q = k then y ||| z else f2 q) k = y ||| z := if_pos rfl
              have e2 : ∀ q, q < n → q ≠ k → (fun q => if q = k then y ||| z else f2 q) q = f2 q := fun q _ hq => if_neg hq
              exact ⟨k + 1, fun q => if q = k then y ||| z else f2 q, by omega, by go_num, Lib.hid ((hR2.out.set hlk e1 e2).grew ((Grew.refl _).drew)), Lib.hid (hst2.out _ e1 e2), (hB2.setCell hgw _).drew⟩
            case measure => simp [intOf]; omega
          | false =>
            have hs := Lib.hid (hsk.out rfl)
            go_wp2_with fail
            go_roundw
            case rel => exact ⟨k + 1, f2, by omega, by go_num, hR2, hs, hB2⟩
            case measure => simp [intOf]; omega
        · obtain rfl : k = n := by omega
          have hN2 := Lib.hid (HNX.out j f2 hK2.out)
          go_wp2_with fail
          go_roundw
          case rel => exact ⟨j + 1, f2, by omega, by go_num, hR2, hN2, hB2⟩
          case measure => simp [intOf]; omega
    · obtain rfl : j = n := by omega
      go_wp2_with fail
      go_ret
      exact ⟨_, _, f, rfl, hR.out, hK.out, hgw, hB⟩
end Go.Proofs.YtoogcooggdahnaaGreat

/- Masks of n elements: isMask, isRelation; l01Masks. -/
namespace Go.Proofs.YtoogcooggdahnaaGreat
open Go.RowKit

theorem isMask_q (n : Nat) (x : Int) (hn : n ≤ 30) (w : World) :
    Calls Tryz.prog 57 #[.int .i64 (n : Int), .int .i64 x] w fun e w' => e = .returned (.bool (mk n x)) ∧ w' = w := by
  have hp := wrap_pow hn
  have hle := pow30' hn
  have HI := Lib.hid (inRange_q n 0 30)
  have hd : decide ((0 : Int) ≤ (n : Int) ∧ (n : Int) ≤ 30) = true := decide_eq_true (by omega)
  rw [hd] at HI
  have HJ := Lib.hid (inRange_q x 0 (((2 ^ n : Nat) : Int) - 1))
  unfold mk
  clear hd
  generalize decide ((0 : Int) ≤ x ∧ x ≤ ((2 ^ n : Nat) : Int) - 1) = R at *
  generalize (2 ^ n : Nat) = p at *
  go_enter Tryz.func57, Tryz.ntmps57
  go_wp2_with fail
  refine (HI.out _).mono ?_
  rintro e w1 ⟨rfl, rfl⟩
  go_wp2_with fail
  refine (HJ.out _).mono ?_
  rintro e w2 ⟨rfl, rfl⟩
  go_wp2_with fail
  go_ret
  exact ⟨rfl, rfl⟩
theorem isMask_c (n : Nat) (x : Int) (hn : n ≤ 30) (w : World) :
    Calls Tryz.prog 57 #[.int .i64 (n : Int), .int .i64 x] w fun e w' => e = .returned (.bool (mk n x)) ∧ Grew w w' :=
  (isMask_q n x hn w).mono fun _ _ h => ⟨h.1, h.2 ▸ Grew.refl _⟩
theorem size_q (v : Value) (L : List Int) (w : World) (h : Ints w v L) :
    Calls Tryz.prog 52 #[v] w fun e w' => e = .returned (.int .i64 (L.length : Int)) ∧ w' = w := by
  obtain ⟨A, c, rfl⟩ := ints_slice h
  have hmx : L.length ≤ 9223372036854775807 := h.2.1
  clear h
  generalize L.length = n at *
  go_enter Tryz.func52, Tryz.ntmps52
  go_wp2_with fail
  go_ret
  exact ⟨rfl, rfl⟩
theorem size_c (v : Value) (L : List Int) (w : World) (h : Ints w v L) :
    Calls Tryz.prog 52 #[v] w fun e w' => e = .returned (.int .i64 (L.length : Int)) ∧ Grew w w' :=
  (size_q v L w h).mono fun _ _ h => ⟨h.1, h.2 ▸ Grew.refl _⟩
/-- Are all numbers of the row masks of n elements? -/
def mks (n : Nat) (L : List Int) : Bool := L.all (mk n)
theorem not_any {α : Type} (p : α → Bool) : ∀ L : List α, (!L.any fun x => !p x) = L.all p
  | [] => rfl
  | x :: L => by
    have ih := not_any p L
    rw [List.any_cons, List.all_cons, ← ih]
    cases p x <;> simp
theorem rel1_k (v : Value) (L K : List Int) (bl : Nat) (w : World) (h : Ints w v L) (hn : L.length ≤ 30) (hb : ∀ W, Grew w W → W.cell? ⟨bl, 0, none⟩ = some v) :
    PredI w 72 #[.pointer (some ⟨bl, 0, none⟩)] K (fun x => !mk L.length x) := by
  intro x W _ hW
  have k1 := hb W hW
  have KS := Lib.hid (size_c v L W (h.grew hW))
  have KM := Lib.hid (isMask_c L.length x hn)
  show Calls Tryz.prog 72 #[.int .i64 x, .pointer (some ⟨bl, 0, none⟩)] W fun e W' => e = .returned (.bool (!mk L.length x)) ∧ Grew W W'
  obtain ⟨A, c, rfl⟩ := ints_slice h
  clear h hb
  generalize mk L.length x = R at *
  generalize L.length = n at *
  go_enter Tryz.func72, Tryz.ntmps72
  go_wp2_with fail
  refine (KS.out).mono ?_
  rintro e w1 ⟨rfl, hg1⟩
  go_wp2_with fail
  refine (KM.out _).mono ?_
  rintro e w2 ⟨rfl, hg2⟩
  go_wp2_with fail
  go_ret
  exact ⟨rfl, hg1.trans hg2⟩
theorem isRelation_c (v : Value) (L : List Int) (w : World) (h : Ints w v L) (hn : L.length ≤ 30) :
    Calls Tryz.prog 53 #[v] w fun e w' => e = .returned (.bool (mks L.length L)) ∧ Grew w w' := by
  have hal : Grew w (w.alloc (.cells #[v] 22)) := (Grew.refl w).alloc _
  have hbx : ∀ W, Grew (w.alloc (.cells #[v] 22)) W → W.cell? ⟨w.heap.size, 0, none⟩ = some v := by
    intro W hW
    exact (hW.cell (p := ⟨w.heap.size, 0, none⟩) (by simp)).trans (by simp)
  have KC := Lib.hid (containsFuncI_c v L 72 #[.pointer (some ⟨w.heap.size, 0, none⟩)] _ _ (h.grew hal) (rel1_k v L L w.heap.size _ (h.grew hal) hn hbx) (enters_of Tryz.func72 (by kernel_rfl) rfl))
  have hR := not_any (mk L.length) L
  unfold mks
  rw [← hR]
  have HG := Lib.hid hal
  obtain ⟨A, c, rfl⟩ := ints_slice h
  clear h hbx hal hR
  generalize (L.any fun x => !mk L.length x) = R at *
  generalize L.length = n at *
  go_enter Tryz.func53, Tryz.ntmps53
  go_wp2_with fail
  refine (KC.out).mono ?_
  rintro e w1 ⟨rfl, hg1⟩
  go_wp2_with fail
  go_ret
  exact ⟨rfl, HG.out.trans hg1⟩
theorem l01Masks_c (m : Nat) (v : Value) (L : List Int) (w : World) (h : Ints w v L) (hm : m ≤ 30) :
    Calls Tryz.prog 43 #[.int .i64 (m : Int), v] w fun e w' => e = .returned (.bool (mks m L)) ∧ Grew w w' := by
  obtain ⟨A, c, rfl⟩ := ints_slice h
  obtain ⟨R, hR⟩ : ∃ R, R = mks m L := ⟨_, rfl⟩
  rw [← hR]
  have hR2 : R = !L.any fun x => !mk m x := hR.trans (not_any (mk m) L).symm
  have HA := Lib.hid (fun k hk h => hR2.trans (congrArg (!·) (@anyI_at (fun x => !mk m x) L k hk h)))
  have HZ := Lib.hid (fun h => hR2.trans (congrArg (!·) (@noneI_any (fun x => !mk m x) L h)))
  have HC := Lib.hid (fun h0 => cellsI h h0)
  have HF := Lib.hid (l01Full_q m hm)
  have HI := Lib.hid (fun x => l01In_q x 0 (((2 ^ m : Nat) : Int) - 1))
  have hmx : L.length ≤ 9223372036854775807 := h.2.1
  clear h hR hR2
  generalize hN : L.length = n at *
  clear hN
  go_enter Tryz.func43, Tryz.ntmps43
  go_wp2_with fail
  go_loopw [5] (fun i wr => ∃ j : Nat, j ≤ n ∧ i = .int .i64 j ∧ Grew w wr ∧ Hid (NoneI (fun x => !mk m x) L j)) (fun i _ => n - (intOf i).toNat)
  case atStart => exact ⟨0, Nat.zero_le _, rfl, Grew.refl _, NoneI.zero _ _⟩
  case round =>
    obtain ⟨j, hj, rfl, hB, HJ⟩ := hrel
    by_cases hlt : j < n
    · obtain ⟨b, o, rfl, hcell⟩ := HC.out (by omega)
      have k1 := hcell j hlt
      clear hcell
      have hA := Lib.hid (HA.out j hlt)
      have hS := Lib.hid (fun h => HJ.out.succ (k := j) h)
      have hI := Lib.hid (HI.out (it L j))
      have hmk : mk m (it L j) = decide (0 ≤ it L j ∧ it L j ≤ ((2 ^ m : Nat) : Int) - 1) := rfl
      rw [← hmk] at hI
      clear hmk
      generalize it L j = x at *
      generalize (2 ^ m : Nat) = p at *
      have kc := k1 _ hB
      clear HI
      cases ht : mk m x with
      | true =>
        rw [ht] at hI hS
        have hs := Lib.hid (hS.out rfl)
        clear hA hS ht
        go_wp2_with fail
        go_quiet (first | (go_at_call 30; exact Calls.quiet_of_same (HF.out _)) | (go_at_call 17; exact Calls.quiet_of_same (hI.out _)))
        go_wp2_with fail
        go_roundw
        case rel => exact ⟨j + 1, by omega, by go_num, hB.drewN _, hs⟩
        case measure => simp [intOf]; omega
      | false =>
        rw [ht] at hI hA
        have hv := hA.out rfl
        clear hA hS ht
        go_wp2_with fail
        go_quiet (first | (go_at_call 30; exact Calls.quiet_of_same (HF.out _)) | (go_at_call 17; exact Calls.quiet_of_same (hI.out _)))
        go_wp2_with fail
        go_ret
        exact ⟨by rw [hv]; rfl, hB.drewN _⟩
    · obtain rfl : j = n := by omega
      have hv := Lib.hid (HZ.out HJ.out)
      go_wp2_with fail
      go_ret
      exact ⟨by rw [hv.out]; rfl, hB⟩
end Go.Proofs.YtoogcooggdahnaaGreat

/- Relations: transitive of the program for all relations; everyWorld, sees. -/
namespace Go.Proofs.YtoogcooggdahnaaGreat
open Go.RowKit

/-- What the transitive closure is good for. -/
def GivesT (w : World) (A : List Nat) (e : Ending) (w' : World) : Prop := ∃ v L, e = .returned v ∧ Ints w' v L ∧ L.length = (zs A).length ∧ decide (L = zs A) = transB A ∧ Grew w w'
theorem transitive_t (v : Value) (A : List Nat) (w : World) (h : Ints w v (zs A)) (hA : Rl A) :
    Calls Tryz.prog 80 #[v] w (GivesT w A) := by
  rcases Nat.eq_zero_or_pos A.length with h0 | h0
  · have HCL := Lib.hid (cloneR_c v (zs A) w h (by rw [zs_len]; omega))
    obtain rfl : A = [] := List.eq_nil_of_length_eq_zero h0
    obtain ⟨A', c, rfl⟩ := ints_slice h
    rw [show (zs ([] : List Nat)).length = 0 from rfl] at HCL ⊢
    clear h hA h0
    go_enter Tryz.func80, Tryz.ntmps80
    go_wp2_with fail
    refine HCL.out.mono ?_
    rintro e w1 ⟨v1, rfl, hO1, hg1⟩
    obtain ⟨A2, c2, rfl⟩ := ints_slice hO1.ints
    have HO := Lib.hid hO1
    rw [show (zs ([] : List Nat)).length = 0 from rfl] at HO ⊢
    clear hO1
    go_wp2_with fail
    refine wp_loop_rounds 1 ?_; rw [rounds_succ]
    go_wp2_with fail
    go_ret
    exact ⟨_, _, rfl, HO.out.ints, rfl, rfl, hg1⟩
  · refine (transitive_c v A w h hA h0).mono ?_
    rintro e w' ⟨g, c, f, rfl, hR, hK, _, hg⟩
    exact ⟨_, _, rfl, hR.ints, by simp [zs], trans_eq hA hK, hg⟩

/-- What a condition on worlds gives. -/
def PredW (w : World) (f : Nat) (caps : Array Value) (n : Nat) (p : Nat → Bool) : Prop := ∀ x W, x < n → Grew w W → Calls Tryz.prog f (#[.int .i64 (x : Int)] ++ caps) W fun e W' => e = .returned (.bool (p x)) ∧ Grew W W'
theorem everyWorld_c (u : Value) (n : Nat) (f : Nat) (caps : Array Value) (p : Nat → Bool) (w : World) (hn : n ≤ 30) (hu : ∃ A m c, u = .slice A m c) (hf : PredW (w.alloc (.cells #[.int .i64 (n : Int), u] 63)) f caps n p) (eg : ∀ args w, (callFunc f args).run Tryz.prog w = .ok (.enter f args) w) :
    Calls Tryz.prog 75 #[.agg #[.int .i64 (n : Int), u], .func (.func f) #[] caps] w fun e w' => e = .returned (.bool (allB n p)) ∧ Grew w w' := by
  obtain ⟨A, m, c, rfl⟩ := hu
  obtain ⟨R, hR⟩ : ∃ R, R = allB n p := ⟨_, rfl⟩
  rw [← hR]
  have HA := Lib.hid (fun k hk h => hR.trans (@allB_no n p k hk h))
  have HZ := Lib.hid (fun h => hR.trans (@allB_of n p h))
  have HF := Lib.hid hf
  clear hf hR
  unfold PredW at HF
  go_enter Tryz.func75, Tryz.ntmps75
  go_wp2_with fail
  go_loopw [5, 8] (fun _ i wr => ∃ j : Nat, j ≤ n ∧ i = .int .i64 j ∧ Grew (w.alloc (.cells #[.int .i64 (n : Int), .slice A m c] 63)) wr ∧ Hid (AllK p j)) (fun _ i _ => n - (intOf i).toNat)
  case atStart => exact ⟨0, Nat.zero_le _, rfl, Grew.refl _, AllK.zero _⟩
  case round =>
    obtain ⟨j, hj, rfl, hB, HJ⟩ := hrel
    by_cases hlt : j < n
    · have hA := Lib.hid (HA.out j hlt)
      have hS := Lib.hid (fun h => HJ.out.succ (k := j) h)
      have hF := Lib.hid (HF.out _ _ hlt hB)
      go_wp2_with fail
      refine (hF.out).mono ?_
      rintro e w1 ⟨rfl, hg1⟩
      have hB1 := hB.trans hg1
      cases hp : p j with
      | true =>
        have hs := Lib.hid (hS.out hp)
        go_wp2_with fail
        go_roundw
        case rel => exact ⟨j + 1, by omega, by go_num, hB1, hs⟩
        case measure => simp [intOf]; omega
      | false =>
        have hv := Lib.hid (hA.out hp)
        go_wp2_with fail
        go_ret
        exact ⟨by rw [hv.out]; rfl, Grew.of_alloc hB1⟩
    · obtain rfl : j = n := by omega
      have hv := Lib.hid (HZ.out HJ.out)
      go_wp2_with fail
      go_ret
      exact ⟨by rw [hv.out]; rfl, Grew.of_alloc hB⟩
theorem sees_c (n : Nat) (v : Value) (A : List Nat) (x y : Nat) (w : World) (h : Ints w v (zs A)) (hA : Sm A) (hx : x < A.length) (hn : A.length ≤ 30) (hy : y < 64) :
    Calls Tryz.prog 77 #[.agg #[.int .i64 (n : Int), v], .int .i64 (x : Int), .int .i64 (y : Int)] w fun e w' => e = .returned (.bool ((nt A x).testBit y)) ∧ Grew w w' := by
  have HH := Lib.hid (has_q (nt A x) y (by have := hA.at_ hx; omega) hy)
  obtain ⟨A', c, rfl⟩ := ints_sliceN h
  obtain ⟨b, o, rfl, hcell⟩ := cellsN h (by omega)
  have k1 := hcell x hx
  clear h hcell hA
  generalize nt A x = m at *
  generalize A.length = k at *
  have hal := (Grew.refl w).alloc (.cells #[.int .i64 (n : Int), .slice (some ⟨b, o, none⟩) k c] 63)
  go_enter Tryz.func77, Tryz.ntmps77
  go_wp2_with fail
  refine (HH.out _).mono ?_
  rintro e w1 ⟨rfl, rfl⟩
  go_wp2_with fail
  go_ret
  exact ⟨rfl, hal⟩
end Go.Proofs.YtoogcooggdahnaaGreat

/- Relations: hasFlag of the program. -/
namespace Go.Proofs.YtoogcooggdahnaaGreat
open Go.RowKit

theorem refl1_k (v : Value) (A : List Nat) (bf : Nat) (w : World) (h : Ints w v (zs A)) (hA : Rl A) (k0 : ∀ W, Grew w W → W.cell? ⟨bf, 0, none⟩ = some (.int .i64 (A.length : Int))) (k1 : ∀ W, Grew w W → W.cell? ⟨bf, 1, none⟩ = some v) :
    PredW w 76 #[.pointer (some ⟨bf, 0, none⟩)] A.length (fun x => (nt A x).testBit x) := by
  intro x W hx hW
  have y0 := k0 W hW
  have y1 := k1 W hW
  have hn := hA.1
  have KS := Lib.hid (sees_c A.length v A x x W (h.grew hW) hA.sm hx hn (by omega))
  show Calls Tryz.prog 76 #[.int .i64 (x : Int), .pointer (some ⟨bf, 0, none⟩)] W fun e W' => e = .returned (.bool ((nt A x).testBit x)) ∧ Grew W W'
  obtain ⟨A', c, rfl⟩ := ints_sliceN h
  clear h k0 k1 hA
  generalize (nt A x).testBit x = t at *
  generalize A.length = n at *
  go_enter Tryz.func76, Tryz.ntmps76
  go_wp2_with fail
  refine (KS.out).mono ?_
  rintro e w1 ⟨rfl, hg1⟩
  go_wp2_with fail
  go_ret
  exact ⟨rfl, hg1⟩
theorem hasFlag0_c (v : Value) (A : List Nat) (w : World) (h : Ints w v (zs A)) (hA : Rl A) :
    Calls Tryz.prog 55 #[.agg #[.int .i64 (A.length : Int), v], .int .i64 0] w fun e w' => e = .returned (.bool (reflB A)) ∧ Grew w w' := by
  have hal := (Grew.refl w).alloc (.cells #[.int .i64 (A.length : Int), v] 63)
  have HI := Lib.hid (inverse_c v A _ (h.grew hal) hA)
  have HG := Lib.hid hal
  have eg := enters_of Tryz.func76 (by kernel_rfl) rfl
  have y0 : ∀ W, Grew (w.alloc (.cells #[.int .i64 (A.length : Int), v] 63)) W → W.cell? ⟨w.heap.size, 0, none⟩ = some (.int .i64 (A.length : Int)) := fun W hW => (hW.cell (p := ⟨w.heap.size, 0, none⟩) (by simp)).trans (by simp)
  have y1 : ∀ W, Grew (w.alloc (.cells #[.int .i64 (A.length : Int), v] 63)) W → W.cell? ⟨w.heap.size, 1, none⟩ = some v := fun W hW => (hW.cell (p := ⟨w.heap.size, 1, none⟩) (by simp)).trans (by simp)
  have KE := Lib.hid (fun W (hW : Grew (w.alloc (.cells #[.int .i64 (A.length : Int), v] 63)) W) => everyWorld_c v A.length 76 #[.pointer (some ⟨w.heap.size, 0, none⟩)] _ W hA.1 (by obtain ⟨A', c, e⟩ := ints_slice h; exact ⟨_, _, _, e⟩) (refl1_k v A w.heap.size _ (h.grew (hal.trans (hW.alloc _))) hA (fun V hV => y0 V ((hW.alloc _).trans hV)) (fun V hV => y1 V ((hW.alloc _).trans hV))) eg)
  rw [show allB A.length (fun x => (nt A x).testBit x) = reflB A from rfl] at KE
  obtain ⟨A', c, rfl⟩ := ints_sliceN h
  clear h hA hal eg
  generalize reflB A = R at *
  generalize A.length = n at *
  go_enter Tryz.func55, Tryz.ntmps55
  go_wp2_with fail
  refine (HI.out).mono ?_
  rintro e w1 ⟨g, cc, f, rfl, hR, hK, hgg, hg1⟩
  clear hK hR
  have hg2 := hg1.alloc (.cells #[.slice (some ⟨g, 0, none⟩) n cc] 22)
  go_wp2_with fail
  refine (KE.out _ hg2).mono ?_
  rintro e w2 ⟨rfl, hg3⟩
  go_wp2_with fail
  go_ret
  exact ⟨rfl, HG.out.trans (hg2.trans hg3)⟩
theorem anti1_k (v u : Value) (A : List Nat) (f : Nat → Nat) (bf bb : Nat) (w : World) (h : Ints w v (zs A)) (hA : Rl A) (hu : Ints w u (zs ((List.range A.length).map f))) (hf : Bk (nt A) A.length A.length 0 f)
    (k0 : ∀ W, Grew w W → W.cell? ⟨bf, 0, none⟩ = some (.int .i64 (A.length : Int))) (k1 : ∀ W, Grew w W → W.cell? ⟨bf, 1, none⟩ = some v) (k2 : ∀ W, Grew w W → W.cell? ⟨bb, 0, none⟩ = some u) :
    PredW w 86 #[.pointer (some ⟨bf, 0, none⟩), .pointer (some ⟨bb, 0, none⟩)] A.length (fun x => decide (dif (nt A x &&& f x) (2 ^ x) = 0)) := by
  intro x W hx hW
  have y0 := fun V (hV : Grew W V) => k0 V (hW.trans hV)
  have y1 := fun V (hV : Grew W V) => k1 V (hW.trans hV)
  have y2 := fun V (hV : Grew W V) => k2 V (hW.trans hV)
  have hn := hA.1
  have hlA := hA.sm.at_ hx
  have hlF := (hf x hx).1
  have ha := and_i64 (nt A x) (f x) (by omega) (by omega)
  have hp := wrap_pow (k := x) (by omega)
  have hlp := pow30' (k := x) (by omega)
  have hla : nt A x &&& f x < 1073741824 := Nat.and_lt_two_pow (n := 30) _ hlF
  have KW := Lib.hid (within_q (nt A x &&& f x) (2 ^ x) (by omega) (by omega))
  have hlm : ((List.range A.length).map f).length = A.length := by simp
  have hfx : nt ((List.range A.length).map f) x = f x := by simp [nt, List.getD, hx]
  show Calls Tryz.prog 86 #[.int .i64 (x : Int), .pointer (some ⟨bf, 0, none⟩), .pointer (some ⟨bb, 0, none⟩)] W fun e W' => e = .returned (.bool (decide (dif (nt A x &&& f x) (2 ^ x) = 0))) ∧ Grew W W'
  obtain ⟨A', c, rfl⟩ := ints_sliceN h
  obtain ⟨A2, c2, rfl⟩ := ints_sliceN hu
  obtain ⟨b, o, rfl, hc1⟩ := cellsN h (by omega)
  obtain ⟨b2, o2, rfl, hc2⟩ := cellsN hu (by omega)
  have z1 := fun V (hV : Grew W V) => hc1 x hx V (hW.trans hV)
  have z2 := fun V (hV : Grew W V) => hc2 x (by omega) V (hW.trans hV)
  rw [hfx] at z2
  rw [hlm] at y2
  clear h hu hc1 hc2 k0 k1 k2 hA hf hlm hfx
  generalize nt A x &&& f x = m at *
  generalize nt A x = p1 at *
  generalize f x = p2 at *
  generalize (2 ^ x : Nat) = p at *
  generalize decide (dif m p = 0) = R at *
  generalize A.length = n at *
  have hi0 : (0 : Int) ≤ (x : Int) := by omega
  have hi6 : (x : Int) < (n : Int) := by omega
  have hr1 := Grew.refl W
  have hd1 := (Grew.refl W).drew
  go_enter Tryz.func86, Tryz.ntmps86
  go_wp2_with fail
  go_quiet (first | (go_at_call 87; exact Calls.quiet_of_same (KW.out _)))
  go_wp2_with fail
  go_ret
  exact ⟨rfl, (Grew.refl _).drewN _⟩
theorem hasFlag8_c (v : Value) (A : List Nat) (w : World) (h : Ints w v (zs A)) (hA : Rl A) :
    Calls Tryz.prog 55 #[.agg #[.int .i64 (A.length : Int), v], .int .i64 8] w fun e w' => e = .returned (.bool (antiB A)) ∧ Grew w w' := by
  have hal := (Grew.refl w).alloc (.cells #[.int .i64 (A.length : Int), v] 63)
  have HI := Lib.hid (inverse_c v A _ (h.grew hal) hA)
  have HG := Lib.hid hal
  have eg := enters_of Tryz.func86 (by kernel_rfl) rfl
  have y0 : ∀ W, Grew (w.alloc (.cells #[.int .i64 (A.length : Int), v] 63)) W → W.cell? ⟨w.heap.size, 0, none⟩ = some (.int .i64 (A.length : Int)) := fun W hW => (hW.cell (p := ⟨w.heap.size, 0, none⟩) (by simp)).trans (by simp)
  have y1 : ∀ W, Grew (w.alloc (.cells #[.int .i64 (A.length : Int), v] 63)) W → W.cell? ⟨w.heap.size, 1, none⟩ = some v := fun W hW => (hW.cell (p := ⟨w.heap.size, 1, none⟩) (by simp)).trans (by simp)
  have KE := Lib.hid (fun w1 (hg1 : Grew (w.alloc (.cells #[.int .i64 (A.length : Int), v] 63)) w1) g cc f (hR : NRow w1 g A.length cc f) (hK : Bk (nt A) A.length A.length 0 f) W (hW : Grew (w1.alloc (.cells #[.slice (some ⟨g, 0, none⟩) A.length cc] 22)) W) => by
    have hga := hg1.alloc (.cells #[.slice (some ⟨g, 0, none⟩) A.length cc] 22)
    have y2 : ∀ V, Grew W V → V.cell? ⟨w1.heap.size, 0, none⟩ = some (.slice (some ⟨g, 0, none⟩) A.length cc) := fun V hV => ((hW.trans hV).cell (p := ⟨w1.heap.size, 0, none⟩) (by simp)).trans (by simp)
    have K := everyWorld_c v A.length 86 #[.pointer (some ⟨w.heap.size, 0, none⟩), .pointer (some ⟨w1.heap.size, 0, none⟩)] _ W hA.1 (by obtain ⟨A', c, e⟩ := ints_slice h; exact ⟨_, _, _, e⟩)
      (anti1_k v _ A f w.heap.size w1.heap.size _ (h.grew (hal.trans ((hga.trans hW).alloc _))) hA ((hR.ints.grew (((Grew.refl w1).alloc _).trans hW)).grew ((Grew.refl W).alloc _)) hK (fun V hV => y0 V (((hga.trans hW).alloc _).trans hV)) (fun V hV => y1 V (((hga.trans hW).alloc _).trans hV)) (fun V hV => y2 V (((Grew.refl W).alloc _).trans hV))) eg
    rw [anti_eq hK] at K
    exact K)
  obtain ⟨A', c, rfl⟩ := ints_sliceN h
  clear h hA hal eg
  generalize antiB A = R at *
  generalize A.length = n at *
  go_enter Tryz.func55, Tryz.ntmps55
  go_wp2_with fail
  refine (HI.out).mono ?_
  rintro e w1 ⟨g, cc, f, rfl, hR, hK, hgg, hg1⟩
  have KF := Lib.hid (KE.out w1 hg1 g cc f hR hK)
  clear hK hR KE
  have hg2 := hg1.alloc (.cells #[.slice (some ⟨g, 0, none⟩) n cc] 22)
  go_wp2_with fail
  refine (KF.out _ (Grew.refl _)).mono ?_
  rintro e w2 ⟨rfl, hg3⟩
  go_wp2_with fail
  go_ret
  exact ⟨rfl, HG.out.trans (hg2.trans hg3)⟩
theorem hasFlag2_c (v : Value) (A : List Nat) (w : World) (h : Ints w v (zs A)) (hA : Rl A) :
    Calls Tryz.prog 55 #[.agg #[.int .i64 (A.length : Int), v], .int .i64 2] w fun e w' => e = .returned (.bool (transB A)) ∧ Grew w w' := by
  have hal := (Grew.refl w).alloc (.cells #[.int .i64 (A.length : Int), v] 63)
  have HI := Lib.hid (inverse_c v A _ (h.grew hal) hA)
  have HG := Lib.hid hal
  have y0 : ∀ W, Grew (w.alloc (.cells #[.int .i64 (A.length : Int), v] 63)) W → W.cell? ⟨w.heap.size, 0, none⟩ = some (.int .i64 (A.length : Int)) := fun W hW => (hW.cell (p := ⟨w.heap.size, 0, none⟩) (by simp)).trans (by simp)
  have y1 : ∀ W, Grew (w.alloc (.cells #[.int .i64 (A.length : Int), v] 63)) W → W.cell? ⟨w.heap.size, 1, none⟩ = some v := fun W hW => (hW.cell (p := ⟨w.heap.size, 1, none⟩) (by simp)).trans (by simp)
  have KT := Lib.hid (fun W (hW : Grew w W) => transitive_t v A W (h.grew hW) hA)
  have KQ := Lib.hid (fun W (hW : Grew w W) u L (hu : Ints W u L) (hl : L.length = (zs A).length) => equalR_c u v L (zs A) W hu (h.grew hW) hl)
  obtain ⟨A', c, rfl⟩ := ints_sliceN h
  clear h hA hal
  unfold GivesT at KT
  generalize transB A = R at *
  generalize A.length = n at *
  go_enter Tryz.func55, Tryz.ntmps55
  go_wp2_with fail
  refine (HI.out).mono ?_
  rintro e w1 ⟨g, cc, f, rfl, hR, hK, hgg, hg1⟩
  clear hK hR
  have hg2 := hg1.alloc (.cells #[.slice (some ⟨g, 0, none⟩) n cc] 22)
  go_wp2_with fail
  generalize w1.alloc (.cells #[.slice (some ⟨g, 0, none⟩) n cc] 22) = w2 at *
  have z0 := fun V (hV : Grew w2 V) => y0 V (hg2.trans hV)
  have z1 := fun V (hV : Grew w2 V) => y1 V (hg2.trans hV)
  have hw2 := HG.out.trans hg2
  have hr1 := Grew.refl w2
  have d1 := (Grew.refl w2).drew
  go_region_held3 (fun w' => Grew w2 w') (with_reducible assumption)
    (first
      | (go_at_call 79; refine (KQ.out _ (hw2.trans (d1.trans hg3)) _ _ hu hl).mono ?_; rintro e w4 ⟨rfl, hg4⟩; have hk4 := (d1.trans hg3).trans hg4)
      | (go_at_call 80; refine (KT.out _ (hw2.trans d1)).mono ?_; rintro e w3 ⟨u, L, rfl, hu, hl, hd, hg3⟩; have hk3 := d1.trans hg3))
  go_wp2_with fail
  go_ret
  exact ⟨rfl, hw2.trans hk4⟩
end Go.Proofs.YtoogcooggdahnaaGreat

/- A number between two bounds. -/
namespace Go.Proofs.YtoogcooggdahnaaGreat
open Go.RowKit

theorem l01In_c (k lo hi : Int) (w : World) : Calls Tryz.prog 17 #[.int .i64 k, .int .i64 lo, .int .i64 hi] w fun e w' => e = .returned (.bool (decide (lo ≤ k ∧ k ≤ hi))) ∧ Grew w w' := by
  by_cases h : lo ≤ k
  · have hd : decide (lo ≤ k ∧ k ≤ hi) = decide (k ≤ hi) := by simp [h]
    rw [hd]
    go_enter Tryz.func17, Tryz.ntmps17
    go_wp2_with fail
    go_ret
    exact ⟨rfl, Grew.refl _⟩
  · have hd : decide (lo ≤ k ∧ k ≤ hi) = false := by simp [h]
    rw [hd]
    go_enter Tryz.func17, Tryz.ntmps17
    go_wp2_with fail
    go_ret
    exact ⟨rfl, Grew.refl _⟩

theorem inRange_c (k lo hi : Int) (w : World) : Calls Tryz.prog 38 #[.int .i64 k, .int .i64 lo, .int .i64 hi] w fun e w' => e = .returned (.bool (decide (lo ≤ k ∧ k ≤ hi))) ∧ Grew w w' := by
  by_cases h : lo ≤ k
  · have hd : decide (lo ≤ k ∧ k ≤ hi) = decide (k ≤ hi) := by simp [h]
    rw [hd]
    go_enter Tryz.func38, Tryz.ntmps38
    go_wp2_with fail
    go_ret
    exact ⟨rfl, Grew.refl _⟩
  · have hd : decide (lo ≤ k ∧ k ≤ hi) = false := by simp [h]
    rw [hd]
    go_enter Tryz.func38, Tryz.ntmps38
    go_wp2_with fail
    go_ret
    exact ⟨rfl, Grew.refl _⟩
end Go.Proofs.YtoogcooggdahnaaGreat

/- Posets of the program: isPoset, isValuation. -/
namespace Go.Proofs.YtoogcooggdahnaaGreat
open Go.RowKit

def nats (L : List Int) : List Nat := L.map Int.toNat
theorem nats_len (L : List Int) : (nats L).length = L.length := by simp [nats]
theorem nats_ok {n : Nat} {L : List Int} (h : mks n L = true) : zs (nats L) = L ∧ ∀ m ∈ nats L, m < 2 ^ n := by
  unfold mks at h
  rw [List.all_eq_true] at h
  obtain ⟨M, h1, _, h3⟩ := nats_of h
  have : nats L = M := by
    rw [h1]
    simp [nats, zs, Function.comp_def]
  rw [this]
  exact ⟨h1.symm, h3⟩
/-- Is it a poset? -/
def posB (sz : Int) (L : List Int) : Bool := decide (0 ≤ sz ∧ sz ≤ 8) && (decide ((L.length : Int) = sz) && (mks L.length L && (reflB (nats L) && (transB (nats L) && antiB (nats L)))))
theorem pos_rl {L : List Int} (hn : L.length ≤ 30) (h : mks L.length L = true) : Rl (nats L) := by
  have := nats_ok h
  refine ⟨by rw [nats_len]; exact hn, ?_⟩
  rw [nats_len]
  exact this.2
theorem info2F : (Tryz.prog.info? 63).map (·.size) = some 2 := by kernel_rfl
theorem info2P : (Tryz.prog.info? 30).map (·.size) = some 2 := by kernel_rfl
theorem frameOf_c (v : Value) (L : List Int) (w : World) (h : Ints w v L) :
    Calls Tryz.prog 73 #[v] w fun e w' => e = .returned (.agg #[.int .i64 (L.length : Int), v]) ∧ Grew w w' := by
  have hinfo := info2F
  have hb : ∀ o1, (w.alloc o1).heap[w.heap.size]? = some o1 := fun o1 => blk_new w o1
  have HS := Lib.hid (fun W hW => size_q v L W (h.grew hW))
  have hmx : L.length ≤ 9223372036854775807 := h.2.1
  obtain ⟨A, c, rfl⟩ := ints_slice h
  clear h
  generalize L.length = n at *
  go_enter Tryz.func73, Tryz.ntmps73
  go_wp2_with fail
  refine (HS.out _ ((Grew.refl w).alloc _)).mono ?_
  rintro e w1 ⟨rfl, rfl⟩
  go_wp2_with fail
  (try simp only [Exit.inBlock, Exit.then])
  refine bodyPost_ret (results_cell_row rfl _ _ w.heap.size _ _ _ _ rfl (hb _) Tryz.underlying63 rfl hinfo) rfl ?_
  exact ⟨rfl, (Grew.refl w).alloc _⟩
theorem frame_c (sz : Int) (v : Value) (L : List Int) (w : World) (h : Ints w v L) :
    Calls Tryz.prog 54 #[.agg #[.int .i64 sz, v]] w fun e w' => e = .returned (.agg #[.int .i64 (L.length : Int), v]) ∧ Grew w w' := by
  have hinfo := info2F
  have HS := Lib.hid (fun W hW => frameOf_c v L W (h.grew hW))
  obtain ⟨A, c, rfl⟩ := ints_slice h
  clear h
  generalize L.length = n at *
  go_enter Tryz.func54, Tryz.ntmps54
  go_wp2_with fail
  refine (HS.out _ (((Grew.refl w).alloc _).alloc _)).mono ?_
  rintro e w1 ⟨rfl, hg1⟩
  have hb : w1.heap[w.heap.size + 1]? = some (.cells #[.int .i64 0, .slice none 0 0] 63 (0, 0)) := (hg1.block (by simp)).trans (by
    have h := blk_new (w.alloc (.cells #[.int .i64 sz, .slice A n c] 30)) (.cells #[.int .i64 0, .slice none 0 0] 63)
    have e : (w.alloc (.cells #[.int .i64 sz, .slice A n c] 30)).heap.size = w.heap.size + 1 := by simp
    rwa [e] at h)
  have c0 : w1.cell? ⟨w.heap.size + 1, 0, none⟩ = some (.int .i64 0) := by rw [blk_cell hb]; rfl
  have c1 : w1.cell? ⟨w.heap.size + 1, 1, none⟩ = some (.slice none 0 0) := by rw [blk_cell hb]; rfl
  have f0 := blk_frozen hb 0
  have f1 := blk_frozen hb 1
  have HB := Lib.hid hb
  clear hb
  go_wp2_with fail
  (try simp only [Exit.inBlock, Exit.then])
  refine bodyPost_ret (results_cell_row rfl _ _ (w.heap.size + 1) _ _ _ _ rfl (blk_set (blk_set HB.out 0 _) 1 _) Tryz.underlying63 rfl hinfo) rfl ?_
  exact ⟨rfl, ((Grew.of_alloc (Grew.of_alloc hg1)).setCell (Nat.le_succ _) _).setCell (Nat.le_succ _) _⟩
set_option maxHeartbeats 2000000 in
theorem isPoset_c (sz : Int) (v : Value) (L : List Int) (w : World) (h : Ints w v L) :
    Calls Tryz.prog 32 #[.agg #[.int .i64 sz, v]] w fun e w' => e = .returned (.bool (posB sz L)) ∧ Grew w w' := by
  have HI := Lib.hid (inRange_c sz 0 8)
  have hal := (Grew.refl w).alloc (.cells #[.int .i64 sz, v] 30)
  have HG := Lib.hid hal
  have HS := Lib.hid (fun W hW => size_c v L W (h.grew hW))
  have HM := Lib.hid (fun W hW hn => isRelation_c v L W (h.grew hW) hn)
  have HF := Lib.hid (fun W hW => frame_c sz v L W (h.grew hW))
  have hmx : L.length ≤ 9223372036854775807 := h.2.1
  have hn30 : ¬ (0 ≤ sz ∧ sz ≤ 8) ∨ (L.length : Int) ≠ sz ∨ L.length ≤ 30 := by omega
  have y0 : ∀ W, Grew (w.alloc (.cells #[.int .i64 sz, v] 30)) W → W.cell? ⟨w.heap.size, 0, none⟩ = some (.int .i64 sz) := fun W hW => (hW.cell (p := ⟨w.heap.size, 0, none⟩) (by simp)).trans (by simp)
  have y1 : ∀ W, Grew (w.alloc (.cells #[.int .i64 sz, v] 30)) W → W.cell? ⟨w.heap.size, 1, none⟩ = some v := fun W hW => (hW.cell (p := ⟨w.heap.size, 1, none⟩) (by simp)).trans (by simp)
  obtain ⟨w1, hw1⟩ : ∃ w1, w1 = w.alloc (.cells #[.int .i64 sz, v] 30) := ⟨_, rfl⟩
  rw [← hw1] at y0 y1 HG
  clear hal
  have r1 := Grew.refl w1
  have r1d := r1.drew
  unfold posB
  by_cases h1 : 0 ≤ sz ∧ sz ≤ 8
  · rw [decide_eq_true h1] at HI ⊢
    rw [Bool.true_and]
    by_cases h2 : (L.length : Int) = sz
    · rw [decide_eq_true h2, Bool.true_and]
      obtain rfl := h2
      have hn : L.length ≤ 30 := by omega
      have HM := Lib.hid (fun W hW => HM.out W hW hn)
      cases h3 : mks L.length L with
      | true =>
        rw [Bool.true_and]
        have hA := pos_rl hn h3
        have hz := (nats_ok h3).1
        have hr := fun W (hW : Grew w W) => (show Ints W v (zs (nats L)) by rw [hz]; exact h.grew hW)
        have H0 := Lib.hid (fun W hW => hasFlag0_c v (nats L) W (hr W hW) hA)
        have H2 := Lib.hid (fun W hW => hasFlag2_c v (nats L) W (hr W hW) hA)
        have H8 := Lib.hid (fun W hW => hasFlag8_c v (nats L) W (hr W hW) hA)
        rw [nats_len] at H0 H2 H8
        rw [h3] at HM
        obtain ⟨A, c, rfl⟩ := ints_slice h
        clear h hA hz hr h3 hn hn30 h1
        generalize reflB (nats L) = r0 at *
        generalize transB (nats L) = r2 at *
        generalize antiB (nats L) = r8 at *
        generalize L.length = n at *
        have hq : ((n : Int) != (n : Int)) = false := by simp
        have hq2 : ((n : Int) == (n : Int)) = true := by simp
        go_enter Tryz.func32, Tryz.ntmps32
        go_wp2_with fail
        simp only [← hw1]
        clear hw1
        refine wp_region_held_drew (S := fun w' => Grew w1 w') (by kernel_rfl) r1d (fun hHeld => ?_)
        refine wpAnyH_take (i := 0) (oi := ?on1) (v := ?vn1) ?hin1 ?an1 ?bn1 ?cn1 ?qn1 (Or.inl ⟨?dn1, ?hyn1⟩) hHeld ?restn1
        case hin1 => (simp only [List.getElem?_toArray, List.getElem?_cons_zero]; exact rfl)
        case an1 => kernel_rfl
        case bn1 => kernel_rfl
        case cn1 => kernel_rfl
        case qn1 => exact fun _ _ _ h => h
        case dn1 => rfl
        case hyn1 => (intro z hSw; (try dsimp only at hSw); go_simp; (try with_reducible rfl))
        try simp only [Act.put, List.setIfInBounds_toArray, List.set_cons_zero, List.set_cons_succ]
        refine wpAnyH_take (i := 1) (oi := ?on2) (v := ?vn2) ?hin2 ?an2 ?bn2 ?cn2 ?qn2 (Or.inl ⟨?dn2, ?hyn2⟩) hHeld ?restn2
        case hin2 => (simp only [List.getElem?_toArray, List.getElem?_cons_succ, List.getElem?_cons_zero]; exact rfl)
        case an2 => kernel_rfl
        case bn2 => kernel_rfl
        case cn2 => kernel_rfl
        case qn2 => exact fun _ _ _ h => h
        case dn2 => rfl
        case hyn2 => (intro z hSw; (try dsimp only at hSw); go_simp; (try with_reducible rfl))
        try simp only [Act.put, List.setIfInBounds_toArray, List.set_cons_zero, List.set_cons_succ]
        refine wpAnyH_ready (rs := [2]) (by kernel_rfl) (by simp) ?_
        refine AllReadyH.cons (o := ?on3) ?hin3 ?restn3 AllReadyH.nil
        case hin3 => (simp only [List.getElem?_toArray, List.getElem?_cons_succ, List.getElem?_cons_zero]; exact rfl)
        intro K hK
        go_simp
        go_at_call 38
        refine (HI.out _).mono ?_
        rintro e w2 ⟨rfl, hgw2⟩
        have h2 : Grew w1 w2 := Grew.trans (by repeat (first | with_reducible assumption | with_reducible refine Grew.alloc ?_ _ | with_reducible refine Grew.drew ?_ | with_reducible refine Grew.drewN ?_ _)) hgw2
        refine hK.out _ _ ?_ (fun hHeld => ?_)
        · (try dsimp only); first | with_reducible assumption | exact Grew.alloc ‹_› _
        clear hK K
        try simp only [Act.put, List.setIfInBounds_toArray, List.set_cons_zero, List.set_cons_succ]
        refine wpAnyH_take (i := 3) (oi := ?on4) (v := ?vn4) ?hin4 ?an4 ?bn4 ?cn4 ?qn4 (Or.inl ⟨?dn4, ?hyn4⟩) hHeld ?restn4
        case hin4 => (simp only [List.getElem?_toArray, List.getElem?_cons_succ, List.getElem?_cons_zero]; exact rfl)
        case an4 => kernel_rfl
        case bn4 => kernel_rfl
        case cn4 => kernel_rfl
        case qn4 => exact fun _ _ _ h => h
        case dn4 => rfl
        case hyn4 => (intro z hSw; (try dsimp only at hSw); go_simp; (try with_reducible rfl))
        try simp only [Act.put, List.setIfInBounds_toArray, List.set_cons_zero, List.set_cons_succ]
        refine wpAnyH_take (i := 4) (oi := ?on5) (v := ?vn5) ?hin5 ?an5 ?bn5 ?cn5 ?qn5 (Or.inl ⟨?dn5, ?hyn5⟩) hHeld ?restn5
        case hin5 => (simp only [List.getElem?_toArray, List.getElem?_cons_succ, List.getElem?_cons_zero]; exact rfl)
        case an5 => kernel_rfl
        case bn5 => kernel_rfl
        case cn5 => kernel_rfl
        case qn5 => exact fun _ _ _ h => h
        case dn5 => rfl
        case hyn5 => (intro z hSw; (try dsimp only at hSw); go_simp; (try with_reducible rfl))
        try simp only [Act.put, List.setIfInBounds_toArray, List.set_cons_zero, List.set_cons_succ]
        refine wpAnyH_take (i := 5) (oi := ?on6) (v := ?vn6) ?hin6 ?an6 ?bn6 ?cn6 ?qn6 (Or.inl ⟨?dn6, ?hyn6⟩) hHeld ?restn6
        case hin6 => (simp only [List.getElem?_toArray, List.getElem?_cons_succ, List.getElem?_cons_zero]; exact rfl)
        case an6 => kernel_rfl
        case bn6 => kernel_rfl
        case cn6 => kernel_rfl
        case qn6 => exact fun _ _ _ h => h
        case dn6 => rfl
        case hyn6 => (intro z hSw; (try dsimp only at hSw); go_simp; (try with_reducible rfl))
        try simp only [Act.put, List.setIfInBounds_toArray, List.set_cons_zero, List.set_cons_succ]
        refine wpAnyH_take (i := 6) (oi := ?on7) (v := ?vn7) ?hin7 ?an7 ?bn7 ?cn7 ?qn7 (Or.inl ⟨?dn7, ?hyn7⟩) hHeld ?restn7
        case hin7 => (simp only [List.getElem?_toArray, List.getElem?_cons_succ, List.getElem?_cons_zero]; exact rfl)
        case an7 => kernel_rfl
        case bn7 => kernel_rfl
        case cn7 => kernel_rfl
        case qn7 => exact fun _ _ _ h => h
        case dn7 => rfl
        case hyn7 => (intro z hSw; (try dsimp only at hSw); go_simp; (try with_reducible rfl))
        try simp only [Act.put, List.setIfInBounds_toArray, List.set_cons_zero, List.set_cons_succ]
        refine wpAnyH_take (i := 8) (oi := ?on8) (v := ?vn8) ?hin8 ?an8 ?bn8 ?cn8 ?qn8 (Or.inl ⟨?dn8, ?hyn8⟩) hHeld ?restn8
        case hin8 => (simp only [List.getElem?_toArray, List.getElem?_cons_succ, List.getElem?_cons_zero]; exact rfl)
        case an8 => kernel_rfl
        case bn8 => kernel_rfl
        case cn8 => kernel_rfl
        case qn8 => exact fun _ _ _ h => h
        case dn8 => rfl
        case hyn8 => (intro z hSw; (try dsimp only at hSw); go_simp; (try with_reducible rfl))
        try simp only [Act.put, List.setIfInBounds_toArray, List.set_cons_zero, List.set_cons_succ]
        refine wpAnyH_take (i := 9) (oi := ?on9) (v := ?vn9) ?hin9 ?an9 ?bn9 ?cn9 ?qn9 (Or.inl ⟨?dn9, ?hyn9⟩) hHeld ?restn9
        case hin9 => (simp only [List.getElem?_toArray, List.getElem?_cons_succ, List.getElem?_cons_zero]; exact rfl)
        case an9 => kernel_rfl
        case bn9 => kernel_rfl
        case cn9 => kernel_rfl
        case qn9 => exact fun _ _ _ h => h
        case dn9 => rfl
        case hyn9 => (intro z hSw; (try dsimp only at hSw); go_simp; (try with_reducible rfl))
        try simp only [Act.put, List.setIfInBounds_toArray, List.set_cons_zero, List.set_cons_succ]
        refine wpAnyH_ready (rs := [7]) (by kernel_rfl) (by simp) ?_
        refine AllReadyH.cons (o := ?on10) ?hin10 ?restn10 AllReadyH.nil
        case hin10 => (simp only [List.getElem?_toArray, List.getElem?_cons_succ, List.getElem?_cons_zero]; exact rfl)
        intro K hK
        go_simp
        go_at_call 52
        refine (HS.out _ (HG.out.trans (h2.trans (Grew.refl _)))).mono ?_
        rintro e w3 ⟨rfl, hgw3⟩
        have h3 : Grew w1 w3 := h2.trans hgw3
        refine hK.out _ _ ?_ (fun hHeld => ?_)
        · (try dsimp only); first | with_reducible assumption | exact Grew.alloc ‹_› _
        clear hK K
        try simp only [Act.put, List.setIfInBounds_toArray, List.set_cons_zero, List.set_cons_succ]
        refine wpAnyH_take (i := 10) (oi := ?on11) (v := ?vn11) ?hin11 ?an11 ?bn11 ?cn11 ?qn11 (Or.inl ⟨?dn11, ?hyn11⟩) hHeld ?restn11
        case hin11 => (simp only [List.getElem?_toArray, List.getElem?_cons_succ, List.getElem?_cons_zero]; exact rfl)
        case an11 => kernel_rfl
        case bn11 => kernel_rfl
        case cn11 => kernel_rfl
        case qn11 => exact fun _ _ _ h => h
        case dn11 => rfl
        case hyn11 => (intro z hSw; (try dsimp only at hSw); go_simp; (try with_reducible rfl))
        try simp only [Act.put, List.setIfInBounds_toArray, List.set_cons_zero, List.set_cons_succ]
        refine wpAnyH_take (i := 11) (oi := ?on12) (v := ?vn12) ?hin12 ?an12 ?bn12 ?cn12 ?qn12 (Or.inl ⟨?dn12, ?hyn12⟩) hHeld ?restn12
        case hin12 => (simp only [List.getElem?_toArray, List.getElem?_cons_succ, List.getElem?_cons_zero]; exact rfl)
        case an12 => kernel_rfl
        case bn12 => kernel_rfl
        case cn12 => kernel_rfl
        case qn12 => exact fun _ _ _ h => h
        case dn12 => rfl
        case hyn12 => (intro z hSw; (try dsimp only at hSw); go_simp; (try with_reducible rfl))
        try simp only [Act.put, List.setIfInBounds_toArray, List.set_cons_zero, List.set_cons_succ]
        refine wpAnyH_take (i := 12) (oi := ?on13) (v := ?vn13) ?hin13 ?an13 ?bn13 ?cn13 ?qn13 (Or.inl ⟨?dn13, ?hyn13⟩) hHeld ?restn13
        case hin13 => (simp only [List.getElem?_toArray, List.getElem?_cons_succ, List.getElem?_cons_zero]; exact rfl)
        case an13 => kernel_rfl
        case bn13 => kernel_rfl
        case cn13 => kernel_rfl
        case qn13 => exact fun _ _ _ h => h
        case dn13 => rfl
        case hyn13 => (intro z hSw; (try dsimp only at hSw); go_simp; (try with_reducible rfl))
        try simp only [Act.put, List.setIfInBounds_toArray, List.set_cons_zero, List.set_cons_succ]
        refine wpAnyH_take (i := 13) (oi := ?on14) (v := ?vn14) ?hin14 ?an14 ?bn14 ?cn14 ?qn14 (Or.inl ⟨?dn14, ?hyn14⟩) hHeld ?restn14
        case hin14 => (simp only [List.getElem?_toArray, List.getElem?_cons_succ, List.getElem?_cons_zero]; exact rfl)
        case an14 => kernel_rfl
        case bn14 => kernel_rfl
        case cn14 => kernel_rfl
        case qn14 => exact fun _ _ _ h => h
        case dn14 => rfl
        case hyn14 => (intro z hSw; (try dsimp only at hSw); go_simp; (try with_reducible rfl))
        try simp only [Act.put, List.setIfInBounds_toArray, List.set_cons_zero, List.set_cons_succ]
        refine wpAnyH_take (i := 14) (oi := ?on15) (v := ?vn15) ?hin15 ?an15 ?bn15 ?cn15 ?qn15 (Or.inl ⟨?dn15, ?hyn15⟩) hHeld ?restn15
        case hin15 => (simp only [List.getElem?_toArray, List.getElem?_cons_succ, List.getElem?_cons_zero]; exact rfl)
        case an15 => kernel_rfl
        case bn15 => kernel_rfl
        case cn15 => kernel_rfl
        case qn15 => exact fun _ _ _ h => h
        case dn15 => rfl
        case hyn15 => (intro z hSw; (try dsimp only at hSw); go_simp; (try with_reducible rfl))
        try simp only [Act.put, List.setIfInBounds_toArray, List.set_cons_zero, List.set_cons_succ]
        refine wpAnyH_ready (rs := [15]) (by kernel_rfl) (by simp) ?_
        refine AllReadyH.cons (o := ?on16) ?hin16 ?restn16 AllReadyH.nil
        case hin16 => (simp only [List.getElem?_toArray, List.getElem?_cons_succ, List.getElem?_cons_zero]; exact rfl)
        intro K hK
        go_simp
        go_at_call 53
        refine (HM.out _ (HG.out.trans h3)).mono ?_
        rintro e w4 ⟨rfl, hgw4⟩
        have h4 : Grew w1 w4 := h3.trans hgw4
        refine hK.out _ _ ?_ (fun hHeld => ?_)
        · (try dsimp only); first | with_reducible assumption | exact Grew.alloc ‹_› _
        clear hK K
        try simp only [Act.put, List.setIfInBounds_toArray, List.set_cons_zero, List.set_cons_succ]
        refine wpAnyH_take (i := 16) (oi := ?on17) (v := ?vn17) ?hin17 ?an17 ?bn17 ?cn17 ?qn17 (Or.inl ⟨?dn17, ?hyn17⟩) hHeld ?restn17
        case hin17 => (simp only [List.getElem?_toArray, List.getElem?_cons_succ, List.getElem?_cons_zero]; exact rfl)
        case an17 => kernel_rfl
        case bn17 => kernel_rfl
        case cn17 => kernel_rfl
        case qn17 => exact fun _ _ _ h => h
        case dn17 => rfl
        case hyn17 => (intro z hSw; (try dsimp only at hSw); go_simp; (try with_reducible rfl))
        try simp only [Act.put, List.setIfInBounds_toArray, List.set_cons_zero, List.set_cons_succ]
        refine wpAnyH_take (i := 17) (oi := ?on18) (v := ?vn18) ?hin18 ?an18 ?bn18 ?cn18 ?qn18 (Or.inl ⟨?dn18, ?hyn18⟩) hHeld ?restn18
        case hin18 => (simp only [List.getElem?_toArray, List.getElem?_cons_succ, List.getElem?_cons_zero]; exact rfl)
        case an18 => kernel_rfl
        case bn18 => kernel_rfl
        case cn18 => kernel_rfl
        case qn18 => exact fun _ _ _ h => h
        case dn18 => rfl
        case hyn18 => (intro z hSw; (try dsimp only at hSw); go_simp; (try with_reducible rfl))
        try simp only [Act.put, List.setIfInBounds_toArray, List.set_cons_zero, List.set_cons_succ]
        refine wpAnyH_done (by kernel_rfl) ?_ _
        have hw4 := HG.out.trans h4
        have z0 := fun W (hW : Grew w4 W) => y0 W (h4.trans hW)
        have z1 := fun W (hW : Grew w4 W) => y1 W (h4.trans hW)
        have r4 := Grew.refl w4
        go_wp2_with fail
        refine (HF.out _ hw4).mono ?_
        rintro e w5 ⟨rfl, hg5⟩
        have h5 := hw4.trans hg5
        have h6 := h5.alloc (.cells #[.int .i64 (n : Int), .slice A n c] 63)
        have x0 : ∀ W, Grew (w5.alloc (.cells #[.int .i64 (n : Int), .slice A n c] 63)) W → W.cell? ⟨w5.heap.size, 0, none⟩ = some (.int .i64 (n : Int)) := fun W hW => (hW.cell (p := ⟨w5.heap.size, 0, none⟩) (by simp)).trans (by simp)
        have x1 : ∀ W, Grew (w5.alloc (.cells #[.int .i64 (n : Int), .slice A n c] 63)) W → W.cell? ⟨w5.heap.size, 1, none⟩ = some (.slice A n c) := fun W hW => (hW.cell (p := ⟨w5.heap.size, 1, none⟩) (by simp)).trans (by simp)
        have r6 := Grew.refl (w5.alloc (.cells #[.int .i64 (n : Int), .slice A n c] 63))
        have a6 := (Grew.refl w5).alloc (.cells #[.int .i64 (n : Int), .slice A n c] 63)
        cases r0 with
        | false =>
          go_wp2_with fail
          refine (H0.out _ h6).mono ?_
          rintro e w7 ⟨rfl, hg7⟩
          have h7 := h6.trans hg7
          go_wp2_with fail
          go_ret
          exact ⟨rfl, h7⟩
        | true =>
          go_wp2_with fail
          refine (H0.out _ h6).mono ?_
          rintro e w7 ⟨rfl, hg7⟩
          have h7 := h6.trans hg7
          cases r2 with
          | false =>
            go_wp2_with fail
            refine (H2.out _ h7).mono ?_
            rintro e w8 ⟨rfl, hg8⟩
            have h8 := h7.trans hg8
            go_wp2_with fail
            go_ret
            exact ⟨rfl, h8⟩
          | true =>
            go_wp2_with fail
            refine (H2.out _ h7).mono ?_
            rintro e w8 ⟨rfl, hg8⟩
            have h8 := h7.trans hg8
            have hg78 := hg7.trans hg8
            go_wp2_with fail
            refine (H8.out _ h8).mono ?_
            rintro e w9 ⟨rfl, hg9⟩
            have h9 := h8.trans hg9
            go_wp2_with fail
            go_ret
            exact ⟨rfl, h9⟩
      | false =>
        rw [h3] at HM
        rw [Bool.false_and]
        obtain ⟨A, c, rfl⟩ := ints_slice h
        clear h h3 hn hn30 h1
        generalize L.length = n at *
        have hq : ((n : Int) != (n : Int)) = false := by simp
        have hq2 : ((n : Int) == (n : Int)) = true := by simp
        go_enter Tryz.func32, Tryz.ntmps32
        go_wp2_with fail
        simp only [← hw1]
        clear hw1
        refine wp_region_held_drew (S := fun w' => Grew w1 w') (by kernel_rfl) r1d (fun hHeld => ?_)
        refine wpAnyH_take (i := 0) (oi := ?on19) (v := ?vn19) ?hin19 ?an19 ?bn19 ?cn19 ?qn19 (Or.inl ⟨?dn19, ?hyn19⟩) hHeld ?restn19
        case hin19 => (simp only [List.getElem?_toArray, List.getElem?_cons_zero]; exact rfl)
        case an19 => kernel_rfl
        case bn19 => kernel_rfl
        case cn19 => kernel_rfl
        case qn19 => exact fun _ _ _ h => h
        case dn19 => rfl
        case hyn19 => (intro z hSw; (try dsimp only at hSw); go_simp; (try with_reducible rfl))
        try simp only [Act.put, List.setIfInBounds_toArray, List.set_cons_zero, List.set_cons_succ]
        refine wpAnyH_take (i := 1) (oi := ?on20) (v := ?vn20) ?hin20 ?an20 ?bn20 ?cn20 ?qn20 (Or.inl ⟨?dn20, ?hyn20⟩) hHeld ?restn20
        case hin20 => (simp only [List.getElem?_toArray, List.getElem?_cons_succ, List.getElem?_cons_zero]; exact rfl)
        case an20 => kernel_rfl
        case bn20 => kernel_rfl
        case cn20 => kernel_rfl
        case qn20 => exact fun _ _ _ h => h
        case dn20 => rfl
        case hyn20 => (intro z hSw; (try dsimp only at hSw); go_simp; (try with_reducible rfl))
        try simp only [Act.put, List.setIfInBounds_toArray, List.set_cons_zero, List.set_cons_succ]
        refine wpAnyH_ready (rs := [2]) (by kernel_rfl) (by simp) ?_
        refine AllReadyH.cons (o := ?on21) ?hin21 ?restn21 AllReadyH.nil
        case hin21 => (simp only [List.getElem?_toArray, List.getElem?_cons_succ, List.getElem?_cons_zero]; exact rfl)
        intro K hK
        go_simp
        go_at_call 38
        refine (HI.out _).mono ?_
        rintro e w2 ⟨rfl, hgw2⟩
        have h2 : Grew w1 w2 := Grew.trans (by repeat (first | with_reducible assumption | with_reducible refine Grew.alloc ?_ _ | with_reducible refine Grew.drew ?_ | with_reducible refine Grew.drewN ?_ _)) hgw2
        refine hK.out _ _ ?_ (fun hHeld => ?_)
        · (try dsimp only); first | with_reducible assumption | exact Grew.alloc ‹_› _
        clear hK K
        try simp only [Act.put, List.setIfInBounds_toArray, List.set_cons_zero, List.set_cons_succ]
        refine wpAnyH_take (i := 3) (oi := ?on22) (v := ?vn22) ?hin22 ?an22 ?bn22 ?cn22 ?qn22 (Or.inl ⟨?dn22, ?hyn22⟩) hHeld ?restn22
        case hin22 => (simp only [List.getElem?_toArray, List.getElem?_cons_succ, List.getElem?_cons_zero]; exact rfl)
        case an22 => kernel_rfl
        case bn22 => kernel_rfl
        case cn22 => kernel_rfl
        case qn22 => exact fun _ _ _ h => h
        case dn22 => rfl
        case hyn22 => (intro z hSw; (try dsimp only at hSw); go_simp; (try with_reducible rfl))
        try simp only [Act.put, List.setIfInBounds_toArray, List.set_cons_zero, List.set_cons_succ]
        refine wpAnyH_take (i := 4) (oi := ?on23) (v := ?vn23) ?hin23 ?an23 ?bn23 ?cn23 ?qn23 (Or.inl ⟨?dn23, ?hyn23⟩) hHeld ?restn23
        case hin23 => (simp only [List.getElem?_toArray, List.getElem?_cons_succ, List.getElem?_cons_zero]; exact rfl)
        case an23 => kernel_rfl
        case bn23 => kernel_rfl
        case cn23 => kernel_rfl
        case qn23 => exact fun _ _ _ h => h
        case dn23 => rfl
        case hyn23 => (intro z hSw; (try dsimp only at hSw); go_simp; (try with_reducible rfl))
        try simp only [Act.put, List.setIfInBounds_toArray, List.set_cons_zero, List.set_cons_succ]
        refine wpAnyH_take (i := 5) (oi := ?on24) (v := ?vn24) ?hin24 ?an24 ?bn24 ?cn24 ?qn24 (Or.inl ⟨?dn24, ?hyn24⟩) hHeld ?restn24
        case hin24 => (simp only [List.getElem?_toArray, List.getElem?_cons_succ, List.getElem?_cons_zero]; exact rfl)
        case an24 => kernel_rfl
        case bn24 => kernel_rfl
        case cn24 => kernel_rfl
        case qn24 => exact fun _ _ _ h => h
        case dn24 => rfl
        case hyn24 => (intro z hSw; (try dsimp only at hSw); go_simp; (try with_reducible rfl))
        try simp only [Act.put, List.setIfInBounds_toArray, List.set_cons_zero, List.set_cons_succ]
        refine wpAnyH_take (i := 6) (oi := ?on25) (v := ?vn25) ?hin25 ?an25 ?bn25 ?cn25 ?qn25 (Or.inl ⟨?dn25, ?hyn25⟩) hHeld ?restn25
        case hin25 => (simp only [List.getElem?_toArray, List.getElem?_cons_succ, List.getElem?_cons_zero]; exact rfl)
        case an25 => kernel_rfl
        case bn25 => kernel_rfl
        case cn25 => kernel_rfl
        case qn25 => exact fun _ _ _ h => h
        case dn25 => rfl
        case hyn25 => (intro z hSw; (try dsimp only at hSw); go_simp; (try with_reducible rfl))
        try simp only [Act.put, List.setIfInBounds_toArray, List.set_cons_zero, List.set_cons_succ]
        refine wpAnyH_take (i := 8) (oi := ?on26) (v := ?vn26) ?hin26 ?an26 ?bn26 ?cn26 ?qn26 (Or.inl ⟨?dn26, ?hyn26⟩) hHeld ?restn26
        case hin26 => (simp only [List.getElem?_toArray, List.getElem?_cons_succ, List.getElem?_cons_zero]; exact rfl)
        case an26 => kernel_rfl
        case bn26 => kernel_rfl
        case cn26 => kernel_rfl
        case qn26 => exact fun _ _ _ h => h
        case dn26 => rfl
        case hyn26 => (intro z hSw; (try dsimp only at hSw); go_simp; (try with_reducible rfl))
        try simp only [Act.put, List.setIfInBounds_toArray, List.set_cons_zero, List.set_cons_succ]
        refine wpAnyH_take (i := 9) (oi := ?on27) (v := ?vn27) ?hin27 ?an27 ?bn27 ?cn27 ?qn27 (Or.inl ⟨?dn27, ?hyn27⟩) hHeld ?restn27
        case hin27 => (simp only [List.getElem?_toArray, List.getElem?_cons_succ, List.getElem?_cons_zero]; exact rfl)
        case an27 => kernel_rfl
        case bn27 => kernel_rfl
        case cn27 => kernel_rfl
        case qn27 => exact fun _ _ _ h => h
        case dn27 => rfl
        case hyn27 => (intro z hSw; (try dsimp only at hSw); go_simp; (try with_reducible rfl))
        try simp only [Act.put, List.setIfInBounds_toArray, List.set_cons_zero, List.set_cons_succ]
        refine wpAnyH_ready (rs := [7]) (by kernel_rfl) (by simp) ?_
        refine AllReadyH.cons (o := ?on28) ?hin28 ?restn28 AllReadyH.nil
        case hin28 => (simp only [List.getElem?_toArray, List.getElem?_cons_succ, List.getElem?_cons_zero]; exact rfl)
        intro K hK
        go_simp
        go_at_call 52
        refine (HS.out _ (HG.out.trans (h2.trans (Grew.refl _)))).mono ?_
        rintro e w3 ⟨rfl, hgw3⟩
        have h3 : Grew w1 w3 := h2.trans hgw3
        refine hK.out _ _ ?_ (fun hHeld => ?_)
        · (try dsimp only); first | with_reducible assumption | exact Grew.alloc ‹_› _
        clear hK K
        try simp only [Act.put, List.setIfInBounds_toArray, List.set_cons_zero, List.set_cons_succ]
        refine wpAnyH_take (i := 10) (oi := ?on29) (v := ?vn29) ?hin29 ?an29 ?bn29 ?cn29 ?qn29 (Or.inl ⟨?dn29, ?hyn29⟩) hHeld ?restn29
        case hin29 => (simp only [List.getElem?_toArray, List.getElem?_cons_succ, List.getElem?_cons_zero]; exact rfl)
        case an29 => kernel_rfl
        case bn29 => kernel_rfl
        case cn29 => kernel_rfl
        case qn29 => exact fun _ _ _ h => h
        case dn29 => rfl
        case hyn29 => (intro z hSw; (try dsimp only at hSw); go_simp; (try with_reducible rfl))
        try simp only [Act.put, List.setIfInBounds_toArray, List.set_cons_zero, List.set_cons_succ]
        refine wpAnyH_take (i := 11) (oi := ?on30) (v := ?vn30) ?hin30 ?an30 ?bn30 ?cn30 ?qn30 (Or.inl ⟨?dn30, ?hyn30⟩) hHeld ?restn30
        case hin30 => (simp only [List.getElem?_toArray, List.getElem?_cons_succ, List.getElem?_cons_zero]; exact rfl)
        case an30 => kernel_rfl
        case bn30 => kernel_rfl
        case cn30 => kernel_rfl
        case qn30 => exact fun _ _ _ h => h
        case dn30 => rfl
        case hyn30 => (intro z hSw; (try dsimp only at hSw); go_simp; (try with_reducible rfl))
        try simp only [Act.put, List.setIfInBounds_toArray, List.set_cons_zero, List.set_cons_succ]
        refine wpAnyH_take (i := 12) (oi := ?on31) (v := ?vn31) ?hin31 ?an31 ?bn31 ?cn31 ?qn31 (Or.inl ⟨?dn31, ?hyn31⟩) hHeld ?restn31
        case hin31 => (simp only [List.getElem?_toArray, List.getElem?_cons_succ, List.getElem?_cons_zero]; exact rfl)
        case an31 => kernel_rfl
        case bn31 => kernel_rfl
        case cn31 => kernel_rfl
        case qn31 => exact fun _ _ _ h => h
        case dn31 => rfl
        case hyn31 => (intro z hSw; (try dsimp only at hSw); go_simp; (try with_reducible rfl))
        try simp only [Act.put, List.setIfInBounds_toArray, List.set_cons_zero, List.set_cons_succ]
        refine wpAnyH_take (i := 13) (oi := ?on32) (v := ?vn32) ?hin32 ?an32 ?bn32 ?cn32 ?qn32 (Or.inl ⟨?dn32, ?hyn32⟩) hHeld ?restn32
        case hin32 => (simp only [List.getElem?_toArray, List.getElem?_cons_succ, List.getElem?_cons_zero]; exact rfl)
        case an32 => kernel_rfl
        case bn32 => kernel_rfl
        case cn32 => kernel_rfl
        case qn32 => exact fun _ _ _ h => h
        case dn32 => rfl
        case hyn32 => (intro z hSw; (try dsimp only at hSw); go_simp; (try with_reducible rfl))
        try simp only [Act.put, List.setIfInBounds_toArray, List.set_cons_zero, List.set_cons_succ]
        refine wpAnyH_take (i := 14) (oi := ?on33) (v := ?vn33) ?hin33 ?an33 ?bn33 ?cn33 ?qn33 (Or.inl ⟨?dn33, ?hyn33⟩) hHeld ?restn33
        case hin33 => (simp only [List.getElem?_toArray, List.getElem?_cons_succ, List.getElem?_cons_zero]; exact rfl)
        case an33 => kernel_rfl
        case bn33 => kernel_rfl
        case cn33 => kernel_rfl
        case qn33 => exact fun _ _ _ h => h
        case dn33 => rfl
        case hyn33 => (intro z hSw; (try dsimp only at hSw); go_simp; (try with_reducible rfl))
        try simp only [Act.put, List.setIfInBounds_toArray, List.set_cons_zero, List.set_cons_succ]
        refine wpAnyH_ready (rs := [15]) (by kernel_rfl) (by simp) ?_
        refine AllReadyH.cons (o := ?on34) ?hin34 ?restn34 AllReadyH.nil
        case hin34 => (simp only [List.getElem?_toArray, List.getElem?_cons_succ, List.getElem?_cons_zero]; exact rfl)
        intro K hK
        go_simp
        go_at_call 53
        refine (HM.out _ (HG.out.trans h3)).mono ?_
        rintro e w4 ⟨rfl, hgw4⟩
        have h4 : Grew w1 w4 := h3.trans hgw4
        refine hK.out _ _ ?_ (fun hHeld => ?_)
        · (try dsimp only); first | with_reducible assumption | exact Grew.alloc ‹_› _
        clear hK K
        try simp only [Act.put, List.setIfInBounds_toArray, List.set_cons_zero, List.set_cons_succ]
        refine wpAnyH_take (i := 16) (oi := ?on35) (v := ?vn35) ?hin35 ?an35 ?bn35 ?cn35 ?qn35 (Or.inl ⟨?dn35, ?hyn35⟩) hHeld ?restn35
        case hin35 => (simp only [List.getElem?_toArray, List.getElem?_cons_succ, List.getElem?_cons_zero]; exact rfl)
        case an35 => kernel_rfl
        case bn35 => kernel_rfl
        case cn35 => kernel_rfl
        case qn35 => exact fun _ _ _ h => h
        case dn35 => rfl
        case hyn35 => (intro z hSw; (try dsimp only at hSw); go_simp; (try with_reducible rfl))
        try simp only [Act.put, List.setIfInBounds_toArray, List.set_cons_zero, List.set_cons_succ]
        refine wpAnyH_take (i := 17) (oi := ?on36) (v := ?vn36) ?hin36 ?an36 ?bn36 ?cn36 ?qn36 (Or.inl ⟨?dn36, ?hyn36⟩) hHeld ?restn36
        case hin36 => (simp only [List.getElem?_toArray, List.getElem?_cons_succ, List.getElem?_cons_zero]; exact rfl)
        case an36 => kernel_rfl
        case bn36 => kernel_rfl
        case cn36 => kernel_rfl
        case qn36 => exact fun _ _ _ h => h
        case dn36 => rfl
        case hyn36 => (intro z hSw; (try dsimp only at hSw); go_simp; (try with_reducible rfl))
        try simp only [Act.put, List.setIfInBounds_toArray, List.set_cons_zero, List.set_cons_succ]
        refine wpAnyH_done (by kernel_rfl) ?_ _
        go_wp2_with fail
        go_ret
        exact ⟨rfl, HG.out.trans h4⟩
    · rw [decide_eq_false h2, Bool.false_and]
      have hq : ((L.length : Int) == sz) = false := by simpa using h2
      have hq2 : ((L.length : Int) != sz) = true := by simpa using h2
      obtain ⟨A, c, rfl⟩ := ints_slice h
      clear h h2 hn30 h1 HM
      generalize L.length = n at *
      go_enter Tryz.func32, Tryz.ntmps32
      go_wp2_with fail
      simp only [← hw1]
      clear hw1
      refine wp_region_held_drew (S := fun w' => Grew w1 w') (by kernel_rfl) r1d (fun hHeld => ?_)
      refine wpAnyH_take (i := 0) (oi := ?on37) (v := ?vn37) ?hin37 ?an37 ?bn37 ?cn37 ?qn37 (Or.inl ⟨?dn37, ?hyn37⟩) hHeld ?restn37
      case hin37 => (simp only [List.getElem?_toArray, List.getElem?_cons_zero]; exact rfl)
      case an37 => kernel_rfl
      case bn37 => kernel_rfl
      case cn37 => kernel_rfl
      case qn37 => exact fun _ _ _ h => h
      case dn37 => rfl
      case hyn37 => (intro z hSw; (try dsimp only at hSw); go_simp; (try with_reducible rfl))
      try simp only [Act.put, List.setIfInBounds_toArray, List.set_cons_zero, List.set_cons_succ]
      refine wpAnyH_take (i := 1) (oi := ?on38) (v := ?vn38) ?hin38 ?an38 ?bn38 ?cn38 ?qn38 (Or.inl ⟨?dn38, ?hyn38⟩) hHeld ?restn38
      case hin38 => (simp only [List.getElem?_toArray, List.getElem?_cons_succ, List.getElem?_cons_zero]; exact rfl)
      case an38 => kernel_rfl
      case bn38 => kernel_rfl
      case cn38 => kernel_rfl
      case qn38 => exact fun _ _ _ h => h
      case dn38 => rfl
      case hyn38 => (intro z hSw; (try dsimp only at hSw); go_simp; (try with_reducible rfl))
      try simp only [Act.put, List.setIfInBounds_toArray, List.set_cons_zero, List.set_cons_succ]
      refine wpAnyH_ready (rs := [2]) (by kernel_rfl) (by simp) ?_
      refine AllReadyH.cons (o := ?on39) ?hin39 ?restn39 AllReadyH.nil
      case hin39 => (simp only [List.getElem?_toArray, List.getElem?_cons_succ, List.getElem?_cons_zero]; exact rfl)
      intro K hK
      go_simp
      go_at_call 38
      refine (HI.out _).mono ?_
      rintro e w2 ⟨rfl, hgw2⟩
      have h2 : Grew w1 w2 := Grew.trans (by repeat (first | with_reducible assumption | with_reducible refine Grew.alloc ?_ _ | with_reducible refine Grew.drew ?_ | with_reducible refine Grew.drewN ?_ _)) hgw2
      refine hK.out _ _ ?_ (fun hHeld => ?_)
      · (try dsimp only); first | with_reducible assumption | exact Grew.alloc ‹_› _
      clear hK K
      try simp only [Act.put, List.setIfInBounds_toArray, List.set_cons_zero, List.set_cons_succ]
      refine wpAnyH_take (i := 3) (oi := ?on40) (v := ?vn40) ?hin40 ?an40 ?bn40 ?cn40 ?qn40 (Or.inl ⟨?dn40, ?hyn40⟩) hHeld ?restn40
      case hin40 => (simp only [List.getElem?_toArray, List.getElem?_cons_succ, List.getElem?_cons_zero]; exact rfl)
      case an40 => kernel_rfl
      case bn40 => kernel_rfl
      case cn40 => kernel_rfl
      case qn40 => exact fun _ _ _ h => h
      case dn40 => rfl
      case hyn40 => (intro z hSw; (try dsimp only at hSw); go_simp; (try with_reducible rfl))
      try simp only [Act.put, List.setIfInBounds_toArray, List.set_cons_zero, List.set_cons_succ]
      refine wpAnyH_take (i := 4) (oi := ?on41) (v := ?vn41) ?hin41 ?an41 ?bn41 ?cn41 ?qn41 (Or.inl ⟨?dn41, ?hyn41⟩) hHeld ?restn41
      case hin41 => (simp only [List.getElem?_toArray, List.getElem?_cons_succ, List.getElem?_cons_zero]; exact rfl)
      case an41 => kernel_rfl
      case bn41 => kernel_rfl
      case cn41 => kernel_rfl
      case qn41 => exact fun _ _ _ h => h
      case dn41 => rfl
      case hyn41 => (intro z hSw; (try dsimp only at hSw); go_simp; (try with_reducible rfl))
      try simp only [Act.put, List.setIfInBounds_toArray, List.set_cons_zero, List.set_cons_succ]
      refine wpAnyH_take (i := 5) (oi := ?on42) (v := ?vn42) ?hin42 ?an42 ?bn42 ?cn42 ?qn42 (Or.inl ⟨?dn42, ?hyn42⟩) hHeld ?restn42
      case hin42 => (simp only [List.getElem?_toArray, List.getElem?_cons_succ, List.getElem?_cons_zero]; exact rfl)
      case an42 => kernel_rfl
      case bn42 => kernel_rfl
      case cn42 => kernel_rfl
      case qn42 => exact fun _ _ _ h => h
      case dn42 => rfl
      case hyn42 => (intro z hSw; (try dsimp only at hSw); go_simp; (try with_reducible rfl))
      try simp only [Act.put, List.setIfInBounds_toArray, List.set_cons_zero, List.set_cons_succ]
      refine wpAnyH_take (i := 6) (oi := ?on43) (v := ?vn43) ?hin43 ?an43 ?bn43 ?cn43 ?qn43 (Or.inl ⟨?dn43, ?hyn43⟩) hHeld ?restn43
      case hin43 => (simp only [List.getElem?_toArray, List.getElem?_cons_succ, List.getElem?_cons_zero]; exact rfl)
      case an43 => kernel_rfl
      case bn43 => kernel_rfl
      case cn43 => kernel_rfl
      case qn43 => exact fun _ _ _ h => h
      case dn43 => rfl
      case hyn43 => (intro z hSw; (try dsimp only at hSw); go_simp; (try with_reducible rfl))
      try simp only [Act.put, List.setIfInBounds_toArray, List.set_cons_zero, List.set_cons_succ]
      refine wpAnyH_take (i := 8) (oi := ?on44) (v := ?vn44) ?hin44 ?an44 ?bn44 ?cn44 ?qn44 (Or.inl ⟨?dn44, ?hyn44⟩) hHeld ?restn44
      case hin44 => (simp only [List.getElem?_toArray, List.getElem?_cons_succ, List.getElem?_cons_zero]; exact rfl)
      case an44 => kernel_rfl
      case bn44 => kernel_rfl
      case cn44 => kernel_rfl
      case qn44 => exact fun _ _ _ h => h
      case dn44 => rfl
      case hyn44 => (intro z hSw; (try dsimp only at hSw); go_simp; (try with_reducible rfl))
      try simp only [Act.put, List.setIfInBounds_toArray, List.set_cons_zero, List.set_cons_succ]
      refine wpAnyH_take (i := 9) (oi := ?on45) (v := ?vn45) ?hin45 ?an45 ?bn45 ?cn45 ?qn45 (Or.inl ⟨?dn45, ?hyn45⟩) hHeld ?restn45
      case hin45 => (simp only [List.getElem?_toArray, List.getElem?_cons_succ, List.getElem?_cons_zero]; exact rfl)
      case an45 => kernel_rfl
      case bn45 => kernel_rfl
      case cn45 => kernel_rfl
      case qn45 => exact fun _ _ _ h => h
      case dn45 => rfl
      case hyn45 => (intro z hSw; (try dsimp only at hSw); go_simp; (try with_reducible rfl))
      try simp only [Act.put, List.setIfInBounds_toArray, List.set_cons_zero, List.set_cons_succ]
      refine wpAnyH_ready (rs := [7]) (by kernel_rfl) (by simp) ?_
      refine AllReadyH.cons (o := ?on46) ?hin46 ?restn46 AllReadyH.nil
      case hin46 => (simp only [List.getElem?_toArray, List.getElem?_cons_succ, List.getElem?_cons_zero]; exact rfl)
      intro K hK
      go_simp
      go_at_call 52
      refine (HS.out _ (HG.out.trans (h2.trans (Grew.refl _)))).mono ?_
      rintro e w3 ⟨rfl, hgw3⟩
      have h3 : Grew w1 w3 := h2.trans hgw3
      refine hK.out _ _ ?_ (fun hHeld => ?_)
      · (try dsimp only); first | with_reducible assumption | exact Grew.alloc ‹_› _
      clear hK K
      try simp only [Act.put, List.setIfInBounds_toArray, List.set_cons_zero, List.set_cons_succ]
      refine wpAnyH_take (i := 10) (oi := ?on47) (v := ?vn47) ?hin47 ?an47 ?bn47 ?cn47 ?qn47 (Or.inl ⟨?dn47, ?hyn47⟩) hHeld ?restn47
      case hin47 => (simp only [List.getElem?_toArray, List.getElem?_cons_succ, List.getElem?_cons_zero]; exact rfl)
      case an47 => kernel_rfl
      case bn47 => kernel_rfl
      case cn47 => kernel_rfl
      case qn47 => exact fun _ _ _ h => h
      case dn47 => rfl
      case hyn47 => (intro z hSw; (try dsimp only at hSw); go_simp; (try with_reducible rfl))
      try simp only [Act.put, List.setIfInBounds_toArray, List.set_cons_zero, List.set_cons_succ]
      refine wpAnyH_take (i := 11) (oi := ?on48) (v := ?vn48) ?hin48 ?an48 ?bn48 ?cn48 ?qn48 (Or.inl ⟨?dn48, ?hyn48⟩) hHeld ?restn48
      case hin48 => (simp only [List.getElem?_toArray, List.getElem?_cons_succ, List.getElem?_cons_zero]; exact rfl)
      case an48 => kernel_rfl
      case bn48 => kernel_rfl
      case cn48 => kernel_rfl
      case qn48 => exact fun _ _ _ h => h
      case dn48 => rfl
      case hyn48 => (intro z hSw; (try dsimp only at hSw); go_simp; (try with_reducible rfl))
      try simp only [Act.put, List.setIfInBounds_toArray, List.set_cons_zero, List.set_cons_succ]
      refine wpAnyH_take (i := 12) (oi := ?on49) (v := ?vn49) ?hin49 ?an49 ?bn49 ?cn49 ?qn49 (Or.inl ⟨?dn49, ?hyn49⟩) hHeld ?restn49
      case hin49 => (simp only [List.getElem?_toArray, List.getElem?_cons_succ, List.getElem?_cons_zero]; exact rfl)
      case an49 => kernel_rfl
      case bn49 => kernel_rfl
      case cn49 => kernel_rfl
      case qn49 => exact fun _ _ _ h => h
      case dn49 => rfl
      case hyn49 => (intro z hSw; (try dsimp only at hSw); go_simp; (try with_reducible rfl))
      try simp only [Act.put, List.setIfInBounds_toArray, List.set_cons_zero, List.set_cons_succ]
      refine wpAnyH_take (i := 13) (oi := ?on50) ?hin50 ?an50 ?bn50 ?cn50 ?qn50 (Or.inr ⟨?dn50, rfl⟩) hHeld ?restn50
      case hin50 => (simp only [List.getElem?_toArray, List.getElem?_cons_succ, List.getElem?_cons_zero]; exact rfl)
      case an50 => kernel_rfl
      case bn50 => kernel_rfl
      case cn50 => kernel_rfl
      case qn50 => exact fun _ _ _ h => h
      case dn50 => rfl
      try simp only [Act.put, List.setIfInBounds_toArray, List.set_cons_zero, List.set_cons_succ]
      refine wpAnyH_take (i := 14) (oi := ?on51) ?hin51 ?an51 ?bn51 ?cn51 ?qn51 (Or.inr ⟨?dn51, rfl⟩) hHeld ?restn51
      case hin51 => (simp only [List.getElem?_toArray, List.getElem?_cons_succ, List.getElem?_cons_zero]; exact rfl)
      case an51 => kernel_rfl
      case bn51 => kernel_rfl
      case cn51 => kernel_rfl
      case qn51 => exact fun _ _ _ h => h
      case dn51 => rfl
      try simp only [Act.put, List.setIfInBounds_toArray, List.set_cons_zero, List.set_cons_succ]
      refine wpAnyH_take (i := 15) (oi := ?on52) ?hin52 ?an52 ?bn52 ?cn52 ?qn52 (Or.inr ⟨?dn52, rfl⟩) hHeld ?restn52
      case hin52 => (simp only [List.getElem?_toArray, List.getElem?_cons_succ, List.getElem?_cons_zero]; exact rfl)
      case an52 => kernel_rfl
      case bn52 => kernel_rfl
      case cn52 => kernel_rfl
      case qn52 => exact fun _ _ _ h => h
      case dn52 => rfl
      try simp only [Act.put, List.setIfInBounds_toArray, List.set_cons_zero, List.set_cons_succ]
      refine wpAnyH_take (i := 16) (oi := ?on53) ?hin53 ?an53 ?bn53 ?cn53 ?qn53 (Or.inr ⟨?dn53, rfl⟩) hHeld ?restn53
      case hin53 => (simp only [List.getElem?_toArray, List.getElem?_cons_succ, List.getElem?_cons_zero]; exact rfl)
      case an53 => kernel_rfl
      case bn53 => kernel_rfl
      case cn53 => kernel_rfl
      case qn53 => exact fun _ _ _ h => h
      case dn53 => rfl
      try simp only [Act.put, List.setIfInBounds_toArray, List.set_cons_zero, List.set_cons_succ]
      refine wpAnyH_take (i := 17) (oi := ?on54) (v := ?vn54) ?hin54 ?an54 ?bn54 ?cn54 ?qn54 (Or.inl ⟨?dn54, ?hyn54⟩) hHeld ?restn54
      case hin54 => (simp only [List.getElem?_toArray, List.getElem?_cons_succ, List.getElem?_cons_zero]; exact rfl)
      case an54 => kernel_rfl
      case bn54 => kernel_rfl
      case cn54 => kernel_rfl
      case qn54 => exact fun _ _ _ h => h
      case dn54 => rfl
      case hyn54 => (intro z hSw; (try dsimp only at hSw); go_simp; (try with_reducible rfl))
      try simp only [Act.put, List.setIfInBounds_toArray, List.set_cons_zero, List.set_cons_succ]
      refine wpAnyH_done (by kernel_rfl) ?_ _
      go_wp2_with fail
      go_ret
      exact ⟨rfl, HG.out.trans h3⟩
  · rw [decide_eq_false h1] at HI ⊢
    rw [Bool.false_and]
    obtain ⟨A, c, rfl⟩ := ints_slice h
    clear h hn30 h1 HM
    generalize L.length = n at *
    go_enter Tryz.func32, Tryz.ntmps32
    go_wp2_with fail
    simp only [← hw1]
    clear hw1
    refine wp_region_held_drew (S := fun w' => Grew w1 w') (by kernel_rfl) r1d (fun hHeld => ?_)
    refine wpAnyH_take (i := 0) (oi := ?on55) (v := ?vn55) ?hin55 ?an55 ?bn55 ?cn55 ?qn55 (Or.inl ⟨?dn55, ?hyn55⟩) hHeld ?restn55
    case hin55 => (simp only [List.getElem?_toArray, List.getElem?_cons_zero]; exact rfl)
    case an55 => kernel_rfl
    case bn55 => kernel_rfl
    case cn55 => kernel_rfl
    case qn55 => exact fun _ _ _ h => h
    case dn55 => rfl
    case hyn55 => (intro z hSw; (try dsimp only at hSw); go_simp; (try with_reducible rfl))
    try simp only [Act.put, List.setIfInBounds_toArray, List.set_cons_zero, List.set_cons_succ]
    refine wpAnyH_take (i := 1) (oi := ?on56) (v := ?vn56) ?hin56 ?an56 ?bn56 ?cn56 ?qn56 (Or.inl ⟨?dn56, ?hyn56⟩) hHeld ?restn56
    case hin56 => (simp only [List.getElem?_toArray, List.getElem?_cons_succ, List.getElem?_cons_zero]; exact rfl)
    case an56 => kernel_rfl
    case bn56 => kernel_rfl
    case cn56 => kernel_rfl
    case qn56 => exact fun _ _ _ h => h
    case dn56 => rfl
    case hyn56 => (intro z hSw; (try dsimp only at hSw); go_simp; (try with_reducible rfl))
    try simp only [Act.put, List.setIfInBounds_toArray, List.set_cons_zero, List.set_cons_succ]
    refine wpAnyH_ready (rs := [2]) (by kernel_rfl) (by simp) ?_
    refine AllReadyH.cons (o := ?on57) ?hin57 ?restn57 AllReadyH.nil
    case hin57 => (simp only [List.getElem?_toArray, List.getElem?_cons_succ, List.getElem?_cons_zero]; exact rfl)
    intro K hK
    go_simp
    go_at_call 38
    refine (HI.out _).mono ?_
    rintro e w2 ⟨rfl, hgw2⟩
    have h2 : Grew w1 w2 := Grew.trans (by repeat (first | with_reducible assumption | with_reducible refine Grew.alloc ?_ _ | with_reducible refine Grew.drew ?_ | with_reducible refine Grew.drewN ?_ _)) hgw2
    refine hK.out _ _ ?_ (fun hHeld => ?_)
    · (try dsimp only); first | with_reducible assumption | exact Grew.alloc ‹_› _
    clear hK K
    try simp only [Act.put, List.setIfInBounds_toArray, List.set_cons_zero, List.set_cons_succ]
    refine wpAnyH_take (i := 3) (oi := ?on58) (v := ?vn58) ?hin58 ?an58 ?bn58 ?cn58 ?qn58 (Or.inl ⟨?dn58, ?hyn58⟩) hHeld ?restn58
    case hin58 => (simp only [List.getElem?_toArray, List.getElem?_cons_succ, List.getElem?_cons_zero]; exact rfl)
    case an58 => kernel_rfl
    case bn58 => kernel_rfl
    case cn58 => kernel_rfl
    case qn58 => exact fun _ _ _ h => h
    case dn58 => rfl
    case hyn58 => (intro z hSw; (try dsimp only at hSw); go_simp; (try with_reducible rfl))
    try simp only [Act.put, List.setIfInBounds_toArray, List.set_cons_zero, List.set_cons_succ]
    refine wpAnyH_take (i := 4) (oi := ?on59) (v := ?vn59) ?hin59 ?an59 ?bn59 ?cn59 ?qn59 (Or.inl ⟨?dn59, ?hyn59⟩) hHeld ?restn59
    case hin59 => (simp only [List.getElem?_toArray, List.getElem?_cons_succ, List.getElem?_cons_zero]; exact rfl)
    case an59 => kernel_rfl
    case bn59 => kernel_rfl
    case cn59 => kernel_rfl
    case qn59 => exact fun _ _ _ h => h
    case dn59 => rfl
    case hyn59 => (intro z hSw; (try dsimp only at hSw); go_simp; (try with_reducible rfl))
    try simp only [Act.put, List.setIfInBounds_toArray, List.set_cons_zero, List.set_cons_succ]
    refine wpAnyH_take (i := 5) (oi := ?on60) ?hin60 ?an60 ?bn60 ?cn60 ?qn60 (Or.inr ⟨?dn60, rfl⟩) hHeld ?restn60
    case hin60 => (simp only [List.getElem?_toArray, List.getElem?_cons_succ, List.getElem?_cons_zero]; exact rfl)
    case an60 => kernel_rfl
    case bn60 => kernel_rfl
    case cn60 => kernel_rfl
    case qn60 => exact fun _ _ _ h => h
    case dn60 => rfl
    try simp only [Act.put, List.setIfInBounds_toArray, List.set_cons_zero, List.set_cons_succ]
    refine wpAnyH_take (i := 6) (oi := ?on61) ?hin61 ?an61 ?bn61 ?cn61 ?qn61 (Or.inr ⟨?dn61, rfl⟩) hHeld ?restn61
    case hin61 => (simp only [List.getElem?_toArray, List.getElem?_cons_succ, List.getElem?_cons_zero]; exact rfl)
    case an61 => kernel_rfl
    case bn61 => kernel_rfl
    case cn61 => kernel_rfl
    case qn61 => exact fun _ _ _ h => h
    case dn61 => rfl
    try simp only [Act.put, List.setIfInBounds_toArray, List.set_cons_zero, List.set_cons_succ]
    refine wpAnyH_take (i := 7) (oi := ?on62) ?hin62 ?an62 ?bn62 ?cn62 ?qn62 (Or.inr ⟨?dn62, rfl⟩) hHeld ?restn62
    case hin62 => (simp only [List.getElem?_toArray, List.getElem?_cons_succ, List.getElem?_cons_zero]; exact rfl)
    case an62 => kernel_rfl
    case bn62 => kernel_rfl
    case cn62 => kernel_rfl
    case qn62 => exact fun _ _ _ h => h
    case dn62 => rfl
    try simp only [Act.put, List.setIfInBounds_toArray, List.set_cons_zero, List.set_cons_succ]
    refine wpAnyH_take (i := 8) (oi := ?on63) ?hin63 ?an63 ?bn63 ?cn63 ?qn63 (Or.inr ⟨?dn63, rfl⟩) hHeld ?restn63
    case hin63 => (simp only [List.getElem?_toArray, List.getElem?_cons_succ, List.getElem?_cons_zero]; exact rfl)
    case an63 => kernel_rfl
    case bn63 => kernel_rfl
    case cn63 => kernel_rfl
    case qn63 => exact fun _ _ _ h => h
    case dn63 => rfl
    try simp only [Act.put, List.setIfInBounds_toArray, List.set_cons_zero, List.set_cons_succ]
    refine wpAnyH_take (i := 9) (oi := ?on64) ?hin64 ?an64 ?bn64 ?cn64 ?qn64 (Or.inr ⟨?dn64, rfl⟩) hHeld ?restn64
    case hin64 => (simp only [List.getElem?_toArray, List.getElem?_cons_succ, List.getElem?_cons_zero]; exact rfl)
    case an64 => kernel_rfl
    case bn64 => kernel_rfl
    case cn64 => kernel_rfl
    case qn64 => exact fun _ _ _ h => h
    case dn64 => rfl
    try simp only [Act.put, List.setIfInBounds_toArray, List.set_cons_zero, List.set_cons_succ]
    refine wpAnyH_take (i := 10) (oi := ?on65) ?hin65 ?an65 ?bn65 ?cn65 ?qn65 (Or.inr ⟨?dn65, rfl⟩) hHeld ?restn65
    case hin65 => (simp only [List.getElem?_toArray, List.getElem?_cons_succ, List.getElem?_cons_zero]; exact rfl)
    case an65 => kernel_rfl
    case bn65 => kernel_rfl
    case cn65 => kernel_rfl
    case qn65 => exact fun _ _ _ h => h
    case dn65 => rfl
    try simp only [Act.put, List.setIfInBounds_toArray, List.set_cons_zero, List.set_cons_succ]
    refine wpAnyH_take (i := 11) (oi := ?on66) (v := ?vn66) ?hin66 ?an66 ?bn66 ?cn66 ?qn66 (Or.inl ⟨?dn66, ?hyn66⟩) hHeld ?restn66
    case hin66 => (simp only [List.getElem?_toArray, List.getElem?_cons_succ, List.getElem?_cons_zero]; exact rfl)
    case an66 => kernel_rfl
    case bn66 => kernel_rfl
    case cn66 => kernel_rfl
    case qn66 => exact fun _ _ _ h => h
    case dn66 => rfl
    case hyn66 => (intro z hSw; (try dsimp only at hSw); go_simp; (try with_reducible rfl))
    try simp only [Act.put, List.setIfInBounds_toArray, List.set_cons_zero, List.set_cons_succ]
    refine wpAnyH_take (i := 12) (oi := ?on67) (v := ?vn67) ?hin67 ?an67 ?bn67 ?cn67 ?qn67 (Or.inl ⟨?dn67, ?hyn67⟩) hHeld ?restn67
    case hin67 => (simp only [List.getElem?_toArray, List.getElem?_cons_succ, List.getElem?_cons_zero]; exact rfl)
    case an67 => kernel_rfl
    case bn67 => kernel_rfl
    case cn67 => kernel_rfl
    case qn67 => exact fun _ _ _ h => h
    case dn67 => rfl
    case hyn67 => (intro z hSw; (try dsimp only at hSw); go_simp; (try with_reducible rfl))
    try simp only [Act.put, List.setIfInBounds_toArray, List.set_cons_zero, List.set_cons_succ]
    refine wpAnyH_take (i := 13) (oi := ?on68) ?hin68 ?an68 ?bn68 ?cn68 ?qn68 (Or.inr ⟨?dn68, rfl⟩) hHeld ?restn68
    case hin68 => (simp only [List.getElem?_toArray, List.getElem?_cons_succ, List.getElem?_cons_zero]; exact rfl)
    case an68 => kernel_rfl
    case bn68 => kernel_rfl
    case cn68 => kernel_rfl
    case qn68 => exact fun _ _ _ h => h
    case dn68 => rfl
    try simp only [Act.put, List.setIfInBounds_toArray, List.set_cons_zero, List.set_cons_succ]
    refine wpAnyH_take (i := 14) (oi := ?on69) ?hin69 ?an69 ?bn69 ?cn69 ?qn69 (Or.inr ⟨?dn69, rfl⟩) hHeld ?restn69
    case hin69 => (simp only [List.getElem?_toArray, List.getElem?_cons_succ, List.getElem?_cons_zero]; exact rfl)
    case an69 => kernel_rfl
    case bn69 => kernel_rfl
    case cn69 => kernel_rfl
    case qn69 => exact fun _ _ _ h => h
    case dn69 => rfl
    try simp only [Act.put, List.setIfInBounds_toArray, List.set_cons_zero, List.set_cons_succ]
    refine wpAnyH_take (i := 15) (oi := ?on70) ?hin70 ?an70 ?bn70 ?cn70 ?qn70 (Or.inr ⟨?dn70, rfl⟩) hHeld ?restn70
    case hin70 => (simp only [List.getElem?_toArray, List.getElem?_cons_succ, List.getElem?_cons_zero]; exact rfl)
    case an70 => kernel_rfl
    case bn70 => kernel_rfl
    case cn70 => kernel_rfl
    case qn70 => exact fun _ _ _ h => h
    case dn70 => rfl
    try simp only [Act.put, List.setIfInBounds_toArray, List.set_cons_zero, List.set_cons_succ]
    refine wpAnyH_take (i := 16) (oi := ?on71) ?hin71 ?an71 ?bn71 ?cn71 ?qn71 (Or.inr ⟨?dn71, rfl⟩) hHeld ?restn71
    case hin71 => (simp only [List.getElem?_toArray, List.getElem?_cons_succ, List.getElem?_cons_zero]; exact rfl)
    case an71 => kernel_rfl
    case bn71 => kernel_rfl
    case cn71 => kernel_rfl
    case qn71 => exact fun _ _ _ h => h
    case dn71 => rfl
    try simp only [Act.put, List.setIfInBounds_toArray, List.set_cons_zero, List.set_cons_succ]
    refine wpAnyH_take (i := 17) (oi := ?on72) (v := ?vn72) ?hin72 ?an72 ?bn72 ?cn72 ?qn72 (Or.inl ⟨?dn72, ?hyn72⟩) hHeld ?restn72
    case hin72 => (simp only [List.getElem?_toArray, List.getElem?_cons_succ, List.getElem?_cons_zero]; exact rfl)
    case an72 => kernel_rfl
    case bn72 => kernel_rfl
    case cn72 => kernel_rfl
    case qn72 => exact fun _ _ _ h => h
    case dn72 => rfl
    case hyn72 => (intro z hSw; (try dsimp only at hSw); go_simp; (try with_reducible rfl))
    try simp only [Act.put, List.setIfInBounds_toArray, List.set_cons_zero, List.set_cons_succ]
    refine wpAnyH_done (by kernel_rfl) ?_ _
    go_wp2_with fail
    go_ret
    exact ⟨rfl, HG.out.trans h2⟩
end Go.Proofs.YtoogcooggdahnaaGreat

/- Valuations of the program: isUpset, isValuation. -/
namespace Go.Proofs.YtoogcooggdahnaaGreat
open Go.RowKit

/-- Is it an upset? -/
def upB (A : List Nat) (x : Int) : Bool := mk A.length x && decide (img A x.toNat = x.toNat)
theorem mk_nat {n : Nat} {x : Int} (h : mk n x = true) : x = ((x.toNat : Nat) : Int) ∧ x.toNat < 2 ^ n := by
  have h := of_decide_eq_true h
  have hp : (0 : Nat) < 2 ^ n := Nat.pow_pos (by omega)
  generalize (2 ^ n : Nat) = p at *
  omega
theorem isUpset_c (v : Value) (A : List Nat) (x : Int) (w : World) (h : Ints w v (zs A)) (hA : Rl A) :
    Calls Tryz.prog 35 #[.agg #[.int .i64 (A.length : Int), v], .int .i64 x] w fun e w' => e = .returned (.bool (upB A x)) ∧ Grew w w' := by
  have HM := Lib.hid (fun W => isMask_c A.length x hA.1 W)
  have hal := (Grew.refl w).alloc (.cells #[.int .i64 (A.length : Int), v] 30)
  have y0 : ∀ W, Grew (w.alloc (.cells #[.int .i64 (A.length : Int), v] 30)) W → W.cell? ⟨w.heap.size, 0, none⟩ = some (.int .i64 (A.length : Int)) := fun W hW => (hW.cell (p := ⟨w.heap.size, 0, none⟩) (by simp)).trans (by simp)
  have y1 : ∀ W, Grew (w.alloc (.cells #[.int .i64 (A.length : Int), v] 30)) W → W.cell? ⟨w.heap.size, 1, none⟩ = some v := fun W hW => (hW.cell (p := ⟨w.heap.size, 1, none⟩) (by simp)).trans (by simp)
  have r1 := Grew.refl (w.alloc (.cells #[.int .i64 (A.length : Int), v] 30))
  have HG := Lib.hid hal
  unfold upB
  cases hm : mk A.length x with
  | true =>
    rw [hm] at HM
    rw [Bool.true_and]
    obtain ⟨hx, hlt⟩ := mk_nat hm
    have KI := Lib.hid (fun W (hW : Grew w W) => image_c v A x.toNat W (h.grew hW) hA.sm hA.1 hlt)
    obtain ⟨m, hxm⟩ : ∃ m, x.toNat = m := ⟨_, rfl⟩
    rw [hxm] at KI hlt hx ⊢
    clear hxm hm
    subst hx
    obtain ⟨A', c, rfl⟩ := ints_sliceN h
    clear h hA hal hlt
    have hd : decide (img A m = m) = (((img A m : Nat) : Int) == (m : Int)) := by
      rw [Bool.eq_iff_iff]
      simp
      omega
    rw [hd]
    clear hd
    generalize img A m = r at *
    generalize A.length = n at *
    go_enter Tryz.func35, Tryz.ntmps35
    go_wp2_with fail
    refine (HM.out _).mono ?_
    rintro e w1 ⟨rfl, hg1⟩
    go_wp2_with fail
    refine (KI.out _ (HG.out.trans hg1)).mono ?_
    rintro e w2 ⟨rfl, hg2⟩
    go_wp2_with fail
    go_ret
    exact ⟨rfl, (HG.out.trans hg1).trans hg2⟩
  | false =>
    rw [hm] at HM
    rw [Bool.false_and]
    obtain ⟨A', c, rfl⟩ := ints_sliceN h
    clear h hA hal hm
    generalize A.length = n at *
    go_enter Tryz.func35, Tryz.ntmps35
    go_wp2_with fail
    refine (HM.out _).mono ?_
    rintro e w1 ⟨rfl, hg1⟩
    go_wp2_with fail
    go_ret
    exact ⟨rfl, HG.out.trans hg1⟩
theorem val1_k (v : Value) (A : List Nat) (V : List Int) (bp : Nat) (w : World) (h : Ints w v (zs A)) (hA : Rl A) (k0 : ∀ W, Grew w W → W.cell? ⟨bp, 0, none⟩ = some (.int .i64 (A.length : Int))) (k1 : ∀ W, Grew w W → W.cell? ⟨bp, 1, none⟩ = some v) :
    PredI w 34 #[.pointer (some ⟨bp, 0, none⟩)] V (fun x => !upB A x) := by
  intro x W _ hW
  have y0 := k0 W hW
  have y1 := k1 W hW
  have KS := Lib.hid (isUpset_c v A x W (h.grew hW) hA)
  show Calls Tryz.prog 34 #[.int .i64 x, .pointer (some ⟨bp, 0, none⟩)] W fun e W' => e = .returned (.bool (!upB A x)) ∧ Grew W W'
  obtain ⟨A', c, rfl⟩ := ints_sliceN h
  clear h k0 k1 hA
  generalize upB A x = t at *
  generalize A.length = n at *
  go_enter Tryz.func34, Tryz.ntmps34
  go_wp2_with fail
  refine (KS.out).mono ?_
  rintro e w1 ⟨rfl, hg1⟩
  go_wp2_with fail
  go_ret
  exact ⟨rfl, hg1⟩
/-- Is it a valuation on a poset? -/
def valB (sz : Int) (L V : List Int) : Bool := posB sz L && (decide (V.length = 6) && V.all (upB (nats L)))
theorem posB_ok {sz : Int} {L : List Int} (h : posB sz L = true) : sz = (L.length : Int) ∧ L.length ≤ 8 ∧ Rl (nats L) ∧ zs (nats L) = L ∧ mks L.length L = true ∧ reflB (nats L) = true ∧ transB (nats L) = true ∧ antiB (nats L) = true := by
  unfold posB at h
  simp only [Bool.and_eq_true, decide_eq_true_eq] at h
  obtain ⟨h1, h2, h3, h4, h5, h6⟩ := h
  exact ⟨h2.symm, by omega, pos_rl (by omega) h3, (nats_ok h3).1, h3, h4, h5, h6⟩
theorem isValuation_c (sz : Int) (v u : Value) (L V : List Int) (w : World) (h : Ints w v L) (hu : Ints w u V) :
    Calls Tryz.prog 20 #[.agg #[.int .i64 sz, v], u] w fun e w' => e = .returned (.bool (valB sz L V)) ∧ Grew w w' := by
  have hal := (Grew.refl w).alloc (.cells #[.int .i64 sz, v] 30)
  have HP := Lib.hid (fun W hW => isPoset_c sz v L W (h.grew hW))
  have y0 : ∀ W, Grew (w.alloc (.cells #[.int .i64 sz, v] 30)) W → W.cell? ⟨w.heap.size, 0, none⟩ = some (.int .i64 sz) := fun W hW => (hW.cell (p := ⟨w.heap.size, 0, none⟩) (by simp)).trans (by simp)
  have y1 : ∀ W, Grew (w.alloc (.cells #[.int .i64 sz, v] 30)) W → W.cell? ⟨w.heap.size, 1, none⟩ = some v := fun W hW => (hW.cell (p := ⟨w.heap.size, 1, none⟩) (by simp)).trans (by simp)
  have r1 := Grew.refl (w.alloc (.cells #[.int .i64 sz, v] 30))
  have HG := Lib.hid hal
  have eg := enters_of Tryz.func34 (by kernel_rfl) rfl
  have hmx : V.length ≤ 9223372036854775807 := hu.2.1
  unfold valB
  cases hp : posB sz L with
  | false =>
    rw [hp] at HP
    rw [Bool.false_and]
    obtain ⟨A, c, rfl⟩ := ints_slice h
    obtain ⟨A2, c2, rfl⟩ := ints_slice hu
    clear h hu hal hp eg
    generalize L.length = n at *
    generalize V.length = n2 at *
    go_enter Tryz.func20, Tryz.ntmps20
    go_wp2_with fail
    refine (HP.out _ HG.out).mono ?_
    rintro e w1 ⟨rfl, hg1⟩
    go_wp2_with fail
    go_ret
    exact ⟨rfl, HG.out.trans hg1⟩
  | true =>
    rw [hp] at HP
    rw [Bool.true_and]
    obtain ⟨rfl, hl, hA, hz, _⟩ := posB_ok hp
    by_cases h6 : V.length = 6
    · rw [decide_eq_true h6, Bool.true_and]
      have hr := fun W (hW : Grew w W) => (show Ints W v (zs (nats L)) by rw [hz]; exact h.grew hW)
      have y0' := y0
      rw [← nats_len L] at y0'
      have KC := Lib.hid (fun W (hW : Grew (w.alloc (.cells #[.int .i64 (L.length : Int), v] 30)) W) => containsFuncI_c u V 34 #[.pointer (some ⟨w.heap.size, 0, none⟩)] _ W (hu.grew (hal.trans hW)) (val1_k v (nats L) V w.heap.size W (hr W (hal.trans hW)) hA (fun X hX => y0' X (by rw [nats_len]; exact hW.trans hX)) (fun X hX => y1 X (hW.trans hX))) eg)
      have hR := not_any (upB (nats L)) V
      rw [← hR]
      obtain ⟨A, c, rfl⟩ := ints_slice h
      obtain ⟨A2, c2, rfl⟩ := ints_slice hu
      clear h hu hal hp eg hr y0' hz hA hR
      generalize (V.any fun x => !upB (nats L) x) = r at *
      generalize L.length = n at *
      rw [h6] at KC ⊢
      clear h6 hmx
      go_enter Tryz.func20, Tryz.ntmps20
      go_wp2_with fail
      refine (HP.out _ HG.out).mono ?_
      rintro e w1 ⟨rfl, hg1⟩
      go_wp2_with fail
      refine (KC.out _ hg1).mono ?_
      rintro e w2 ⟨rfl, hg2⟩
      go_wp2_with fail
      go_ret
      exact ⟨rfl, (HG.out.trans hg1).trans hg2⟩
    · rw [decide_eq_false h6, Bool.false_and]
      have hq : ((V.length : Int) == 6) = false := by
        rw [beq_eq_false_iff_ne]
        omega
      obtain ⟨A, c, rfl⟩ := ints_slice h
      obtain ⟨A2, c2, rfl⟩ := ints_slice hu
      clear h hu hal hp eg hz hA h6
      generalize L.length = n at *
      generalize V.length = n2 at *
      go_enter Tryz.func20, Tryz.ntmps20
      go_wp2_with fail
      refine (HP.out _ HG.out).mono ?_
      rintro e w1 ⟨rfl, hg1⟩
      go_wp2_with fail
      go_ret
      exact ⟨rfl, HG.out.trans hg1⟩
end Go.Proofs.YtoogcooggdahnaaGreat

/- Elements of posets: hasElement; what holds of a poset, a valuation and an element. -/
namespace Go.Proofs.YtoogcooggdahnaaGreat
open Go.RowKit

def elB (sz x : Int) : Bool := decide (0 ≤ x) && decide (x ≤ sz - 1)
theorem hasElement_c (sz x : Int) (v : Value) (w : World) (h : 0 ≤ sz ∧ sz ≤ 8) :
    Calls Tryz.prog 22 #[.agg #[.int .i64 sz, v], .int .i64 x] w fun e w' => e = .returned (.bool (elB sz x)) ∧ Grew w w' := by
  have HI := Lib.hid (inRange_q x 0 (sz - 1))
  have hw : wrap64 (sz - 1) = sz - 1 := by unfold wrap64; omega
  unfold elB
  go_enter Tryz.func22, Tryz.ntmps22
  go_wp2_with fail
  refine (HI.out _).mono ?_
  rintro e w1 ⟨rfl, rfl⟩
  go_wp2_with fail
  go_ret
  exact ⟨rfl, (Grew.refl w).alloc _⟩
theorem el_ok {sz x : Int} (h : elB sz x = true) : 0 ≤ x ∧ x ≤ sz - 1 := by
  unfold elB at h
  simpa using h
theorem val_ok {sz : Int} {L V : List Int} (h : valB sz L V = true) : posB sz L = true ∧ V.length = 6 ∧ V.all (upB (nats L)) = true := by
  unfold valB at h
  simp only [Bool.and_eq_true, decide_eq_true_eq] at h
  exact h
theorem all_mks {A : List Nat} {V : List Int} (h : V.all (upB A) = true) : mks A.length V = true := by
  unfold mks
  rw [List.all_eq_true] at h ⊢
  intro x hx
  have := h x hx
  unfold upB at this
  rw [Bool.and_eq_true] at this
  exact this.1
/-- What holds of a poset, a valuation and an element. -/
theorem cut_ok {sz : Int} {L V : List Int} {x : Int} (h : valB sz L V = true) (hx : elB sz x = true) :
    sz = (L.length : Int) ∧ L.length ≤ 8 ∧ Rl (nats L) ∧ zs (nats L) = L ∧ zs (nats V) = V ∧ V.length = 6 ∧ Sm (nats V) ∧ nt (nats L) x.toNat < 2 ^ L.length ∧ x.toNat < L.length ∧ x = (x.toNat : Int) := by
  obtain ⟨h1, h2, h3⟩ := val_ok h
  obtain ⟨rfl, h5, h6, h7, h8, _⟩ := posB_ok h1
  obtain ⟨e1, e2⟩ := el_ok hx
  have hm := all_mks h3
  rw [nats_len] at hm
  have hV := nats_ok hm
  have hxl : x.toNat < L.length := by omega
  refine ⟨rfl, h5, h6, h7, hV.1, h2, ?_, ?_, hxl, by omega⟩
  · intro m hm
    exact Nat.lt_of_lt_of_le (hV.2 m hm) (pow30' (by omega))
  · have := (nats_ok h8).2 _ (nt_mem (L := nats L) (i := x.toNat) (by rw [nats_len]; exact hxl))
    exact this
end Go.Proofs.YtoogcooggdahnaaGreat

/- l01Image: it only reads. -/
namespace Go.Proofs.YtoogcooggdahnaaGreat
open Go.RowKit
theorem l01Image_q (v : Value) (A : List Nat) (m : Nat) (w : World) (h : Ints w v (zs A)) (hA : Sm A) (hn30 : A.length ≤ 30) (hm : m < 2 ^ A.length) :
    Calls Tryz.prog 45 #[v, .int .i64 (m : Int)] w fun e w' => e = .returned (.int .i64 ((img A m : Nat) : Int)) ∧ w' = w := by
  have hm' : m < 1073741824 := Nat.lt_of_lt_of_le hm (pow30' hn30)
  have HH := Lib.hid (fun i (hi : i < 64) => l01Bit_q m i (by omega) hi)
  have HR := Lib.hid (img_imK hm hn30)
  have HY := Lib.hid (fun k => @imK_yes A m k)
  have HN := Lib.hid (fun k => @imK_no A m k)
  have HS := Lib.hid (fun k hk => imK_sm (m := m) hA k hk)
  have HT := Lib.hid (fun i (hi : i < A.length) => hA.at_ hi)
  have HO := Lib.hid (fun a b (ha : a < 1073741824) (hb : b < 1073741824) => or_i64 a b (by omega) (by omega))
  obtain ⟨A', c, rfl⟩ := ints_sliceN h
  have HC := Lib.hid (fun h0 => cellsN h h0)
  clear hm hm' h hA
  generalize img A m = R at *
  generalize hNA : A.length = n at *
  clear hNA
  go_enter Tryz.func45, Tryz.ntmps45
  go_wp2_with fail
  go_loopw [5, 6] (fun q i wr => ∃ j : Nat, j ≤ n ∧ i = .int .i64 j ∧ q = .int .i64 ((imK A m j : Nat) : Int) ∧ wr = w) (fun _ i _ => n - (intOf i).toNat)
  case atStart => exact ⟨0, by omega, rfl, rfl, rfl⟩
  case round =>
    obtain ⟨j, hj, rfl, rfl, rfl⟩ := hrel
    by_cases hlt : j < n
    · obtain ⟨b2, o2, rfl, hcell2⟩ := HC.out (by omega)
      have hH := Lib.hid (HH.out j (by omega))
      have ho := HO.out _ _ (HS.out j (by omega)) (HT.out j hlt)
      have hY := Lib.hid (HY.out j)
      have hN := Lib.hid (HN.out j)
      have hcell := Lib.hid (hcell2 j hlt)
      clear hcell2
      generalize nt A j = y at *
      generalize m.testBit j = t at *
      generalize hsj : imK A m j = sj at *
      clear hsj
      go_wp2_with fail
      refine (hH.out _).mono ?_
      rintro e w2 ⟨rfl, rfl⟩
      have k1 := hcell.out _ (Grew.refl _)
      cases t with
      | true =>
        have hy := Lib.hid (hY.out rfl)
        go_wp2_with fail
        go_roundw
        case rel => exact ⟨j + 1, by omega, by go_num, by rw [hy.out], trivial⟩
        case measure => simp [intOf]; omega
      | false =>
        have hn := Lib.hid (hN.out rfl)
        go_wp2_with fail
        go_roundw
        case rel => exact ⟨j + 1, by omega, by go_num, by rw [hn.out], trivial⟩
        case measure => simp [intOf]; omega
    · obtain rfl : j = n := by omega
      have hr := Lib.hid HR.out
      go_wp2_with fail
      go_ret
      exact ⟨by rw [hr.out]; rfl, rfl⟩
end Go.Proofs.YtoogcooggdahnaaGreat

/- Texts in one file: LawRg ArgN. -/
import Derived.Deep.SlicePairs
import Derived.Lib.SmallJoins
import Derived.Carry
import Derived.ProofKit
import Derived.Test.YtpfncncohnhanaaGreatDoorPb1
import Derived.Test.YtpfncncohnhanaaGreatDoorPb2
import Derived.Test.YtpfncncohnhanaaGreatDoorPb3
import Derived.Test.YtpfncncohnhanaaGreatDoorPb4
import Derived.Test.YtpfncncohnhanaaGreatDoorPb5
set_option linter.all false

/- The law FnExactRefutingFrame, walked. -/
namespace Go.Proofs.YtpfncncohnhanaaGreatDoor
open Go.RowKit
open Fm (Nd)

theorem markNodeS_mg (v : Value) (xs : List Nd) (B : Nat) (k : Int) (w : World) (h : Own w B v xs) (hk0 : 0 ≤ k) (hk : k ≤ 4611686018427387904) (hn : xs.length ≤ 1099511627776) :
    Calls Tryz.prog 12 #[v, .int .i64 k] w fun e w' => e = .returned (.int .i64 (k + xs.length * 2)) ∧ Own w' B v (marks k xs.length) ∧ w.grownBy w' v.ownBlock :=
  (markNodeS_c v xs B k w h hk0 hk hn).mono fun _ _ ⟨h1, h2, h3, h4⟩ => ⟨h1, h2, row_of h3 h4⟩
theorem rgF_len (s : ByteArray) (xs : List Nd) : (rgF s xs).2.length ≤ 4 := by
  have hF : ∀ (k : Nat) (t : Fm.Tree) (P : List (List Nat)), (∀ A ∈ P, A.length ≤ 4) → (firstG k t P).2.length ≤ 4 := by
    intro k t P
    induction P with
    | nil => intro _; simp [firstG]
    | cons A P ih =>
      intro h
      unfold firstG
      split
      · exact h A (List.mem_cons_self ..)
      · exact ih fun B hB => h B (List.mem_cons_of_mem _ hB)
  unfold rgF
  split
  · simp
  · split
    · simp
    · split
      · simp
      · split
        · exact hF _ _ _ fun A hA => Nat.le_of_lt (sfrs_ok (by omega) hA).1
        · simp

set_option maxHeartbeats 16000000 in
set_option maxRecDepth 20000 in
theorem lawRg_c (s : ByteArray) (v : Value) (xs : List Nd) (w : World) (hTN : TabAt w 1 axNames) (hTT : TabAt w 2 lgTab) (h : ArgN w v xs) :
    Calls Tryz.prog 3 #[.string s, v] w fun e w' => e = .returned (.bool true) ∧ Grew w w' := by
  by_cases hbig0 : 1048576 < s.size
  · clear h
    go_enter Tryz.func3, Tryz.ntmps3
    go_wp2_with fail
    go_ret
    exact ⟨rfl, Grew.refl _⟩
  have Z0 := Lib.hid (fun W l (hW : Grew w W) (a0 : 0 ≤ l) (a1 : l ≤ 1048576) => szNodeS_c v xs l W (h.grew hW) a0 a1)
  have T0 := Lib.hid (fun W (hW : Grew w W) => toNodeS_c v xs W (h.grew hW))
  clear h
  have KS := Lib.hid (fun u W (hu : Nodes W u xs) => refutingFrame_s s u xs W hu)
  have KI := Lib.hid (fun u W (hu : Nodes W u xs) hn (hW : Grew w W) => refutingFrame_i s u xs W hu hn (hTN.grew hW) (hTT.grew hW))
  have hl1 := rgF_len s xs
  unfold GivesRg at KS KI
  clear hTN hTT
  generalize rgF s xs = rr at *
  obtain ⟨c, R0⟩ := rr
  simp only at hl1 KS KI
  replace hl1 : (zs R0).length ≤ 4 := by rw [zs_len]; exact hl1
  rw [← zs_len R0] at KS KI
  generalize zs R0 = R1 at *
  clear R0
  have hcc : (c != c) = false := by simp
  go_enter Tryz.func3, Tryz.ntmps3
  have g0 : Grew w w := Grew.refl w
  go_wp2_with fail
  refine (Z0.out _ _ g0 (by omega) (by omega)).mono ?_
  rintro e w1 ⟨r0, rfl, ⟨hr1, hr2⟩, hg1⟩
  have z1 := Lib.hid hg1.size
  have g1 : Grew w w1 := g0.trans hg1
  clear hg1 g0
  by_cases hr0 : r0 < 0
  · clear hr2
    go_wp2_with fail
    go_ret
    exact ⟨rfl, g1⟩
  have hmm := hr2 (by omega)
  have T0 := Lib.hid (fun W hW => T0.out W hW hmm)
  have KS := Lib.hid (fun v W hv => KS.out v W hv hmm)
  have KI := Lib.hid (fun v W hv hW => KI.out v W hv hmm hW)
  clear hr2 hr1
  go_wp2_with fail
  refine (T0.out _ g1).mono ?_
  rintro e w2 ⟨a0, rfl, ha0, hg2⟩
  have z2 := Lib.hid hg2.size
  have g2 : Grew w w2 := g1.trans hg2
  clear hg2 g1
  obtain ⟨Aa0, ca0, rfl⟩ := nodes_slice ha0.nodes
  have bla0 := Lib.hid (fun g (hg : (.slice Aa0 xs.length ca0 : Value).ownBlock = some g) => (⟨own_of_ge ha0 hg, (World.ownsRow.lt ha0 g hg).2⟩ : _ ∧ _))
  go_wp2_with fail
  refine (KS.out _ _ ha0.nodes).mono ?_
  rintro e w3 ⟨q0, rfl, hq0, hg3⟩
  have z3 := Lib.hid hg3.size
  have g3 : Grew w w3 := g2.trans hg3
  replace ha0 := ha0.grew hg3
  clear hg3 g2
  obtain ⟨Aq0, cq0, rfl⟩ := ints_slice hq0.ints
  have blq0 := Lib.hid (fun g (hg : (.slice Aq0 R1.length cq0 : Value).ownBlock = some g) => (⟨own_of_ge hq0 hg, (World.ownsRow.lt hq0 g hg).2⟩ : _ ∧ _))
  clear ha0 bla0
  obtain ⟨w4, hw4⟩ : ∃ W, W = w3.alloc (.cells #[.int .i64 (R1.length : Int), .slice Aq0 R1.length cq0] 26) := ⟨_, rfl⟩
  have hg4 : Grew w3 w4 := by rw [hw4]; exact (Grew.refl _).alloc _
  have z4 : Hid (w4.heap.size = w3.heap.size + 1) := Lib.hid (by rw [hw4]; simp)
  have g4 : Grew w w4 := g3.trans hg4
  replace hq0 := hq0.grew hg4
  have HBq : Hid (w4.heap[w3.heap.size]? = some (.cells #[.int .i64 (R1.length : Int), .slice Aq0 R1.length cq0] 26 (0, 0))) := Lib.hid (by rw [hw4]; exact blk_new w3 _)
  clear hg4 g3
  go_wp2_with fail
  simp only [← hw4]
  clear hw4
  refine (T0.out _ g4).mono ?_
  rintro e w5 ⟨x0, rfl, hx0, hg5⟩
  have z5 := Lib.hid hg5.size
  have g5 : Grew w w5 := g4.trans hg5
  replace hq0 := hq0.grew hg5
  replace HBq := Lib.hid ((hg5.block (blk_lt HBq.out)).trans HBq.out)
  clear hg5 g4
  obtain ⟨Ax0, cx0, rfl⟩ := nodes_slice hx0.nodes
  have blx0 := Lib.hid (fun g (hg : (.slice Ax0 xs.length cx0 : Value).ownBlock = some g) => (⟨own_of_ge hx0 hg, (World.ownsRow.lt hx0 g hg).2⟩ : _ ∧ _))
  have kq0 : w5.cell? ⟨w3.heap.size, 0, none⟩ = some (.int .i64 (R1.length : Int)) := by rw [blk_cell HBq.out]; rfl
  have kq1 : w5.cell? ⟨w3.heap.size, 1, none⟩ = some (.slice Aq0 R1.length cq0) := by rw [blk_cell HBq.out]; rfl
  go_wp2_with fail
  refine (KI.out _ _ hx0.nodes g5).mono ?_
  rintro e w6 ⟨g0, rfl, hg0, hg6⟩
  have z6 := Lib.hid hg6.size
  have g6 : Grew w w6 := g5.trans hg6
  replace hq0 := hq0.grew hg6
  replace hx0 := hx0.grew hg6
  replace HBq := Lib.hid ((hg6.block (blk_lt HBq.out)).trans HBq.out)
  clear hg6 g5
  obtain ⟨Ag0, cg0, rfl⟩ := ints_slice hg0.ints
  have blg0 := Lib.hid (fun g (hg : (.slice Ag0 R1.length cg0 : Value).ownBlock = some g) => (⟨own_of_ge hg0 hg, (World.ownsRow.lt hg0 g hg).2⟩ : _ ∧ _))
  clear kq0 kq1
  have kq0 : w6.cell? ⟨w3.heap.size, 0, none⟩ = some (.int .i64 (R1.length : Int)) := by rw [blk_cell HBq.out]; rfl
  have kq1 : w6.cell? ⟨w3.heap.size, 1, none⟩ = some (.slice Aq0 R1.length cq0) := by rw [blk_cell HBq.out]; rfl
  have aq0 : ∀ o, (w6.alloc o).cell? ⟨w3.heap.size, 0, none⟩ = some (.int .i64 (R1.length : Int)) := fun o => by rw [blk_cell ((((Grew.refl w6).alloc o).block (blk_lt HBq.out)).trans HBq.out)]; rfl
  have aq1 : ∀ o, (w6.alloc o).cell? ⟨w3.heap.size, 1, none⟩ = some (.slice Aq0 R1.length cq0) := fun o => by rw [blk_cell ((((Grew.refl w6).alloc o).block (blk_lt HBq.out)).trans HBq.out)]; rfl
  obtain ⟨w7, hw7⟩ : ∃ W, W = w6.alloc (.cells #[.int .i64 (R1.length : Int), .slice Ag0 R1.length cg0] 26) := ⟨_, rfl⟩
  have hg7 : Grew w6 w7 := by rw [hw7]; exact (Grew.refl _).alloc _
  have z7 : Hid (w7.heap.size = w6.heap.size + 1) := Lib.hid (by rw [hw7]; simp)
  have g7 : Grew w w7 := g6.trans hg7
  replace hq0 := hq0.grew hg7
  replace hx0 := hx0.grew hg7
  replace hg0 := hg0.grew hg7
  replace HBq := Lib.hid ((hg7.block (blk_lt HBq.out)).trans HBq.out)
  have HBg : Hid (w7.heap[w6.heap.size]? = some (.cells #[.int .i64 (R1.length : Int), .slice Ag0 R1.length cg0] 26 (0, 0))) := Lib.hid (by rw [hw7]; exact blk_new w6 _)
  clear hg7 g6
  go_wp2_with fail
  simp only [← hw7]
  clear hw7
  refine (eqFrame_yes _ _ _ R1 _ hg0.ints hq0.ints (by omega)).mono ?_
  rintro e w8 ⟨rfl, hg8⟩
  have z8 := Lib.hid hg8.size
  have g8 : Grew w w8 := g7.trans hg8
  replace hq0 := hq0.grew hg8
  replace hx0 := hx0.grew hg8
  replace hg0 := hg0.grew hg8
  replace HBq := Lib.hid ((hg8.block (blk_lt HBq.out)).trans HBq.out)
  replace HBg := Lib.hid ((hg8.block (blk_lt HBg.out)).trans HBg.out)
  clear hg8 g7
  clear kq0 kq1 aq0 aq1
  have kq0 : w8.cell? ⟨w3.heap.size, 0, none⟩ = some (.int .i64 (R1.length : Int)) := by rw [blk_cell HBq.out]; rfl
  have kq1 : w8.cell? ⟨w3.heap.size, 1, none⟩ = some (.slice Aq0 R1.length cq0) := by rw [blk_cell HBq.out]; rfl
  have kg0 : w8.cell? ⟨w6.heap.size, 0, none⟩ = some (.int .i64 (R1.length : Int)) := by rw [blk_cell HBg.out]; rfl
  have kg1 : w8.cell? ⟨w6.heap.size, 1, none⟩ = some (.slice Ag0 R1.length cg0) := by rw [blk_cell HBg.out]; rfl
  go_wp2_with fail
  refine (T0.out _ g8).mono ?_
  rintro e w9 ⟨y0, rfl, hy0, hg9⟩
  have z9 := Lib.hid hg9.size
  have g9 : Grew w w9 := g8.trans hg9
  replace hq0 := hq0.grew hg9
  replace hx0 := hx0.grew hg9
  replace hg0 := hg0.grew hg9
  replace HBq := Lib.hid ((hg9.block (blk_lt HBq.out)).trans HBq.out)
  replace HBg := Lib.hid ((hg9.block (blk_lt HBg.out)).trans HBg.out)
  clear hg9 g8
  obtain ⟨Ay0, cy0, rfl⟩ := nodes_slice hy0.nodes
  have bly0 := Lib.hid (fun g (hg : (.slice Ay0 xs.length cy0 : Value).ownBlock = some g) => (⟨own_of_ge hy0 hg, (World.ownsRow.lt hy0 g hg).2⟩ : _ ∧ _))
  clear kq0 kq1 kg0 kg1
  have kq0 : w9.cell? ⟨w3.heap.size, 0, none⟩ = some (.int .i64 (R1.length : Int)) := by rw [blk_cell HBq.out]; rfl
  have kq1 : w9.cell? ⟨w3.heap.size, 1, none⟩ = some (.slice Aq0 R1.length cq0) := by rw [blk_cell HBq.out]; rfl
  have kg0 : w9.cell? ⟨w6.heap.size, 0, none⟩ = some (.int .i64 (R1.length : Int)) := by rw [blk_cell HBg.out]; rfl
  have kg1 : w9.cell? ⟨w6.heap.size, 1, none⟩ = some (.slice Ag0 R1.length cg0) := by rw [blk_cell HBg.out]; rfl
  go_wp2_with fail
  refine (eqNodeS_yes _ _ xs _ hx0.nodes hy0.nodes (by omega)).mono ?_
  rintro e w10 ⟨rfl, hg10⟩
  have z10 := Lib.hid hg10.size
  have g10 : Grew w w10 := g9.trans hg10
  replace hq0 := hq0.grew hg10
  replace hx0 := hx0.grew hg10
  replace hg0 := hg0.grew hg10
  replace hy0 := hy0.grew hg10
  replace HBq := Lib.hid ((hg10.block (blk_lt HBq.out)).trans HBq.out)
  replace HBg := Lib.hid ((hg10.block (blk_lt HBg.out)).trans HBg.out)
  clear hg10 g9
  clear hy0 bly0
  clear kq0 kq1 kg0 kg1
  have kq0 : w10.cell? ⟨w3.heap.size, 0, none⟩ = some (.int .i64 (R1.length : Int)) := by rw [blk_cell HBq.out]; rfl
  have kq1 : w10.cell? ⟨w3.heap.size, 1, none⟩ = some (.slice Aq0 R1.length cq0) := by rw [blk_cell HBq.out]; rfl
  have kg0 : w10.cell? ⟨w6.heap.size, 0, none⟩ = some (.int .i64 (R1.length : Int)) := by rw [blk_cell HBg.out]; rfl
  have kg1 : w10.cell? ⟨w6.heap.size, 1, none⟩ = some (.slice Ag0 R1.length cg0) := by rw [blk_cell HBg.out]; rfl
  go_wp2_with fail
  refine (markNodeS_mg _ xs _ 1 _ hx0 (by omega) (by omega) (by omega)).mono ?_
  rintro e w11 ⟨rfl, hx0, hr11⟩
  have z11 := Lib.hid hr11.size
  have g11 : Grew w w11 := grew_row g10 hr11 (fun g hg => by have h1 := blx0.out g hg; have y1 := z1.out; have y2 := z2.out; have y3 := z3.out; have y4 := z4.out; have y5 := z5.out; have y6 := z6.out; have y7 := z7.out; have y8 := z8.out; have y9 := z9.out; have y10 := z10.out; omega)
  replace hq0 : OwnI w11 _ (.slice Aq0 R1.length cq0) (R1) := own_row hq0 hr11 (fun g hg hg2 => by have h1 := blx0.out g hg; have h2 := blq0.out g hg2; have y1 := z1.out; have y2 := z2.out; have y3 := z3.out; have y4 := z4.out; have y5 := z5.out; have y6 := z6.out; have y7 := z7.out; have y8 := z8.out; have y9 := z9.out; have y10 := z10.out; omega)
  replace hg0 : OwnI w11 _ (.slice Ag0 R1.length cg0) (R1) := own_row hg0 hr11 (fun g hg hg2 => by have h1 := blx0.out g hg; have h2 := blg0.out g hg2; have y1 := z1.out; have y2 := z2.out; have y3 := z3.out; have y4 := z4.out; have y5 := z5.out; have y6 := z6.out; have y7 := z7.out; have y8 := z8.out; have y9 := z9.out; have y10 := z10.out; omega)
  replace HBq := Lib.hid ((hr11.block w3.heap.size (blk_lt HBq.out) (fun hg => by have h1 := blx0.out _ hg.symm; have y1 := z1.out; have y2 := z2.out; have y3 := z3.out; have y4 := z4.out; have y5 := z5.out; have y6 := z6.out; have y7 := z7.out; have y8 := z8.out; have y9 := z9.out; have y10 := z10.out; omega)).trans HBq.out)
  replace HBg := Lib.hid ((hr11.block w6.heap.size (blk_lt HBg.out) (fun hg => by have h1 := blx0.out _ hg.symm; have y1 := z1.out; have y2 := z2.out; have y3 := z3.out; have y4 := z4.out; have y5 := z5.out; have y6 := z6.out; have y7 := z7.out; have y8 := z8.out; have y9 := z9.out; have y10 := z10.out; omega)).trans HBg.out)
  clear hr11 g10
  clear hx0 blx0
  clear kq0 kq1 kg0 kg1
  have kq0 : w11.cell? ⟨w3.heap.size, 0, none⟩ = some (.int .i64 (R1.length : Int)) := by rw [blk_cell HBq.out]; rfl
  have kq1 : w11.cell? ⟨w3.heap.size, 1, none⟩ = some (.slice Aq0 R1.length cq0) := by rw [blk_cell HBq.out]; rfl
  have kg0 : w11.cell? ⟨w6.heap.size, 0, none⟩ = some (.int .i64 (R1.length : Int)) := by rw [blk_cell HBg.out]; rfl
  have kg1 : w11.cell? ⟨w6.heap.size, 1, none⟩ = some (.slice Ag0 R1.length cg0) := by rw [blk_cell HBg.out]; rfl
  go_wp2_with fail
  refine (eqFrame_yes _ _ _ R1 _ hg0.ints hq0.ints (by omega)).mono ?_
  rintro e w12 ⟨rfl, hg12⟩
  have z12 := Lib.hid hg12.size
  have g12 : Grew w w12 := g11.trans hg12
  replace hq0 := hq0.grew hg12
  replace hg0 := hg0.grew hg12
  replace HBq := Lib.hid ((hg12.block (blk_lt HBq.out)).trans HBq.out)
  replace HBg := Lib.hid ((hg12.block (blk_lt HBg.out)).trans HBg.out)
  clear hg12 g11
  clear kq0 kq1 kg0 kg1
  have kq0 : w12.cell? ⟨w3.heap.size, 0, none⟩ = some (.int .i64 (R1.length : Int)) := by rw [blk_cell HBq.out]; rfl
  have kq1 : w12.cell? ⟨w3.heap.size, 1, none⟩ = some (.slice Aq0 R1.length cq0) := by rw [blk_cell HBq.out]; rfl
  have kg0 : w12.cell? ⟨w6.heap.size, 0, none⟩ = some (.int .i64 (R1.length : Int)) := by rw [blk_cell HBg.out]; rfl
  have kg1 : w12.cell? ⟨w6.heap.size, 1, none⟩ = some (.slice Ag0 R1.length cg0) := by rw [blk_cell HBg.out]; rfl
  go_wp2_with fail
  refine (markFrame_m _ _ R1 _ 1 _ hg0 (by omega) (by omega) (by omega)).mono ?_
  rintro e w13 ⟨rfl, hg0, hr13⟩
  have z13 := Lib.hid hr13.size
  have g13 : Grew w w13 := grew_row g12 hr13 (fun g hg => by have h1 := blg0.out g hg; have y1 := z1.out; have y2 := z2.out; have y3 := z3.out; have y4 := z4.out; have y5 := z5.out; have y6 := z6.out; have y7 := z7.out; have y8 := z8.out; have y9 := z9.out; have y10 := z10.out; have y11 := z11.out; have y12 := z12.out; omega)
  replace hq0 : OwnI w13 _ (.slice Aq0 R1.length cq0) (R1) := own_row hq0 hr13 (fun g hg hg2 => by have h1 := blg0.out g hg; have h2 := blq0.out g hg2; have y1 := z1.out; have y2 := z2.out; have y3 := z3.out; have y4 := z4.out; have y5 := z5.out; have y6 := z6.out; have y7 := z7.out; have y8 := z8.out; have y9 := z9.out; have y10 := z10.out; have y11 := z11.out; have y12 := z12.out; omega)
  replace HBq := Lib.hid ((hr13.block w3.heap.size (blk_lt HBq.out) (fun hg => by have h1 := blg0.out _ hg.symm; have y1 := z1.out; have y2 := z2.out; have y3 := z3.out; have y4 := z4.out; have y5 := z5.out; have y6 := z6.out; have y7 := z7.out; have y8 := z8.out; have y9 := z9.out; have y10 := z10.out; have y11 := z11.out; have y12 := z12.out; omega)).trans HBq.out)
  replace HBg := Lib.hid ((hr13.block w6.heap.size (blk_lt HBg.out) (fun hg => by have h1 := blg0.out _ hg.symm; have y1 := z1.out; have y2 := z2.out; have y3 := z3.out; have y4 := z4.out; have y5 := z5.out; have y6 := z6.out; have y7 := z7.out; have y8 := z8.out; have y9 := z9.out; have y10 := z10.out; have y11 := z11.out; have y12 := z12.out; omega)).trans HBg.out)
  clear hr13 g12
  clear kq0 kq1 kg0 kg1
  have kq0 : w13.cell? ⟨w3.heap.size, 0, none⟩ = some (.int .i64 (R1.length : Int)) := by rw [blk_cell HBq.out]; rfl
  have kq1 : w13.cell? ⟨w3.heap.size, 1, none⟩ = some (.slice Aq0 R1.length cq0) := by rw [blk_cell HBq.out]; rfl
  have kg0 : w13.cell? ⟨w6.heap.size, 0, none⟩ = some (.int .i64 (R1.length : Int)) := by rw [blk_cell HBg.out]; rfl
  have kg1 : w13.cell? ⟨w6.heap.size, 1, none⟩ = some (.slice Ag0 R1.length cg0) := by rw [blk_cell HBg.out]; rfl
  go_wp2_with fail
  refine (heldFrame_c _ _ R1.length 1 _ hg0.ints (by omega) (by omega) (by omega)).mono ?_
  rintro e w14 ⟨rfl, hg14⟩
  have z14 := Lib.hid hg14.size
  have g14 : Grew w w14 := g13.trans hg14
  replace hq0 := hq0.grew hg14
  replace hg0 := hg0.grew hg14
  replace HBq := Lib.hid ((hg14.block (blk_lt HBq.out)).trans HBq.out)
  replace HBg := Lib.hid ((hg14.block (blk_lt HBg.out)).trans HBg.out)
  clear hg14 g13
  clear kq0 kq1 kg0 kg1
  have kq0 : w14.cell? ⟨w3.heap.size, 0, none⟩ = some (.int .i64 (R1.length : Int)) := by rw [blk_cell HBq.out]; rfl
  have kq1 : w14.cell? ⟨w3.heap.size, 1, none⟩ = some (.slice Aq0 R1.length cq0) := by rw [blk_cell HBq.out]; rfl
  have kg0 : w14.cell? ⟨w6.heap.size, 0, none⟩ = some (.int .i64 (R1.length : Int)) := by rw [blk_cell HBg.out]; rfl
  have kg1 : w14.cell? ⟨w6.heap.size, 1, none⟩ = some (.slice Ag0 R1.length cg0) := by rw [blk_cell HBg.out]; rfl
  go_wp2_with fail
  refine (T0.out _ g14).mono ?_
  rintro e w15 ⟨y0, rfl, hy0, hg15⟩
  have z15 := Lib.hid hg15.size
  have g15 : Grew w w15 := g14.trans hg15
  replace hq0 := hq0.grew hg15
  replace hg0 := hg0.grew hg15
  replace HBq := Lib.hid ((hg15.block (blk_lt HBq.out)).trans HBq.out)
  replace HBg := Lib.hid ((hg15.block (blk_lt HBg.out)).trans HBg.out)
  clear hg15 g14
  obtain ⟨Ay0, cy0, rfl⟩ := nodes_slice hy0.nodes
  have bly0 := Lib.hid (fun g (hg : (.slice Ay0 xs.length cy0 : Value).ownBlock = some g) => (⟨own_of_ge hy0 hg, (World.ownsRow.lt hy0 g hg).2⟩ : _ ∧ _))
  clear kq0 kq1 kg0 kg1
  have kq0 : w15.cell? ⟨w3.heap.size, 0, none⟩ = some (.int .i64 (R1.length : Int)) := by rw [blk_cell HBq.out]; rfl
  have kq1 : w15.cell? ⟨w3.heap.size, 1, none⟩ = some (.slice Aq0 R1.length cq0) := by rw [blk_cell HBq.out]; rfl
  have kg0 : w15.cell? ⟨w6.heap.size, 0, none⟩ = some (.int .i64 (R1.length : Int)) := by rw [blk_cell HBg.out]; rfl
  have kg1 : w15.cell? ⟨w6.heap.size, 1, none⟩ = some (.slice Ag0 R1.length cg0) := by rw [blk_cell HBg.out]; rfl
  go_wp2_with fail
  refine (KI.out _ _ hy0.nodes g15).mono ?_
  rintro e w16 ⟨h0, rfl, hh0, hg16⟩
  have z16 := Lib.hid hg16.size
  have g16 : Grew w w16 := g15.trans hg16
  replace hq0 := hq0.grew hg16
  replace hg0 := hg0.grew hg16
  replace hy0 := hy0.grew hg16
  replace HBq := Lib.hid ((hg16.block (blk_lt HBq.out)).trans HBq.out)
  replace HBg := Lib.hid ((hg16.block (blk_lt HBg.out)).trans HBg.out)
  clear hg16 g15
  obtain ⟨Ah0, ch0, rfl⟩ := ints_slice hh0.ints
  have blh0 := Lib.hid (fun g (hg : (.slice Ah0 R1.length ch0 : Value).ownBlock = some g) => (⟨own_of_ge hh0 hg, (World.ownsRow.lt hh0 g hg).2⟩ : _ ∧ _))
  clear kq0 kq1 kg0 kg1
  have kq0 : w16.cell? ⟨w3.heap.size, 0, none⟩ = some (.int .i64 (R1.length : Int)) := by rw [blk_cell HBq.out]; rfl
  have kq1 : w16.cell? ⟨w3.heap.size, 1, none⟩ = some (.slice Aq0 R1.length cq0) := by rw [blk_cell HBq.out]; rfl
  have kg0 : w16.cell? ⟨w6.heap.size, 0, none⟩ = some (.int .i64 (R1.length : Int)) := by rw [blk_cell HBg.out]; rfl
  have kg1 : w16.cell? ⟨w6.heap.size, 1, none⟩ = some (.slice Ag0 R1.length cg0) := by rw [blk_cell HBg.out]; rfl
  clear hy0 bly0
  have aq0 : ∀ o, (w16.alloc o).cell? ⟨w3.heap.size, 0, none⟩ = some (.int .i64 (R1.length : Int)) := fun o => by rw [blk_cell ((((Grew.refl w16).alloc o).block (blk_lt HBq.out)).trans HBq.out)]; rfl
  have aq1 : ∀ o, (w16.alloc o).cell? ⟨w3.heap.size, 1, none⟩ = some (.slice Aq0 R1.length cq0) := fun o => by rw [blk_cell ((((Grew.refl w16).alloc o).block (blk_lt HBq.out)).trans HBq.out)]; rfl
  have ag0 : ∀ o, (w16.alloc o).cell? ⟨w6.heap.size, 0, none⟩ = some (.int .i64 (R1.length : Int)) := fun o => by rw [blk_cell ((((Grew.refl w16).alloc o).block (blk_lt HBg.out)).trans HBg.out)]; rfl
  have ag1 : ∀ o, (w16.alloc o).cell? ⟨w6.heap.size, 1, none⟩ = some (.slice Ag0 R1.length cg0) := fun o => by rw [blk_cell ((((Grew.refl w16).alloc o).block (blk_lt HBg.out)).trans HBg.out)]; rfl
  obtain ⟨w17, hw17⟩ : ∃ W, W = w16.alloc (.cells #[.int .i64 (R1.length : Int), .slice Ah0 R1.length ch0] 26) := ⟨_, rfl⟩
  have hg17 : Grew w16 w17 := by rw [hw17]; exact (Grew.refl _).alloc _
  have z17 : Hid (w17.heap.size = w16.heap.size + 1) := Lib.hid (by rw [hw17]; simp)
  have g17 : Grew w w17 := g16.trans hg17
  replace hq0 := hq0.grew hg17
  replace hg0 := hg0.grew hg17
  replace hh0 := hh0.grew hg17
  replace HBq := Lib.hid ((hg17.block (blk_lt HBq.out)).trans HBq.out)
  replace HBg := Lib.hid ((hg17.block (blk_lt HBg.out)).trans HBg.out)
  have HBh : Hid (w17.heap[w16.heap.size]? = some (.cells #[.int .i64 (R1.length : Int), .slice Ah0 R1.length ch0] 26 (0, 0))) := Lib.hid (by rw [hw17]; exact blk_new w16 _)
  clear hg17 g16
  go_wp2_with fail
  simp only [← hw17]
  clear hw17
  refine (eqFrame_yes _ _ _ R1 _ hh0.ints hq0.ints (by omega)).mono ?_
  rintro e w18 ⟨rfl, hg18⟩
  have z18 := Lib.hid hg18.size
  have g18 : Grew w w18 := g17.trans hg18
  replace hq0 := hq0.grew hg18
  replace hg0 := hg0.grew hg18
  replace hh0 := hh0.grew hg18
  replace HBq := Lib.hid ((hg18.block (blk_lt HBq.out)).trans HBq.out)
  replace HBg := Lib.hid ((hg18.block (blk_lt HBg.out)).trans HBg.out)
  replace HBh := Lib.hid ((hg18.block (blk_lt HBh.out)).trans HBh.out)
  clear hg18 g17
  clear kq0 kq1 kg0 kg1 aq0 aq1 ag0 ag1
  have kq0 : w18.cell? ⟨w3.heap.size, 0, none⟩ = some (.int .i64 (R1.length : Int)) := by rw [blk_cell HBq.out]; rfl
  have kq1 : w18.cell? ⟨w3.heap.size, 1, none⟩ = some (.slice Aq0 R1.length cq0) := by rw [blk_cell HBq.out]; rfl
  have kg0 : w18.cell? ⟨w6.heap.size, 0, none⟩ = some (.int .i64 (R1.length : Int)) := by rw [blk_cell HBg.out]; rfl
  have kg1 : w18.cell? ⟨w6.heap.size, 1, none⟩ = some (.slice Ag0 R1.length cg0) := by rw [blk_cell HBg.out]; rfl
  have kh0 : w18.cell? ⟨w16.heap.size, 0, none⟩ = some (.int .i64 (R1.length : Int)) := by rw [blk_cell HBh.out]; rfl
  have kh1 : w18.cell? ⟨w16.heap.size, 1, none⟩ = some (.slice Ah0 R1.length ch0) := by rw [blk_cell HBh.out]; rfl
  clear hh0 blh0
  go_wp2_with fail
  refine (heldFrame_c _ _ R1.length 1 _ hg0.ints (by omega) (by omega) (by omega)).mono ?_
  rintro e w19 ⟨rfl, hg19⟩
  have z19 := Lib.hid hg19.size
  have g19 : Grew w w19 := g18.trans hg19
  replace hq0 := hq0.grew hg19
  replace hg0 := hg0.grew hg19
  replace HBq := Lib.hid ((hg19.block (blk_lt HBq.out)).trans HBq.out)
  replace HBg := Lib.hid ((hg19.block (blk_lt HBg.out)).trans HBg.out)
  replace HBh := Lib.hid ((hg19.block (blk_lt HBh.out)).trans HBh.out)
  clear hg19 g18
  clear kq0 kq1 kg0 kg1 kh0 kh1
  have kq0 : w19.cell? ⟨w3.heap.size, 0, none⟩ = some (.int .i64 (R1.length : Int)) := by rw [blk_cell HBq.out]; rfl
  have kq1 : w19.cell? ⟨w3.heap.size, 1, none⟩ = some (.slice Aq0 R1.length cq0) := by rw [blk_cell HBq.out]; rfl
  have kg0 : w19.cell? ⟨w6.heap.size, 0, none⟩ = some (.int .i64 (R1.length : Int)) := by rw [blk_cell HBg.out]; rfl
  have kg1 : w19.cell? ⟨w6.heap.size, 1, none⟩ = some (.slice Ag0 R1.length cg0) := by rw [blk_cell HBg.out]; rfl
  have kh0 : w19.cell? ⟨w16.heap.size, 0, none⟩ = some (.int .i64 (R1.length : Int)) := by rw [blk_cell HBh.out]; rfl
  have kh1 : w19.cell? ⟨w16.heap.size, 1, none⟩ = some (.slice Ah0 R1.length ch0) := by rw [blk_cell HBh.out]; rfl
  go_wp2_with fail
  go_ret
  exact ⟨rfl, g19⟩
end Go.Proofs.YtpfncncohnhanaaGreatDoor


/- An argument that is a list of nodes. -/
namespace Go.Proofs.YtpfncncohnhanaaGreatDoor
open Go.RowKit
open Fm (Nd)

theorem cellN_lt {w : World} {a : Addr} {u : Value} (h : w.cell? a = some u) : a.block < w.heap.size := by
  unfold World.cell? at h
  split at h
  · rename_i hh
    exact (Array.getElem?_eq_some_iff.1 hh).1
  · cases h

theorem argN_of_trod {H : Type} {enc : TypeId × Value → H} {P : Program} {W : World} {sp : Nat → Bool} {held : Bool} {n : Nat} {t e : TypeId} {f0 f1 : Field} {v : Value} {y : DataW H × List MemPlace}
    (ht : P.underlying t = some (.slice e)) (he : P.underlying e = some (.struct #[f0, f1])) (ce : P.cellsOf e = 2) (o0 : f0.offset = 0) (o1 : f1.offset = 1) (c0 : P.cellsOf f0.type = 1) (c1 : P.cellsOf f1.type = 1)
    (u0 : P.underlying f0.type = some (.int .i64)) (u1 : P.underlying f1.type = some (.int .i64)) (h : DataW.trod enc P W 0 sp held n t [v] = some y) : ∃ xs, ArgN W v xs := by
  rcases Go.Deep.open_slice_pairs ht he ce o0 o1 c0 c1 h with ⟨hv, _⟩ | ⟨a, len, cap, m, k, V0, V1, D0, D1, P0, P1, hv, _, hl, hm, hmm, _, hcell⟩
  · obtain rfl : v = .slice none 0 0 := by simpa using hv
    exact ⟨[], ⟨none, 0, rfl, by simp⟩, fun h => absurd h (by simp)⟩
  · obtain rfl : v = .slice (some a) len cap := by simpa using hv
    have hlm : len ≤ m := by rw [hmm]; split <;> omega
    have hmax : maxLen = 9223372036854775807 := by decide
    rw [hmax] at hm
    have each : ∀ i, i < len → ∃ q : Int × Int, V0 i = .int .i64 q.1 ∧ V1 i = .int .i64 q.2 := fun i hi => by
      obtain ⟨_, _, t0, t1⟩ := hcell i (by omega)
      obtain ⟨x, hx, _⟩ := DataW.trod_int u0 t0
      obtain ⟨z, hz, _⟩ := DataW.trod_int u1 t1
      exact ⟨(x, z), by simpa using hx, by simpa using hz⟩
    obtain ⟨q, hq⟩ := Go.Deep.choose_lt each
    have hlen : ((List.range len).map q).length = len := by simp
    refine ⟨(List.range len).map q, ⟨some a, cap, by rw [hlen], by rw [hlen]; omega⟩, fun hp => ?_⟩
    rw [hlen] at hp
    obtain ⟨b, off, spot⟩ := a
    have h0 := (hcell 0 (by omega)).1
    have hspot : spot = none := by simpa [Addr.add] using World.cell?_spot h0
    subst hspot
    have hb := cellN_lt h0
    have hadd : ∀ i, (⟨b, off, none⟩ : Addr).add i = ⟨b, off + i, none⟩ := fun i => by
      unfold Addr.add
      split
      · subst_vars; rfl
      · rfl
    rw [hadd] at hb
    unfold Nodes Rd
    rw [hlen]
    refine ⟨by rw [cells_length, hlen], by omega, .inr ⟨b, off, cap, rfl, hl, hm, hb, fun j u hu => ?_⟩⟩
    have hj : j < len * 2 := by
      have := (List.getElem?_eq_some_iff.1 hu).1
      rw [cells_length, hlen] at this
      exact this
    have hi : j / 2 < len := by omega
    obtain ⟨e0, e1, _⟩ := hcell (j / 2) (by omega)
    rw [hadd, (hq _ hi).1] at e0
    rw [hadd, (hq _ hi).2] at e1
    obtain ⟨k0, k1⟩ := cells_at ((List.range len).map q) (j / 2) (by rw [hlen]; exact hi)
    have hk0 : kd ((List.range len).map q) (j / 2) = (q (j / 2)).1 := by simp [kd, List.getD, hi]
    have hk1 : sy ((List.range len).map q) (j / 2) = (q (j / 2)).2 := by simp [sy, List.getD, hi]
    rw [hk0] at k0
    rw [hk1] at k1
    have hd := Nat.div_add_mod j 2
    rcases Nat.mod_two_eq_zero_or_one j with hmo | hmo
    · have e : j = j / 2 * 2 := by omega
      rw [e] at hu ⊢
      rw [k0] at hu
      rw [← hu]
      exact e0
    · have e : j = j / 2 * 2 + 1 := by omega
      rw [e] at hu ⊢
      rw [k1] at hu
      rw [← hu]
      exact e1
end Go.Proofs.YtpfncncohnhanaaGreatDoor


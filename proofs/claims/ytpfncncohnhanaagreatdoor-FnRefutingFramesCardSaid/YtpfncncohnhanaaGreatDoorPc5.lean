/- Texts in one file: FaS FaA FitS StCf StCk OwnV AppStr ShelfSp LgI LgF MvF FvV FvI DecT NisT NisL NisP RgI LgS FsS. -/
import Derived.Lib.Strings
import Derived.Deep.RegionHeld3
import Derived.Deep.QuietTactic
import Derived.BigQuiet
import Derived.Deep.LoopGhost
import Derived.WalkLawsBesides
import Derived.Outline
import Derived.Shelf.Abstract
import Derived.Test.YtpfncncohnhanaaGreatDoorProg
import Derived.Shelf.Strings.Search1
import Derived.Shelf.Strings.Search2
import Derived.Shelf.Strings.Search3
import Derived.Shelf.Strings.Count
import Derived.Shelf.Strings.Split
import Derived.Lib.Hide
import Derived.WalkKit
import Derived.WalkSpells
import Derived.Lib.SlicesS
import Derived.Lib.SliceRun
import Derived.Deep.Cut
import Derived.Test.YtpfncncohnhanaaGreatDoorPc1
import Derived.Test.YtpfncncohnhanaaGreatDoorPc2
import Derived.Test.YtpfncncohnhanaaGreatDoorPc3
import Derived.Test.YtpfncncohnhanaaGreatDoorPc4
set_option linter.all false

/- l09Holds of the reference: the conditions of the axioms. -/
namespace Go.Proofs.YtpfncncohnhanaaGreatDoor
open Go.RowKit

theorem sFlag0_c (v : Value) (A : List Nat) (w : World) (h : Ints w v (zs A)) (hA : Rl A) :
    Calls Tryz.prog 94 #[.agg #[.int .i64 (A.length : Int), v], .int .i64 0] w fun e w' => e = .returned (.bool (reflB A)) ∧ Grew w w' := by
  rw [← flR_0 A]
  exact l05Flag_c 0 (by omega) v A w h hA (fun h => absurd h (by decide))
theorem sFlag1_c (v : Value) (A : List Nat) (w : World) (h : Ints w v (zs A)) (hA : Rl A) :
    Calls Tryz.prog 94 #[.agg #[.int .i64 (A.length : Int), v], .int .i64 1] w fun e w' => e = .returned (.bool (serB A)) ∧ Grew w w' := by
  rw [← flR_1 A]
  exact l05Flag_c 1 (by omega) v A w h hA (fun h => absurd h (by decide))
theorem sFlag2_c (v : Value) (A : List Nat) (w : World) (h : Ints w v (zs A)) (hA : Rl A) :
    Calls Tryz.prog 94 #[.agg #[.int .i64 (A.length : Int), v], .int .i64 2] w fun e w' => e = .returned (.bool (transB A)) ∧ Grew w w' := by
  rw [← flR_2 A]
  exact l05Flag_c 2 (by omega) v A w h hA (fun h => absurd h (by decide))
theorem sFlag3_c (v : Value) (A : List Nat) (w : World) (h : Ints w v (zs A)) (hA : Rl A) :
    Calls Tryz.prog 94 #[.agg #[.int .i64 (A.length : Int), v], .int .i64 3] w fun e w' => e = .returned (.bool (symB A)) ∧ Grew w w' := by
  rw [← flR_3 A]
  exact l05Flag_c 3 (by omega) v A w h hA (fun h => absurd h (by decide))
theorem sFlag4_c (v : Value) (A : List Nat) (w : World) (h : Ints w v (zs A)) (hA : Rl A) :
    Calls Tryz.prog 94 #[.agg #[.int .i64 (A.length : Int), v], .int .i64 4] w fun e w' => e = .returned (.bool (eucB A)) ∧ Grew w w' := by
  rw [← flR_4 hA]
  exact l05Flag_c 4 (by omega) v A w h hA (fun h => absurd h (by decide))
theorem sFlag5_c (v : Value) (A : List Nat) (w : World) (h : Ints w v (zs A)) (hA : Rl A) :
    Calls Tryz.prog 94 #[.agg #[.int .i64 (A.length : Int), v], .int .i64 5] w fun e w' => e = .returned (.bool (dirB A)) ∧ Grew w w' := by
  rw [← flR_5 hA]
  exact l05Flag_c 5 (by omega) v A w h hA (fun h => absurd h (by decide))
theorem sFlag6_c (v : Value) (A : List Nat) (w : World) (h : Ints w v (zs A)) (hA : Rl A) :
    Calls Tryz.prog 94 #[.agg #[.int .i64 (A.length : Int), v], .int .i64 6] w fun e w' => e = .returned (.bool (conB A)) ∧ Grew w w' := by
  rw [← flR_6 hA]
  exact l05Flag_c 6 (by omega) v A w h hA (fun h => absurd h (by decide))
theorem sFlag7_c (v : Value) (A : List Nat) (w : World) (h : Ints w v (zs A)) (hA : Rl A) (hT : transB A = true) :
    Calls Tryz.prog 94 #[.agg #[.int .i64 (A.length : Int), v], .int .i64 7] w fun e w' => e = .returned (.bool (irrB A)) ∧ Grew w w' := by
  rw [← flR_7 A]
  exact l05Flag_c 7 (by omega) v A w h hA (fun _ => (transB_iff hA).1 hT)
theorem sFlag8_c (v : Value) (A : List Nat) (w : World) (h : Ints w v (zs A)) (hA : Rl A) :
    Calls Tryz.prog 94 #[.agg #[.int .i64 (A.length : Int), v], .int .i64 8] w fun e w' => e = .returned (.bool (antiB A)) ∧ Grew w w' := by
  rw [← flR_8 A]
  exact l05Flag_c 8 (by omega) v A w h hA (fun h => absurd h (by decide))
theorem sFlag9_c (v : Value) (A : List Nat) (w : World) (h : Ints w v (zs A)) (hA : Rl A) :
    Calls Tryz.prog 94 #[.agg #[.int .i64 (A.length : Int), v], .int .i64 9] w fun e w' => e = .returned (.bool (denB A)) ∧ Grew w w' := by
  rw [← flR_9 hA]
  exact l05Flag_c 9 (by omega) v A w h hA (fun h => absurd h (by decide))
theorem sFlag10_c (v : Value) (A : List Nat) (w : World) (h : Ints w v (zs A)) (hA : Rl A) :
    Calls Tryz.prog 94 #[.agg #[.int .i64 (A.length : Int), v], .int .i64 10] w fun e w' => e = .returned (.bool (funB A)) ∧ Grew w w' := by
  rw [← flR_10 A]
  exact l05Flag_c 10 (by omega) v A w h hA (fun h => absurd h (by decide))
set_option maxHeartbeats 1000000 in
theorem l09Holds_0 (v : Value) (A : List Nat) (w : World) (h : Ints w v (zs A)) (hA : Rl A) :
    Calls Tryz.prog 51 #[.agg #[.int .i64 (A.length : Int), v], .string ⟨#[52]⟩] w fun e w' => e = .returned (.bool (axB A 0)) ∧ Grew w w' := by
  have hal := (Grew.refl w).alloc (.cells #[.int .i64 (A.length : Int), v] 26)
  have K2 := Lib.hid (fun W (hW : Grew w W) => sFlag2_c v A W (h.grew hW) hA)
  obtain ⟨w1, hw1⟩ : ∃ w1, w1 = w.alloc (.cells #[.int .i64 (A.length : Int), v] 26) := ⟨_, rfl⟩
  rw [← hw1] at hal
  have hb0 : w1.heap[w.heap.size]? = some (.cells #[.int .i64 (A.length : Int), v] 26 (0, 0)) := by rw [hw1]; exact blk_new w _
  have p0 : ∀ W, Grew w1 W → W.cell? ⟨w.heap.size, 0, none⟩ = some (.int .i64 (A.length : Int)) := fun W hW => by rw [blk_cell ((hW.block (blk_lt hb0)).trans hb0)]; rfl
  have p1 : ∀ W, Grew w1 W → W.cell? ⟨w.heap.size, 1, none⟩ = some v := fun W hW => by rw [blk_cell ((hW.block (blk_lt hb0)).trans hb0)]; rfl
  have HAL := Lib.hid hal
  obtain ⟨A1, c1, rfl⟩ := ints_sliceN h
  show Calls _ _ _ _ fun e w' => e = .returned (.bool (transB A)) ∧ Grew w w'
  have q0 := p0 _ (Grew.refl _)
  have q1 := p1 _ (Grew.refl _)
  clear h hA hb0 hal p0 p1
  generalize transB A = R at *
  generalize A.length = n at *
  go_enter Tryz.func51, Tryz.ntmps51
  go_wp2_with fail
  simp only [← hw1]
  clear hw1
  refine (K2.out _ HAL.out).mono ?_
  rintro e w2 ⟨rfl, hg2⟩
  go_wp2_with fail
  go_ret
  exact ⟨rfl, HAL.out.trans hg2⟩
set_option maxHeartbeats 1000000 in
theorem l09Holds_1 (v : Value) (A : List Nat) (w : World) (h : Ints w v (zs A)) (hA : Rl A) :
    Calls Tryz.prog 51 #[.agg #[.int .i64 (A.length : Int), v], .string ⟨#[53]⟩] w fun e w' => e = .returned (.bool (axB A 1)) ∧ Grew w w' := by
  have hal := (Grew.refl w).alloc (.cells #[.int .i64 (A.length : Int), v] 26)
  have K4 := Lib.hid (fun W (hW : Grew w W) => sFlag4_c v A W (h.grew hW) hA)
  obtain ⟨w1, hw1⟩ : ∃ w1, w1 = w.alloc (.cells #[.int .i64 (A.length : Int), v] 26) := ⟨_, rfl⟩
  rw [← hw1] at hal
  have hb0 : w1.heap[w.heap.size]? = some (.cells #[.int .i64 (A.length : Int), v] 26 (0, 0)) := by rw [hw1]; exact blk_new w _
  have p0 : ∀ W, Grew w1 W → W.cell? ⟨w.heap.size, 0, none⟩ = some (.int .i64 (A.length : Int)) := fun W hW => by rw [blk_cell ((hW.block (blk_lt hb0)).trans hb0)]; rfl
  have p1 : ∀ W, Grew w1 W → W.cell? ⟨w.heap.size, 1, none⟩ = some v := fun W hW => by rw [blk_cell ((hW.block (blk_lt hb0)).trans hb0)]; rfl
  have HAL := Lib.hid hal
  obtain ⟨A1, c1, rfl⟩ := ints_sliceN h
  show Calls _ _ _ _ fun e w' => e = .returned (.bool (eucB A)) ∧ Grew w w'
  have q0 := p0 _ (Grew.refl _)
  have q1 := p1 _ (Grew.refl _)
  clear h hA hb0 hal p0 p1
  generalize eucB A = R at *
  generalize A.length = n at *
  go_enter Tryz.func51, Tryz.ntmps51
  go_wp2_with fail
  simp only [← hw1]
  clear hw1
  refine (K4.out _ HAL.out).mono ?_
  rintro e w2 ⟨rfl, hg2⟩
  go_wp2_with fail
  go_ret
  exact ⟨rfl, HAL.out.trans hg2⟩
set_option maxHeartbeats 1000000 in
theorem l09Holds_2 (v : Value) (A : List Nat) (w : World) (h : Ints w v (zs A)) (hA : Rl A) :
    Calls Tryz.prog 51 #[.agg #[.int .i64 (A.length : Int), v], .string ⟨#[66]⟩] w fun e w' => e = .returned (.bool (axB A 2)) ∧ Grew w w' := by
  have hal := (Grew.refl w).alloc (.cells #[.int .i64 (A.length : Int), v] 26)
  have K3 := Lib.hid (fun W (hW : Grew w W) => sFlag3_c v A W (h.grew hW) hA)
  obtain ⟨w1, hw1⟩ : ∃ w1, w1 = w.alloc (.cells #[.int .i64 (A.length : Int), v] 26) := ⟨_, rfl⟩
  rw [← hw1] at hal
  have hb0 : w1.heap[w.heap.size]? = some (.cells #[.int .i64 (A.length : Int), v] 26 (0, 0)) := by rw [hw1]; exact blk_new w _
  have p0 : ∀ W, Grew w1 W → W.cell? ⟨w.heap.size, 0, none⟩ = some (.int .i64 (A.length : Int)) := fun W hW => by rw [blk_cell ((hW.block (blk_lt hb0)).trans hb0)]; rfl
  have p1 : ∀ W, Grew w1 W → W.cell? ⟨w.heap.size, 1, none⟩ = some v := fun W hW => by rw [blk_cell ((hW.block (blk_lt hb0)).trans hb0)]; rfl
  have HAL := Lib.hid hal
  obtain ⟨A1, c1, rfl⟩ := ints_sliceN h
  show Calls _ _ _ _ fun e w' => e = .returned (.bool (symB A)) ∧ Grew w w'
  have q0 := p0 _ (Grew.refl _)
  have q1 := p1 _ (Grew.refl _)
  clear h hA hb0 hal p0 p1
  generalize symB A = R at *
  generalize A.length = n at *
  go_enter Tryz.func51, Tryz.ntmps51
  go_wp2_with fail
  simp only [← hw1]
  clear hw1
  refine (K3.out _ HAL.out).mono ?_
  rintro e w2 ⟨rfl, hg2⟩
  go_wp2_with fail
  go_ret
  exact ⟨rfl, HAL.out.trans hg2⟩
set_option maxHeartbeats 1000000 in
theorem l09Holds_3 (v : Value) (A : List Nat) (w : World) (h : Ints w v (zs A)) (hA : Rl A) :
    Calls Tryz.prog 51 #[.agg #[.int .i64 (A.length : Int), v], .string ⟨#[67]⟩] w fun e w' => e = .returned (.bool (axB A 3)) ∧ Grew w w' := by
  have hal := (Grew.refl w).alloc (.cells #[.int .i64 (A.length : Int), v] 26)
  have K9 := Lib.hid (fun W (hW : Grew w W) => sFlag9_c v A W (h.grew hW) hA)
  obtain ⟨w1, hw1⟩ : ∃ w1, w1 = w.alloc (.cells #[.int .i64 (A.length : Int), v] 26) := ⟨_, rfl⟩
  rw [← hw1] at hal
  have hb0 : w1.heap[w.heap.size]? = some (.cells #[.int .i64 (A.length : Int), v] 26 (0, 0)) := by rw [hw1]; exact blk_new w _
  have p0 : ∀ W, Grew w1 W → W.cell? ⟨w.heap.size, 0, none⟩ = some (.int .i64 (A.length : Int)) := fun W hW => by rw [blk_cell ((hW.block (blk_lt hb0)).trans hb0)]; rfl
  have p1 : ∀ W, Grew w1 W → W.cell? ⟨w.heap.size, 1, none⟩ = some v := fun W hW => by rw [blk_cell ((hW.block (blk_lt hb0)).trans hb0)]; rfl
  have HAL := Lib.hid hal
  obtain ⟨A1, c1, rfl⟩ := ints_sliceN h
  show Calls _ _ _ _ fun e w' => e = .returned (.bool (denB A)) ∧ Grew w w'
  have q0 := p0 _ (Grew.refl _)
  have q1 := p1 _ (Grew.refl _)
  clear h hA hb0 hal p0 p1
  generalize denB A = R at *
  generalize A.length = n at *
  go_enter Tryz.func51, Tryz.ntmps51
  go_wp2_with fail
  simp only [← hw1]
  clear hw1
  refine (K9.out _ HAL.out).mono ?_
  rintro e w2 ⟨rfl, hg2⟩
  go_wp2_with fail
  go_ret
  exact ⟨rfl, HAL.out.trans hg2⟩
set_option maxHeartbeats 1000000 in
theorem l09Holds_4 (v : Value) (A : List Nat) (w : World) (h : Ints w v (zs A)) (hA : Rl A) :
    Calls Tryz.prog 51 #[.agg #[.int .i64 (A.length : Int), v], .string ⟨#[68]⟩] w fun e w' => e = .returned (.bool (axB A 4)) ∧ Grew w w' := by
  have hal := (Grew.refl w).alloc (.cells #[.int .i64 (A.length : Int), v] 26)
  have K1 := Lib.hid (fun W (hW : Grew w W) => sFlag1_c v A W (h.grew hW) hA)
  obtain ⟨w1, hw1⟩ : ∃ w1, w1 = w.alloc (.cells #[.int .i64 (A.length : Int), v] 26) := ⟨_, rfl⟩
  rw [← hw1] at hal
  have hb0 : w1.heap[w.heap.size]? = some (.cells #[.int .i64 (A.length : Int), v] 26 (0, 0)) := by rw [hw1]; exact blk_new w _
  have p0 : ∀ W, Grew w1 W → W.cell? ⟨w.heap.size, 0, none⟩ = some (.int .i64 (A.length : Int)) := fun W hW => by rw [blk_cell ((hW.block (blk_lt hb0)).trans hb0)]; rfl
  have p1 : ∀ W, Grew w1 W → W.cell? ⟨w.heap.size, 1, none⟩ = some v := fun W hW => by rw [blk_cell ((hW.block (blk_lt hb0)).trans hb0)]; rfl
  have HAL := Lib.hid hal
  obtain ⟨A1, c1, rfl⟩ := ints_sliceN h
  show Calls _ _ _ _ fun e w' => e = .returned (.bool (serB A)) ∧ Grew w w'
  have q0 := p0 _ (Grew.refl _)
  have q1 := p1 _ (Grew.refl _)
  clear h hA hb0 hal p0 p1
  generalize serB A = R at *
  generalize A.length = n at *
  go_enter Tryz.func51, Tryz.ntmps51
  go_wp2_with fail
  simp only [← hw1]
  clear hw1
  refine (K1.out _ HAL.out).mono ?_
  rintro e w2 ⟨rfl, hg2⟩
  go_wp2_with fail
  go_ret
  exact ⟨rfl, HAL.out.trans hg2⟩
set_option maxHeartbeats 1000000 in
theorem l09Holds_5 (v : Value) (A : List Nat) (w : World) (h : Ints w v (zs A)) (hA : Rl A) :
    Calls Tryz.prog 51 #[.agg #[.int .i64 (A.length : Int), v], .string ⟨#[70]⟩] w fun e w' => e = .returned (.bool (axB A 5)) ∧ Grew w w' := by
  have hal := (Grew.refl w).alloc (.cells #[.int .i64 (A.length : Int), v] 26)
  have K10 := Lib.hid (fun W (hW : Grew w W) => sFlag10_c v A W (h.grew hW) hA)
  obtain ⟨w1, hw1⟩ : ∃ w1, w1 = w.alloc (.cells #[.int .i64 (A.length : Int), v] 26) := ⟨_, rfl⟩
  rw [← hw1] at hal
  have hb0 : w1.heap[w.heap.size]? = some (.cells #[.int .i64 (A.length : Int), v] 26 (0, 0)) := by rw [hw1]; exact blk_new w _
  have p0 : ∀ W, Grew w1 W → W.cell? ⟨w.heap.size, 0, none⟩ = some (.int .i64 (A.length : Int)) := fun W hW => by rw [blk_cell ((hW.block (blk_lt hb0)).trans hb0)]; rfl
  have p1 : ∀ W, Grew w1 W → W.cell? ⟨w.heap.size, 1, none⟩ = some v := fun W hW => by rw [blk_cell ((hW.block (blk_lt hb0)).trans hb0)]; rfl
  have HAL := Lib.hid hal
  obtain ⟨A1, c1, rfl⟩ := ints_sliceN h
  show Calls _ _ _ _ fun e w' => e = .returned (.bool (funB A)) ∧ Grew w w'
  have q0 := p0 _ (Grew.refl _)
  have q1 := p1 _ (Grew.refl _)
  clear h hA hb0 hal p0 p1
  generalize funB A = R at *
  generalize A.length = n at *
  go_enter Tryz.func51, Tryz.ntmps51
  go_wp2_with fail
  simp only [← hw1]
  clear hw1
  refine (K10.out _ HAL.out).mono ?_
  rintro e w2 ⟨rfl, hg2⟩
  go_wp2_with fail
  go_ret
  exact ⟨rfl, HAL.out.trans hg2⟩
set_option maxHeartbeats 1000000 in
theorem l09Holds_6 (v : Value) (A : List Nat) (w : World) (h : Ints w v (zs A)) (hA : Rl A) :
    Calls Tryz.prog 51 #[.agg #[.int .i64 (A.length : Int), v], .string ⟨#[71]⟩] w fun e w' => e = .returned (.bool (axB A 6)) ∧ Grew w w' := by
  have hal := (Grew.refl w).alloc (.cells #[.int .i64 (A.length : Int), v] 26)
  have K5 := Lib.hid (fun W (hW : Grew w W) => sFlag5_c v A W (h.grew hW) hA)
  obtain ⟨w1, hw1⟩ : ∃ w1, w1 = w.alloc (.cells #[.int .i64 (A.length : Int), v] 26) := ⟨_, rfl⟩
  rw [← hw1] at hal
  have hb0 : w1.heap[w.heap.size]? = some (.cells #[.int .i64 (A.length : Int), v] 26 (0, 0)) := by rw [hw1]; exact blk_new w _
  have p0 : ∀ W, Grew w1 W → W.cell? ⟨w.heap.size, 0, none⟩ = some (.int .i64 (A.length : Int)) := fun W hW => by rw [blk_cell ((hW.block (blk_lt hb0)).trans hb0)]; rfl
  have p1 : ∀ W, Grew w1 W → W.cell? ⟨w.heap.size, 1, none⟩ = some v := fun W hW => by rw [blk_cell ((hW.block (blk_lt hb0)).trans hb0)]; rfl
  have HAL := Lib.hid hal
  obtain ⟨A1, c1, rfl⟩ := ints_sliceN h
  show Calls _ _ _ _ fun e w' => e = .returned (.bool (dirB A)) ∧ Grew w w'
  have q0 := p0 _ (Grew.refl _)
  have q1 := p1 _ (Grew.refl _)
  clear h hA hb0 hal p0 p1
  generalize dirB A = R at *
  generalize A.length = n at *
  go_enter Tryz.func51, Tryz.ntmps51
  go_wp2_with fail
  simp only [← hw1]
  clear hw1
  refine (K5.out _ HAL.out).mono ?_
  rintro e w2 ⟨rfl, hg2⟩
  go_wp2_with fail
  go_ret
  exact ⟨rfl, HAL.out.trans hg2⟩
set_option maxHeartbeats 1000000 in
theorem l09Holds_7 (v : Value) (A : List Nat) (w : World) (h : Ints w v (zs A)) (hA : Rl A) :
    Calls Tryz.prog 51 #[.agg #[.int .i64 (A.length : Int), v], .string ⟨#[72]⟩] w fun e w' => e = .returned (.bool (axB A 7)) ∧ Grew w w' := by
  have hal := (Grew.refl w).alloc (.cells #[.int .i64 (A.length : Int), v] 26)
  have K6 := Lib.hid (fun W (hW : Grew w W) => sFlag6_c v A W (h.grew hW) hA)
  obtain ⟨w1, hw1⟩ : ∃ w1, w1 = w.alloc (.cells #[.int .i64 (A.length : Int), v] 26) := ⟨_, rfl⟩
  rw [← hw1] at hal
  have hb0 : w1.heap[w.heap.size]? = some (.cells #[.int .i64 (A.length : Int), v] 26 (0, 0)) := by rw [hw1]; exact blk_new w _
  have p0 : ∀ W, Grew w1 W → W.cell? ⟨w.heap.size, 0, none⟩ = some (.int .i64 (A.length : Int)) := fun W hW => by rw [blk_cell ((hW.block (blk_lt hb0)).trans hb0)]; rfl
  have p1 : ∀ W, Grew w1 W → W.cell? ⟨w.heap.size, 1, none⟩ = some v := fun W hW => by rw [blk_cell ((hW.block (blk_lt hb0)).trans hb0)]; rfl
  have HAL := Lib.hid hal
  obtain ⟨A1, c1, rfl⟩ := ints_sliceN h
  show Calls _ _ _ _ fun e w' => e = .returned (.bool (conB A)) ∧ Grew w w'
  have q0 := p0 _ (Grew.refl _)
  have q1 := p1 _ (Grew.refl _)
  clear h hA hb0 hal p0 p1
  generalize conB A = R at *
  generalize A.length = n at *
  go_enter Tryz.func51, Tryz.ntmps51
  go_wp2_with fail
  simp only [← hw1]
  clear hw1
  refine (K6.out _ HAL.out).mono ?_
  rintro e w2 ⟨rfl, hg2⟩
  go_wp2_with fail
  go_ret
  exact ⟨rfl, HAL.out.trans hg2⟩
set_option maxHeartbeats 1000000 in
theorem l09Holds_8 (v : Value) (A : List Nat) (w : World) (h : Ints w v (zs A)) (hA : Rl A) :
    Calls Tryz.prog 51 #[.agg #[.int .i64 (A.length : Int), v], .string ⟨#[76]⟩] w fun e w' => e = .returned (.bool (axB A 8)) ∧ Grew w w' := by
  have hal := (Grew.refl w).alloc (.cells #[.int .i64 (A.length : Int), v] 26)
  have K2 := Lib.hid (fun W (hW : Grew w W) => sFlag2_c v A W (h.grew hW) hA)
  have K7 := Lib.hid (fun W (hW : Grew w W) (hT : transB A = true) => sFlag7_c v A W (h.grew hW) hA hT)
  obtain ⟨w1, hw1⟩ : ∃ w1, w1 = w.alloc (.cells #[.int .i64 (A.length : Int), v] 26) := ⟨_, rfl⟩
  rw [← hw1] at hal
  have hb0 : w1.heap[w.heap.size]? = some (.cells #[.int .i64 (A.length : Int), v] 26 (0, 0)) := by rw [hw1]; exact blk_new w _
  have p0 : ∀ W, Grew w1 W → W.cell? ⟨w.heap.size, 0, none⟩ = some (.int .i64 (A.length : Int)) := fun W hW => by rw [blk_cell ((hW.block (blk_lt hb0)).trans hb0)]; rfl
  have p1 : ∀ W, Grew w1 W → W.cell? ⟨w.heap.size, 1, none⟩ = some v := fun W hW => by rw [blk_cell ((hW.block (blk_lt hb0)).trans hb0)]; rfl
  have HAL := Lib.hid hal
  obtain ⟨A1, c1, rfl⟩ := ints_sliceN h
  show Calls _ _ _ _ fun e w' => e = .returned (.bool (transB A && (irrB A))) ∧ Grew w w'
  have q0 := p0 _ (Grew.refl _)
  have q1 := p1 _ (Grew.refl _)
  clear h hA hb0 hal
  generalize irrB A = R2 at *
  generalize transB A = R1 at *
  generalize A.length = n at *
  cases R1 with
  | false =>
    go_enter Tryz.func51, Tryz.ntmps51
    go_wp2_with fail
    simp only [← hw1]
    clear hw1
    refine (K2.out _ HAL.out).mono ?_
    rintro e w2 ⟨rfl, hg2⟩
    go_wp2_with fail
    go_ret
    exact ⟨rfl, HAL.out.trans hg2⟩
  | true =>
    go_enter Tryz.func51, Tryz.ntmps51
    go_wp2_with fail
    simp only [← hw1]
    clear hw1
    refine (K2.out _ HAL.out).mono ?_
    rintro e w2 ⟨rfl, hg2⟩
    have d0 := p0 _ hg2
    have d1 := p1 _ hg2
    go_wp2_with fail
    refine (K7.out _ (HAL.out.trans hg2) (by trivial)).mono ?_
    rintro e w3 ⟨rfl, hg3⟩
    go_wp2_with fail
    go_ret
    exact ⟨by cases R2 <;> rfl, HAL.out.trans (hg2.trans hg3)⟩
set_option maxHeartbeats 1000000 in
theorem l09Holds_9 (v : Value) (A : List Nat) (w : World) (h : Ints w v (zs A)) (hA : Rl A) :
    Calls Tryz.prog 51 #[.agg #[.int .i64 (A.length : Int), v], .string ⟨#[84]⟩] w fun e w' => e = .returned (.bool (axB A 9)) ∧ Grew w w' := by
  have hal := (Grew.refl w).alloc (.cells #[.int .i64 (A.length : Int), v] 26)
  have K0 := Lib.hid (fun W (hW : Grew w W) => sFlag0_c v A W (h.grew hW) hA)
  obtain ⟨w1, hw1⟩ : ∃ w1, w1 = w.alloc (.cells #[.int .i64 (A.length : Int), v] 26) := ⟨_, rfl⟩
  rw [← hw1] at hal
  have hb0 : w1.heap[w.heap.size]? = some (.cells #[.int .i64 (A.length : Int), v] 26 (0, 0)) := by rw [hw1]; exact blk_new w _
  have p0 : ∀ W, Grew w1 W → W.cell? ⟨w.heap.size, 0, none⟩ = some (.int .i64 (A.length : Int)) := fun W hW => by rw [blk_cell ((hW.block (blk_lt hb0)).trans hb0)]; rfl
  have p1 : ∀ W, Grew w1 W → W.cell? ⟨w.heap.size, 1, none⟩ = some v := fun W hW => by rw [blk_cell ((hW.block (blk_lt hb0)).trans hb0)]; rfl
  have HAL := Lib.hid hal
  obtain ⟨A1, c1, rfl⟩ := ints_sliceN h
  show Calls _ _ _ _ fun e w' => e = .returned (.bool (reflB A)) ∧ Grew w w'
  have q0 := p0 _ (Grew.refl _)
  have q1 := p1 _ (Grew.refl _)
  clear h hA hb0 hal p0 p1
  generalize reflB A = R at *
  generalize A.length = n at *
  go_enter Tryz.func51, Tryz.ntmps51
  go_wp2_with fail
  simp only [← hw1]
  clear hw1
  refine (K0.out _ HAL.out).mono ?_
  rintro e w2 ⟨rfl, hg2⟩
  go_wp2_with fail
  go_ret
  exact ⟨rfl, HAL.out.trans hg2⟩
set_option maxHeartbeats 1000000 in
theorem l09Holds_10 (v : Value) (A : List Nat) (w : World) (h : Ints w v (zs A)) (hA : Rl A) :
    Calls Tryz.prog 51 #[.agg #[.int .i64 (A.length : Int), v], .string ⟨#[86]⟩] w fun e w' => e = .returned (.bool (axB A 10)) ∧ Grew w w' := by
  have hal := (Grew.refl w).alloc (.cells #[.int .i64 (A.length : Int), v] 26)
  show Calls _ _ _ _ fun e w' => e = .returned (.bool (verB A)) ∧ Grew w w'
  have hn30 := hA.1
  obtain ⟨R, hR⟩ : ∃ R, R = verB A := ⟨_, rfl⟩
  rw [← hR]
  unfold verB at hR
  have HA := Lib.hid (fun k hk h => hR.trans (@allB_no A.length (fun x => decide (nt A x = 0)) k hk h))
  have HZ := Lib.hid (fun h => hR.trans (@allB_of A.length (fun x => decide (nt A x = 0)) h))
  obtain ⟨w1, hw1⟩ : ∃ w1, w1 = w.alloc (.cells #[.int .i64 (A.length : Int), v] 26) := ⟨_, rfl⟩
  rw [← hw1] at hal
  have hb0 : w1.heap[w.heap.size]? = some (.cells #[.int .i64 (A.length : Int), v] 26 (0, 0)) := by rw [hw1]; exact blk_new w _
  have p0 : ∀ W, Grew w1 W → W.cell? ⟨w.heap.size, 0, none⟩ = some (.int .i64 (A.length : Int)) := fun W hW => by rw [blk_cell ((hW.block (blk_lt hb0)).trans hb0)]; rfl
  have p1 : ∀ W, Grew w1 W → W.cell? ⟨w.heap.size, 1, none⟩ = some v := fun W hW => by rw [blk_cell ((hW.block (blk_lt hb0)).trans hb0)]; rfl
  have HAL := Lib.hid hal
  obtain ⟨A1, c1, rfl⟩ := ints_sliceN h
  have HC := Lib.hid (fun h0 => cellsN h h0)
  clear h hA hb0 hR
  generalize A.length = n at *
  go_enter Tryz.func51, Tryz.ntmps51
  go_wp2_with fail
  simp only [← hw1]
  clear hw1
  go_loopw [5] (fun i wr => ∃ j : Nat, j ≤ n ∧ i = .int .i64 j ∧ Grew w1 wr ∧ Hid (AllK (fun x => decide (nt A x = 0)) j)) (fun i _ => n - (intOf i).toNat)
  case atStart => exact ⟨0, Nat.zero_le _, rfl, Grew.refl _, AllK.zero _⟩
  case round =>
    obtain ⟨j, hj, rfl, hB, HJ⟩ := hrel
    have d0 := p0 _ hB
    by_cases hlt : j < n
    · obtain ⟨b, o, rfl, hcell⟩ := HC.out (by omega)
      have e0 := fun V (hV : Grew wr V) => p0 V (hB.trans hV)
      have e1 := fun V (hV : Grew wr V) => p1 V (hB.trans hV)
      have hcx := fun W (hW : Grew wr W) => hcell j hlt W (HAL.out.trans (hB.trans hW))
      have rx := Grew.refl wr
      have rxd := rx.drew
      have hA1 := Lib.hid (HA.out j hlt)
      have hS1 := Lib.hid (fun h => HJ.out.succ (k := j) h)
      have hi0 : (0 : Int) ≤ (j : Int) := by omega
      have hi6 : (j : Int) < (n : Int) := by omega
      have hbb : (((nt A j : Nat) : Int) != 0) = !decide (nt A j = 0) := by rw [Bool.eq_iff_iff]; simp
      clear hcell p0 p1
      cases ht : decide (nt A j = 0) with
      | true =>
        have hs := Lib.hid (hS1.out ht)
        rw [ht] at hbb
        clear ht
        generalize nt A j = m at *
        go_wp2_with fail
        go_quiet (fail)
        go_wp2_with fail
        go_roundw
        case rel => exact ⟨j + 1, by omega, by go_num, hB.drewN _, hs⟩
        case measure => simp [intOf]; omega
      | false =>
        have hv := Lib.hid (hA1.out ht)
        rw [ht] at hbb
        clear ht
        generalize nt A j = m at *
        go_wp2_with fail
        go_quiet (fail)
        go_wp2_with fail
        go_ret
        exact ⟨by rw [hv.out]; rfl, HAL.out.trans (hB.drewN _)⟩
    · obtain rfl : j = n := by omega
      have hv := Lib.hid (HZ.out HJ.out)
      go_wp2_with fail
      go_ret
      exact ⟨by rw [hv.out]; rfl, HAL.out.trans hB⟩
set_option maxHeartbeats 1000000 in
theorem l09Holds_11 (v : Value) (A : List Nat) (w : World) (h : Ints w v (zs A)) (hA : Rl A) :
    Calls Tryz.prog 51 #[.agg #[.int .i64 (A.length : Int), v], .string ⟨#[88]⟩] w fun e w' => e = .returned (.bool (axB A 11)) ∧ Grew w w' := by
  have hal := (Grew.refl w).alloc (.cells #[.int .i64 (A.length : Int), v] 26)
  show Calls _ _ _ _ fun e w' => e = .returned (.bool (triB A)) ∧ Grew w w'
  have hn30 := hA.1
  obtain ⟨R, hR⟩ : ∃ R, R = triB A := ⟨_, rfl⟩
  rw [← hR]
  unfold triB at hR
  have HA := Lib.hid (fun k hk h => hR.trans (@allB_no A.length (fun x => decide (dif (nt A x) (2 ^ x) = 0)) k hk h))
  have HZ := Lib.hid (fun h => hR.trans (@allB_of A.length (fun x => decide (dif (nt A x) (2 ^ x) = 0)) h))
  have HN := Lib.hid (fun i (hi : i < A.length) => andNot_i64 (nt A i) (2 ^ i) (by have := hA.sm.at_ hi; omega) (by have := pow30 (k := i) (by omega); omega))
  have HOne := Lib.hid (fun i (hi : i ≤ 30) W => l01One_q i hi W)
  obtain ⟨w1, hw1⟩ : ∃ w1, w1 = w.alloc (.cells #[.int .i64 (A.length : Int), v] 26) := ⟨_, rfl⟩
  rw [← hw1] at hal
  have hb0 : w1.heap[w.heap.size]? = some (.cells #[.int .i64 (A.length : Int), v] 26 (0, 0)) := by rw [hw1]; exact blk_new w _
  have p0 : ∀ W, Grew w1 W → W.cell? ⟨w.heap.size, 0, none⟩ = some (.int .i64 (A.length : Int)) := fun W hW => by rw [blk_cell ((hW.block (blk_lt hb0)).trans hb0)]; rfl
  have p1 : ∀ W, Grew w1 W → W.cell? ⟨w.heap.size, 1, none⟩ = some v := fun W hW => by rw [blk_cell ((hW.block (blk_lt hb0)).trans hb0)]; rfl
  have HAL := Lib.hid hal
  obtain ⟨A1, c1, rfl⟩ := ints_sliceN h
  have HC := Lib.hid (fun h0 => cellsN h h0)
  clear h hA hb0 hR
  generalize A.length = n at *
  go_enter Tryz.func51, Tryz.ntmps51
  go_wp2_with fail
  simp only [← hw1]
  clear hw1
  go_loopw [5] (fun i wr => ∃ j : Nat, j ≤ n ∧ i = .int .i64 j ∧ Grew w1 wr ∧ Hid (AllK (fun x => decide (dif (nt A x) (2 ^ x) = 0)) j)) (fun i _ => n - (intOf i).toNat)
  case atStart => exact ⟨0, Nat.zero_le _, rfl, Grew.refl _, AllK.zero _⟩
  case round =>
    obtain ⟨j, hj, rfl, hB, HJ⟩ := hrel
    have d0 := p0 _ hB
    by_cases hlt : j < n
    · obtain ⟨b, o, rfl, hcell⟩ := HC.out (by omega)
      have e0 := fun V (hV : Grew wr V) => p0 V (hB.trans hV)
      have e1 := fun V (hV : Grew wr V) => p1 V (hB.trans hV)
      have hcx := fun W (hW : Grew wr W) => hcell j hlt W (HAL.out.trans (hB.trans hW))
      have rx := Grew.refl wr
      have rxd := rx.drew
      have hA1 := Lib.hid (HA.out j hlt)
      have hS1 := Lib.hid (fun h => HJ.out.succ (k := j) h)
      have hi0 : (0 : Int) ≤ (j : Int) := by omega
      have hi6 : (j : Int) < (n : Int) := by omega
      have hnn := HN.out j hlt
      have hon := Lib.hid (HOne.out j (by omega))
      have hbb : (((dif (nt A j) (2 ^ j) : Nat) : Int) != 0) = !decide (dif (nt A j) (2 ^ j) = 0) := by rw [Bool.eq_iff_iff]; simp
      clear hcell p0 p1
      cases ht : decide (dif (nt A j) (2 ^ j) = 0) with
      | true =>
        have hs := Lib.hid (hS1.out ht)
        rw [ht] at hbb
        clear ht
        generalize dif (nt A j) (2 ^ j) = dm at *
        generalize (2 ^ j : Nat) = pj at *
        generalize nt A j = m at *
        go_wp2_with fail
        go_quiet (first | (go_at_call 65; exact Calls.quiet_of_same (hon.out _)))
        go_wp2_with fail
        go_roundw
        case rel => exact ⟨j + 1, by omega, by go_num, hB.drewN _, hs⟩
        case measure => simp [intOf]; omega
      | false =>
        have hv := Lib.hid (hA1.out ht)
        rw [ht] at hbb
        clear ht
        generalize dif (nt A j) (2 ^ j) = dm at *
        generalize (2 ^ j : Nat) = pj at *
        generalize nt A j = m at *
        go_wp2_with fail
        go_quiet (first | (go_at_call 65; exact Calls.quiet_of_same (hon.out _)))
        go_wp2_with fail
        go_ret
        exact ⟨by rw [hv.out]; rfl, HAL.out.trans (hB.drewN _)⟩
    · obtain rfl : j = n := by omega
      have hv := Lib.hid (HZ.out HJ.out)
      go_wp2_with fail
      go_ret
      exact ⟨by rw [hv.out]; rfl, HAL.out.trans hB⟩
set_option maxHeartbeats 1000000 in
theorem l09Holds_12 (v : Value) (A : List Nat) (w : World) (h : Ints w v (zs A)) (hA : Rl A) :
    Calls Tryz.prog 51 #[.agg #[.int .i64 (A.length : Int), v], .string ⟨#[90]⟩] w fun e w' => e = .returned (.bool (axB A 12)) ∧ Grew w w' := by
  have hal := (Grew.refl w).alloc (.cells #[.int .i64 (A.length : Int), v] 26)
  have K0 := Lib.hid (fun W (hW : Grew w W) => sFlag0_c v A W (h.grew hW) hA)
  have K2 := Lib.hid (fun W (hW : Grew w W) => sFlag2_c v A W (h.grew hW) hA)
  have K8 := Lib.hid (fun W (hW : Grew w W) => sFlag8_c v A W (h.grew hW) hA)
  obtain ⟨w1, hw1⟩ : ∃ w1, w1 = w.alloc (.cells #[.int .i64 (A.length : Int), v] 26) := ⟨_, rfl⟩
  rw [← hw1] at hal
  have hb0 : w1.heap[w.heap.size]? = some (.cells #[.int .i64 (A.length : Int), v] 26 (0, 0)) := by rw [hw1]; exact blk_new w _
  have p0 : ∀ W, Grew w1 W → W.cell? ⟨w.heap.size, 0, none⟩ = some (.int .i64 (A.length : Int)) := fun W hW => by rw [blk_cell ((hW.block (blk_lt hb0)).trans hb0)]; rfl
  have p1 : ∀ W, Grew w1 W → W.cell? ⟨w.heap.size, 1, none⟩ = some v := fun W hW => by rw [blk_cell ((hW.block (blk_lt hb0)).trans hb0)]; rfl
  have HAL := Lib.hid hal
  obtain ⟨A1, c1, rfl⟩ := ints_sliceN h
  show Calls _ _ _ _ fun e w' => e = .returned (.bool (reflB A && (transB A && (antiB A)))) ∧ Grew w w'
  have q0 := p0 _ (Grew.refl _)
  have q1 := p1 _ (Grew.refl _)
  clear h hA hb0 hal
  generalize reflB A = R0 at *
  generalize transB A = R1 at *
  generalize antiB A = R2 at *
  generalize A.length = n at *
  cases R0 with
  | false =>
    go_enter Tryz.func51, Tryz.ntmps51
    go_wp2_with fail
    simp only [← hw1]
    clear hw1
    refine (K0.out _ HAL.out).mono ?_
    rintro e w2 ⟨rfl, hg2⟩
    go_wp2_with fail
    go_ret
    exact ⟨rfl, HAL.out.trans hg2⟩
  | true =>
    cases R1 with
    | false =>
      go_enter Tryz.func51, Tryz.ntmps51
      go_wp2_with fail
      simp only [← hw1]
      clear hw1
      refine (K0.out _ HAL.out).mono ?_
      rintro e w2 ⟨rfl, hg2⟩
      have d0 := p0 _ hg2
      have d1 := p1 _ hg2
      go_wp2_with fail
      refine (K2.out _ (HAL.out.trans hg2)).mono ?_
      rintro e w3 ⟨rfl, hg3⟩
      go_wp2_with fail
      go_ret
      exact ⟨rfl, HAL.out.trans (hg2.trans hg3)⟩
    | true =>
      go_enter Tryz.func51, Tryz.ntmps51
      go_wp2_with fail
      simp only [← hw1]
      clear hw1
      refine (K0.out _ HAL.out).mono ?_
      rintro e w2 ⟨rfl, hg2⟩
      have d0 := p0 _ hg2
      have d1 := p1 _ hg2
      go_wp2_with fail
      refine (K2.out _ (HAL.out.trans hg2)).mono ?_
      rintro e w3 ⟨rfl, hg3⟩
      have hg23 := hg2.trans hg3
      have e0 := p0 _ hg23
      have e1 := p1 _ hg23
      go_wp2_with fail
      refine (K8.out _ (HAL.out.trans hg23)).mono ?_
      rintro e w4 ⟨rfl, hg4⟩
      go_wp2_with fail
      go_ret
      exact ⟨by cases R2 <;> rfl, HAL.out.trans (hg23.trans hg4)⟩
end Go.Proofs.YtpfncncohnhanaaGreatDoor


/- AxiomHolds of both. -/
namespace Go.Proofs.YtpfncncohnhanaaGreatDoor
open Go.RowKit

theorem findS_text {L : List ByteArray} {s : ByteArray} {k : Nat} (h : findS L s = (k : Int)) : s = st L k := by
  unfold findS at h
  cases hx : L.findIdx? (fun x => x.toList == s.toList) with
  | none => rw [hx] at h; simp only at h; omega
  | some i =>
    rw [hx] at h
    simp only at h
    obtain rfl : i = k := by omega
    rw [List.findIdx?_eq_some_iff_getElem] at hx
    obtain ⟨h1, h2, _⟩ := hx
    rw [st_get h1] at h2
    have h3 := eq_of_beq h2
    have h4 : (st L i).data.toList = s.data.toList := by
      rw [← Lib.toList_data, ← Lib.toList_data, h3]
    exact ByteArray.ext (Array.ext' h4.symm)
def GivesBC (w : World) (r : Bool × Int) (e : Ending) (w' : World) : Prop := e = .returned (.tuple #[.bool r.1, .int .i64 r.2]) ∧ Grew w w'
theorem axHoldsP_c (v : Value) (A : List Nat) (s : ByteArray) (k : Nat) (w : World) (h : Ints w v (zs A)) (hA : Rl A) (h8 : A.length ≤ 8) (hN : TabAt w 1 axNames) (hf : findS axNames s = (k : Int)) (hk : k < 13) :
    Calls Tryz.prog 48 #[.agg #[.int .i64 (A.length : Int), v], .string s] w fun e w' => e = .returned (.bool (axB A k)) ∧ Grew w w' := by
  have hs := findS_text hf
  have hk13 : k = 0 ∨ k = 1 ∨ k = 2 ∨ k = 3 ∨ k = 4 ∨ k = 5 ∨ k = 6 ∨ k = 7 ∨ k = 8 ∨ k = 9 ∨ k = 10 ∨ k = 11 ∨ k = 12 := by omega
  clear hk
  rcases hk13 with rfl | rfl | rfl | rfl | rfl | rfl | rfl | rfl | rfl | rfl | rfl | rfl | rfl
  · obtain rfl : s = ⟨#[52]⟩ := hs
    exact axiomHolds_0 v A w h hA h8 hN hf
  · obtain rfl : s = ⟨#[53]⟩ := hs
    exact axiomHolds_1 v A w h hA h8 hN hf
  · obtain rfl : s = ⟨#[66]⟩ := hs
    exact axiomHolds_2 v A w h hA h8 hN hf
  · obtain rfl : s = ⟨#[67]⟩ := hs
    exact axiomHolds_3 v A w h hA h8 hN hf
  · obtain rfl : s = ⟨#[68]⟩ := hs
    exact axiomHolds_4 v A w h hA h8 hN hf
  · obtain rfl : s = ⟨#[70]⟩ := hs
    exact axiomHolds_5 v A w h hA h8 hN hf
  · obtain rfl : s = ⟨#[71]⟩ := hs
    exact axiomHolds_6 v A w h hA h8 hN hf
  · obtain rfl : s = ⟨#[72]⟩ := hs
    exact axiomHolds_7 v A w h hA h8 hN hf
  · obtain rfl : s = ⟨#[76]⟩ := hs
    exact axiomHolds_8 v A w h hA h8 hN hf
  · obtain rfl : s = ⟨#[84]⟩ := hs
    exact axiomHolds_9 v A w h hA h8 hN hf
  · obtain rfl : s = ⟨#[86]⟩ := hs
    exact axiomHolds_10 v A w h hA h8 hN hf
  · obtain rfl : s = ⟨#[88]⟩ := hs
    exact axiomHolds_11 v A w h hA h8 hN hf
  · obtain rfl : s = ⟨#[90]⟩ := hs
    exact axiomHolds_12 v A w h hA h8 hN hf
theorem axHoldsS_c (v : Value) (A : List Nat) (s : ByteArray) (k : Nat) (w : World) (h : Ints w v (zs A)) (hA : Rl A) (hf : findS axNames s = (k : Int)) (hk : k < 13) :
    Calls Tryz.prog 51 #[.agg #[.int .i64 (A.length : Int), v], .string s] w fun e w' => e = .returned (.bool (axB A k)) ∧ Grew w w' := by
  have hs := findS_text hf
  have hk13 : k = 0 ∨ k = 1 ∨ k = 2 ∨ k = 3 ∨ k = 4 ∨ k = 5 ∨ k = 6 ∨ k = 7 ∨ k = 8 ∨ k = 9 ∨ k = 10 ∨ k = 11 ∨ k = 12 := by omega
  clear hk
  rcases hk13 with rfl | rfl | rfl | rfl | rfl | rfl | rfl | rfl | rfl | rfl | rfl | rfl | rfl
  · obtain rfl : s = ⟨#[52]⟩ := hs
    exact l09Holds_0 v A w h hA
  · obtain rfl : s = ⟨#[53]⟩ := hs
    exact l09Holds_1 v A w h hA
  · obtain rfl : s = ⟨#[66]⟩ := hs
    exact l09Holds_2 v A w h hA
  · obtain rfl : s = ⟨#[67]⟩ := hs
    exact l09Holds_3 v A w h hA
  · obtain rfl : s = ⟨#[68]⟩ := hs
    exact l09Holds_4 v A w h hA
  · obtain rfl : s = ⟨#[70]⟩ := hs
    exact l09Holds_5 v A w h hA
  · obtain rfl : s = ⟨#[71]⟩ := hs
    exact l09Holds_6 v A w h hA
  · obtain rfl : s = ⟨#[72]⟩ := hs
    exact l09Holds_7 v A w h hA
  · obtain rfl : s = ⟨#[76]⟩ := hs
    exact l09Holds_8 v A w h hA
  · obtain rfl : s = ⟨#[84]⟩ := hs
    exact l09Holds_9 v A w h hA
  · obtain rfl : s = ⟨#[86]⟩ := hs
    exact l09Holds_10 v A w h hA
  · obtain rfl : s = ⟨#[88]⟩ := hs
    exact l09Holds_11 v A w h hA
  · obtain rfl : s = ⟨#[90]⟩ := hs
    exact l09Holds_12 v A w h hA
end Go.Proofs.YtpfncncohnhanaaGreatDoor


/- Strings that are not larger than memory. -/
namespace Go.Proofs.YtpfncncohnhanaaGreatDoor
open Go.RowKit

end Go.Proofs.YtpfncncohnhanaaGreatDoor


/- A predicate on strings: IndexFunc, ContainsFunc. -/
namespace Go.Proofs.YtpfncncohnhanaaGreatDoor
open Go.RowKit

def NoneS (p : ByteArray → Bool) (L : List ByteArray) (k : Nat) : Prop := ∀ i, i < k → p (st L i) = false
theorem NoneS.zero (p : ByteArray → Bool) (L : List ByteArray) : NoneS p L 0 := fun i hi => absurd hi (by omega)
theorem NoneS.succ {p : ByteArray → Bool} {L : List ByteArray} {k : Nat} (h : NoneS p L k) (h1 : p (st L k) = false) : NoneS p L (k + 1) := by
  intro i hi
  rcases Nat.lt_or_ge i k with hk | hk
  · exact h i hk
  · obtain rfl : i = k := by omega
    exact h1
theorem noneS_any {p : ByteArray → Bool} {L : List ByteArray} (h : NoneS p L L.length) : L.any p = false := by
  rw [List.any_eq_false]
  intro x hx
  obtain ⟨i, hi, rfl⟩ := List.getElem_of_mem hx
  rw [st_get hi, h i hi]
  simp
theorem anyS_at {p : ByteArray → Bool} {L : List ByteArray} {k : Nat} (hk : k < L.length) (h : p (st L k) = true) : L.any p = true := by
  rw [List.any_eq_true]
  exact ⟨L[k], List.getElem_mem hk, by rw [st_get hk]; exact h⟩

end Go.Proofs.YtpfncncohnhanaaGreatDoor


/- slices.ContainsFunc at texts: predicates with captured values. -/
namespace Go.Proofs.YtpfncncohnhanaaGreatDoor
open Go.RowKit

/-! Predicates with captured values, which only make memory. -/
def PredK (w : World) (f : Nat) (caps : Array Value) (L : List ByteArray) (p : ByteArray → Bool) : Prop := ∀ s W, s ∈ L → Grew w W → Calls Tryz.prog f (#[.string s] ++ caps) W fun e W' => e = .returned (.bool (p s)) ∧ Grew W W'

theorem indexFuncK_c (v : Value) (L : List ByteArray) (f : Nat) (caps : Array Value) (p : ByteArray → Bool) (w : World) (h : Strs w v L) (hf : PredK w f caps L p) (eg : ∀ args w, (callFunc f args).run Tryz.prog w = .ok (.enter f args) w) :
    Calls Tryz.prog 123 #[v, .func (.func f) #[] caps] w fun e w' => ∃ r : Int, e = .returned (.int .i64 r) ∧ Grew w w' ∧ decide (0 ≤ r) = L.any p := by
  rcases h.open_ with ⟨rfl, rfl⟩ | ⟨b, o, c, rfl, hc, hm, hb, hcell⟩
  · rw [noneS_any (NoneS.zero _ _)]
    clear h hf
    go_enter Tryz.func123, Tryz.ntmps123
    go_wp2_with fail
    refine wp_loop_rounds 1 ?_; rw [rounds_succ]
    go_wp2_with fail
    go_ret
    exact ⟨_, rfl, Grew.refl _, rfl⟩
  obtain ⟨R, hR⟩ : ∃ R, R = L.any p := ⟨_, rfl⟩
  rw [← hR]
  have HA := Lib.hid (fun k hk h => hR.trans (@anyS_at p L k hk h))
  have HZ := Lib.hid (fun h => hR.trans (@noneS_any p L h))
  have HC := Lib.hid hcell
  have HF := Lib.hid hf
  have HM := Lib.hid (fun k (hk : k < L.length) => (by rw [← st_get hk]; exact List.getElem_mem hk : st L k ∈ L))
  clear hcell h hf hR
  unfold PredK at HF
  generalize hN : L.length = n at *
  clear hN
  go_enter Tryz.func123, Tryz.ntmps123
  go_wp2_with fail
  go_loopw [5, 8] (fun _ i wr => ∃ j : Nat, j ≤ n ∧ i = .int .i64 j ∧ Grew w wr ∧ Hid (NoneS p L j)) (fun _ i _ => n - (intOf i).toNat)
  case atStart => exact ⟨0, Nat.zero_le _, rfl, Grew.refl _, NoneS.zero _ _⟩
  case round =>
    obtain ⟨j, hj, rfl, hB, HJ⟩ := hrel
    by_cases hlt : j < n
    · have k1 := HC.out j hlt _ hB
      have hA := Lib.hid (HA.out j hlt)
      have hS := Lib.hid (fun h => HJ.out.succ (k := j) h)
      have hF := Lib.hid (HF.out _ _ (HM.out j hlt) hB)
      generalize st L j = x at *
      go_wp2_with fail
      go_at_fn f
      refine (hF.out).mono ?_
      rintro e w1 ⟨rfl, hg1⟩
      have hB1 := hB.trans hg1
      cases hp : p x with
      | true =>
        have hv := hA.out hp
        go_wp2_with fail
        go_ret
        exact ⟨_, rfl, hB1, by rw [hv]; simp⟩
      | false =>
        have hs := Lib.hid (hS.out hp)
        go_wp2_with fail
        go_roundw
        case rel => exact ⟨j + 1, by omega, by go_num, hB1, hs⟩
        case measure => simp [intOf]; omega
    · obtain rfl : j = n := by omega
      have hv := Lib.hid (HZ.out HJ.out)
      go_wp2_with fail
      go_ret
      exact ⟨_, rfl, hB, by rw [hv.out]; rfl⟩
theorem containsFuncK_c (v : Value) (L : List ByteArray) (f : Nat) (caps : Array Value) (p : ByteArray → Bool) (w : World) (h : Strs w v L) (hf : PredK w f caps L p) (eg : ∀ args w, (callFunc f args).run Tryz.prog w = .ok (.enter f args) w) :
    Calls Tryz.prog 79 #[v, .func (.func f) #[] caps] w fun e w' => e = .returned (.bool (L.any p)) ∧ Grew w w' := by
  have HI := Lib.hid (indexFuncK_c v L f caps p w h hf eg)
  obtain ⟨A, c, rfl⟩ := strs_slice h
  clear h hf eg
  generalize L.any p = R at *
  go_enter Tryz.func79, Tryz.ntmps79
  go_wp2_with fail
  refine HI.out.mono ?_
  rintro e w1 ⟨r, rfl, hg1, hr⟩
  go_wp2_with fail
  go_ret
  exact ⟨by rw [← hr]; rfl, hg1⟩
end Go.Proofs.YtpfncncohnhanaaGreatDoor


/- Rows of slices of nodes of the call's own: an append of one slice. -/
namespace Go.Proofs.YtpfncncohnhanaaGreatDoor
open Go.RowKit
open Fm (Nd)

theorem rd_lit (w : World) (u : Value) (t : TypeId) : Rd (w.alloc (.cells #[u] t)) 1 (.slice (some ⟨w.heap.size, 0, none⟩) 1 1) 1 [u] := by
  refine ⟨rfl, by omega, .inr ⟨w.heap.size, 0, 1, rfl, by omega, by omega, by simp, fun j x hx => ?_⟩⟩
  have hj : j = 0 := by
    have := (List.getElem?_eq_some_iff.1 hx).1
    simp at this
    omega
  subst hj
  simp at hx
  subst hx
  simp

end Go.Proofs.YtpfncncohnhanaaGreatDoor


/- A text appended to a row of strings of the call's own. -/
namespace Go.Proofs.YtpfncncohnhanaaGreatDoor
open Go.RowKit

theorem wpList_appStr {ops : Array Oper} {rest : List Oper} {o : Oper} {a : Act} {Q : Exit → Act → World → Prop} {w w0 : World} (s x : Operand) (hgd : o.guard = none)
    (ho : o.op = .call { callee := .builtin .append, args := #[s, x], argTypes := #[53, 53] })
    (v : Value) (L : List ByteArray) (hs : a.eval s = v) (hown : OwnS w w0.heap.size v L) (hg : Grew w0 w) (vx : Value) (k : ByteArray) (hx : a.eval x = vx) (hr : Rd w 1 vx 1 [.string k]) (hn : L.length ≤ 1048576)
    (h : ∀ v' w', OwnS w' w0.heap.size v' (L ++ [k]) → Grew w0 w' → w.grownBy w' v.ownBlock → wpList Tryz.prog ops Q rest (a.put o.dst v') w') : wpList Tryz.prog ops Q (o :: rest) a w := by
  obtain ⟨i0, hi0, hz0, hz1, hz2⟩ := info_parts Tryz.infoStr
  refine wpList_append_rd w hgd s x _ ho w0.heap.size 9 i0 _ 1 16 Tryz.underlying53 hi0 hz0 hz1 hz2 rfl (by omega) v L.length (scells L) hs hown vx 1 [.string k] hx hr (by simp [Value.oneCell']) (by unfold maxLen; omega) (by omega) hg.size ?_
  intro v' w' h1 h2 h3
  refine h v' w' ?_ (hg.grown h2 fun k hk => (hown.lt k hk).1) h2
  unfold OwnS
  rw [List.length_append, scells_append]
  exact h1

end Go.Proofs.YtpfncncohnhanaaGreatDoor


/- strings.Split of the library at a separator of one byte, laid at this program. -/
namespace Go.Proofs
open Go.Shelf
def Tryz.lays146_ren : Go.Shelf.Ren := ⟨fun | 146 => 164 | 221 => 180 | 268 => 208 | 138 => 209 | 143 => 210 | 195 => 220 | 197 => 221 | 218 => 222 | 219 => 223 | 260 => 231 | 217 => 232 | 225 => 233 | 224 => 234 | 267 => 235 | 266 => 239 | 314 => 240 | n => n, fun | 9 => 9 | 31 => 53 | 3 => 3 | 4 => 4 | 0 => 0 | 105 => 192 | 21 => 21 | 5 => 5 | 46 => 116 | 119 => 201 | 139 => 204 | 138 => 203 | 146 => 205 | 51 => 181 | n => n, fun | 1 => 3 | 3 => 4 | 4 => 5 | n => n⟩
theorem Tryz.lays146 : Go.Proofs.Lays.n146 Tryz.prog Tryz.lays146_ren := {
  mixed := by kernel_rfl
  f138 := Tryz.func209.trans (congrArg some (by kernel_rfl))
  f143 := Tryz.func210.trans (congrArg some (by kernel_rfl))
  f146 := Tryz.func164.trans (congrArg some (by kernel_rfl))
  f195 := Tryz.func220.trans (congrArg some (by kernel_rfl))
  f197 := Tryz.func221.trans (congrArg some (by kernel_rfl))
  f217 := Tryz.func232.trans (congrArg some (by kernel_rfl))
  f218 := Tryz.func222.trans (congrArg some (by kernel_rfl))
  f219 := Tryz.func223.trans (congrArg some (by kernel_rfl))
  f221 := Tryz.func180.trans (congrArg some (by kernel_rfl))
  f224 := Tryz.func234.trans (congrArg some (by kernel_rfl))
  f225 := Tryz.func233.trans (congrArg some (by kernel_rfl))
  f260 := Tryz.func231.trans (congrArg some (by kernel_rfl))
  f266 := Tryz.func239.trans (congrArg some (by kernel_rfl))
  f267 := Tryz.func235.trans (congrArg some (by kernel_rfl))
  f268 := Tryz.func208.trans (congrArg some (by kernel_rfl))
  f314 := Tryz.func240.trans (congrArg some (by kernel_rfl))
  t0 := Tryz.underlying0
  a0 := Tryz.isAgg0
  z0 := Tryz.sizeOf0
  v0 := Tryz.zeroValue0
  t3 := Tryz.underlying3
  a3 := Tryz.isAgg3
  z3 := Tryz.sizeOf3
  v3 := Tryz.zeroValue3
  t4 := Tryz.underlying4
  a4 := Tryz.isAgg4
  z4 := Tryz.sizeOf4
  v4 := Tryz.zeroValue4
  t5 := Tryz.underlying5
  a5 := Tryz.isAgg5
  z5 := Tryz.sizeOf5
  v5 := Tryz.zeroValue5
  t9 := Tryz.underlying9
  a9 := Tryz.isAgg9
  z9 := Tryz.sizeOf9
  v9 := Tryz.zeroValue9
  t21 := Tryz.underlying21
  a21 := Tryz.isAgg21
  z21 := Tryz.sizeOf21
  v21 := Tryz.zeroValue21
  t31 := Tryz.underlying53
  a31 := Tryz.isAgg53
  z31 := Tryz.sizeOf53
  v31 := Tryz.zeroValue53
  t46 := Tryz.underlying116
  a46 := Tryz.isAgg116
  z46 := Tryz.sizeOf116
  v46 := Tryz.zeroValue116
  t51 := Tryz.underlying181
  a51 := Tryz.isAgg181
  z51 := Tryz.sizeOf181
  v51 := Tryz.zeroValue181
  t105 := Tryz.underlying192
  a105 := Tryz.isAgg192
  z105 := Tryz.sizeOf192
  v105 := Tryz.zeroValue192
  t119 := Tryz.underlying201
  a119 := Tryz.isAgg201
  z119 := Tryz.sizeOf201
  t138 := Tryz.underlying203
  a138 := Tryz.isAgg203
  z138 := Tryz.sizeOf203
  v138 := Tryz.zeroValue203
  t139 := Tryz.underlying204
  a139 := Tryz.isAgg204
  z139 := Tryz.sizeOf204
  v139 := Tryz.zeroValue204
  t146 := Tryz.underlying205
  a146 := Tryz.isAgg205
  z146 := Tryz.sizeOf205
  v146 := Tryz.zeroValue205
  g1 := by kernel_rfl
  g3 := by kernel_rfl
  g4 := by kernel_rfl }
open Go.RowKit in
theorem Tryz.count_one (s : ByteArray) (c : UInt8) (w : World) :
    Calls Tryz.prog 209 #[.string s, .string ⟨#[c]⟩] w fun e w' => e = .returned (.int .i64 (Lib.countB s ⟨#[c]⟩)) ∧ w' = w := by
  refine (Any.strings_Count_one { Tryz.lays146 with } s c w).mono fun e w' ⟨he, hw⟩ => ⟨?_, hw⟩
  rw [he]
  show _ = Ending.returned (Value.int .i64 ((Lib.count s.data.toList [c] : Nat) : Int))
  rw [Lib.count_one]
  rfl
open Go.RowKit in
theorem Tryz.index_one (s : ByteArray) (c : UInt8) (w : World) :
    Calls Tryz.prog 210 #[.string s, .string ⟨#[c]⟩] w fun e w' => e = .returned (.int .i64 (Lib.indexB s ⟨#[c]⟩)) ∧ w' = w := by
  refine (Any.strings_Index_one { Tryz.lays146 with } s c w).mono fun e w' ⟨he, hw⟩ => ⟨?_, hw⟩
  rw [he]
  show _ = Ending.returned (Value.int .i64 (Lib.index s.data.toList [c]))
  rw [Lib.index_one]
open Go.RowKit Go.Lib in
theorem Tryz.split_one (s : ByteArray) (c : UInt8) (w : World) (hs : s.size < 4294967281) :
    Calls Tryz.prog 164 #[.string s, .string ⟨#[c]⟩] w fun e w' =>
      e = .returned (.slice (some ⟨w.heap.size, 0, none⟩) (Lib.countB s ⟨#[c]⟩ + 1) (Lib.countB s ⟨#[c]⟩ + 1)) ∧ w' = w.alloc (.cells ((Lib.splitB ⟨#[c]⟩ 0 (Lib.countB s ⟨#[c]⟩) s).map Value.string).toArray 9) := by
  have h1 : 1 ≤ (⟨#[c]⟩ : ByteArray).size := Nat.le_refl _
  have hle := Lib.countB_le (⟨#[c]⟩ : ByteArray) h1 s.size s (Nat.le_refl _)
  have hlen := Lib.splitB_all (⟨#[c]⟩ : ByteArray) h1 0 _ s rfl
  have cc := Any.strings_genSplit_core (P := Tryz.prog) (ρ := Tryz.lays146_ren) { Tryz.lays146 with } (by kernel_rfl) s ⟨#[c]⟩ 0 (-1) (Lib.countB s ⟨#[c]⟩ + 1) w hs h1 (Nat.zero_le _)
    (fun x d _ => Tryz.index_one x c _) (Tryz.count_one s c w) (by decide) (by decide) (by rw [if_pos (by decide)]; omega)
  rw [Nat.add_sub_cancel, hlen] at cc
  have e2 : Lib.cellsOf (Lib.splitB ⟨#[c]⟩ 0 (Lib.countB s ⟨#[c]⟩) s) (Lib.countB s ⟨#[c]⟩ + 1) = ((Lib.splitB ⟨#[c]⟩ 0 (Lib.countB s ⟨#[c]⟩) s).map Value.string).toArray := by rw [← hlen]; exact Lib.cellsOf_full _
  rw [e2] at cc
  have HC := Lib.hid cc
  clear cc e2 hlen hle h1
  generalize Lib.countB s ⟨#[c]⟩ = n at *
  generalize Lib.splitB ⟨#[c]⟩ 0 n s = L at *
  go_enter Tryz.func164, Tryz.ntmps164
  go_wp2_with fail
  refine (HC.out).mono ?_
  rintro e w' ⟨rfl, rfl⟩
  go_wp2_with fail
  go_ret
  exact ⟨rfl, rfl⟩
end Go.Proofs


/- The program's logics: logicRow, logicNames, isLogic, axiomsOf, isFrameOf. -/
namespace Go.Proofs.YtpfncncohnhanaaGreatDoor
open Go.RowKit

def lgTab : List ByteArray := [⟨#[68, 32, 68]⟩, ⟨#[68, 52, 32, 52, 32, 68]⟩, ⟨#[71, 76, 32, 76]⟩, ⟨#[71, 114, 122, 32, 90]⟩, ⟨#[75]⟩, ⟨#[75, 52, 32, 52]⟩, ⟨#[75, 52, 53, 32, 52, 32, 53]⟩, ⟨#[75, 66, 32, 66]⟩, ⟨#[75, 68, 52, 53, 32, 52, 32, 53, 32, 68]⟩, ⟨#[83, 52, 32, 52, 32, 84]⟩, ⟨#[83, 52, 50, 32, 52, 32, 71, 32, 84]⟩, ⟨#[83, 52, 51, 32, 52, 32, 72, 32, 84]⟩, ⟨#[83, 53, 32, 53, 32, 84]⟩, ⟨#[84, 32, 84]⟩, ⟨#[84, 114, 105, 118, 32, 84, 32, 88]⟩, ⟨#[86, 101, 114, 32, 86]⟩]
def lgRow (k : Nat) : List ByteArray := st lgNames k :: (lgAx k).map (st axNames)
theorem lg_all : ((List.range 16).all fun k => decide (Lib.splitB ⟨#[32]⟩ 0 (Lib.countB (st lgTab k) ⟨#[32]⟩) (st lgTab k) = lgRow k) && decide ((st lgTab k).size < 100)) = true := by kernel_rfl
theorem lg_split {k : Nat} (hk : k < 16) : Lib.splitB ⟨#[32]⟩ 0 (Lib.countB (st lgTab k) ⟨#[32]⟩) (st lgTab k) = lgRow k ∧ (st lgTab k).size < 100 := by
  have h := List.all_eq_true.1 lg_all k (List.mem_range.2 hk)
  rw [Bool.and_eq_true, decide_eq_true_eq, decide_eq_true_eq] at h
  exact h
theorem lgRow_len (k : Nat) : (lgRow k).length = (lgAx k).length + 1 := by simp [lgRow]
theorem lgAx_len_all : ((List.range 16).all fun k => decide ((lgAx k).length ≤ 3)) = true := by kernel_rfl
theorem lgAx_len {k : Nat} (hk : k < 16) : (lgAx k).length ≤ 3 := of_decide_eq_true (List.all_eq_true.1 lgAx_len_all k (List.mem_range.2 hk))
def GivesRow (w : World) (L : List ByteArray) (e : Ending) (w' : World) : Prop := ∃ g, e = .returned (.slice (some ⟨g, 0, none⟩) L.length L.length) ∧ OwnS w' w.heap.size (.slice (some ⟨g, 0, none⟩) L.length L.length) L ∧ Grew w w'
theorem logicRow_c (k : Nat) (hk : k < 16) (w : World) (hT : TabAt w 2 lgTab) :
    Calls Tryz.prog 121 #[.int .i64 (k : Int)] w (GivesRow w (lgRow k)) := by
  unfold GivesRow
  have k1 : ∀ W, Grew w W → W.cell? ⟨2, k, none⟩ = some (.string (st lgTab k)) := fun W hW => (hT.grew hW).cell hk
  obtain ⟨h1, h2⟩ := lg_split hk
  have hn : Lib.countB (st lgTab k) ⟨#[32]⟩ + 1 = (lgRow k).length := by rw [← h1]; exact (Lib.splitB_all (⟨#[32]⟩ : ByteArray) (Nat.le_refl _) 0 _ (st lgTab k) rfl).symm
  have HS := Lib.hid (fun W => Tryz.split_one (st lgTab k) 32 W (by omega))
  rw [h1, hn] at HS
  have HO := Lib.hid (fun W (hW : Grew w W) => OwnS.lit W w.heap.size (lgRow k) ((lgRow k).map Value.string).toArray hW.size (by rw [lgRow_len]; have := lgAx_len hk; omega) (by simp [scells]))
  clear h1 h2 hn
  generalize lgRow k = L at *
  generalize st lgTab k = s at *
  generalize L.length = n at *
  have r0 := Grew.refl w
  go_enter Tryz.func121, Tryz.ntmps121
  go_wp2_with fail
  refine (HS.out _).mono ?_
  rintro e w1 ⟨rfl, rfl⟩
  go_wp2_with fail
  go_ret
  exact ⟨_, rfl, HO.out _ (Grew.refl _), (Grew.refl _).alloc _⟩
theorem take_st {L : List ByteArray} {i : Nat} (h : i < L.length) : L.take (i + 1) = L.take i ++ [st L i] := by
  rw [take_next (st L i) h]
  congr 2
  rw [← st_get h]
  simp [List.getD, h]
set_option maxHeartbeats 1000000 in
theorem logicNames_c (w : World) (hT : TabAt w 2 lgTab) :
    Calls Tryz.prog 75 #[] w (GivesS w lgNames) := by
  unfold GivesS
  have HR := Lib.hid (fun k (hk : k < 16) W (hW : Grew w W) => logicRow_c k hk W (hT.grew hW))
  have HTK := Lib.hid (fun i (hi : i < 16) => @take_st lgNames i hi)
  have HLL := Lib.hid (fun i => (by rw [List.length_take]; omega : (lgNames.take i).length ≤ i))
  have HEND : Hid (lgNames.take 16 = lgNames) := Lib.hid rfl
  have HZ : Hid (lgNames.take 0 = []) := Lib.hid rfl
  have HHD : Hid (∀ k, st (lgRow k) 0 = st lgNames k) := Lib.hid fun k => rfl
  have HRL := Lib.hid (fun k => lgRow_len k)
  clear hT
  generalize lgNames = N at *
  go_enter Tryz.func75, Tryz.ntmps75
  go_wp2_with fail
  go_loopw [1, 3] (fun s i wr => ∃ j : Nat, j ≤ 16 ∧ i = .int .i64 (j : Int) ∧ Grew w wr ∧ Hid (OwnS wr w.heap.size s (N.take j))) (fun _ i _ => 16 - (intOf i).toNat)
  case atStart => exact ⟨0, by omega, rfl, Grew.refl _, Lib.hid (by rw [HZ.out]; exact OwnS.nil_ _ _)⟩
  case round =>
    obtain ⟨j, hj, rfl, hB, hO⟩ := hrel
    by_cases hlt : j < 16
    · have hr := Lib.hid (HR.out j hlt wr hB)
      have htk := Lib.hid (HTK.out j hlt)
      have hll : (N.take j).length ≤ 1048576 := by have := HLL.out j; omega
      have hhd := HHD.out j
      have hrl := HRL.out j
      have hrl0 : ¬ (lgRow j).length = 0 := by omega
      have hrl1 : 0 < (lgRow j).length := by omega
      have hrl2 : (0 : Int) < ((lgRow j).length : Int) := by omega
      clear hrl
      generalize lgRow j = R at *
      go_wp2_with fail
      refine hr.out.mono ?_
      rintro e w1 ⟨g, rfl, hO1, hg1⟩
      have k1 : w1.cell? ⟨g, 0, none⟩ = some (.string (st N j)) := by
        rcases hO1.strs.open_ with ⟨h, _⟩ | ⟨b, o, c, h, h2, h3, h4, h5⟩
        · cases h
        · injection h with h _ _
          injection h with h
          injection h with h6 h7
          subst h6
          have := h5 0 hrl1 w1 (Grew.refl _)
          rw [← h7, hhd] at this
          exact this
      have hO2 := hO.out.grew hg1
      have hB1 := hB.trans hg1
      clear hhd
      go_wp2_with (at_builtin; refine wpList_appStr (w0 := w) _ _ rfl rfl _ (N.take j) rfl (hO2.grew ((Grew.refl _).alloc _)) (hB1.alloc _) _ (st N j) rfl (rd_lit _ _ _) hll ?_; intro v8 w8 hown8 hg8 _)
      go_roundw
      case rel => exact ⟨j + 1, by omega, by go_num, hg8, Lib.hid (by rw [htk.out]; exact hown8)⟩
      case measure => simp [intOf]; omega
    · obtain rfl : j = 16 := by omega
      have HO := Lib.hid hO.out
      go_wp2_with fail
      go_ret
      exact ⟨_, rfl, by have := HO.out; rwa [HEND.out] at this, hB⟩
theorem indexSx_c (v : Value) (L : List ByteArray) (s : ByteArray) (w : World) (h : Strs w v L) (hn : L.length ≤ 1099511627776) :
    Calls Tryz.prog 120 #[v, .string s] w fun e w' => e = .returned (.int .i64 (findS L s)) ∧ Grew w w' := by
  rcases h.open_ with ⟨rfl, rfl⟩ | ⟨b, o, c, rfl, hc, hm, hb, hf⟩
  · have hE : findS [] s = -1 := rfl
    rw [hE]
    go_enter Tryz.func120, Tryz.ntmps120
    go_wp2_with fail
    refine wp_loop_rounds 1 ?_; rw [rounds_succ]
    go_wp2_with fail
    go_ret
    exact ⟨rfl, Grew.refl _⟩
  · clear h
    obtain ⟨R, hR⟩ : ∃ R, R = findS L s := ⟨_, rfl⟩
    rw [← hR]
    have HA := Lib.hid (fun k hk h1 h2 => hR.trans (@findS_at L s k hk h1 h2))
    have HZ := Lib.hid (fun h => hR.trans (@findS_none L s h))
    have HF := Lib.hid hf
    clear hR hf
    generalize hN : L.length = n at *
    clear hN
    go_enter Tryz.func120, Tryz.ntmps120
    go_wp2_with fail
    go_loopw [8] (fun i wr => ∃ j : Nat, j ≤ n ∧ i = .int .i64 j ∧ Grew w wr ∧ Hid (NotIn L s j)) (fun i _ => n - (intOf i).toNat)
    case atStart => exact ⟨0, Nat.zero_le _, rfl, Grew.refl _, NotIn.zero _ _⟩
    case round =>
      obtain ⟨j, hj, rfl, hB, HJ⟩ := hrel
      by_cases hlt : j < n
      · have k1 : ∀ W, Grew w W → W.cell? ⟨b, o + j, none⟩ = some (.string (st L j)) := fun W hW => HF.out j hlt W hW
        have k2 := k1 _ hB
        clear k1
        cases he : ((st L j).toList == s.toList) with
        | true =>
          have hv := Lib.hid (HA.out j hlt HJ.out he)
          have he2 : (s.toList == (st L j).toList) = true := by rw [beq_iff_eq] at he ⊢; exact he.symm
          generalize st L j = x at *
          go_wp2_with fail
          go_ret
          rw [hv.out]
          exact ⟨rfl, hB⟩
        | false =>
          have HS := Lib.hid (HJ.out.succ he)
          have he2 : (s.toList == (st L j).toList) = false := by rw [beq_eq_false_iff_ne] at he ⊢; exact fun h => he h.symm
          generalize st L j = x at *
          go_wp2_with fail
          go_roundw
          case rel => exact ⟨j + 1, by omega, by go_num, hB, HS⟩
          case measure => simp [intOf]; omega
      · have hjn : j = n := by omega
        subst hjn
        have hv := Lib.hid (HZ.out HJ.out)
        go_wp2_with fail
        go_ret
        rw [hv.out]
        exact ⟨rfl, hB⟩
theorem containsSx_c (v : Value) (L : List ByteArray) (s : ByteArray) (w : World) (h : Strs w v L) (hn : L.length ≤ 1099511627776) :
    Calls Tryz.prog 74 #[v, .string s] w fun e w' => e = .returned (.bool (decide (0 ≤ findS L s))) ∧ Grew w w' := by
  have HI := Lib.hid (indexSx_c v L s w h hn)
  obtain ⟨A, c, rfl⟩ := strs_slice h
  clear h
  generalize findS L s = R at *
  go_enter Tryz.func74, Tryz.ntmps74
  go_wp2_with fail
  refine HI.out.mono ?_
  rintro e w1 ⟨rfl, hg1⟩
  go_wp2_with fail
  go_ret
  exact ⟨rfl, hg1⟩
theorem isLogic_lg (s : ByteArray) (w : World) (hT : TabAt w 2 lgTab) :
    Calls Tryz.prog 34 #[.string s] w fun e w' => e = .returned (.bool (decide (0 ≤ findS lgNames s))) ∧ Grew w w' := by
  have HN := Lib.hid (logicNames_c w hT)
  have HC := Lib.hid (fun W v (h : Strs W v lgNames) => containsSx_c v lgNames s W h (by rw [lgNames_len]; omega))
  clear hT
  generalize decide (0 ≤ findS lgNames s) = R at *
  generalize lgNames = N at *
  go_enter Tryz.func34, Tryz.ntmps34
  go_wp2_with fail
  refine HN.out.mono ?_
  rintro e w1 ⟨v1, rfl, hO1, hg1⟩
  have HC1 := Lib.hid (HC.out _ _ hO1.strs)
  obtain ⟨A1, c1, rfl⟩ := strs_slice hO1.strs
  clear hO1
  go_wp2_with fail
  refine HC1.out.mono ?_
  rintro e w2 ⟨rfl, hg2⟩
  go_wp2_with fail
  go_ret
  exact ⟨rfl, hg1.trans hg2⟩

theorem strs_tail1 {w : World} {b n : Nat} {L : List ByteArray} (h : Strs w (.slice (some ⟨b, 0, none⟩) (n + 1) (n + 1)) L) (hl : L.length = n + 1) : Strs w (.slice (some ⟨b, 1, none⟩) n n) (L.drop 1) ∧ (n = 0 → Strs w (.slice (some ⟨b, 0, none⟩) 0 0) (L.drop 1)) := by
  rcases h.open_ with ⟨h, _⟩ | ⟨b', o, c, h, h2, h3, h4, h5⟩
  · cases h
  · injection h with h h6 h7
    injection h with h
    injection h with h8 h9
    subst h8 h9 h7
    have hd : (L.drop 1).length = n := by rw [List.length_drop]; omega
    constructor
    · refine ⟨by rw [scells_length, hd], by omega, .inr ⟨b, 1, n, by rw [hd], by omega, by omega, h4, fun j u hu => ?_⟩⟩
      have hj : j < n := by
        have := (List.getElem?_eq_some_iff.1 hu).1
        rw [scells_length, hd] at this
        omega
      have h10 := h5 (j + 1) (by omega) w (Grew.refl _)
      have h11 := scells_at (L := L.drop 1) (i := j) (by omega)
      rw [h11] at hu
      have e : st (L.drop 1) j = st L (j + 1) := by rw [← st_get (by omega), ← st_get (by omega)]; simp
      rw [← Option.some.inj hu, e]
      rw [show (1 : Nat) + j = 0 + (j + 1) by omega]
      exact h10
    · intro h0
      subst h0
      have he : L.drop 1 = [] := List.eq_nil_of_length_eq_zero hd
      rw [he]
      exact ⟨rfl, by simp, .inr ⟨b, 0, 0, rfl, Nat.le_refl _, by omega, h4, fun j u hu => by simp [scells] at hu⟩⟩
def GivesAx (w : World) (L : List ByteArray) (e : Ending) (w' : World) : Prop := ∃ v, e = .returned (.tuple #[v, .bool true]) ∧ Strs w' v L ∧ Grew w w'
set_option maxHeartbeats 1000000 in
theorem axiomsOf_c (s : ByteArray) (k : Nat) (w : World) (hT : TabAt w 2 lgTab) (hk : k < 16) (hf : findS lgNames s = (k : Int)) :
    Calls Tryz.prog 78 #[.string s] w (GivesAx w ((lgAx k).map (st axNames))) := by
  unfold GivesAx
  have HN := Lib.hid (logicNames_c w hT)
  have HC := Lib.hid (fun W v (h : Strs W v lgNames) => indexSx_c v lgNames s W h (by rw [lgNames_len]; omega))
  have HR := Lib.hid (fun W (hW : Grew w W) => logicRow_c k hk W (hT.grew hW))
  rw [hf] at HC
  have HD : Hid ((lgRow k).drop 1 = (lgAx k).map (st axNames)) := Lib.hid rfl
  obtain ⟨n, hn⟩ : ∃ n, n = (lgAx k).length := ⟨_, rfl⟩
  have hrl := lgRow_len k
  rw [← hn] at hrl
  have HRL := Lib.hid hrl
  clear hT hf hn hrl
  generalize (lgAx k).map (st axNames) = K at *
  generalize lgRow k = R at *
  generalize lgNames = N at *
  go_enter Tryz.func78, Tryz.ntmps78
  go_wp2_with fail
  refine HN.out.mono ?_
  rintro e w1 ⟨v1, rfl, hO1, hg1⟩
  have HC1 := Lib.hid (HC.out _ _ hO1.strs)
  obtain ⟨A1, c1, rfl⟩ := strs_slice hO1.strs
  clear hO1
  go_wp2_with fail
  refine HC1.out.mono ?_
  rintro e w2 ⟨rfl, hg2⟩
  have hk0 : ¬ (k : Int) < 0 := by omega
  have hr := Lib.hid (HR.out _ (hg1.trans hg2))
  go_wp2_with fail
  refine hr.out.mono ?_
  rintro e w3 ⟨g, rfl, hO3, hg3⟩
  have hS := hO3.strs
  have hl3 := HRL.out
  rw [hl3] at hS ⊢
  obtain ⟨hT1, hT2⟩ := strs_tail1 hS hl3
  rw [HD.out] at hT1 hT2
  have HT1 := Lib.hid hT1
  have HT2 := Lib.hid hT2
  clear hT1 hT2 hS hO3 hl3
  by_cases hn0 : n = 0
  · have HT3 := Lib.hid (HT2.out hn0)
    subst hn0
    go_wp2_with fail
    go_ret2
    exact ⟨_, rfl, HT3.out, (hg1.trans hg2).trans hg3⟩
  · have hn1 : ¬ n + 1 = 1 := by omega
    have hn2 : (1 : Int) ≤ (n : Int) + 1 := by omega
    go_wp2_with fail
    go_ret2
    exact ⟨_, rfl, by have := HT1.out; simpa using this, (hg1.trans hg2).trans hg3⟩
end Go.Proofs.YtpfncncohnhanaaGreatDoor


/- The program's isFrameOf: is a frame one of a logic? -/
namespace Go.Proofs.YtpfncncohnhanaaGreatDoor
open Go.RowKit

theorem findS_ax_all : ((List.range 13).all fun i => decide (findS axNames (st axNames i) = (i : Int))) = true := by kernel_rfl
theorem findS_ax {i : Nat} (hi : i < 13) : findS axNames (st axNames i) = (i : Int) := of_decide_eq_true (List.all_eq_true.1 findS_ax_all i (List.mem_range.2 hi))
theorem isFrameOf1_ok (v : Value) (A : List Nat) (bf k : Nat) (w : World) (h : Ints w v (zs A)) (hA : Rl A) (h8 : A.length ≤ 8) (hN : TabAt w 1 axNames)
    (k0 : ∀ W, Grew w W → W.cell? ⟨bf, 0, none⟩ = some (.int .i64 (A.length : Int))) (k1 : ∀ W, Grew w W → W.cell? ⟨bf, 1, none⟩ = some v) :
    PredK w 80 #[.pointer (some ⟨bf, 0, none⟩)] ((lgAx k).map (st axNames)) (fun s => !axB A (findS axNames s).toNat) := by
  intro s W hs hW
  obtain ⟨i, hi, rfl⟩ := List.mem_map.1 hs
  have hi13 := lgAx_lt i hi
  have HX := Lib.hid (axHoldsP_c v A (st axNames i) i W (h.grew hW) hA h8 (hN.grew hW) (findS_ax hi13) hi13)
  have e : (!axB A (findS axNames (st axNames i)).toNat) = !axB A i := by rw [findS_ax hi13]; rfl
  show Calls Tryz.prog 80 #[.string (st axNames i), .pointer (some ⟨bf, 0, none⟩)] W fun e W' => e = .returned (.bool (!axB A (findS axNames (st axNames i)).toNat)) ∧ Grew W W'
  rw [e]
  have q0 := k0 W hW
  have q1 := k1 W hW
  obtain ⟨A1, c1, rfl⟩ := ints_sliceN h
  clear e hs hi hN h hA k0 k1
  generalize st axNames i = s at *
  generalize axB A i = R at *
  generalize A.length = n at *
  go_enter Tryz.func80, Tryz.ntmps80
  go_wp2_with fail
  refine (HX.out).mono ?_
  rintro e w1 ⟨rfl, hg1⟩
  go_wp2_with fail
  go_ret
  exact ⟨rfl, hg1⟩
theorem lgB_any {k : Nat} {A : List Nat} : (!((lgAx k).map (st axNames)).any (fun s => !axB A (findS axNames s).toNat)) = lgB k A := by
  unfold lgB
  have hl := @lgAx_lt k
  generalize lgAx k = L at *
  induction L with
  | nil => rfl
  | cons i L ih =>
    have h1 := hl i (List.mem_cons_self ..)
    have h2 := ih fun j hj => hl j (List.mem_cons_of_mem _ hj)
    rw [List.map_cons, List.any_cons, List.all_cons, ← h2, findS_ax h1]
    simp
theorem isFrameOf_c (v : Value) (A : List Nat) (s : ByteArray) (k : Nat) (w : World) (h : Ints w v (zs A)) (hA : Rl A) (h8 : A.length ≤ 8) (hN : TabAt w 1 axNames) (hT : TabAt w 2 lgTab) (hk : k < 16) (hf : findS lgNames s = (k : Int)) :
    Calls Tryz.prog 37 #[.agg #[.int .i64 (A.length : Int), v], .string s] w fun e w' => e = .returned (.bool (lgB k A)) ∧ Grew w w' := by
  have hal := (Grew.refl w).alloc (.cells #[.int .i64 (A.length : Int), v] 26)
  have y0 : ∀ W, Grew (w.alloc (.cells #[.int .i64 (A.length : Int), v] 26)) W → W.cell? ⟨w.heap.size, 0, none⟩ = some (.int .i64 (A.length : Int)) := fun W hW => (hW.cell (p := ⟨w.heap.size, 0, none⟩) (by simp)).trans (by simp)
  have y1 : ∀ W, Grew (w.alloc (.cells #[.int .i64 (A.length : Int), v] 26)) W → W.cell? ⟨w.heap.size, 1, none⟩ = some v := fun W hW => (hW.cell (p := ⟨w.heap.size, 1, none⟩) (by simp)).trans (by simp)
  have HAX := Lib.hid (fun W (hW : Grew w W) => axiomsOf_c s k W (hT.grew hW) hk hf)
  have eg := enters_of Tryz.func80 (by kernel_rfl) rfl
  have HCF := Lib.hid (fun W u (hW : Grew (w.alloc (.cells #[.int .i64 (A.length : Int), v] 26)) W) (hu : Strs W u ((lgAx k).map (st axNames))) => containsFuncK_c u _ _ _ _ W hu (isFrameOf1_ok v A w.heap.size k W (h.grew (hal.trans hW)) hA h8 (hN.grew (hal.trans hW)) (fun V hV => y0 V (hW.trans hV)) (fun V hV => y1 V (hW.trans hV))) eg)
  have hR := @lgB_any k A
  have HG := Lib.hid hal
  obtain ⟨A1, c1, rfl⟩ := ints_sliceN h
  clear h hA hN hT y0 y1 hal hf
  generalize ((lgAx k).map (st axNames)).any (fun s => !axB A (findS axNames s).toNat) = R0 at *
  rw [← hR]
  clear hR
  generalize (lgAx k).map (st axNames) = K at *
  generalize A.length = n at *
  go_enter Tryz.func37, Tryz.ntmps37
  go_wp2_with fail
  refine (HAX.out _ HG.out).mono ?_
  rintro e w1 ⟨u, rfl, hS1, hg1⟩
  have HC1 := Lib.hid (HCF.out w1 u hg1 hS1)
  obtain ⟨A2, c2, rfl⟩ := strs_slice hS1
  clear hS1
  go_wp2_with fail
  refine (HC1.out).mono ?_
  rintro e w2 ⟨rfl, hg2⟩
  go_wp2_with fail
  go_ret
  exact ⟨rfl, (HG.out.trans hg1).trans hg2⟩
end Go.Proofs.YtpfncncohnhanaaGreatDoor


/- truthSet of the program: a stack of sets of worlds. -/
namespace Go.Proofs.YtpfncncohnhanaaGreatDoor
open Go.RowKit
open Fm (Nd Tree)

theorem frameAll_c (n : Nat) (v : Value) (w : World) (hv : ∃ A m c, v = .slice A m c) (hn : n ≤ 30) :
    Calls Tryz.prog 83 #[.agg #[.int .i64 (n : Int), v]] w fun e w' => e = .returned (.int .i64 ((full n : Nat) : Int)) ∧ Grew w w' := by
  have h1 := wrap_pow hn
  have h2 := pow30' hn
  have h3 : 0 < 2 ^ n := Nat.pow_pos (by omega)
  have hf := Lib.hid (full_cast n)
  have hg := (Grew.refl w).alloc (.cells #[.int .i64 (n : Int), v] 26)
  obtain ⟨A, m, c, rfl⟩ := hv
  generalize full n = F at *
  generalize (2 ^ n : Nat) = p at *
  go_enter Tryz.func83, Tryz.ntmps83
  go_wp2_with fail
  go_ret
  refine ⟨?_, hg⟩
  have hf := hf.out
  rw [hf]
  rfl
theorem popM_c (b : Nat) (x : Nat) (st : List Nat) (B : Nat) (w : World) (h : Stk w b B (x :: st)) (hb : b < B) :
    Calls Tryz.prog 125 #[.pointer (some ⟨b, 0, none⟩)] w fun e w' => e = .returned (.int .i64 (x : Int)) ∧ Stk w' b B st ∧ Only b w w' := by
  obtain ⟨A, n, c, h1, h2⟩ := h
  rw [sk_cons] at h2
  obtain ⟨rfl, g, rfl, h3, h4, h5, h6, h7, h8⟩ := h2.pop
  have HE := Lib.hid (show ∀ v, w.heap[b]? = some (.cells #[v] 24 (0, 0)) → (Only b w (w.setCell ⟨b, 0, none⟩ (.slice (some ⟨g, 0, none⟩) (sk st).length c)) ∧ Stk (w.setCell ⟨b, 0, none⟩ (.slice (some ⟨g, 0, none⟩) (sk st).length c)) b B st) from fun v hv =>
    ⟨(Only.refl b w).setCell _, _, _, _, blk_set hv 0 _, own_only h8 ((Only.refl b w).setCell _) (fun he => by have := own_of_ge h8 he; omega)⟩)
  have HE := HE.out _ h1
  have HE := Lib.hid HE
  have k0 : w.cell? ⟨b, 0, none⟩ = some (.slice (some ⟨g, 0, none⟩) ((sk st).length + 1) c) := by rw [blk_cell h1]; rfl
  have f0 := blk_frozen h1 0
  clear h1 h2 h8
  generalize (sk st).length = m at *
  go_enter Tryz.func125, Tryz.ntmps125
  go_wp2_with fail
  go_ret
  exact ⟨rfl, HE.out.2, HE.out.1⟩
theorem one_at {st : List Nat} (h : 1 ≤ st.length) : ∃ x r, st = x :: r := by
  match st, h with
  | x :: r, _ => exact ⟨x, r, rfl⟩
set_option maxHeartbeats 4000000 in
set_option maxRecDepth 4096 in
theorem truthSet_c (v u va : Value) (A V : List Nat) (t : Tree) (w : World) (h : Ints w v (zs A)) (hu : Ints w u (zs V)) (ha : Nodes w va (Fm.enc t)) (hA : Rl A) (hV : ∀ m ∈ V, m < 2 ^ A.length) (hl : V.length = 6) (ht : (Fm.enc t).length ≤ 1048576) :
    Calls Tryz.prog 82 #[.agg #[.int .i64 (A.length : Int), v], u, va] w fun e w' => e = .returned (.int .i64 ((mv A V t : Nat) : Int)) ∧ Grew w w' := by
  have hsm : ∀ m, m < 2 ^ A.length → m < 1073741824 := fun m hm => Nat.lt_of_lt_of_le hm (pow30' hA.1)
  have HSM := Lib.hid (fun i m (hm : m ∈ mve A V ((Fm.enc t).drop i)) => hsm m (mve_sm hV _ m hm))
  have HFED := Lib.hid (mfed_of (A := A) (V := V) (t := t))
  have HEND := Lib.hid (mve_of (A := A) (V := V) (t := t))
  have HDR := Lib.hid (fun i (hi : i < (Fm.enc t).length) => mve_drop (A := A) (V := V) hi)
  have HK := Lib.hid (fun i (hi : i < (Fm.enc t).length) => enc_kinds_m t hi)
  have HLEN := Lib.hid (fun i => show (mve A V ((Fm.enc t).drop i)).length ≤ 1048576 from by
    have hle : ∀ xs : List Nd, (mve A V xs).length ≤ xs.length := by
      intro xs
      induction xs with
      | nil => simp [mve]
      | cons x xs ih =>
        show (mvs A V x.1 x.2 (mve A V xs)).length ≤ _
        unfold mvs
        repeat' split
        all_goals simp only [List.length_cons, List.length_drop]; omega
    have := hle ((Fm.enc t).drop i)
    rw [List.length_drop] at this
    omega)
  have hend0 : mve A V ((Fm.enc t).drop (Fm.enc t).length) = [] := by rw [List.drop_length]; rfl
  have HFU := Lib.hid (show full A.length < 1073741824 from hsm _ (full_lt _))
  have KBX := Lib.hid (fun m W (hW : Grew w W) hm => box_q v A m W (h.grew hW) hA.sm hA.1 hm)
  have KAL := Lib.hid (fun W hv => frameAll_c A.length v W hv hA.1)
  have HBL := Lib.hid (fun m => hsm _ (bx_lt A m))
  have hpos := Fm.enc_pos t
  obtain ⟨A', c, rfl⟩ := ints_sliceN h
  obtain ⟨AU, cu, rfl⟩ := ints_sliceN hu
  have KAL := Lib.hid (fun W => KAL.out W ⟨_, _, _, rfl⟩)
  have HCU := Lib.hid (cellsN hu (by omega))
  rw [hl] at HCU
  clear h hu hA hV hsm
  rcases ha.open_ with ⟨rfl, h0⟩ | ⟨ba, oa, ca, rfl, hca, hcm, hbl, hcell⟩
  · rw [h0] at hpos; simp at hpos
  have HNC := Lib.hid hcell
  clear hcell ha
  have HEND0 := Lib.hid hend0
  clear hend0
  rw [hl]
  clear hl
  generalize mv A V t = R at *
  generalize Fm.enc t = xs at *
  have HMI := Lib.hid (fun k s x y st (h : k = 4) => @mvs_imp A V k s x y st h)
  have HMD := Lib.hid (fun k s x st (h : k = 6) => @mvs_dia A V k s x st h)
  generalize full A.length = FU at *
  generalize A.length = NA at *
  generalize hnx : xs.length = n at *
  replace hnx := Lib.hid hnx
  obtain ⟨bu, ou, rfl, hcu⟩ := HCU.out
  have HCU := Lib.hid hcu
  clear hcu
  obtain ⟨w1, hw1⟩ : ∃ w1, w1 = w.alloc (.cells #[.int .i64 (NA : Int), .slice A' NA c] 26) := ⟨_, rfl⟩
  have hg1 : Grew w w1 := by rw [hw1]; exact (Grew.refl w).alloc _
  have hs1 : w1.heap.size = w.heap.size + 1 := by rw [hw1]; simp
  have hb0 : w1.heap[w.heap.size]? = some (.cells #[.int .i64 (NA : Int), .slice A' NA c] 26 (0, 0)) := by rw [hw1]; exact blk_new w _
  have e0 : w1.cell? ⟨w.heap.size, 0, none⟩ = some (.int .i64 (NA : Int)) := by rw [blk_cell hb0]; rfl
  have e1 : w1.cell? ⟨w.heap.size, 1, none⟩ = some (.slice A' NA c) := by rw [blk_cell hb0]; rfl
  have npos : (1 : Int) ≤ n := by omega
  go_enter Tryz.func82, Tryz.ntmps82
  go_wp2_with fail
  simp only [← hw1]
  clear hw1
  refine (KAL.out _).mono ?_
  rintro e w2 ⟨rfl, hg2⟩
  have hbs : w.heap.size < w2.heap.size := by have := hg2.size; omega
  obtain ⟨w3, hw3⟩ : ∃ w3, w3 = w2.alloc (.cells #[.slice none 0 0] 24) := ⟨_, rfl⟩
  have hg3 : Grew w2 w3 := by rw [hw3]; exact (Grew.refl w2).alloc _
  have hs3 : w3.heap.size = w2.heap.size + 1 := by rw [hw3]; simp
  have hb3 : w3.heap[w2.heap.size]? = some (.cells #[.slice none 0 0] 24 (0, 0)) := by rw [hw3]; exact blk_new w2 _
  have hb4 := ((hg2.trans hg3).block (blk_lt hb0)).trans hb0
  have hstk : Stk w3 (w2.heap.size) (w2.heap.size + 1) (mve A V (xs.drop n)) := by rw [HEND0.out]; exact ⟨_, _, _, hb3, OwnI.nil_ _ _⟩
  have HST := Lib.hid hstk
  have HB0 := Lib.hid hb4
  have HG1 := Lib.hid (hg1.trans (hg2.trans hg3))
  have HS1 := Lib.hid hs3
  clear hb0 hb3 hb4 hg1 hg2 hg3 hstk hs1 hs3 e0 e1
  go_wp2_with fail
  simp only [← hw3]
  clear hw3
  go_loopw [10, 11] (fun i _ wr => ∃ k : Nat, k ≤ n ∧ i = .int .i64 ((k : Int) - 1) ∧ Hid (wr.heap[w.heap.size]? = some (.cells #[.int .i64 (NA : Int), .slice A' NA c] 26 (0, 0))) ∧ Hid (Stk wr (w2.heap.size) (w2.heap.size + 1) (mve A V (xs.drop k))) ∧ Hid (Grew w wr) ∧ Hid (w2.heap.size + 1 ≤ wr.heap.size)) (fun i _ _ => ((intOf i) + 1).toNat)
  case atStart => exact ⟨n, Nat.le_refl _, rfl, HB0, HST, HG1, Lib.hid (by rw [HS1.out]; omega)⟩
  case round =>
    obtain ⟨k, hk, rfl, HP, HK0, HG, HZ⟩ := hrel
    cases k with
    | zero =>
      obtain ⟨AS, nS, cS, hb, hO⟩ := HK0.out
      have hO2 : OwnI wr (w2.heap.size + 1) (.slice AS nS cS) ([] ++ [((R : Nat) : Int)]) := by
        have e : sk (mve A V (xs.drop 0)) = [] ++ [((R : Nat) : Int)] := by rw [List.drop_zero, HEND.out]; rfl
        rw [e] at hO; exact hO
      obtain ⟨rfl, g, rfl, q1, q2, q3, q4, q5, q6⟩ := hO2.pop
      have k0 : wr.cell? ⟨w2.heap.size, 0, none⟩ = some (.slice (some ⟨g, 0, none⟩) 1 cS) := by rw [blk_cell hb]; rfl
      have q5 : wr.cell? ⟨g, 0, none⟩ = some (.int .i64 ((R : Nat) : Int)) := q5
      clear hb hO hO2 q6 q3
      go_wp2_with fail
      go_ret
      exact ⟨rfl, HG.out⟩
    | succ k =>
      have ei : (((k + 1 : Nat) : Int) - 1) = (k : Int) := by omega
      rw [ei]
      have hkx : k < xs.length := by rw [hnx.out]; omega
      have hlt : (k : Int) < (n : Int) := by omega
      obtain ⟨c0, c1⟩ := HNC.out k (by omega) _ HG.out
      have hdr := HDR.out k (by omega)
      have hbS := HK0.out
      have hL1 := HLEN.out (k + 1)
      have hF := HFED.out k hkx
      have hSM := fun m hm => HSM.out (k + 1) m hm
      clear hkx
      generalize mve A V (xs.drop (k + 1)) = st at *
      have HDRK := Lib.hid hdr
      have HL1 := Lib.hid hL1
      have HF := Lib.hid hF
      have HSMK := Lib.hid hSM
      have HBS := Lib.hid hbS
      clear hdr hL1 hF hSM hbS
      rcases HK.out k (by omega) with ⟨hkd, s, hsy, hs6⟩ | hkd | hkd | hkd | hkd | hkd | hkd
      · have he : mve A V (xs.drop k) = nt V s :: st := HDRK.out.trans (mvs_var hkd hsy)
        have hu1 := HCU.out s (by omega) _ HG.out
        rw [hkd] at c0
        rw [hsy] at c1
        clear hkd hsy
        have HEK := Lib.hid he
        clear he
        generalize nt V s = y at *
        obtain ⟨AS, nS, cS, hb, hO⟩ := HBS.out
        have k7 : wr.cell? ⟨w2.heap.size, 0, none⟩ = some (.slice AS nS cS) := by rw [blk_cell hb]; rfl
        have k7' : ∀ o, (wr.alloc o).cell? ⟨w2.heap.size, 0, none⟩ = some (.slice AS nS cS) := fun o => by rw [blk_cell ((((Grew.refl wr).alloc o).block (blk_lt hb)).trans hb)]; rfl
        have HBT := Lib.hid hb
        have HOT := Lib.hid hO
        have HZA := Lib.hid (fun o : Obj => (Nat.le_trans HZ.out (((Grew.refl wr).alloc o).size) : w2.heap.size + 1 ≤ (wr.alloc o).heap.size))
        have HOA := Lib.hid (fun o : Obj => (hO.grew ((Grew.refl wr).alloc o) : OwnI (wr.alloc o) (w2.heap.size + 1) (.slice AS nS cS) (sk st)))
        clear hb hO
        go_wp2_with (first
          | (at_builtin
             refine wpList_appB (w2.heap.size + 1) _ _ rfl rfl (.slice AS nS cS) (sk st) rfl (HOA.out _) (HZA.out _) (.slice (some ⟨wr.heap.size, 0, none⟩) 1 1) ((y : Nat) : Int) rfl (rd_litI wr _ _) (by rw [sk_len]; exact HL1.out) ?_
             intro v8 w8 hown8 hg8
             obtain ⟨A8, c8, rfl⟩ := ints_slice hown8.ints
             rw [List.length_append, List.length_singleton] at hown8
             have hne8 : some (w2.heap.size) ≠ (Value.slice AS nS cS).ownBlock := fun he => by have := own_of_ge HOT.out he.symm; omega
             have hne9 : some w.heap.size ≠ (Value.slice AS nS cS).ownBlock := fun he => by have := own_of_ge HOT.out he.symm; omega
             have hb8 := (hg8.block _ (Nat.lt_of_lt_of_le (show w2.heap.size < w2.heap.size + 1 by omega) (HZA.out _)) hne8).trans ((((Grew.refl wr).alloc _).block (blk_lt HBT.out)).trans HBT.out)
             have hp8 := (hg8.block _ (Nat.lt_of_lt_of_le (show w.heap.size < w2.heap.size + 1 by omega) (HZA.out _)) hne9).trans ((((Grew.refl wr).alloc _).block (blk_lt HP.out)).trans HP.out)
             have k8 : w8.cell? ⟨w2.heap.size, 0, none⟩ = some (.slice AS nS cS) := by rw [blk_cell hb8]; rfl
             have f8 := blk_frozen hb8 0
             have hG8 : Grew w w8 := (HG.out.alloc _).grown hg8 (fun g hg => by have := own_of_ge HOT.out hg; omega)
             have hz8 : w2.heap.size + 1 ≤ w8.heap.size := Nat.le_trans (HZA.out _) hg8.size
             have HFIN := Lib.hid (show Hid ((w8.setCell ⟨w2.heap.size, 0, none⟩ (.slice A8 ((sk st).length + 1) c8)).heap[w.heap.size]? = some (.cells #[.int .i64 (NA : Int), .slice A' NA c] 26 (0, 0))) ∧ Hid (Stk (w8.setCell ⟨w2.heap.size, 0, none⟩ (.slice A8 ((sk st).length + 1) c8)) (w2.heap.size) (w2.heap.size + 1) (mve A V (xs.drop k))) ∧ Hid (Grew w (w8.setCell ⟨w2.heap.size, 0, none⟩ (.slice A8 ((sk st).length + 1) c8))) ∧ Hid (w2.heap.size + 1 ≤ (w8.setCell ⟨w2.heap.size, 0, none⟩ (.slice A8 ((sk st).length + 1) c8)).heap.size) from by
               have hon : Only (w2.heap.size) w8 (w8.setCell ⟨w2.heap.size, 0, none⟩ (.slice A8 ((sk st).length + 1) c8)) := (Only.refl _ _).setCell _
               refine ⟨Lib.hid ((hon.block (by omega) (by omega)).trans hp8), Lib.hid ⟨_, _, _, blk_set hb8 0 _, ?_⟩, Lib.hid (hG8.setCell (show w.heap.size ≤ w2.heap.size by omega) _), Lib.hid (Nat.le_trans hz8 hon.size)⟩
               rw [HEK.out, sk_cons]
               exact own_only hown8 hon (fun he => by have := own_of_ge hown8 he; omega))
             clear hb8 hp8 hG8 hz8 hown8 hg8 hne8 hne9 k7 k7'))
        go_roundw
        case rel => exact ⟨k, by omega, rfl, HFIN.out⟩
        case measure => simp [intOf] <;> omega
      · have he : mve A V (xs.drop k) = 0 :: st := HDRK.out.trans (mvs_fls hkd)
        rw [hkd] at c0
        clear hkd c1
        have HEK := Lib.hid he
        clear he
        obtain ⟨AS, nS, cS, hb, hO⟩ := HBS.out
        have k7 : wr.cell? ⟨w2.heap.size, 0, none⟩ = some (.slice AS nS cS) := by rw [blk_cell hb]; rfl
        have k7' : ∀ o, (wr.alloc o).cell? ⟨w2.heap.size, 0, none⟩ = some (.slice AS nS cS) := fun o => by rw [blk_cell ((((Grew.refl wr).alloc o).block (blk_lt hb)).trans hb)]; rfl
        have HBT := Lib.hid hb
        have HOT := Lib.hid hO
        have HZA := Lib.hid (fun o : Obj => (Nat.le_trans HZ.out (((Grew.refl wr).alloc o).size) : w2.heap.size + 1 ≤ (wr.alloc o).heap.size))
        have HOA := Lib.hid (fun o : Obj => (hO.grew ((Grew.refl wr).alloc o) : OwnI (wr.alloc o) (w2.heap.size + 1) (.slice AS nS cS) (sk st)))
        clear hb hO
        go_wp2_with (first
          | (at_builtin
             refine wpList_appB (w2.heap.size + 1) _ _ rfl rfl (.slice AS nS cS) (sk st) rfl (HOA.out _) (HZA.out _) (.slice (some ⟨wr.heap.size, 0, none⟩) 1 1) ((0 : Nat) : Int) rfl (rd_litI wr _ _) (by rw [sk_len]; exact HL1.out) ?_
             intro v8 w8 hown8 hg8
             obtain ⟨A8, c8, rfl⟩ := ints_slice hown8.ints
             rw [List.length_append, List.length_singleton] at hown8
             have hne8 : some (w2.heap.size) ≠ (Value.slice AS nS cS).ownBlock := fun he => by have := own_of_ge HOT.out he.symm; omega
             have hne9 : some w.heap.size ≠ (Value.slice AS nS cS).ownBlock := fun he => by have := own_of_ge HOT.out he.symm; omega
             have hb8 := (hg8.block _ (Nat.lt_of_lt_of_le (show w2.heap.size < w2.heap.size + 1 by omega) (HZA.out _)) hne8).trans ((((Grew.refl wr).alloc _).block (blk_lt HBT.out)).trans HBT.out)
             have hp8 := (hg8.block _ (Nat.lt_of_lt_of_le (show w.heap.size < w2.heap.size + 1 by omega) (HZA.out _)) hne9).trans ((((Grew.refl wr).alloc _).block (blk_lt HP.out)).trans HP.out)
             have k8 : w8.cell? ⟨w2.heap.size, 0, none⟩ = some (.slice AS nS cS) := by rw [blk_cell hb8]; rfl
             have f8 := blk_frozen hb8 0
             have hG8 : Grew w w8 := (HG.out.alloc _).grown hg8 (fun g hg => by have := own_of_ge HOT.out hg; omega)
             have hz8 : w2.heap.size + 1 ≤ w8.heap.size := Nat.le_trans (HZA.out _) hg8.size
             have HFIN := Lib.hid (show Hid ((w8.setCell ⟨w2.heap.size, 0, none⟩ (.slice A8 ((sk st).length + 1) c8)).heap[w.heap.size]? = some (.cells #[.int .i64 (NA : Int), .slice A' NA c] 26 (0, 0))) ∧ Hid (Stk (w8.setCell ⟨w2.heap.size, 0, none⟩ (.slice A8 ((sk st).length + 1) c8)) (w2.heap.size) (w2.heap.size + 1) (mve A V (xs.drop k))) ∧ Hid (Grew w (w8.setCell ⟨w2.heap.size, 0, none⟩ (.slice A8 ((sk st).length + 1) c8))) ∧ Hid (w2.heap.size + 1 ≤ (w8.setCell ⟨w2.heap.size, 0, none⟩ (.slice A8 ((sk st).length + 1) c8)).heap.size) from by
               have hon : Only (w2.heap.size) w8 (w8.setCell ⟨w2.heap.size, 0, none⟩ (.slice A8 ((sk st).length + 1) c8)) := (Only.refl _ _).setCell _
               refine ⟨Lib.hid ((hon.block (by omega) (by omega)).trans hp8), Lib.hid ⟨_, _, _, blk_set hb8 0 _, ?_⟩, Lib.hid (hG8.setCell (show w.heap.size ≤ w2.heap.size by omega) _), Lib.hid (Nat.le_trans hz8 hon.size)⟩
               rw [HEK.out, sk_cons]
               exact own_only hown8 hon (fun he => by have := own_of_ge hown8 he; omega))
             clear hb8 hp8 hG8 hz8 hown8 hg8 hne8 hne9 k7 k7'))
        go_roundw
        case rel => exact ⟨k, by omega, rfl, HFIN.out⟩
        case measure => simp [intOf] <;> omega
      · obtain ⟨x, y, r, rfl⟩ := two_at (HF.out.1 (.inl hkd))
        have he : mve A V (xs.drop k) = (x &&& y) :: r := HDRK.out.trans (mvs_and hkd)
        have hx := HSMK.out x (by simp)
        have hy := HSMK.out y (by simp)
        have hxy := and_i64 x y (by omega) (by omega)
        have hlr : r.length ≤ 1048576 := by have := HL1.out; simp only [List.length_cons] at this; omega
        rw [hkd] at c0
        clear hkd c1 hx hy
        have HEK := Lib.hid he
        clear he
        generalize (x &&& y : Nat) = z at *
        have HP1 := Lib.hid (popM_c (w2.heap.size) x (y :: r) (w2.heap.size + 1) wr HBS.out (by omega))
        have HP2 := Lib.hid (fun W hW => popM_c (w2.heap.size) y r (w2.heap.size + 1) W hW (by omega))
        go_wp2_with fail
        refine HP1.out.mono ?_
        rintro e wa ⟨rfl, hS2, hO2⟩
        have hp2 := (hO2.block (blk_lt HP.out) (by omega)).trans HP.out
        have hG2 := hO2.grew_of HG.out (by omega)
        have hz2 := hO2.size
        clear hO2
        go_wp2_with fail
        refine (HP2.out _ hS2).mono ?_
        rintro e wb ⟨rfl, hS3, hO3⟩
        have hp3 := (hO3.block (blk_lt hp2) (by omega)).trans hp2
        have hG3 := hO3.grew_of hG2 (by omega)
        have hz3 := hO3.size
        have HG3 := Lib.hid hG3
        have HP3 := Lib.hid hp3
        have HZ3 := Lib.hid (Nat.le_trans HZ.out (Nat.le_trans hz2 hz3))
        have HS3 := Lib.hid hS3
        clear hO3 hS2 hS3 hp2 hp3 hG2 hG3 hz2 hz3 HBS HP HG HZ
        obtain ⟨AS, nS, cS, hb, hO⟩ := HS3.out
        have k7 : wb.cell? ⟨w2.heap.size, 0, none⟩ = some (.slice AS nS cS) := by rw [blk_cell hb]; rfl
        have k7' : ∀ o, (wb.alloc o).cell? ⟨w2.heap.size, 0, none⟩ = some (.slice AS nS cS) := fun o => by rw [blk_cell ((((Grew.refl wb).alloc o).block (blk_lt hb)).trans hb)]; rfl
        have HBT := Lib.hid hb
        have HOT := Lib.hid hO
        have HZA := Lib.hid (fun o : Obj => (Nat.le_trans HZ3.out (((Grew.refl wb).alloc o).size) : w2.heap.size + 1 ≤ (wb.alloc o).heap.size))
        have HOA := Lib.hid (fun o : Obj => (hO.grew ((Grew.refl wb).alloc o) : OwnI (wb.alloc o) (w2.heap.size + 1) (.slice AS nS cS) (sk r)))
        clear hb hO
        go_wp2_with (first
          | (at_builtin
             refine wpList_appB (w2.heap.size + 1) _ _ rfl rfl (.slice AS nS cS) (sk r) rfl (HOA.out _) (HZA.out _) (.slice (some ⟨wb.heap.size, 0, none⟩) 1 1) ((z : Nat) : Int) rfl (rd_litI wb _ _) (by rw [sk_len]; exact hlr) ?_
             intro v8 w8 hown8 hg8
             obtain ⟨A8, c8, rfl⟩ := ints_slice hown8.ints
             rw [List.length_append, List.length_singleton] at hown8
             have hne8 : some (w2.heap.size) ≠ (Value.slice AS nS cS).ownBlock := fun he => by have := own_of_ge HOT.out he.symm; omega
             have hne9 : some w.heap.size ≠ (Value.slice AS nS cS).ownBlock := fun he => by have := own_of_ge HOT.out he.symm; omega
             have hb8 := (hg8.block _ (Nat.lt_of_lt_of_le (show w2.heap.size < w2.heap.size + 1 by omega) (HZA.out _)) hne8).trans ((((Grew.refl wb).alloc _).block (blk_lt HBT.out)).trans HBT.out)
             have hp8 := (hg8.block _ (Nat.lt_of_lt_of_le (show w.heap.size < w2.heap.size + 1 by omega) (HZA.out _)) hne9).trans ((((Grew.refl wb).alloc _).block (blk_lt HP3.out)).trans HP3.out)
             have k8 : w8.cell? ⟨w2.heap.size, 0, none⟩ = some (.slice AS nS cS) := by rw [blk_cell hb8]; rfl
             have f8 := blk_frozen hb8 0
             have hG8 : Grew w w8 := (HG3.out.alloc _).grown hg8 (fun g hg => by have := own_of_ge HOT.out hg; omega)
             have hz8 : w2.heap.size + 1 ≤ w8.heap.size := Nat.le_trans (HZA.out _) hg8.size
             have HFIN := Lib.hid (show Hid ((w8.setCell ⟨w2.heap.size, 0, none⟩ (.slice A8 ((sk r).length + 1) c8)).heap[w.heap.size]? = some (.cells #[.int .i64 (NA : Int), .slice A' NA c] 26 (0, 0))) ∧ Hid (Stk (w8.setCell ⟨w2.heap.size, 0, none⟩ (.slice A8 ((sk r).length + 1) c8)) (w2.heap.size) (w2.heap.size + 1) (mve A V (xs.drop k))) ∧ Hid (Grew w (w8.setCell ⟨w2.heap.size, 0, none⟩ (.slice A8 ((sk r).length + 1) c8))) ∧ Hid (w2.heap.size + 1 ≤ (w8.setCell ⟨w2.heap.size, 0, none⟩ (.slice A8 ((sk r).length + 1) c8)).heap.size) from by
               have hon : Only (w2.heap.size) w8 (w8.setCell ⟨w2.heap.size, 0, none⟩ (.slice A8 ((sk r).length + 1) c8)) := (Only.refl _ _).setCell _
               refine ⟨Lib.hid ((hon.block (by omega) (by omega)).trans hp8), Lib.hid ⟨_, _, _, blk_set hb8 0 _, ?_⟩, Lib.hid (hG8.setCell (show w.heap.size ≤ w2.heap.size by omega) _), Lib.hid (Nat.le_trans hz8 hon.size)⟩
               rw [HEK.out, sk_cons]
               exact own_only hown8 hon (fun he => by have := own_of_ge hown8 he; omega))
             clear hb8 hp8 hG8 hz8 hown8 hg8 hne8 hne9 k7 k7'))
        go_roundw
        case rel => exact ⟨k, by omega, rfl, HFIN.out⟩
        case measure => simp [intOf] <;> omega
      · obtain ⟨x, y, r, rfl⟩ := two_at (HF.out.1 (.inr (.inl hkd)))
        have he : mve A V (xs.drop k) = (x ||| y) :: r := HDRK.out.trans (mvs_or hkd)
        have hx := HSMK.out x (by simp)
        have hy := HSMK.out y (by simp)
        have hxy := or_i64 x y (by omega) (by omega)
        have hlr : r.length ≤ 1048576 := by have := HL1.out; simp only [List.length_cons] at this; omega
        rw [hkd] at c0
        clear hkd c1 hx hy
        have HEK := Lib.hid he
        clear he
        generalize (x ||| y : Nat) = z at *
        have HP1 := Lib.hid (popM_c (w2.heap.size) x (y :: r) (w2.heap.size + 1) wr HBS.out (by omega))
        have HP2 := Lib.hid (fun W hW => popM_c (w2.heap.size) y r (w2.heap.size + 1) W hW (by omega))
        go_wp2_with fail
        refine HP1.out.mono ?_
        rintro e wa ⟨rfl, hS2, hO2⟩
        have hp2 := (hO2.block (blk_lt HP.out) (by omega)).trans HP.out
        have hG2 := hO2.grew_of HG.out (by omega)
        have hz2 := hO2.size
        clear hO2
        go_wp2_with fail
        refine (HP2.out _ hS2).mono ?_
        rintro e wb ⟨rfl, hS3, hO3⟩
        have hp3 := (hO3.block (blk_lt hp2) (by omega)).trans hp2
        have hG3 := hO3.grew_of hG2 (by omega)
        have hz3 := hO3.size
        have HG3 := Lib.hid hG3
        have HP3 := Lib.hid hp3
        have HZ3 := Lib.hid (Nat.le_trans HZ.out (Nat.le_trans hz2 hz3))
        have HS3 := Lib.hid hS3
        clear hO3 hS2 hS3 hp2 hp3 hG2 hG3 hz2 hz3 HBS HP HG HZ
        obtain ⟨AS, nS, cS, hb, hO⟩ := HS3.out
        have k7 : wb.cell? ⟨w2.heap.size, 0, none⟩ = some (.slice AS nS cS) := by rw [blk_cell hb]; rfl
        have k7' : ∀ o, (wb.alloc o).cell? ⟨w2.heap.size, 0, none⟩ = some (.slice AS nS cS) := fun o => by rw [blk_cell ((((Grew.refl wb).alloc o).block (blk_lt hb)).trans hb)]; rfl
        have HBT := Lib.hid hb
        have HOT := Lib.hid hO
        have HZA := Lib.hid (fun o : Obj => (Nat.le_trans HZ3.out (((Grew.refl wb).alloc o).size) : w2.heap.size + 1 ≤ (wb.alloc o).heap.size))
        have HOA := Lib.hid (fun o : Obj => (hO.grew ((Grew.refl wb).alloc o) : OwnI (wb.alloc o) (w2.heap.size + 1) (.slice AS nS cS) (sk r)))
        clear hb hO
        go_wp2_with (first
          | (at_builtin
             refine wpList_appB (w2.heap.size + 1) _ _ rfl rfl (.slice AS nS cS) (sk r) rfl (HOA.out _) (HZA.out _) (.slice (some ⟨wb.heap.size, 0, none⟩) 1 1) ((z : Nat) : Int) rfl (rd_litI wb _ _) (by rw [sk_len]; exact hlr) ?_
             intro v8 w8 hown8 hg8
             obtain ⟨A8, c8, rfl⟩ := ints_slice hown8.ints
             rw [List.length_append, List.length_singleton] at hown8
             have hne8 : some (w2.heap.size) ≠ (Value.slice AS nS cS).ownBlock := fun he => by have := own_of_ge HOT.out he.symm; omega
             have hne9 : some w.heap.size ≠ (Value.slice AS nS cS).ownBlock := fun he => by have := own_of_ge HOT.out he.symm; omega
             have hb8 := (hg8.block _ (Nat.lt_of_lt_of_le (show w2.heap.size < w2.heap.size + 1 by omega) (HZA.out _)) hne8).trans ((((Grew.refl wb).alloc _).block (blk_lt HBT.out)).trans HBT.out)
             have hp8 := (hg8.block _ (Nat.lt_of_lt_of_le (show w.heap.size < w2.heap.size + 1 by omega) (HZA.out _)) hne9).trans ((((Grew.refl wb).alloc _).block (blk_lt HP3.out)).trans HP3.out)
             have k8 : w8.cell? ⟨w2.heap.size, 0, none⟩ = some (.slice AS nS cS) := by rw [blk_cell hb8]; rfl
             have f8 := blk_frozen hb8 0
             have hG8 : Grew w w8 := (HG3.out.alloc _).grown hg8 (fun g hg => by have := own_of_ge HOT.out hg; omega)
             have hz8 : w2.heap.size + 1 ≤ w8.heap.size := Nat.le_trans (HZA.out _) hg8.size
             have HFIN := Lib.hid (show Hid ((w8.setCell ⟨w2.heap.size, 0, none⟩ (.slice A8 ((sk r).length + 1) c8)).heap[w.heap.size]? = some (.cells #[.int .i64 (NA : Int), .slice A' NA c] 26 (0, 0))) ∧ Hid (Stk (w8.setCell ⟨w2.heap.size, 0, none⟩ (.slice A8 ((sk r).length + 1) c8)) (w2.heap.size) (w2.heap.size + 1) (mve A V (xs.drop k))) ∧ Hid (Grew w (w8.setCell ⟨w2.heap.size, 0, none⟩ (.slice A8 ((sk r).length + 1) c8))) ∧ Hid (w2.heap.size + 1 ≤ (w8.setCell ⟨w2.heap.size, 0, none⟩ (.slice A8 ((sk r).length + 1) c8)).heap.size) from by
               have hon : Only (w2.heap.size) w8 (w8.setCell ⟨w2.heap.size, 0, none⟩ (.slice A8 ((sk r).length + 1) c8)) := (Only.refl _ _).setCell _
               refine ⟨Lib.hid ((hon.block (by omega) (by omega)).trans hp8), Lib.hid ⟨_, _, _, blk_set hb8 0 _, ?_⟩, Lib.hid (hG8.setCell (show w.heap.size ≤ w2.heap.size by omega) _), Lib.hid (Nat.le_trans hz8 hon.size)⟩
               rw [HEK.out, sk_cons]
               exact own_only hown8 hon (fun he => by have := own_of_ge hown8 he; omega))
             clear hb8 hp8 hG8 hz8 hown8 hg8 hne8 hne9 k7 k7'))
        go_roundw
        case rel => exact ⟨k, by omega, rfl, HFIN.out⟩
        case measure => simp [intOf] <;> omega
      · obtain ⟨x, y, r, rfl⟩ := two_at (HF.out.1 (.inr (.inr hkd)))
        have he : mve A V (xs.drop k) = (dif FU x ||| y) :: r := HDRK.out.trans (HMI.out _ _ _ _ _ hkd)
        have hx := HSMK.out x (by simp)
        have hy := HSMK.out y (by simp)
        have hfu := HFU.out
        have hdl := dif_le (a := FU) (b := x)
        have hxz := andNot_i64 FU x (by omega) (by omega)
        have hxy := or_i64 (dif FU x) y (by omega) (by omega)
        have hlr : r.length ≤ 1048576 := by have := HL1.out; simp only [List.length_cons] at this; omega
        rw [hkd] at c0
        clear hkd c1 hx hy hfu hdl
        have HEK := Lib.hid he
        clear he
        generalize (dif FU x ||| y : Nat) = z at *
        generalize dif FU x = d at *
        have HP1 := Lib.hid (popM_c (w2.heap.size) x (y :: r) (w2.heap.size + 1) wr HBS.out (by omega))
        have HP2 := Lib.hid (fun W hW => popM_c (w2.heap.size) y r (w2.heap.size + 1) W hW (by omega))
        go_wp2_with fail
        refine HP1.out.mono ?_
        rintro e wa ⟨rfl, hS2, hO2⟩
        have hp2 := (hO2.block (blk_lt HP.out) (by omega)).trans HP.out
        have hG2 := hO2.grew_of HG.out (by omega)
        have hz2 := hO2.size
        clear hO2
        go_wp2_with fail
        refine (HP2.out _ hS2).mono ?_
        rintro e wb ⟨rfl, hS3, hO3⟩
        have hp3 := (hO3.block (blk_lt hp2) (by omega)).trans hp2
        have hG3 := hO3.grew_of hG2 (by omega)
        have hz3 := hO3.size
        have HG3 := Lib.hid hG3
        have HP3 := Lib.hid hp3
        have HZ3 := Lib.hid (Nat.le_trans HZ.out (Nat.le_trans hz2 hz3))
        have HS3 := Lib.hid hS3
        clear hO3 hS2 hS3 hp2 hp3 hG2 hG3 hz2 hz3 HBS HP HG HZ
        obtain ⟨AS, nS, cS, hb, hO⟩ := HS3.out
        have k7 : wb.cell? ⟨w2.heap.size, 0, none⟩ = some (.slice AS nS cS) := by rw [blk_cell hb]; rfl
        have k7' : ∀ o, (wb.alloc o).cell? ⟨w2.heap.size, 0, none⟩ = some (.slice AS nS cS) := fun o => by rw [blk_cell ((((Grew.refl wb).alloc o).block (blk_lt hb)).trans hb)]; rfl
        have HBT := Lib.hid hb
        have HOT := Lib.hid hO
        have HZA := Lib.hid (fun o : Obj => (Nat.le_trans HZ3.out (((Grew.refl wb).alloc o).size) : w2.heap.size + 1 ≤ (wb.alloc o).heap.size))
        have HOA := Lib.hid (fun o : Obj => (hO.grew ((Grew.refl wb).alloc o) : OwnI (wb.alloc o) (w2.heap.size + 1) (.slice AS nS cS) (sk r)))
        clear hb hO
        go_wp2_with (first
          | (at_builtin
             refine wpList_appB (w2.heap.size + 1) _ _ rfl rfl (.slice AS nS cS) (sk r) rfl (HOA.out _) (HZA.out _) (.slice (some ⟨wb.heap.size, 0, none⟩) 1 1) ((z : Nat) : Int) rfl (rd_litI wb _ _) (by rw [sk_len]; exact hlr) ?_
             intro v8 w8 hown8 hg8
             obtain ⟨A8, c8, rfl⟩ := ints_slice hown8.ints
             rw [List.length_append, List.length_singleton] at hown8
             have hne8 : some (w2.heap.size) ≠ (Value.slice AS nS cS).ownBlock := fun he => by have := own_of_ge HOT.out he.symm; omega
             have hne9 : some w.heap.size ≠ (Value.slice AS nS cS).ownBlock := fun he => by have := own_of_ge HOT.out he.symm; omega
             have hb8 := (hg8.block _ (Nat.lt_of_lt_of_le (show w2.heap.size < w2.heap.size + 1 by omega) (HZA.out _)) hne8).trans ((((Grew.refl wb).alloc _).block (blk_lt HBT.out)).trans HBT.out)
             have hp8 := (hg8.block _ (Nat.lt_of_lt_of_le (show w.heap.size < w2.heap.size + 1 by omega) (HZA.out _)) hne9).trans ((((Grew.refl wb).alloc _).block (blk_lt HP3.out)).trans HP3.out)
             have k8 : w8.cell? ⟨w2.heap.size, 0, none⟩ = some (.slice AS nS cS) := by rw [blk_cell hb8]; rfl
             have f8 := blk_frozen hb8 0
             have hG8 : Grew w w8 := (HG3.out.alloc _).grown hg8 (fun g hg => by have := own_of_ge HOT.out hg; omega)
             have hz8 : w2.heap.size + 1 ≤ w8.heap.size := Nat.le_trans (HZA.out _) hg8.size
             have HFIN := Lib.hid (show Hid ((w8.setCell ⟨w2.heap.size, 0, none⟩ (.slice A8 ((sk r).length + 1) c8)).heap[w.heap.size]? = some (.cells #[.int .i64 (NA : Int), .slice A' NA c] 26 (0, 0))) ∧ Hid (Stk (w8.setCell ⟨w2.heap.size, 0, none⟩ (.slice A8 ((sk r).length + 1) c8)) (w2.heap.size) (w2.heap.size + 1) (mve A V (xs.drop k))) ∧ Hid (Grew w (w8.setCell ⟨w2.heap.size, 0, none⟩ (.slice A8 ((sk r).length + 1) c8))) ∧ Hid (w2.heap.size + 1 ≤ (w8.setCell ⟨w2.heap.size, 0, none⟩ (.slice A8 ((sk r).length + 1) c8)).heap.size) from by
               have hon : Only (w2.heap.size) w8 (w8.setCell ⟨w2.heap.size, 0, none⟩ (.slice A8 ((sk r).length + 1) c8)) := (Only.refl _ _).setCell _
               refine ⟨Lib.hid ((hon.block (by omega) (by omega)).trans hp8), Lib.hid ⟨_, _, _, blk_set hb8 0 _, ?_⟩, Lib.hid (hG8.setCell (show w.heap.size ≤ w2.heap.size by omega) _), Lib.hid (Nat.le_trans hz8 hon.size)⟩
               rw [HEK.out, sk_cons]
               exact own_only hown8 hon (fun he => by have := own_of_ge hown8 he; omega))
             clear hb8 hp8 hG8 hz8 hown8 hg8 hne8 hne9 k7 k7'))
        go_roundw
        case rel => exact ⟨k, by omega, rfl, HFIN.out⟩
        case measure => simp [intOf] <;> omega
      · obtain ⟨x, r, rfl⟩ := one_at (HF.out.2 (.inl hkd))
        have he : mve A V (xs.drop k) = (bx A x) :: r := HDRK.out.trans (mvs_box hkd)
        have hx := HSMK.out x (by simp)
        have KBm := Lib.hid (fun W hW => KBX.out x W hW (by omega))
        have hlr : r.length ≤ 1048576 := by have := HL1.out; simp only [List.length_cons] at this; omega
        rw [hkd] at c0
        clear hkd c1 hx
        have HEK := Lib.hid he
        clear he
        generalize (bx A x : Nat) = z at *
        have HP1 := Lib.hid (fun W hW => popM_c (w2.heap.size) x r (w2.heap.size + 1) W hW (by omega))
        have HPw := Lib.hid HP.out
        have d0 : ∀ W, Only (w2.heap.size) wr W → W.cell? ⟨w.heap.size, 0, none⟩ = some (.int .i64 (NA : Int)) := fun W hW => by rw [blk_cell ((hW.block (blk_lt HPw.out) (by omega)).trans HPw.out)]; rfl
        have d1 : ∀ W, Only (w2.heap.size) wr W → W.cell? ⟨w.heap.size, 1, none⟩ = some (.slice A' NA c) := fun W hW => by rw [blk_cell ((hW.block (blk_lt HPw.out) (by omega)).trans HPw.out)]; rfl
        have ho2 : Only (w2.heap.size) wr wr := Only.refl _ _
        have ho2d : Only (w2.heap.size) wr wr.drew := ho2.drew
        have HSD : Hid (Stk wr.drew (w2.heap.size) (w2.heap.size + 1) (x :: r)) := Lib.hid (HBS.out.grew (Grew.refl _).drew)
        go_wp2_with fail
        refine wp_region_held_drew (S := fun w' => Only (w2.heap.size) wr w') (by kernel_rfl) ho2d (fun hHeld => ?_)
        refine wpAnyH_take (i := 0) (oi := ?on1) (v := ?vn1) ?hin1 ?an1 ?bn1 ?cn1 ?qn1 (Or.inl ⟨?dn1, ?hyn1⟩) hHeld ?restn1
        case hin1 => (simp only [List.getElem?_toArray, List.getElem?_cons_zero]; exact rfl)
        case an1 => kernel_rfl
        case bn1 => kernel_rfl
        case cn1 => kernel_rfl
        case qn1 => exact fun _ _ _ h => h
        case dn1 => rfl
        case hyn1 => (intro z hSw; (try dsimp only at hSw); go_simp; (try with_reducible rfl))
        try simp only [Act.put, List.setIfInBounds_toArray, List.set_cons_zero, List.set_cons_succ]
        refine wpAnyH_take (i := 1) (oi := ?on2) (v := ?vn2) ?hin2 ?an2 ?bn2 ?cn2 ?qn2 (Or.inl ⟨?dn2, ?hyn2⟩) hHeld ?restn2
        case hin2 => (simp only [List.getElem?_toArray, List.getElem?_cons_succ, List.getElem?_cons_zero]; exact rfl)
        case an2 => kernel_rfl
        case bn2 => kernel_rfl
        case cn2 => kernel_rfl
        case qn2 => exact fun _ _ _ h => h
        case dn2 => rfl
        case hyn2 => (intro z hSw; (try dsimp only at hSw); go_simp; (try with_reducible rfl))
        try simp only [Act.put, List.setIfInBounds_toArray, List.set_cons_zero, List.set_cons_succ]
        refine wpAnyH_take (i := 2) (oi := ?on3) (v := ?vn3) ?hin3 ?an3 ?bn3 ?cn3 ?qn3 (Or.inl ⟨?dn3, ?hyn3⟩) hHeld ?restn3
        case hin3 => (simp only [List.getElem?_toArray, List.getElem?_cons_succ, List.getElem?_cons_zero]; exact rfl)
        case an3 => kernel_rfl
        case bn3 => kernel_rfl
        case cn3 => kernel_rfl
        case qn3 => exact fun _ _ _ h => h
        case dn3 => rfl
        case hyn3 => (intro z hSw; (try dsimp only at hSw); go_simp; (try with_reducible rfl))
        try simp only [Act.put, List.setIfInBounds_toArray, List.set_cons_zero, List.set_cons_succ]
        refine wpAnyH_ready (rs := [3]) (by kernel_rfl) (by simp) ?_
        refine AllReadyH.cons (o := ?on4) ?hin4 ?restn4 AllReadyH.nil
        case hin4 => (simp only [List.getElem?_toArray, List.getElem?_cons_succ, List.getElem?_cons_zero]; exact rfl)
        intro K hK
        go_simp
        go_at_call 125
        refine (HP1.out _ HSD.out).mono ?_
        rintro e wb ⟨rfl, hS3, hO3⟩
        have ho3 : Only (w2.heap.size) wr wb := ho2d.trans hO3
        refine hK.out _ _ ?_ (fun hHeld => ?_)
        · (try dsimp only); first | with_reducible assumption | exact Grew.alloc ‹_› _
        clear hK K
        try simp only [Act.put, List.setIfInBounds_toArray, List.set_cons_zero, List.set_cons_succ]
        refine wpAnyH_ready (rs := [4]) (by kernel_rfl) (by simp) ?_
        refine AllReadyH.cons (o := ?on5) ?hin5 ?restn5 AllReadyH.nil
        case hin5 => (simp only [List.getElem?_toArray, List.getElem?_cons_succ, List.getElem?_cons_zero]; exact rfl)
        intro K hK
        go_simp
        go_at_call 126
        refine (KBm.out _ (ho3.grew_of HG.out (by omega))).mono ?_
        rintro e wc ⟨rfl, hwc⟩
        subst hwc
        refine hK.out _ _ ?_ (fun hHeld => ?_)
        · (try dsimp only); first | with_reducible assumption | exact Grew.alloc ‹_› _
        clear hK K
        try simp only [Act.put, List.setIfInBounds_toArray, List.set_cons_zero, List.set_cons_succ]
        refine wpAnyH_take (i := 5) (oi := ?on6) (v := ?vn6) ?hin6 ?an6 ?bn6 ?cn6 ?qn6 (Or.inl ⟨?dn6, ?hyn6⟩) hHeld ?restn6
        case hin6 => (simp only [List.getElem?_toArray, List.getElem?_cons_succ, List.getElem?_cons_zero]; exact rfl)
        case an6 => kernel_rfl
        case bn6 => kernel_rfl
        case cn6 => kernel_rfl
        case qn6 => exact fun _ _ _ h => h
        case dn6 => rfl
        case hyn6 => (intro z hSw; (try dsimp only at hSw); go_simp; (try with_reducible rfl))
        try simp only [Act.put, List.setIfInBounds_toArray, List.set_cons_zero, List.set_cons_succ]
        refine wpAnyH_done (by kernel_rfl) ?_ _
        have hp3 := (ho3.block (blk_lt HPw.out) (by omega)).trans HPw.out
        have HG3 := Lib.hid (ho3.grew_of HG.out (by omega))
        have HP3 := Lib.hid hp3
        have HZ3 := Lib.hid (Nat.le_trans HZ.out ho3.size)
        have HS3 := Lib.hid hS3
        clear hO3 hS3 hp3 HBS HP HG HZ HSD ho3 ho2 ho2d d0 d1 HPw
        obtain ⟨AS, nS, cS, hb, hO⟩ := HS3.out
        have k7 : wc.cell? ⟨w2.heap.size, 0, none⟩ = some (.slice AS nS cS) := by rw [blk_cell hb]; rfl
        have k7' : ∀ o, (wc.alloc o).cell? ⟨w2.heap.size, 0, none⟩ = some (.slice AS nS cS) := fun o => by rw [blk_cell ((((Grew.refl wc).alloc o).block (blk_lt hb)).trans hb)]; rfl
        have HBT := Lib.hid hb
        have HOT := Lib.hid hO
        have HZA := Lib.hid (fun o : Obj => (Nat.le_trans HZ3.out (((Grew.refl wc).alloc o).size) : w2.heap.size + 1 ≤ (wc.alloc o).heap.size))
        have HOA := Lib.hid (fun o : Obj => (hO.grew ((Grew.refl wc).alloc o) : OwnI (wc.alloc o) (w2.heap.size + 1) (.slice AS nS cS) (sk r)))
        clear hb hO
        go_wp2_with (first
          | (at_builtin
             refine wpList_appB (w2.heap.size + 1) _ _ rfl rfl (.slice AS nS cS) (sk r) rfl (HOA.out _) (HZA.out _) (.slice (some ⟨wc.heap.size, 0, none⟩) 1 1) ((z : Nat) : Int) rfl (rd_litI wc _ _) (by rw [sk_len]; exact hlr) ?_
             intro v8 w8 hown8 hg8
             obtain ⟨A8, c8, rfl⟩ := ints_slice hown8.ints
             rw [List.length_append, List.length_singleton] at hown8
             have hne8 : some (w2.heap.size) ≠ (Value.slice AS nS cS).ownBlock := fun he => by have := own_of_ge HOT.out he.symm; omega
             have hne9 : some w.heap.size ≠ (Value.slice AS nS cS).ownBlock := fun he => by have := own_of_ge HOT.out he.symm; omega
             have hb8 := (hg8.block _ (Nat.lt_of_lt_of_le (show w2.heap.size < w2.heap.size + 1 by omega) (HZA.out _)) hne8).trans ((((Grew.refl wc).alloc _).block (blk_lt HBT.out)).trans HBT.out)
             have hp8 := (hg8.block _ (Nat.lt_of_lt_of_le (show w.heap.size < w2.heap.size + 1 by omega) (HZA.out _)) hne9).trans ((((Grew.refl wc).alloc _).block (blk_lt HP3.out)).trans HP3.out)
             have k8 : w8.cell? ⟨w2.heap.size, 0, none⟩ = some (.slice AS nS cS) := by rw [blk_cell hb8]; rfl
             have f8 := blk_frozen hb8 0
             have hG8 : Grew w w8 := (HG3.out.alloc _).grown hg8 (fun g hg => by have := own_of_ge HOT.out hg; omega)
             have hz8 : w2.heap.size + 1 ≤ w8.heap.size := Nat.le_trans (HZA.out _) hg8.size
             have HFIN := Lib.hid (show Hid ((w8.setCell ⟨w2.heap.size, 0, none⟩ (.slice A8 ((sk r).length + 1) c8)).heap[w.heap.size]? = some (.cells #[.int .i64 (NA : Int), .slice A' NA c] 26 (0, 0))) ∧ Hid (Stk (w8.setCell ⟨w2.heap.size, 0, none⟩ (.slice A8 ((sk r).length + 1) c8)) (w2.heap.size) (w2.heap.size + 1) (mve A V (xs.drop k))) ∧ Hid (Grew w (w8.setCell ⟨w2.heap.size, 0, none⟩ (.slice A8 ((sk r).length + 1) c8))) ∧ Hid (w2.heap.size + 1 ≤ (w8.setCell ⟨w2.heap.size, 0, none⟩ (.slice A8 ((sk r).length + 1) c8)).heap.size) from by
               have hon : Only (w2.heap.size) w8 (w8.setCell ⟨w2.heap.size, 0, none⟩ (.slice A8 ((sk r).length + 1) c8)) := (Only.refl _ _).setCell _
               refine ⟨Lib.hid ((hon.block (by omega) (by omega)).trans hp8), Lib.hid ⟨_, _, _, blk_set hb8 0 _, ?_⟩, Lib.hid (hG8.setCell (show w.heap.size ≤ w2.heap.size by omega) _), Lib.hid (Nat.le_trans hz8 hon.size)⟩
               rw [HEK.out, sk_cons]
               exact own_only hown8 hon (fun he => by have := own_of_ge hown8 he; omega))
             clear hb8 hp8 hG8 hz8 hown8 hg8 hne8 hne9 k7 k7'))
        go_roundw
        case rel => exact ⟨k, by omega, rfl, HFIN.out⟩
        case measure => simp [intOf] <;> omega
      · obtain ⟨x, r, rfl⟩ := one_at (HF.out.2 (.inr hkd))
        have he : mve A V (xs.drop k) = (dif FU (bx A (dif FU x))) :: r := HDRK.out.trans (HMD.out _ _ _ _ hkd)
        have hx := HSMK.out x (by simp)
        have hfu := HFU.out
        have hdl := dif_le (a := FU) (b := x)
        have hdb := HBL.out (dif FU x)
        have hxz := andNot_i64 FU x (by omega) (by omega)
        have hxy := andNot_i64 FU (bx A (dif FU x)) (by omega) (by omega)
        have KBm := Lib.hid (fun W hW => KBX.out (dif FU x) W hW (by omega))
        have hlr : r.length ≤ 1048576 := by have := HL1.out; simp only [List.length_cons] at this; omega
        rw [hkd] at c0
        clear hkd c1 hx hfu hdl hdb
        have HEK := Lib.hid he
        clear he
        generalize (dif FU (bx A (dif FU x)) : Nat) = z at *
        generalize bx A (dif FU x) = b1 at *
        generalize dif FU x = d at *
        have HP1 := Lib.hid (fun W hW => popM_c (w2.heap.size) x r (w2.heap.size + 1) W hW (by omega))
        have HPw := Lib.hid HP.out
        have d0 : ∀ W, Only (w2.heap.size) wr W → W.cell? ⟨w.heap.size, 0, none⟩ = some (.int .i64 (NA : Int)) := fun W hW => by rw [blk_cell ((hW.block (blk_lt HPw.out) (by omega)).trans HPw.out)]; rfl
        have d1 : ∀ W, Only (w2.heap.size) wr W → W.cell? ⟨w.heap.size, 1, none⟩ = some (.slice A' NA c) := fun W hW => by rw [blk_cell ((hW.block (blk_lt HPw.out) (by omega)).trans HPw.out)]; rfl
        have ho2 : Only (w2.heap.size) wr wr := Only.refl _ _
        have ho2d : Only (w2.heap.size) wr wr.drew := ho2.drew
        have HSD : Hid (Stk wr.drew (w2.heap.size) (w2.heap.size + 1) (x :: r)) := Lib.hid (HBS.out.grew (Grew.refl _).drew)
        go_wp2_with fail
        refine wp_region_held_drew (S := fun w' => Only (w2.heap.size) wr w') (by kernel_rfl) ho2d (fun hHeld => ?_)
        refine wpAnyH_take (i := 0) (oi := ?on7) (v := ?vn7) ?hin7 ?an7 ?bn7 ?cn7 ?qn7 (Or.inl ⟨?dn7, ?hyn7⟩) hHeld ?restn7
        case hin7 => (simp only [List.getElem?_toArray, List.getElem?_cons_zero]; exact rfl)
        case an7 => kernel_rfl
        case bn7 => kernel_rfl
        case cn7 => kernel_rfl
        case qn7 => exact fun _ _ _ h => h
        case dn7 => rfl
        case hyn7 => (intro z hSw; (try dsimp only at hSw); go_simp; (try with_reducible rfl))
        try simp only [Act.put, List.setIfInBounds_toArray, List.set_cons_zero, List.set_cons_succ]
        refine wpAnyH_take (i := 1) (oi := ?on8) (v := ?vn8) ?hin8 ?an8 ?bn8 ?cn8 ?qn8 (Or.inl ⟨?dn8, ?hyn8⟩) hHeld ?restn8
        case hin8 => (simp only [List.getElem?_toArray, List.getElem?_cons_succ, List.getElem?_cons_zero]; exact rfl)
        case an8 => kernel_rfl
        case bn8 => kernel_rfl
        case cn8 => kernel_rfl
        case qn8 => exact fun _ _ _ h => h
        case dn8 => rfl
        case hyn8 => (intro z hSw; (try dsimp only at hSw); go_simp; (try with_reducible rfl))
        try simp only [Act.put, List.setIfInBounds_toArray, List.set_cons_zero, List.set_cons_succ]
        refine wpAnyH_take (i := 2) (oi := ?on9) (v := ?vn9) ?hin9 ?an9 ?bn9 ?cn9 ?qn9 (Or.inl ⟨?dn9, ?hyn9⟩) hHeld ?restn9
        case hin9 => (simp only [List.getElem?_toArray, List.getElem?_cons_succ, List.getElem?_cons_zero]; exact rfl)
        case an9 => kernel_rfl
        case bn9 => kernel_rfl
        case cn9 => kernel_rfl
        case qn9 => exact fun _ _ _ h => h
        case dn9 => rfl
        case hyn9 => (intro z hSw; (try dsimp only at hSw); go_simp; (try with_reducible rfl))
        try simp only [Act.put, List.setIfInBounds_toArray, List.set_cons_zero, List.set_cons_succ]
        refine wpAnyH_take (i := 3) (oi := ?on10) (v := ?vn10) ?hin10 ?an10 ?bn10 ?cn10 ?qn10 (Or.inl ⟨?dn10, ?hyn10⟩) hHeld ?restn10
        case hin10 => (simp only [List.getElem?_toArray, List.getElem?_cons_succ, List.getElem?_cons_zero]; exact rfl)
        case an10 => kernel_rfl
        case bn10 => kernel_rfl
        case cn10 => kernel_rfl
        case qn10 => exact fun _ _ _ h => h
        case dn10 => rfl
        case hyn10 => (intro z hSw; (try dsimp only at hSw); go_simp; (try with_reducible rfl))
        try simp only [Act.put, List.setIfInBounds_toArray, List.set_cons_zero, List.set_cons_succ]
        refine wpAnyH_take (i := 4) (oi := ?on11) (v := ?vn11) ?hin11 ?an11 ?bn11 ?cn11 ?qn11 (Or.inl ⟨?dn11, ?hyn11⟩) hHeld ?restn11
        case hin11 => (simp only [List.getElem?_toArray, List.getElem?_cons_succ, List.getElem?_cons_zero]; exact rfl)
        case an11 => kernel_rfl
        case bn11 => kernel_rfl
        case cn11 => kernel_rfl
        case qn11 => exact fun _ _ _ h => h
        case dn11 => rfl
        case hyn11 => (intro z hSw; (try dsimp only at hSw); go_simp; (try with_reducible rfl))
        try simp only [Act.put, List.setIfInBounds_toArray, List.set_cons_zero, List.set_cons_succ]
        refine wpAnyH_ready (rs := [5]) (by kernel_rfl) (by simp) ?_
        refine AllReadyH.cons (o := ?on12) ?hin12 ?restn12 AllReadyH.nil
        case hin12 => (simp only [List.getElem?_toArray, List.getElem?_cons_succ, List.getElem?_cons_zero]; exact rfl)
        intro K hK
        go_simp
        go_at_call 125
        refine (HP1.out _ HSD.out).mono ?_
        rintro e wb ⟨rfl, hS3, hO3⟩
        have ho3 : Only (w2.heap.size) wr wb := ho2d.trans hO3
        refine hK.out _ _ ?_ (fun hHeld => ?_)
        · (try dsimp only); first | with_reducible assumption | exact Grew.alloc ‹_› _
        clear hK K
        try simp only [Act.put, List.setIfInBounds_toArray, List.set_cons_zero, List.set_cons_succ]
        refine wpAnyH_take (i := 6) (oi := ?on13) (v := ?vn13) ?hin13 ?an13 ?bn13 ?cn13 ?qn13 (Or.inl ⟨?dn13, ?hyn13⟩) hHeld ?restn13
        case hin13 => (simp only [List.getElem?_toArray, List.getElem?_cons_succ, List.getElem?_cons_zero]; exact rfl)
        case an13 => kernel_rfl
        case bn13 => kernel_rfl
        case cn13 => kernel_rfl
        case qn13 => exact fun _ _ _ h => h
        case dn13 => rfl
        case hyn13 => (intro z hSw; (try dsimp only at hSw); go_simp; (try with_reducible rfl))
        try simp only [Act.put, List.setIfInBounds_toArray, List.set_cons_zero, List.set_cons_succ]
        refine wpAnyH_ready (rs := [7]) (by kernel_rfl) (by simp) ?_
        refine AllReadyH.cons (o := ?on14) ?hin14 ?restn14 AllReadyH.nil
        case hin14 => (simp only [List.getElem?_toArray, List.getElem?_cons_succ, List.getElem?_cons_zero]; exact rfl)
        intro K hK
        go_simp
        go_at_call 126
        refine (KBm.out _ (ho3.grew_of HG.out (by omega))).mono ?_
        rintro e wc ⟨rfl, hwc⟩
        subst hwc
        refine hK.out _ _ ?_ (fun hHeld => ?_)
        · (try dsimp only); first | with_reducible assumption | exact Grew.alloc ‹_› _
        clear hK K
        try simp only [Act.put, List.setIfInBounds_toArray, List.set_cons_zero, List.set_cons_succ]
        refine wpAnyH_take (i := 8) (oi := ?on15) (v := ?vn15) ?hin15 ?an15 ?bn15 ?cn15 ?qn15 (Or.inl ⟨?dn15, ?hyn15⟩) hHeld ?restn15
        case hin15 => (simp only [List.getElem?_toArray, List.getElem?_cons_succ, List.getElem?_cons_zero]; exact rfl)
        case an15 => kernel_rfl
        case bn15 => kernel_rfl
        case cn15 => kernel_rfl
        case qn15 => exact fun _ _ _ h => h
        case dn15 => rfl
        case hyn15 => (intro z hSw; (try dsimp only at hSw); go_simp; (try with_reducible rfl))
        try simp only [Act.put, List.setIfInBounds_toArray, List.set_cons_zero, List.set_cons_succ]
        refine wpAnyH_take (i := 9) (oi := ?on16) (v := ?vn16) ?hin16 ?an16 ?bn16 ?cn16 ?qn16 (Or.inl ⟨?dn16, ?hyn16⟩) hHeld ?restn16
        case hin16 => (simp only [List.getElem?_toArray, List.getElem?_cons_succ, List.getElem?_cons_zero]; exact rfl)
        case an16 => kernel_rfl
        case bn16 => kernel_rfl
        case cn16 => kernel_rfl
        case qn16 => exact fun _ _ _ h => h
        case dn16 => rfl
        case hyn16 => (intro z hSw; (try dsimp only at hSw); go_simp; (try with_reducible rfl))
        try simp only [Act.put, List.setIfInBounds_toArray, List.set_cons_zero, List.set_cons_succ]
        refine wpAnyH_done (by kernel_rfl) ?_ _
        have hp3 := (ho3.block (blk_lt HPw.out) (by omega)).trans HPw.out
        have HG3 := Lib.hid (ho3.grew_of HG.out (by omega))
        have HP3 := Lib.hid hp3
        have HZ3 := Lib.hid (Nat.le_trans HZ.out ho3.size)
        have HS3 := Lib.hid hS3
        clear hO3 hS3 hp3 HBS HP HG HZ HSD ho3 ho2 ho2d d0 d1 HPw
        obtain ⟨AS, nS, cS, hb, hO⟩ := HS3.out
        have k7 : wc.cell? ⟨w2.heap.size, 0, none⟩ = some (.slice AS nS cS) := by rw [blk_cell hb]; rfl
        have k7' : ∀ o, (wc.alloc o).cell? ⟨w2.heap.size, 0, none⟩ = some (.slice AS nS cS) := fun o => by rw [blk_cell ((((Grew.refl wc).alloc o).block (blk_lt hb)).trans hb)]; rfl
        have HBT := Lib.hid hb
        have HOT := Lib.hid hO
        have HZA := Lib.hid (fun o : Obj => (Nat.le_trans HZ3.out (((Grew.refl wc).alloc o).size) : w2.heap.size + 1 ≤ (wc.alloc o).heap.size))
        have HOA := Lib.hid (fun o : Obj => (hO.grew ((Grew.refl wc).alloc o) : OwnI (wc.alloc o) (w2.heap.size + 1) (.slice AS nS cS) (sk r)))
        clear hb hO
        go_wp2_with (first
          | (at_builtin
             refine wpList_appB (w2.heap.size + 1) _ _ rfl rfl (.slice AS nS cS) (sk r) rfl (HOA.out _) (HZA.out _) (.slice (some ⟨wc.heap.size, 0, none⟩) 1 1) ((z : Nat) : Int) rfl (rd_litI wc _ _) (by rw [sk_len]; exact hlr) ?_
             intro v8 w8 hown8 hg8
             obtain ⟨A8, c8, rfl⟩ := ints_slice hown8.ints
             rw [List.length_append, List.length_singleton] at hown8
             have hne8 : some (w2.heap.size) ≠ (Value.slice AS nS cS).ownBlock := fun he => by have := own_of_ge HOT.out he.symm; omega
             have hne9 : some w.heap.size ≠ (Value.slice AS nS cS).ownBlock := fun he => by have := own_of_ge HOT.out he.symm; omega
             have hb8 := (hg8.block _ (Nat.lt_of_lt_of_le (show w2.heap.size < w2.heap.size + 1 by omega) (HZA.out _)) hne8).trans ((((Grew.refl wc).alloc _).block (blk_lt HBT.out)).trans HBT.out)
             have hp8 := (hg8.block _ (Nat.lt_of_lt_of_le (show w.heap.size < w2.heap.size + 1 by omega) (HZA.out _)) hne9).trans ((((Grew.refl wc).alloc _).block (blk_lt HP3.out)).trans HP3.out)
             have k8 : w8.cell? ⟨w2.heap.size, 0, none⟩ = some (.slice AS nS cS) := by rw [blk_cell hb8]; rfl
             have f8 := blk_frozen hb8 0
             have hG8 : Grew w w8 := (HG3.out.alloc _).grown hg8 (fun g hg => by have := own_of_ge HOT.out hg; omega)
             have hz8 : w2.heap.size + 1 ≤ w8.heap.size := Nat.le_trans (HZA.out _) hg8.size
             have HFIN := Lib.hid (show Hid ((w8.setCell ⟨w2.heap.size, 0, none⟩ (.slice A8 ((sk r).length + 1) c8)).heap[w.heap.size]? = some (.cells #[.int .i64 (NA : Int), .slice A' NA c] 26 (0, 0))) ∧ Hid (Stk (w8.setCell ⟨w2.heap.size, 0, none⟩ (.slice A8 ((sk r).length + 1) c8)) (w2.heap.size) (w2.heap.size + 1) (mve A V (xs.drop k))) ∧ Hid (Grew w (w8.setCell ⟨w2.heap.size, 0, none⟩ (.slice A8 ((sk r).length + 1) c8))) ∧ Hid (w2.heap.size + 1 ≤ (w8.setCell ⟨w2.heap.size, 0, none⟩ (.slice A8 ((sk r).length + 1) c8)).heap.size) from by
               have hon : Only (w2.heap.size) w8 (w8.setCell ⟨w2.heap.size, 0, none⟩ (.slice A8 ((sk r).length + 1) c8)) := (Only.refl _ _).setCell _
               refine ⟨Lib.hid ((hon.block (by omega) (by omega)).trans hp8), Lib.hid ⟨_, _, _, blk_set hb8 0 _, ?_⟩, Lib.hid (hG8.setCell (show w.heap.size ≤ w2.heap.size by omega) _), Lib.hid (Nat.le_trans hz8 hon.size)⟩
               rw [HEK.out, sk_cons]
               exact own_only hown8 hon (fun he => by have := own_of_ge hown8 he; omega))
             clear hb8 hp8 hG8 hz8 hown8 hg8 hne8 hne9 k7 k7'))
        go_roundw
        case rel => exact ⟨k, by omega, rfl, HFIN.out⟩
        case measure => simp [intOf] <;> omega
end Go.Proofs.YtpfncncohnhanaaGreatDoor


/- The program's iterator over the values of all models on a frame (valuations): it hands out allV n vars. -/
namespace Go.Proofs.YtpfncncohnhanaaGreatDoor
open Go.RowKit
attribute [local go_sem] Oper.semAt_some

theorem KB.grew {W0 W W' : World} {l gv : Nat} (h : KB W0 l gv W) (k : Grew W W') : KB W0 l gv W' := h.kept (KeptBut.grew k)
theorem dg_facts (n c num j : Nat) (hj : j < c) (hc : c ≤ 6) (hn : n ≤ 8) (hfit : n * c ≤ 16) (hnum : num ≤ 65536) :
    IntKind.i64.wrap ((c : Int) - 1) = ((c - 1 : Nat) : Int) ∧ IntKind.i64.wrap (((c - 1 : Nat) : Int) - (j : Int)) = ((c - 1 - j : Nat) : Int) ∧
    IntKind.i64.wrap ((n : Int) * ((c - 1 - j : Nat) : Int)) = ((n * (c - 1 - j) : Nat) : Int) ∧ n * (c - 1 - j) < 64 ∧
    bits .and .i64 ((num : Int) / 2 ^ ((n : Int) * ((c - 1 - j : Nat) : Int)).toNat) ((full n : Nat) : Int) = ((dg n c num j : Nat) : Int) := by
  have h1 : n * (c - 1 - j) ≤ n * c := Nat.mul_le_mul_left _ (by omega)
  have hkb : num / 2 ^ (n * (c - 1 - j)) < 9223372036854775808 := Nat.lt_of_le_of_lt (Nat.div_le_self _ _) (by omega)
  have hf : full n < 9223372036854775808 := Nat.lt_of_lt_of_le (full_lt n) (Nat.le_trans (Nat.pow_le_pow_right (by omega) hn) (by decide))
  have h3 := and_i64 (num / 2 ^ (n * (c - 1 - j))) (full n) hkb hf
  rw [dg_and] at h3
  have h4 : (num : Int) / 2 ^ ((n : Int) * ((c - 1 - j : Nat) : Int)).toNat = ((num / 2 ^ (n * (c - 1 - j)) : Nat) : Int) := by
    rw [← Int.natCast_mul, Int.toNat_natCast, Int.natCast_ediv, Int.natCast_pow]; rfl
  refine ⟨by rw [IntKind.wrap_i64]; omega, by rw [IntKind.wrap_i64]; omega, ?_, by omega, by rw [h4]; exact h3⟩
  rw [← Int.natCast_mul, IntKind.wrap_i64]
  generalize n * (c - 1 - j) = q at *
  omega

set_option maxHeartbeats 2000000 in
theorem fvalSeq_c (n : Nat) (vars : List Nat) (bV bF : Nat) (w0 : World) (vV v : Value) (cV : w0.cell? ⟨bV, 0, none⟩ = some vV) (cF0 : w0.cell? ⟨bF, 0, none⟩ = some (.int .i64 (n : Int))) (cF1 : w0.cell? ⟨bF, 1, none⟩ = some v) (hbV : bV < w0.heap.size) (hbF : bF < w0.heap.size)
    (hv : ∃ A m c, v = .slice A m c) (hV : Ints w0 vV (zs vars)) (h6 : ∀ x ∈ vars, x < 6) (hnd : vars.Nodup) (hvl : vars.length ≤ 6) (hn : n ≤ 8) (hfit : n * vars.length ≤ 16) :
    SeqV Tryz.prog 124 #[.pointer (some ⟨bV, 0, none⟩), .pointer (some ⟨bF, 0, none⟩)] (fun W v x => Ints W v (zs x) ∧ (x.length = 6 ∧ ∀ m ∈ x, m < 2 ^ n)) (fun xs => xs = allV n vars) (fun pre => pre <+: allV n vars) w0 := by
  intro N l J Jx W hW hl0 hl1 hJ hJx hY h0
  have hmk : ∀ W : World, (Instr.makeSlice 24 (.int .i64 6) (.int .i64 6)).run Tryz.prog W = .ok (.slice (some ⟨W.heap.size, 0, none⟩) 6 6) (W.alloc (.cells (madeCells #[Value.int .i64 0] 6) 2)) := fun W => run_make_rows (P := Tryz.prog) 24 2 (.int .i64 0) 1 8 #[.int .i64 0] Tryz.underlying24 Tryz.infoI rfl .i64 .i64 6 (by omega) (by omega) W
  have hwl := hW.size
  obtain ⟨wa, hwa⟩ : ∃ wa, wa = W.alloc (.cells (madeCells #[Value.int .i64 0] 6) 2) := ⟨_, rfl⟩
  have hga : Grew W wa := by rw [hwa]; exact (Grew.refl W).alloc _
  have hR0 : NRow wa W.heap.size 6 6 (fun _ => 0) := ⟨_, by rw [hwa]; exact blk_new W _, size_madeCells _ _, Nat.le_refl _, by omega, fun i hi => made_z hi⟩
  have hKB := KB.refl wa l W.heap.size
  have cc : ∀ (b o : Nat) (v : Value), w0.cell? ⟨b, o, none⟩ = some v → b < w0.heap.size → ∀ X, KB wa l W.heap.size X → X.cell? ⟨b, o, none⟩ = some v := fun b o v hc hb X hX =>
    (hX.cell (p := ⟨b, o, none⟩) (by show b < _; have := hga.size; omega) (by show b ≠ l; omega) (by show b ≠ W.heap.size; omega)).trans (((hW.trans hga).cell (p := ⟨b, o, none⟩) hb).trans hc)
  obtain ⟨AV, nV, rfl, hVc⟩ := kb_cells hV (hW.trans hga) hl0 hwl
  obtain ⟨A1, m1, c1, rfl⟩ := hv
  have HSZ := Lib.hid (fun W (hW : Grew w0 W) => size_q _ (zs vars) W (hV.grew hW))
  rw [zs_len] at HSZ
  have HCV := Lib.hid (cc bV 0 _ cV hbV)
  have HC0 := Lib.hid (cc bF 0 _ cF0 hbF)
  have HC1 := Lib.hid (cc bF 1 _ cF1 hbF)
  have HVC := Lib.hid hVc
  have HKB := Lib.hid hKB
  have HR0 := Lib.hid hR0
  have HJ0 := Lib.hid (hJ _ _ _ h0 hga)
  have HJA := Lib.hid hJ
  have HY := Lib.hid hY
  have HAL := Lib.hid (fun X => frameAll_c n (.slice A1 m1 c1) X ⟨_, _, _, rfl⟩ (by omega))
  have HTK := Lib.hid (fun k (hk : k < 2 ^ (n * vars.length)) => @allV_take n vars k hk)
  have HDG := Lib.hid (fun num j (hj : j < vars.length) (hnum : num ≤ 65536) => dg_facts n vars.length num j hj hvl hn hfit hnum)
  have hM : 2 ^ (n * vars.length) ≤ 65536 := Nat.le_trans (Nat.pow_le_pow_right (by omega) hfit) (by decide)
  have hp := wrap_pow (k := n * vars.length) (by omega)
  have hmul : wrap64 ((n : Int) * (vars.length : Int)) = ((n * vars.length : Nat) : Int) := by rw [← Int.natCast_mul, wrap64]; omega
  have HEN := Lib.hid (show (allV n vars).take (2 ^ (n * vars.length)) = allV n vars from by rw [← allV_len]; exact List.take_length)
  have HWA := Lib.hid (hW.trans hga)
  clear cc cV cF0 cF1 hV hVc hKB hR0 h0 hJ hJx hY
  refine callsIn_of_wp Tryz.func124 rfl trivial ?_ rfl
  simp only [Tryz.ntmps124, List.size_toArray, List.length_cons, List.length_nil, Nat.reduceAdd, Nat.reduceSub, Array.replicate_succ, Array.replicate_zero, List.push_toArray, List.append_toArray, List.nil_append, List.cons_append]
  have k1 := HCV.out _ HKB.out
  rw [hwa] at k1
  have k2 := HC0.out _ HKB.out
  refine wpIn_wide.2 ?_
  go_wp2_with fail
  simp only [← hwa]
  clear hwa k1
  refine (HSZ.out _ HWA.out).mono ?_
  rintro e w1 ⟨rfl, hw1⟩
  rw [hw1]
  clear hw1
  obtain ⟨M, hMM⟩ : ∃ M, M = 2 ^ (n * vars.length) := ⟨_, rfl⟩
  rw [← hMM] at HTK hM hp HEN
  have HMM := Lib.hid hMM
  clear hMM
  go_wp2_with fail
  rw [hp]
  clear k2 hmul hp
  go_loopw [6, 7, 8, 17, 22] (fun _ _ _ i _ wr => ∃ (k : Nat) (f : Nat → Nat), k ≤ M ∧ i = .int .i64 (k : Int) ∧ Hid (KB wa l W.heap.size wr) ∧ Hid (J ((allV n vars).take k) wr) ∧ Hid (NRow wr W.heap.size 6 6 f) ∧ Hid (∀ i, i < 6 → i ∉ vars → f i = 0)) (fun _ _ _ i _ _ => M - (intOf i).toNat)
  case atStart => exact ⟨0, fun _ => 0, Nat.zero_le _, rfl, HKB, HJ0, HR0, Lib.hid (fun _ _ _ => rfl)⟩
  case round =>
    obtain ⟨k, f, hk, rfl, hK, hJk, hR, hZ⟩ := hrel
    by_cases hlt : k < M
    · have HJN := Lib.hid (HTK.out k hlt)
      have hk1 := HCV.out _ hK.out
      have HPG := Lib.hid (PG.zero (n := n) (vars := vars) (num := k) hZ.out)
      go_wp2_with fail
      clear hk1
      go_loopw [7, 8, 22] (fun _ _ i wr => ∃ (j : Nat) (f : Nat → Nat), j ≤ vars.length ∧ i = .int .i64 (j : Int) ∧ Hid (KB wa l W.heap.size wr) ∧ Hid (J ((allV n vars).take k) wr) ∧ Hid (NRow wr W.heap.size 6 6 f) ∧ Hid (PG n vars k j f)) (fun _ _ i _ => vars.length - (intOf i).toNat)
      case atStart => exact ⟨0, f, Nat.zero_le _, rfl, hK, hJk, hR, HPG⟩
      case round =>
        obtain ⟨j, f2, hj, rfl, hK2, hJ2, hR2, hP2⟩ := hrel
        by_cases hlj : j < vars.length
        · obtain ⟨b, o, rfl, hvc⟩ := HVC.out j hlj
          have kv := hvc _ hK2.out
          have hv6 := h6 _ (nt_mem hlj)
          obtain ⟨d1, d2, d3, d4, d6⟩ := HDG.out k j hlj (by omega)
          have D6 := Lib.hid d6
          clear d6
          have c0 := HC0.out
          have c1 := HC1.out
          have c6 := fun A (hA : Grew wr A) => (hR2.out.grew hA).cell hv6
          have c7 := fun A (hA : Grew wr A) => (hR2.out.grew hA).free (nt vars j)
          have r2 := (Grew.refl wr).drew
          have e2 := hK2.out.grew r2
          have hb2 : (0 : Int) ≤ (nt vars j : Int) := by omega
          have hb3 : (nt vars j : Int) < 6 := by omega
          have d7 : ((n * (vars.length - 1 - j) : Nat) : Int) < 64 := by omega
          have hq := h6
          go_wp2_with fail
          go_region_held3 (fun w' => KB wa l W.heap.size w') (first | assumption | exact KB.set ‹_› _ | exact KB.grew ‹_› ‹_› | exact KB.drew ‹_›) (first
            | (go_at_call 83; refine (HAL.out _).mono ?_; rintro e w9 ⟨rfl, hg9⟩; have hgw : Grew wr w9 := r2.trans hg9; have hkb9 := e2.grew hg9))
          rw [D6.out]
          have hR3 := Lib.hid ((hR2.out.grew hgw).set (f' := fun q => if q = nt vars j then dg n vars.length k j else f2 q) hv6 (if_pos rfl) (fun q _ hq => if_neg hq))
          have hP3 := Lib.hid (hP2.out.set (f' := fun q => if q = nt vars j then dg n vars.length k j else f2 q) hnd hlj (if_pos rfl) (fun q hq => if_neg hq))
          have hK3 := Lib.hid (hkb9.set (o := nt vars j) (.int .i64 ((dg n vars.length k j : Nat) : Int)))
          have hwz : W.heap.size ≤ wr.heap.size := Nat.le_trans hga.size hK2.out.1
          have hJ3 := Lib.hid (HJA.out _ _ _ hJ2.out ((Below.mono hgw hwz).setCell (p := ⟨W.heap.size, nt vars j, none⟩) (Nat.le_refl _) (.int .i64 ((dg n vars.length k j : Nat) : Int))))
          clear hgw hg9 hkb9 e2 d1 d2 d3 d4 d7 c6 c7 kv hvc
          go_wp2_with fail
          go_roundw
          case rel => exact ⟨j + 1, _, by omega, by go_num, hK3, hJ3, hR3, hP3⟩
          case measure => simp [intOf]; omega
        · obtain rfl : j = vars.length := by omega
          have hI := hR2.out.ints
          rw [hP2.out.vals] at hI
          have hzz : Hid (∀ i, i < 6 → i ∉ vars → f2 i = 0) := Lib.hid hP2.out.2
          obtain ⟨fn, tmps, assign, body, hy, hRd⟩ := HY.out (N - 1) _ (vals n vars k) (.slice (some ⟨W.heap.size, 0, none⟩) 6 6) wr hJ2.out ⟨hI, vals_len _ _ _, vals_lt _ _ _⟩
          have HRD := Lib.hid hRd
          clear hRd hI
          go_upto_region 10 with fail
          refine (wpIn_wide (n := N)).1 ?_
          gi_wp2
          refine ⟨fun h => by simp [Fence.wide] at h, HRD.out.mono ?_⟩
          have HQX := Lib.hid (show (allV n vars).take (k + 1) <+: allV n vars from List.take_prefix _ _)
          rintro e W3 (⟨rfl, hJ3, hk3⟩ | ⟨rfl, hJx3⟩)
          · rw [← HJN.out] at hJ3
            have HJ3 := Lib.hid hJ3
            have HK3 := Lib.hid (hK2.out.kept hk3)
            have HR3 := Lib.hid (hR2.out.kept hk3 (show W.heap.size ≠ l by omega))
            clear hJ3 hk3
            gi_wp2
            go_wp2_with fail
            go_roundw
            case rel => exact ⟨k + 1, f2, by omega, by go_num, HK3, HJ3, HR3, hzz⟩
            case measure => simp [intOf]; omega
          · rw [← HJN.out] at hJx3
            have HJ3 := Lib.hid hJx3
            clear hJx3
            gi_wp2
            go_wp2_with fail
            refine bodyPost_ret (results_none rfl _ _ _) rfl ?_
            exact ⟨⟨_, rfl⟩, .inr ⟨_, HQX.out, HJ3.out⟩⟩
    · obtain rfl : k = M := by omega
      have HJ3 : Hid (J (allV n vars) wr) := Lib.hid (by rw [← HEN.out]; exact hJk.out)
      go_wp2_with fail
      go_end0
      exact ⟨⟨_, rfl⟩, .inl ⟨_, rfl, HJ3.out⟩⟩
end Go.Proofs.YtpfncncohnhanaaGreatDoor


/- The program's isValid on frames: valuations, isValid. -/
namespace Go.Proofs.YtpfncncohnhanaaGreatDoor
open Go.RowKit
open Fm (Nd Tree)
attribute [local go_sem] Oper.semAt_some

theorem fvaluations_c (n : Int) (v vV : Value) (w : World) (hv : ∃ X m c, v = .slice X m c) (hV : ∃ X m c, vV = .slice X m c) :
    Calls Tryz.prog 81 #[.agg #[.int .i64 n, v], vV] w fun e w' => ∃ bV bF, e = .returned (.func (.func 124) #[] #[.pointer (some ⟨bV, 0, none⟩), .pointer (some ⟨bF, 0, none⟩)]) ∧ Grew w w' ∧ bV < w'.heap.size ∧ bF < w'.heap.size ∧ w'.cell? ⟨bV, 0, none⟩ = some vV ∧ w'.cell? ⟨bF, 0, none⟩ = some (.int .i64 n) ∧ w'.cell? ⟨bF, 1, none⟩ = some v := by
  obtain ⟨A1, m1, c1, rfl⟩ := hv
  obtain ⟨X, m, c, rfl⟩ := hV
  have g1 := (Grew.refl w).alloc (.cells #[.int .i64 n, .slice A1 m1 c1] 26)
  have g2 := (Grew.refl (w.alloc (.cells #[.int .i64 n, .slice A1 m1 c1] 26))).alloc (.cells #[.slice X m c] 24)
  have hs : (w.alloc (.cells #[.int .i64 n, .slice A1 m1 c1] 26)).heap.size = w.heap.size + 1 := by simp
  have b0 := (g2.block (by simp)).trans (blk_new w (.cells #[.int .i64 n, .slice A1 m1 c1] 26))
  have b1 := blk_new (w.alloc (.cells #[.int .i64 n, .slice A1 m1 c1] 26)) (.cells #[.slice X m c] 24)
  rw [hs] at b1
  have HG := Lib.hid (And.intro (g1.trans g2) (And.intro b0 b1))
  clear g1 g2 b0 b1 hs
  go_enter Tryz.func81, Tryz.ntmps81
  go_wp2_with fail
  go_ret
  obtain ⟨h1, h2, h3⟩ := HG.out
  refine ⟨_, _, rfl, h1, blk_lt h3, blk_lt h2, ?_, ?_, ?_⟩
  · rw [blk_cell h3]; rfl
  · rw [blk_cell h2]; rfl
  · rw [blk_cell h2]; rfl

theorem alloc3F (w wa : World) (o1 o2 o3 : Obj) (h : wa = ((w.alloc o1).alloc o2).alloc o3) : Grew w wa ∧ wa.heap.size = w.heap.size + 3 ∧ wa.heap[w.heap.size]? = some o1 ∧ wa.heap[w.heap.size + 1]? = some o2 ∧ wa.heap[w.heap.size + 1 + 1]? = some o3 := by
  subst h
  have s1 : (w.alloc o1).heap.size = w.heap.size + 1 := by simp
  have s2 : ((w.alloc o1).alloc o2).heap.size = w.heap.size + 1 + 1 := by simp
  have b1 := blk_new w o1
  have b2 := blk_new (w.alloc o1) o2
  have b3 := blk_new ((w.alloc o1).alloc o2) o3
  rw [s1] at b2
  rw [s2] at b3
  have g2 := (Grew.refl (w.alloc o1)).alloc o2
  have g3 := (Grew.refl ((w.alloc o1).alloc o2)).alloc o3
  refine ⟨((Grew.refl w).alloc o1).trans (g2.trans g3), by simp, ((g2.trans g3).block (by omega)).trans b1, (g3.block (by omega)).trans b2, b3⟩
theorem results_cell1 {P : Program} {fn : Func} {p : Tmp} {t1 : TypeId} (h : fn.results = #[.cell p t1]) (tmps : Array Value) (w : World) (a : Addr) (v1 : Value)
    (hp : tmps.getD p undef = .pointer (some a)) (l1 : (loadVar t1 a).run P w = .ok v1 w) : (results fn tmps).run P w = .ok v1 w := by
  have hp' : tmps[p]?.getD undef = .pointer (some a) := by simpa using hp
  simp [results, h, hp', asAddr, l1]

set_option maxHeartbeats 2000000 in
theorem frameValid_c (v va : Value) (A : List Nat) (t : Tree) (w : World) (h : Ints w v (zs A)) (ha : Nodes w va (Fm.enc t)) (hA : Rl A) (h8 : A.length ≤ 8) (hvs : Vs (Fm.enc t)) (hn : (Fm.enc t).length ≤ 1048576) (hfit : A.length * (mbs (vm (Fm.enc t))).length ≤ 16) :
    Calls Tryz.prog 38 #[.agg #[.int .i64 (A.length : Int), v], va] w fun e w' => e = .returned (.bool (vldB A (mbs (vm (Fm.enc t))) t)) ∧ Grew w w' := by
  have hvm : vm (Fm.enc t) < 2 ^ 6 := by have := vmK_lt hvs (Fm.enc t).length (Nat.le_refl _); unfold vm; exact this
  have hv6 : ∀ x ∈ mbs (vm (Fm.enc t)), x < 6 := fun x hx => mbs_lt (n := 6) hvm hx
  have hvl := mbs_length6 (n := 6) hvm (by omega)
  have hnd : (mbs (vm (Fm.enc t))).Nodup := List.Nodup.sublist List.filter_sublist List.nodup_range
  obtain ⟨A1, c1, rfl⟩ := ints_sliceN h
  obtain ⟨A2, c2, rfl⟩ := nodes_slice ha
  obtain ⟨w0, hw0⟩ : ∃ w0, w0 = (((w.alloc (.cells #[.int .i64 (A.length : Int), .slice A1 A.length c1] 26)).alloc (.cells #[.slice A2 (Fm.enc t).length c2] 29)).alloc (.cells #[.bool false] 4)) := ⟨_, rfl⟩
  obtain ⟨hg0, hs0, b1, b2, b3⟩ := alloc3F _ _ _ _ _ hw0
  have HVI := Lib.hid (fun b W (hW : Grew w0 W) (hc : W.cell? ⟨b, 0, none⟩ = some (.slice A2 (Fm.enc t).length c2)) (hb : b < W.heap.size) => variablesIn_one_c b _ (Fm.enc t) W hc hb (ha.grew (hg0.trans hW)) hvs hn)
  have HVA := Lib.hid (fun vV W (hv : ∃ X m c, vV = .slice X m c) => fvaluations_c (A.length : Int) (.slice A1 A.length c1) vV W ⟨_, _, _, rfl⟩ hv)
  have y0 : ∀ W, Grew w0 W → W.cell? ⟨w.heap.size, 0, none⟩ = some (.int .i64 (A.length : Int)) := fun W hW => by rw [blk_cell ((hW.block (by omega)).trans b1)]; rfl
  have y1 : ∀ W, Grew w0 W → W.cell? ⟨w.heap.size, 1, none⟩ = some (.slice A1 A.length c1) := fun W hW => by rw [blk_cell ((hW.block (by omega)).trans b1)]; rfl
  have y2 : ∀ W, Grew w0 W → W.cell? ⟨w.heap.size + 1, 0, none⟩ = some (.slice A2 (Fm.enc t).length c2) := fun W hW => by rw [blk_cell ((hW.block (by omega)).trans b2)]; rfl
  have HB := Lib.hid b3
  have HG0 := Lib.hid (And.intro hg0 hs0)
  have HA := Lib.hid hA
  have r0 := Grew.refl w0
  have r1 := (Grew.refl w0).drew
  clear hg0 hs0 b1 b2 b3 hvm
  refine (callsIn_wide (n := 9)).1 ?_
  refine callsIn_of_wp_marks Tryz.func38 rfl trivial ?_
  simp only [Tryz.ntmps38, List.size_toArray, List.length_cons, List.length_nil, Nat.reduceAdd, Nat.reduceSub, Array.replicate_succ, Array.replicate_zero, List.push_toArray, List.append_toArray, List.nil_append, List.cons_append]
  refine wpIn_wide.2 ?_
  go_wp2_with fail
  rw [← hw0]
  clear hw0
  first | (go_region_held3 (fun w' => Grew w0 w') (first | assumption | exact Grew.drew ‹_› | exact Grew.trans ‹_› ‹_› | exact Grew.alloc (by assumption) _) (first
    | (go_at_call 35; refine Calls.mono (HVI.out _ _ (by first | assumption | exact Grew.alloc (by assumption) _) (by simp) (by simp)) ?_; rintro e w5 ⟨v5, rfl, hO5, hg5⟩; have hg55 : Grew w0 w5 := Grew.trans (by first | assumption | exact Grew.alloc (by assumption) _) hg5; obtain ⟨A5, c5, rfl⟩ := ints_sliceN hO5.ints)
    | (go_at_call 81; refine Calls.mono (HVA.out _ _ ⟨_, _, _, rfl⟩) ?_; rintro e w6 ⟨bV, bF, rfl, hg6, hbV, hbF, hcV, hc0, hc1⟩; have hg66 : Grew w0 w6 := Grew.trans (by assumption) hg6))) | fail
  have hIV := hO5.ints.grew hg6
  have hg6w : Grew w0 w6 := hg55.trans hg6
  have HVL := Lib.hid (And.intro hIV (And.intro hcV (And.intro hc0 (And.intro hc1 (And.intro hbV hbF)))))
  clear hO5 hg5 hg55 hIV hcV hc0 hc1 hbV hbF hg6 HVI HVA
  generalize hvars : mbs (vm (Fm.enc t)) = vars at *
  go_wp2_with fail
  refine (wpIn_wide (n := 9)).1 ?_
  refine wpIn_rangeV (P := Tryz.prog) (gf := 124) (lb := #[.pointer (some ⟨bV, 0, none⟩), .pointer (some ⟨bF, 0, none⟩)]) rfl (enters_of Tryz.func124 (by kernel_rfl) rfl)
    (Rv := fun W v x => Ints W v (zs x) ∧ (x.length = 6 ∧ ∀ m ∈ x, m < 2 ^ A.length)) (fun W v x l o o' h1 h2 h3 => ⟨rd_putObj o' h1.1 h2 h3, h1.2⟩)
    (fvalSeq_c A.length vars bV bF w6 _ _ HVL.out.2.1 HVL.out.2.2.1 HVL.out.2.2.2.1 HVL.out.2.2.2.2.1 HVL.out.2.2.2.2.2 ⟨_, _, _, rfl⟩ HVL.out.1 hv6 hnd hvl h8 hfit) (Grew.refl w6) rfl
    (fun pre W => (∀ x ∈ pre, mv A x t = full A.length) ∧ Grew w6 W)
    (fun pre W => (∃ x ∈ pre, mv A x t ≠ full A.length) ∧ Below w.heap.size w6 W ∧ W.heap[w.heap.size + 1 + 1]? = some (.cells #[.bool false] 4))
    (fun s X Y hs hb => ⟨hs.1, (show Below w6.heap.size w6 Y from Below.trans hs.2 hb)⟩) ?hIx ⟨by simp, Grew.refl w6⟩ (fun x => { tmps := #[.agg #[.int .i64 (A.length : Int), .slice A1 A.length c1], .slice A2 (Fm.enc t).length c2, .pointer (some ⟨w.heap.size, 0, none⟩), .pointer (some ⟨w.heap.size + 1, 0, none⟩), .pointer (some ⟨w.heap.size + 1 + 1, 0, none⟩), x, .agg #[.int .i64 (A.length : Int), .slice A1 A.length c1], .slice A2 (Fm.enc t).length c2, .slice (some ⟨w0.heap.size, 0, none⟩) 1 1, .slice A5 vars.length c5, .func (.func 124) #[] #[.pointer (some ⟨bV, 0, none⟩), .pointer (some ⟨bF, 0, none⟩)], x, undef, undef, undef, undef, undef, undef, undef], defers := [] }) ?assign ?body ?done ?stop
  case assign =>
    intro l m x W K hK
    gi_wp2
    exact hK
  case body =>
    rintro l m pre x v W ⟨hall, hg⟩ ⟨hv, hx6, hxm⟩ hsz
    have hW0 : Grew w0 W := hg6w.trans hg
    obtain ⟨Av, cv, rfl⟩ := ints_sliceN hv
    rw [hx6] at hv ⊢
    have HFO := Lib.hid (fun X (hX : Grew W X) => truthSet_c (.slice A1 A.length c1) (.slice Av 6 cv) (.slice A2 (Fm.enc t).length c2) A x t X (h.grew ((HG0.out.1.trans hW0).trans hX)) (hv.grew hX) (ha.grew ((HG0.out.1.trans hW0).trans hX)) HA.out hxm hx6 hn)
    have HAL := Lib.hid (fun X => frameAll_c A.length (.slice A1 A.length c1) X ⟨_, _, _, rfl⟩ (by omega))
    have HX := Lib.hid (And.intro hall hg)
    have hWr := Grew.refl W
    have hWd : Grew w0 W.drew := hW0.drew
    clear hall hv hxm hg
    gi_wp2
    gi_region_with (first
      | (refine ⟨trivial, fun h => by simp [Fence.wide] at h, ?_⟩; gi_at_call 82; refine (CallsIn.inRound l (callsIn_wide.2 (HFO.out _ hWr.drew))).mono ?_; rintro e w1 ⟨rfl, hg1⟩; have hW1 : Grew w0 w1 := hWd.trans hg1; have hWg1 : Grew W w1 := hWr.drew.trans hg1)
      | (refine ⟨trivial, fun h => by simp [Fence.wide] at h, ?_⟩; gi_at_call 83; refine (CallsIn.inRound l (callsIn_wide.2 (HAL.out _))).mono ?_; rintro e w2 ⟨rfl, hg2⟩; have hWg2 : Grew W w2 := hWg1.trans hg2))
    all_goals
      have hW2 : Grew w0 w2 := hW0.trans hWg2
      by_cases he : mv A x t = full A.length
      · have hb : (((mv A x t : Nat) : Int) != ((full A.length : Nat) : Int)) = false := by simp [he]
        have HE := Lib.hid he
        clear he
        gi_wp2
        refine ⟨hWg2, fun y hy => ?_, HX.out.2.trans hWg2⟩
        rw [List.mem_append, List.mem_singleton] at hy
        rcases hy with hy | rfl
        · exact HX.out.1 y hy
        · exact HE.out
      · have hb : (((mv A x t : Nat) : Int) != ((full A.length : Nat) : Int)) = true := by simp; omega
        have HE := Lib.hid he
        have B3 := Lib.hid ((hW2.block (by have := HG0.out.2; omega)).trans HB.out)
        have d3 : w2.cell? ⟨w.heap.size + 1 + 1, 0, none⟩ = some (.bool false) := by rw [blk_cell B3.out]; rfl
        have f3 := blk_frozen B3.out 0
        clear he
        gi_wp2
        have hk0 : KeepsOthers W w2 := ⟨hWg2.size, fun i o hi _ => (hWg2.block (blk_ltO hi)).trans hi⟩
        refine ⟨hk0.trans (KeepsOthers.setCell _ _ _), ⟨x, by simp, HE.out⟩, ?_, ?_⟩
        · exact (Below.trans (Below.mono (HX.out.2.trans hWg2) (by have := HG0.out.2; have := hg6w.size; omega)) (Below.refl _ _)).setCell (p := ⟨w.heap.size + 1 + 1, 0, none⟩) (by show w.heap.size ≤ w.heap.size + 1 + 1; omega) _
        · exact blk_set B3.out 0 _
  case hIx =>
    rintro s X Y ⟨h1, h2, h3⟩ hb
    have hs := HG0.out.2
    have hs6 := hg6w.size
    exact ⟨h1, h2.trans (hb.mono (by omega)), (hb.block _ (by omega)).trans h3⟩
  case done =>
    rintro D xs W hD rfl ⟨hall, hg⟩ hK
    have hW3 : Grew w0 W := hg6w.trans hg
    have B3 := Lib.hid ((hW3.block (by have := HG0.out.2; omega)).trans HB.out)
    have d3 : W.cell? ⟨w.heap.size + 1 + 1, 0, none⟩ = some (.bool false) := by rw [blk_cell B3.out]; rfl
    have f3 := blk_frozen B3.out 0
    go_wp2_with fail
    have hkk : KeepsOthers W (W.setCell ⟨w.heap.size + 1 + 1, 0, none⟩ (.bool true)) := KeepsOthers.setCell _ _ _
    have hK2 := hkk.same _ _ hK rfl
    have b3 : (W.setCell ⟨w.heap.size + 1 + 1, 0, none⟩ (.bool true)).heap[w.heap.size + 1 + 1]? = some (.cells #[.bool true] 4 (0, 0)) := blk_set B3.out 0 _
    have hbl : Below w.heap.size w (W.setCell ⟨w.heap.size + 1 + 1, 0, none⟩ (.bool true)) :=
      (HG0.out.1.trans hW3).below.setCell (p := ⟨w.heap.size + 1 + 1, 0, none⟩) (by show w.heap.size ≤ w.heap.size + 1 + 1; omega) _
    generalize W.setCell ⟨w.heap.size + 1 + 1, 0, none⟩ (.bool true) = wz at *
    rw [hvars, vldB_yes hall]
    have hD2 : ∀ k, k < w.heap.size + 3 → k ≠ D := fun k hk => by have := HG0.out.2; have := hg6w.size; omega
    refine ⟨by simp, .inl ⟨_, _, rfl, run_takeDeferred hK2, ?_⟩⟩
    refine ⟨_, results_cell1 rfl _ _ ⟨w.heap.size + 1 + 1, 0, none⟩ _ rfl
      (loadVar_one _ _ _ _ _ _ ((World.putObj_heap_other (hD2 _ (by omega))).trans b3) Tryz.underlying4 rfl), rfl, ?_⟩
    exact Below.trans hbl (below_putObj _ (by have := HG0.out.2; have := hg6w.size; omega) hK2)
  case stop =>
    rintro D pre W hD hpre ⟨⟨x, hx, hne⟩, hb, b3⟩ hK
    refine wpIn_wide.2 ?_
    go_wp2_with fail
    rw [hvars, vldB_no (hpre.subset hx) hne]
    have hD2 : ∀ k, k < w.heap.size + 3 → k ≠ D := fun k hk => by have := HG0.out.2; have := hg6w.size; omega
    refine ⟨by simp, .inl ⟨_, _, rfl, run_takeDeferred hK, ?_⟩⟩
    refine ⟨_, results_cell1 rfl _ _ ⟨w.heap.size + 1 + 1, 0, none⟩ _ rfl
      (loadVar_one _ _ _ _ _ _ ((World.putObj_heap_other (hD2 _ (by omega))).trans b3) Tryz.underlying4 rfl), rfl, ?_⟩
    have h06 : Below w.heap.size w w6 := (HG0.out.1.trans hg6w)
    exact Below.trans (Below.trans h06 hb) (below_putObj _ (by have := HG0.out.2; have := hg6w.size; omega) hK)
end Go.Proofs.YtpfncncohnhanaaGreatDoor


/- Intuitionistic consequence by Kripke models; the rules of a terminating search, each an equivalence; a measure. No program is in sight. -/
namespace Go.Proofs.YtpfncncohnhanaaGreatDoor
namespace Fm

structure Kr where
  W : Type
  le : W → W → Prop
  val : W → Fin 6 → Prop
  refl : ∀ w, le w w
  trans : ∀ {a b c}, le a b → le b c → le a c
  mono : ∀ {a b v}, le a b → val a v → val b v

namespace Kr
def force (K : Kr) : K.W → Tree → Prop
  | w, .var v => K.val w v
  | _, .fls => False
  | w, .and a b => K.force w a ∧ K.force w b
  | w, .or a b => K.force w a ∨ K.force w b
  | w, .imp a b => ∀ u, K.le w u → K.force u a → K.force u b
  | _, .box _ => False
  | _, .dia _ => False
end Kr

def Ent (G : Tree → Prop) (c : Tree) : Prop := ∀ (K : Kr) (w : K.W), (∀ a, G a → K.force w a) → K.force w c
theorem Ent.congr {G H : Tree → Prop} {c : Tree} (h : ∀ a, G a ↔ H a) : Ent G c ↔ Ent H c := by
  have : G = H := funext fun a => propext (h a)
  rw [this]
end Fm
end Go.Proofs.YtpfncncohnhanaaGreatDoor


/- Formulas with one variable, plain: each is equivalent to falsity, truth or a formula of the Nishimura sequence; how far it lies in the sequence. No program is in sight. -/
namespace Go.Proofs.YtpfncncohnhanaaGreatDoor
namespace Fm

def Nis (K : Kr) : Nat → (K.W → Prop) × (K.W → Prop)
  | 0 => (fun _ => False, fun w => K.val w 0)
  | k + 1 => (fun w => (Nis K k).2 w ∨ (Nis K k).1 w, fun w => ∀ u, K.le w u → (Nis K k).2 u → (Nis K k).1 u)
def NX (K : Kr) (k : Nat) : K.W → Prop := (Nis K k).1
def NY (K : Kr) (k : Nat) : K.W → Prop := (Nis K k).2
section
variable {K : Kr}
theorem nis_mono : ∀ {k : Nat} {w u : K.W}, K.le w u → (NX K k w → NX K k u) ∧ (NY K k w → NY K k u)
  | 0, _, _, h => ⟨id, fun hv => K.mono h hv⟩
  | _ + 1, _, _, h => ⟨fun hx => hx.elim (fun a => .inl ((nis_mono h).2 a)) (fun a => .inr ((nis_mono h).1 a)), fun hy v hv => hy v (K.trans h hv)⟩
theorem nx_mono {k : Nat} {w u : K.W} (h : K.le w u) (hx : NX K k w) : NX K k u := (nis_mono h).1 hx
theorem ny_mono {k : Nat} {w u : K.W} (h : K.le w u) (hy : NY K k w) : NY K k u := (nis_mono h).2 hy
end

inductive NC where
  | top
  | x (k : Nat)
  | y (k : Nat)
def NC.den (K : Kr) : NC → K.W → Prop
  | .top, _ => True
  | .x k, w => NX K k w
  | .y k, w => NY K (k + 1) w
theorem NC.mono {K : Kr} {c : NC} {w u : K.W} (h : K.le w u) : c.den K w → c.den K u := by
  cases c with
  | top => exact id
  | x k => exact nx_mono h
  | y k => exact ny_mono h
def NC.and : NC → NC → NC
  | .top, c => c
  | c, .top => c
  | .x j, .x k => if j ≤ k then .x j else .x k
  | .x j, .y k => if j ≤ k then .x j else if j = k + 1 then .x k else .y k
  | .y k, .x j => if j ≤ k then .x j else if j = k + 1 then .x k else .y k
  | .y j, .y k => if j = k then .y j else if k = j + 1 then .x j else if j = k + 1 then .x k else if j < k then .y j else .y k
def NC.or : NC → NC → NC
  | .top, _ => .top
  | _, .top => .top
  | .x j, .x k => if j ≤ k then .x k else .x j
  | .x j, .y k => if j ≤ k then .y k else if j = k + 1 then .x (k + 2) else .x j
  | .y k, .x j => if j ≤ k then .y k else if j = k + 1 then .x (k + 2) else .x j
  | .y j, .y k => if j = k then .y j else if k = j + 1 then .x (j + 3) else if j = k + 1 then .x (k + 3) else if j < k then .y k else .y j
def NC.imp : NC → NC → NC
  | .top, c => c
  | _, .top => .top
  | .x j, .x k => if j ≤ k then .top else if j = k + 1 then .y k else .x k
  | .x j, .y k => if j ≤ k then .top else .y k
  | .y j, .x k => if j + 1 < k then .top else if k = j + 1 then .y (j + 1) else if k = j then .y (j + 1) else if k + 1 = j then .y k else .x k
  | .y j, .y k => if j = k then .top else if k = j + 1 then .y (j + 1) else if j < k then .top else .y k

section
variable {K : Kr}
end
end Fm
end Go.Proofs.YtpfncncohnhanaaGreatDoor


/- The values of formulas with one variable on the first 28 elements of the ladder, plain. No program is in sight. -/
namespace Go.Proofs.YtpfncncohnhanaaGreatDoor
open Go.RowKit
open Fm (Nd Tree Kr NC)

def krOf (A V : List Nat) (hr : ∀ x, x < A.length → (nt A x).testBit x = true) (ht : ∀ x y z, x < A.length → (nt A x).testBit y = true → (nt A y).testBit z = true → (nt A x).testBit z = true)
    (hV : ∀ v x y, x < A.length → (nt A x).testBit y = true → (nt V v).testBit x = true → (nt V v).testBit y = true) : Kr where
  W := { x : Nat // x < A.length }
  le x y := (nt A x.1).testBit y.1 = true
  val x v := (nt V v.val).testBit x.1 = true
  refl x := hr x.1 x.2
  trans {a b c} h1 h2 := ht a.1 b.1 c.1 a.2 h1 h2
  mono {a b v} h1 h2 := hV v.val a.1 b.1 a.2 h1 h2
def lad : List Nat := [1, 2, 5, 11, 23, 47, 95, 191, 383, 767, 1535, 3071, 6143, 12287, 24575, 49151, 98303, 196607, 393215, 786431, 1572863, 3145727, 6291455, 12582911, 25165823, 50331647, 100663295, 201326591]
theorem lad_len : lad.length = 28 := rfl
theorem lad_rl : Rl lad := ⟨by decide, by decide +kernel⟩
theorem lad_refl : ∀ x, x < lad.length → (nt lad x).testBit x = true := by decide +kernel
theorem lad_tr0 : ∀ x, x < 28 → ∀ y, y < 28 → (nt lad x).testBit y = true → ∀ z, z < 28 → (nt lad y).testBit z = true → (nt lad x).testBit z = true := by decide +kernel
theorem lad_trans : ∀ x y z, x < lad.length → (nt lad x).testBit y = true → (nt lad y).testBit z = true → (nt lad x).testBit z = true := fun x y z hx hy hz => by
  have h1 := lad_rl.bit hx hy
  have h2 := lad_rl.bit h1 hz
  rw [lad_len] at *
  exact lad_tr0 x hx y h1 hy z h2 hz
def lv : List Nat := [1, 0, 0, 0, 0, 0]
theorem lv_up : ∀ v x y, x < lad.length → (nt lad x).testBit y = true → (nt lv v).testBit x = true → (nt lv v).testBit y = true := by
  intro v x y hx hy hv
  rcases Nat.lt_or_ge v 6 with h | h
  · have k : ∀ v, v < 6 → ∀ x, x < 28 → (nt lv v).testBit x = true → ∀ y, y < 28 → (nt lad x).testBit y = true → (nt lv v).testBit y = true := by decide +kernel
    exact k v h x hx hv y (lad_rl.bit hx hy) hy
  · have : nt lv v = 0 := by unfold nt; rw [List.getD_eq_getElem?_getD, List.getElem?_eq_none (by simpa [lv] using h)]; rfl
    rw [this] at hv; simp at hv
noncomputable def KL : Kr := krOf lad lv lad_refl lad_trans lv_up
end Go.Proofs.YtpfncncohnhanaaGreatDoor


/- Formulas with the first variable alone, plain: the code of a list of nodes. No program is in sight. -/
namespace Go.Proofs.YtpfncncohnhanaaGreatDoor
open Go.RowKit
open Fm (Nd Tree)

theorem kd_get {xs : List Nd} {i : Nat} (hi : i < xs.length) : kd xs i = (xs[i]).1 ∧ sy xs i = (xs[i]).2 := ⟨by simp [kd, List.getD, hi], by simp [sy, List.getD, hi]⟩
theorem vs_enc (t : Tree) : Vs (Fm.enc t) := by
  intro i hi h0
  obtain ⟨e1, e2⟩ := kd_get hi
  rw [e1] at h0
  rw [e2]
  rcases enc_nd t _ (List.getElem_mem hi) with h | h | h | h | h | h | h
  · obtain ⟨_, v, h2, h3⟩ := h; omega
  all_goals (rw [h] at h0; exact absurd h0 (by decide))
theorem vs_fm {xs : List Nd} (h : fmB xs = true) : Vs xs := by
  obtain ⟨t, rfl, _⟩ := fmB_tree h
  exact vs_enc t
end Go.Proofs.YtpfncncohnhanaaGreatDoor


/- The program's RefutingFrame. -/
namespace Go.Proofs.YtpfncncohnhanaaGreatDoor
open Go.RowKit
open Fm (Nd Tree)

theorem results_cell_tmp_rowF {P : Program} {fn : Func} {p u : Tmp} {ty : TypeId} (h : fn.results = #[.cell p ty, .tmp u]) (tmps : Array Value) (w : World) (g : Nat) (t : TypeId) (cs : Array Value) (fr : Nat × Nat) (d : TypeDesc)
    (hp : tmps.getD p undef = .pointer (some ⟨g, 0, none⟩)) (hg : w.heap[g]? = some (.cells cs t fr))
    (hu : P.underlying ty = some d) (hd : (match d with | .struct _ | .array _ _ => true | _ => false) = true) (hi : (P.info? ty).map (·.size) = some cs.size) :
    (results fn tmps).run P w = .ok (.tuple #[.agg cs, tmps.getD u undef]) w := by
  have hp' : tmps[p]?.getD undef = .pointer (some ⟨g, 0, none⟩) := by simpa using hp
  simp [results, h, hp', asAddr, run_loadVar_row w g t ty cs fr d hg hu hd hi]

def GivesRg (w : World) (s : ByteArray) (xs : List Nd) (e : Ending) (w' : World) : Prop :=
  ∃ v, e = .returned (.tuple #[.agg #[.int .i64 ((rgF s xs).2.length : Int), v], .int .i64 (rgF s xs).1]) ∧ OwnI w' w.heap.size v (zs (rgF s xs).2) ∧ Grew w w'
theorem givesRg_nil {w w' : World} {s : ByteArray} {xs : List Nd} {c : Int} (h : rgF s xs = (c, [])) (hg : Grew w w') : GivesRg w s xs (.returned (.tuple #[.agg #[.int .i64 0, .slice none 0 0], .int .i64 c])) w' :=
  ⟨.slice none 0 0, by rw [h]; rfl, by rw [h]; exact World.ownsRow_nil w' _ _ 1, hg⟩

set_option maxHeartbeats 2000000 in
theorem refutingFrame_i (s : ByteArray) (va : Value) (xs : List Nd) (w : World) (ha : Nodes w va xs) (hn : xs.length ≤ 1048576) (hN : TabAt w 1 axNames) (hT : TabAt w 2 lgTab) :
    Calls Tryz.prog 9 #[.string s, va] w (GivesRg w s xs) := by
  have hinfo := info2F
  have HF := Lib.hid (fun W (hW : Grew w W) => isFormula_g va xs W (ha.grew hW) (by omega))
  have HPl := Lib.hid (fun W (hW : Grew w W) => isLogic_lg s W (hT.grew hW))
  have HTN := Lib.hid (And.intro hN hT)
  clear hN hT
  obtain ⟨w0, hw0⟩ : ∃ w0, w0 = w.alloc (.cells #[.int .i64 0, .slice none 0 0] 26) := ⟨_, rfl⟩
  have hg0 : Grew w w0 := by rw [hw0]; exact (Grew.refl w).alloc _
  have HB0 := Lib.hid (show w0.heap[w.heap.size]? = some (.cells #[.int .i64 0, .slice none 0 0] 26 (0, 0)) by rw [hw0]; exact blk_new w _)
  have HA := Lib.hid ha
  obtain ⟨A1, c1, rfl⟩ := nodes_slice ha
  clear ha
  have hnx := hn
  generalize hxl : xs.length = nx at HF hn ⊢
  cases hf : fmB xs with
  | false =>
    have hR := Lib.hid (rgF_bad (s := s) hf)
    rw [hf] at HF
    go_enter Tryz.func9, Tryz.ntmps9
    go_wp2_with fail
    simp only [← hw0]
    clear hw0
    refine (HF.out _ hg0).mono ?_
    rintro e w2 ⟨rfl, hg2⟩
    have hb2 := ((hg2).block (blk_lt HB0.out)).trans HB0.out
    have q0 : w2.cell? ⟨w.heap.size, 0, none⟩ = some (.int .i64 0) := by rw [blk_cell hb2]; rfl
    have q1 : w2.cell? ⟨w.heap.size, 1, none⟩ = some (.slice none 0 0) := by rw [blk_cell hb2]; rfl
    have qf0 := blk_frozen hb2 0
    have qf1 := blk_frozen hb2 1
    have HB2 := Lib.hid hb2
    clear hb2
    go_wp2_with fail
    (try simp only [Exit.inBlock, Exit.then])
    refine bodyPost_ret (results_cell_tmp_rowF rfl _ _ w.heap.size _ _ _ _ rfl (blk_set (blk_set HB2.out 0 _) 1 _) Tryz.underlying26 rfl hinfo) rfl ?_
    exact givesRg_nil hR.out (((hg0.trans (hg2)).setCell (Nat.le_refl _) _).setCell (Nat.le_refl _) _)
  | true =>
    rw [hf] at HF
    rcases findS_range lgNames s with hbx | ⟨k, hk, hbx⟩
    · have hR := Lib.hid (rgF_name hf hbx)
      have hdd : decide (0 ≤ findS lgNames s) = false := by rw [hbx]; rfl
      rw [hdd] at HPl
      clear hf hbx hdd
      go_enter Tryz.func9, Tryz.ntmps9
      go_wp2_with fail
      simp only [← hw0]
      clear hw0
      refine (HF.out _ hg0).mono ?_
      rintro e w2 ⟨rfl, hg2⟩
      go_wp2_with fail
      refine (HPl.out _ (hg0.trans hg2)).mono ?_
      rintro e w3 ⟨rfl, hg3⟩
      have hb2 := ((hg2.trans hg3).block (blk_lt HB0.out)).trans HB0.out
      have q0 : w3.cell? ⟨w.heap.size, 0, none⟩ = some (.int .i64 0) := by rw [blk_cell hb2]; rfl
      have q1 : w3.cell? ⟨w.heap.size, 1, none⟩ = some (.slice none 0 0) := by rw [blk_cell hb2]; rfl
      have qf0 := blk_frozen hb2 0
      have qf1 := blk_frozen hb2 1
      have HB2 := Lib.hid hb2
      clear hb2
      go_wp2_with fail
      (try simp only [Exit.inBlock, Exit.then])
      refine bodyPost_ret (results_cell_tmp_rowF rfl _ _ w.heap.size _ _ _ _ rfl (blk_set (blk_set HB2.out 0 _) 1 _) Tryz.underlying26 rfl hinfo) rfl ?_
      exact givesRg_nil hR.out (((hg0.trans (hg2.trans hg3)).setCell (Nat.le_refl _) _).setCell (Nat.le_refl _) _)
    · have hdd : decide (0 ≤ findS lgNames s) = true := by rw [hbx]; exact decide_eq_true (by omega)
      rw [hdd] at HPl
      rw [lgNames_len] at hk
      clear hdd
      have hvs := vs_fm hf
      have HVI := Lib.hid (fun b W (hc : W.cell? ⟨b, 0, none⟩ = some (Value.slice A1 xs.length c1)) (hb : b < W.heap.size) (hW : Grew w W) => variablesIn_one_c b _ xs W hc hb (HA.out.grew hW) hvs hnx)
      have HMF := Lib.hid (And.intro hf hbx)
      have hR3 := Lib.hid (rgF_many (k := k) hf hbx)
      rw [hxl] at HVI
      clear hf hbx hvs
      go_enter Tryz.func9, Tryz.ntmps9
      go_wp2_with fail
      simp only [← hw0]
      clear hw0
      refine (HF.out _ hg0).mono ?_
      rintro e w2 ⟨rfl, hg2⟩
      go_wp2_with fail
      refine (HPl.out _ (hg0.trans hg2)).mono ?_
      rintro e w3 ⟨rfl, hg3⟩
      go_wp2_with fail
      refine (HVI.out _ _ (by simp) (by simp) (((hg0.trans hg2).trans hg3).alloc _)).mono ?_
      rintro e w4 ⟨v4, rfl, hO4, hg4⟩
      have hg34 := (hg2.trans hg3).trans (((Grew.refl w3).alloc _).trans hg4)
      obtain ⟨A4, c4, rfl⟩ := ints_sliceN hO4.ints
      clear hO4
      by_cases hm : 3 < (mbs (vm xs)).length
      · have hR := Lib.hid (hR3.out hm)
        have hm' : (3 : Int) < ((mbs (vm xs)).length : Int) := by omega
        generalize (mbs (vm xs)).length = nm at *
        have hb2 := ((hg34).block (blk_lt HB0.out)).trans HB0.out
        have q0 : w4.cell? ⟨w.heap.size, 0, none⟩ = some (.int .i64 0) := by rw [blk_cell hb2]; rfl
        have q1 : w4.cell? ⟨w.heap.size, 1, none⟩ = some (.slice none 0 0) := by rw [blk_cell hb2]; rfl
        have qf0 := blk_frozen hb2 0
        have qf1 := blk_frozen hb2 1
        have HB2 := Lib.hid hb2
        clear hb2
        go_wp2_with fail
        (try simp only [Exit.inBlock, Exit.then])
        refine bodyPost_ret (results_cell_tmp_rowF rfl _ _ w.heap.size _ _ _ _ rfl (blk_set (blk_set HB2.out 0 _) 1 _) Tryz.underlying26 rfl hinfo) rfl ?_
        exact givesRg_nil hR.out (((hg0.trans (hg34)).setCell (Nat.le_refl _) _).setCell (Nat.le_refl _) _)
      · have hm' : ¬ (3 : Int) < ((mbs (vm xs)).length : Int) := by omega
        obtain ⟨t, rfl, h40⟩ := fmB_tree HMF.out.1
        have hGO := Lib.hid (rgF_go (k := k) HMF.out.1 HMF.out.2 hm)
        have HV := Lib.hid (fun v A W (h : Ints W v (zs A)) (hW : Grew w W) hA (h8 : A.length ≤ 3) => frameValid_c v _ A t W h (HA.out.grew hW) hA (by omega) (vs_enc t) hnx (Nat.le_trans (Nat.mul_le_mul h8 (show _ ≤ 3 by omega)) (by decide)))
        have HIF := Lib.hid (fun v A W (h : Ints W v (zs A)) (hW : Grew w W) hA (h8 : A.length ≤ 3) => isFrameOf_c v A s k W h hA (by omega) (HTN.out.1.grew hW) (HTN.out.2.grew hW) hk HMF.out.2)
        rw [hxl] at HV
        have HSP := Lib.hid (smallFrames_c w4)
        clear hm HF HPl HVI HMF hR3 HA hxl HTN hk
        generalize (mbs (vm (Fm.enc t))).length = nm at *
        have hcgt : decide ((3 : Int) < (nm : Int)) = false := decide_eq_false hm'
        go_wp2_with (go_at_call 36; refine (HSP.out).mono ?_; rintro e w5 ⟨v5, rfl, hO5, hg5⟩; obtain ⟨A5, c5, rfl⟩ := hO5.slice; have HO5 := Lib.hid hO5; clear hO5; obtain ⟨pl, hpl⟩ : ∃ pl, pl = (sfrs 4).length := ⟨_, rfl⟩; rw [← hpl] at HO5 ⊢; have HPL := Lib.hid hpl; clear hpl)
        have hO5 := HO5.out
        have hPL := HPL.out
        have HAT := Lib.hid (fun i (hi : i < pl) => hO5.at_ (i := i) (by rw [← hPL]; exact hi))
        rw [← hPL] at HAT
        have HMEM := Lib.hid (fun i (hi : i < pl) => sfrs_ok (k := 4) (by omega) (show (sfrs 4).getD i [] ∈ sfrs 4 by rw [hPL] at hi; simp [List.getD, hi]))
        have HTK := Lib.hid (fun i (hi : i < pl) => take_next (L := sfrs 4) [] (by rw [← hPL]; exact hi))
        have HSPL := Lib.hid (fun i (hi : i < pl) => (show (sfrs 4).take i ++ (sfrs 4).getD i [] :: (sfrs 4).drop (i + 1) = sfrs 4 by rw [← List.singleton_append, ← List.append_assoc, ← take_next [] (by rw [← hPL]; exact hi), List.take_append_drop]))
        have HALL : Hid ((sfrs 4).take pl = sfrs 4) := Lib.hid (by rw [hPL]; exact List.take_length)
        have hg05 := hg34.trans hg5
        have hplb : pl ≤ 2048 := by rw [hPL]; exact sfrs_len (Nat.le_refl 4)
        have hs04 := (hg0.trans hg34).size
        have hs0 : w.heap.size < w0.heap.size := blk_lt HB0.out
        have hs34 := hg34.size
        clear hO5 HO5 HPL hPL HSP
        generalize sfrs 4 = P at *
        go_loopw [27] (fun i wr => ∃ j : Nat, j ≤ pl ∧ i = .int .i64 (j : Int) ∧ Grew w5 wr ∧ Hid (∀ B ∈ P.take j, rfgB k t B = false)) (fun i _ => pl - (intOf i).toNat)
        case atStart => exact ⟨0, by omega, rfl, Grew.refl _, Lib.hid (by simp)⟩
        case round =>
          obtain ⟨j, hj, rfl, hB, hN⟩ := hrel
          by_cases hlt : j < pl
          · obtain ⟨go, co, uo, he, hgo, hco, huo⟩ := HAT.out j hlt
            injection he with he1 _ he3
            subst he1 he3
            have hmem := HMEM.out j hlt
            have htk := Lib.hid (HTK.out j hlt)
            have hsp := Lib.hid (HSPL.out j hlt)
            have k0 := (hco wr hB).1
            have k1 := (hco wr hB).2
            generalize P.getD j [] = L at *
            have hUO := Lib.hid huo
            obtain ⟨Au, cu, rfl⟩ := ints_sliceN huo.ints
            have HUW := Lib.hid huo
            have hAr := hmem.2.1
            have hln : L.length ≤ 3 := by have := hmem.1; omega
            have hVV := Lib.hid (fun W (hW : Grew wr W) => HV.out _ _ W (huo.ints.grew (hB.trans hW)) ((hg0.trans hg05).trans (hB.trans hW)) hAr hln)
            have hII := Lib.hid (fun W (hW : Grew wr W) => HIF.out _ _ W (huo.ints.grew (hB.trans hW)) ((hg0.trans hg05).trans (hB.trans hW)) hAr hln)
            clear huo hco hmem
            have hb5 := blk_new wr (.cells #[.int .i64 (L.length : Int), .slice Au L.length cu] 26)
            have hal := (Grew.refl wr).alloc (.cells #[.int .i64 (L.length : Int), .slice Au L.length cu] 26)
            have hskip : rfgB k t L = false → Hid (∀ B ∈ P.take (j + 1), rfgB k t B = false) := fun hr => Lib.hid (by
                rw [htk.out]
                intro B hB
                rcases List.mem_append.1 hB with h | h
                · exact hN.out B h
                · rw [List.mem_singleton] at h; rw [h]; exact hr)
            by_cases hpos : 0 < L.length
            · have hpos2 : (0 : Int) < (L.length : Int) := by omega
              cases hlb : lgB k L with
              | false =>
                have hN2 := hskip (rfgB_no hlb)
                rw [hlb] at hII
                clear hskip hlb hAr
                go_wp2_with fail
                refine (hII.out _ hal).mono ?_
                rintro e w7 ⟨rfl, hg7⟩
                have hB7 := hB.trans (hal.trans hg7)
                go_wp2_with fail
                go_roundw
                case rel => exact ⟨j + 1, by omega, by go_num, hB7, hN2⟩
                case measure => simp [intOf]; omega
              | true =>
                have hre := rfgB_yes (t := t) hpos hlb
                rw [hlb] at hII
                clear hlb hAr
                cases hvl : vldB L (mbs (vm (Fm.enc t))) t with
                | true =>
                  have hN2 := hskip (by rw [hre, hvl]; rfl)
                  rw [hvl] at hVV
                  clear hskip hvl hre
                  go_wp2_with fail
                  refine (hII.out _ hal).mono ?_
                  rintro e w7 ⟨rfl, hg7⟩
                  have hb7 := (hg7.block (blk_lt hb5)).trans hb5
                  have hB7 := hB.trans (hal.trans hg7)
                  have p0 : w7.cell? ⟨wr.heap.size, 0, none⟩ = some (.int .i64 (L.length : Int)) := by rw [blk_cell hb7]; rfl
                  have p1 : w7.cell? ⟨wr.heap.size, 1, none⟩ = some (.slice Au L.length cu) := by rw [blk_cell hb7]; rfl
                  go_wp2_with fail
                  refine (hVV.out _ (hal.trans hg7)).mono ?_
                  rintro e w8 ⟨rfl, hg8⟩
                  have hB8 := hB7.trans hg8
                  go_wp2_with fail
                  go_roundw
                  case rel => exact ⟨j + 1, by omega, by go_num, hB8, hN2⟩
                  case measure => simp [intOf]; omega
                | false =>
                  have hr : rfgB k t L = true := by rw [hre, hvl]; rfl
                  have hR : Hid (rgF s (Fm.enc t) = (0, L)) := Lib.hid (by rw [hGO.out, ← hsp.out]; exact firstG_hit hN.out hr)
                  rw [hvl] at hVV
                  clear hskip hvl hre hr
                  go_wp2_with fail
                  refine (hII.out _ hal).mono ?_
                  rintro e w7 ⟨rfl, hg7⟩
                  have hb7 := (hg7.block (blk_lt hb5)).trans hb5
                  have hB7 := hB.trans (hal.trans hg7)
                  have p0 : w7.cell? ⟨wr.heap.size, 0, none⟩ = some (.int .i64 (L.length : Int)) := by rw [blk_cell hb7]; rfl
                  have p1 : w7.cell? ⟨wr.heap.size, 1, none⟩ = some (.slice Au L.length cu) := by rw [blk_cell hb7]; rfl
                  go_wp2_with fail
                  refine (hVV.out _ (hal.trans hg7)).mono ?_
                  rintro e w8 ⟨rfl, hg8⟩
                  have hb8 := (hg8.block (blk_lt hb7)).trans hb7
                  have hB8 := hB7.trans hg8
                  have p2 : w8.cell? ⟨wr.heap.size, 0, none⟩ = some (.int .i64 (L.length : Int)) := by rw [blk_cell hb8]; rfl
                  have p3 : w8.cell? ⟨wr.heap.size, 1, none⟩ = some (.slice Au L.length cu) := by rw [blk_cell hb8]; rfl
                  have hb2 := ((hg05.trans hB8).block (blk_lt HB0.out)).trans HB0.out
                  have q0 : w8.cell? ⟨w.heap.size, 0, none⟩ = some (.int .i64 0) := by rw [blk_cell hb2]; rfl
                  have q1 : w8.cell? ⟨w.heap.size, 1, none⟩ = some (.slice none 0 0) := by rw [blk_cell hb2]; rfl
                  have qf0 := blk_frozen hb2 0
                  have qf1 := blk_frozen hb2 1
                  have HB2 := Lib.hid hb2
                  clear hb2 hb7 hb5 hb8 p0 p1
                  go_wp2_with fail
                  (try simp only [Exit.inBlock, Exit.then])
                  refine bodyPost_ret (results_cell_tmp_rowF rfl _ _ w.heap.size _ _ _ _ rfl (blk_set (blk_set HB2.out 0 _) 1 _) Tryz.underlying26 rfl hinfo) rfl ?_
                  have hk9 : Only w.heap.size w8 ((w8.setCell ⟨w.heap.size, 0, none⟩ (.int .i64 (L.length : Int))).setCell ⟨w.heap.size, 1, none⟩ (.slice Au L.length cu)) := ((Only.refl _ _).setCell _).setCell _
                  have hO9 := own_only (HUW.out.grew hB8) hk9 (fun hh => by have := own_of_ge HUW.out hh; omega)
                  exact ⟨_, by rw [hR.out]; rfl, by rw [hR.out]; exact own_base hO9 (by omega), ((hg0.trans (hg05.trans hB8)).setCell (Nat.le_refl _) _).setCell (Nat.le_refl _) _⟩
            · have hN2 := hskip (rfgB_nil hpos)
              have hL0 : L = [] := List.eq_nil_of_length_eq_zero (by omega)
              clear hskip hpos hln HUW hVV hII hAr hb5
              subst hL0
              have k0' : wr.cell? ⟨go, j * 2, none⟩ = some (.int .i64 0) := k0
              have k1' : wr.cell? ⟨go, j * 2 + 1, none⟩ = some (.slice Au 0 cu) := k1
              have hal' := (Grew.refl wr).alloc (.cells #[.int .i64 0, .slice Au 0 cu] 26)
              clear k0 k1 hal
              go_wp2_with fail
              go_roundw
              case rel => exact ⟨j + 1, by omega, by go_num, hB.trans hal', hN2⟩
              case measure => simp [intOf]; omega
          · obtain rfl : j = pl := by omega
            have hR : Hid (rgF s (Fm.enc t) = (4, [])) := Lib.hid (by rw [hGO.out]; have h := hN.out; rw [HALL.out] at h; exact firstG_none h)
            have hb2 := ((hg05.trans hB).block (blk_lt HB0.out)).trans HB0.out
            have q0 : wr.cell? ⟨w.heap.size, 0, none⟩ = some (.int .i64 0) := by rw [blk_cell hb2]; rfl
            have q1 : wr.cell? ⟨w.heap.size, 1, none⟩ = some (.slice none 0 0) := by rw [blk_cell hb2]; rfl
            have qf0 := blk_frozen hb2 0
            have qf1 := blk_frozen hb2 1
            have HB2 := Lib.hid hb2
            clear hb2
            go_wp2_with fail
            (try simp only [Exit.inBlock, Exit.then])
            refine bodyPost_ret (results_cell_tmp_rowF rfl _ _ w.heap.size _ _ _ _ rfl (blk_set (blk_set HB2.out 0 _) 1 _) Tryz.underlying26 rfl hinfo) rfl ?_
            exact givesRg_nil hR.out (((hg0.trans (hg05.trans hB)).setCell (Nat.le_refl _) _).setCell (Nat.le_refl _) _)
end Go.Proofs.YtpfncncohnhanaaGreatDoor


/- The reference's logics: l09Logics, l09Axioms, l09Each, l09Of. -/
namespace Go.Proofs.YtpfncncohnhanaaGreatDoor
open Go.RowKit

theorem l09Logics_c (w : World) : Calls Tryz.prog 28 #[] w (GivesS w lgNames) := by
  have h := OwnS.lit w w.heap.size lgNames #[.string ⟨#[68]⟩, .string ⟨#[68, 52]⟩, .string ⟨#[71, 76]⟩, .string ⟨#[71, 114, 122]⟩, .string ⟨#[75]⟩, .string ⟨#[75, 52]⟩, .string ⟨#[75, 52, 53]⟩, .string ⟨#[75, 66]⟩, .string ⟨#[75, 68, 52, 53]⟩, .string ⟨#[83, 52]⟩, .string ⟨#[83, 52, 50]⟩, .string ⟨#[83, 52, 51]⟩, .string ⟨#[83, 53]⟩, .string ⟨#[84]⟩, .string ⟨#[84, 114, 105, 118]⟩, .string ⟨#[86, 101, 114]⟩] (Nat.le_refl _) (by rw [lgNames_len]; omega) rfl
  rw [lgNames_len] at h
  go_enter Tryz.func28, Tryz.ntmps28
  go_wp2_with fail
  go_ret
  exact ⟨_, rfl, h, (Grew.refl w).alloc _⟩
def litW : World → List (List ByteArray) → World
  | w, [] => w
  | w, L :: Ls => litW (w.alloc (.cells (L.map Value.string).toArray 9)) Ls
theorem litW_grew : ∀ (Ls : List (List ByteArray)) (w : World), Grew w (litW w Ls)
  | [], w => Grew.refl w
  | L :: Ls, w => ((Grew.refl w).alloc _).trans (litW_grew Ls _)
theorem litW_size : ∀ (Ls : List (List ByteArray)) (w : World), (litW w Ls).heap.size = w.heap.size + Ls.length
  | [], w => rfl
  | L :: Ls, w => by
    show (litW (w.alloc _) Ls).heap.size = _
    rw [litW_size Ls]
    simp
    omega
theorem litW_at : ∀ (Ls : List (List ByteArray)) (w V : World), Grew (litW w Ls) V → ∀ (k : Nat) (L : List ByteArray), Ls[k]? = some L → L.length ≤ 1048576 → Strs V (.slice (some ⟨w.heap.size + k, 0, none⟩) L.length L.length) L
  | [], _, _, _, _, _, hk, _ => by simp at hk
  | M :: Ls, w, V, hg, 0, L, hk, hl => by
    simp at hk
    subst hk
    have h := OwnS.lit w w.heap.size M (M.map Value.string).toArray (Nat.le_refl _) (by omega) (by simp [scells])
    exact (h.grew ((litW_grew Ls _).trans hg)).strs
  | M :: Ls, w, V, hg, k + 1, L, hk, hl => by
    have := litW_at Ls (w.alloc (.cells (M.map Value.string).toArray 9)) V hg k L (by simpa using hk) hl
    rw [show (w.alloc (.cells (M.map Value.string).toArray 9)).heap.size = w.heap.size + 1 by simp] at this
    rw [show w.heap.size + (k + 1) = w.heap.size + 1 + k by omega]
    exact this
def lgLits : List (List ByteArray) := (List.range 16).map fun k => (lgAx k).map (st axNames)
def outC (b : Nat) (Ls : List (List ByteArray)) : List Value := (List.range Ls.length).map fun i => .slice (some ⟨b + i, 0, none⟩) (Ls.getD i []).length (Ls.getD i []).length
theorem lits_at (w V : World) (hg : Grew (((((((((((((((((w.alloc (.cells #[.string ⟨#[68]⟩] 9)).alloc (.cells #[.string ⟨#[52]⟩, .string ⟨#[68]⟩] 9)).alloc (.cells #[.string ⟨#[76]⟩] 9)).alloc (.cells #[.string ⟨#[90]⟩] 9)).alloc (.cells #[] 9)).alloc (.cells #[.string ⟨#[52]⟩] 9)).alloc (.cells #[.string ⟨#[52]⟩, .string ⟨#[53]⟩] 9)).alloc (.cells #[.string ⟨#[66]⟩] 9)).alloc (.cells #[.string ⟨#[52]⟩, .string ⟨#[53]⟩, .string ⟨#[68]⟩] 9)).alloc (.cells #[.string ⟨#[52]⟩, .string ⟨#[84]⟩] 9)).alloc (.cells #[.string ⟨#[52]⟩, .string ⟨#[71]⟩, .string ⟨#[84]⟩] 9)).alloc (.cells #[.string ⟨#[52]⟩, .string ⟨#[72]⟩, .string ⟨#[84]⟩] 9)).alloc (.cells #[.string ⟨#[53]⟩, .string ⟨#[84]⟩] 9)).alloc (.cells #[.string ⟨#[84]⟩] 9)).alloc (.cells #[.string ⟨#[84]⟩, .string ⟨#[88]⟩] 9)).alloc (.cells #[.string ⟨#[86]⟩] 9)).alloc (.cells #[.slice (some ⟨w.heap.size, 0, none⟩) 1 1, .slice (some ⟨w.heap.size + 1, 0, none⟩) 2 2, .slice (some ⟨w.heap.size + 2, 0, none⟩) 1 1, .slice (some ⟨w.heap.size + 3, 0, none⟩) 1 1, .slice (some ⟨w.heap.size + 4, 0, none⟩) 0 0, .slice (some ⟨w.heap.size + 5, 0, none⟩) 1 1, .slice (some ⟨w.heap.size + 6, 0, none⟩) 2 2, .slice (some ⟨w.heap.size + 7, 0, none⟩) 1 1, .slice (some ⟨w.heap.size + 8, 0, none⟩) 3 3, .slice (some ⟨w.heap.size + 9, 0, none⟩) 2 2, .slice (some ⟨w.heap.size + 10, 0, none⟩) 3 3, .slice (some ⟨w.heap.size + 11, 0, none⟩) 3 3, .slice (some ⟨w.heap.size + 12, 0, none⟩) 2 2, .slice (some ⟨w.heap.size + 13, 0, none⟩) 1 1, .slice (some ⟨w.heap.size + 14, 0, none⟩) 2 2, .slice (some ⟨w.heap.size + 15, 0, none⟩) 1 1] 53)) V) (k : Nat) (hk : k < 16) :
    ∃ u, V.cell? ⟨w.heap.size + 16, k, none⟩ = some u ∧ Strs V u ((lgAx k).map (st axNames)) := by
  have hg' : Grew ((litW w lgLits).alloc (.cells (outC w.heap.size lgLits).toArray 53)) V := hg
  have hs : (litW w lgLits).heap.size = w.heap.size + 16 := litW_size lgLits w
  have hl : (lgLits.getD k []) = (lgAx k).map (st axNames) := by
    unfold lgLits
    simp [List.getD, hk]
  have hgl : lgLits[k]? = some ((lgAx k).map (st axNames)) := by
    unfold lgLits
    simp [hk]
  refine ⟨.slice (some ⟨w.heap.size + k, 0, none⟩) ((lgAx k).map (st axNames)).length ((lgAx k).map (st axNames)).length, ?_, litW_at lgLits w V (((Grew.refl _).alloc _).trans hg') k _ hgl (by rw [List.length_map]; have := lgAx_len hk; omega)⟩
  have hb := blk_new (litW w lgLits) (.cells (outC w.heap.size lgLits).toArray 53)
  rw [hs] at hb
  rw [blk_cell ((hg'.block (blk_lt hb)).trans hb)]
  have h2 : (outC w.heap.size lgLits)[k]? = some (.slice (some ⟨w.heap.size + k, 0, none⟩) ((lgAx k).map (st axNames)).length ((lgAx k).map (st axNames)).length) := by
    unfold outC
    rw [List.getElem?_map, List.getElem?_range (by exact hk), Option.map_some, hl]
  simpa using h2
set_option maxHeartbeats 2000000 in
theorem l09Axioms_c (s : ByteArray) (k : Nat) (w : World) (hk : k < 16) (hf : findS lgNames s = (k : Int)) :
    Calls Tryz.prog 114 #[.string s] w fun e w' => ∃ v, e = .returned v ∧ Strs w' v ((lgAx k).map (st axNames)) ∧ Grew w w' := by
  have HF := Lib.hid (fun v W (h : Strs W v lgNames) => l09Find_c v lgNames s W h (by rw [lgNames_len]; omega))
  rw [hf] at HF
  have HLA := Lib.hid (fun V hg => lits_at w V hg k hk)
  clear hf
  generalize (lgAx k).map (st axNames) = K at *
  go_enter Tryz.func114, Tryz.ntmps114
  go_wp2_with fail
  refine (l09Logics_c _).mono ?_
  rintro e w2 ⟨v2, rfl, ho2, hg2⟩
  have HF2 := Lib.hid (HF.out _ _ ho2.strs)
  obtain ⟨A2, c2, rfl⟩ := strs_slice ho2.strs
  clear ho2
  go_wp2_with fail
  refine (HF2.out).mono ?_
  rintro e w3 ⟨rfl, hg3⟩
  obtain ⟨u, hu, hS⟩ := HLA.out w3 (hg2.trans hg3)
  have hgw : Grew w w3 := (((litW_grew lgLits w).trans ((Grew.refl _).alloc (.cells (outC w.heap.size lgLits).toArray 53))).trans hg2).trans hg3
  have hu2 : w3.cell? ⟨w.heap.size + 1 + 1 + 1 + 1 + 1 + 1 + 1 + 1 + 1 + 1 + 1 + 1 + 1 + 1 + 1 + 1, k, none⟩ = some u := hu
  obtain ⟨A3, c3, rfl⟩ := strs_slice hS
  have HS := Lib.hid hS
  clear hS hu hg2 hg3
  generalize hwk : w.heap.size + 1 + 1 + 1 + 1 + 1 + 1 + 1 + 1 + 1 + 1 + 1 + 1 + 1 + 1 + 1 + 1 = gk at *
  clear hwk
  go_wp2_with fail
  go_ret
  exact ⟨_, rfl, HS.out, hgw⟩
theorem l09Each_c (v u : Value) (A : List Nat) (k : Nat) (w : World) (h : Ints w v (zs A)) (hA : Rl A) (hu : Strs w u ((lgAx k).map (st axNames))) (hk : k < 16) :
    Calls Tryz.prog 113 #[.agg #[.int .i64 (A.length : Int), v], u] w fun e w' => e = .returned (.bool (lgB k A)) ∧ Grew w w' := by
  have hal := (Grew.refl w).alloc (.cells #[.int .i64 (A.length : Int), v] 26)
  have y0 : ∀ W, Grew (w.alloc (.cells #[.int .i64 (A.length : Int), v] 26)) W → W.cell? ⟨w.heap.size, 0, none⟩ = some (.int .i64 (A.length : Int)) := fun W hW => (hW.cell (p := ⟨w.heap.size, 0, none⟩) (by simp)).trans (by simp)
  have y1 : ∀ W, Grew (w.alloc (.cells #[.int .i64 (A.length : Int), v] 26)) W → W.cell? ⟨w.heap.size, 1, none⟩ = some v := fun W hW => (hW.cell (p := ⟨w.heap.size, 1, none⟩) (by simp)).trans (by simp)
  have HX := Lib.hid (fun W (hW : Grew w W) i (hi : i < 13) => axHoldsS_c v A (st axNames i) i W (h.grew hW) hA (findS_ax hi) hi)
  have hlt := @lgAx_lt k
  have hl3 := lgAx_len hk
  have hst : ∀ j, j < (lgAx k).length → st ((lgAx k).map (st axNames)) j = st axNames ((lgAx k).getD j 0) := fun j hj => by
    rw [← st_get (by rw [List.length_map]; exact hj), List.getElem_map]
    simp [List.getD, hj]
  have hget : ∀ j, j < (lgAx k).length → (lgAx k).getD j 0 < 13 := fun j hj => hlt _ (by simp [List.getD, hj])
  have HG := Lib.hid hal
  have HLB : Hid (lgB k A = (lgAx k).all (axB A)) := Lib.hid rfl
  rw [HLB.out]
  have hlm : ((lgAx k).map (st axNames)).length = (lgAx k).length := List.length_map _
  obtain ⟨A1, c1, rfl⟩ := ints_sliceN h
  clear h hA hlt HLB
  generalize (lgAx k).map (st axNames) = K at *
  generalize lgAx k = L at *
  have HTK := Lib.hid (fun j (hj : j < L.length) => @take_next Nat L j 0 hj)
  have hAL : Hid ((L.take L.length).all (axB A) = L.all (axB A)) := Lib.hid (by rw [List.take_length])
  rcases hu.open_ with ⟨rfl, rfl⟩ | ⟨b, o, c, rfl, hc, hm, hb, hcell⟩
  · have hL0 : L = [] := List.eq_nil_of_length_eq_zero (by rw [← hlm]; rfl)
    subst hL0
    clear HX hst hget HTK hAL
    generalize A.length = n at *
    go_enter Tryz.func113, Tryz.ntmps113
    go_wp2_with fail
    refine wp_loop_rounds 1 ?_; rw [rounds_succ]
    go_wp2_with fail
    go_ret
    exact ⟨rfl, HG.out⟩
  · rw [hlm] at hcell hc ⊢
    have HC := Lib.hid (fun j (hj : j < L.length) W (hW : Grew w W) => (hcell j hj W hW).trans (by rw [hst j hj]))
    have HX2 := Lib.hid (fun W (hW : Grew w W) j (hj : j < L.length) => HX.out W hW _ (hget j hj))
    have HAS := Lib.hid (fun j (hj : j < L.length) (h1 : (L.take j).all (axB A) = true) => (show (L.take (j + 1)).all (axB A) = axB A (L.getD j 0) from by rw [HTK.out j hj, List.all_append, h1]; simp))
    have HNO := Lib.hid (fun j (hj : j < L.length) (h1 : axB A (L.getD j 0) = false) => (show L.all (axB A) = false from by
      rw [List.all_eq_false]
      exact ⟨L.getD j 0, by simp [List.getD, hj], by rw [h1]; decide⟩))
    clear hcell hst hget HX HTK hlm hu
    generalize hln : L.length = ln at *
    generalize A.length = n at *
    clear hln
    go_enter Tryz.func113, Tryz.ntmps113
    go_wp2_with fail
    go_loopw [5] (fun i wr => ∃ j : Nat, j ≤ ln ∧ i = .int .i64 j ∧ Grew (w.alloc (.cells #[.int .i64 (n : Int), .slice A1 n c1] 26)) wr ∧ Hid ((L.take j).all (axB A) = true)) (fun i _ => ln - (intOf i).toNat)
    case atStart => exact ⟨0, Nat.zero_le _, rfl, Grew.refl _, Lib.hid (by simp)⟩
    case round =>
      obtain ⟨j, hj, rfl, hB, HJ⟩ := hrel
      by_cases hlt : j < ln
      · have hx := Lib.hid (fun W (hW : Grew wr W) => HX2.out W ((HG.out.trans hB).trans hW) j hlt)
        have k1 : ∀ W, Grew wr W → W.cell? ⟨b, o + j, none⟩ = some (.string (st axNames (L.getD j 0))) := fun W hW => HC.out j hlt W ((HG.out.trans hB).trans hW)
        have q0 : ∀ W, Grew wr W → W.cell? ⟨w.heap.size, 0, none⟩ = some (.int .i64 (n : Int)) := fun W hW => y0 W (hB.trans hW)
        have q1 : ∀ W, Grew wr W → W.cell? ⟨w.heap.size, 1, none⟩ = some (.slice A1 n c1) := fun W hW => y1 W (hB.trans hW)
        have hd : Grew wr wr.drew := (Grew.refl wr).drew
        have hstep := Lib.hid (HAS.out j hlt HJ.out)
        have hno := Lib.hid (HNO.out j hlt)
        generalize L.getD j 0 = x at *
        generalize st axNames x = s at *
        cases hax : axB A x with
        | true =>
          rw [hax] at hstep hx
          clear hno
          go_wp2_with fail
          go_region_held3 (fun w' => Grew wr w') (with_reducible assumption) (first | (go_at_call 51; refine (hx.out _ hd).mono ?_; rintro e w9 ⟨rfl, hg9⟩; have hk9 := hd.trans hg9))
          go_wp2_with fail
          go_roundw
          case rel => exact ⟨j + 1, by omega, by go_num, hB.trans hk9, hstep⟩
          case measure => simp [intOf]; omega
        | false =>
          have hv := Lib.hid (hno.out hax)
          rw [hax] at hx
          clear hno hstep
          go_wp2_with fail
          go_region_held3 (fun w' => Grew wr w') (with_reducible assumption) (first | (go_at_call 51; refine (hx.out _ hd).mono ?_; rintro e w9 ⟨rfl, hg9⟩; have hk9 := hd.trans hg9))
          go_wp2_with fail
          go_ret
          rw [hv.out]
          exact ⟨rfl, HG.out.trans (hB.trans hk9)⟩
      · obtain rfl : j = ln := by omega
        have hv := Lib.hid (hAL.out.symm.trans HJ.out)
        go_wp2_with fail
        go_ret
        rw [hv.out]
        exact ⟨rfl, HG.out.trans hB⟩
theorem l09Of_c (v : Value) (A : List Nat) (s : ByteArray) (k : Nat) (w : World) (h : Ints w v (zs A)) (hA : Rl A) (hk : k < 16) (hf : findS lgNames s = (k : Int)) :
    Calls Tryz.prog 68 #[.agg #[.int .i64 (A.length : Int), v], .string s] w fun e w' => e = .returned (.bool (lgB k A)) ∧ Grew w w' := by
  obtain ⟨w0, hw0⟩ : ∃ w0, w0 = w.alloc (.cells #[.int .i64 (A.length : Int), v] 26) := ⟨_, rfl⟩
  have hal : Grew w w0 := by rw [hw0]; exact (Grew.refl w).alloc _
  have y0 : ∀ W, Grew w0 W → W.cell? ⟨w.heap.size, 0, none⟩ = some (.int .i64 (A.length : Int)) := fun W hW => (hW.cell (p := ⟨w.heap.size, 0, none⟩) (by rw [hw0]; simp)).trans (by rw [hw0]; simp)
  have y1 : ∀ W, Grew w0 W → W.cell? ⟨w.heap.size, 1, none⟩ = some v := fun W hW => (hW.cell (p := ⟨w.heap.size, 1, none⟩) (by rw [hw0]; simp)).trans (by rw [hw0]; simp)
  have HAX := Lib.hid (fun W => l09Axioms_c s k W hk hf)
  have HEA := Lib.hid (fun W u (hW : Grew w0 W) (hu : Strs W u ((lgAx k).map (st axNames))) => l09Each_c v u A k W (h.grew (hal.trans hW)) hA hu hk)
  obtain ⟨A1, c1, rfl⟩ := ints_sliceN h
  have HG := Lib.hid hal
  have hd : Grew w0 w0.drew := (Grew.refl w0).drew
  clear h hA hal hf
  generalize lgB k A = R at *
  generalize (lgAx k).map (st axNames) = K at *
  generalize A.length = n at *
  go_enter Tryz.func68, Tryz.ntmps68
  go_wp2_with fail
  simp only [← hw0]
  clear hw0
  go_region_held3 (fun w' => Grew w0 w') (with_reducible assumption) (first
    | (go_at_call 113; refine (HEA.out _ _ hk1 hS1).mono ?_; rintro e w2 ⟨rfl, hg2⟩; have hk2 := hk1.trans hg2)
    | (go_at_call 114; refine (HAX.out _).mono ?_; rintro e w1 ⟨u1, rfl, hS1, hg1⟩; have hk1 := hd.trans hg1; have hsl := strs_slice hS1; obtain ⟨A2, c2, rfl⟩ := hsl))
  go_wp2_with fail
  go_ret
  exact ⟨rfl, HG.out.trans hk2⟩
end Go.Proofs.YtpfncncohnhanaaGreatDoor


/- The reference's frames of one size: AllFrames; those of a logic: l09Frames. -/
namespace Go.Proofs.YtpfncncohnhanaaGreatDoor
open Go.RowKit

theorem conv_small (p : Nat) (h : p ≤ 16) : IntKind.u64.wrap (p : Int) = (p : Int) := by
  rw [IntKind.wrap_u64]
  omega
set_option maxHeartbeats 2000000 in
theorem allFrames_s (n : Nat) (h3 : n ≤ 3) (w : World) :
    Calls Tryz.prog 67 #[.int .i64 (n : Int)] w (GivesFsC w (frs n)) := by
  unfold GivesFsC
  have h4 : n ≤ 4 := by omega
  have hM : 2 ^ (n * n) ≤ 65536 := Nat.le_trans (Nat.pow_le_pow_right (by omega) (Nat.mul_le_mul h4 h4)) (by decide)
  have hnn : n * n ≤ 16 := Nat.mul_le_mul h4 h4
  have hmul : wrap64 ((n : Int) * (n : Int)) = ((n * n : Nat) : Int) := by rw [← Int.natCast_mul, wrap64]; omega
  have hmul2 : IntKind.i64.wrap ((n : Int) * (n : Int)) = ((n * n : Nat) : Int) := by rw [← Int.natCast_mul, IntKind.wrap_i64]; omega
  have HIR := Lib.hid (l01In_q (n : Int) 0 3)
  have hir : decide ((0 : Int) ≤ (n : Int) ∧ (n : Int) ≤ 3) = true := decide_eq_true ⟨by omega, by omega⟩
  rw [hir] at HIR
  clear hir
  have HON := Lib.hid (l01One_q (n * n) (by omega))
  have HFU := Lib.hid (l01Full_q n (by omega))
  have HLE := Lib.hid (fun v A W (h : Ints W v (zs A)) (hp : Rl A) (hl : A.length ≤ 6) => l05Least_c v A W h hp hl)
  have HRD := Lib.hid (fun N => relD_rl (n := n) (N := N) (by omega))
  have HLN := Lib.hid (fun j N => relD_len n j N)
  have HLL := Lib.hid (fun N => lst_len (relD_rl (n := n) (N := N) (by omega)))
  have HYE := Lib.hid (fun k h => @frk_yes n k h)
  have HNO := Lib.hid (fun k h => @frk_no n k h)
  have HFL := Lib.hid (fun k => frk_len n k)
  have HEND : Hid (frk n (2 ^ (n * n)) = frs n) := Lib.hid rfl
  have HZ : Hid (frk n 0 = []) := Lib.hid rfl
  obtain ⟨q, hq⟩ : ∃ q, q = n * n := ⟨_, rfl⟩
  rw [← hq] at HON hM hmul hmul2 hnn HEND
  clear hq
  obtain ⟨M, hMM⟩ : ∃ M, M = 2 ^ q := ⟨_, rfl⟩
  rw [← hMM] at HON hM HEND
  clear hMM
  go_enter Tryz.func67, Tryz.ntmps67
  go_wp2_with fail
  refine (HIR.out _).mono ?_
  rintro e wz ⟨rfl, rfl⟩
  go_wp2_with fail
  go_loopw [4, 5] (fun s i wr => ∃ k : Nat, k ≤ M ∧ i = .int .i64 (k : Int) ∧ Grew wz wr ∧ Hid (OwnFs wr wz.heap.size s (frk n k))) (fun _ i _ => M - (intOf i).toNat)
  case atStart => exact ⟨0, by omega, rfl, (Grew.refl _).alloc _, Lib.hid (by rw [HZ.out]; exact OwnFs.lit _)⟩
  case round =>
    obtain ⟨k, hk, rfl, hB, hO⟩ := hrel
    have hmul3 := Lib.hid hmul
    by_cases hlt : k < M
    · generalize wr = wk at *
      go_wp2_with fail
      refine (HON.out _).mono ?_
      rintro e wy ⟨rfl, rfl⟩
      go_wp2_with fail
      go_loopw [6, 7] (fun s x wr => ∃ j : Nat, j ≤ n ∧ x = .int .i64 ((n : Int) - 1 - (j : Int)) ∧ Grew wy wr ∧ Hid (OwnI wr wy.heap.size s (zs (relD n j (k / 2 ^ ((n - j) * n)))))) (fun _ x _ => (intOf x + 1).toNat)
      case atStart => exact ⟨0, by omega, by simp, (Grew.refl _).alloc _, Lib.hid (own_emptyI _)⟩
      case round =>
        obtain ⟨j, hj, rfl, hB2, hO2⟩ := hrel
        by_cases hlj : j < n
        · obtain ⟨m, hm⟩ : ∃ m, m = n - (j + 1) := ⟨_, rfl⟩
          have hx : (n : Int) - 1 - (j : Int) = (m : Int) := by omega
          have hx2 : (n : Int) - 1 - ((j + 1 : Nat) : Int) = (m : Int) - 1 := by omega
          have HX2 := Lib.hid hx2
          have HX1 := Lib.hid hx
          rw [hx]
          have hmn : m * n ≤ 16 := Nat.mul_le_mul (show m ≤ 4 by omega) h4
          have HF := Lib.hid (shr_facts k (m * n) n (Nat.le_trans hk hM) h4)
          have HMU := Lib.hid (mul_facts m n hmn)
          have hstep := relD_step (n := n) (j := j) (N := k) hlj
          rw [← hm] at hstep
          have HSN := Lib.hid hstep
          have hyk0 : Hid (k / 2 ^ ((n - (j + 1)) * n) = k / 2 ^ (m * n)) := Lib.hid (by rw [hm])
          clear hstep hx hx2 hm
          generalize k / 2 ^ (m * n) % 2 ^ n = z at HF HSN
          generalize k / 2 ^ (m * n) = y at HF HSN hyk0
          generalize hpp : (2 : Nat) ^ n = F at *
          have hfm : ((F : Nat) : Int) - 1 = ((F - 1 : Nat) : Int) := by have := Nat.two_pow_pos n; omega
          rw [hfm] at HFU
          generalize m * n = p at *
          have hcv := conv_small p hmn
          have p1 : (0 : Int) ≤ (p : Int) := Int.natCast_nonneg p
          have p3 : p < 64 := Nat.lt_of_le_of_lt hmn (by decide)
          have p2 : (p : Int) < 64 := Int.ofNat_lt.2 p3
          have hl : (zs (relD n j (k / 2 ^ ((n - j) * n)))).length ≤ 1048576 := by rw [zs_len, relD_len]; omega
          have HOw := hO2
          have HSN2 : Hid (zs (relD n (j + 1) y) = zs (relD n j (k / 2 ^ ((n - j) * n))) ++ [(z : Int)]) := Lib.hid (by rw [HSN.out, zs_append]; rfl)
          have hyk : Hid (k / 2 ^ ((n - (j + 1)) * n) = y) := hyk0
          clear HSN
          generalize zs (relD n j (k / 2 ^ ((n - j) * n))) = L0 at *
          have pm : min p 64 = p := by omega
          have hwm : wrap64 ((m : Int) - 1) = (m : Int) - 1 := by rw [wrap64]; have := HX1.out; omega
          obtain ⟨hF1, hF2, hD, hAN, hS1, hS2⟩ := HF.out
          obtain ⟨hM1, hM2⟩ := HMU.out
          clear hpp hS1 hS2 hF1 hF2 hfm
          go_wp2_with fail
          refine (HFU.out _).mono ?_
          rintro e wx ⟨rfl, rfl⟩
          go_wp2_with (at_builtin
                       refine wpList_appI (w0 := wy) _ _ rfl rfl _ L0 rfl (hO2.out.grew ((Grew.refl _).alloc _)) (hB2.alloc _) _ (z : Int) rfl (rd_litI _ _ _) hl ?_
                       intro v9 w9 hO9 hgw9 hgr9)
          go_roundw
          case rel => exact ⟨j + 1, by omega, by rw [HX2.out]; first | rfl | go_num, hgw9, Lib.hid (by rw [hyk.out, HSN2.out]; exact hO9)⟩
          case measure => have := HX1.out; have := HX2.out; simp [intOf]; omega
        · obtain rfl : j = n := by omega
          have hx : (j : Int) - 1 - (j : Int) = -1 := by omega
          rw [hx]
          have hO9 := hO2.out
          have he0 : Hid (k / 2 ^ ((j - j) * j) = k) := Lib.hid (by rw [Nat.sub_self, Nat.zero_mul, Nat.pow_zero, Nat.div_one])
          rw [he0.out] at hO9
          have hln := HLN.out j k
          obtain ⟨A6, c6, rfl⟩ := ints_sliceN hO9.ints
          have HL1 := Lib.hid (HLE.out _ _ wr hO9.ints (HRD.out k) (by rw [hln]; omega))
          have HL2 := Lib.hid (HLL.out k)
          have HOX := Lib.hid hO9
          have hs2 := hB2.size
          rw [hln] at HL1 HOX ⊢
          have hye := Lib.hid (HYE.out k)
          have hno := Lib.hid (HNO.out k)
          have hfl := HFL.out k
          clear hO2 hO9 hx
          generalize relD j j k = R at *
          go_wp2_with fail
          refine (HL1.out).mono ?_
          rintro e w7 ⟨v7, rfl, hO7, hg7⟩
          have HSM := Lib.hid (l01Same_c v7 _ (lst R) R w7 hO7.ints (HOX.out.grew hg7).ints HL2.out)
          obtain ⟨A7, c7, rfl⟩ := ints_sliceN hO7.ints
          clear hO7
          go_wp2_with fail
          refine (HSM.out).mono ?_
          rintro e w8 ⟨rfl, hg8⟩
          have hB8 := (hB.trans hB2).trans (hg7.trans hg8)
          have hO8 := hO.out.grew (hB2.trans (hg7.trans hg8))
          by_cases hle : lst R = R
          · have hfk := Lib.hid (hye.out hle)
            have hdt : decide (lst R = R) = true := decide_eq_true hle
            have HMK := Lib.hid (l05Make_c _ (zs R) w8 (HOX.out.grew (hg7.trans hg8)).ints (by rw [zs_len, hln]; omega))
            have hRl := Lib.hid hln
            clear hle hye hno HSM HL1 HL2 hln
            generalize decide (lst R = R) = D at *
            subst hdt
            go_wp2_with fail
            refine (HMK.out).mono ?_
            rintro e wa ⟨va, rfl, hOa, hga⟩
            rw [zs_len]
            have hB9 := hB8.trans hga
            have hO9 := hO8.grew hga
            obtain ⟨A4, c4, rfl⟩ := hO9.slice
            have hOa2 : OwnI wa wz.heap.size va (zs R) := OwnI.base hOa hB8.size
            have hl2 := (Grew.refl wa).alloc (.cells #[.int .i64 (R.length : Int), va] 26)
            have hO9b := hO9.grew hl2
            have hsz := (hB9.trans hl2).size
            have hq : ∀ p ∈ [(va, R)], OwnI (wa.alloc (.cells #[.int .i64 (R.length : Int), va] 26)) wz.heap.size p.1 (zs p.2) := fun p hp => by
              rw [List.mem_singleton] at hp
              subst hp
              exact hOa2.grew hl2
            clear hO9 hOa hOa2
            go_wp2_with (at_builtin
                         refine wpList_appFs wz.heap.size _ _ rfl rfl _ (frk j k) rfl hO9b hsz _ [(va, R)] rfl (rd_litFs _ _ _ _) hq (by simp only [List.length_cons, List.length_nil]; omega) ?_
                         intro v9 w9 hO10 hgr9 hnb9
                         have hB10 := Grew.grown (hB9.trans hl2) hgr9 (fun q hq => hO9b.ge hq))
            go_roundw
            case rel => exact ⟨k + 1, by omega, by go_num, hB10, Lib.hid (by rw [hfk.out]; exact hO10)⟩
            case measure => simp [intOf]; omega
          · have hfk := Lib.hid (hno.out hle)
            have hdt : decide (lst R = R) = false := decide_eq_false hle
            clear hle hye hno HSM HL1 HL2
            generalize decide (lst R = R) = D at *
            subst hdt
            go_wp2_with fail
            go_roundw
            case rel => exact ⟨k + 1, by omega, by go_num, hB8, Lib.hid (by rw [hfk.out]; exact hO8)⟩
            case measure => simp [intOf]; omega
    · obtain rfl : k = M := by omega
      have HO := Lib.hid hO.out
      go_wp2_with fail
      refine (HON.out _).mono ?_
      rintro e wy ⟨rfl, rfl⟩
      go_wp2_with fail
      go_ret2
      exact ⟨_, rfl, by have := HO.out; rwa [HEND.out] at this, hB⟩
end Go.Proofs.YtpfncncohnhanaaGreatDoor


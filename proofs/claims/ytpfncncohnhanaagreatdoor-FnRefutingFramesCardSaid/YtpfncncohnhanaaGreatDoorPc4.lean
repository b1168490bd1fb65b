/- Texts in one file: FaQ FlI FlR FlZ. -/
import Derived.Deep.RegionHeld3
import Derived.Deep.RegionLaw
import Derived.Deep.CutRange
import Derived.Deep.CutBlock
import Derived.Test.YtpfncncohnhanaaGreatDoorPc1
import Derived.Test.YtpfncncohnhanaaGreatDoorPc2
import Derived.Test.YtpfncncohnhanaaGreatDoorPc3
set_option linter.all false

/- axiomHolds of the program, axiom by axiom. -/
namespace Go.Proofs.YtpfncncohnhanaaGreatDoor
open Go.RowKit

theorem eq_zero_b (m : Nat) : (((m : Nat) : Int) == 0) = decide (m = 0) := by
  rw [Bool.eq_iff_iff]
  simp
theorem ver_k (v : Value) (A : List Nat) (bf : Nat) (w : World) (h : Ints w v (zs A)) (_k0 : ∀ W, Grew w W → W.cell? ⟨bf, 0, none⟩ = some (.int .i64 (A.length : Int))) (k1 : ∀ W, Grew w W → W.cell? ⟨bf, 1, none⟩ = some v) :
    PredW w 135 #[.pointer (some ⟨bf, 0, none⟩)] A.length (fun x => decide (nt A x = 0)) := by
  intro x W hx hW
  have y1 := k1 W hW
  have hb := eq_zero_b (nt A x)
  show Calls Tryz.prog 135 #[.int .i64 (x : Int), .pointer (some ⟨bf, 0, none⟩)] W fun e W' => e = .returned (.bool (decide (nt A x = 0))) ∧ Grew W W'
  rw [← hb]
  obtain ⟨A', c, rfl⟩ := ints_sliceN h
  obtain ⟨b, o, rfl, hc1⟩ := cellsN h (by omega)
  have z1 := hc1 x hx W hW
  clear h _k0 k1 hc1 hb
  generalize nt A x = m at *
  generalize A.length = n at *
  go_enter Tryz.func135, Tryz.ntmps135
  go_wp2_with fail
  go_ret
  exact ⟨rfl, Grew.refl _⟩
theorem tri_k (v : Value) (A : List Nat) (bf : Nat) (w : World) (h : Ints w v (zs A)) (hA : Rl A) (k0 : ∀ W, Grew w W → W.cell? ⟨bf, 0, none⟩ = some (.int .i64 (A.length : Int))) (k1 : ∀ W, Grew w W → W.cell? ⟨bf, 1, none⟩ = some v) :
    PredW w 137 #[.pointer (some ⟨bf, 0, none⟩)] A.length (fun x => decide (dif (nt A x) (2 ^ x) = 0)) := by
  intro x W hx hW
  have y0 := fun V (hV : Grew W V) => k0 V (hW.trans hV)
  have y1 := fun V (hV : Grew W V) => k1 V (hW.trans hV)
  have hn := hA.1
  have hlA := hA.sm.at_ hx
  have hp := wrap_pow (k := x) (by omega)
  have hlp := pow30' (k := x) (by omega)
  have KW := Lib.hid (within_q (nt A x) (2 ^ x) (by omega) (by omega))
  show Calls Tryz.prog 137 #[.int .i64 (x : Int), .pointer (some ⟨bf, 0, none⟩)] W fun e W' => e = .returned (.bool (decide (dif (nt A x) (2 ^ x) = 0))) ∧ Grew W W'
  obtain ⟨A', c, rfl⟩ := ints_sliceN h
  obtain ⟨b, o, rfl, hc1⟩ := cellsN h (by omega)
  have z1 := fun V (hV : Grew W V) => hc1 x hx V (hW.trans hV)
  clear h hc1 k0 k1 hA
  generalize nt A x = p1 at *
  generalize (2 ^ x : Nat) = p at *
  generalize decide (dif p1 p = 0) = R at *
  generalize A.length = n at *
  have hi0 : (0 : Int) ≤ (x : Int) := by omega
  have hi6 : (x : Int) < (n : Int) := by omega
  have hr1 := Grew.refl W
  have hd1 := (Grew.refl W).drew
  go_enter Tryz.func137, Tryz.ntmps137
  go_wp2_with fail
  go_quiet (first | (go_at_call 138; exact Calls.quiet_of_same (KW.out _)))
  go_wp2_with fail
  go_ret
  exact ⟨rfl, (Grew.refl _).drewN _⟩
theorem ver_c (v : Value) (A : List Nat) (w : World) (h : Ints w v (zs A)) (hA : Rl A) :
    Calls Tryz.prog 133 #[.agg #[.int .i64 (A.length : Int), v]] w fun e w' => e = .returned (.bool (verB A)) ∧ Grew w w' := by
  have hal := (Grew.refl w).alloc (.cells #[.int .i64 (A.length : Int), v] 26)
  have HG := Lib.hid hal
  have eg := enters_of Tryz.func135 (by kernel_rfl) rfl
  have y0 : ∀ W, Grew (w.alloc (.cells #[.int .i64 (A.length : Int), v] 26)) W → W.cell? ⟨w.heap.size, 0, none⟩ = some (.int .i64 (A.length : Int)) := fun W hW => (hW.cell (p := ⟨w.heap.size, 0, none⟩) (by simp)).trans (by simp)
  have y1 : ∀ W, Grew (w.alloc (.cells #[.int .i64 (A.length : Int), v] 26)) W → W.cell? ⟨w.heap.size, 1, none⟩ = some v := fun W hW => (hW.cell (p := ⟨w.heap.size, 1, none⟩) (by simp)).trans (by simp)
  have KE := Lib.hid (everyWorld_c v A.length 135 #[.pointer (some ⟨w.heap.size, 0, none⟩)] _ (w.alloc (.cells #[.int .i64 (A.length : Int), v] 26)) hA.1 (by obtain ⟨A', c, e⟩ := ints_slice h; exact ⟨_, _, _, e⟩) (ver_k v A w.heap.size _ (h.grew (hal.alloc _)) (fun V hV => y0 V (((Grew.refl _).alloc _).trans hV)) (fun V hV => y1 V (((Grew.refl _).alloc _).trans hV))) eg)
  rw [show allB A.length (fun x => decide (nt A x = 0)) = verB A from rfl] at KE
  obtain ⟨A', c, rfl⟩ := ints_sliceN h
  clear h hA hal eg
  generalize verB A = R at *
  generalize A.length = n at *
  go_enter Tryz.func133, Tryz.ntmps133
  go_wp2_with fail
  refine (KE.out).mono ?_
  rintro e w2 ⟨rfl, hg3⟩
  go_wp2_with fail
  go_ret
  exact ⟨rfl, HG.out.trans hg3⟩
theorem tri_c (v : Value) (A : List Nat) (w : World) (h : Ints w v (zs A)) (hA : Rl A) :
    Calls Tryz.prog 136 #[.agg #[.int .i64 (A.length : Int), v]] w fun e w' => e = .returned (.bool (triB A)) ∧ Grew w w' := by
  have hal := (Grew.refl w).alloc (.cells #[.int .i64 (A.length : Int), v] 26)
  have HG := Lib.hid hal
  have eg := enters_of Tryz.func137 (by kernel_rfl) rfl
  have y0 : ∀ W, Grew (w.alloc (.cells #[.int .i64 (A.length : Int), v] 26)) W → W.cell? ⟨w.heap.size, 0, none⟩ = some (.int .i64 (A.length : Int)) := fun W hW => (hW.cell (p := ⟨w.heap.size, 0, none⟩) (by simp)).trans (by simp)
  have y1 : ∀ W, Grew (w.alloc (.cells #[.int .i64 (A.length : Int), v] 26)) W → W.cell? ⟨w.heap.size, 1, none⟩ = some v := fun W hW => (hW.cell (p := ⟨w.heap.size, 1, none⟩) (by simp)).trans (by simp)
  have KE := Lib.hid (everyWorld_c v A.length 137 #[.pointer (some ⟨w.heap.size, 0, none⟩)] _ (w.alloc (.cells #[.int .i64 (A.length : Int), v] 26)) hA.1 (by obtain ⟨A', c, e⟩ := ints_slice h; exact ⟨_, _, _, e⟩) (tri_k v A w.heap.size _ (h.grew (hal.alloc _)) hA (fun V hV => y0 V (((Grew.refl _).alloc _).trans hV)) (fun V hV => y1 V (((Grew.refl _).alloc _).trans hV))) eg)
  rw [show allB A.length (fun x => decide (dif (nt A x) (2 ^ x) = 0)) = triB A from rfl] at KE
  obtain ⟨A', c, rfl⟩ := ints_sliceN h
  clear h hA hal eg
  generalize triB A = R at *
  generalize A.length = n at *
  go_enter Tryz.func136, Tryz.ntmps136
  go_wp2_with fail
  refine (KE.out).mono ?_
  rintro e w2 ⟨rfl, hg3⟩
  go_wp2_with fail
  go_ret
  exact ⟨rfl, HG.out.trans hg3⟩
theorem cond0_c (v : Value) (A : List Nat) (B bl : Nat) (w : World) (h : Ints w v (zs A)) (hA : Rl A) (_h8 : A.length ≤ 8) (hf : FlagsAt w B bl [2]) :
    Calls Tryz.prog 166 #[.agg #[.int .i64 (A.length : Int), v], .pointer (some ⟨bl, 0, none⟩)] w fun e w' => e = .returned (.bool (axB A 0)) ∧ Grew w w' := by
  have hvs : ∃ X m c, v = .slice X m c := by obtain ⟨A', c, e⟩ := ints_slice h; exact ⟨_, _, _, e⟩
  obtain ⟨u, h1, _, h2, h3⟩ := hf
  have K := flag1_all v u (A.length : Int) [2] (fun _ => transB A) bl w hvs h1 h2 h3.ints (fun x hx W hW => by rw [List.mem_singleton.1 hx]; exact hasFlag2_c v A W (h.grew hW) hA)
  rw [show ([2] : List Int).all (fun _ => transB A) = axB A 0 from Bool.and_true _] at K
  exact K
theorem cond1_c (v : Value) (A : List Nat) (B bl : Nat) (w : World) (h : Ints w v (zs A)) (hA : Rl A) (_h8 : A.length ≤ 8) (hf : FlagsAt w B bl [4]) :
    Calls Tryz.prog 166 #[.agg #[.int .i64 (A.length : Int), v], .pointer (some ⟨bl, 0, none⟩)] w fun e w' => e = .returned (.bool (axB A 1)) ∧ Grew w w' := by
  have hvs : ∃ X m c, v = .slice X m c := by obtain ⟨A', c, e⟩ := ints_slice h; exact ⟨_, _, _, e⟩
  obtain ⟨u, h1, _, h2, h3⟩ := hf
  have K := flag1_all v u (A.length : Int) [4] (fun _ => eucB A) bl w hvs h1 h2 h3.ints (fun x hx W hW => by rw [List.mem_singleton.1 hx]; exact hasFlag4_c v A W (h.grew hW) hA)
  rw [show ([4] : List Int).all (fun _ => eucB A) = axB A 1 from Bool.and_true _] at K
  exact K
theorem cond2_c (v : Value) (A : List Nat) (B bl : Nat) (w : World) (h : Ints w v (zs A)) (hA : Rl A) (_h8 : A.length ≤ 8) (hf : FlagsAt w B bl [3]) :
    Calls Tryz.prog 166 #[.agg #[.int .i64 (A.length : Int), v], .pointer (some ⟨bl, 0, none⟩)] w fun e w' => e = .returned (.bool (axB A 2)) ∧ Grew w w' := by
  have hvs : ∃ X m c, v = .slice X m c := by obtain ⟨A', c, e⟩ := ints_slice h; exact ⟨_, _, _, e⟩
  obtain ⟨u, h1, _, h2, h3⟩ := hf
  have K := flag1_all v u (A.length : Int) [3] (fun _ => symB A) bl w hvs h1 h2 h3.ints (fun x hx W hW => by rw [List.mem_singleton.1 hx]; exact hasFlag3_c v A W (h.grew hW) hA)
  rw [show ([3] : List Int).all (fun _ => symB A) = axB A 2 from Bool.and_true _] at K
  exact K
theorem cond3_c (v : Value) (A : List Nat) (B bl : Nat) (w : World) (h : Ints w v (zs A)) (hA : Rl A) (_h8 : A.length ≤ 8) (hf : FlagsAt w B bl [9]) :
    Calls Tryz.prog 166 #[.agg #[.int .i64 (A.length : Int), v], .pointer (some ⟨bl, 0, none⟩)] w fun e w' => e = .returned (.bool (axB A 3)) ∧ Grew w w' := by
  have hvs : ∃ X m c, v = .slice X m c := by obtain ⟨A', c, e⟩ := ints_slice h; exact ⟨_, _, _, e⟩
  obtain ⟨u, h1, _, h2, h3⟩ := hf
  have K := flag1_all v u (A.length : Int) [9] (fun _ => denB A) bl w hvs h1 h2 h3.ints (fun x hx W hW => by rw [List.mem_singleton.1 hx]; exact hasFlag9_c v A W (h.grew hW) hA)
  rw [show ([9] : List Int).all (fun _ => denB A) = axB A 3 from Bool.and_true _] at K
  exact K
theorem cond4_c (v : Value) (A : List Nat) (B bl : Nat) (w : World) (h : Ints w v (zs A)) (hA : Rl A) (_h8 : A.length ≤ 8) (hf : FlagsAt w B bl [1]) :
    Calls Tryz.prog 166 #[.agg #[.int .i64 (A.length : Int), v], .pointer (some ⟨bl, 0, none⟩)] w fun e w' => e = .returned (.bool (axB A 4)) ∧ Grew w w' := by
  have hvs : ∃ X m c, v = .slice X m c := by obtain ⟨A', c, e⟩ := ints_slice h; exact ⟨_, _, _, e⟩
  obtain ⟨u, h1, _, h2, h3⟩ := hf
  have K := flag1_all v u (A.length : Int) [1] (fun _ => serB A) bl w hvs h1 h2 h3.ints (fun x hx W hW => by rw [List.mem_singleton.1 hx]; exact hasFlag1_c v A W (h.grew hW) hA)
  rw [show ([1] : List Int).all (fun _ => serB A) = axB A 4 from Bool.and_true _] at K
  exact K
theorem cond5_c (v : Value) (A : List Nat) (B bl : Nat) (w : World) (h : Ints w v (zs A)) (hA : Rl A) (h8 : A.length ≤ 8) (hf : FlagsAt w B bl [10]) :
    Calls Tryz.prog 166 #[.agg #[.int .i64 (A.length : Int), v], .pointer (some ⟨bl, 0, none⟩)] w fun e w' => e = .returned (.bool (axB A 5)) ∧ Grew w w' := by
  have hvs : ∃ X m c, v = .slice X m c := by obtain ⟨A', c, e⟩ := ints_slice h; exact ⟨_, _, _, e⟩
  obtain ⟨u, h1, _, h2, h3⟩ := hf
  have K := flag1_all v u (A.length : Int) [10] (fun _ => funB A) bl w hvs h1 h2 h3.ints (fun x hx W hW => by rw [List.mem_singleton.1 hx]; exact hasFlag10_c v A W (h.grew hW) hA h8)
  rw [show ([10] : List Int).all (fun _ => funB A) = axB A 5 from Bool.and_true _] at K
  exact K
theorem cond6_c (v : Value) (A : List Nat) (B bl : Nat) (w : World) (h : Ints w v (zs A)) (hA : Rl A) (_h8 : A.length ≤ 8) (hf : FlagsAt w B bl [5]) :
    Calls Tryz.prog 166 #[.agg #[.int .i64 (A.length : Int), v], .pointer (some ⟨bl, 0, none⟩)] w fun e w' => e = .returned (.bool (axB A 6)) ∧ Grew w w' := by
  have hvs : ∃ X m c, v = .slice X m c := by obtain ⟨A', c, e⟩ := ints_slice h; exact ⟨_, _, _, e⟩
  obtain ⟨u, h1, _, h2, h3⟩ := hf
  have K := flag1_all v u (A.length : Int) [5] (fun _ => dirB A) bl w hvs h1 h2 h3.ints (fun x hx W hW => by rw [List.mem_singleton.1 hx]; exact hasFlag5_c v A W (h.grew hW) hA)
  rw [show ([5] : List Int).all (fun _ => dirB A) = axB A 6 from Bool.and_true _] at K
  exact K
theorem cond7_c (v : Value) (A : List Nat) (B bl : Nat) (w : World) (h : Ints w v (zs A)) (hA : Rl A) (_h8 : A.length ≤ 8) (hf : FlagsAt w B bl [6]) :
    Calls Tryz.prog 166 #[.agg #[.int .i64 (A.length : Int), v], .pointer (some ⟨bl, 0, none⟩)] w fun e w' => e = .returned (.bool (axB A 7)) ∧ Grew w w' := by
  have hvs : ∃ X m c, v = .slice X m c := by obtain ⟨A', c, e⟩ := ints_slice h; exact ⟨_, _, _, e⟩
  obtain ⟨u, h1, _, h2, h3⟩ := hf
  have K := flag1_all v u (A.length : Int) [6] (fun _ => conB A) bl w hvs h1 h2 h3.ints (fun x hx W hW => by rw [List.mem_singleton.1 hx]; exact hasFlag6_c v A W (h.grew hW) hA)
  rw [show ([6] : List Int).all (fun _ => conB A) = axB A 7 from Bool.and_true _] at K
  exact K
theorem cond8_c (v : Value) (A : List Nat) (B bl : Nat) (w : World) (h : Ints w v (zs A)) (hA : Rl A) (_h8 : A.length ≤ 8) (hf : FlagsAt w B bl [2, 7]) :
    Calls Tryz.prog 166 #[.agg #[.int .i64 (A.length : Int), v], .pointer (some ⟨bl, 0, none⟩)] w fun e w' => e = .returned (.bool (axB A 8)) ∧ Grew w w' := by
  have hvs : ∃ X m c, v = .slice X m c := by obtain ⟨A', c, e⟩ := ints_slice h; exact ⟨_, _, _, e⟩
  obtain ⟨u, h1, _, h2, h3⟩ := hf
  cases ht : transB A with
  | false =>
    have K := flag1_head v u (A.length : Int) 2 [7] bl w hvs h1 h2 h3.ints (fun W hW => by have := hasFlag2_c v A W (h.grew hW) hA; rwa [ht] at this)
    rw [show axB A 8 = (transB A && irrB A) from rfl, ht]
    exact K
  | true =>
    have K := flag1_all v u (A.length : Int) [2, 7] (fun x => if x = 2 then transB A else irrB A) bl w hvs h1 h2 h3.ints (fun x hx W hW => by
      rcases List.mem_cons.1 hx with rfl | hx
      · exact hasFlag2_c v A W (h.grew hW) hA
      · rw [List.mem_singleton.1 hx]; exact hasFlag7_c v A W (h.grew hW) hA ((transB_iff hA).1 ht))
    rw [show ([2, 7] : List Int).all (fun x => if x = 2 then transB A else irrB A) = axB A 8 from by
      show (transB A && (irrB A && true)) = _
      rw [Bool.and_true]; rfl] at K
    exact K
theorem cond9_c (v : Value) (A : List Nat) (B bl : Nat) (w : World) (h : Ints w v (zs A)) (hA : Rl A) (_h8 : A.length ≤ 8) (hf : FlagsAt w B bl [0]) :
    Calls Tryz.prog 166 #[.agg #[.int .i64 (A.length : Int), v], .pointer (some ⟨bl, 0, none⟩)] w fun e w' => e = .returned (.bool (axB A 9)) ∧ Grew w w' := by
  have hvs : ∃ X m c, v = .slice X m c := by obtain ⟨A', c, e⟩ := ints_slice h; exact ⟨_, _, _, e⟩
  obtain ⟨u, h1, _, h2, h3⟩ := hf
  have K := flag1_all v u (A.length : Int) [0] (fun _ => reflB A) bl w hvs h1 h2 h3.ints (fun x hx W hW => by rw [List.mem_singleton.1 hx]; exact hasFlag0_c v A W (h.grew hW) hA)
  rw [show ([0] : List Int).all (fun _ => reflB A) = axB A 9 from Bool.and_true _] at K
  exact K
theorem cond12_c (v : Value) (A : List Nat) (B bl : Nat) (w : World) (h : Ints w v (zs A)) (hA : Rl A) (_h8 : A.length ≤ 8) (hf : FlagsAt w B bl [0, 2, 8]) :
    Calls Tryz.prog 166 #[.agg #[.int .i64 (A.length : Int), v], .pointer (some ⟨bl, 0, none⟩)] w fun e w' => e = .returned (.bool (axB A 12)) ∧ Grew w w' := by
  have hvs : ∃ X m c, v = .slice X m c := by obtain ⟨A', c, e⟩ := ints_slice h; exact ⟨_, _, _, e⟩
  obtain ⟨u, h1, _, h2, h3⟩ := hf
  have K := flag1_all v u (A.length : Int) [0, 2, 8] (fun x => if x = 0 then reflB A else if x = 2 then transB A else antiB A) bl w hvs h1 h2 h3.ints (fun x hx W hW => by
    rcases List.mem_cons.1 hx with rfl | hx
    · exact hasFlag0_c v A W (h.grew hW) hA
    rcases List.mem_cons.1 hx with rfl | hx
    · exact hasFlag2_c v A W (h.grew hW) hA
    · rw [List.mem_singleton.1 hx]; exact hasFlag8_c v A W (h.grew hW) hA)
  rw [show ([0, 2, 8] : List Int).all (fun x => if x = 0 then reflB A else if x = 2 then transB A else antiB A) = axB A 12 from by
    show (reflB A && (transB A && (antiB A && true))) = _
    rw [Bool.and_true]; rfl] at K
  exact K
set_option maxRecDepth 100000 in
theorem condIx_0 (a0 a1 a2 a3 a4 a5 a6 a7 a8 a9 a10 a11 a12 : Value) (w : World) : (Instr.index 109 (.agg #[a0, a1, a2, a3, a4, a5, a6, a7, a8, a9, a10, a11, a12]) (.int .i64 0)).run Tryz.prog w = .ok a0 w := rfl
set_option maxRecDepth 100000 in
theorem condIx_1 (a0 a1 a2 a3 a4 a5 a6 a7 a8 a9 a10 a11 a12 : Value) (w : World) : (Instr.index 109 (.agg #[a0, a1, a2, a3, a4, a5, a6, a7, a8, a9, a10, a11, a12]) (.int .i64 1)).run Tryz.prog w = .ok a1 w := rfl
set_option maxRecDepth 100000 in
theorem condIx_2 (a0 a1 a2 a3 a4 a5 a6 a7 a8 a9 a10 a11 a12 : Value) (w : World) : (Instr.index 109 (.agg #[a0, a1, a2, a3, a4, a5, a6, a7, a8, a9, a10, a11, a12]) (.int .i64 2)).run Tryz.prog w = .ok a2 w := rfl
set_option maxRecDepth 100000 in
theorem condIx_3 (a0 a1 a2 a3 a4 a5 a6 a7 a8 a9 a10 a11 a12 : Value) (w : World) : (Instr.index 109 (.agg #[a0, a1, a2, a3, a4, a5, a6, a7, a8, a9, a10, a11, a12]) (.int .i64 3)).run Tryz.prog w = .ok a3 w := rfl
set_option maxRecDepth 100000 in
theorem condIx_4 (a0 a1 a2 a3 a4 a5 a6 a7 a8 a9 a10 a11 a12 : Value) (w : World) : (Instr.index 109 (.agg #[a0, a1, a2, a3, a4, a5, a6, a7, a8, a9, a10, a11, a12]) (.int .i64 4)).run Tryz.prog w = .ok a4 w := rfl
set_option maxRecDepth 100000 in
theorem condIx_5 (a0 a1 a2 a3 a4 a5 a6 a7 a8 a9 a10 a11 a12 : Value) (w : World) : (Instr.index 109 (.agg #[a0, a1, a2, a3, a4, a5, a6, a7, a8, a9, a10, a11, a12]) (.int .i64 5)).run Tryz.prog w = .ok a5 w := rfl
set_option maxRecDepth 100000 in
theorem condIx_6 (a0 a1 a2 a3 a4 a5 a6 a7 a8 a9 a10 a11 a12 : Value) (w : World) : (Instr.index 109 (.agg #[a0, a1, a2, a3, a4, a5, a6, a7, a8, a9, a10, a11, a12]) (.int .i64 6)).run Tryz.prog w = .ok a6 w := rfl
set_option maxRecDepth 100000 in
theorem condIx_7 (a0 a1 a2 a3 a4 a5 a6 a7 a8 a9 a10 a11 a12 : Value) (w : World) : (Instr.index 109 (.agg #[a0, a1, a2, a3, a4, a5, a6, a7, a8, a9, a10, a11, a12]) (.int .i64 7)).run Tryz.prog w = .ok a7 w := rfl
set_option maxRecDepth 100000 in
theorem condIx_8 (a0 a1 a2 a3 a4 a5 a6 a7 a8 a9 a10 a11 a12 : Value) (w : World) : (Instr.index 109 (.agg #[a0, a1, a2, a3, a4, a5, a6, a7, a8, a9, a10, a11, a12]) (.int .i64 8)).run Tryz.prog w = .ok a8 w := rfl
set_option maxRecDepth 100000 in
theorem condIx_9 (a0 a1 a2 a3 a4 a5 a6 a7 a8 a9 a10 a11 a12 : Value) (w : World) : (Instr.index 109 (.agg #[a0, a1, a2, a3, a4, a5, a6, a7, a8, a9, a10, a11, a12]) (.int .i64 9)).run Tryz.prog w = .ok a9 w := rfl
set_option maxRecDepth 100000 in
theorem condIx_10 (a0 a1 a2 a3 a4 a5 a6 a7 a8 a9 a10 a11 a12 : Value) (w : World) : (Instr.index 109 (.agg #[a0, a1, a2, a3, a4, a5, a6, a7, a8, a9, a10, a11, a12]) (.int .i64 10)).run Tryz.prog w = .ok a10 w := rfl
set_option maxRecDepth 100000 in
theorem condIx_11 (a0 a1 a2 a3 a4 a5 a6 a7 a8 a9 a10 a11 a12 : Value) (w : World) : (Instr.index 109 (.agg #[a0, a1, a2, a3, a4, a5, a6, a7, a8, a9, a10, a11, a12]) (.int .i64 11)).run Tryz.prog w = .ok a11 w := rfl
set_option maxRecDepth 100000 in
theorem condIx_12 (a0 a1 a2 a3 a4 a5 a6 a7 a8 a9 a10 a11 a12 : Value) (w : World) : (Instr.index 109 (.agg #[a0, a1, a2, a3, a4, a5, a6, a7, a8, a9, a10, a11, a12]) (.int .i64 12)).run Tryz.prog w = .ok a12 w := rfl
set_option maxHeartbeats 1000000 in
set_option maxRecDepth 100000 in
theorem axiomHolds_0 (v : Value) (A : List Nat) (w : World) (h : Ints w v (zs A)) (hA : Rl A) (h8 : A.length ≤ 8) (hN : TabAt w 1 axNames) (hf : findS axNames ⟨#[52]⟩ = 0) :
    Calls Tryz.prog 48 #[.agg #[.int .i64 (A.length : Int), v], .string ⟨#[52]⟩] w fun e w' => e = .returned (.bool (axB A 0)) ∧ Grew w w' := by
  have HT := Lib.hid (fun W (hW : Grew w W) => axiomAt_c ⟨#[52]⟩ W (hN.grew hW))
  rw [hf] at HT
  have HD := Lib.hid (fun W (hW : Grew w W) (B bl : Nat) (hf : FlagsAt W B bl [2]) => cond0_c _ A B bl W (h.grew hW) hA h8 hf)
  have hal := (Grew.refl w).alloc (.cells #[.int .i64 (A.length : Int), v] 26)
  obtain ⟨w1, hw1⟩ : ∃ w1, w1 = w.alloc (.cells #[.int .i64 (A.length : Int), v] 26) := ⟨_, rfl⟩
  rw [← hw1] at hal
  have hb0 : w1.heap[w.heap.size]? = some (.cells #[.int .i64 (A.length : Int), v] 26 (0, 0)) := by rw [hw1]; exact blk_new w _
  have p0 : ∀ W, Grew w1 W → W.cell? ⟨w.heap.size, 0, none⟩ = some (.int .i64 (A.length : Int)) := fun W hW => by rw [blk_cell ((hW.block (blk_lt hb0)).trans hb0)]; rfl
  have p1 : ∀ W, Grew w1 W → W.cell? ⟨w.heap.size, 1, none⟩ = some v := fun W hW => by rw [blk_cell ((hW.block (blk_lt hb0)).trans hb0)]; rfl
  have HAL := Lib.hid hal
  obtain ⟨A1, c1, rfl⟩ := ints_sliceN h
  have r1 := Grew.refl w1
  have d1 := r1.drew
  have hix := condIx_0
  clear h hA hb0 hal h8
  generalize axB A 0 = R at *
  generalize A.length = n at *
  go_enter Tryz.func48, Tryz.ntmps48
  go_wp2_with fail
  simp only [← hw1]
  clear hw1
  go_region_held3 (fun w' => Grew w1 w') (first | assumption | exact Grew.drew ‹_›) (first
    | (go_at_call 166; refine (HD.out _ (HAL.out.trans h3) _ _ (f0.out.grew hg3)).mono ?_; rintro e w4 ⟨rfl, hg4⟩; have h4 := h3.trans hg4)
    | (go_at_call 47; refine (HT.out _ (HAL.out.trans h2)).mono ?_; rintro e w3 ⟨rfl, hg3⟩; have h3 := h2.trans hg3)
    | (go_at_call 91; refine (conditions_c _).mono ?_; rintro e w2 ⟨b0, b1, b2, b3, b4, b5, b6, b7, b8, b9, b10, rfl, f0, -, -, -, -, -, -, -, -, -, -, hg2⟩; have f0 := Lib.hid f0; have h2 := d1.trans hg2))
  go_wp2_with fail
  go_ret
  exact ⟨rfl, HAL.out.trans h4⟩
set_option maxHeartbeats 1000000 in
set_option maxRecDepth 100000 in
theorem axiomHolds_1 (v : Value) (A : List Nat) (w : World) (h : Ints w v (zs A)) (hA : Rl A) (h8 : A.length ≤ 8) (hN : TabAt w 1 axNames) (hf : findS axNames ⟨#[53]⟩ = 1) :
    Calls Tryz.prog 48 #[.agg #[.int .i64 (A.length : Int), v], .string ⟨#[53]⟩] w fun e w' => e = .returned (.bool (axB A 1)) ∧ Grew w w' := by
  have HT := Lib.hid (fun W (hW : Grew w W) => axiomAt_c ⟨#[53]⟩ W (hN.grew hW))
  rw [hf] at HT
  have HD := Lib.hid (fun W (hW : Grew w W) (B bl : Nat) (hf : FlagsAt W B bl [4]) => cond1_c _ A B bl W (h.grew hW) hA h8 hf)
  have hal := (Grew.refl w).alloc (.cells #[.int .i64 (A.length : Int), v] 26)
  obtain ⟨w1, hw1⟩ : ∃ w1, w1 = w.alloc (.cells #[.int .i64 (A.length : Int), v] 26) := ⟨_, rfl⟩
  rw [← hw1] at hal
  have hb0 : w1.heap[w.heap.size]? = some (.cells #[.int .i64 (A.length : Int), v] 26 (0, 0)) := by rw [hw1]; exact blk_new w _
  have p0 : ∀ W, Grew w1 W → W.cell? ⟨w.heap.size, 0, none⟩ = some (.int .i64 (A.length : Int)) := fun W hW => by rw [blk_cell ((hW.block (blk_lt hb0)).trans hb0)]; rfl
  have p1 : ∀ W, Grew w1 W → W.cell? ⟨w.heap.size, 1, none⟩ = some v := fun W hW => by rw [blk_cell ((hW.block (blk_lt hb0)).trans hb0)]; rfl
  have HAL := Lib.hid hal
  obtain ⟨A1, c1, rfl⟩ := ints_sliceN h
  have r1 := Grew.refl w1
  have d1 := r1.drew
  have hix := condIx_1
  clear h hA hb0 hal h8
  generalize axB A 1 = R at *
  generalize A.length = n at *
  go_enter Tryz.func48, Tryz.ntmps48
  go_wp2_with fail
  simp only [← hw1]
  clear hw1
  go_region_held3 (fun w' => Grew w1 w') (first | assumption | exact Grew.drew ‹_›) (first
    | (go_at_call 166; refine (HD.out _ (HAL.out.trans h3) _ _ (f1.out.grew hg3)).mono ?_; rintro e w4 ⟨rfl, hg4⟩; have h4 := h3.trans hg4)
    | (go_at_call 47; refine (HT.out _ (HAL.out.trans h2)).mono ?_; rintro e w3 ⟨rfl, hg3⟩; have h3 := h2.trans hg3)
    | (go_at_call 91; refine (conditions_c _).mono ?_; rintro e w2 ⟨b0, b1, b2, b3, b4, b5, b6, b7, b8, b9, b10, rfl, -, f1, -, -, -, -, -, -, -, -, -, hg2⟩; have f1 := Lib.hid f1; have h2 := d1.trans hg2))
  go_wp2_with fail
  go_ret
  exact ⟨rfl, HAL.out.trans h4⟩
set_option maxHeartbeats 1000000 in
set_option maxRecDepth 100000 in
theorem axiomHolds_2 (v : Value) (A : List Nat) (w : World) (h : Ints w v (zs A)) (hA : Rl A) (h8 : A.length ≤ 8) (hN : TabAt w 1 axNames) (hf : findS axNames ⟨#[66]⟩ = 2) :
    Calls Tryz.prog 48 #[.agg #[.int .i64 (A.length : Int), v], .string ⟨#[66]⟩] w fun e w' => e = .returned (.bool (axB A 2)) ∧ Grew w w' := by
  have HT := Lib.hid (fun W (hW : Grew w W) => axiomAt_c ⟨#[66]⟩ W (hN.grew hW))
  rw [hf] at HT
  have HD := Lib.hid (fun W (hW : Grew w W) (B bl : Nat) (hf : FlagsAt W B bl [3]) => cond2_c _ A B bl W (h.grew hW) hA h8 hf)
  have hal := (Grew.refl w).alloc (.cells #[.int .i64 (A.length : Int), v] 26)
  obtain ⟨w1, hw1⟩ : ∃ w1, w1 = w.alloc (.cells #[.int .i64 (A.length : Int), v] 26) := ⟨_, rfl⟩
  rw [← hw1] at hal
  have hb0 : w1.heap[w.heap.size]? = some (.cells #[.int .i64 (A.length : Int), v] 26 (0, 0)) := by rw [hw1]; exact blk_new w _
  have p0 : ∀ W, Grew w1 W → W.cell? ⟨w.heap.size, 0, none⟩ = some (.int .i64 (A.length : Int)) := fun W hW => by rw [blk_cell ((hW.block (blk_lt hb0)).trans hb0)]; rfl
  have p1 : ∀ W, Grew w1 W → W.cell? ⟨w.heap.size, 1, none⟩ = some v := fun W hW => by rw [blk_cell ((hW.block (blk_lt hb0)).trans hb0)]; rfl
  have HAL := Lib.hid hal
  obtain ⟨A1, c1, rfl⟩ := ints_sliceN h
  have r1 := Grew.refl w1
  have d1 := r1.drew
  have hix := condIx_2
  clear h hA hb0 hal h8
  generalize axB A 2 = R at *
  generalize A.length = n at *
  go_enter Tryz.func48, Tryz.ntmps48
  go_wp2_with fail
  simp only [← hw1]
  clear hw1
  go_region_held3 (fun w' => Grew w1 w') (first | assumption | exact Grew.drew ‹_›) (first
    | (go_at_call 166; refine (HD.out _ (HAL.out.trans h3) _ _ (f2.out.grew hg3)).mono ?_; rintro e w4 ⟨rfl, hg4⟩; have h4 := h3.trans hg4)
    | (go_at_call 47; refine (HT.out _ (HAL.out.trans h2)).mono ?_; rintro e w3 ⟨rfl, hg3⟩; have h3 := h2.trans hg3)
    | (go_at_call 91; refine (conditions_c _).mono ?_; rintro e w2 ⟨b0, b1, b2, b3, b4, b5, b6, b7, b8, b9, b10, rfl, -, -, f2, -, -, -, -, -, -, -, -, hg2⟩; have f2 := Lib.hid f2; have h2 := d1.trans hg2))
  go_wp2_with fail
  go_ret
  exact ⟨rfl, HAL.out.trans h4⟩
set_option maxHeartbeats 1000000 in
set_option maxRecDepth 100000 in
theorem axiomHolds_3 (v : Value) (A : List Nat) (w : World) (h : Ints w v (zs A)) (hA : Rl A) (h8 : A.length ≤ 8) (hN : TabAt w 1 axNames) (hf : findS axNames ⟨#[67]⟩ = 3) :
    Calls Tryz.prog 48 #[.agg #[.int .i64 (A.length : Int), v], .string ⟨#[67]⟩] w fun e w' => e = .returned (.bool (axB A 3)) ∧ Grew w w' := by
  have HT := Lib.hid (fun W (hW : Grew w W) => axiomAt_c ⟨#[67]⟩ W (hN.grew hW))
  rw [hf] at HT
  have HD := Lib.hid (fun W (hW : Grew w W) (B bl : Nat) (hf : FlagsAt W B bl [9]) => cond3_c _ A B bl W (h.grew hW) hA h8 hf)
  have hal := (Grew.refl w).alloc (.cells #[.int .i64 (A.length : Int), v] 26)
  obtain ⟨w1, hw1⟩ : ∃ w1, w1 = w.alloc (.cells #[.int .i64 (A.length : Int), v] 26) := ⟨_, rfl⟩
  rw [← hw1] at hal
  have hb0 : w1.heap[w.heap.size]? = some (.cells #[.int .i64 (A.length : Int), v] 26 (0, 0)) := by rw [hw1]; exact blk_new w _
  have p0 : ∀ W, Grew w1 W → W.cell? ⟨w.heap.size, 0, none⟩ = some (.int .i64 (A.length : Int)) := fun W hW => by rw [blk_cell ((hW.block (blk_lt hb0)).trans hb0)]; rfl
  have p1 : ∀ W, Grew w1 W → W.cell? ⟨w.heap.size, 1, none⟩ = some v := fun W hW => by rw [blk_cell ((hW.block (blk_lt hb0)).trans hb0)]; rfl
  have HAL := Lib.hid hal
  obtain ⟨A1, c1, rfl⟩ := ints_sliceN h
  have r1 := Grew.refl w1
  have d1 := r1.drew
  have hix := condIx_3
  clear h hA hb0 hal h8
  generalize axB A 3 = R at *
  generalize A.length = n at *
  go_enter Tryz.func48, Tryz.ntmps48
  go_wp2_with fail
  simp only [← hw1]
  clear hw1
  go_region_held3 (fun w' => Grew w1 w') (first | assumption | exact Grew.drew ‹_›) (first
    | (go_at_call 166; refine (HD.out _ (HAL.out.trans h3) _ _ (f3.out.grew hg3)).mono ?_; rintro e w4 ⟨rfl, hg4⟩; have h4 := h3.trans hg4)
    | (go_at_call 47; refine (HT.out _ (HAL.out.trans h2)).mono ?_; rintro e w3 ⟨rfl, hg3⟩; have h3 := h2.trans hg3)
    | (go_at_call 91; refine (conditions_c _).mono ?_; rintro e w2 ⟨b0, b1, b2, b3, b4, b5, b6, b7, b8, b9, b10, rfl, -, -, -, f3, -, -, -, -, -, -, -, hg2⟩; have f3 := Lib.hid f3; have h2 := d1.trans hg2))
  go_wp2_with fail
  go_ret
  exact ⟨rfl, HAL.out.trans h4⟩
set_option maxHeartbeats 1000000 in
set_option maxRecDepth 100000 in
theorem axiomHolds_4 (v : Value) (A : List Nat) (w : World) (h : Ints w v (zs A)) (hA : Rl A) (h8 : A.length ≤ 8) (hN : TabAt w 1 axNames) (hf : findS axNames ⟨#[68]⟩ = 4) :
    Calls Tryz.prog 48 #[.agg #[.int .i64 (A.length : Int), v], .string ⟨#[68]⟩] w fun e w' => e = .returned (.bool (axB A 4)) ∧ Grew w w' := by
  have HT := Lib.hid (fun W (hW : Grew w W) => axiomAt_c ⟨#[68]⟩ W (hN.grew hW))
  rw [hf] at HT
  have HD := Lib.hid (fun W (hW : Grew w W) (B bl : Nat) (hf : FlagsAt W B bl [1]) => cond4_c _ A B bl W (h.grew hW) hA h8 hf)
  have hal := (Grew.refl w).alloc (.cells #[.int .i64 (A.length : Int), v] 26)
  obtain ⟨w1, hw1⟩ : ∃ w1, w1 = w.alloc (.cells #[.int .i64 (A.length : Int), v] 26) := ⟨_, rfl⟩
  rw [← hw1] at hal
  have hb0 : w1.heap[w.heap.size]? = some (.cells #[.int .i64 (A.length : Int), v] 26 (0, 0)) := by rw [hw1]; exact blk_new w _
  have p0 : ∀ W, Grew w1 W → W.cell? ⟨w.heap.size, 0, none⟩ = some (.int .i64 (A.length : Int)) := fun W hW => by rw [blk_cell ((hW.block (blk_lt hb0)).trans hb0)]; rfl
  have p1 : ∀ W, Grew w1 W → W.cell? ⟨w.heap.size, 1, none⟩ = some v := fun W hW => by rw [blk_cell ((hW.block (blk_lt hb0)).trans hb0)]; rfl
  have HAL := Lib.hid hal
  obtain ⟨A1, c1, rfl⟩ := ints_sliceN h
  have r1 := Grew.refl w1
  have d1 := r1.drew
  have hix := condIx_4
  clear h hA hb0 hal h8
  generalize axB A 4 = R at *
  generalize A.length = n at *
  go_enter Tryz.func48, Tryz.ntmps48
  go_wp2_with fail
  simp only [← hw1]
  clear hw1
  go_region_held3 (fun w' => Grew w1 w') (first | assumption | exact Grew.drew ‹_›) (first
    | (go_at_call 166; refine (HD.out _ (HAL.out.trans h3) _ _ (f4.out.grew hg3)).mono ?_; rintro e w4 ⟨rfl, hg4⟩; have h4 := h3.trans hg4)
    | (go_at_call 47; refine (HT.out _ (HAL.out.trans h2)).mono ?_; rintro e w3 ⟨rfl, hg3⟩; have h3 := h2.trans hg3)
    | (go_at_call 91; refine (conditions_c _).mono ?_; rintro e w2 ⟨b0, b1, b2, b3, b4, b5, b6, b7, b8, b9, b10, rfl, -, -, -, -, f4, -, -, -, -, -, -, hg2⟩; have f4 := Lib.hid f4; have h2 := d1.trans hg2))
  go_wp2_with fail
  go_ret
  exact ⟨rfl, HAL.out.trans h4⟩
set_option maxHeartbeats 1000000 in
set_option maxRecDepth 100000 in
theorem axiomHolds_5 (v : Value) (A : List Nat) (w : World) (h : Ints w v (zs A)) (hA : Rl A) (h8 : A.length ≤ 8) (hN : TabAt w 1 axNames) (hf : findS axNames ⟨#[70]⟩ = 5) :
    Calls Tryz.prog 48 #[.agg #[.int .i64 (A.length : Int), v], .string ⟨#[70]⟩] w fun e w' => e = .returned (.bool (axB A 5)) ∧ Grew w w' := by
  have HT := Lib.hid (fun W (hW : Grew w W) => axiomAt_c ⟨#[70]⟩ W (hN.grew hW))
  rw [hf] at HT
  have HD := Lib.hid (fun W (hW : Grew w W) (B bl : Nat) (hf : FlagsAt W B bl [10]) => cond5_c _ A B bl W (h.grew hW) hA h8 hf)
  have hal := (Grew.refl w).alloc (.cells #[.int .i64 (A.length : Int), v] 26)
  obtain ⟨w1, hw1⟩ : ∃ w1, w1 = w.alloc (.cells #[.int .i64 (A.length : Int), v] 26) := ⟨_, rfl⟩
  rw [← hw1] at hal
  have hb0 : w1.heap[w.heap.size]? = some (.cells #[.int .i64 (A.length : Int), v] 26 (0, 0)) := by rw [hw1]; exact blk_new w _
  have p0 : ∀ W, Grew w1 W → W.cell? ⟨w.heap.size, 0, none⟩ = some (.int .i64 (A.length : Int)) := fun W hW => by rw [blk_cell ((hW.block (blk_lt hb0)).trans hb0)]; rfl
  have p1 : ∀ W, Grew w1 W → W.cell? ⟨w.heap.size, 1, none⟩ = some v := fun W hW => by rw [blk_cell ((hW.block (blk_lt hb0)).trans hb0)]; rfl
  have HAL := Lib.hid hal
  obtain ⟨A1, c1, rfl⟩ := ints_sliceN h
  have r1 := Grew.refl w1
  have d1 := r1.drew
  have hix := condIx_5
  clear h hA hb0 hal h8
  generalize axB A 5 = R at *
  generalize A.length = n at *
  go_enter Tryz.func48, Tryz.ntmps48
  go_wp2_with fail
  simp only [← hw1]
  clear hw1
  go_region_held3 (fun w' => Grew w1 w') (first | assumption | exact Grew.drew ‹_›) (first
    | (go_at_call 166; refine (HD.out _ (HAL.out.trans h3) _ _ (f5.out.grew hg3)).mono ?_; rintro e w4 ⟨rfl, hg4⟩; have h4 := h3.trans hg4)
    | (go_at_call 47; refine (HT.out _ (HAL.out.trans h2)).mono ?_; rintro e w3 ⟨rfl, hg3⟩; have h3 := h2.trans hg3)
    | (go_at_call 91; refine (conditions_c _).mono ?_; rintro e w2 ⟨b0, b1, b2, b3, b4, b5, b6, b7, b8, b9, b10, rfl, -, -, -, -, -, f5, -, -, -, -, -, hg2⟩; have f5 := Lib.hid f5; have h2 := d1.trans hg2))
  go_wp2_with fail
  go_ret
  exact ⟨rfl, HAL.out.trans h4⟩
set_option maxHeartbeats 1000000 in
set_option maxRecDepth 100000 in
theorem axiomHolds_6 (v : Value) (A : List Nat) (w : World) (h : Ints w v (zs A)) (hA : Rl A) (h8 : A.length ≤ 8) (hN : TabAt w 1 axNames) (hf : findS axNames ⟨#[71]⟩ = 6) :
    Calls Tryz.prog 48 #[.agg #[.int .i64 (A.length : Int), v], .string ⟨#[71]⟩] w fun e w' => e = .returned (.bool (axB A 6)) ∧ Grew w w' := by
  have HT := Lib.hid (fun W (hW : Grew w W) => axiomAt_c ⟨#[71]⟩ W (hN.grew hW))
  rw [hf] at HT
  have HD := Lib.hid (fun W (hW : Grew w W) (B bl : Nat) (hf : FlagsAt W B bl [5]) => cond6_c _ A B bl W (h.grew hW) hA h8 hf)
  have hal := (Grew.refl w).alloc (.cells #[.int .i64 (A.length : Int), v] 26)
  obtain ⟨w1, hw1⟩ : ∃ w1, w1 = w.alloc (.cells #[.int .i64 (A.length : Int), v] 26) := ⟨_, rfl⟩
  rw [← hw1] at hal
  have hb0 : w1.heap[w.heap.size]? = some (.cells #[.int .i64 (A.length : Int), v] 26 (0, 0)) := by rw [hw1]; exact blk_new w _
  have p0 : ∀ W, Grew w1 W → W.cell? ⟨w.heap.size, 0, none⟩ = some (.int .i64 (A.length : Int)) := fun W hW => by rw [blk_cell ((hW.block (blk_lt hb0)).trans hb0)]; rfl
  have p1 : ∀ W, Grew w1 W → W.cell? ⟨w.heap.size, 1, none⟩ = some v := fun W hW => by rw [blk_cell ((hW.block (blk_lt hb0)).trans hb0)]; rfl
  have HAL := Lib.hid hal
  obtain ⟨A1, c1, rfl⟩ := ints_sliceN h
  have r1 := Grew.refl w1
  have d1 := r1.drew
  have hix := condIx_6
  clear h hA hb0 hal h8
  generalize axB A 6 = R at *
  generalize A.length = n at *
  go_enter Tryz.func48, Tryz.ntmps48
  go_wp2_with fail
  simp only [← hw1]
  clear hw1
  go_region_held3 (fun w' => Grew w1 w') (first | assumption | exact Grew.drew ‹_›) (first
    | (go_at_call 166; refine (HD.out _ (HAL.out.trans h3) _ _ (f6.out.grew hg3)).mono ?_; rintro e w4 ⟨rfl, hg4⟩; have h4 := h3.trans hg4)
    | (go_at_call 47; refine (HT.out _ (HAL.out.trans h2)).mono ?_; rintro e w3 ⟨rfl, hg3⟩; have h3 := h2.trans hg3)
    | (go_at_call 91; refine (conditions_c _).mono ?_; rintro e w2 ⟨b0, b1, b2, b3, b4, b5, b6, b7, b8, b9, b10, rfl, -, -, -, -, -, -, f6, -, -, -, -, hg2⟩; have f6 := Lib.hid f6; have h2 := d1.trans hg2))
  go_wp2_with fail
  go_ret
  exact ⟨rfl, HAL.out.trans h4⟩
set_option maxHeartbeats 1000000 in
set_option maxRecDepth 100000 in
theorem axiomHolds_7 (v : Value) (A : List Nat) (w : World) (h : Ints w v (zs A)) (hA : Rl A) (h8 : A.length ≤ 8) (hN : TabAt w 1 axNames) (hf : findS axNames ⟨#[72]⟩ = 7) :
    Calls Tryz.prog 48 #[.agg #[.int .i64 (A.length : Int), v], .string ⟨#[72]⟩] w fun e w' => e = .returned (.bool (axB A 7)) ∧ Grew w w' := by
  have HT := Lib.hid (fun W (hW : Grew w W) => axiomAt_c ⟨#[72]⟩ W (hN.grew hW))
  rw [hf] at HT
  have HD := Lib.hid (fun W (hW : Grew w W) (B bl : Nat) (hf : FlagsAt W B bl [6]) => cond7_c _ A B bl W (h.grew hW) hA h8 hf)
  have hal := (Grew.refl w).alloc (.cells #[.int .i64 (A.length : Int), v] 26)
  obtain ⟨w1, hw1⟩ : ∃ w1, w1 = w.alloc (.cells #[.int .i64 (A.length : Int), v] 26) := ⟨_, rfl⟩
  rw [← hw1] at hal
  have hb0 : w1.heap[w.heap.size]? = some (.cells #[.int .i64 (A.length : Int), v] 26 (0, 0)) := by rw [hw1]; exact blk_new w _
  have p0 : ∀ W, Grew w1 W → W.cell? ⟨w.heap.size, 0, none⟩ = some (.int .i64 (A.length : Int)) := fun W hW => by rw [blk_cell ((hW.block (blk_lt hb0)).trans hb0)]; rfl
  have p1 : ∀ W, Grew w1 W → W.cell? ⟨w.heap.size, 1, none⟩ = some v := fun W hW => by rw [blk_cell ((hW.block (blk_lt hb0)).trans hb0)]; rfl
  have HAL := Lib.hid hal
  obtain ⟨A1, c1, rfl⟩ := ints_sliceN h
  have r1 := Grew.refl w1
  have d1 := r1.drew
  have hix := condIx_7
  clear h hA hb0 hal h8
  generalize axB A 7 = R at *
  generalize A.length = n at *
  go_enter Tryz.func48, Tryz.ntmps48
  go_wp2_with fail
  simp only [← hw1]
  clear hw1
  go_region_held3 (fun w' => Grew w1 w') (first | assumption | exact Grew.drew ‹_›) (first
    | (go_at_call 166; refine (HD.out _ (HAL.out.trans h3) _ _ (f7.out.grew hg3)).mono ?_; rintro e w4 ⟨rfl, hg4⟩; have h4 := h3.trans hg4)
    | (go_at_call 47; refine (HT.out _ (HAL.out.trans h2)).mono ?_; rintro e w3 ⟨rfl, hg3⟩; have h3 := h2.trans hg3)
    | (go_at_call 91; refine (conditions_c _).mono ?_; rintro e w2 ⟨b0, b1, b2, b3, b4, b5, b6, b7, b8, b9, b10, rfl, -, -, -, -, -, -, -, f7, -, -, -, hg2⟩; have f7 := Lib.hid f7; have h2 := d1.trans hg2))
  go_wp2_with fail
  go_ret
  exact ⟨rfl, HAL.out.trans h4⟩
set_option maxHeartbeats 1000000 in
set_option maxRecDepth 100000 in
theorem axiomHolds_8 (v : Value) (A : List Nat) (w : World) (h : Ints w v (zs A)) (hA : Rl A) (h8 : A.length ≤ 8) (hN : TabAt w 1 axNames) (hf : findS axNames ⟨#[76]⟩ = 8) :
    Calls Tryz.prog 48 #[.agg #[.int .i64 (A.length : Int), v], .string ⟨#[76]⟩] w fun e w' => e = .returned (.bool (axB A 8)) ∧ Grew w w' := by
  have HT := Lib.hid (fun W (hW : Grew w W) => axiomAt_c ⟨#[76]⟩ W (hN.grew hW))
  rw [hf] at HT
  have HD := Lib.hid (fun W (hW : Grew w W) (B bl : Nat) (hf : FlagsAt W B bl [2, 7]) => cond8_c _ A B bl W (h.grew hW) hA h8 hf)
  have hal := (Grew.refl w).alloc (.cells #[.int .i64 (A.length : Int), v] 26)
  obtain ⟨w1, hw1⟩ : ∃ w1, w1 = w.alloc (.cells #[.int .i64 (A.length : Int), v] 26) := ⟨_, rfl⟩
  rw [← hw1] at hal
  have hb0 : w1.heap[w.heap.size]? = some (.cells #[.int .i64 (A.length : Int), v] 26 (0, 0)) := by rw [hw1]; exact blk_new w _
  have p0 : ∀ W, Grew w1 W → W.cell? ⟨w.heap.size, 0, none⟩ = some (.int .i64 (A.length : Int)) := fun W hW => by rw [blk_cell ((hW.block (blk_lt hb0)).trans hb0)]; rfl
  have p1 : ∀ W, Grew w1 W → W.cell? ⟨w.heap.size, 1, none⟩ = some v := fun W hW => by rw [blk_cell ((hW.block (blk_lt hb0)).trans hb0)]; rfl
  have HAL := Lib.hid hal
  obtain ⟨A1, c1, rfl⟩ := ints_sliceN h
  have r1 := Grew.refl w1
  have d1 := r1.drew
  have hix := condIx_8
  clear h hA hb0 hal h8
  generalize axB A 8 = R at *
  generalize A.length = n at *
  go_enter Tryz.func48, Tryz.ntmps48
  go_wp2_with fail
  simp only [← hw1]
  clear hw1
  go_region_held3 (fun w' => Grew w1 w') (first | assumption | exact Grew.drew ‹_›) (first
    | (go_at_call 166; refine (HD.out _ (HAL.out.trans h3) _ _ (f8.out.grew hg3)).mono ?_; rintro e w4 ⟨rfl, hg4⟩; have h4 := h3.trans hg4)
    | (go_at_call 47; refine (HT.out _ (HAL.out.trans h2)).mono ?_; rintro e w3 ⟨rfl, hg3⟩; have h3 := h2.trans hg3)
    | (go_at_call 91; refine (conditions_c _).mono ?_; rintro e w2 ⟨b0, b1, b2, b3, b4, b5, b6, b7, b8, b9, b10, rfl, -, -, -, -, -, -, -, -, f8, -, -, hg2⟩; have f8 := Lib.hid f8; have h2 := d1.trans hg2))
  go_wp2_with fail
  go_ret
  exact ⟨rfl, HAL.out.trans h4⟩
set_option maxHeartbeats 1000000 in
set_option maxRecDepth 100000 in
theorem axiomHolds_9 (v : Value) (A : List Nat) (w : World) (h : Ints w v (zs A)) (hA : Rl A) (h8 : A.length ≤ 8) (hN : TabAt w 1 axNames) (hf : findS axNames ⟨#[84]⟩ = 9) :
    Calls Tryz.prog 48 #[.agg #[.int .i64 (A.length : Int), v], .string ⟨#[84]⟩] w fun e w' => e = .returned (.bool (axB A 9)) ∧ Grew w w' := by
  have HT := Lib.hid (fun W (hW : Grew w W) => axiomAt_c ⟨#[84]⟩ W (hN.grew hW))
  rw [hf] at HT
  have HD := Lib.hid (fun W (hW : Grew w W) (B bl : Nat) (hf : FlagsAt W B bl [0]) => cond9_c _ A B bl W (h.grew hW) hA h8 hf)
  have hal := (Grew.refl w).alloc (.cells #[.int .i64 (A.length : Int), v] 26)
  obtain ⟨w1, hw1⟩ : ∃ w1, w1 = w.alloc (.cells #[.int .i64 (A.length : Int), v] 26) := ⟨_, rfl⟩
  rw [← hw1] at hal
  have hb0 : w1.heap[w.heap.size]? = some (.cells #[.int .i64 (A.length : Int), v] 26 (0, 0)) := by rw [hw1]; exact blk_new w _
  have p0 : ∀ W, Grew w1 W → W.cell? ⟨w.heap.size, 0, none⟩ = some (.int .i64 (A.length : Int)) := fun W hW => by rw [blk_cell ((hW.block (blk_lt hb0)).trans hb0)]; rfl
  have p1 : ∀ W, Grew w1 W → W.cell? ⟨w.heap.size, 1, none⟩ = some v := fun W hW => by rw [blk_cell ((hW.block (blk_lt hb0)).trans hb0)]; rfl
  have HAL := Lib.hid hal
  obtain ⟨A1, c1, rfl⟩ := ints_sliceN h
  have r1 := Grew.refl w1
  have d1 := r1.drew
  have hix := condIx_9
  clear h hA hb0 hal h8
  generalize axB A 9 = R at *
  generalize A.length = n at *
  go_enter Tryz.func48, Tryz.ntmps48
  go_wp2_with fail
  simp only [← hw1]
  clear hw1
  go_region_held3 (fun w' => Grew w1 w') (first | assumption | exact Grew.drew ‹_›) (first
    | (go_at_call 166; refine (HD.out _ (HAL.out.trans h3) _ _ (f9.out.grew hg3)).mono ?_; rintro e w4 ⟨rfl, hg4⟩; have h4 := h3.trans hg4)
    | (go_at_call 47; refine (HT.out _ (HAL.out.trans h2)).mono ?_; rintro e w3 ⟨rfl, hg3⟩; have h3 := h2.trans hg3)
    | (go_at_call 91; refine (conditions_c _).mono ?_; rintro e w2 ⟨b0, b1, b2, b3, b4, b5, b6, b7, b8, b9, b10, rfl, -, -, -, -, -, -, -, -, -, f9, -, hg2⟩; have f9 := Lib.hid f9; have h2 := d1.trans hg2))
  go_wp2_with fail
  go_ret
  exact ⟨rfl, HAL.out.trans h4⟩
set_option maxHeartbeats 1000000 in
set_option maxRecDepth 100000 in
theorem axiomHolds_10 (v : Value) (A : List Nat) (w : World) (h : Ints w v (zs A)) (hA : Rl A) (_h8 : A.length ≤ 8) (hN : TabAt w 1 axNames) (hf : findS axNames ⟨#[86]⟩ = 10) :
    Calls Tryz.prog 48 #[.agg #[.int .i64 (A.length : Int), v], .string ⟨#[86]⟩] w fun e w' => e = .returned (.bool (axB A 10)) ∧ Grew w w' := by
  have HT := Lib.hid (fun W (hW : Grew w W) => axiomAt_c ⟨#[86]⟩ W (hN.grew hW))
  rw [hf] at HT
  have HD := Lib.hid (fun W (hW : Grew w W)  => ver_c _ A _ (h.grew hW) hA)
  rw [show verB A = axB A 10 from rfl] at HD
  have hal := (Grew.refl w).alloc (.cells #[.int .i64 (A.length : Int), v] 26)
  obtain ⟨w1, hw1⟩ : ∃ w1, w1 = w.alloc (.cells #[.int .i64 (A.length : Int), v] 26) := ⟨_, rfl⟩
  rw [← hw1] at hal
  have hb0 : w1.heap[w.heap.size]? = some (.cells #[.int .i64 (A.length : Int), v] 26 (0, 0)) := by rw [hw1]; exact blk_new w _
  have p0 : ∀ W, Grew w1 W → W.cell? ⟨w.heap.size, 0, none⟩ = some (.int .i64 (A.length : Int)) := fun W hW => by rw [blk_cell ((hW.block (blk_lt hb0)).trans hb0)]; rfl
  have p1 : ∀ W, Grew w1 W → W.cell? ⟨w.heap.size, 1, none⟩ = some v := fun W hW => by rw [blk_cell ((hW.block (blk_lt hb0)).trans hb0)]; rfl
  have HAL := Lib.hid hal
  obtain ⟨A1, c1, rfl⟩ := ints_sliceN h
  have r1 := Grew.refl w1
  have d1 := r1.drew
  have hix := condIx_10
  clear h hA hb0 hal _h8
  generalize axB A 10 = R at *
  generalize A.length = n at *
  go_enter Tryz.func48, Tryz.ntmps48
  go_wp2_with fail
  simp only [← hw1]
  clear hw1
  go_region_held3 (fun w' => Grew w1 w') (first | assumption | exact Grew.drew ‹_›) (first
    | (go_at_call 133; refine (HD.out _ (HAL.out.trans h3)).mono ?_; rintro e w4 ⟨rfl, hg4⟩; have h4 := h3.trans hg4)
    | (go_at_call 47; refine (HT.out _ (HAL.out.trans h2)).mono ?_; rintro e w3 ⟨rfl, hg3⟩; have h3 := h2.trans hg3)
    | (go_at_call 91; refine (conditions_c _).mono ?_; rintro e w2 ⟨b0, b1, b2, b3, b4, b5, b6, b7, b8, b9, b10, rfl, -, -, -, -, -, -, -, -, -, -, -, hg2⟩; have h2 := d1.trans hg2))
  go_wp2_with fail
  go_ret
  exact ⟨rfl, HAL.out.trans h4⟩
set_option maxHeartbeats 1000000 in
set_option maxRecDepth 100000 in
theorem axiomHolds_11 (v : Value) (A : List Nat) (w : World) (h : Ints w v (zs A)) (hA : Rl A) (_h8 : A.length ≤ 8) (hN : TabAt w 1 axNames) (hf : findS axNames ⟨#[88]⟩ = 11) :
    Calls Tryz.prog 48 #[.agg #[.int .i64 (A.length : Int), v], .string ⟨#[88]⟩] w fun e w' => e = .returned (.bool (axB A 11)) ∧ Grew w w' := by
  have HT := Lib.hid (fun W (hW : Grew w W) => axiomAt_c ⟨#[88]⟩ W (hN.grew hW))
  rw [hf] at HT
  have HD := Lib.hid (fun W (hW : Grew w W)  => tri_c _ A _ (h.grew hW) hA)
  rw [show triB A = axB A 11 from rfl] at HD
  have hal := (Grew.refl w).alloc (.cells #[.int .i64 (A.length : Int), v] 26)
  obtain ⟨w1, hw1⟩ : ∃ w1, w1 = w.alloc (.cells #[.int .i64 (A.length : Int), v] 26) := ⟨_, rfl⟩
  rw [← hw1] at hal
  have hb0 : w1.heap[w.heap.size]? = some (.cells #[.int .i64 (A.length : Int), v] 26 (0, 0)) := by rw [hw1]; exact blk_new w _
  have p0 : ∀ W, Grew w1 W → W.cell? ⟨w.heap.size, 0, none⟩ = some (.int .i64 (A.length : Int)) := fun W hW => by rw [blk_cell ((hW.block (blk_lt hb0)).trans hb0)]; rfl
  have p1 : ∀ W, Grew w1 W → W.cell? ⟨w.heap.size, 1, none⟩ = some v := fun W hW => by rw [blk_cell ((hW.block (blk_lt hb0)).trans hb0)]; rfl
  have HAL := Lib.hid hal
  obtain ⟨A1, c1, rfl⟩ := ints_sliceN h
  have r1 := Grew.refl w1
  have d1 := r1.drew
  have hix := condIx_11
  clear h hA hb0 hal _h8
  generalize axB A 11 = R at *
  generalize A.length = n at *
  go_enter Tryz.func48, Tryz.ntmps48
  go_wp2_with fail
  simp only [← hw1]
  clear hw1
  go_region_held3 (fun w' => Grew w1 w') (first | assumption | exact Grew.drew ‹_›) (first
    | (go_at_call 136; refine (HD.out _ (HAL.out.trans h3)).mono ?_; rintro e w4 ⟨rfl, hg4⟩; have h4 := h3.trans hg4)
    | (go_at_call 47; refine (HT.out _ (HAL.out.trans h2)).mono ?_; rintro e w3 ⟨rfl, hg3⟩; have h3 := h2.trans hg3)
    | (go_at_call 91; refine (conditions_c _).mono ?_; rintro e w2 ⟨b0, b1, b2, b3, b4, b5, b6, b7, b8, b9, b10, rfl, -, -, -, -, -, -, -, -, -, -, -, hg2⟩; have h2 := d1.trans hg2))
  go_wp2_with fail
  go_ret
  exact ⟨rfl, HAL.out.trans h4⟩
set_option maxHeartbeats 1000000 in
set_option maxRecDepth 100000 in
theorem axiomHolds_12 (v : Value) (A : List Nat) (w : World) (h : Ints w v (zs A)) (hA : Rl A) (h8 : A.length ≤ 8) (hN : TabAt w 1 axNames) (hf : findS axNames ⟨#[90]⟩ = 12) :
    Calls Tryz.prog 48 #[.agg #[.int .i64 (A.length : Int), v], .string ⟨#[90]⟩] w fun e w' => e = .returned (.bool (axB A 12)) ∧ Grew w w' := by
  have HT := Lib.hid (fun W (hW : Grew w W) => axiomAt_c ⟨#[90]⟩ W (hN.grew hW))
  rw [hf] at HT
  have HD := Lib.hid (fun W (hW : Grew w W) (B bl : Nat) (hf : FlagsAt W B bl [0, 2, 8]) => cond12_c _ A B bl W (h.grew hW) hA h8 hf)
  have hal := (Grew.refl w).alloc (.cells #[.int .i64 (A.length : Int), v] 26)
  obtain ⟨w1, hw1⟩ : ∃ w1, w1 = w.alloc (.cells #[.int .i64 (A.length : Int), v] 26) := ⟨_, rfl⟩
  rw [← hw1] at hal
  have hb0 : w1.heap[w.heap.size]? = some (.cells #[.int .i64 (A.length : Int), v] 26 (0, 0)) := by rw [hw1]; exact blk_new w _
  have p0 : ∀ W, Grew w1 W → W.cell? ⟨w.heap.size, 0, none⟩ = some (.int .i64 (A.length : Int)) := fun W hW => by rw [blk_cell ((hW.block (blk_lt hb0)).trans hb0)]; rfl
  have p1 : ∀ W, Grew w1 W → W.cell? ⟨w.heap.size, 1, none⟩ = some v := fun W hW => by rw [blk_cell ((hW.block (blk_lt hb0)).trans hb0)]; rfl
  have HAL := Lib.hid hal
  obtain ⟨A1, c1, rfl⟩ := ints_sliceN h
  have r1 := Grew.refl w1
  have d1 := r1.drew
  have hix := condIx_12
  clear h hA hb0 hal h8
  generalize axB A 12 = R at *
  generalize A.length = n at *
  go_enter Tryz.func48, Tryz.ntmps48
  go_wp2_with fail
  simp only [← hw1]
  clear hw1
  go_region_held3 (fun w' => Grew w1 w') (first | assumption | exact Grew.drew ‹_›) (first
    | (go_at_call 166; refine (HD.out _ (HAL.out.trans h3) _ _ (f10.out.grew hg3)).mono ?_; rintro e w4 ⟨rfl, hg4⟩; have h4 := h3.trans hg4)
    | (go_at_call 47; refine (HT.out _ (HAL.out.trans h2)).mono ?_; rintro e w3 ⟨rfl, hg3⟩; have h3 := h2.trans hg3)
    | (go_at_call 91; refine (conditions_c _).mono ?_; rintro e w2 ⟨b0, b1, b2, b3, b4, b5, b6, b7, b8, b9, b10, rfl, -, -, -, -, -, -, -, -, -, -, f10, hg2⟩; have f10 := Lib.hid f10; have h2 := d1.trans hg2))
  go_wp2_with fail
  go_ret
  exact ⟨rfl, HAL.out.trans h4⟩
end Go.Proofs.YtpfncncohnhanaaGreatDoor


/- The reference's inverse of a relation (l01Inverse), and its closure of a transitive one (l01Closure). -/
namespace Go.Proofs.YtpfncncohnhanaaGreatDoor
open Go.RowKit

set_option maxHeartbeats 1000000 in
theorem l01Inverse_c (v : Value) (A : List Nat) (w : World) (h : Ints w v (zs A)) (hA : Rl A) :
    Calls Tryz.prog 142 #[v] w (GivesB w A.length (fun f => ∀ y, y < A.length → f y = invN A A.length y)) := by
  have hn30 := hA.1
  have hmk := fun W => run_make_rows (P := Tryz.prog) 24 2 (.int .i64 0) 1 8 #[.int .i64 0] Tryz.underlying24 Tryz.infoI rfl .i64 .i64 A.length (by omega) (by omega) W
  rw [Nat.mul_one] at hmk
  have hnr : NRow (w.alloc (.cells (madeCells #[Value.int .i64 0] A.length) 2)) w.heap.size A.length A.length (fun _ => 0) := ⟨_, blk_new w _, size_madeCells _ _, Nat.le_refl _, by omega, fun i hi => made_z hi⟩
  have HNR := Lib.hid hnr
  have HAL := Lib.hid ((Grew.refl w).alloc (.cells (madeCells #[Value.int .i64 0] A.length) 2))
  clear hnr
  generalize madeCells #[Value.int .i64 0] A.length = cur0 at *
  have HB := Lib.hid (fun i (hi : i < A.length) k (hk : k < 64) => l01Bit_q (nt A i) k (by have := hA.sm.at_ hi; omega) hk)
  have HOne := Lib.hid (fun i (hi : i ≤ 30) W => l01One_q i hi W)
  have HO := Lib.hid (fun a b (ha : a < 1073741824) (hb : b < 1073741824) => or_i64 a b (by omega) (by omega))
  have HP2 := Lib.hid (fun k (hk : k < 30) => pow30 hk)
  have HI := Lib.hid (fun k y (hk : k ≤ 30) => Nat.lt_of_lt_of_le (invN_lt A y k) (pow30' hk))
  have HY := Lib.hid (fun k y (hb : (nt A k).testBit y = true) => show invN A (k + 1) y = invN A k y ||| 2 ^ k from if_pos hb)
  have HN := Lib.hid (fun k y (hb : (nt A k).testBit y = false) => show invN A (k + 1) y = invN A k y from if_neg (by rw [hb]; decide))
  obtain ⟨A', c, rfl⟩ := ints_sliceN h
  have HC := Lib.hid (fun h0 => cellsN h h0)
  clear h hA
  generalize hN : A.length = n at *
  clear hN
  go_enter Tryz.func142, Tryz.ntmps142
  go_wp2_with fail
  go_loopw [4, 5] (fun i _ wr => ∃ (j : Nat) (f : Nat → Nat), j ≤ n ∧ i = .int .i64 j ∧ Hid (NRow wr w.heap.size n n f) ∧ Hid ((∀ y, y < j → f y = invN A n y) ∧ ∀ y, y < n → j ≤ y → f y = 0) ∧ Grew w wr) (fun i _ _ => n - (intOf i).toNat)
  case atStart => exact ⟨0, fun _ => 0, Nat.zero_le _, rfl, HNR, Lib.hid ⟨fun y hy => absurd hy (by omega), fun _ _ _ => rfl⟩, HAL.out⟩
  clear hmk HNR HAL
  case round =>
    obtain ⟨j, f, hj, rfl, hR, hK, hB⟩ := hrel
    by_cases hlt : j < n
    · have HK0 : Hid ((∀ y, y < j → f y = invN A n y) ∧ (f j = invN A 0 j) ∧ ∀ y, y < n → j < y → f y = 0) := Lib.hid ⟨hK.out.1, hK.out.2 j hlt (Nat.le_refl _), fun y hy hjy => hK.out.2 y hy (by omega)⟩
      have hgl := Lib.hid (hR.out.lt)
      go_wp2_with fail
      go_loopw [5] (fun i wr => ∃ (k : Nat) (f : Nat → Nat), k ≤ n ∧ i = .int .i64 k ∧ Hid (NRow wr w.heap.size n n f) ∧ Hid ((∀ y, y < j → f y = invN A n y) ∧ (f j = invN A k j) ∧ ∀ y, y < n → j < y → f y = 0) ∧ Grew w wr) (fun i _ => n - (intOf i).toNat)
      case atStart => exact ⟨0, f, Nat.zero_le _, rfl, hR, HK0, hB⟩
      case round =>
        obtain ⟨k, f2, hk, rfl, hR2, hK2, hB2⟩ := hrel
        by_cases hlk : k < n
        · obtain ⟨b, o, rfl, hcell⟩ := HC.out (by omega)
          have k1 := hcell k hlk _ hB2
          have hb := Lib.hid (HB.out k hlk j (by omega))
          have hY := Lib.hid (HY.out k j)
          have hN := Lib.hid (HN.out k j)
          clear hcell
          cases ht : (nt A k).testBit j with
          | false =>
            rw [ht] at hb
            have hn := Lib.hid (hN.out ht)
            clear hY hN ht
            generalize nt A k = m at *
            go_wp2_with fail
            refine (hb.out _).mono ?_
            rintro e w3 ⟨rfl, hw3⟩
            rw [hw3]
            clear hw3
            go_wp2_with fail
            go_roundw
            case rel => exact ⟨k + 1, f2, by omega, by go_num, hR2, Lib.hid ⟨hK2.out.1, by rw [hn.out]; exact hK2.out.2.1, hK2.out.2.2⟩, hB2⟩
            case measure => simp [intOf]; omega
          | true =>
            rw [ht] at hb
            have hy := Lib.hid (hY.out ht)
            clear hY hN ht
            generalize nt A k = m at *
            have hfj := hK2.out.2.1
            have c6 := fun V (hV : Grew wr V) => (hR2.out.grew hV).cell hlt
            have c7 := fun V (hV : Grew wr V) => (hR2.out.grew hV).free j
            rw [hfj] at c6
            have hon := Lib.hid (HOne.out k (by omega))
            have ho := HO.out (invN A k j) (2 ^ k) (HI.out k j (by omega)) (HP2.out k (by omega))
            obtain ⟨f3, e1, e3⟩ : ∃ f3 : Nat → Nat, f3 j = invN A (k + 1) j ∧ ∀ q, q ≠ j → f3 q = f2 q := ⟨fun q => if q = j then invN A (k + 1) j else f2 q, if_pos rfl, fun q hq => if_neg hq⟩
            have hR3 := Lib.hid ((hR2.out.set (f' := f3) hlt e1 (fun q _ hq => e3 q hq)).grew (Grew.refl _).drew)
            have hK3 : Hid ((∀ y, y < j → f3 y = invN A n y) ∧ (f3 j = invN A (k + 1) j) ∧ ∀ y, y < n → j < y → f3 y = 0) := Lib.hid ⟨fun y hy => by
              rw [e3 y (by omega)]; exact hK2.out.1 y hy, e1, fun y hy hjy => by
              rw [e3 y (by omega)]; exact hK2.out.2.2 y hy hjy⟩
            clear e1 e3
            have hB3 := hB2.setCell (p := ⟨w.heap.size, j, none⟩) (Nat.le_refl _) (.int .i64 ((invN A (k + 1) j : Nat) : Int))
            rw [← hy.out] at ho
            clear hy hfj
            generalize invN A (k + 1) j = z at ho hR3 hB3
            generalize (2 ^ k : Nat) = p at *
            generalize invN A k j = u at *
            have hb0 : (0 : Int) ≤ (j : Int) := by omega
            have hb1 : (j : Int) < (n : Int) := by omega
            go_wp2_with fail
            refine (hb.out _).mono ?_
            rintro e w3 ⟨rfl, hw3⟩
            rw [hw3]
            clear hw3
            have r2 := (Grew.refl wr).drew
            have e2 := hB2.drew
            clear k1
            go_wp2_with fail
            go_region_law (first
              | (go_simp; go_at_call 65; refine (hon.out _).mono ?_; rintro e w9 ⟨rfl, hw9⟩; rw [hw9]; clear hw9))
            all_goals
              have hB4 := hB3.drew
              clear c6 c7 r2 e2 ho
              go_wp2_with fail
              go_roundw
              case rel => exact ⟨k + 1, _, by omega, by go_num, hR3, hK3, hB4⟩
              case measure => simp [intOf]; omega
        · obtain rfl : k = n := by omega
          have hK3 : Hid ((∀ y, y < j + 1 → f2 y = invN A k y) ∧ ∀ y, y < k → j + 1 ≤ y → f2 y = 0) := Lib.hid ⟨fun y hy => by
            by_cases hyj : y = j
            · rw [hyj]; exact hK2.out.2.1
            · exact hK2.out.1 y (by omega), fun y hy hjy => hK2.out.2.2 y hy (by omega)⟩
          go_wp2_with fail
          go_roundw
          case rel => exact ⟨j + 1, f2, by omega, by go_num, hR2, hK3, hB2⟩
          case measure => simp [intOf]; omega
    · obtain rfl : j = n := by omega
      have HR := Lib.hid (And.intro hR.out hK.out.1)
      go_wp2_with fail
      go_ret
      exact ⟨_, _, f, rfl, HR.out.1, HR.out.2, Nat.le_refl _, hB⟩
theorem or_trn {A : List Nat} (hT : Trn A) {k j : Nat} (hk : k < A.length) (h : (nt A k).testBit j = true) : nt A k ||| nt A j = nt A k := by
  apply Nat.eq_of_testBit_eq
  intro z
  rw [Nat.testBit_or]
  cases hz : (nt A j).testBit z with
  | false => rw [Bool.or_false]
  | true => rw [hT k j z hk h hz]; rfl
theorem l01Closure_t (v : Value) (A : List Nat) (w : World) (h : Ints w v (zs A)) (hA : Rl A) (hT : Trn A) (h0 : 0 < A.length) :
    Calls Tryz.prog 128 #[v] w (GivesB w A.length (fun f => ∀ x, x < A.length → f x = nt A x)) := by
  have hn30 := hA.1
  have HCL := Lib.hid (ownR_c v (zs A) w h (by rw [zs_len]; omega))
  have HZ := Lib.hid (fun i (hi : i < A.length) => hA.sm.at_ hi)
  have HH := Lib.hid (fun m i (hm : m < 1073741824) (hi : i < 64) => l01Bit_q m i (by omega) hi)
  have HO := Lib.hid (fun a b (ha : a < 1073741824) (hb : b < 1073741824) => or_i64 a b (by omega) (by omega))
  have HOS := Lib.hid (fun k j (hk : k < A.length) h => @or_trn A hT k j hk h)
  obtain ⟨A', c, rfl⟩ := ints_sliceN h
  clear h hA hT
  generalize hN : A.length = n at *
  have hNL := Lib.hid hN
  clear hN
  go_enter Tryz.func128, Tryz.ntmps128
  go_wp2_with fail
  refine HCL.out.mono ?_
  rintro e w1 ⟨v1, rfl, hO1, hg1⟩
  obtain ⟨A2, c2, rfl⟩ := ints_sliceN hO1.ints
  rw [hNL.out] at hO1 ⊢
  obtain ⟨g, rfl, hgw, hR0⟩ := own_nrow hO1 hNL.out h0
  have HR0 := Lib.hid hR0
  clear hR0 hO1 HCL
  go_wp2_with fail
  go_loopw [4, 5] (fun i _ wr => ∃ (j : Nat) (f : Nat → Nat), j ≤ n ∧ i = .int .i64 j ∧ Hid (NRow wr g n c2 f) ∧ Hid (∀ x, x < n → f x = nt A x) ∧ Grew w wr) (fun i _ _ => n - (intOf i).toNat)
  case atStart => exact ⟨0, _, Nat.zero_le _, rfl, HR0, Lib.hid (fun _ _ => rfl), hg1⟩
  clear HR0
  case round =>
    obtain ⟨j, f, hj, rfl, hR, hK, hB⟩ := hrel
    by_cases hlt : j < n
    · go_wp2_with fail
      go_loopw [5] (fun i wr => ∃ (k : Nat) (f : Nat → Nat), k ≤ n ∧ i = .int .i64 k ∧ Hid (NRow wr g n c2 f) ∧ Hid (∀ x, x < n → f x = nt A x) ∧ Grew w wr) (fun i _ => n - (intOf i).toNat)
      case atStart => exact ⟨0, f, Nat.zero_le _, rfl, hR, hK, hB⟩
      case round =>
        obtain ⟨k, f2, hk, rfl, hR2, hK2, hB2⟩ := hrel
        by_cases hlk : k < n
        · have c2' : ∀ W, Grew wr W → W.cell? ⟨g, k, none⟩ = some (.int .i64 ((f2 k : Nat) : Int)) := fun W hW => (hR2.out.grew hW).cell hlk
          have c3' : ∀ W, Grew wr W → W.cell? ⟨g, j, none⟩ = some (.int .i64 ((f2 j : Nat) : Int)) := fun W hW => (hR2.out.grew hW).cell hlt
          have c4' : ∀ W, Grew wr W → W.frozen? ⟨g, k, none⟩ = false := fun W hW => (hR2.out.grew hW).free k
          rw [hK2.out k hlk] at c2'
          rw [hK2.out j hlt] at c3'
          have ho := HO.out _ _ (HZ.out k hlk) (HZ.out j hlt)
          have hos := Lib.hid (HOS.out k j hlk)
          have hH := Lib.hid (HH.out (nt A k) j (HZ.out k hlk) (by omega))
          have HYK := Lib.hid (hK2.out k hlk)
          have hr1 := Grew.refl wr
          have hd1 := (Grew.refl wr).drew
          generalize nt A k = y at *
          generalize nt A j = z at *
          generalize y.testBit j = t at *
          have hi0 : (0 : Int) ≤ (k : Int) := by omega
          have hi6 : (k : Int) < (n : Int) := by omega
          have hj0 : (0 : Int) ≤ (j : Int) := by omega
          have hj6 : (j : Int) < (n : Int) := by omega
          go_wp2_with fail
          refine (hH.out _).mono ?_
          rintro e w2 ⟨rfl, rfl⟩
          cases t with
          | true =>
            rw [hos.out rfl] at ho
            go_wp2_with fail
            go_region
            go_wp2_with fail
            go_roundw
            case rel => exact ⟨k + 1, f2, by omega, by go_num, Lib.hid ((hR2.out.set hlk HYK.out (fun _ _ _ => rfl)).grew ((Grew.refl _).drew)), hK2, (hB2.setCell hgw _).drew⟩
            case measure => simp [intOf]; omega
          | false =>
            go_wp2_with fail
            go_roundw
            case rel => exact ⟨k + 1, f2, by omega, by go_num, hR2, hK2, hB2⟩
            case measure => simp [intOf]; omega
        · obtain rfl : k = n := by omega
          go_wp2_with fail
          go_roundw
          case rel => exact ⟨j + 1, f2, by omega, by go_num, hR2, hK2, hB2⟩
          case measure => simp [intOf]; omega
    · obtain rfl : j = n := by omega
      have HR := Lib.hid (And.intro hR.out hK.out)
      go_wp2_with fail
      go_ret
      exact ⟨_, _, f, rfl, HR.out.1, HR.out.2, hgw, hB⟩
end Go.Proofs.YtpfncncohnhanaaGreatDoor


/- l05Flag of the reference, all flags. -/
namespace Go.Proofs.YtpfncncohnhanaaGreatDoor
open Go.RowKit

def flX (A : List Nat) (F : Nat) (x : Nat) : Bool :=
  if F = 0 then (nt A x).testBit x
  else if F = 1 then !decide (nt A x = 0)
  else if F = 2 then decide (dif (img A (nt A x)) (nt A x) = 0)
  else if F = 7 then !(nt A x).testBit x
  else if F = 10 then decide ((mbs (nt A x)).length ≤ 1)
  else true
def flY (A : List Nat) (F : Nat) (x y : Nat) : Bool :=
  if F = 3 then (nt A y).testBit x
  else if F = 4 then decide (dif (nt A x) (nt A y) = 0)
  else if F = 8 then !(!(x == y) && (nt A y).testBit x)
  else if F = 9 then !decide (nt A x &&& invN A A.length y = 0)
  else true
def flZ (A : List Nat) (F : Nat) (y z : Nat) : Bool :=
  if F = 5 then !decide (nt A y &&& nt A z = 0)
  else if F = 6 then (nt A y).testBit z || (nt A z).testBit y
  else true
def flZs (A : List Nat) (F : Nat) (x y z : Nat) : Bool := !(nt A x).testBit z || flZ A F y z
def flYs (A : List Nat) (F : Nat) (x y : Nat) : Bool := !(nt A x).testBit y || (flY A F x y && allB A.length (flZs A F x y))
def flXs (A : List Nat) (F : Nat) (x : Nat) : Bool := flX A F x && allB A.length (flYs A F x)
def flR (A : List Nat) (F : Nat) : Bool := allB A.length (flXs A F)
set_option maxHeartbeats 4000000 in
set_option maxRecDepth 100000 in
theorem l05Flag_c (F : Nat) (hF : F ≤ 10) (v : Value) (A : List Nat) (w : World) (h : Ints w v (zs A)) (hA : Rl A) (hT : F = 7 → Trn A) :
    Calls Tryz.prog 94 #[.agg #[.int .i64 (A.length : Int), v], .int .i64 (F : Int)] w fun e w' => e = .returned (.bool (flR A F)) ∧ Grew w w' := by
  obtain ⟨R, hR⟩ : ∃ R, R = flR A F := ⟨_, rfl⟩
  rw [← hR]
  unfold flR at hR
  have HA := Lib.hid (fun k hk h => hR.trans (@allB_no A.length (flXs A F) k hk h))
  have HZ := Lib.hid (fun h => hR.trans (@allB_of A.length (flXs A F) h))
  have hn30 := hA.1
  have HB := Lib.hid (fun i (hi : i < A.length) k (hk : k < 64) => l01Bit_q (nt A i) k (by have := hA.sm.at_ hi; omega) hk)
  have HI := Lib.hid (fun i (hi : i < A.length) W (hW : Grew w W) => l01Image_q v A (nt A i) W (h.grew hW) hA.sm hA.1 (hA.lt hi))
  have HN := Lib.hid (fun i (hi : i < A.length) => andNot_i64 (img A (nt A i)) (nt A i) (by have := orK_sm (is := mbs (nt A i)) hA.sm (mbs (nt A i)).length; unfold img; omega) (by have := hA.sm.at_ hi; omega))
  have HCL := Lib.hid (fun (h7 : F = 7) (h0 : 0 < A.length) W (hW : Grew w W) => l01Closure_t v A W (h.grew hW) hA (hT h7) h0)
  have HBI := Lib.hid (fun i (hi : i < A.length) => l01Bits_c (nt A i) (hA.sm.at_ hi))
  have HIN := Lib.hid (fun W (hW : Grew w W) => l01Inverse_c v A W (h.grew hW) hA)
  have HN2 := Lib.hid (fun i k (hi : i < A.length) (hk : k < A.length) => andNot_i64 (nt A i) (nt A k) (by have := hA.sm.at_ hi; omega) (by have := hA.sm.at_ hk; omega))
  have HA2 := Lib.hid (fun i k (hi : i < A.length) (hk : k < A.length) => and_i64 (nt A i) (nt A k) (by have := hA.sm.at_ hi; omega) (by have := hA.sm.at_ hk; omega))
  have HA3 := Lib.hid (fun i k (hi : i < A.length) (hk : k < A.length) => and_i64 (nt A i) (invN A A.length k) (by have := hA.sm.at_ hi; omega) (by have := Nat.lt_of_lt_of_le (invN_lt A k A.length) (pow30' hA.1); omega))
  have hal := (Grew.refl w).alloc (.cells #[.int .i64 (A.length : Int), v] 26)
  have y0 : ∀ W, Grew (w.alloc (.cells #[.int .i64 (A.length : Int), v] 26)) W → W.cell? ⟨w.heap.size, 0, none⟩ = some (.int .i64 (A.length : Int)) := fun W hW => (hW.cell (p := ⟨w.heap.size, 0, none⟩) (by simp)).trans (by simp)
  have y1 : ∀ W, Grew (w.alloc (.cells #[.int .i64 (A.length : Int), v] 26)) W → W.cell? ⟨w.heap.size, 1, none⟩ = some v := fun W hW => (hW.cell (p := ⟨w.heap.size, 1, none⟩) (by simp)).trans (by simp)
  obtain ⟨w1, hw1⟩ : ∃ w1, w1 = w.alloc (.cells #[.int .i64 (A.length : Int), v] 26) := ⟨_, rfl⟩
  rw [← hw1] at y0 y1 hal
  have HG := Lib.hid hal
  have r1 := Grew.refl w1
  have r1d := r1.drew
  obtain ⟨A', c, rfl⟩ := ints_sliceN h
  have HC := Lib.hid (fun h0 => cellsN h h0)
  clear h hA hR hal hT
  generalize hN : A.length = n at *
  have HNN := Lib.hid hN
  clear hN
  go_enter Tryz.func94, Tryz.ntmps94
  go_wp2_with fail
  simp only [← hw1]
  clear hw1
  go_quiet (fail)
  go_wp2_with fail
  go_loopw [7, 8, 9] (fun i _ _ wr => ∃ j : Nat, j ≤ n ∧ i = .int .i64 j ∧ Grew w1 wr ∧ Hid (AllK (flXs A F) j)) (fun i _ _ _ => n - (intOf i).toNat)
  case atStart => exact ⟨0, Nat.zero_le _, rfl, (Grew.refl _).drewN _, AllK.zero _⟩
  case round =>
    obtain ⟨j, hj, rfl, hB, HJ⟩ := hrel
    by_cases hlt : j < n
    · obtain ⟨b, o, rfl, hcell⟩ := HC.out (by omega)
      have hgw := HG.out
      have HX := Lib.hid (fun i hi W (hW : Grew w1 W) => hcell i hi W (hgw.trans hW))
      have hcx := fun W (hW : Grew wr W) => HX.out j hlt W (hB.trans hW)
      have rx := Grew.refl wr
      have hA1 := Lib.hid (HA.out j hlt)
      have hS1 := Lib.hid (fun h => HJ.out.succ (k := j) h)
      have hBx := Lib.hid (HB.out j hlt)
      have HFX := Lib.hid (fun (h : flX A F j = false) => show flXs A F j = false from by unfold flXs; rw [h, Bool.false_and])
      clear hcell
      go_upto_block 2 with fail
      go_cut [19] from 14 to 174 (fun _ wx => Grew w1 wx ∧ Hid (flX A F j = true))
      case first =>
        as_aux_lemma =>
          have hrx := hB.drew
          by_cases h0 : F = 0
          · subst h0
            have hbr := Lib.hid (hBx.out j (by omega))
            cases ht : (nt A j).testBit j with
            | false =>
              rw [ht] at hbr
              have hv := Lib.hid (hA1.out (HFX.out ht))
              generalize nt A j = m at *
              go_wp2_with fail
              refine (hbr.out _).mono ?_
              rintro e w2 ⟨rfl, rfl⟩
              go_wp2_with fail
              go_ret
              exact ⟨by rw [hv.out]; rfl, HG.out.trans hB⟩
            | true =>
              rw [ht] at hbr
              have hv : Hid (flX A 0 j = true) := Lib.hid ht
              generalize nt A j = m at *
              go_wp2_with fail
              refine (hbr.out _).mono ?_
              rintro e w2 ⟨rfl, rfl⟩
              go_wp2_with fail
              go_meet
              exact ⟨hB, hv⟩
          · by_cases h1 : F = 1
            · subst h1
              have hbb : (((nt A j : Nat) : Int) == 0) = decide (nt A j = 0) := by rw [Bool.eq_iff_iff]; simp
              have hfx : flX A 1 j = !decide (nt A j = 0) := rfl
              cases ht : decide (nt A j = 0) with
              | true =>
                have hv := Lib.hid (hA1.out (HFX.out (by rw [hfx, ht]; rfl)))
                rw [ht] at hbb
                clear hfx ht
                generalize nt A j = m at *
                go_wp2_with fail
                go_ret
                exact ⟨by rw [hv.out]; rfl, HG.out.trans hB⟩
              | false =>
                have hv : Hid (flX A 1 j = true) := Lib.hid (by rw [hfx, ht]; rfl)
                rw [ht] at hbb
                clear hfx ht
                generalize nt A j = m at *
                go_wp2_with fail
                go_meet
                exact ⟨hB, hv⟩
            · by_cases h2 : F = 2
              · subst h2
                have hi := Lib.hid (fun W hW => HI.out j hlt W hW)
                have hnn := HN.out j hlt
                have hrr := Grew.refl wr
                have hrd := hrr.drew
                have hgwr := Lib.hid (HG.out.trans hB)
                have hfx : flX A 2 j = decide (dif (img A (nt A j)) (nt A j) = 0) := rfl
                have hbb : (((dif (img A (nt A j)) (nt A j) : Nat) : Int) != 0) = !decide (dif (img A (nt A j)) (nt A j) = 0) := by rw [Bool.eq_iff_iff]; simp
                cases ht : decide (dif (img A (nt A j)) (nt A j) = 0) with
                | true =>
                  have hv : Hid (flX A 2 j = true) := Lib.hid (by rw [hfx, ht])
                  rw [ht] at hbb
                  clear hfx ht
                  generalize dif (img A (nt A j)) (nt A j) = dm at *
                  generalize img A (nt A j) = mg at *
                  go_wp2_with fail
                  go_quiet (first | (go_at_call 140; exact Calls.quiet_of_same (hi.out _ (by first | exact hgwr.out | exact hgwr.out.drew | exact hgwr.out.drewN _))))
                  go_wp2_with fail
                  go_meet
                  exact ⟨hB.drewN _, hv⟩
                | false =>
                  have hv := Lib.hid (hA1.out (HFX.out (by rw [hfx, ht])))
                  rw [ht] at hbb
                  clear hfx ht
                  generalize dif (img A (nt A j)) (nt A j) = dm at *
                  generalize img A (nt A j) = mg at *
                  go_wp2_with fail
                  go_quiet (first | (go_at_call 140; exact Calls.quiet_of_same (hi.out _ (by first | exact hgwr.out | exact hgwr.out.drew | exact hgwr.out.drewN _))))
                  go_wp2_with fail
                  go_ret
                  exact ⟨by rw [hv.out]; rfl, HG.out.trans (hB.drewN _)⟩
              · by_cases h7 : F = 7
                · subst h7
                  have hbr := Lib.hid (hBx.out j (by omega))
                  have hcl := Lib.hid (HCL.out rfl (by omega) _ (HG.out.trans hB))
                  have hfx : flX A 7 j = !(nt A j).testBit j := rfl
                  cases ht : (nt A j).testBit j with
                  | true =>
                    rw [ht] at hbr
                    have hv := Lib.hid (hA1.out (HFX.out (by rw [hfx, ht]; rfl)))
                    clear hfx ht
                    go_wp2_with fail
                    refine (hcl.out).mono ?_
                    rintro e w2 ⟨g, cc, f, rfl, hR, hf, hgg, hg2⟩
                    have k2 := hR.cell hlt
                    rw [hf j hlt] at k2
                    clear hR hf
                    generalize nt A j = m at *
                    go_wp2_with fail
                    refine (hbr.out _).mono ?_
                    rintro e w3 ⟨rfl, rfl⟩
                    go_wp2_with fail
                    go_ret
                    exact ⟨by rw [hv.out]; rfl, HG.out.trans (hB.trans hg2)⟩
                  | false =>
                    rw [ht] at hbr
                    have hv : Hid (flX A 7 j = true) := Lib.hid (by rw [hfx, ht]; rfl)
                    clear hfx ht
                    go_wp2_with fail
                    refine (hcl.out).mono ?_
                    rintro e w2 ⟨g, cc, f, rfl, hR, hf, hgg, hg2⟩
                    have k2 := hR.cell hlt
                    rw [hf j hlt] at k2
                    clear hR hf
                    generalize nt A j = m at *
                    have hB2 := hB.trans hg2
                    go_wp2_with fail
                    refine (hbr.out _).mono ?_
                    rintro e w3 ⟨rfl, rfl⟩
                    go_wp2_with fail
                    go_meet
                    exact ⟨hB2, hv⟩
                · by_cases h10 : F = 10
                  · subst h10
                    have hbr := Lib.hid (HBI.out j hlt)
                    have hfx : flX A 10 j = decide ((mbs (nt A j)).length ≤ 1) := rfl
                    have hbb : decide ((1 : Int) < (((mbs (nt A j)).length : Nat) : Int)) = !decide ((mbs (nt A j)).length ≤ 1) := by rw [Bool.eq_iff_iff, decide_eq_true_eq, Bool.not_eq_true', decide_eq_false_iff_not]; omega
                    cases ht : decide ((mbs (nt A j)).length ≤ 1) with
                    | true =>
                      have hv : Hid (flX A 10 j = true) := Lib.hid (by rw [hfx, ht])
                      have hle : ¬ (1 : Int) < (((mbs (nt A j)).length : Nat) : Int) := by have := of_decide_eq_true ht; omega
                      clear hfx ht hbb
                      generalize (mbs (nt A j)).length = kk at *
                      generalize nt A j = m at *
                      go_wp2_with fail
                      refine (hbr.out _).mono ?_
                      rintro e w2 ⟨rfl, rfl⟩
                      go_wp2_with fail
                      go_meet
                      exact ⟨hB, hv⟩
                    | false =>
                      have hv := Lib.hid (hA1.out (HFX.out (by rw [hfx, ht])))
                      have hle : (1 : Int) < (((mbs (nt A j)).length : Nat) : Int) := by have := of_decide_eq_false ht; omega
                      clear hfx ht hbb
                      generalize (mbs (nt A j)).length = kk at *
                      generalize nt A j = m at *
                      go_wp2_with fail
                      refine (hbr.out _).mono ?_
                      rintro e w2 ⟨rfl, rfl⟩
                      go_wp2_with fail
                      go_ret
                      exact ⟨by rw [hv.out]; rfl, HG.out.trans hB⟩
                  · have hv : Hid (flX A F j = true) := Lib.hid (by unfold flX; rw [if_neg h0, if_neg h1, if_neg h2, if_neg h7, if_neg h10])
                    have b0 : ((F : Int) == 0) = false := by simp; omega
                    have b1 : ((F : Int) == 1) = false := by simp; omega
                    have b2 : ((F : Int) == 2) = false := by simp; omega
                    have b7 : ((F : Int) == 7) = false := by simp; omega
                    have b10 : ((F : Int) == 10) = false := by simp; omega
                    go_wp2_with fail
                    go_meet
                    exact ⟨hB, hv⟩
      case rest =>
        obtain ⟨hBc, hvX⟩ := hcut
        have HFY := Lib.hid (fun (h : allB n (flYs A F j) = true) => show flXs A F j = true from by unfold flXs; rw [hvX.out, Bool.true_and, HNN.out]; exact h)
        have HFN := Lib.hid (fun k (hk : k < n) (h : flYs A F j k = false) => show flXs A F j = false from by unfold flXs; rw [hvX.out, Bool.true_and, HNN.out]; exact allB_no hk h)
        clear hcx rx
        generalize wc = wx at *
        go_wp2_with fail
        go_loopw [8, 9] (fun i _ wy => ∃ k : Nat, k ≤ n ∧ i = .int .i64 k ∧ Grew w1 wy ∧ Hid (AllK (flYs A F j) k)) (fun i _ _ => n - (intOf i).toNat)
        case atStart => exact ⟨0, Nat.zero_le _, rfl, hBc, AllK.zero _⟩
        case round =>
          obtain ⟨k, hk, rfl, hY, HK⟩ := hrel
          by_cases hlk : k < n
          · have hcy := fun W (hW : Grew wr W) => HX.out j hlt W (hY.trans hW)
            have hcz := fun W (hW : Grew wr W) => HX.out k hlk W (hY.trans hW)
            have ry := Grew.refl wr
            have hb2 := Lib.hid (hBx.out k (by omega))
            have hb4 := Lib.hid (HB.out k hlk j (by omega))
            have hKS := Lib.hid (fun h => HK.out.succ (k := k) h)
            have hA2 := Lib.hid (fun h => hA1.out (HFN.out k hlk h))
            cases ht : (nt A j).testBit k with
            | false =>
              rw [ht] at hb2
              have hks := Lib.hid (hKS.out (by unfold flYs; rw [ht]; rfl))
              clear ht hA2 hKS hcz hb4
              generalize nt A j = m at *
              go_wp2_with fail
              refine (hb2.out _).mono ?_
              rintro e w3 ⟨rfl, rfl⟩
              go_wp2_with fail
              go_roundw
              case rel => exact ⟨k + 1, by omega, by go_num, hY, hks⟩
              case measure => simp [intOf]; omega
            | true =>
              rw [ht] at hb2
              have HYY := Lib.hid (fun (h : flY A F j k = false) => show flYs A F j k = false from by unfold flYs; rw [ht, h]; rfl)
              have HYT := Lib.hid (fun (h1 : flY A F j k = true) (h2 : allB n (flZs A F j k) = true) => show flYs A F j k = true from by unfold flYs; rw [ht, h1, HNN.out]; exact h2)
              have HYF := Lib.hid (fun (h1 : flY A F j k = true) q (hq : q < n) (h2 : flZs A F j k q = false) => show flYs A F j k = false from by unfold flYs; rw [ht, h1, HNN.out]; exact allB_no hq h2)
              clear ht
              go_upto_region 25 with fail
              refine (hb2.out _).mono ?_
              rintro e w3 ⟨rfl, rfl⟩
              go_upto_block 5 with fail
              go_cut [79] from 67 to 174 (fun _ wx => Grew w1 wx ∧ Hid (flY A F j k = true))
              case first =>
                as_aux_lemma =>
                  by_cases h3 : F = 3
                  · subst h3
                    have hfy : flY A 3 j k = (nt A k).testBit j := rfl
                    cases ht : (nt A k).testBit j with
                    | true =>
                      rw [ht] at hb4 hfy
                      have hv : Hid (flY A 3 j k = true) := Lib.hid hfy
                      clear hfy ht hcy
                      generalize nt A k = m at *
                      go_wp2_with fail
                      refine (hb4.out _).mono ?_
                      rintro e w4 ⟨rfl, rfl⟩
                      go_wp2_with fail
                      go_meet
                      exact ⟨hY, hv⟩
                    | false =>
                      rw [ht] at hb4 hfy
                      have hv := Lib.hid (hA2.out (HYY.out hfy))
                      clear hfy ht hcy
                      generalize nt A k = m at *
                      go_wp2_with fail
                      refine (hb4.out _).mono ?_
                      rintro e w4 ⟨rfl, rfl⟩
                      go_wp2_with fail
                      go_ret
                      exact ⟨by rw [hv.out]; rfl, HG.out.trans hY⟩
                  · by_cases h4 : F = 4
                    · subst h4
                      have hfy : flY A 4 j k = decide (dif (nt A j) (nt A k) = 0) := rfl
                      have hnn := HN2.out j k hlt hlk
                      have hbb : (((dif (nt A j) (nt A k) : Nat) : Int) != 0) = !decide (dif (nt A j) (nt A k) = 0) := by rw [Bool.eq_iff_iff]; simp
                      have ryd := ry.drew
                      cases ht : decide (dif (nt A j) (nt A k) = 0) with
                      | true =>
                        rw [ht] at hfy hbb
                        have hv : Hid (flY A 4 j k = true) := Lib.hid hfy
                        clear hfy ht hb2 hb4
                        generalize dif (nt A j) (nt A k) = dm at *
                        generalize nt A k = m at *
                        generalize nt A j = m2 at *
                        go_wp2_with fail
                        go_quiet (fail)
                        go_wp2_with fail
                        go_meet
                        exact ⟨hY.drewN _, hv⟩
                      | false =>
                        rw [ht] at hfy hbb
                        have hv := Lib.hid (hA2.out (HYY.out hfy))
                        clear hfy ht hb2 hb4
                        generalize dif (nt A j) (nt A k) = dm at *
                        generalize nt A k = m at *
                        generalize nt A j = m2 at *
                        go_wp2_with fail
                        go_quiet (fail)
                        go_wp2_with fail
                        go_ret
                        exact ⟨by rw [hv.out]; rfl, HG.out.trans (hY.drewN _)⟩
                    · by_cases h8 : F = 8
                      · subst h8
                        have hfy : flY A 8 j k = !(!(j == k) && (nt A k).testBit j) := rfl
                        by_cases hjk : j = k
                        · have hj1 : ((j : Int) != (k : Int)) = false := by rw [hjk]; simp
                          have hv : Hid (flY A 8 j k = true) := Lib.hid (by rw [hfy, hjk]; simp)
                          clear hfy hjk hb2 hb4
                          go_wp2_with fail
                          go_meet
                          exact ⟨hY, hv⟩
                        · have hj1 : ((j : Int) != (k : Int)) = true := by rw [bne_iff_ne]; omega
                          have hj2 : (j == k) = false := by rw [beq_eq_false_iff_ne]; exact hjk
                          rw [hj2, Bool.not_false, Bool.true_and] at hfy
                          cases ht : (nt A k).testBit j with
                          | true =>
                            rw [ht] at hb4 hfy
                            have hv := Lib.hid (hA2.out (HYY.out hfy))
                            clear hfy ht hjk hj2 hcy
                            generalize nt A k = m at *
                            go_wp2_with fail
                            refine (hb4.out _).mono ?_
                            rintro e w4 ⟨rfl, rfl⟩
                            go_wp2_with fail
                            go_ret
                            exact ⟨by rw [hv.out]; rfl, HG.out.trans hY⟩
                          | false =>
                            rw [ht] at hb4 hfy
                            have hv : Hid (flY A 8 j k = true) := Lib.hid hfy
                            clear hfy ht hjk hj2 hcy
                            generalize nt A k = m at *
                            go_wp2_with fail
                            refine (hb4.out _).mono ?_
                            rintro e w4 ⟨rfl, rfl⟩
                            go_wp2_with fail
                            go_meet
                            exact ⟨hY, hv⟩
                      · by_cases h9 : F = 9
                        · subst h9
                          have hfy : flY A 9 j k = !decide (nt A j &&& invN A A.length k = 0) := rfl
                          rw [HNN.out] at hfy
                          have hnn := HA3.out j k hlt hlk
                          have hbb : (((nt A j &&& invN A n k : Nat) : Int) == 0) = decide (nt A j &&& invN A n k = 0) := by rw [Bool.eq_iff_iff]; simp
                          have ryd := ry.drew
                          have hYd := hY.drew
                          have hIN := Lib.hid (fun W (hW : Grew w1 W) => HIN.out W (HG.out.trans hW))
                          cases ht : decide (nt A j &&& invN A n k = 0) with
                          | true =>
                            as_aux_lemma =>
                              rw [ht] at hfy hbb
                              have hv := Lib.hid (hA2.out (HYY.out hfy))
                              clear hfy ht hb2 hb4 hcz
                              have hcv := fun W (hW : Grew w1 W) => HX.out j hlt W hW
                              go_wp2_with fail
                              refine wp_region_held_drew (S := fun w' => Grew w1 w') (by kernel_rfl) hYd (fun hHeld => ?_)
                              refine wpAnyH_take (i := 0) (oi := ?on1) (v := ?vn1) ?hin1 ?an1 ?bn1 ?cn1 ?qn1 (Or.inl ⟨?dn1, ?hyn1⟩) hHeld ?restn1; (case hin1 => (simp only [List.getElem?_toArray, List.getElem?_cons_zero]; exact rfl)); (case an1 => kernel_rfl); (case bn1 => kernel_rfl); (case cn1 => kernel_rfl); (case qn1 => exact fun _ _ _ h => h); (case dn1 => rfl); (case hyn1 => (intro z hSw; (try dsimp only at hSw); go_simp; (try with_reducible rfl))); (try simp only [Act.put, List.setIfInBounds_toArray, List.set_cons_zero, List.set_cons_succ])
                              refine wpAnyH_take (i := 1) (oi := ?on2) (v := ?vn2) ?hin2 ?an2 ?bn2 ?cn2 ?qn2 (Or.inl ⟨?dn2, ?hyn2⟩) hHeld ?restn2; (case hin2 => (simp only [List.getElem?_toArray, List.getElem?_cons_succ, List.getElem?_cons_zero]; exact rfl)); (case an2 => kernel_rfl); (case bn2 => kernel_rfl); (case cn2 => kernel_rfl); (case qn2 => exact fun _ _ _ h => h); (case dn2 => rfl); (case hyn2 => (intro z hSw; (try dsimp only at hSw); go_simp; (try with_reducible rfl))); (try simp only [Act.put, List.setIfInBounds_toArray, List.set_cons_zero, List.set_cons_succ])
                              refine wpAnyH_take (i := 2) (oi := ?on3) (v := ?vn3) ?hin3 ?an3 ?bn3 ?cn3 ?qn3 (Or.inl ⟨?dn3, ?hyn3⟩) hHeld ?restn3; (case hin3 => (simp only [List.getElem?_toArray, List.getElem?_cons_succ, List.getElem?_cons_zero]; exact rfl)); (case an3 => kernel_rfl); (case bn3 => kernel_rfl); (case cn3 => kernel_rfl); (case qn3 => exact fun _ _ _ h => h); (case dn3 => rfl); (case hyn3 => (intro z hSw; (try dsimp only at hSw); go_simp; (try with_reducible rfl))); (try simp only [Act.put, List.setIfInBounds_toArray, List.set_cons_zero, List.set_cons_succ])
                              refine wpAnyH_take (i := 3) (oi := ?on4) (v := ?vn4) ?hin4 ?an4 ?bn4 ?cn4 ?qn4 (Or.inl ⟨?dn4, ?hyn4⟩) hHeld ?restn4; (case hin4 => (simp only [List.getElem?_toArray, List.getElem?_cons_succ, List.getElem?_cons_zero]; exact rfl)); (case an4 => kernel_rfl); (case bn4 => kernel_rfl); (case cn4 => kernel_rfl); (case qn4 => exact fun _ _ _ h => h); (case dn4 => rfl); (case hyn4 => (intro z hSw; (try dsimp only at hSw); go_simp; (try with_reducible rfl))); (try simp only [Act.put, List.setIfInBounds_toArray, List.set_cons_zero, List.set_cons_succ])
                              refine wpAnyH_take (i := 4) (oi := ?on5) (v := ?vn5) ?hin5 ?an5 ?bn5 ?cn5 ?qn5 (Or.inl ⟨?dn5, ?hyn5⟩) hHeld ?restn5; (case hin5 => (simp only [List.getElem?_toArray, List.getElem?_cons_succ, List.getElem?_cons_zero]; exact rfl)); (case an5 => kernel_rfl); (case bn5 => kernel_rfl); (case cn5 => kernel_rfl); (case qn5 => exact fun _ _ _ h => h); (case dn5 => rfl); (case hyn5 => (intro z hSw; (try dsimp only at hSw); go_simp; (try with_reducible rfl))); (try simp only [Act.put, List.setIfInBounds_toArray, List.set_cons_zero, List.set_cons_succ])
                              refine wpAnyH_take (i := 6) (oi := ?on6) (v := ?vn6) ?hin6 ?an6 ?bn6 ?cn6 ?qn6 (Or.inl ⟨?dn6, ?hyn6⟩) hHeld ?restn6; (case hin6 => (simp only [List.getElem?_toArray, List.getElem?_cons_succ, List.getElem?_cons_zero]; exact rfl)); (case an6 => kernel_rfl); (case bn6 => kernel_rfl); (case cn6 => kernel_rfl); (case qn6 => exact fun _ _ _ h => h); (case dn6 => rfl); (case hyn6 => (intro z hSw; (try dsimp only at hSw); go_simp; (try with_reducible rfl))); (try simp only [Act.put, List.setIfInBounds_toArray, List.set_cons_zero, List.set_cons_succ])
                              refine wpAnyH_ready (rs := [5]) (by kernel_rfl) (by simp) ?_
                              refine AllReadyH.cons (o := ?on7) ?hin7 ?restn7 AllReadyH.nil
                              case hin7 => (simp only [List.getElem?_toArray, List.getElem?_cons_succ, List.getElem?_cons_zero]; exact rfl)
                              intro K hK
                              go_simp
                              go_at_call 142
                              refine (hIN.out _ hYd).mono ?_
                              rintro e w4 ⟨g, cc, f, rfl, hR, hf, hgg, hg4⟩
                              have h4 : Grew w1 w4 := hYd.trans hg4
                              have k9 : w4.cell? ⟨g, k, none⟩ = some (.int .i64 ((invN A n k : Nat) : Int)) := by rw [← hf k hlk]; exact hR.cell hlk
                              refine hK.out _ _ ?_ (fun hHeld => ?_)
                              · (try dsimp only); first | with_reducible assumption | exact Grew.alloc ‹_› _
                              clear hK K
                              try simp only [Act.put, List.setIfInBounds_toArray, List.set_cons_zero, List.set_cons_succ]
                              refine wpAnyH_take (i := 7) (oi := ?on8) (v := ?vn8) ?hin8 ?an8 ?bn8 ?cn8 ?qn8 (Or.inl ⟨?dn8, ?hyn8⟩) hHeld ?restn8; (case hin8 => (simp only [List.getElem?_toArray, List.getElem?_cons_succ, List.getElem?_cons_zero]; exact rfl)); (case an8 => kernel_rfl); (case bn8 => kernel_rfl); (case cn8 => kernel_rfl); (case qn8 => exact fun _ _ _ h => h); (case dn8 => rfl); (case hyn8 => (intro z hSw; (try dsimp only at hSw); go_simp; (try with_reducible rfl))); (try simp only [Act.put, List.setIfInBounds_toArray, List.set_cons_zero, List.set_cons_succ])
                              refine wpAnyH_ready (rs := [8]) (by kernel_rfl) (by simp) ?_
                              refine AllReadyH.cons (o := ?on9) ?hin9 ?restn9 AllReadyH.nil
                              case hin9 => (simp only [List.getElem?_toArray, List.getElem?_cons_succ, List.getElem?_cons_zero]; exact rfl)
                              intro K hK
                              go_simp
                              refine hK.out _ _ ?_ (fun hHeld => ?_)
                              · (try dsimp only); first | with_reducible assumption | exact Grew.alloc ‹_› _
                              clear hK K
                              try simp only [Act.put, List.setIfInBounds_toArray, List.set_cons_zero, List.set_cons_succ]
                              refine wpAnyH_take (i := 9) (oi := ?on10) (v := ?vn10) ?hin10 ?an10 ?bn10 ?cn10 ?qn10 (Or.inl ⟨?dn10, ?hyn10⟩) hHeld ?restn10; (case hin10 => (simp only [List.getElem?_toArray, List.getElem?_cons_succ, List.getElem?_cons_zero]; exact rfl)); (case an10 => kernel_rfl); (case bn10 => kernel_rfl); (case cn10 => kernel_rfl); (case qn10 => exact fun _ _ _ h => h); (case dn10 => rfl); (case hyn10 => (intro z hSw; (try dsimp only at hSw); go_simp; (try with_reducible rfl))); (try simp only [Act.put, List.setIfInBounds_toArray, List.set_cons_zero, List.set_cons_succ])
                              refine wpAnyH_take (i := 10) (oi := ?on11) (v := ?vn11) ?hin11 ?an11 ?bn11 ?cn11 ?qn11 (Or.inl ⟨?dn11, ?hyn11⟩) hHeld ?restn11; (case hin11 => (simp only [List.getElem?_toArray, List.getElem?_cons_succ, List.getElem?_cons_zero]; exact rfl)); (case an11 => kernel_rfl); (case bn11 => kernel_rfl); (case cn11 => kernel_rfl); (case qn11 => exact fun _ _ _ h => h); (case dn11 => rfl); (case hyn11 => (intro z hSw; (try dsimp only at hSw); go_simp; (try with_reducible rfl))); (try simp only [Act.put, List.setIfInBounds_toArray, List.set_cons_zero, List.set_cons_succ])
                              refine wpAnyH_done (by kernel_rfl) ?_ _
                              go_wp2_with fail
                              go_ret
                              exact ⟨by rw [hv.out]; rfl, HG.out.trans h4⟩
                          | false =>
                            as_aux_lemma =>
                              rw [ht] at hfy hbb
                              have hv : Hid (flY A 9 j k = true) := Lib.hid hfy
                              clear hfy ht hb2 hb4 hcz
                              have hcv := fun W (hW : Grew w1 W) => HX.out j hlt W hW
                              go_wp2_with fail
                              refine wp_region_held_drew (S := fun w' => Grew w1 w') (by kernel_rfl) hYd (fun hHeld => ?_)
                              refine wpAnyH_take (i := 0) (oi := ?on12) (v := ?vn12) ?hin12 ?an12 ?bn12 ?cn12 ?qn12 (Or.inl ⟨?dn12, ?hyn12⟩) hHeld ?restn12; (case hin12 => (simp only [List.getElem?_toArray, List.getElem?_cons_zero]; exact rfl)); (case an12 => kernel_rfl); (case bn12 => kernel_rfl); (case cn12 => kernel_rfl); (case qn12 => exact fun _ _ _ h => h); (case dn12 => rfl); (case hyn12 => (intro z hSw; (try dsimp only at hSw); go_simp; (try with_reducible rfl))); (try simp only [Act.put, List.setIfInBounds_toArray, List.set_cons_zero, List.set_cons_succ])
                              refine wpAnyH_take (i := 1) (oi := ?on13) (v := ?vn13) ?hin13 ?an13 ?bn13 ?cn13 ?qn13 (Or.inl ⟨?dn13, ?hyn13⟩) hHeld ?restn13; (case hin13 => (simp only [List.getElem?_toArray, List.getElem?_cons_succ, List.getElem?_cons_zero]; exact rfl)); (case an13 => kernel_rfl); (case bn13 => kernel_rfl); (case cn13 => kernel_rfl); (case qn13 => exact fun _ _ _ h => h); (case dn13 => rfl); (case hyn13 => (intro z hSw; (try dsimp only at hSw); go_simp; (try with_reducible rfl))); (try simp only [Act.put, List.setIfInBounds_toArray, List.set_cons_zero, List.set_cons_succ])
                              refine wpAnyH_take (i := 2) (oi := ?on14) (v := ?vn14) ?hin14 ?an14 ?bn14 ?cn14 ?qn14 (Or.inl ⟨?dn14, ?hyn14⟩) hHeld ?restn14; (case hin14 => (simp only [List.getElem?_toArray, List.getElem?_cons_succ, List.getElem?_cons_zero]; exact rfl)); (case an14 => kernel_rfl); (case bn14 => kernel_rfl); (case cn14 => kernel_rfl); (case qn14 => exact fun _ _ _ h => h); (case dn14 => rfl); (case hyn14 => (intro z hSw; (try dsimp only at hSw); go_simp; (try with_reducible rfl))); (try simp only [Act.put, List.setIfInBounds_toArray, List.set_cons_zero, List.set_cons_succ])
                              refine wpAnyH_take (i := 3) (oi := ?on15) (v := ?vn15) ?hin15 ?an15 ?bn15 ?cn15 ?qn15 (Or.inl ⟨?dn15, ?hyn15⟩) hHeld ?restn15; (case hin15 => (simp only [List.getElem?_toArray, List.getElem?_cons_succ, List.getElem?_cons_zero]; exact rfl)); (case an15 => kernel_rfl); (case bn15 => kernel_rfl); (case cn15 => kernel_rfl); (case qn15 => exact fun _ _ _ h => h); (case dn15 => rfl); (case hyn15 => (intro z hSw; (try dsimp only at hSw); go_simp; (try with_reducible rfl))); (try simp only [Act.put, List.setIfInBounds_toArray, List.set_cons_zero, List.set_cons_succ])
                              refine wpAnyH_take (i := 4) (oi := ?on16) (v := ?vn16) ?hin16 ?an16 ?bn16 ?cn16 ?qn16 (Or.inl ⟨?dn16, ?hyn16⟩) hHeld ?restn16; (case hin16 => (simp only [List.getElem?_toArray, List.getElem?_cons_succ, List.getElem?_cons_zero]; exact rfl)); (case an16 => kernel_rfl); (case bn16 => kernel_rfl); (case cn16 => kernel_rfl); (case qn16 => exact fun _ _ _ h => h); (case dn16 => rfl); (case hyn16 => (intro z hSw; (try dsimp only at hSw); go_simp; (try with_reducible rfl))); (try simp only [Act.put, List.setIfInBounds_toArray, List.set_cons_zero, List.set_cons_succ])
                              refine wpAnyH_take (i := 6) (oi := ?on17) (v := ?vn17) ?hin17 ?an17 ?bn17 ?cn17 ?qn17 (Or.inl ⟨?dn17, ?hyn17⟩) hHeld ?restn17; (case hin17 => (simp only [List.getElem?_toArray, List.getElem?_cons_succ, List.getElem?_cons_zero]; exact rfl)); (case an17 => kernel_rfl); (case bn17 => kernel_rfl); (case cn17 => kernel_rfl); (case qn17 => exact fun _ _ _ h => h); (case dn17 => rfl); (case hyn17 => (intro z hSw; (try dsimp only at hSw); go_simp; (try with_reducible rfl))); (try simp only [Act.put, List.setIfInBounds_toArray, List.set_cons_zero, List.set_cons_succ])
                              refine wpAnyH_ready (rs := [5]) (by kernel_rfl) (by simp) ?_
                              refine AllReadyH.cons (o := ?on18) ?hin18 ?restn18 AllReadyH.nil
                              case hin18 => (simp only [List.getElem?_toArray, List.getElem?_cons_succ, List.getElem?_cons_zero]; exact rfl)
                              intro K hK
                              go_simp
                              go_at_call 142
                              refine (hIN.out _ hYd).mono ?_
                              rintro e w4 ⟨g, cc, f, rfl, hR, hf, hgg, hg4⟩
                              have h4 : Grew w1 w4 := hYd.trans hg4
                              have k9 : w4.cell? ⟨g, k, none⟩ = some (.int .i64 ((invN A n k : Nat) : Int)) := by rw [← hf k hlk]; exact hR.cell hlk
                              refine hK.out _ _ ?_ (fun hHeld => ?_)
                              · (try dsimp only); first | with_reducible assumption | exact Grew.alloc ‹_› _
                              clear hK K
                              try simp only [Act.put, List.setIfInBounds_toArray, List.set_cons_zero, List.set_cons_succ]
                              refine wpAnyH_take (i := 7) (oi := ?on19) (v := ?vn19) ?hin19 ?an19 ?bn19 ?cn19 ?qn19 (Or.inl ⟨?dn19, ?hyn19⟩) hHeld ?restn19; (case hin19 => (simp only [List.getElem?_toArray, List.getElem?_cons_succ, List.getElem?_cons_zero]; exact rfl)); (case an19 => kernel_rfl); (case bn19 => kernel_rfl); (case cn19 => kernel_rfl); (case qn19 => exact fun _ _ _ h => h); (case dn19 => rfl); (case hyn19 => (intro z hSw; (try dsimp only at hSw); go_simp; (try with_reducible rfl))); (try simp only [Act.put, List.setIfInBounds_toArray, List.set_cons_zero, List.set_cons_succ])
                              refine wpAnyH_ready (rs := [8]) (by kernel_rfl) (by simp) ?_
                              refine AllReadyH.cons (o := ?on20) ?hin20 ?restn20 AllReadyH.nil
                              case hin20 => (simp only [List.getElem?_toArray, List.getElem?_cons_succ, List.getElem?_cons_zero]; exact rfl)
                              intro K hK
                              go_simp
                              refine hK.out _ _ ?_ (fun hHeld => ?_)
                              · (try dsimp only); first | with_reducible assumption | exact Grew.alloc ‹_› _
                              clear hK K
                              try simp only [Act.put, List.setIfInBounds_toArray, List.set_cons_zero, List.set_cons_succ]
                              refine wpAnyH_take (i := 9) (oi := ?on21) (v := ?vn21) ?hin21 ?an21 ?bn21 ?cn21 ?qn21 (Or.inl ⟨?dn21, ?hyn21⟩) hHeld ?restn21; (case hin21 => (simp only [List.getElem?_toArray, List.getElem?_cons_succ, List.getElem?_cons_zero]; exact rfl)); (case an21 => kernel_rfl); (case bn21 => kernel_rfl); (case cn21 => kernel_rfl); (case qn21 => exact fun _ _ _ h => h); (case dn21 => rfl); (case hyn21 => (intro z hSw; (try dsimp only at hSw); go_simp; (try with_reducible rfl))); (try simp only [Act.put, List.setIfInBounds_toArray, List.set_cons_zero, List.set_cons_succ])
                              refine wpAnyH_take (i := 10) (oi := ?on22) (v := ?vn22) ?hin22 ?an22 ?bn22 ?cn22 ?qn22 (Or.inl ⟨?dn22, ?hyn22⟩) hHeld ?restn22; (case hin22 => (simp only [List.getElem?_toArray, List.getElem?_cons_succ, List.getElem?_cons_zero]; exact rfl)); (case an22 => kernel_rfl); (case bn22 => kernel_rfl); (case cn22 => kernel_rfl); (case qn22 => exact fun _ _ _ h => h); (case dn22 => rfl); (case hyn22 => (intro z hSw; (try dsimp only at hSw); go_simp; (try with_reducible rfl))); (try simp only [Act.put, List.setIfInBounds_toArray, List.set_cons_zero, List.set_cons_succ])
                              refine wpAnyH_done (by kernel_rfl) ?_ _
                              go_wp2_with fail
                              go_meet
                              exact ⟨h4, hv⟩
                        · have hv : Hid (flY A F j k = true) := Lib.hid (by unfold flY; rw [if_neg h3, if_neg h4, if_neg h8, if_neg h9])
                          have b3 : ((F : Int) == 3) = false := by simp; omega
                          have b4 : ((F : Int) == 4) = false := by simp; omega
                          have b8 : ((F : Int) == 8) = false := by simp; omega
                          have b9 : ((F : Int) == 9) = false := by simp; omega
                          go_wp2_with fail
                          go_meet
                          exact ⟨hY, hv⟩
              case rest =>
                obtain ⟨hYc, hvY⟩ := hcut
                have HZT := Lib.hid (HYT.out hvY.out)
                have HZF := Lib.hid (fun q hq h => hA2.out (HYF.out hvY.out q hq h))
                clear hcy hcz ry hb4 hA2 HYY HYT HYF
                generalize wc = wx2 at *
                go_wp2_with fail
                go_loopw [9] (fun i wz => ∃ q : Nat, q ≤ n ∧ i = .int .i64 q ∧ Grew w1 wz ∧ Hid (AllK (flZs A F j k) q)) (fun i _ => n - (intOf i).toNat)
                case atStart => exact ⟨0, Nat.zero_le _, rfl, hYc, AllK.zero _⟩
                case round =>
                  obtain ⟨q, hq, rfl, hZ, HQ⟩ := hrel
                  by_cases hlq : q < n
                  · have hcw := fun W (hW : Grew wr W) => HX.out j hlt W (hZ.trans hW)
                    have hck := fun W (hW : Grew w1 W) => HX.out k hlk W hW
                    have hcq := fun W (hW : Grew w1 W) => HX.out q hlq W hW
                    have rz := Grew.refl wr
                    have hZd := hZ.drew
                    have hb3 := Lib.hid (hBx.out q (by omega))
                    have hkq := Lib.hid (HB.out k hlk q (by omega))
                    have hqk := Lib.hid (HB.out q hlq k (by omega))
                    have hQS := Lib.hid (fun h => HQ.out.succ (k := q) h)
                    have hA3 := Lib.hid (fun h => HZF.out q hlq h)
                    cases ht3 : (nt A j).testBit q with
                    | false =>
                      rw [ht3] at hb3
                      have hqs := Lib.hid (hQS.out (by unfold flZs; rw [ht3]; rfl))
                      clear ht3 hQS hA3 hkq hqk
                      generalize nt A j = m at *
                      go_wp2_with fail
                      refine (hb3.out _).mono ?_
                      rintro e w4 ⟨rfl, rfl⟩
                      go_wp2_with fail
                      go_roundw
                      case rel => exact ⟨q + 1, by omega, by go_num, hZ, hqs⟩
                      case measure => simp [intOf]; omega
                    | true =>
                      rw [ht3] at hb3
                      have HZZ := Lib.hid (show flZs A F j k q = flZ A F k q from by unfold flZs; rw [ht3]; rfl)
                      clear ht3
                      generalize hmj : nt A j = m at *
                      clear hmj
                      go_upto_region 42 with fail
                      refine (hb3.out _).mono ?_
                      rintro e w4 ⟨rfl, rfl⟩
                      go_upto_region 42 with fail
                      clear hcw
                      by_cases h5 : F = 5
                      · have hfz : flZ A F k q = !decide (nt A k &&& nt A q = 0) := by unfold flZ; rw [if_pos h5]
                        have b5t : ((F : Int) == 5) = true := by rw [h5]; rfl
                        have b6f : ((F : Int) == 6) = false := by rw [h5]; rfl
                        clear h5
                        have hnn := HA2.out k q hlk hlq
                        have hbb : (((nt A k &&& nt A q : Nat) : Int) == 0) = decide (nt A k &&& nt A q = 0) := by rw [Bool.eq_iff_iff]; simp
                        cases ht : decide (nt A k &&& nt A q = 0) with
                        | true =>
                          as_aux_lemma =>
                            rw [ht] at hfz hbb
                            have hv := Lib.hid (hA3.out (HZZ.out.trans hfz))
                            clear hfz ht hkq hqk hb3
                            generalize nt A k &&& nt A q = dm at *
                            generalize nt A k = mk1 at *
                            generalize nt A q = mq1 at *
                            refine wp_region_held_drew (S := fun w' => Grew w1 w') (by kernel_rfl) hZd (fun hHeld => ?_)
                            refine wpAnyH_take (i := 0) (oi := ?on23) (v := ?vn23) ?hin23 ?an23 ?bn23 ?cn23 ?qn23 (Or.inl ⟨?dn23, ?hyn23⟩) hHeld ?restn23; (case hin23 => (simp only [List.getElem?_toArray, List.getElem?_cons_zero]; exact rfl)); (case an23 => kernel_rfl); (case bn23 => kernel_rfl); (case cn23 => kernel_rfl); (case qn23 => exact fun _ _ _ h => h); (case dn23 => rfl); (case hyn23 => (intro z hSw; (try dsimp only at hSw); go_simp; (try with_reducible rfl))); (try simp only [Act.put, List.setIfInBounds_toArray, List.set_cons_zero, List.set_cons_succ])
                            refine wpAnyH_take (i := 1) (oi := ?on24) (v := ?vn24) ?hin24 ?an24 ?bn24 ?cn24 ?qn24 (Or.inl ⟨?dn24, ?hyn24⟩) hHeld ?restn24; (case hin24 => (simp only [List.getElem?_toArray, List.getElem?_cons_succ, List.getElem?_cons_zero]; exact rfl)); (case an24 => kernel_rfl); (case bn24 => kernel_rfl); (case cn24 => kernel_rfl); (case qn24 => exact fun _ _ _ h => h); (case dn24 => rfl); (case hyn24 => (intro z hSw; (try dsimp only at hSw); go_simp; (try with_reducible rfl))); (try simp only [Act.put, List.setIfInBounds_toArray, List.set_cons_zero, List.set_cons_succ])
                            refine wpAnyH_take (i := 2) (oi := ?on25) (v := ?vn25) ?hin25 ?an25 ?bn25 ?cn25 ?qn25 (Or.inl ⟨?dn25, ?hyn25⟩) hHeld ?restn25; (case hin25 => (simp only [List.getElem?_toArray, List.getElem?_cons_succ, List.getElem?_cons_zero]; exact rfl)); (case an25 => kernel_rfl); (case bn25 => kernel_rfl); (case cn25 => kernel_rfl); (case qn25 => exact fun _ _ _ h => h); (case dn25 => rfl); (case hyn25 => (intro z hSw; (try dsimp only at hSw); go_simp; (try with_reducible rfl))); (try simp only [Act.put, List.setIfInBounds_toArray, List.set_cons_zero, List.set_cons_succ])
                            refine wpAnyH_take (i := 3) (oi := ?on26) (v := ?vn26) ?hin26 ?an26 ?bn26 ?cn26 ?qn26 (Or.inl ⟨?dn26, ?hyn26⟩) hHeld ?restn26; (case hin26 => (simp only [List.getElem?_toArray, List.getElem?_cons_succ, List.getElem?_cons_zero]; exact rfl)); (case an26 => kernel_rfl); (case bn26 => kernel_rfl); (case cn26 => kernel_rfl); (case qn26 => exact fun _ _ _ h => h); (case dn26 => rfl); (case hyn26 => (intro z hSw; (try dsimp only at hSw); go_simp; (try with_reducible rfl))); (try simp only [Act.put, List.setIfInBounds_toArray, List.set_cons_zero, List.set_cons_succ])
                            refine wpAnyH_take (i := 4) (oi := ?on27) (v := ?vn27) ?hin27 ?an27 ?bn27 ?cn27 ?qn27 (Or.inl ⟨?dn27, ?hyn27⟩) hHeld ?restn27; (case hin27 => (simp only [List.getElem?_toArray, List.getElem?_cons_succ, List.getElem?_cons_zero]; exact rfl)); (case an27 => kernel_rfl); (case bn27 => kernel_rfl); (case cn27 => kernel_rfl); (case qn27 => exact fun _ _ _ h => h); (case dn27 => rfl); (case hyn27 => (intro z hSw; (try dsimp only at hSw); go_simp; (try with_reducible rfl))); (try simp only [Act.put, List.setIfInBounds_toArray, List.set_cons_zero, List.set_cons_succ])
                            refine wpAnyH_take (i := 5) (oi := ?on28) (v := ?vn28) ?hin28 ?an28 ?bn28 ?cn28 ?qn28 (Or.inl ⟨?dn28, ?hyn28⟩) hHeld ?restn28; (case hin28 => (simp only [List.getElem?_toArray, List.getElem?_cons_succ, List.getElem?_cons_zero]; exact rfl)); (case an28 => kernel_rfl); (case bn28 => kernel_rfl); (case cn28 => kernel_rfl); (case qn28 => exact fun _ _ _ h => h); (case dn28 => rfl); (case hyn28 => (intro z hSw; (try dsimp only at hSw); go_simp; (try with_reducible rfl))); (try simp only [Act.put, List.setIfInBounds_toArray, List.set_cons_zero, List.set_cons_succ])
                            refine wpAnyH_take (i := 6) (oi := ?on29) (v := ?vn29) ?hin29 ?an29 ?bn29 ?cn29 ?qn29 (Or.inl ⟨?dn29, ?hyn29⟩) hHeld ?restn29; (case hin29 => (simp only [List.getElem?_toArray, List.getElem?_cons_succ, List.getElem?_cons_zero]; exact rfl)); (case an29 => kernel_rfl); (case bn29 => kernel_rfl); (case cn29 => kernel_rfl); (case qn29 => exact fun _ _ _ h => h); (case dn29 => rfl); (case hyn29 => (intro z hSw; (try dsimp only at hSw); go_simp; (try with_reducible rfl))); (try simp only [Act.put, List.setIfInBounds_toArray, List.set_cons_zero, List.set_cons_succ])
                            refine wpAnyH_take (i := 7) (oi := ?on30) (v := ?vn30) ?hin30 ?an30 ?bn30 ?cn30 ?qn30 (Or.inl ⟨?dn30, ?hyn30⟩) hHeld ?restn30; (case hin30 => (simp only [List.getElem?_toArray, List.getElem?_cons_succ, List.getElem?_cons_zero]; exact rfl)); (case an30 => kernel_rfl); (case bn30 => kernel_rfl); (case cn30 => kernel_rfl); (case qn30 => exact fun _ _ _ h => h); (case dn30 => rfl); (case hyn30 => (intro z hSw; (try dsimp only at hSw); go_simp; (try with_reducible rfl))); (try simp only [Act.put, List.setIfInBounds_toArray, List.set_cons_zero, List.set_cons_succ])
                            refine wpAnyH_take (i := 8) (oi := ?on31) (v := ?vn31) ?hin31 ?an31 ?bn31 ?cn31 ?qn31 (Or.inl ⟨?dn31, ?hyn31⟩) hHeld ?restn31; (case hin31 => (simp only [List.getElem?_toArray, List.getElem?_cons_succ, List.getElem?_cons_zero]; exact rfl)); (case an31 => kernel_rfl); (case bn31 => kernel_rfl); (case cn31 => kernel_rfl); (case qn31 => exact fun _ _ _ h => h); (case dn31 => rfl); (case hyn31 => (intro z hSw; (try dsimp only at hSw); go_simp; (try with_reducible rfl))); (try simp only [Act.put, List.setIfInBounds_toArray, List.set_cons_zero, List.set_cons_succ])
                            refine wpAnyH_take (i := 9) (oi := ?on32) (v := ?vn32) ?hin32 ?an32 ?bn32 ?cn32 ?qn32 (Or.inl ⟨?dn32, ?hyn32⟩) hHeld ?restn32; (case hin32 => (simp only [List.getElem?_toArray, List.getElem?_cons_succ, List.getElem?_cons_zero]; exact rfl)); (case an32 => kernel_rfl); (case bn32 => kernel_rfl); (case cn32 => kernel_rfl); (case qn32 => exact fun _ _ _ h => h); (case dn32 => rfl); (case hyn32 => (intro z hSw; (try dsimp only at hSw); go_simp; (try with_reducible rfl))); (try simp only [Act.put, List.setIfInBounds_toArray, List.set_cons_zero, List.set_cons_succ])
                            refine wpAnyH_take (i := 10) (oi := ?on33) (v := ?vn33) ?hin33 ?an33 ?bn33 ?cn33 ?qn33 (Or.inl ⟨?dn33, ?hyn33⟩) hHeld ?restn33; (case hin33 => (simp only [List.getElem?_toArray, List.getElem?_cons_succ, List.getElem?_cons_zero]; exact rfl)); (case an33 => kernel_rfl); (case bn33 => kernel_rfl); (case cn33 => kernel_rfl); (case qn33 => exact fun _ _ _ h => h); (case dn33 => rfl); (case hyn33 => (intro z hSw; (try dsimp only at hSw); go_simp; (try with_reducible rfl))); (try simp only [Act.put, List.setIfInBounds_toArray, List.set_cons_zero, List.set_cons_succ])
                            refine wpAnyH_take (i := 11) (oi := ?on34) (v := ?vn34) ?hin34 ?an34 ?bn34 ?cn34 ?qn34 (Or.inl ⟨?dn34, ?hyn34⟩) hHeld ?restn34; (case hin34 => (simp only [List.getElem?_toArray, List.getElem?_cons_succ, List.getElem?_cons_zero]; exact rfl)); (case an34 => kernel_rfl); (case bn34 => kernel_rfl); (case cn34 => kernel_rfl); (case qn34 => exact fun _ _ _ h => h); (case dn34 => rfl); (case hyn34 => (intro z hSw; (try dsimp only at hSw); go_simp; (try with_reducible rfl))); (try simp only [Act.put, List.setIfInBounds_toArray, List.set_cons_zero, List.set_cons_succ])
                            refine wpAnyH_take (i := 12) (oi := ?on35) (v := ?vn35) ?hin35 ?an35 ?bn35 ?cn35 ?qn35 (Or.inl ⟨?dn35, ?hyn35⟩) hHeld ?restn35; (case hin35 => (simp only [List.getElem?_toArray, List.getElem?_cons_succ, List.getElem?_cons_zero]; exact rfl)); (case an35 => kernel_rfl); (case bn35 => kernel_rfl); (case cn35 => kernel_rfl); (case qn35 => exact fun _ _ _ h => h); (case dn35 => rfl); (case hyn35 => (intro z hSw; (try dsimp only at hSw); go_simp; (try with_reducible rfl))); (try simp only [Act.put, List.setIfInBounds_toArray, List.set_cons_zero, List.set_cons_succ])
                            refine wpAnyH_take (i := 13) (oi := ?on36) (v := ?vn36) ?hin36 ?an36 ?bn36 ?cn36 ?qn36 (Or.inl ⟨?dn36, ?hyn36⟩) hHeld ?restn36; (case hin36 => (simp only [List.getElem?_toArray, List.getElem?_cons_succ, List.getElem?_cons_zero]; exact rfl)); (case an36 => kernel_rfl); (case bn36 => kernel_rfl); (case cn36 => kernel_rfl); (case qn36 => exact fun _ _ _ h => h); (case dn36 => rfl); (case hyn36 => (intro z hSw; (try dsimp only at hSw); go_simp; (try with_reducible rfl))); (try simp only [Act.put, List.setIfInBounds_toArray, List.set_cons_zero, List.set_cons_succ])
                            refine wpAnyH_take (i := 14) (oi := ?on37) (v := ?vn37) ?hin37 ?an37 ?bn37 ?cn37 ?qn37 (Or.inl ⟨?dn37, ?hyn37⟩) hHeld ?restn37; (case hin37 => (simp only [List.getElem?_toArray, List.getElem?_cons_succ, List.getElem?_cons_zero]; exact rfl)); (case an37 => kernel_rfl); (case bn37 => kernel_rfl); (case cn37 => kernel_rfl); (case qn37 => exact fun _ _ _ h => h); (case dn37 => rfl); (case hyn37 => (intro z hSw; (try dsimp only at hSw); go_simp; (try with_reducible rfl))); (try simp only [Act.put, List.setIfInBounds_toArray, List.set_cons_zero, List.set_cons_succ])
                            refine wpAnyH_take (i := 15) (oi := ?on38) ?hin38 ?an38 ?bn38 ?cn38 ?qn38 (Or.inr ⟨?dn38, rfl⟩) hHeld ?restn38; (case hin38 => (simp only [List.getElem?_toArray, List.getElem?_cons_succ, List.getElem?_cons_zero]; exact rfl)); (case an38 => kernel_rfl); (case bn38 => kernel_rfl); (case cn38 => kernel_rfl); (case qn38 => exact fun _ _ _ h => h); (case dn38 => rfl); (try simp only [Act.put, List.setIfInBounds_toArray, List.set_cons_zero, List.set_cons_succ])
                            refine wpAnyH_take (i := 16) (oi := ?on39) ?hin39 ?an39 ?bn39 ?cn39 ?qn39 (Or.inr ⟨?dn39, rfl⟩) hHeld ?restn39; (case hin39 => (simp only [List.getElem?_toArray, List.getElem?_cons_succ, List.getElem?_cons_zero]; exact rfl)); (case an39 => kernel_rfl); (case bn39 => kernel_rfl); (case cn39 => kernel_rfl); (case qn39 => exact fun _ _ _ h => h); (case dn39 => rfl); (try simp only [Act.put, List.setIfInBounds_toArray, List.set_cons_zero, List.set_cons_succ])
                            refine wpAnyH_take (i := 17) (oi := ?on40) ?hin40 ?an40 ?bn40 ?cn40 ?qn40 (Or.inr ⟨?dn40, rfl⟩) hHeld ?restn40; (case hin40 => (simp only [List.getElem?_toArray, List.getElem?_cons_succ, List.getElem?_cons_zero]; exact rfl)); (case an40 => kernel_rfl); (case bn40 => kernel_rfl); (case cn40 => kernel_rfl); (case qn40 => exact fun _ _ _ h => h); (case dn40 => rfl); (try simp only [Act.put, List.setIfInBounds_toArray, List.set_cons_zero, List.set_cons_succ])
                            refine wpAnyH_take (i := 18) (oi := ?on41) ?hin41 ?an41 ?bn41 ?cn41 ?qn41 (Or.inr ⟨?dn41, rfl⟩) hHeld ?restn41; (case hin41 => (simp only [List.getElem?_toArray, List.getElem?_cons_succ, List.getElem?_cons_zero]; exact rfl)); (case an41 => kernel_rfl); (case bn41 => kernel_rfl); (case cn41 => kernel_rfl); (case qn41 => exact fun _ _ _ h => h); (case dn41 => rfl); (try simp only [Act.put, List.setIfInBounds_toArray, List.set_cons_zero, List.set_cons_succ])
                            refine wpAnyH_take (i := 19) (oi := ?on42) ?hin42 ?an42 ?bn42 ?cn42 ?qn42 (Or.inr ⟨?dn42, rfl⟩) hHeld ?restn42; (case hin42 => (simp only [List.getElem?_toArray, List.getElem?_cons_succ, List.getElem?_cons_zero]; exact rfl)); (case an42 => kernel_rfl); (case bn42 => kernel_rfl); (case cn42 => kernel_rfl); (case qn42 => exact fun _ _ _ h => h); (case dn42 => rfl); (try simp only [Act.put, List.setIfInBounds_toArray, List.set_cons_zero, List.set_cons_succ])
                            refine wpAnyH_take (i := 20) (oi := ?on43) ?hin43 ?an43 ?bn43 ?cn43 ?qn43 (Or.inr ⟨?dn43, rfl⟩) hHeld ?restn43; (case hin43 => (simp only [List.getElem?_toArray, List.getElem?_cons_succ, List.getElem?_cons_zero]; exact rfl)); (case an43 => kernel_rfl); (case bn43 => kernel_rfl); (case cn43 => kernel_rfl); (case qn43 => exact fun _ _ _ h => h); (case dn43 => rfl); (try simp only [Act.put, List.setIfInBounds_toArray, List.set_cons_zero, List.set_cons_succ])
                            refine wpAnyH_take (i := 21) (oi := ?on44) ?hin44 ?an44 ?bn44 ?cn44 ?qn44 (Or.inr ⟨?dn44, rfl⟩) hHeld ?restn44; (case hin44 => (simp only [List.getElem?_toArray, List.getElem?_cons_succ, List.getElem?_cons_zero]; exact rfl)); (case an44 => kernel_rfl); (case bn44 => kernel_rfl); (case cn44 => kernel_rfl); (case qn44 => exact fun _ _ _ h => h); (case dn44 => rfl); (try simp only [Act.put, List.setIfInBounds_toArray, List.set_cons_zero, List.set_cons_succ])
                            refine wpAnyH_take (i := 22) (oi := ?on45) ?hin45 ?an45 ?bn45 ?cn45 ?qn45 (Or.inr ⟨?dn45, rfl⟩) hHeld ?restn45; (case hin45 => (simp only [List.getElem?_toArray, List.getElem?_cons_succ, List.getElem?_cons_zero]; exact rfl)); (case an45 => kernel_rfl); (case bn45 => kernel_rfl); (case cn45 => kernel_rfl); (case qn45 => exact fun _ _ _ h => h); (case dn45 => rfl); (try simp only [Act.put, List.setIfInBounds_toArray, List.set_cons_zero, List.set_cons_succ])
                            refine wpAnyH_take (i := 23) (oi := ?on46) ?hin46 ?an46 ?bn46 ?cn46 ?qn46 (Or.inr ⟨?dn46, rfl⟩) hHeld ?restn46; (case hin46 => (simp only [List.getElem?_toArray, List.getElem?_cons_succ, List.getElem?_cons_zero]; exact rfl)); (case an46 => kernel_rfl); (case bn46 => kernel_rfl); (case cn46 => kernel_rfl); (case qn46 => exact fun _ _ _ h => h); (case dn46 => rfl); (try simp only [Act.put, List.setIfInBounds_toArray, List.set_cons_zero, List.set_cons_succ])
                            refine wpAnyH_take (i := 24) (oi := ?on47) ?hin47 ?an47 ?bn47 ?cn47 ?qn47 (Or.inr ⟨?dn47, rfl⟩) hHeld ?restn47; (case hin47 => (simp only [List.getElem?_toArray, List.getElem?_cons_succ, List.getElem?_cons_zero]; exact rfl)); (case an47 => kernel_rfl); (case bn47 => kernel_rfl); (case cn47 => kernel_rfl); (case qn47 => exact fun _ _ _ h => h); (case dn47 => rfl); (try simp only [Act.put, List.setIfInBounds_toArray, List.set_cons_zero, List.set_cons_succ])
                            refine wpAnyH_take (i := 25) (oi := ?on48) ?hin48 ?an48 ?bn48 ?cn48 ?qn48 (Or.inr ⟨?dn48, rfl⟩) hHeld ?restn48; (case hin48 => (simp only [List.getElem?_toArray, List.getElem?_cons_succ, List.getElem?_cons_zero]; exact rfl)); (case an48 => kernel_rfl); (case bn48 => kernel_rfl); (case cn48 => kernel_rfl); (case qn48 => exact fun _ _ _ h => h); (case dn48 => rfl); (try simp only [Act.put, List.setIfInBounds_toArray, List.set_cons_zero, List.set_cons_succ])
                            refine wpAnyH_take (i := 26) (oi := ?on49) ?hin49 ?an49 ?bn49 ?cn49 ?qn49 (Or.inr ⟨?dn49, rfl⟩) hHeld ?restn49; (case hin49 => (simp only [List.getElem?_toArray, List.getElem?_cons_succ, List.getElem?_cons_zero]; exact rfl)); (case an49 => kernel_rfl); (case bn49 => kernel_rfl); (case cn49 => kernel_rfl); (case qn49 => exact fun _ _ _ h => h); (case dn49 => rfl); (try simp only [Act.put, List.setIfInBounds_toArray, List.set_cons_zero, List.set_cons_succ])
                            refine wpAnyH_take (i := 27) (oi := ?on50) ?hin50 ?an50 ?bn50 ?cn50 ?qn50 (Or.inr ⟨?dn50, rfl⟩) hHeld ?restn50; (case hin50 => (simp only [List.getElem?_toArray, List.getElem?_cons_succ, List.getElem?_cons_zero]; exact rfl)); (case an50 => kernel_rfl); (case bn50 => kernel_rfl); (case cn50 => kernel_rfl); (case qn50 => exact fun _ _ _ h => h); (case dn50 => rfl); (try simp only [Act.put, List.setIfInBounds_toArray, List.set_cons_zero, List.set_cons_succ])
                            refine wpAnyH_take (i := 28) (oi := ?on51) ?hin51 ?an51 ?bn51 ?cn51 ?qn51 (Or.inr ⟨?dn51, rfl⟩) hHeld ?restn51; (case hin51 => (simp only [List.getElem?_toArray, List.getElem?_cons_succ, List.getElem?_cons_zero]; exact rfl)); (case an51 => kernel_rfl); (case bn51 => kernel_rfl); (case cn51 => kernel_rfl); (case qn51 => exact fun _ _ _ h => h); (case dn51 => rfl); (try simp only [Act.put, List.setIfInBounds_toArray, List.set_cons_zero, List.set_cons_succ])
                            refine wpAnyH_take (i := 29) (oi := ?on52) ?hin52 ?an52 ?bn52 ?cn52 ?qn52 (Or.inr ⟨?dn52, rfl⟩) hHeld ?restn52; (case hin52 => (simp only [List.getElem?_toArray, List.getElem?_cons_succ, List.getElem?_cons_zero]; exact rfl)); (case an52 => kernel_rfl); (case bn52 => kernel_rfl); (case cn52 => kernel_rfl); (case qn52 => exact fun _ _ _ h => h); (case dn52 => rfl); (try simp only [Act.put, List.setIfInBounds_toArray, List.set_cons_zero, List.set_cons_succ])
                            refine wpAnyH_take (i := 30) (oi := ?on53) ?hin53 ?an53 ?bn53 ?cn53 ?qn53 (Or.inr ⟨?dn53, rfl⟩) hHeld ?restn53; (case hin53 => (simp only [List.getElem?_toArray, List.getElem?_cons_succ, List.getElem?_cons_zero]; exact rfl)); (case an53 => kernel_rfl); (case bn53 => kernel_rfl); (case cn53 => kernel_rfl); (case qn53 => exact fun _ _ _ h => h); (case dn53 => rfl); (try simp only [Act.put, List.setIfInBounds_toArray, List.set_cons_zero, List.set_cons_succ])
                            refine wpAnyH_take (i := 31) (oi := ?on54) ?hin54 ?an54 ?bn54 ?cn54 ?qn54 (Or.inr ⟨?dn54, rfl⟩) hHeld ?restn54; (case hin54 => (simp only [List.getElem?_toArray, List.getElem?_cons_succ, List.getElem?_cons_zero]; exact rfl)); (case an54 => kernel_rfl); (case bn54 => kernel_rfl); (case cn54 => kernel_rfl); (case qn54 => exact fun _ _ _ h => h); (case dn54 => rfl); (try simp only [Act.put, List.setIfInBounds_toArray, List.set_cons_zero, List.set_cons_succ])
                            refine wpAnyH_take (i := 32) (oi := ?on55) ?hin55 ?an55 ?bn55 ?cn55 ?qn55 (Or.inr ⟨?dn55, rfl⟩) hHeld ?restn55; (case hin55 => (simp only [List.getElem?_toArray, List.getElem?_cons_succ, List.getElem?_cons_zero]; exact rfl)); (case an55 => kernel_rfl); (case bn55 => kernel_rfl); (case cn55 => kernel_rfl); (case qn55 => exact fun _ _ _ h => h); (case dn55 => rfl); (try simp only [Act.put, List.setIfInBounds_toArray, List.set_cons_zero, List.set_cons_succ])
                            refine wpAnyH_take (i := 33) (oi := ?on56) ?hin56 ?an56 ?bn56 ?cn56 ?qn56 (Or.inr ⟨?dn56, rfl⟩) hHeld ?restn56; (case hin56 => (simp only [List.getElem?_toArray, List.getElem?_cons_succ, List.getElem?_cons_zero]; exact rfl)); (case an56 => kernel_rfl); (case bn56 => kernel_rfl); (case cn56 => kernel_rfl); (case qn56 => exact fun _ _ _ h => h); (case dn56 => rfl); (try simp only [Act.put, List.setIfInBounds_toArray, List.set_cons_zero, List.set_cons_succ])
                            refine wpAnyH_take (i := 34) (oi := ?on57) ?hin57 ?an57 ?bn57 ?cn57 ?qn57 (Or.inr ⟨?dn57, rfl⟩) hHeld ?restn57; (case hin57 => (simp only [List.getElem?_toArray, List.getElem?_cons_succ, List.getElem?_cons_zero]; exact rfl)); (case an57 => kernel_rfl); (case bn57 => kernel_rfl); (case cn57 => kernel_rfl); (case qn57 => exact fun _ _ _ h => h); (case dn57 => rfl); (try simp only [Act.put, List.setIfInBounds_toArray, List.set_cons_zero, List.set_cons_succ])
                            refine wpAnyH_take (i := 35) (oi := ?on58) (v := ?vn58) ?hin58 ?an58 ?bn58 ?cn58 ?qn58 (Or.inl ⟨?dn58, ?hyn58⟩) hHeld ?restn58; (case hin58 => (simp only [List.getElem?_toArray, List.getElem?_cons_succ, List.getElem?_cons_zero]; exact rfl)); (case an58 => kernel_rfl); (case bn58 => kernel_rfl); (case cn58 => kernel_rfl); (case qn58 => exact fun _ _ _ h => h); (case dn58 => rfl); (case hyn58 => (intro z hSw; (try dsimp only at hSw); go_simp; (try with_reducible rfl))); (try simp only [Act.put, List.setIfInBounds_toArray, List.set_cons_zero, List.set_cons_succ])
                            refine wpAnyH_done (by kernel_rfl) ?_ _
                            go_wp2_with fail
                            go_ret
                            exact ⟨by rw [hv.out]; rfl, HG.out.trans hZd⟩
                        | false =>
                          as_aux_lemma =>
                            rw [ht] at hfz hbb
                            have hqs := Lib.hid (hQS.out (HZZ.out.trans hfz))
                            clear hfz ht hkq hqk hb3
                            generalize nt A k &&& nt A q = dm at *
                            generalize nt A k = mk1 at *
                            generalize nt A q = mq1 at *
                            refine wp_region_held_drew (S := fun w' => Grew w1 w') (by kernel_rfl) hZd (fun hHeld => ?_)
                            refine wpAnyH_take (i := 0) (oi := ?on59) (v := ?vn59) ?hin59 ?an59 ?bn59 ?cn59 ?qn59 (Or.inl ⟨?dn59, ?hyn59⟩) hHeld ?restn59; (case hin59 => (simp only [List.getElem?_toArray, List.getElem?_cons_zero]; exact rfl)); (case an59 => kernel_rfl); (case bn59 => kernel_rfl); (case cn59 => kernel_rfl); (case qn59 => exact fun _ _ _ h => h); (case dn59 => rfl); (case hyn59 => (intro z hSw; (try dsimp only at hSw); go_simp; (try with_reducible rfl))); (try simp only [Act.put, List.setIfInBounds_toArray, List.set_cons_zero, List.set_cons_succ])
                            refine wpAnyH_take (i := 1) (oi := ?on60) (v := ?vn60) ?hin60 ?an60 ?bn60 ?cn60 ?qn60 (Or.inl ⟨?dn60, ?hyn60⟩) hHeld ?restn60; (case hin60 => (simp only [List.getElem?_toArray, List.getElem?_cons_succ, List.getElem?_cons_zero]; exact rfl)); (case an60 => kernel_rfl); (case bn60 => kernel_rfl); (case cn60 => kernel_rfl); (case qn60 => exact fun _ _ _ h => h); (case dn60 => rfl); (case hyn60 => (intro z hSw; (try dsimp only at hSw); go_simp; (try with_reducible rfl))); (try simp only [Act.put, List.setIfInBounds_toArray, List.set_cons_zero, List.set_cons_succ])
                            refine wpAnyH_take (i := 2) (oi := ?on61) (v := ?vn61) ?hin61 ?an61 ?bn61 ?cn61 ?qn61 (Or.inl ⟨?dn61, ?hyn61⟩) hHeld ?restn61; (case hin61 => (simp only [List.getElem?_toArray, List.getElem?_cons_succ, List.getElem?_cons_zero]; exact rfl)); (case an61 => kernel_rfl); (case bn61 => kernel_rfl); (case cn61 => kernel_rfl); (case qn61 => exact fun _ _ _ h => h); (case dn61 => rfl); (case hyn61 => (intro z hSw; (try dsimp only at hSw); go_simp; (try with_reducible rfl))); (try simp only [Act.put, List.setIfInBounds_toArray, List.set_cons_zero, List.set_cons_succ])
                            refine wpAnyH_take (i := 3) (oi := ?on62) (v := ?vn62) ?hin62 ?an62 ?bn62 ?cn62 ?qn62 (Or.inl ⟨?dn62, ?hyn62⟩) hHeld ?restn62; (case hin62 => (simp only [List.getElem?_toArray, List.getElem?_cons_succ, List.getElem?_cons_zero]; exact rfl)); (case an62 => kernel_rfl); (case bn62 => kernel_rfl); (case cn62 => kernel_rfl); (case qn62 => exact fun _ _ _ h => h); (case dn62 => rfl); (case hyn62 => (intro z hSw; (try dsimp only at hSw); go_simp; (try with_reducible rfl))); (try simp only [Act.put, List.setIfInBounds_toArray, List.set_cons_zero, List.set_cons_succ])
                            refine wpAnyH_take (i := 4) (oi := ?on63) (v := ?vn63) ?hin63 ?an63 ?bn63 ?cn63 ?qn63 (Or.inl ⟨?dn63, ?hyn63⟩) hHeld ?restn63; (case hin63 => (simp only [List.getElem?_toArray, List.getElem?_cons_succ, List.getElem?_cons_zero]; exact rfl)); (case an63 => kernel_rfl); (case bn63 => kernel_rfl); (case cn63 => kernel_rfl); (case qn63 => exact fun _ _ _ h => h); (case dn63 => rfl); (case hyn63 => (intro z hSw; (try dsimp only at hSw); go_simp; (try with_reducible rfl))); (try simp only [Act.put, List.setIfInBounds_toArray, List.set_cons_zero, List.set_cons_succ])
                            refine wpAnyH_take (i := 5) (oi := ?on64) (v := ?vn64) ?hin64 ?an64 ?bn64 ?cn64 ?qn64 (Or.inl ⟨?dn64, ?hyn64⟩) hHeld ?restn64; (case hin64 => (simp only [List.getElem?_toArray, List.getElem?_cons_succ, List.getElem?_cons_zero]; exact rfl)); (case an64 => kernel_rfl); (case bn64 => kernel_rfl); (case cn64 => kernel_rfl); (case qn64 => exact fun _ _ _ h => h); (case dn64 => rfl); (case hyn64 => (intro z hSw; (try dsimp only at hSw); go_simp; (try with_reducible rfl))); (try simp only [Act.put, List.setIfInBounds_toArray, List.set_cons_zero, List.set_cons_succ])
                            refine wpAnyH_take (i := 6) (oi := ?on65) (v := ?vn65) ?hin65 ?an65 ?bn65 ?cn65 ?qn65 (Or.inl ⟨?dn65, ?hyn65⟩) hHeld ?restn65; (case hin65 => (simp only [List.getElem?_toArray, List.getElem?_cons_succ, List.getElem?_cons_zero]; exact rfl)); (case an65 => kernel_rfl); (case bn65 => kernel_rfl); (case cn65 => kernel_rfl); (case qn65 => exact fun _ _ _ h => h); (case dn65 => rfl); (case hyn65 => (intro z hSw; (try dsimp only at hSw); go_simp; (try with_reducible rfl))); (try simp only [Act.put, List.setIfInBounds_toArray, List.set_cons_zero, List.set_cons_succ])
                            refine wpAnyH_take (i := 7) (oi := ?on66) (v := ?vn66) ?hin66 ?an66 ?bn66 ?cn66 ?qn66 (Or.inl ⟨?dn66, ?hyn66⟩) hHeld ?restn66; (case hin66 => (simp only [List.getElem?_toArray, List.getElem?_cons_succ, List.getElem?_cons_zero]; exact rfl)); (case an66 => kernel_rfl); (case bn66 => kernel_rfl); (case cn66 => kernel_rfl); (case qn66 => exact fun _ _ _ h => h); (case dn66 => rfl); (case hyn66 => (intro z hSw; (try dsimp only at hSw); go_simp; (try with_reducible rfl))); (try simp only [Act.put, List.setIfInBounds_toArray, List.set_cons_zero, List.set_cons_succ])
                            refine wpAnyH_take (i := 8) (oi := ?on67) (v := ?vn67) ?hin67 ?an67 ?bn67 ?cn67 ?qn67 (Or.inl ⟨?dn67, ?hyn67⟩) hHeld ?restn67; (case hin67 => (simp only [List.getElem?_toArray, List.getElem?_cons_succ, List.getElem?_cons_zero]; exact rfl)); (case an67 => kernel_rfl); (case bn67 => kernel_rfl); (case cn67 => kernel_rfl); (case qn67 => exact fun _ _ _ h => h); (case dn67 => rfl); (case hyn67 => (intro z hSw; (try dsimp only at hSw); go_simp; (try with_reducible rfl))); (try simp only [Act.put, List.setIfInBounds_toArray, List.set_cons_zero, List.set_cons_succ])
                            refine wpAnyH_take (i := 9) (oi := ?on68) (v := ?vn68) ?hin68 ?an68 ?bn68 ?cn68 ?qn68 (Or.inl ⟨?dn68, ?hyn68⟩) hHeld ?restn68; (case hin68 => (simp only [List.getElem?_toArray, List.getElem?_cons_succ, List.getElem?_cons_zero]; exact rfl)); (case an68 => kernel_rfl); (case bn68 => kernel_rfl); (case cn68 => kernel_rfl); (case qn68 => exact fun _ _ _ h => h); (case dn68 => rfl); (case hyn68 => (intro z hSw; (try dsimp only at hSw); go_simp; (try with_reducible rfl))); (try simp only [Act.put, List.setIfInBounds_toArray, List.set_cons_zero, List.set_cons_succ])
                            refine wpAnyH_take (i := 10) (oi := ?on69) (v := ?vn69) ?hin69 ?an69 ?bn69 ?cn69 ?qn69 (Or.inl ⟨?dn69, ?hyn69⟩) hHeld ?restn69; (case hin69 => (simp only [List.getElem?_toArray, List.getElem?_cons_succ, List.getElem?_cons_zero]; exact rfl)); (case an69 => kernel_rfl); (case bn69 => kernel_rfl); (case cn69 => kernel_rfl); (case qn69 => exact fun _ _ _ h => h); (case dn69 => rfl); (case hyn69 => (intro z hSw; (try dsimp only at hSw); go_simp; (try with_reducible rfl))); (try simp only [Act.put, List.setIfInBounds_toArray, List.set_cons_zero, List.set_cons_succ])
                            refine wpAnyH_take (i := 11) (oi := ?on70) (v := ?vn70) ?hin70 ?an70 ?bn70 ?cn70 ?qn70 (Or.inl ⟨?dn70, ?hyn70⟩) hHeld ?restn70; (case hin70 => (simp only [List.getElem?_toArray, List.getElem?_cons_succ, List.getElem?_cons_zero]; exact rfl)); (case an70 => kernel_rfl); (case bn70 => kernel_rfl); (case cn70 => kernel_rfl); (case qn70 => exact fun _ _ _ h => h); (case dn70 => rfl); (case hyn70 => (intro z hSw; (try dsimp only at hSw); go_simp; (try with_reducible rfl))); (try simp only [Act.put, List.setIfInBounds_toArray, List.set_cons_zero, List.set_cons_succ])
                            refine wpAnyH_take (i := 12) (oi := ?on71) (v := ?vn71) ?hin71 ?an71 ?bn71 ?cn71 ?qn71 (Or.inl ⟨?dn71, ?hyn71⟩) hHeld ?restn71; (case hin71 => (simp only [List.getElem?_toArray, List.getElem?_cons_succ, List.getElem?_cons_zero]; exact rfl)); (case an71 => kernel_rfl); (case bn71 => kernel_rfl); (case cn71 => kernel_rfl); (case qn71 => exact fun _ _ _ h => h); (case dn71 => rfl); (case hyn71 => (intro z hSw; (try dsimp only at hSw); go_simp; (try with_reducible rfl))); (try simp only [Act.put, List.setIfInBounds_toArray, List.set_cons_zero, List.set_cons_succ])
                            refine wpAnyH_take (i := 13) (oi := ?on72) (v := ?vn72) ?hin72 ?an72 ?bn72 ?cn72 ?qn72 (Or.inl ⟨?dn72, ?hyn72⟩) hHeld ?restn72; (case hin72 => (simp only [List.getElem?_toArray, List.getElem?_cons_succ, List.getElem?_cons_zero]; exact rfl)); (case an72 => kernel_rfl); (case bn72 => kernel_rfl); (case cn72 => kernel_rfl); (case qn72 => exact fun _ _ _ h => h); (case dn72 => rfl); (case hyn72 => (intro z hSw; (try dsimp only at hSw); go_simp; (try with_reducible rfl))); (try simp only [Act.put, List.setIfInBounds_toArray, List.set_cons_zero, List.set_cons_succ])
                            refine wpAnyH_take (i := 14) (oi := ?on73) (v := ?vn73) ?hin73 ?an73 ?bn73 ?cn73 ?qn73 (Or.inl ⟨?dn73, ?hyn73⟩) hHeld ?restn73; (case hin73 => (simp only [List.getElem?_toArray, List.getElem?_cons_succ, List.getElem?_cons_zero]; exact rfl)); (case an73 => kernel_rfl); (case bn73 => kernel_rfl); (case cn73 => kernel_rfl); (case qn73 => exact fun _ _ _ h => h); (case dn73 => rfl); (case hyn73 => (intro z hSw; (try dsimp only at hSw); go_simp; (try with_reducible rfl))); (try simp only [Act.put, List.setIfInBounds_toArray, List.set_cons_zero, List.set_cons_succ])
                            refine wpAnyH_take (i := 15) (oi := ?on74) (v := ?vn74) ?hin74 ?an74 ?bn74 ?cn74 ?qn74 (Or.inl ⟨?dn74, ?hyn74⟩) hHeld ?restn74; (case hin74 => (simp only [List.getElem?_toArray, List.getElem?_cons_succ, List.getElem?_cons_zero]; exact rfl)); (case an74 => kernel_rfl); (case bn74 => kernel_rfl); (case cn74 => kernel_rfl); (case qn74 => exact fun _ _ _ h => h); (case dn74 => rfl); (case hyn74 => (intro z hSw; (try dsimp only at hSw); go_simp; (try with_reducible rfl))); (try simp only [Act.put, List.setIfInBounds_toArray, List.set_cons_zero, List.set_cons_succ])
                            refine wpAnyH_take (i := 16) (oi := ?on75) (v := ?vn75) ?hin75 ?an75 ?bn75 ?cn75 ?qn75 (Or.inl ⟨?dn75, ?hyn75⟩) hHeld ?restn75; (case hin75 => (simp only [List.getElem?_toArray, List.getElem?_cons_succ, List.getElem?_cons_zero]; exact rfl)); (case an75 => kernel_rfl); (case bn75 => kernel_rfl); (case cn75 => kernel_rfl); (case qn75 => exact fun _ _ _ h => h); (case dn75 => rfl); (case hyn75 => (intro z hSw; (try dsimp only at hSw); go_simp; (try with_reducible rfl))); (try simp only [Act.put, List.setIfInBounds_toArray, List.set_cons_zero, List.set_cons_succ])
                            refine wpAnyH_take (i := 17) (oi := ?on76) (v := ?vn76) ?hin76 ?an76 ?bn76 ?cn76 ?qn76 (Or.inl ⟨?dn76, ?hyn76⟩) hHeld ?restn76; (case hin76 => (simp only [List.getElem?_toArray, List.getElem?_cons_succ, List.getElem?_cons_zero]; exact rfl)); (case an76 => kernel_rfl); (case bn76 => kernel_rfl); (case cn76 => kernel_rfl); (case qn76 => exact fun _ _ _ h => h); (case dn76 => rfl); (case hyn76 => (intro z hSw; (try dsimp only at hSw); go_simp; (try with_reducible rfl))); (try simp only [Act.put, List.setIfInBounds_toArray, List.set_cons_zero, List.set_cons_succ])
                            refine wpAnyH_take (i := 18) (oi := ?on77) ?hin77 ?an77 ?bn77 ?cn77 ?qn77 (Or.inr ⟨?dn77, rfl⟩) hHeld ?restn77; (case hin77 => (simp only [List.getElem?_toArray, List.getElem?_cons_succ, List.getElem?_cons_zero]; exact rfl)); (case an77 => kernel_rfl); (case bn77 => kernel_rfl); (case cn77 => kernel_rfl); (case qn77 => exact fun _ _ _ h => h); (case dn77 => rfl); (try simp only [Act.put, List.setIfInBounds_toArray, List.set_cons_zero, List.set_cons_succ])
                            refine wpAnyH_take (i := 19) (oi := ?on78) ?hin78 ?an78 ?bn78 ?cn78 ?qn78 (Or.inr ⟨?dn78, rfl⟩) hHeld ?restn78; (case hin78 => (simp only [List.getElem?_toArray, List.getElem?_cons_succ, List.getElem?_cons_zero]; exact rfl)); (case an78 => kernel_rfl); (case bn78 => kernel_rfl); (case cn78 => kernel_rfl); (case qn78 => exact fun _ _ _ h => h); (case dn78 => rfl); (try simp only [Act.put, List.setIfInBounds_toArray, List.set_cons_zero, List.set_cons_succ])
                            refine wpAnyH_take (i := 20) (oi := ?on79) ?hin79 ?an79 ?bn79 ?cn79 ?qn79 (Or.inr ⟨?dn79, rfl⟩) hHeld ?restn79; (case hin79 => (simp only [List.getElem?_toArray, List.getElem?_cons_succ, List.getElem?_cons_zero]; exact rfl)); (case an79 => kernel_rfl); (case bn79 => kernel_rfl); (case cn79 => kernel_rfl); (case qn79 => exact fun _ _ _ h => h); (case dn79 => rfl); (try simp only [Act.put, List.setIfInBounds_toArray, List.set_cons_zero, List.set_cons_succ])
                            refine wpAnyH_take (i := 21) (oi := ?on80) ?hin80 ?an80 ?bn80 ?cn80 ?qn80 (Or.inr ⟨?dn80, rfl⟩) hHeld ?restn80; (case hin80 => (simp only [List.getElem?_toArray, List.getElem?_cons_succ, List.getElem?_cons_zero]; exact rfl)); (case an80 => kernel_rfl); (case bn80 => kernel_rfl); (case cn80 => kernel_rfl); (case qn80 => exact fun _ _ _ h => h); (case dn80 => rfl); (try simp only [Act.put, List.setIfInBounds_toArray, List.set_cons_zero, List.set_cons_succ])
                            refine wpAnyH_take (i := 22) (oi := ?on81) ?hin81 ?an81 ?bn81 ?cn81 ?qn81 (Or.inr ⟨?dn81, rfl⟩) hHeld ?restn81; (case hin81 => (simp only [List.getElem?_toArray, List.getElem?_cons_succ, List.getElem?_cons_zero]; exact rfl)); (case an81 => kernel_rfl); (case bn81 => kernel_rfl); (case cn81 => kernel_rfl); (case qn81 => exact fun _ _ _ h => h); (case dn81 => rfl); (try simp only [Act.put, List.setIfInBounds_toArray, List.set_cons_zero, List.set_cons_succ])
                            refine wpAnyH_take (i := 23) (oi := ?on82) ?hin82 ?an82 ?bn82 ?cn82 ?qn82 (Or.inr ⟨?dn82, rfl⟩) hHeld ?restn82; (case hin82 => (simp only [List.getElem?_toArray, List.getElem?_cons_succ, List.getElem?_cons_zero]; exact rfl)); (case an82 => kernel_rfl); (case bn82 => kernel_rfl); (case cn82 => kernel_rfl); (case qn82 => exact fun _ _ _ h => h); (case dn82 => rfl); (try simp only [Act.put, List.setIfInBounds_toArray, List.set_cons_zero, List.set_cons_succ])
                            refine wpAnyH_take (i := 24) (oi := ?on83) ?hin83 ?an83 ?bn83 ?cn83 ?qn83 (Or.inr ⟨?dn83, rfl⟩) hHeld ?restn83; (case hin83 => (simp only [List.getElem?_toArray, List.getElem?_cons_succ, List.getElem?_cons_zero]; exact rfl)); (case an83 => kernel_rfl); (case bn83 => kernel_rfl); (case cn83 => kernel_rfl); (case qn83 => exact fun _ _ _ h => h); (case dn83 => rfl); (try simp only [Act.put, List.setIfInBounds_toArray, List.set_cons_zero, List.set_cons_succ])
                            refine wpAnyH_take (i := 25) (oi := ?on84) (v := ?vn84) ?hin84 ?an84 ?bn84 ?cn84 ?qn84 (Or.inl ⟨?dn84, ?hyn84⟩) hHeld ?restn84; (case hin84 => (simp only [List.getElem?_toArray, List.getElem?_cons_succ, List.getElem?_cons_zero]; exact rfl)); (case an84 => kernel_rfl); (case bn84 => kernel_rfl); (case cn84 => kernel_rfl); (case qn84 => exact fun _ _ _ h => h); (case dn84 => rfl); (case hyn84 => (intro z hSw; (try dsimp only at hSw); go_simp; (try with_reducible rfl))); (try simp only [Act.put, List.setIfInBounds_toArray, List.set_cons_zero, List.set_cons_succ])
                            refine wpAnyH_take (i := 26) (oi := ?on85) (v := ?vn85) ?hin85 ?an85 ?bn85 ?cn85 ?qn85 (Or.inl ⟨?dn85, ?hyn85⟩) hHeld ?restn85; (case hin85 => (simp only [List.getElem?_toArray, List.getElem?_cons_succ, List.getElem?_cons_zero]; exact rfl)); (case an85 => kernel_rfl); (case bn85 => kernel_rfl); (case cn85 => kernel_rfl); (case qn85 => exact fun _ _ _ h => h); (case dn85 => rfl); (case hyn85 => (intro z hSw; (try dsimp only at hSw); go_simp; (try with_reducible rfl))); (try simp only [Act.put, List.setIfInBounds_toArray, List.set_cons_zero, List.set_cons_succ])
                            refine wpAnyH_take (i := 27) (oi := ?on86) ?hin86 ?an86 ?bn86 ?cn86 ?qn86 (Or.inr ⟨?dn86, rfl⟩) hHeld ?restn86; (case hin86 => (simp only [List.getElem?_toArray, List.getElem?_cons_succ, List.getElem?_cons_zero]; exact rfl)); (case an86 => kernel_rfl); (case bn86 => kernel_rfl); (case cn86 => kernel_rfl); (case qn86 => exact fun _ _ _ h => h); (case dn86 => rfl); (try simp only [Act.put, List.setIfInBounds_toArray, List.set_cons_zero, List.set_cons_succ])
                            refine wpAnyH_take (i := 28) (oi := ?on87) ?hin87 ?an87 ?bn87 ?cn87 ?qn87 (Or.inr ⟨?dn87, rfl⟩) hHeld ?restn87; (case hin87 => (simp only [List.getElem?_toArray, List.getElem?_cons_succ, List.getElem?_cons_zero]; exact rfl)); (case an87 => kernel_rfl); (case bn87 => kernel_rfl); (case cn87 => kernel_rfl); (case qn87 => exact fun _ _ _ h => h); (case dn87 => rfl); (try simp only [Act.put, List.setIfInBounds_toArray, List.set_cons_zero, List.set_cons_succ])
                            refine wpAnyH_take (i := 29) (oi := ?on88) ?hin88 ?an88 ?bn88 ?cn88 ?qn88 (Or.inr ⟨?dn88, rfl⟩) hHeld ?restn88; (case hin88 => (simp only [List.getElem?_toArray, List.getElem?_cons_succ, List.getElem?_cons_zero]; exact rfl)); (case an88 => kernel_rfl); (case bn88 => kernel_rfl); (case cn88 => kernel_rfl); (case qn88 => exact fun _ _ _ h => h); (case dn88 => rfl); (try simp only [Act.put, List.setIfInBounds_toArray, List.set_cons_zero, List.set_cons_succ])
                            refine wpAnyH_take (i := 30) (oi := ?on89) ?hin89 ?an89 ?bn89 ?cn89 ?qn89 (Or.inr ⟨?dn89, rfl⟩) hHeld ?restn89; (case hin89 => (simp only [List.getElem?_toArray, List.getElem?_cons_succ, List.getElem?_cons_zero]; exact rfl)); (case an89 => kernel_rfl); (case bn89 => kernel_rfl); (case cn89 => kernel_rfl); (case qn89 => exact fun _ _ _ h => h); (case dn89 => rfl); (try simp only [Act.put, List.setIfInBounds_toArray, List.set_cons_zero, List.set_cons_succ])
                            refine wpAnyH_take (i := 31) (oi := ?on90) ?hin90 ?an90 ?bn90 ?cn90 ?qn90 (Or.inr ⟨?dn90, rfl⟩) hHeld ?restn90; (case hin90 => (simp only [List.getElem?_toArray, List.getElem?_cons_succ, List.getElem?_cons_zero]; exact rfl)); (case an90 => kernel_rfl); (case bn90 => kernel_rfl); (case cn90 => kernel_rfl); (case qn90 => exact fun _ _ _ h => h); (case dn90 => rfl); (try simp only [Act.put, List.setIfInBounds_toArray, List.set_cons_zero, List.set_cons_succ])
                            refine wpAnyH_take (i := 32) (oi := ?on91) ?hin91 ?an91 ?bn91 ?cn91 ?qn91 (Or.inr ⟨?dn91, rfl⟩) hHeld ?restn91; (case hin91 => (simp only [List.getElem?_toArray, List.getElem?_cons_succ, List.getElem?_cons_zero]; exact rfl)); (case an91 => kernel_rfl); (case bn91 => kernel_rfl); (case cn91 => kernel_rfl); (case qn91 => exact fun _ _ _ h => h); (case dn91 => rfl); (try simp only [Act.put, List.setIfInBounds_toArray, List.set_cons_zero, List.set_cons_succ])
                            refine wpAnyH_take (i := 33) (oi := ?on92) ?hin92 ?an92 ?bn92 ?cn92 ?qn92 (Or.inr ⟨?dn92, rfl⟩) hHeld ?restn92; (case hin92 => (simp only [List.getElem?_toArray, List.getElem?_cons_succ, List.getElem?_cons_zero]; exact rfl)); (case an92 => kernel_rfl); (case bn92 => kernel_rfl); (case cn92 => kernel_rfl); (case qn92 => exact fun _ _ _ h => h); (case dn92 => rfl); (try simp only [Act.put, List.setIfInBounds_toArray, List.set_cons_zero, List.set_cons_succ])
                            refine wpAnyH_take (i := 34) (oi := ?on93) (v := ?vn93) ?hin93 ?an93 ?bn93 ?cn93 ?qn93 (Or.inl ⟨?dn93, ?hyn93⟩) hHeld ?restn93; (case hin93 => (simp only [List.getElem?_toArray, List.getElem?_cons_succ, List.getElem?_cons_zero]; exact rfl)); (case an93 => kernel_rfl); (case bn93 => kernel_rfl); (case cn93 => kernel_rfl); (case qn93 => exact fun _ _ _ h => h); (case dn93 => rfl); (case hyn93 => (intro z hSw; (try dsimp only at hSw); go_simp; (try with_reducible rfl))); (try simp only [Act.put, List.setIfInBounds_toArray, List.set_cons_zero, List.set_cons_succ])
                            refine wpAnyH_take (i := 35) (oi := ?on94) (v := ?vn94) ?hin94 ?an94 ?bn94 ?cn94 ?qn94 (Or.inl ⟨?dn94, ?hyn94⟩) hHeld ?restn94; (case hin94 => (simp only [List.getElem?_toArray, List.getElem?_cons_succ, List.getElem?_cons_zero]; exact rfl)); (case an94 => kernel_rfl); (case bn94 => kernel_rfl); (case cn94 => kernel_rfl); (case qn94 => exact fun _ _ _ h => h); (case dn94 => rfl); (case hyn94 => (intro z hSw; (try dsimp only at hSw); go_simp; (try with_reducible rfl))); (try simp only [Act.put, List.setIfInBounds_toArray, List.set_cons_zero, List.set_cons_succ])
                            refine wpAnyH_done (by kernel_rfl) ?_ _
                            go_wp2_with fail
                            go_roundw
                            case rel => exact ⟨q + 1, by omega, by go_num, hZd, hqs⟩
                            case measure => simp [intOf]; omega
                      · have b5 : ((F : Int) == 5) = false := by simp; omega
                        by_cases h6 : F = 6
                        · have hfz : flZ A F k q = ((nt A k).testBit q || (nt A q).testBit k) := by unfold flZ; rw [if_neg h5, if_pos h6]
                          have b6t : ((F : Int) == 6) = true := by rw [h6]; rfl
                          clear h5 h6
                          cases htA : (nt A k).testBit q with
                          | true =>
                            as_aux_lemma =>
                              rw [htA] at hfz hkq
                              have hqs := Lib.hid (hQS.out (HZZ.out.trans hfz))
                              clear hfz htA hqk hb3
                              generalize nt A k = mk1 at *
                              generalize nt A q = mq1 at *
                              refine wp_region_held_drew (S := fun w' => Grew w1 w') (by kernel_rfl) hZd (fun hHeld => ?_)
                              refine wpAnyH_take (i := 0) (oi := ?on131) (v := ?vn131) ?hin131 ?an131 ?bn131 ?cn131 ?qn131 (Or.inl ⟨?dn131, ?hyn131⟩) hHeld ?restn131; (case hin131 => (simp only [List.getElem?_toArray, List.getElem?_cons_zero]; exact rfl)); (case an131 => kernel_rfl); (case bn131 => kernel_rfl); (case cn131 => kernel_rfl); (case qn131 => exact fun _ _ _ h => h); (case dn131 => rfl); (case hyn131 => (intro z hSw; (try dsimp only at hSw); go_simp; (try with_reducible rfl))); (try simp only [Act.put, List.setIfInBounds_toArray, List.set_cons_zero, List.set_cons_succ])
                              refine wpAnyH_take (i := 1) (oi := ?on132) (v := ?vn132) ?hin132 ?an132 ?bn132 ?cn132 ?qn132 (Or.inl ⟨?dn132, ?hyn132⟩) hHeld ?restn132; (case hin132 => (simp only [List.getElem?_toArray, List.getElem?_cons_succ, List.getElem?_cons_zero]; exact rfl)); (case an132 => kernel_rfl); (case bn132 => kernel_rfl); (case cn132 => kernel_rfl); (case qn132 => exact fun _ _ _ h => h); (case dn132 => rfl); (case hyn132 => (intro z hSw; (try dsimp only at hSw); go_simp; (try with_reducible rfl))); (try simp only [Act.put, List.setIfInBounds_toArray, List.set_cons_zero, List.set_cons_succ])
                              refine wpAnyH_take (i := 2) (oi := ?on133) (v := ?vn133) ?hin133 ?an133 ?bn133 ?cn133 ?qn133 (Or.inl ⟨?dn133, ?hyn133⟩) hHeld ?restn133; (case hin133 => (simp only [List.getElem?_toArray, List.getElem?_cons_succ, List.getElem?_cons_zero]; exact rfl)); (case an133 => kernel_rfl); (case bn133 => kernel_rfl); (case cn133 => kernel_rfl); (case qn133 => exact fun _ _ _ h => h); (case dn133 => rfl); (case hyn133 => (intro z hSw; (try dsimp only at hSw); go_simp; (try with_reducible rfl))); (try simp only [Act.put, List.setIfInBounds_toArray, List.set_cons_zero, List.set_cons_succ])
                              refine wpAnyH_take (i := 3) (oi := ?on134) ?hin134 ?an134 ?bn134 ?cn134 ?qn134 (Or.inr ⟨?dn134, rfl⟩) hHeld ?restn134; (case hin134 => (simp only [List.getElem?_toArray, List.getElem?_cons_succ, List.getElem?_cons_zero]; exact rfl)); (case an134 => kernel_rfl); (case bn134 => kernel_rfl); (case cn134 => kernel_rfl); (case qn134 => exact fun _ _ _ h => h); (case dn134 => rfl); (try simp only [Act.put, List.setIfInBounds_toArray, List.set_cons_zero, List.set_cons_succ])
                              refine wpAnyH_take (i := 4) (oi := ?on135) ?hin135 ?an135 ?bn135 ?cn135 ?qn135 (Or.inr ⟨?dn135, rfl⟩) hHeld ?restn135; (case hin135 => (simp only [List.getElem?_toArray, List.getElem?_cons_succ, List.getElem?_cons_zero]; exact rfl)); (case an135 => kernel_rfl); (case bn135 => kernel_rfl); (case cn135 => kernel_rfl); (case qn135 => exact fun _ _ _ h => h); (case dn135 => rfl); (try simp only [Act.put, List.setIfInBounds_toArray, List.set_cons_zero, List.set_cons_succ])
                              refine wpAnyH_take (i := 5) (oi := ?on136) ?hin136 ?an136 ?bn136 ?cn136 ?qn136 (Or.inr ⟨?dn136, rfl⟩) hHeld ?restn136; (case hin136 => (simp only [List.getElem?_toArray, List.getElem?_cons_succ, List.getElem?_cons_zero]; exact rfl)); (case an136 => kernel_rfl); (case bn136 => kernel_rfl); (case cn136 => kernel_rfl); (case qn136 => exact fun _ _ _ h => h); (case dn136 => rfl); (try simp only [Act.put, List.setIfInBounds_toArray, List.set_cons_zero, List.set_cons_succ])
                              refine wpAnyH_take (i := 6) (oi := ?on137) ?hin137 ?an137 ?bn137 ?cn137 ?qn137 (Or.inr ⟨?dn137, rfl⟩) hHeld ?restn137; (case hin137 => (simp only [List.getElem?_toArray, List.getElem?_cons_succ, List.getElem?_cons_zero]; exact rfl)); (case an137 => kernel_rfl); (case bn137 => kernel_rfl); (case cn137 => kernel_rfl); (case qn137 => exact fun _ _ _ h => h); (case dn137 => rfl); (try simp only [Act.put, List.setIfInBounds_toArray, List.set_cons_zero, List.set_cons_succ])
                              refine wpAnyH_take (i := 7) (oi := ?on138) ?hin138 ?an138 ?bn138 ?cn138 ?qn138 (Or.inr ⟨?dn138, rfl⟩) hHeld ?restn138; (case hin138 => (simp only [List.getElem?_toArray, List.getElem?_cons_succ, List.getElem?_cons_zero]; exact rfl)); (case an138 => kernel_rfl); (case bn138 => kernel_rfl); (case cn138 => kernel_rfl); (case qn138 => exact fun _ _ _ h => h); (case dn138 => rfl); (try simp only [Act.put, List.setIfInBounds_toArray, List.set_cons_zero, List.set_cons_succ])
                              refine wpAnyH_take (i := 8) (oi := ?on139) ?hin139 ?an139 ?bn139 ?cn139 ?qn139 (Or.inr ⟨?dn139, rfl⟩) hHeld ?restn139; (case hin139 => (simp only [List.getElem?_toArray, List.getElem?_cons_succ, List.getElem?_cons_zero]; exact rfl)); (case an139 => kernel_rfl); (case bn139 => kernel_rfl); (case cn139 => kernel_rfl); (case qn139 => exact fun _ _ _ h => h); (case dn139 => rfl); (try simp only [Act.put, List.setIfInBounds_toArray, List.set_cons_zero, List.set_cons_succ])
                              refine wpAnyH_take (i := 9) (oi := ?on140) ?hin140 ?an140 ?bn140 ?cn140 ?qn140 (Or.inr ⟨?dn140, rfl⟩) hHeld ?restn140; (case hin140 => (simp only [List.getElem?_toArray, List.getElem?_cons_succ, List.getElem?_cons_zero]; exact rfl)); (case an140 => kernel_rfl); (case bn140 => kernel_rfl); (case cn140 => kernel_rfl); (case qn140 => exact fun _ _ _ h => h); (case dn140 => rfl); (try simp only [Act.put, List.setIfInBounds_toArray, List.set_cons_zero, List.set_cons_succ])
                              refine wpAnyH_take (i := 10) (oi := ?on141) ?hin141 ?an141 ?bn141 ?cn141 ?qn141 (Or.inr ⟨?dn141, rfl⟩) hHeld ?restn141; (case hin141 => (simp only [List.getElem?_toArray, List.getElem?_cons_succ, List.getElem?_cons_zero]; exact rfl)); (case an141 => kernel_rfl); (case bn141 => kernel_rfl); (case cn141 => kernel_rfl); (case qn141 => exact fun _ _ _ h => h); (case dn141 => rfl); (try simp only [Act.put, List.setIfInBounds_toArray, List.set_cons_zero, List.set_cons_succ])
                              refine wpAnyH_take (i := 11) (oi := ?on142) ?hin142 ?an142 ?bn142 ?cn142 ?qn142 (Or.inr ⟨?dn142, rfl⟩) hHeld ?restn142; (case hin142 => (simp only [List.getElem?_toArray, List.getElem?_cons_succ, List.getElem?_cons_zero]; exact rfl)); (case an142 => kernel_rfl); (case bn142 => kernel_rfl); (case cn142 => kernel_rfl); (case qn142 => exact fun _ _ _ h => h); (case dn142 => rfl); (try simp only [Act.put, List.setIfInBounds_toArray, List.set_cons_zero, List.set_cons_succ])
                              refine wpAnyH_take (i := 12) (oi := ?on143) ?hin143 ?an143 ?bn143 ?cn143 ?qn143 (Or.inr ⟨?dn143, rfl⟩) hHeld ?restn143; (case hin143 => (simp only [List.getElem?_toArray, List.getElem?_cons_succ, List.getElem?_cons_zero]; exact rfl)); (case an143 => kernel_rfl); (case bn143 => kernel_rfl); (case cn143 => kernel_rfl); (case qn143 => exact fun _ _ _ h => h); (case dn143 => rfl); (try simp only [Act.put, List.setIfInBounds_toArray, List.set_cons_zero, List.set_cons_succ])
                              refine wpAnyH_take (i := 13) (oi := ?on144) (v := ?vn144) ?hin144 ?an144 ?bn144 ?cn144 ?qn144 (Or.inl ⟨?dn144, ?hyn144⟩) hHeld ?restn144; (case hin144 => (simp only [List.getElem?_toArray, List.getElem?_cons_succ, List.getElem?_cons_zero]; exact rfl)); (case an144 => kernel_rfl); (case bn144 => kernel_rfl); (case cn144 => kernel_rfl); (case qn144 => exact fun _ _ _ h => h); (case dn144 => rfl); (case hyn144 => (intro z hSw; (try dsimp only at hSw); go_simp; (try with_reducible rfl))); (try simp only [Act.put, List.setIfInBounds_toArray, List.set_cons_zero, List.set_cons_succ])
                              refine wpAnyH_take (i := 14) (oi := ?on145) (v := ?vn145) ?hin145 ?an145 ?bn145 ?cn145 ?qn145 (Or.inl ⟨?dn145, ?hyn145⟩) hHeld ?restn145; (case hin145 => (simp only [List.getElem?_toArray, List.getElem?_cons_succ, List.getElem?_cons_zero]; exact rfl)); (case an145 => kernel_rfl); (case bn145 => kernel_rfl); (case cn145 => kernel_rfl); (case qn145 => exact fun _ _ _ h => h); (case dn145 => rfl); (case hyn145 => (intro z hSw; (try dsimp only at hSw); go_simp; (try with_reducible rfl))); (try simp only [Act.put, List.setIfInBounds_toArray, List.set_cons_zero, List.set_cons_succ])
                              refine wpAnyH_take (i := 15) (oi := ?on146) (v := ?vn146) ?hin146 ?an146 ?bn146 ?cn146 ?qn146 (Or.inl ⟨?dn146, ?hyn146⟩) hHeld ?restn146; (case hin146 => (simp only [List.getElem?_toArray, List.getElem?_cons_succ, List.getElem?_cons_zero]; exact rfl)); (case an146 => kernel_rfl); (case bn146 => kernel_rfl); (case cn146 => kernel_rfl); (case qn146 => exact fun _ _ _ h => h); (case dn146 => rfl); (case hyn146 => (intro z hSw; (try dsimp only at hSw); go_simp; (try with_reducible rfl))); (try simp only [Act.put, List.setIfInBounds_toArray, List.set_cons_zero, List.set_cons_succ])
                              refine wpAnyH_take (i := 16) (oi := ?on147) (v := ?vn147) ?hin147 ?an147 ?bn147 ?cn147 ?qn147 (Or.inl ⟨?dn147, ?hyn147⟩) hHeld ?restn147; (case hin147 => (simp only [List.getElem?_toArray, List.getElem?_cons_succ, List.getElem?_cons_zero]; exact rfl)); (case an147 => kernel_rfl); (case bn147 => kernel_rfl); (case cn147 => kernel_rfl); (case qn147 => exact fun _ _ _ h => h); (case dn147 => rfl); (case hyn147 => (intro z hSw; (try dsimp only at hSw); go_simp; (try with_reducible rfl))); (try simp only [Act.put, List.setIfInBounds_toArray, List.set_cons_zero, List.set_cons_succ])
                              refine wpAnyH_take (i := 17) (oi := ?on148) (v := ?vn148) ?hin148 ?an148 ?bn148 ?cn148 ?qn148 (Or.inl ⟨?dn148, ?hyn148⟩) hHeld ?restn148; (case hin148 => (simp only [List.getElem?_toArray, List.getElem?_cons_succ, List.getElem?_cons_zero]; exact rfl)); (case an148 => kernel_rfl); (case bn148 => kernel_rfl); (case cn148 => kernel_rfl); (case qn148 => exact fun _ _ _ h => h); (case dn148 => rfl); (case hyn148 => (intro z hSw; (try dsimp only at hSw); go_simp; (try with_reducible rfl))); (try simp only [Act.put, List.setIfInBounds_toArray, List.set_cons_zero, List.set_cons_succ])
                              refine wpAnyH_take (i := 18) (oi := ?on149) (v := ?vn149) ?hin149 ?an149 ?bn149 ?cn149 ?qn149 (Or.inl ⟨?dn149, ?hyn149⟩) hHeld ?restn149; (case hin149 => (simp only [List.getElem?_toArray, List.getElem?_cons_succ, List.getElem?_cons_zero]; exact rfl)); (case an149 => kernel_rfl); (case bn149 => kernel_rfl); (case cn149 => kernel_rfl); (case qn149 => exact fun _ _ _ h => h); (case dn149 => rfl); (case hyn149 => (intro z hSw; (try dsimp only at hSw); go_simp; (try with_reducible rfl))); (try simp only [Act.put, List.setIfInBounds_toArray, List.set_cons_zero, List.set_cons_succ])
                              refine wpAnyH_take (i := 19) (oi := ?on150) (v := ?vn150) ?hin150 ?an150 ?bn150 ?cn150 ?qn150 (Or.inl ⟨?dn150, ?hyn150⟩) hHeld ?restn150; (case hin150 => (simp only [List.getElem?_toArray, List.getElem?_cons_succ, List.getElem?_cons_zero]; exact rfl)); (case an150 => kernel_rfl); (case bn150 => kernel_rfl); (case cn150 => kernel_rfl); (case qn150 => exact fun _ _ _ h => h); (case dn150 => rfl); (case hyn150 => (intro z hSw; (try dsimp only at hSw); go_simp; (try with_reducible rfl))); (try simp only [Act.put, List.setIfInBounds_toArray, List.set_cons_zero, List.set_cons_succ])
                              refine wpAnyH_take (i := 20) (oi := ?on151) (v := ?vn151) ?hin151 ?an151 ?bn151 ?cn151 ?qn151 (Or.inl ⟨?dn151, ?hyn151⟩) hHeld ?restn151; (case hin151 => (simp only [List.getElem?_toArray, List.getElem?_cons_succ, List.getElem?_cons_zero]; exact rfl)); (case an151 => kernel_rfl); (case bn151 => kernel_rfl); (case cn151 => kernel_rfl); (case qn151 => exact fun _ _ _ h => h); (case dn151 => rfl); (case hyn151 => (intro z hSw; (try dsimp only at hSw); go_simp; (try with_reducible rfl))); (try simp only [Act.put, List.setIfInBounds_toArray, List.set_cons_zero, List.set_cons_succ])
                              refine wpAnyH_take (i := 21) (oi := ?on152) (v := ?vn152) ?hin152 ?an152 ?bn152 ?cn152 ?qn152 (Or.inl ⟨?dn152, ?hyn152⟩) hHeld ?restn152; (case hin152 => (simp only [List.getElem?_toArray, List.getElem?_cons_succ, List.getElem?_cons_zero]; exact rfl)); (case an152 => kernel_rfl); (case bn152 => kernel_rfl); (case cn152 => kernel_rfl); (case qn152 => exact fun _ _ _ h => h); (case dn152 => rfl); (case hyn152 => (intro z hSw; (try dsimp only at hSw); go_simp; (try with_reducible rfl))); (try simp only [Act.put, List.setIfInBounds_toArray, List.set_cons_zero, List.set_cons_succ])
                              refine wpAnyH_take (i := 22) (oi := ?on153) (v := ?vn153) ?hin153 ?an153 ?bn153 ?cn153 ?qn153 (Or.inl ⟨?dn153, ?hyn153⟩) hHeld ?restn153; (case hin153 => (simp only [List.getElem?_toArray, List.getElem?_cons_succ, List.getElem?_cons_zero]; exact rfl)); (case an153 => kernel_rfl); (case bn153 => kernel_rfl); (case cn153 => kernel_rfl); (case qn153 => exact fun _ _ _ h => h); (case dn153 => rfl); (case hyn153 => (intro z hSw; (try dsimp only at hSw); go_simp; (try with_reducible rfl))); (try simp only [Act.put, List.setIfInBounds_toArray, List.set_cons_zero, List.set_cons_succ])
                              refine wpAnyH_ready (rs := [23]) (by kernel_rfl) (by simp) ?_
                              refine AllReadyH.cons (o := ?on154) ?hin154 ?restn154 AllReadyH.nil
                              case hin154 => (simp only [List.getElem?_toArray, List.getElem?_cons_succ, List.getElem?_cons_zero]; exact rfl)
                              intro K hK
                              go_simp
                              go_at_call 139
                              refine (hkq.out _).mono ?_
                              rintro e w5 ⟨rfl, hw5⟩
                              subst hw5
                              refine hK.out _ _ ?_ (fun hHeld => ?_)
                              · (try dsimp only); first | with_reducible assumption | exact Grew.alloc ‹_› _
                              clear hK K
                              try simp only [Act.put, List.setIfInBounds_toArray, List.set_cons_zero, List.set_cons_succ]
                              refine wpAnyH_take (i := 24) (oi := ?on155) (v := ?vn155) ?hin155 ?an155 ?bn155 ?cn155 ?qn155 (Or.inl ⟨?dn155, ?hyn155⟩) hHeld ?restn155; (case hin155 => (simp only [List.getElem?_toArray, List.getElem?_cons_succ, List.getElem?_cons_zero]; exact rfl)); (case an155 => kernel_rfl); (case bn155 => kernel_rfl); (case cn155 => kernel_rfl); (case qn155 => exact fun _ _ _ h => h); (case dn155 => rfl); (case hyn155 => (intro z hSw; (try dsimp only at hSw); go_simp; (try with_reducible rfl))); (try simp only [Act.put, List.setIfInBounds_toArray, List.set_cons_zero, List.set_cons_succ])
                              refine wpAnyH_take (i := 25) (oi := ?on156) (v := ?vn156) ?hin156 ?an156 ?bn156 ?cn156 ?qn156 (Or.inl ⟨?dn156, ?hyn156⟩) hHeld ?restn156; (case hin156 => (simp only [List.getElem?_toArray, List.getElem?_cons_succ, List.getElem?_cons_zero]; exact rfl)); (case an156 => kernel_rfl); (case bn156 => kernel_rfl); (case cn156 => kernel_rfl); (case qn156 => exact fun _ _ _ h => h); (case dn156 => rfl); (case hyn156 => (intro z hSw; (try dsimp only at hSw); go_simp; (try with_reducible rfl))); (try simp only [Act.put, List.setIfInBounds_toArray, List.set_cons_zero, List.set_cons_succ])
                              refine wpAnyH_take (i := 26) (oi := ?on157) (v := ?vn157) ?hin157 ?an157 ?bn157 ?cn157 ?qn157 (Or.inl ⟨?dn157, ?hyn157⟩) hHeld ?restn157; (case hin157 => (simp only [List.getElem?_toArray, List.getElem?_cons_succ, List.getElem?_cons_zero]; exact rfl)); (case an157 => kernel_rfl); (case bn157 => kernel_rfl); (case cn157 => kernel_rfl); (case qn157 => exact fun _ _ _ h => h); (case dn157 => rfl); (case hyn157 => (intro z hSw; (try dsimp only at hSw); go_simp; (try with_reducible rfl))); (try simp only [Act.put, List.setIfInBounds_toArray, List.set_cons_zero, List.set_cons_succ])
                              refine wpAnyH_take (i := 27) (oi := ?on158) ?hin158 ?an158 ?bn158 ?cn158 ?qn158 (Or.inr ⟨?dn158, rfl⟩) hHeld ?restn158; (case hin158 => (simp only [List.getElem?_toArray, List.getElem?_cons_succ, List.getElem?_cons_zero]; exact rfl)); (case an158 => kernel_rfl); (case bn158 => kernel_rfl); (case cn158 => kernel_rfl); (case qn158 => exact fun _ _ _ h => h); (case dn158 => rfl); (try simp only [Act.put, List.setIfInBounds_toArray, List.set_cons_zero, List.set_cons_succ])
                              refine wpAnyH_take (i := 28) (oi := ?on159) ?hin159 ?an159 ?bn159 ?cn159 ?qn159 (Or.inr ⟨?dn159, rfl⟩) hHeld ?restn159; (case hin159 => (simp only [List.getElem?_toArray, List.getElem?_cons_succ, List.getElem?_cons_zero]; exact rfl)); (case an159 => kernel_rfl); (case bn159 => kernel_rfl); (case cn159 => kernel_rfl); (case qn159 => exact fun _ _ _ h => h); (case dn159 => rfl); (try simp only [Act.put, List.setIfInBounds_toArray, List.set_cons_zero, List.set_cons_succ])
                              refine wpAnyH_take (i := 29) (oi := ?on160) ?hin160 ?an160 ?bn160 ?cn160 ?qn160 (Or.inr ⟨?dn160, rfl⟩) hHeld ?restn160; (case hin160 => (simp only [List.getElem?_toArray, List.getElem?_cons_succ, List.getElem?_cons_zero]; exact rfl)); (case an160 => kernel_rfl); (case bn160 => kernel_rfl); (case cn160 => kernel_rfl); (case qn160 => exact fun _ _ _ h => h); (case dn160 => rfl); (try simp only [Act.put, List.setIfInBounds_toArray, List.set_cons_zero, List.set_cons_succ])
                              refine wpAnyH_take (i := 30) (oi := ?on161) ?hin161 ?an161 ?bn161 ?cn161 ?qn161 (Or.inr ⟨?dn161, rfl⟩) hHeld ?restn161; (case hin161 => (simp only [List.getElem?_toArray, List.getElem?_cons_succ, List.getElem?_cons_zero]; exact rfl)); (case an161 => kernel_rfl); (case bn161 => kernel_rfl); (case cn161 => kernel_rfl); (case qn161 => exact fun _ _ _ h => h); (case dn161 => rfl); (try simp only [Act.put, List.setIfInBounds_toArray, List.set_cons_zero, List.set_cons_succ])
                              refine wpAnyH_take (i := 31) (oi := ?on162) ?hin162 ?an162 ?bn162 ?cn162 ?qn162 (Or.inr ⟨?dn162, rfl⟩) hHeld ?restn162; (case hin162 => (simp only [List.getElem?_toArray, List.getElem?_cons_succ, List.getElem?_cons_zero]; exact rfl)); (case an162 => kernel_rfl); (case bn162 => kernel_rfl); (case cn162 => kernel_rfl); (case qn162 => exact fun _ _ _ h => h); (case dn162 => rfl); (try simp only [Act.put, List.setIfInBounds_toArray, List.set_cons_zero, List.set_cons_succ])
                              refine wpAnyH_take (i := 32) (oi := ?on163) ?hin163 ?an163 ?bn163 ?cn163 ?qn163 (Or.inr ⟨?dn163, rfl⟩) hHeld ?restn163; (case hin163 => (simp only [List.getElem?_toArray, List.getElem?_cons_succ, List.getElem?_cons_zero]; exact rfl)); (case an163 => kernel_rfl); (case bn163 => kernel_rfl); (case cn163 => kernel_rfl); (case qn163 => exact fun _ _ _ h => h); (case dn163 => rfl); (try simp only [Act.put, List.setIfInBounds_toArray, List.set_cons_zero, List.set_cons_succ])
                              refine wpAnyH_take (i := 33) (oi := ?on164) ?hin164 ?an164 ?bn164 ?cn164 ?qn164 (Or.inr ⟨?dn164, rfl⟩) hHeld ?restn164; (case hin164 => (simp only [List.getElem?_toArray, List.getElem?_cons_succ, List.getElem?_cons_zero]; exact rfl)); (case an164 => kernel_rfl); (case bn164 => kernel_rfl); (case cn164 => kernel_rfl); (case qn164 => exact fun _ _ _ h => h); (case dn164 => rfl); (try simp only [Act.put, List.setIfInBounds_toArray, List.set_cons_zero, List.set_cons_succ])
                              refine wpAnyH_take (i := 34) (oi := ?on165) (v := ?vn165) ?hin165 ?an165 ?bn165 ?cn165 ?qn165 (Or.inl ⟨?dn165, ?hyn165⟩) hHeld ?restn165; (case hin165 => (simp only [List.getElem?_toArray, List.getElem?_cons_succ, List.getElem?_cons_zero]; exact rfl)); (case an165 => kernel_rfl); (case bn165 => kernel_rfl); (case cn165 => kernel_rfl); (case qn165 => exact fun _ _ _ h => h); (case dn165 => rfl); (case hyn165 => (intro z hSw; (try dsimp only at hSw); go_simp; (try with_reducible rfl))); (try simp only [Act.put, List.setIfInBounds_toArray, List.set_cons_zero, List.set_cons_succ])
                              refine wpAnyH_take (i := 35) (oi := ?on166) (v := ?vn166) ?hin166 ?an166 ?bn166 ?cn166 ?qn166 (Or.inl ⟨?dn166, ?hyn166⟩) hHeld ?restn166; (case hin166 => (simp only [List.getElem?_toArray, List.getElem?_cons_succ, List.getElem?_cons_zero]; exact rfl)); (case an166 => kernel_rfl); (case bn166 => kernel_rfl); (case cn166 => kernel_rfl); (case qn166 => exact fun _ _ _ h => h); (case dn166 => rfl); (case hyn166 => (intro z hSw; (try dsimp only at hSw); go_simp; (try with_reducible rfl))); (try simp only [Act.put, List.setIfInBounds_toArray, List.set_cons_zero, List.set_cons_succ])
                              refine wpAnyH_done (by kernel_rfl) ?_ _
                              go_wp2_with fail
                              go_roundw
                              case rel => exact ⟨q + 1, by omega, by go_num, hZd, hqs⟩
                              case measure => simp [intOf]; omega
                          | false =>
                            cases htB : (nt A q).testBit k with
                            | true =>
                              as_aux_lemma =>
                                rw [htA, htB] at hfz
                                rw [htA] at hkq
                                rw [htB] at hqk
                                have hqs := Lib.hid (hQS.out (HZZ.out.trans hfz))
                                clear hfz htA htB hb3
                                generalize nt A k = mk1 at *
                                generalize nt A q = mq1 at *
                                refine wp_region_held_drew (S := fun w' => Grew w1 w') (by kernel_rfl) hZd (fun hHeld => ?_)
                                refine wpAnyH_take (i := 0) (oi := ?on167) (v := ?vn167) ?hin167 ?an167 ?bn167 ?cn167 ?qn167 (Or.inl ⟨?dn167, ?hyn167⟩) hHeld ?restn167; (case hin167 => (simp only [List.getElem?_toArray, List.getElem?_cons_zero]; exact rfl)); (case an167 => kernel_rfl); (case bn167 => kernel_rfl); (case cn167 => kernel_rfl); (case qn167 => exact fun _ _ _ h => h); (case dn167 => rfl); (case hyn167 => (intro z hSw; (try dsimp only at hSw); go_simp; (try with_reducible rfl))); (try simp only [Act.put, List.setIfInBounds_toArray, List.set_cons_zero, List.set_cons_succ])
                                refine wpAnyH_take (i := 1) (oi := ?on168) (v := ?vn168) ?hin168 ?an168 ?bn168 ?cn168 ?qn168 (Or.inl ⟨?dn168, ?hyn168⟩) hHeld ?restn168; (case hin168 => (simp only [List.getElem?_toArray, List.getElem?_cons_succ, List.getElem?_cons_zero]; exact rfl)); (case an168 => kernel_rfl); (case bn168 => kernel_rfl); (case cn168 => kernel_rfl); (case qn168 => exact fun _ _ _ h => h); (case dn168 => rfl); (case hyn168 => (intro z hSw; (try dsimp only at hSw); go_simp; (try with_reducible rfl))); (try simp only [Act.put, List.setIfInBounds_toArray, List.set_cons_zero, List.set_cons_succ])
                                refine wpAnyH_take (i := 2) (oi := ?on169) (v := ?vn169) ?hin169 ?an169 ?bn169 ?cn169 ?qn169 (Or.inl ⟨?dn169, ?hyn169⟩) hHeld ?restn169; (case hin169 => (simp only [List.getElem?_toArray, List.getElem?_cons_succ, List.getElem?_cons_zero]; exact rfl)); (case an169 => kernel_rfl); (case bn169 => kernel_rfl); (case cn169 => kernel_rfl); (case qn169 => exact fun _ _ _ h => h); (case dn169 => rfl); (case hyn169 => (intro z hSw; (try dsimp only at hSw); go_simp; (try with_reducible rfl))); (try simp only [Act.put, List.setIfInBounds_toArray, List.set_cons_zero, List.set_cons_succ])
                                refine wpAnyH_take (i := 3) (oi := ?on170) ?hin170 ?an170 ?bn170 ?cn170 ?qn170 (Or.inr ⟨?dn170, rfl⟩) hHeld ?restn170; (case hin170 => (simp only [List.getElem?_toArray, List.getElem?_cons_succ, List.getElem?_cons_zero]; exact rfl)); (case an170 => kernel_rfl); (case bn170 => kernel_rfl); (case cn170 => kernel_rfl); (case qn170 => exact fun _ _ _ h => h); (case dn170 => rfl); (try simp only [Act.put, List.setIfInBounds_toArray, List.set_cons_zero, List.set_cons_succ])
                                refine wpAnyH_take (i := 4) (oi := ?on171) ?hin171 ?an171 ?bn171 ?cn171 ?qn171 (Or.inr ⟨?dn171, rfl⟩) hHeld ?restn171; (case hin171 => (simp only [List.getElem?_toArray, List.getElem?_cons_succ, List.getElem?_cons_zero]; exact rfl)); (case an171 => kernel_rfl); (case bn171 => kernel_rfl); (case cn171 => kernel_rfl); (case qn171 => exact fun _ _ _ h => h); (case dn171 => rfl); (try simp only [Act.put, List.setIfInBounds_toArray, List.set_cons_zero, List.set_cons_succ])
                                refine wpAnyH_take (i := 5) (oi := ?on172) ?hin172 ?an172 ?bn172 ?cn172 ?qn172 (Or.inr ⟨?dn172, rfl⟩) hHeld ?restn172; (case hin172 => (simp only [List.getElem?_toArray, List.getElem?_cons_succ, List.getElem?_cons_zero]; exact rfl)); (case an172 => kernel_rfl); (case bn172 => kernel_rfl); (case cn172 => kernel_rfl); (case qn172 => exact fun _ _ _ h => h); (case dn172 => rfl); (try simp only [Act.put, List.setIfInBounds_toArray, List.set_cons_zero, List.set_cons_succ])
                                refine wpAnyH_take (i := 6) (oi := ?on173) ?hin173 ?an173 ?bn173 ?cn173 ?qn173 (Or.inr ⟨?dn173, rfl⟩) hHeld ?restn173; (case hin173 => (simp only [List.getElem?_toArray, List.getElem?_cons_succ, List.getElem?_cons_zero]; exact rfl)); (case an173 => kernel_rfl); (case bn173 => kernel_rfl); (case cn173 => kernel_rfl); (case qn173 => exact fun _ _ _ h => h); (case dn173 => rfl); (try simp only [Act.put, List.setIfInBounds_toArray, List.set_cons_zero, List.set_cons_succ])
                                refine wpAnyH_take (i := 7) (oi := ?on174) ?hin174 ?an174 ?bn174 ?cn174 ?qn174 (Or.inr ⟨?dn174, rfl⟩) hHeld ?restn174; (case hin174 => (simp only [List.getElem?_toArray, List.getElem?_cons_succ, List.getElem?_cons_zero]; exact rfl)); (case an174 => kernel_rfl); (case bn174 => kernel_rfl); (case cn174 => kernel_rfl); (case qn174 => exact fun _ _ _ h => h); (case dn174 => rfl); (try simp only [Act.put, List.setIfInBounds_toArray, List.set_cons_zero, List.set_cons_succ])
                                refine wpAnyH_take (i := 8) (oi := ?on175) ?hin175 ?an175 ?bn175 ?cn175 ?qn175 (Or.inr ⟨?dn175, rfl⟩) hHeld ?restn175; (case hin175 => (simp only [List.getElem?_toArray, List.getElem?_cons_succ, List.getElem?_cons_zero]; exact rfl)); (case an175 => kernel_rfl); (case bn175 => kernel_rfl); (case cn175 => kernel_rfl); (case qn175 => exact fun _ _ _ h => h); (case dn175 => rfl); (try simp only [Act.put, List.setIfInBounds_toArray, List.set_cons_zero, List.set_cons_succ])
                                refine wpAnyH_take (i := 9) (oi := ?on176) ?hin176 ?an176 ?bn176 ?cn176 ?qn176 (Or.inr ⟨?dn176, rfl⟩) hHeld ?restn176; (case hin176 => (simp only [List.getElem?_toArray, List.getElem?_cons_succ, List.getElem?_cons_zero]; exact rfl)); (case an176 => kernel_rfl); (case bn176 => kernel_rfl); (case cn176 => kernel_rfl); (case qn176 => exact fun _ _ _ h => h); (case dn176 => rfl); (try simp only [Act.put, List.setIfInBounds_toArray, List.set_cons_zero, List.set_cons_succ])
                                refine wpAnyH_take (i := 10) (oi := ?on177) ?hin177 ?an177 ?bn177 ?cn177 ?qn177 (Or.inr ⟨?dn177, rfl⟩) hHeld ?restn177; (case hin177 => (simp only [List.getElem?_toArray, List.getElem?_cons_succ, List.getElem?_cons_zero]; exact rfl)); (case an177 => kernel_rfl); (case bn177 => kernel_rfl); (case cn177 => kernel_rfl); (case qn177 => exact fun _ _ _ h => h); (case dn177 => rfl); (try simp only [Act.put, List.setIfInBounds_toArray, List.set_cons_zero, List.set_cons_succ])
                                refine wpAnyH_take (i := 11) (oi := ?on178) ?hin178 ?an178 ?bn178 ?cn178 ?qn178 (Or.inr ⟨?dn178, rfl⟩) hHeld ?restn178; (case hin178 => (simp only [List.getElem?_toArray, List.getElem?_cons_succ, List.getElem?_cons_zero]; exact rfl)); (case an178 => kernel_rfl); (case bn178 => kernel_rfl); (case cn178 => kernel_rfl); (case qn178 => exact fun _ _ _ h => h); (case dn178 => rfl); (try simp only [Act.put, List.setIfInBounds_toArray, List.set_cons_zero, List.set_cons_succ])
                                refine wpAnyH_take (i := 12) (oi := ?on179) ?hin179 ?an179 ?bn179 ?cn179 ?qn179 (Or.inr ⟨?dn179, rfl⟩) hHeld ?restn179; (case hin179 => (simp only [List.getElem?_toArray, List.getElem?_cons_succ, List.getElem?_cons_zero]; exact rfl)); (case an179 => kernel_rfl); (case bn179 => kernel_rfl); (case cn179 => kernel_rfl); (case qn179 => exact fun _ _ _ h => h); (case dn179 => rfl); (try simp only [Act.put, List.setIfInBounds_toArray, List.set_cons_zero, List.set_cons_succ])
                                refine wpAnyH_take (i := 13) (oi := ?on180) (v := ?vn180) ?hin180 ?an180 ?bn180 ?cn180 ?qn180 (Or.inl ⟨?dn180, ?hyn180⟩) hHeld ?restn180; (case hin180 => (simp only [List.getElem?_toArray, List.getElem?_cons_succ, List.getElem?_cons_zero]; exact rfl)); (case an180 => kernel_rfl); (case bn180 => kernel_rfl); (case cn180 => kernel_rfl); (case qn180 => exact fun _ _ _ h => h); (case dn180 => rfl); (case hyn180 => (intro z hSw; (try dsimp only at hSw); go_simp; (try with_reducible rfl))); (try simp only [Act.put, List.setIfInBounds_toArray, List.set_cons_zero, List.set_cons_succ])
                                refine wpAnyH_take (i := 14) (oi := ?on181) (v := ?vn181) ?hin181 ?an181 ?bn181 ?cn181 ?qn181 (Or.inl ⟨?dn181, ?hyn181⟩) hHeld ?restn181; (case hin181 => (simp only [List.getElem?_toArray, List.getElem?_cons_succ, List.getElem?_cons_zero]; exact rfl)); (case an181 => kernel_rfl); (case bn181 => kernel_rfl); (case cn181 => kernel_rfl); (case qn181 => exact fun _ _ _ h => h); (case dn181 => rfl); (case hyn181 => (intro z hSw; (try dsimp only at hSw); go_simp; (try with_reducible rfl))); (try simp only [Act.put, List.setIfInBounds_toArray, List.set_cons_zero, List.set_cons_succ])
                                refine wpAnyH_take (i := 15) (oi := ?on182) (v := ?vn182) ?hin182 ?an182 ?bn182 ?cn182 ?qn182 (Or.inl ⟨?dn182, ?hyn182⟩) hHeld ?restn182; (case hin182 => (simp only [List.getElem?_toArray, List.getElem?_cons_succ, List.getElem?_cons_zero]; exact rfl)); (case an182 => kernel_rfl); (case bn182 => kernel_rfl); (case cn182 => kernel_rfl); (case qn182 => exact fun _ _ _ h => h); (case dn182 => rfl); (case hyn182 => (intro z hSw; (try dsimp only at hSw); go_simp; (try with_reducible rfl))); (try simp only [Act.put, List.setIfInBounds_toArray, List.set_cons_zero, List.set_cons_succ])
                                refine wpAnyH_take (i := 16) (oi := ?on183) (v := ?vn183) ?hin183 ?an183 ?bn183 ?cn183 ?qn183 (Or.inl ⟨?dn183, ?hyn183⟩) hHeld ?restn183; (case hin183 => (simp only [List.getElem?_toArray, List.getElem?_cons_succ, List.getElem?_cons_zero]; exact rfl)); (case an183 => kernel_rfl); (case bn183 => kernel_rfl); (case cn183 => kernel_rfl); (case qn183 => exact fun _ _ _ h => h); (case dn183 => rfl); (case hyn183 => (intro z hSw; (try dsimp only at hSw); go_simp; (try with_reducible rfl))); (try simp only [Act.put, List.setIfInBounds_toArray, List.set_cons_zero, List.set_cons_succ])
                                refine wpAnyH_take (i := 17) (oi := ?on184) (v := ?vn184) ?hin184 ?an184 ?bn184 ?cn184 ?qn184 (Or.inl ⟨?dn184, ?hyn184⟩) hHeld ?restn184; (case hin184 => (simp only [List.getElem?_toArray, List.getElem?_cons_succ, List.getElem?_cons_zero]; exact rfl)); (case an184 => kernel_rfl); (case bn184 => kernel_rfl); (case cn184 => kernel_rfl); (case qn184 => exact fun _ _ _ h => h); (case dn184 => rfl); (case hyn184 => (intro z hSw; (try dsimp only at hSw); go_simp; (try with_reducible rfl))); (try simp only [Act.put, List.setIfInBounds_toArray, List.set_cons_zero, List.set_cons_succ])
                                refine wpAnyH_take (i := 18) (oi := ?on185) (v := ?vn185) ?hin185 ?an185 ?bn185 ?cn185 ?qn185 (Or.inl ⟨?dn185, ?hyn185⟩) hHeld ?restn185; (case hin185 => (simp only [List.getElem?_toArray, List.getElem?_cons_succ, List.getElem?_cons_zero]; exact rfl)); (case an185 => kernel_rfl); (case bn185 => kernel_rfl); (case cn185 => kernel_rfl); (case qn185 => exact fun _ _ _ h => h); (case dn185 => rfl); (case hyn185 => (intro z hSw; (try dsimp only at hSw); go_simp; (try with_reducible rfl))); (try simp only [Act.put, List.setIfInBounds_toArray, List.set_cons_zero, List.set_cons_succ])
                                refine wpAnyH_take (i := 19) (oi := ?on186) (v := ?vn186) ?hin186 ?an186 ?bn186 ?cn186 ?qn186 (Or.inl ⟨?dn186, ?hyn186⟩) hHeld ?restn186; (case hin186 => (simp only [List.getElem?_toArray, List.getElem?_cons_succ, List.getElem?_cons_zero]; exact rfl)); (case an186 => kernel_rfl); (case bn186 => kernel_rfl); (case cn186 => kernel_rfl); (case qn186 => exact fun _ _ _ h => h); (case dn186 => rfl); (case hyn186 => (intro z hSw; (try dsimp only at hSw); go_simp; (try with_reducible rfl))); (try simp only [Act.put, List.setIfInBounds_toArray, List.set_cons_zero, List.set_cons_succ])
                                refine wpAnyH_take (i := 20) (oi := ?on187) (v := ?vn187) ?hin187 ?an187 ?bn187 ?cn187 ?qn187 (Or.inl ⟨?dn187, ?hyn187⟩) hHeld ?restn187; (case hin187 => (simp only [List.getElem?_toArray, List.getElem?_cons_succ, List.getElem?_cons_zero]; exact rfl)); (case an187 => kernel_rfl); (case bn187 => kernel_rfl); (case cn187 => kernel_rfl); (case qn187 => exact fun _ _ _ h => h); (case dn187 => rfl); (case hyn187 => (intro z hSw; (try dsimp only at hSw); go_simp; (try with_reducible rfl))); (try simp only [Act.put, List.setIfInBounds_toArray, List.set_cons_zero, List.set_cons_succ])
                                refine wpAnyH_take (i := 21) (oi := ?on188) (v := ?vn188) ?hin188 ?an188 ?bn188 ?cn188 ?qn188 (Or.inl ⟨?dn188, ?hyn188⟩) hHeld ?restn188; (case hin188 => (simp only [List.getElem?_toArray, List.getElem?_cons_succ, List.getElem?_cons_zero]; exact rfl)); (case an188 => kernel_rfl); (case bn188 => kernel_rfl); (case cn188 => kernel_rfl); (case qn188 => exact fun _ _ _ h => h); (case dn188 => rfl); (case hyn188 => (intro z hSw; (try dsimp only at hSw); go_simp; (try with_reducible rfl))); (try simp only [Act.put, List.setIfInBounds_toArray, List.set_cons_zero, List.set_cons_succ])
                                refine wpAnyH_take (i := 22) (oi := ?on189) (v := ?vn189) ?hin189 ?an189 ?bn189 ?cn189 ?qn189 (Or.inl ⟨?dn189, ?hyn189⟩) hHeld ?restn189; (case hin189 => (simp only [List.getElem?_toArray, List.getElem?_cons_succ, List.getElem?_cons_zero]; exact rfl)); (case an189 => kernel_rfl); (case bn189 => kernel_rfl); (case cn189 => kernel_rfl); (case qn189 => exact fun _ _ _ h => h); (case dn189 => rfl); (case hyn189 => (intro z hSw; (try dsimp only at hSw); go_simp; (try with_reducible rfl))); (try simp only [Act.put, List.setIfInBounds_toArray, List.set_cons_zero, List.set_cons_succ])
                                refine wpAnyH_ready (rs := [23]) (by kernel_rfl) (by simp) ?_
                                refine AllReadyH.cons (o := ?on190) ?hin190 ?restn190 AllReadyH.nil
                                case hin190 => (simp only [List.getElem?_toArray, List.getElem?_cons_succ, List.getElem?_cons_zero]; exact rfl)
                                intro K hK
                                go_simp
                                go_at_call 139
                                refine (hkq.out _).mono ?_
                                rintro e w5 ⟨rfl, hw5⟩
                                subst hw5
                                refine hK.out _ _ ?_ (fun hHeld => ?_)
                                · (try dsimp only); first | with_reducible assumption | exact Grew.alloc ‹_› _
                                clear hK K
                                try simp only [Act.put, List.setIfInBounds_toArray, List.set_cons_zero, List.set_cons_succ]
                                refine wpAnyH_take (i := 24) (oi := ?on191) (v := ?vn191) ?hin191 ?an191 ?bn191 ?cn191 ?qn191 (Or.inl ⟨?dn191, ?hyn191⟩) hHeld ?restn191; (case hin191 => (simp only [List.getElem?_toArray, List.getElem?_cons_succ, List.getElem?_cons_zero]; exact rfl)); (case an191 => kernel_rfl); (case bn191 => kernel_rfl); (case cn191 => kernel_rfl); (case qn191 => exact fun _ _ _ h => h); (case dn191 => rfl); (case hyn191 => (intro z hSw; (try dsimp only at hSw); go_simp; (try with_reducible rfl))); (try simp only [Act.put, List.setIfInBounds_toArray, List.set_cons_zero, List.set_cons_succ])
                                refine wpAnyH_take (i := 25) (oi := ?on192) (v := ?vn192) ?hin192 ?an192 ?bn192 ?cn192 ?qn192 (Or.inl ⟨?dn192, ?hyn192⟩) hHeld ?restn192; (case hin192 => (simp only [List.getElem?_toArray, List.getElem?_cons_succ, List.getElem?_cons_zero]; exact rfl)); (case an192 => kernel_rfl); (case bn192 => kernel_rfl); (case cn192 => kernel_rfl); (case qn192 => exact fun _ _ _ h => h); (case dn192 => rfl); (case hyn192 => (intro z hSw; (try dsimp only at hSw); go_simp; (try with_reducible rfl))); (try simp only [Act.put, List.setIfInBounds_toArray, List.set_cons_zero, List.set_cons_succ])
                                refine wpAnyH_take (i := 26) (oi := ?on193) (v := ?vn193) ?hin193 ?an193 ?bn193 ?cn193 ?qn193 (Or.inl ⟨?dn193, ?hyn193⟩) hHeld ?restn193; (case hin193 => (simp only [List.getElem?_toArray, List.getElem?_cons_succ, List.getElem?_cons_zero]; exact rfl)); (case an193 => kernel_rfl); (case bn193 => kernel_rfl); (case cn193 => kernel_rfl); (case qn193 => exact fun _ _ _ h => h); (case dn193 => rfl); (case hyn193 => (intro z hSw; (try dsimp only at hSw); go_simp; (try with_reducible rfl))); (try simp only [Act.put, List.setIfInBounds_toArray, List.set_cons_zero, List.set_cons_succ])
                                refine wpAnyH_take (i := 27) (oi := ?on194) (v := ?vn194) ?hin194 ?an194 ?bn194 ?cn194 ?qn194 (Or.inl ⟨?dn194, ?hyn194⟩) hHeld ?restn194; (case hin194 => (simp only [List.getElem?_toArray, List.getElem?_cons_succ, List.getElem?_cons_zero]; exact rfl)); (case an194 => kernel_rfl); (case bn194 => kernel_rfl); (case cn194 => kernel_rfl); (case qn194 => exact fun _ _ _ h => h); (case dn194 => rfl); (case hyn194 => (intro z hSw; (try dsimp only at hSw); go_simp; (try with_reducible rfl))); (try simp only [Act.put, List.setIfInBounds_toArray, List.set_cons_zero, List.set_cons_succ])
                                refine wpAnyH_take (i := 28) (oi := ?on195) (v := ?vn195) ?hin195 ?an195 ?bn195 ?cn195 ?qn195 (Or.inl ⟨?dn195, ?hyn195⟩) hHeld ?restn195; (case hin195 => (simp only [List.getElem?_toArray, List.getElem?_cons_succ, List.getElem?_cons_zero]; exact rfl)); (case an195 => kernel_rfl); (case bn195 => kernel_rfl); (case cn195 => kernel_rfl); (case qn195 => exact fun _ _ _ h => h); (case dn195 => rfl); (case hyn195 => (intro z hSw; (try dsimp only at hSw); go_simp; (try with_reducible rfl))); (try simp only [Act.put, List.setIfInBounds_toArray, List.set_cons_zero, List.set_cons_succ])
                                refine wpAnyH_take (i := 29) (oi := ?on196) (v := ?vn196) ?hin196 ?an196 ?bn196 ?cn196 ?qn196 (Or.inl ⟨?dn196, ?hyn196⟩) hHeld ?restn196; (case hin196 => (simp only [List.getElem?_toArray, List.getElem?_cons_succ, List.getElem?_cons_zero]; exact rfl)); (case an196 => kernel_rfl); (case bn196 => kernel_rfl); (case cn196 => kernel_rfl); (case qn196 => exact fun _ _ _ h => h); (case dn196 => rfl); (case hyn196 => (intro z hSw; (try dsimp only at hSw); go_simp; (try with_reducible rfl))); (try simp only [Act.put, List.setIfInBounds_toArray, List.set_cons_zero, List.set_cons_succ])
                                refine wpAnyH_take (i := 30) (oi := ?on197) (v := ?vn197) ?hin197 ?an197 ?bn197 ?cn197 ?qn197 (Or.inl ⟨?dn197, ?hyn197⟩) hHeld ?restn197; (case hin197 => (simp only [List.getElem?_toArray, List.getElem?_cons_succ, List.getElem?_cons_zero]; exact rfl)); (case an197 => kernel_rfl); (case bn197 => kernel_rfl); (case cn197 => kernel_rfl); (case qn197 => exact fun _ _ _ h => h); (case dn197 => rfl); (case hyn197 => (intro z hSw; (try dsimp only at hSw); go_simp; (try with_reducible rfl))); (try simp only [Act.put, List.setIfInBounds_toArray, List.set_cons_zero, List.set_cons_succ])
                                refine wpAnyH_take (i := 31) (oi := ?on198) (v := ?vn198) ?hin198 ?an198 ?bn198 ?cn198 ?qn198 (Or.inl ⟨?dn198, ?hyn198⟩) hHeld ?restn198; (case hin198 => (simp only [List.getElem?_toArray, List.getElem?_cons_succ, List.getElem?_cons_zero]; exact rfl)); (case an198 => kernel_rfl); (case bn198 => kernel_rfl); (case cn198 => kernel_rfl); (case qn198 => exact fun _ _ _ h => h); (case dn198 => rfl); (case hyn198 => (intro z hSw; (try dsimp only at hSw); go_simp; (try with_reducible rfl))); (try simp only [Act.put, List.setIfInBounds_toArray, List.set_cons_zero, List.set_cons_succ])
                                refine wpAnyH_ready (rs := [32]) (by kernel_rfl) (by simp) ?_
                                refine AllReadyH.cons (o := ?on199) ?hin199 ?restn199 AllReadyH.nil
                                case hin199 => (simp only [List.getElem?_toArray, List.getElem?_cons_succ, List.getElem?_cons_zero]; exact rfl)
                                intro K hK
                                go_simp
                                go_at_call 139
                                refine (hqk.out _).mono ?_
                                rintro e w6 ⟨rfl, hw6⟩
                                subst hw6
                                refine hK.out _ _ ?_ (fun hHeld => ?_)
                                · (try dsimp only); first | with_reducible assumption | exact Grew.alloc ‹_› _
                                clear hK K
                                try simp only [Act.put, List.setIfInBounds_toArray, List.set_cons_zero, List.set_cons_succ]
                                refine wpAnyH_take (i := 33) (oi := ?on200) (v := ?vn200) ?hin200 ?an200 ?bn200 ?cn200 ?qn200 (Or.inl ⟨?dn200, ?hyn200⟩) hHeld ?restn200; (case hin200 => (simp only [List.getElem?_toArray, List.getElem?_cons_succ, List.getElem?_cons_zero]; exact rfl)); (case an200 => kernel_rfl); (case bn200 => kernel_rfl); (case cn200 => kernel_rfl); (case qn200 => exact fun _ _ _ h => h); (case dn200 => rfl); (case hyn200 => (intro z hSw; (try dsimp only at hSw); go_simp; (try with_reducible rfl))); (try simp only [Act.put, List.setIfInBounds_toArray, List.set_cons_zero, List.set_cons_succ])
                                refine wpAnyH_take (i := 34) (oi := ?on201) (v := ?vn201) ?hin201 ?an201 ?bn201 ?cn201 ?qn201 (Or.inl ⟨?dn201, ?hyn201⟩) hHeld ?restn201; (case hin201 => (simp only [List.getElem?_toArray, List.getElem?_cons_succ, List.getElem?_cons_zero]; exact rfl)); (case an201 => kernel_rfl); (case bn201 => kernel_rfl); (case cn201 => kernel_rfl); (case qn201 => exact fun _ _ _ h => h); (case dn201 => rfl); (case hyn201 => (intro z hSw; (try dsimp only at hSw); go_simp; (try with_reducible rfl))); (try simp only [Act.put, List.setIfInBounds_toArray, List.set_cons_zero, List.set_cons_succ])
                                refine wpAnyH_take (i := 35) (oi := ?on202) (v := ?vn202) ?hin202 ?an202 ?bn202 ?cn202 ?qn202 (Or.inl ⟨?dn202, ?hyn202⟩) hHeld ?restn202; (case hin202 => (simp only [List.getElem?_toArray, List.getElem?_cons_succ, List.getElem?_cons_zero]; exact rfl)); (case an202 => kernel_rfl); (case bn202 => kernel_rfl); (case cn202 => kernel_rfl); (case qn202 => exact fun _ _ _ h => h); (case dn202 => rfl); (case hyn202 => (intro z hSw; (try dsimp only at hSw); go_simp; (try with_reducible rfl))); (try simp only [Act.put, List.setIfInBounds_toArray, List.set_cons_zero, List.set_cons_succ])
                                refine wpAnyH_done (by kernel_rfl) ?_ _
                                go_wp2_with fail
                                go_roundw
                                case rel => exact ⟨q + 1, by omega, by go_num, hZd, hqs⟩
                                case measure => simp [intOf]; omega
                            | false =>
                              as_aux_lemma =>
                                rw [htA, htB] at hfz
                                rw [htA] at hkq
                                rw [htB] at hqk
                                have hv := Lib.hid (hA3.out (HZZ.out.trans hfz))
                                clear hfz htA htB hb3
                                generalize nt A k = mk1 at *
                                generalize nt A q = mq1 at *
                                refine wp_region_held_drew (S := fun w' => Grew w1 w') (by kernel_rfl) hZd (fun hHeld => ?_)
                                refine wpAnyH_take (i := 0) (oi := ?on203) (v := ?vn203) ?hin203 ?an203 ?bn203 ?cn203 ?qn203 (Or.inl ⟨?dn203, ?hyn203⟩) hHeld ?restn203; (case hin203 => (simp only [List.getElem?_toArray, List.getElem?_cons_zero]; exact rfl)); (case an203 => kernel_rfl); (case bn203 => kernel_rfl); (case cn203 => kernel_rfl); (case qn203 => exact fun _ _ _ h => h); (case dn203 => rfl); (case hyn203 => (intro z hSw; (try dsimp only at hSw); go_simp; (try with_reducible rfl))); (try simp only [Act.put, List.setIfInBounds_toArray, List.set_cons_zero, List.set_cons_succ])
                                refine wpAnyH_take (i := 1) (oi := ?on204) (v := ?vn204) ?hin204 ?an204 ?bn204 ?cn204 ?qn204 (Or.inl ⟨?dn204, ?hyn204⟩) hHeld ?restn204; (case hin204 => (simp only [List.getElem?_toArray, List.getElem?_cons_succ, List.getElem?_cons_zero]; exact rfl)); (case an204 => kernel_rfl); (case bn204 => kernel_rfl); (case cn204 => kernel_rfl); (case qn204 => exact fun _ _ _ h => h); (case dn204 => rfl); (case hyn204 => (intro z hSw; (try dsimp only at hSw); go_simp; (try with_reducible rfl))); (try simp only [Act.put, List.setIfInBounds_toArray, List.set_cons_zero, List.set_cons_succ])
                                refine wpAnyH_take (i := 2) (oi := ?on205) (v := ?vn205) ?hin205 ?an205 ?bn205 ?cn205 ?qn205 (Or.inl ⟨?dn205, ?hyn205⟩) hHeld ?restn205; (case hin205 => (simp only [List.getElem?_toArray, List.getElem?_cons_succ, List.getElem?_cons_zero]; exact rfl)); (case an205 => kernel_rfl); (case bn205 => kernel_rfl); (case cn205 => kernel_rfl); (case qn205 => exact fun _ _ _ h => h); (case dn205 => rfl); (case hyn205 => (intro z hSw; (try dsimp only at hSw); go_simp; (try with_reducible rfl))); (try simp only [Act.put, List.setIfInBounds_toArray, List.set_cons_zero, List.set_cons_succ])
                                refine wpAnyH_take (i := 3) (oi := ?on206) ?hin206 ?an206 ?bn206 ?cn206 ?qn206 (Or.inr ⟨?dn206, rfl⟩) hHeld ?restn206; (case hin206 => (simp only [List.getElem?_toArray, List.getElem?_cons_succ, List.getElem?_cons_zero]; exact rfl)); (case an206 => kernel_rfl); (case bn206 => kernel_rfl); (case cn206 => kernel_rfl); (case qn206 => exact fun _ _ _ h => h); (case dn206 => rfl); (try simp only [Act.put, List.setIfInBounds_toArray, List.set_cons_zero, List.set_cons_succ])
                                refine wpAnyH_take (i := 4) (oi := ?on207) ?hin207 ?an207 ?bn207 ?cn207 ?qn207 (Or.inr ⟨?dn207, rfl⟩) hHeld ?restn207; (case hin207 => (simp only [List.getElem?_toArray, List.getElem?_cons_succ, List.getElem?_cons_zero]; exact rfl)); (case an207 => kernel_rfl); (case bn207 => kernel_rfl); (case cn207 => kernel_rfl); (case qn207 => exact fun _ _ _ h => h); (case dn207 => rfl); (try simp only [Act.put, List.setIfInBounds_toArray, List.set_cons_zero, List.set_cons_succ])
                                refine wpAnyH_take (i := 5) (oi := ?on208) ?hin208 ?an208 ?bn208 ?cn208 ?qn208 (Or.inr ⟨?dn208, rfl⟩) hHeld ?restn208; (case hin208 => (simp only [List.getElem?_toArray, List.getElem?_cons_succ, List.getElem?_cons_zero]; exact rfl)); (case an208 => kernel_rfl); (case bn208 => kernel_rfl); (case cn208 => kernel_rfl); (case qn208 => exact fun _ _ _ h => h); (case dn208 => rfl); (try simp only [Act.put, List.setIfInBounds_toArray, List.set_cons_zero, List.set_cons_succ])
                                refine wpAnyH_take (i := 6) (oi := ?on209) ?hin209 ?an209 ?bn209 ?cn209 ?qn209 (Or.inr ⟨?dn209, rfl⟩) hHeld ?restn209; (case hin209 => (simp only [List.getElem?_toArray, List.getElem?_cons_succ, List.getElem?_cons_zero]; exact rfl)); (case an209 => kernel_rfl); (case bn209 => kernel_rfl); (case cn209 => kernel_rfl); (case qn209 => exact fun _ _ _ h => h); (case dn209 => rfl); (try simp only [Act.put, List.setIfInBounds_toArray, List.set_cons_zero, List.set_cons_succ])
                                refine wpAnyH_take (i := 7) (oi := ?on210) ?hin210 ?an210 ?bn210 ?cn210 ?qn210 (Or.inr ⟨?dn210, rfl⟩) hHeld ?restn210; (case hin210 => (simp only [List.getElem?_toArray, List.getElem?_cons_succ, List.getElem?_cons_zero]; exact rfl)); (case an210 => kernel_rfl); (case bn210 => kernel_rfl); (case cn210 => kernel_rfl); (case qn210 => exact fun _ _ _ h => h); (case dn210 => rfl); (try simp only [Act.put, List.setIfInBounds_toArray, List.set_cons_zero, List.set_cons_succ])
                                refine wpAnyH_take (i := 8) (oi := ?on211) ?hin211 ?an211 ?bn211 ?cn211 ?qn211 (Or.inr ⟨?dn211, rfl⟩) hHeld ?restn211; (case hin211 => (simp only [List.getElem?_toArray, List.getElem?_cons_succ, List.getElem?_cons_zero]; exact rfl)); (case an211 => kernel_rfl); (case bn211 => kernel_rfl); (case cn211 => kernel_rfl); (case qn211 => exact fun _ _ _ h => h); (case dn211 => rfl); (try simp only [Act.put, List.setIfInBounds_toArray, List.set_cons_zero, List.set_cons_succ])
                                refine wpAnyH_take (i := 9) (oi := ?on212) ?hin212 ?an212 ?bn212 ?cn212 ?qn212 (Or.inr ⟨?dn212, rfl⟩) hHeld ?restn212; (case hin212 => (simp only [List.getElem?_toArray, List.getElem?_cons_succ, List.getElem?_cons_zero]; exact rfl)); (case an212 => kernel_rfl); (case bn212 => kernel_rfl); (case cn212 => kernel_rfl); (case qn212 => exact fun _ _ _ h => h); (case dn212 => rfl); (try simp only [Act.put, List.setIfInBounds_toArray, List.set_cons_zero, List.set_cons_succ])
                                refine wpAnyH_take (i := 10) (oi := ?on213) ?hin213 ?an213 ?bn213 ?cn213 ?qn213 (Or.inr ⟨?dn213, rfl⟩) hHeld ?restn213; (case hin213 => (simp only [List.getElem?_toArray, List.getElem?_cons_succ, List.getElem?_cons_zero]; exact rfl)); (case an213 => kernel_rfl); (case bn213 => kernel_rfl); (case cn213 => kernel_rfl); (case qn213 => exact fun _ _ _ h => h); (case dn213 => rfl); (try simp only [Act.put, List.setIfInBounds_toArray, List.set_cons_zero, List.set_cons_succ])
                                refine wpAnyH_take (i := 11) (oi := ?on214) ?hin214 ?an214 ?bn214 ?cn214 ?qn214 (Or.inr ⟨?dn214, rfl⟩) hHeld ?restn214; (case hin214 => (simp only [List.getElem?_toArray, List.getElem?_cons_succ, List.getElem?_cons_zero]; exact rfl)); (case an214 => kernel_rfl); (case bn214 => kernel_rfl); (case cn214 => kernel_rfl); (case qn214 => exact fun _ _ _ h => h); (case dn214 => rfl); (try simp only [Act.put, List.setIfInBounds_toArray, List.set_cons_zero, List.set_cons_succ])
                                refine wpAnyH_take (i := 12) (oi := ?on215) ?hin215 ?an215 ?bn215 ?cn215 ?qn215 (Or.inr ⟨?dn215, rfl⟩) hHeld ?restn215; (case hin215 => (simp only [List.getElem?_toArray, List.getElem?_cons_succ, List.getElem?_cons_zero]; exact rfl)); (case an215 => kernel_rfl); (case bn215 => kernel_rfl); (case cn215 => kernel_rfl); (case qn215 => exact fun _ _ _ h => h); (case dn215 => rfl); (try simp only [Act.put, List.setIfInBounds_toArray, List.set_cons_zero, List.set_cons_succ])
                                refine wpAnyH_take (i := 13) (oi := ?on216) (v := ?vn216) ?hin216 ?an216 ?bn216 ?cn216 ?qn216 (Or.inl ⟨?dn216, ?hyn216⟩) hHeld ?restn216; (case hin216 => (simp only [List.getElem?_toArray, List.getElem?_cons_succ, List.getElem?_cons_zero]; exact rfl)); (case an216 => kernel_rfl); (case bn216 => kernel_rfl); (case cn216 => kernel_rfl); (case qn216 => exact fun _ _ _ h => h); (case dn216 => rfl); (case hyn216 => (intro z hSw; (try dsimp only at hSw); go_simp; (try with_reducible rfl))); (try simp only [Act.put, List.setIfInBounds_toArray, List.set_cons_zero, List.set_cons_succ])
                                refine wpAnyH_take (i := 14) (oi := ?on217) (v := ?vn217) ?hin217 ?an217 ?bn217 ?cn217 ?qn217 (Or.inl ⟨?dn217, ?hyn217⟩) hHeld ?restn217; (case hin217 => (simp only [List.getElem?_toArray, List.getElem?_cons_succ, List.getElem?_cons_zero]; exact rfl)); (case an217 => kernel_rfl); (case bn217 => kernel_rfl); (case cn217 => kernel_rfl); (case qn217 => exact fun _ _ _ h => h); (case dn217 => rfl); (case hyn217 => (intro z hSw; (try dsimp only at hSw); go_simp; (try with_reducible rfl))); (try simp only [Act.put, List.setIfInBounds_toArray, List.set_cons_zero, List.set_cons_succ])
                                refine wpAnyH_take (i := 15) (oi := ?on218) (v := ?vn218) ?hin218 ?an218 ?bn218 ?cn218 ?qn218 (Or.inl ⟨?dn218, ?hyn218⟩) hHeld ?restn218; (case hin218 => (simp only [List.getElem?_toArray, List.getElem?_cons_succ, List.getElem?_cons_zero]; exact rfl)); (case an218 => kernel_rfl); (case bn218 => kernel_rfl); (case cn218 => kernel_rfl); (case qn218 => exact fun _ _ _ h => h); (case dn218 => rfl); (case hyn218 => (intro z hSw; (try dsimp only at hSw); go_simp; (try with_reducible rfl))); (try simp only [Act.put, List.setIfInBounds_toArray, List.set_cons_zero, List.set_cons_succ])
                                refine wpAnyH_take (i := 16) (oi := ?on219) (v := ?vn219) ?hin219 ?an219 ?bn219 ?cn219 ?qn219 (Or.inl ⟨?dn219, ?hyn219⟩) hHeld ?restn219; (case hin219 => (simp only [List.getElem?_toArray, List.getElem?_cons_succ, List.getElem?_cons_zero]; exact rfl)); (case an219 => kernel_rfl); (case bn219 => kernel_rfl); (case cn219 => kernel_rfl); (case qn219 => exact fun _ _ _ h => h); (case dn219 => rfl); (case hyn219 => (intro z hSw; (try dsimp only at hSw); go_simp; (try with_reducible rfl))); (try simp only [Act.put, List.setIfInBounds_toArray, List.set_cons_zero, List.set_cons_succ])
                                refine wpAnyH_take (i := 17) (oi := ?on220) (v := ?vn220) ?hin220 ?an220 ?bn220 ?cn220 ?qn220 (Or.inl ⟨?dn220, ?hyn220⟩) hHeld ?restn220; (case hin220 => (simp only [List.getElem?_toArray, List.getElem?_cons_succ, List.getElem?_cons_zero]; exact rfl)); (case an220 => kernel_rfl); (case bn220 => kernel_rfl); (case cn220 => kernel_rfl); (case qn220 => exact fun _ _ _ h => h); (case dn220 => rfl); (case hyn220 => (intro z hSw; (try dsimp only at hSw); go_simp; (try with_reducible rfl))); (try simp only [Act.put, List.setIfInBounds_toArray, List.set_cons_zero, List.set_cons_succ])
                                refine wpAnyH_take (i := 18) (oi := ?on221) (v := ?vn221) ?hin221 ?an221 ?bn221 ?cn221 ?qn221 (Or.inl ⟨?dn221, ?hyn221⟩) hHeld ?restn221; (case hin221 => (simp only [List.getElem?_toArray, List.getElem?_cons_succ, List.getElem?_cons_zero]; exact rfl)); (case an221 => kernel_rfl); (case bn221 => kernel_rfl); (case cn221 => kernel_rfl); (case qn221 => exact fun _ _ _ h => h); (case dn221 => rfl); (case hyn221 => (intro z hSw; (try dsimp only at hSw); go_simp; (try with_reducible rfl))); (try simp only [Act.put, List.setIfInBounds_toArray, List.set_cons_zero, List.set_cons_succ])
                                refine wpAnyH_take (i := 19) (oi := ?on222) (v := ?vn222) ?hin222 ?an222 ?bn222 ?cn222 ?qn222 (Or.inl ⟨?dn222, ?hyn222⟩) hHeld ?restn222; (case hin222 => (simp only [List.getElem?_toArray, List.getElem?_cons_succ, List.getElem?_cons_zero]; exact rfl)); (case an222 => kernel_rfl); (case bn222 => kernel_rfl); (case cn222 => kernel_rfl); (case qn222 => exact fun _ _ _ h => h); (case dn222 => rfl); (case hyn222 => (intro z hSw; (try dsimp only at hSw); go_simp; (try with_reducible rfl))); (try simp only [Act.put, List.setIfInBounds_toArray, List.set_cons_zero, List.set_cons_succ])
                                refine wpAnyH_take (i := 20) (oi := ?on223) (v := ?vn223) ?hin223 ?an223 ?bn223 ?cn223 ?qn223 (Or.inl ⟨?dn223, ?hyn223⟩) hHeld ?restn223; (case hin223 => (simp only [List.getElem?_toArray, List.getElem?_cons_succ, List.getElem?_cons_zero]; exact rfl)); (case an223 => kernel_rfl); (case bn223 => kernel_rfl); (case cn223 => kernel_rfl); (case qn223 => exact fun _ _ _ h => h); (case dn223 => rfl); (case hyn223 => (intro z hSw; (try dsimp only at hSw); go_simp; (try with_reducible rfl))); (try simp only [Act.put, List.setIfInBounds_toArray, List.set_cons_zero, List.set_cons_succ])
                                refine wpAnyH_take (i := 21) (oi := ?on224) (v := ?vn224) ?hin224 ?an224 ?bn224 ?cn224 ?qn224 (Or.inl ⟨?dn224, ?hyn224⟩) hHeld ?restn224; (case hin224 => (simp only [List.getElem?_toArray, List.getElem?_cons_succ, List.getElem?_cons_zero]; exact rfl)); (case an224 => kernel_rfl); (case bn224 => kernel_rfl); (case cn224 => kernel_rfl); (case qn224 => exact fun _ _ _ h => h); (case dn224 => rfl); (case hyn224 => (intro z hSw; (try dsimp only at hSw); go_simp; (try with_reducible rfl))); (try simp only [Act.put, List.setIfInBounds_toArray, List.set_cons_zero, List.set_cons_succ])
                                refine wpAnyH_take (i := 22) (oi := ?on225) (v := ?vn225) ?hin225 ?an225 ?bn225 ?cn225 ?qn225 (Or.inl ⟨?dn225, ?hyn225⟩) hHeld ?restn225; (case hin225 => (simp only [List.getElem?_toArray, List.getElem?_cons_succ, List.getElem?_cons_zero]; exact rfl)); (case an225 => kernel_rfl); (case bn225 => kernel_rfl); (case cn225 => kernel_rfl); (case qn225 => exact fun _ _ _ h => h); (case dn225 => rfl); (case hyn225 => (intro z hSw; (try dsimp only at hSw); go_simp; (try with_reducible rfl))); (try simp only [Act.put, List.setIfInBounds_toArray, List.set_cons_zero, List.set_cons_succ])
                                refine wpAnyH_ready (rs := [23]) (by kernel_rfl) (by simp) ?_
                                refine AllReadyH.cons (o := ?on226) ?hin226 ?restn226 AllReadyH.nil
                                case hin226 => (simp only [List.getElem?_toArray, List.getElem?_cons_succ, List.getElem?_cons_zero]; exact rfl)
                                intro K hK
                                go_simp
                                go_at_call 139
                                refine (hkq.out _).mono ?_
                                rintro e w5 ⟨rfl, hw5⟩
                                subst hw5
                                refine hK.out _ _ ?_ (fun hHeld => ?_)
                                · (try dsimp only); first | with_reducible assumption | exact Grew.alloc ‹_› _
                                clear hK K
                                try simp only [Act.put, List.setIfInBounds_toArray, List.set_cons_zero, List.set_cons_succ]
                                refine wpAnyH_take (i := 24) (oi := ?on227) (v := ?vn227) ?hin227 ?an227 ?bn227 ?cn227 ?qn227 (Or.inl ⟨?dn227, ?hyn227⟩) hHeld ?restn227; (case hin227 => (simp only [List.getElem?_toArray, List.getElem?_cons_succ, List.getElem?_cons_zero]; exact rfl)); (case an227 => kernel_rfl); (case bn227 => kernel_rfl); (case cn227 => kernel_rfl); (case qn227 => exact fun _ _ _ h => h); (case dn227 => rfl); (case hyn227 => (intro z hSw; (try dsimp only at hSw); go_simp; (try with_reducible rfl))); (try simp only [Act.put, List.setIfInBounds_toArray, List.set_cons_zero, List.set_cons_succ])
                                refine wpAnyH_take (i := 25) (oi := ?on228) (v := ?vn228) ?hin228 ?an228 ?bn228 ?cn228 ?qn228 (Or.inl ⟨?dn228, ?hyn228⟩) hHeld ?restn228; (case hin228 => (simp only [List.getElem?_toArray, List.getElem?_cons_succ, List.getElem?_cons_zero]; exact rfl)); (case an228 => kernel_rfl); (case bn228 => kernel_rfl); (case cn228 => kernel_rfl); (case qn228 => exact fun _ _ _ h => h); (case dn228 => rfl); (case hyn228 => (intro z hSw; (try dsimp only at hSw); go_simp; (try with_reducible rfl))); (try simp only [Act.put, List.setIfInBounds_toArray, List.set_cons_zero, List.set_cons_succ])
                                refine wpAnyH_take (i := 26) (oi := ?on229) (v := ?vn229) ?hin229 ?an229 ?bn229 ?cn229 ?qn229 (Or.inl ⟨?dn229, ?hyn229⟩) hHeld ?restn229; (case hin229 => (simp only [List.getElem?_toArray, List.getElem?_cons_succ, List.getElem?_cons_zero]; exact rfl)); (case an229 => kernel_rfl); (case bn229 => kernel_rfl); (case cn229 => kernel_rfl); (case qn229 => exact fun _ _ _ h => h); (case dn229 => rfl); (case hyn229 => (intro z hSw; (try dsimp only at hSw); go_simp; (try with_reducible rfl))); (try simp only [Act.put, List.setIfInBounds_toArray, List.set_cons_zero, List.set_cons_succ])
                                refine wpAnyH_take (i := 27) (oi := ?on230) (v := ?vn230) ?hin230 ?an230 ?bn230 ?cn230 ?qn230 (Or.inl ⟨?dn230, ?hyn230⟩) hHeld ?restn230; (case hin230 => (simp only [List.getElem?_toArray, List.getElem?_cons_succ, List.getElem?_cons_zero]; exact rfl)); (case an230 => kernel_rfl); (case bn230 => kernel_rfl); (case cn230 => kernel_rfl); (case qn230 => exact fun _ _ _ h => h); (case dn230 => rfl); (case hyn230 => (intro z hSw; (try dsimp only at hSw); go_simp; (try with_reducible rfl))); (try simp only [Act.put, List.setIfInBounds_toArray, List.set_cons_zero, List.set_cons_succ])
                                refine wpAnyH_take (i := 28) (oi := ?on231) (v := ?vn231) ?hin231 ?an231 ?bn231 ?cn231 ?qn231 (Or.inl ⟨?dn231, ?hyn231⟩) hHeld ?restn231; (case hin231 => (simp only [List.getElem?_toArray, List.getElem?_cons_succ, List.getElem?_cons_zero]; exact rfl)); (case an231 => kernel_rfl); (case bn231 => kernel_rfl); (case cn231 => kernel_rfl); (case qn231 => exact fun _ _ _ h => h); (case dn231 => rfl); (case hyn231 => (intro z hSw; (try dsimp only at hSw); go_simp; (try with_reducible rfl))); (try simp only [Act.put, List.setIfInBounds_toArray, List.set_cons_zero, List.set_cons_succ])
                                refine wpAnyH_take (i := 29) (oi := ?on232) (v := ?vn232) ?hin232 ?an232 ?bn232 ?cn232 ?qn232 (Or.inl ⟨?dn232, ?hyn232⟩) hHeld ?restn232; (case hin232 => (simp only [List.getElem?_toArray, List.getElem?_cons_succ, List.getElem?_cons_zero]; exact rfl)); (case an232 => kernel_rfl); (case bn232 => kernel_rfl); (case cn232 => kernel_rfl); (case qn232 => exact fun _ _ _ h => h); (case dn232 => rfl); (case hyn232 => (intro z hSw; (try dsimp only at hSw); go_simp; (try with_reducible rfl))); (try simp only [Act.put, List.setIfInBounds_toArray, List.set_cons_zero, List.set_cons_succ])
                                refine wpAnyH_take (i := 30) (oi := ?on233) (v := ?vn233) ?hin233 ?an233 ?bn233 ?cn233 ?qn233 (Or.inl ⟨?dn233, ?hyn233⟩) hHeld ?restn233; (case hin233 => (simp only [List.getElem?_toArray, List.getElem?_cons_succ, List.getElem?_cons_zero]; exact rfl)); (case an233 => kernel_rfl); (case bn233 => kernel_rfl); (case cn233 => kernel_rfl); (case qn233 => exact fun _ _ _ h => h); (case dn233 => rfl); (case hyn233 => (intro z hSw; (try dsimp only at hSw); go_simp; (try with_reducible rfl))); (try simp only [Act.put, List.setIfInBounds_toArray, List.set_cons_zero, List.set_cons_succ])
                                refine wpAnyH_take (i := 31) (oi := ?on234) (v := ?vn234) ?hin234 ?an234 ?bn234 ?cn234 ?qn234 (Or.inl ⟨?dn234, ?hyn234⟩) hHeld ?restn234; (case hin234 => (simp only [List.getElem?_toArray, List.getElem?_cons_succ, List.getElem?_cons_zero]; exact rfl)); (case an234 => kernel_rfl); (case bn234 => kernel_rfl); (case cn234 => kernel_rfl); (case qn234 => exact fun _ _ _ h => h); (case dn234 => rfl); (case hyn234 => (intro z hSw; (try dsimp only at hSw); go_simp; (try with_reducible rfl))); (try simp only [Act.put, List.setIfInBounds_toArray, List.set_cons_zero, List.set_cons_succ])
                                refine wpAnyH_ready (rs := [32]) (by kernel_rfl) (by simp) ?_
                                refine AllReadyH.cons (o := ?on235) ?hin235 ?restn235 AllReadyH.nil
                                case hin235 => (simp only [List.getElem?_toArray, List.getElem?_cons_succ, List.getElem?_cons_zero]; exact rfl)
                                intro K hK
                                go_simp
                                go_at_call 139
                                refine (hqk.out _).mono ?_
                                rintro e w6 ⟨rfl, hw6⟩
                                subst hw6
                                refine hK.out _ _ ?_ (fun hHeld => ?_)
                                · (try dsimp only); first | with_reducible assumption | exact Grew.alloc ‹_› _
                                clear hK K
                                try simp only [Act.put, List.setIfInBounds_toArray, List.set_cons_zero, List.set_cons_succ]
                                refine wpAnyH_take (i := 33) (oi := ?on236) (v := ?vn236) ?hin236 ?an236 ?bn236 ?cn236 ?qn236 (Or.inl ⟨?dn236, ?hyn236⟩) hHeld ?restn236; (case hin236 => (simp only [List.getElem?_toArray, List.getElem?_cons_succ, List.getElem?_cons_zero]; exact rfl)); (case an236 => kernel_rfl); (case bn236 => kernel_rfl); (case cn236 => kernel_rfl); (case qn236 => exact fun _ _ _ h => h); (case dn236 => rfl); (case hyn236 => (intro z hSw; (try dsimp only at hSw); go_simp; (try with_reducible rfl))); (try simp only [Act.put, List.setIfInBounds_toArray, List.set_cons_zero, List.set_cons_succ])
                                refine wpAnyH_take (i := 34) (oi := ?on237) (v := ?vn237) ?hin237 ?an237 ?bn237 ?cn237 ?qn237 (Or.inl ⟨?dn237, ?hyn237⟩) hHeld ?restn237; (case hin237 => (simp only [List.getElem?_toArray, List.getElem?_cons_succ, List.getElem?_cons_zero]; exact rfl)); (case an237 => kernel_rfl); (case bn237 => kernel_rfl); (case cn237 => kernel_rfl); (case qn237 => exact fun _ _ _ h => h); (case dn237 => rfl); (case hyn237 => (intro z hSw; (try dsimp only at hSw); go_simp; (try with_reducible rfl))); (try simp only [Act.put, List.setIfInBounds_toArray, List.set_cons_zero, List.set_cons_succ])
                                refine wpAnyH_take (i := 35) (oi := ?on238) (v := ?vn238) ?hin238 ?an238 ?bn238 ?cn238 ?qn238 (Or.inl ⟨?dn238, ?hyn238⟩) hHeld ?restn238; (case hin238 => (simp only [List.getElem?_toArray, List.getElem?_cons_succ, List.getElem?_cons_zero]; exact rfl)); (case an238 => kernel_rfl); (case bn238 => kernel_rfl); (case cn238 => kernel_rfl); (case qn238 => exact fun _ _ _ h => h); (case dn238 => rfl); (case hyn238 => (intro z hSw; (try dsimp only at hSw); go_simp; (try with_reducible rfl))); (try simp only [Act.put, List.setIfInBounds_toArray, List.set_cons_zero, List.set_cons_succ])
                                refine wpAnyH_done (by kernel_rfl) ?_ _
                                go_wp2_with fail
                                go_ret
                                exact ⟨by rw [hv.out]; rfl, HG.out.trans hZd⟩
                        · have b6 : ((F : Int) == 6) = false := by simp; omega
                          as_aux_lemma =>
                            have hqs := Lib.hid (hQS.out (HZZ.out.trans (by unfold flZ; rw [if_neg h5, if_neg h6])))
                            clear hkq hqk hb3 hck hcq
                            refine wp_region_held_drew (S := fun w' => Grew w1 w') (by kernel_rfl) hZd (fun hHeld => ?_)
                            refine wpAnyH_take (i := 0) (oi := ?on95) (v := ?vn95) ?hin95 ?an95 ?bn95 ?cn95 ?qn95 (Or.inl ⟨?dn95, ?hyn95⟩) hHeld ?restn95; (case hin95 => (simp only [List.getElem?_toArray, List.getElem?_cons_zero]; exact rfl)); (case an95 => kernel_rfl); (case bn95 => kernel_rfl); (case cn95 => kernel_rfl); (case qn95 => exact fun _ _ _ h => h); (case dn95 => rfl); (case hyn95 => (intro z hSw; (try dsimp only at hSw); go_simp; (try with_reducible rfl))); (try simp only [Act.put, List.setIfInBounds_toArray, List.set_cons_zero, List.set_cons_succ])
                            refine wpAnyH_take (i := 1) (oi := ?on96) (v := ?vn96) ?hin96 ?an96 ?bn96 ?cn96 ?qn96 (Or.inl ⟨?dn96, ?hyn96⟩) hHeld ?restn96; (case hin96 => (simp only [List.getElem?_toArray, List.getElem?_cons_succ, List.getElem?_cons_zero]; exact rfl)); (case an96 => kernel_rfl); (case bn96 => kernel_rfl); (case cn96 => kernel_rfl); (case qn96 => exact fun _ _ _ h => h); (case dn96 => rfl); (case hyn96 => (intro z hSw; (try dsimp only at hSw); go_simp; (try with_reducible rfl))); (try simp only [Act.put, List.setIfInBounds_toArray, List.set_cons_zero, List.set_cons_succ])
                            refine wpAnyH_take (i := 2) (oi := ?on97) (v := ?vn97) ?hin97 ?an97 ?bn97 ?cn97 ?qn97 (Or.inl ⟨?dn97, ?hyn97⟩) hHeld ?restn97; (case hin97 => (simp only [List.getElem?_toArray, List.getElem?_cons_succ, List.getElem?_cons_zero]; exact rfl)); (case an97 => kernel_rfl); (case bn97 => kernel_rfl); (case cn97 => kernel_rfl); (case qn97 => exact fun _ _ _ h => h); (case dn97 => rfl); (case hyn97 => (intro z hSw; (try dsimp only at hSw); go_simp; (try with_reducible rfl))); (try simp only [Act.put, List.setIfInBounds_toArray, List.set_cons_zero, List.set_cons_succ])
                            refine wpAnyH_take (i := 3) (oi := ?on98) ?hin98 ?an98 ?bn98 ?cn98 ?qn98 (Or.inr ⟨?dn98, rfl⟩) hHeld ?restn98; (case hin98 => (simp only [List.getElem?_toArray, List.getElem?_cons_succ, List.getElem?_cons_zero]; exact rfl)); (case an98 => kernel_rfl); (case bn98 => kernel_rfl); (case cn98 => kernel_rfl); (case qn98 => exact fun _ _ _ h => h); (case dn98 => rfl); (try simp only [Act.put, List.setIfInBounds_toArray, List.set_cons_zero, List.set_cons_succ])
                            refine wpAnyH_take (i := 4) (oi := ?on99) ?hin99 ?an99 ?bn99 ?cn99 ?qn99 (Or.inr ⟨?dn99, rfl⟩) hHeld ?restn99; (case hin99 => (simp only [List.getElem?_toArray, List.getElem?_cons_succ, List.getElem?_cons_zero]; exact rfl)); (case an99 => kernel_rfl); (case bn99 => kernel_rfl); (case cn99 => kernel_rfl); (case qn99 => exact fun _ _ _ h => h); (case dn99 => rfl); (try simp only [Act.put, List.setIfInBounds_toArray, List.set_cons_zero, List.set_cons_succ])
                            refine wpAnyH_take (i := 5) (oi := ?on100) ?hin100 ?an100 ?bn100 ?cn100 ?qn100 (Or.inr ⟨?dn100, rfl⟩) hHeld ?restn100; (case hin100 => (simp only [List.getElem?_toArray, List.getElem?_cons_succ, List.getElem?_cons_zero]; exact rfl)); (case an100 => kernel_rfl); (case bn100 => kernel_rfl); (case cn100 => kernel_rfl); (case qn100 => exact fun _ _ _ h => h); (case dn100 => rfl); (try simp only [Act.put, List.setIfInBounds_toArray, List.set_cons_zero, List.set_cons_succ])
                            refine wpAnyH_take (i := 6) (oi := ?on101) ?hin101 ?an101 ?bn101 ?cn101 ?qn101 (Or.inr ⟨?dn101, rfl⟩) hHeld ?restn101; (case hin101 => (simp only [List.getElem?_toArray, List.getElem?_cons_succ, List.getElem?_cons_zero]; exact rfl)); (case an101 => kernel_rfl); (case bn101 => kernel_rfl); (case cn101 => kernel_rfl); (case qn101 => exact fun _ _ _ h => h); (case dn101 => rfl); (try simp only [Act.put, List.setIfInBounds_toArray, List.set_cons_zero, List.set_cons_succ])
                            refine wpAnyH_take (i := 7) (oi := ?on102) ?hin102 ?an102 ?bn102 ?cn102 ?qn102 (Or.inr ⟨?dn102, rfl⟩) hHeld ?restn102; (case hin102 => (simp only [List.getElem?_toArray, List.getElem?_cons_succ, List.getElem?_cons_zero]; exact rfl)); (case an102 => kernel_rfl); (case bn102 => kernel_rfl); (case cn102 => kernel_rfl); (case qn102 => exact fun _ _ _ h => h); (case dn102 => rfl); (try simp only [Act.put, List.setIfInBounds_toArray, List.set_cons_zero, List.set_cons_succ])
                            refine wpAnyH_take (i := 8) (oi := ?on103) ?hin103 ?an103 ?bn103 ?cn103 ?qn103 (Or.inr ⟨?dn103, rfl⟩) hHeld ?restn103; (case hin103 => (simp only [List.getElem?_toArray, List.getElem?_cons_succ, List.getElem?_cons_zero]; exact rfl)); (case an103 => kernel_rfl); (case bn103 => kernel_rfl); (case cn103 => kernel_rfl); (case qn103 => exact fun _ _ _ h => h); (case dn103 => rfl); (try simp only [Act.put, List.setIfInBounds_toArray, List.set_cons_zero, List.set_cons_succ])
                            refine wpAnyH_take (i := 9) (oi := ?on104) ?hin104 ?an104 ?bn104 ?cn104 ?qn104 (Or.inr ⟨?dn104, rfl⟩) hHeld ?restn104; (case hin104 => (simp only [List.getElem?_toArray, List.getElem?_cons_succ, List.getElem?_cons_zero]; exact rfl)); (case an104 => kernel_rfl); (case bn104 => kernel_rfl); (case cn104 => kernel_rfl); (case qn104 => exact fun _ _ _ h => h); (case dn104 => rfl); (try simp only [Act.put, List.setIfInBounds_toArray, List.set_cons_zero, List.set_cons_succ])
                            refine wpAnyH_take (i := 10) (oi := ?on105) ?hin105 ?an105 ?bn105 ?cn105 ?qn105 (Or.inr ⟨?dn105, rfl⟩) hHeld ?restn105; (case hin105 => (simp only [List.getElem?_toArray, List.getElem?_cons_succ, List.getElem?_cons_zero]; exact rfl)); (case an105 => kernel_rfl); (case bn105 => kernel_rfl); (case cn105 => kernel_rfl); (case qn105 => exact fun _ _ _ h => h); (case dn105 => rfl); (try simp only [Act.put, List.setIfInBounds_toArray, List.set_cons_zero, List.set_cons_succ])
                            refine wpAnyH_take (i := 11) (oi := ?on106) ?hin106 ?an106 ?bn106 ?cn106 ?qn106 (Or.inr ⟨?dn106, rfl⟩) hHeld ?restn106; (case hin106 => (simp only [List.getElem?_toArray, List.getElem?_cons_succ, List.getElem?_cons_zero]; exact rfl)); (case an106 => kernel_rfl); (case bn106 => kernel_rfl); (case cn106 => kernel_rfl); (case qn106 => exact fun _ _ _ h => h); (case dn106 => rfl); (try simp only [Act.put, List.setIfInBounds_toArray, List.set_cons_zero, List.set_cons_succ])
                            refine wpAnyH_take (i := 12) (oi := ?on107) ?hin107 ?an107 ?bn107 ?cn107 ?qn107 (Or.inr ⟨?dn107, rfl⟩) hHeld ?restn107; (case hin107 => (simp only [List.getElem?_toArray, List.getElem?_cons_succ, List.getElem?_cons_zero]; exact rfl)); (case an107 => kernel_rfl); (case bn107 => kernel_rfl); (case cn107 => kernel_rfl); (case qn107 => exact fun _ _ _ h => h); (case dn107 => rfl); (try simp only [Act.put, List.setIfInBounds_toArray, List.set_cons_zero, List.set_cons_succ])
                            refine wpAnyH_take (i := 13) (oi := ?on108) (v := ?vn108) ?hin108 ?an108 ?bn108 ?cn108 ?qn108 (Or.inl ⟨?dn108, ?hyn108⟩) hHeld ?restn108; (case hin108 => (simp only [List.getElem?_toArray, List.getElem?_cons_succ, List.getElem?_cons_zero]; exact rfl)); (case an108 => kernel_rfl); (case bn108 => kernel_rfl); (case cn108 => kernel_rfl); (case qn108 => exact fun _ _ _ h => h); (case dn108 => rfl); (case hyn108 => (intro z hSw; (try dsimp only at hSw); go_simp; (try with_reducible rfl))); (try simp only [Act.put, List.setIfInBounds_toArray, List.set_cons_zero, List.set_cons_succ])
                            refine wpAnyH_take (i := 14) (oi := ?on109) (v := ?vn109) ?hin109 ?an109 ?bn109 ?cn109 ?qn109 (Or.inl ⟨?dn109, ?hyn109⟩) hHeld ?restn109; (case hin109 => (simp only [List.getElem?_toArray, List.getElem?_cons_succ, List.getElem?_cons_zero]; exact rfl)); (case an109 => kernel_rfl); (case bn109 => kernel_rfl); (case cn109 => kernel_rfl); (case qn109 => exact fun _ _ _ h => h); (case dn109 => rfl); (case hyn109 => (intro z hSw; (try dsimp only at hSw); go_simp; (try with_reducible rfl))); (try simp only [Act.put, List.setIfInBounds_toArray, List.set_cons_zero, List.set_cons_succ])
                            refine wpAnyH_take (i := 15) (oi := ?on110) (v := ?vn110) ?hin110 ?an110 ?bn110 ?cn110 ?qn110 (Or.inl ⟨?dn110, ?hyn110⟩) hHeld ?restn110; (case hin110 => (simp only [List.getElem?_toArray, List.getElem?_cons_succ, List.getElem?_cons_zero]; exact rfl)); (case an110 => kernel_rfl); (case bn110 => kernel_rfl); (case cn110 => kernel_rfl); (case qn110 => exact fun _ _ _ h => h); (case dn110 => rfl); (case hyn110 => (intro z hSw; (try dsimp only at hSw); go_simp; (try with_reducible rfl))); (try simp only [Act.put, List.setIfInBounds_toArray, List.set_cons_zero, List.set_cons_succ])
                            refine wpAnyH_take (i := 16) (oi := ?on111) (v := ?vn111) ?hin111 ?an111 ?bn111 ?cn111 ?qn111 (Or.inl ⟨?dn111, ?hyn111⟩) hHeld ?restn111; (case hin111 => (simp only [List.getElem?_toArray, List.getElem?_cons_succ, List.getElem?_cons_zero]; exact rfl)); (case an111 => kernel_rfl); (case bn111 => kernel_rfl); (case cn111 => kernel_rfl); (case qn111 => exact fun _ _ _ h => h); (case dn111 => rfl); (case hyn111 => (intro z hSw; (try dsimp only at hSw); go_simp; (try with_reducible rfl))); (try simp only [Act.put, List.setIfInBounds_toArray, List.set_cons_zero, List.set_cons_succ])
                            refine wpAnyH_take (i := 17) (oi := ?on112) (v := ?vn112) ?hin112 ?an112 ?bn112 ?cn112 ?qn112 (Or.inl ⟨?dn112, ?hyn112⟩) hHeld ?restn112; (case hin112 => (simp only [List.getElem?_toArray, List.getElem?_cons_succ, List.getElem?_cons_zero]; exact rfl)); (case an112 => kernel_rfl); (case bn112 => kernel_rfl); (case cn112 => kernel_rfl); (case qn112 => exact fun _ _ _ h => h); (case dn112 => rfl); (case hyn112 => (intro z hSw; (try dsimp only at hSw); go_simp; (try with_reducible rfl))); (try simp only [Act.put, List.setIfInBounds_toArray, List.set_cons_zero, List.set_cons_succ])
                            refine wpAnyH_take (i := 18) (oi := ?on113) ?hin113 ?an113 ?bn113 ?cn113 ?qn113 (Or.inr ⟨?dn113, rfl⟩) hHeld ?restn113; (case hin113 => (simp only [List.getElem?_toArray, List.getElem?_cons_succ, List.getElem?_cons_zero]; exact rfl)); (case an113 => kernel_rfl); (case bn113 => kernel_rfl); (case cn113 => kernel_rfl); (case qn113 => exact fun _ _ _ h => h); (case dn113 => rfl); (try simp only [Act.put, List.setIfInBounds_toArray, List.set_cons_zero, List.set_cons_succ])
                            refine wpAnyH_take (i := 19) (oi := ?on114) ?hin114 ?an114 ?bn114 ?cn114 ?qn114 (Or.inr ⟨?dn114, rfl⟩) hHeld ?restn114; (case hin114 => (simp only [List.getElem?_toArray, List.getElem?_cons_succ, List.getElem?_cons_zero]; exact rfl)); (case an114 => kernel_rfl); (case bn114 => kernel_rfl); (case cn114 => kernel_rfl); (case qn114 => exact fun _ _ _ h => h); (case dn114 => rfl); (try simp only [Act.put, List.setIfInBounds_toArray, List.set_cons_zero, List.set_cons_succ])
                            refine wpAnyH_take (i := 20) (oi := ?on115) ?hin115 ?an115 ?bn115 ?cn115 ?qn115 (Or.inr ⟨?dn115, rfl⟩) hHeld ?restn115; (case hin115 => (simp only [List.getElem?_toArray, List.getElem?_cons_succ, List.getElem?_cons_zero]; exact rfl)); (case an115 => kernel_rfl); (case bn115 => kernel_rfl); (case cn115 => kernel_rfl); (case qn115 => exact fun _ _ _ h => h); (case dn115 => rfl); (try simp only [Act.put, List.setIfInBounds_toArray, List.set_cons_zero, List.set_cons_succ])
                            refine wpAnyH_take (i := 21) (oi := ?on116) ?hin116 ?an116 ?bn116 ?cn116 ?qn116 (Or.inr ⟨?dn116, rfl⟩) hHeld ?restn116; (case hin116 => (simp only [List.getElem?_toArray, List.getElem?_cons_succ, List.getElem?_cons_zero]; exact rfl)); (case an116 => kernel_rfl); (case bn116 => kernel_rfl); (case cn116 => kernel_rfl); (case qn116 => exact fun _ _ _ h => h); (case dn116 => rfl); (try simp only [Act.put, List.setIfInBounds_toArray, List.set_cons_zero, List.set_cons_succ])
                            refine wpAnyH_take (i := 22) (oi := ?on117) ?hin117 ?an117 ?bn117 ?cn117 ?qn117 (Or.inr ⟨?dn117, rfl⟩) hHeld ?restn117; (case hin117 => (simp only [List.getElem?_toArray, List.getElem?_cons_succ, List.getElem?_cons_zero]; exact rfl)); (case an117 => kernel_rfl); (case bn117 => kernel_rfl); (case cn117 => kernel_rfl); (case qn117 => exact fun _ _ _ h => h); (case dn117 => rfl); (try simp only [Act.put, List.setIfInBounds_toArray, List.set_cons_zero, List.set_cons_succ])
                            refine wpAnyH_take (i := 23) (oi := ?on118) ?hin118 ?an118 ?bn118 ?cn118 ?qn118 (Or.inr ⟨?dn118, rfl⟩) hHeld ?restn118; (case hin118 => (simp only [List.getElem?_toArray, List.getElem?_cons_succ, List.getElem?_cons_zero]; exact rfl)); (case an118 => kernel_rfl); (case bn118 => kernel_rfl); (case cn118 => kernel_rfl); (case qn118 => exact fun _ _ _ h => h); (case dn118 => rfl); (try simp only [Act.put, List.setIfInBounds_toArray, List.set_cons_zero, List.set_cons_succ])
                            refine wpAnyH_take (i := 24) (oi := ?on119) ?hin119 ?an119 ?bn119 ?cn119 ?qn119 (Or.inr ⟨?dn119, rfl⟩) hHeld ?restn119; (case hin119 => (simp only [List.getElem?_toArray, List.getElem?_cons_succ, List.getElem?_cons_zero]; exact rfl)); (case an119 => kernel_rfl); (case bn119 => kernel_rfl); (case cn119 => kernel_rfl); (case qn119 => exact fun _ _ _ h => h); (case dn119 => rfl); (try simp only [Act.put, List.setIfInBounds_toArray, List.set_cons_zero, List.set_cons_succ])
                            refine wpAnyH_take (i := 25) (oi := ?on120) (v := ?vn120) ?hin120 ?an120 ?bn120 ?cn120 ?qn120 (Or.inl ⟨?dn120, ?hyn120⟩) hHeld ?restn120; (case hin120 => (simp only [List.getElem?_toArray, List.getElem?_cons_succ, List.getElem?_cons_zero]; exact rfl)); (case an120 => kernel_rfl); (case bn120 => kernel_rfl); (case cn120 => kernel_rfl); (case qn120 => exact fun _ _ _ h => h); (case dn120 => rfl); (case hyn120 => (intro z hSw; (try dsimp only at hSw); go_simp; (try with_reducible rfl))); (try simp only [Act.put, List.setIfInBounds_toArray, List.set_cons_zero, List.set_cons_succ])
                            refine wpAnyH_take (i := 26) (oi := ?on121) (v := ?vn121) ?hin121 ?an121 ?bn121 ?cn121 ?qn121 (Or.inl ⟨?dn121, ?hyn121⟩) hHeld ?restn121; (case hin121 => (simp only [List.getElem?_toArray, List.getElem?_cons_succ, List.getElem?_cons_zero]; exact rfl)); (case an121 => kernel_rfl); (case bn121 => kernel_rfl); (case cn121 => kernel_rfl); (case qn121 => exact fun _ _ _ h => h); (case dn121 => rfl); (case hyn121 => (intro z hSw; (try dsimp only at hSw); go_simp; (try with_reducible rfl))); (try simp only [Act.put, List.setIfInBounds_toArray, List.set_cons_zero, List.set_cons_succ])
                            refine wpAnyH_take (i := 27) (oi := ?on122) ?hin122 ?an122 ?bn122 ?cn122 ?qn122 (Or.inr ⟨?dn122, rfl⟩) hHeld ?restn122; (case hin122 => (simp only [List.getElem?_toArray, List.getElem?_cons_succ, List.getElem?_cons_zero]; exact rfl)); (case an122 => kernel_rfl); (case bn122 => kernel_rfl); (case cn122 => kernel_rfl); (case qn122 => exact fun _ _ _ h => h); (case dn122 => rfl); (try simp only [Act.put, List.setIfInBounds_toArray, List.set_cons_zero, List.set_cons_succ])
                            refine wpAnyH_take (i := 28) (oi := ?on123) ?hin123 ?an123 ?bn123 ?cn123 ?qn123 (Or.inr ⟨?dn123, rfl⟩) hHeld ?restn123; (case hin123 => (simp only [List.getElem?_toArray, List.getElem?_cons_succ, List.getElem?_cons_zero]; exact rfl)); (case an123 => kernel_rfl); (case bn123 => kernel_rfl); (case cn123 => kernel_rfl); (case qn123 => exact fun _ _ _ h => h); (case dn123 => rfl); (try simp only [Act.put, List.setIfInBounds_toArray, List.set_cons_zero, List.set_cons_succ])
                            refine wpAnyH_take (i := 29) (oi := ?on124) ?hin124 ?an124 ?bn124 ?cn124 ?qn124 (Or.inr ⟨?dn124, rfl⟩) hHeld ?restn124; (case hin124 => (simp only [List.getElem?_toArray, List.getElem?_cons_succ, List.getElem?_cons_zero]; exact rfl)); (case an124 => kernel_rfl); (case bn124 => kernel_rfl); (case cn124 => kernel_rfl); (case qn124 => exact fun _ _ _ h => h); (case dn124 => rfl); (try simp only [Act.put, List.setIfInBounds_toArray, List.set_cons_zero, List.set_cons_succ])
                            refine wpAnyH_take (i := 30) (oi := ?on125) ?hin125 ?an125 ?bn125 ?cn125 ?qn125 (Or.inr ⟨?dn125, rfl⟩) hHeld ?restn125; (case hin125 => (simp only [List.getElem?_toArray, List.getElem?_cons_succ, List.getElem?_cons_zero]; exact rfl)); (case an125 => kernel_rfl); (case bn125 => kernel_rfl); (case cn125 => kernel_rfl); (case qn125 => exact fun _ _ _ h => h); (case dn125 => rfl); (try simp only [Act.put, List.setIfInBounds_toArray, List.set_cons_zero, List.set_cons_succ])
                            refine wpAnyH_take (i := 31) (oi := ?on126) ?hin126 ?an126 ?bn126 ?cn126 ?qn126 (Or.inr ⟨?dn126, rfl⟩) hHeld ?restn126; (case hin126 => (simp only [List.getElem?_toArray, List.getElem?_cons_succ, List.getElem?_cons_zero]; exact rfl)); (case an126 => kernel_rfl); (case bn126 => kernel_rfl); (case cn126 => kernel_rfl); (case qn126 => exact fun _ _ _ h => h); (case dn126 => rfl); (try simp only [Act.put, List.setIfInBounds_toArray, List.set_cons_zero, List.set_cons_succ])
                            refine wpAnyH_take (i := 32) (oi := ?on127) ?hin127 ?an127 ?bn127 ?cn127 ?qn127 (Or.inr ⟨?dn127, rfl⟩) hHeld ?restn127; (case hin127 => (simp only [List.getElem?_toArray, List.getElem?_cons_succ, List.getElem?_cons_zero]; exact rfl)); (case an127 => kernel_rfl); (case bn127 => kernel_rfl); (case cn127 => kernel_rfl); (case qn127 => exact fun _ _ _ h => h); (case dn127 => rfl); (try simp only [Act.put, List.setIfInBounds_toArray, List.set_cons_zero, List.set_cons_succ])
                            refine wpAnyH_take (i := 33) (oi := ?on128) ?hin128 ?an128 ?bn128 ?cn128 ?qn128 (Or.inr ⟨?dn128, rfl⟩) hHeld ?restn128; (case hin128 => (simp only [List.getElem?_toArray, List.getElem?_cons_succ, List.getElem?_cons_zero]; exact rfl)); (case an128 => kernel_rfl); (case bn128 => kernel_rfl); (case cn128 => kernel_rfl); (case qn128 => exact fun _ _ _ h => h); (case dn128 => rfl); (try simp only [Act.put, List.setIfInBounds_toArray, List.set_cons_zero, List.set_cons_succ])
                            refine wpAnyH_take (i := 34) (oi := ?on129) (v := ?vn129) ?hin129 ?an129 ?bn129 ?cn129 ?qn129 (Or.inl ⟨?dn129, ?hyn129⟩) hHeld ?restn129; (case hin129 => (simp only [List.getElem?_toArray, List.getElem?_cons_succ, List.getElem?_cons_zero]; exact rfl)); (case an129 => kernel_rfl); (case bn129 => kernel_rfl); (case cn129 => kernel_rfl); (case qn129 => exact fun _ _ _ h => h); (case dn129 => rfl); (case hyn129 => (intro z hSw; (try dsimp only at hSw); go_simp; (try with_reducible rfl))); (try simp only [Act.put, List.setIfInBounds_toArray, List.set_cons_zero, List.set_cons_succ])
                            refine wpAnyH_take (i := 35) (oi := ?on130) (v := ?vn130) ?hin130 ?an130 ?bn130 ?cn130 ?qn130 (Or.inl ⟨?dn130, ?hyn130⟩) hHeld ?restn130; (case hin130 => (simp only [List.getElem?_toArray, List.getElem?_cons_succ, List.getElem?_cons_zero]; exact rfl)); (case an130 => kernel_rfl); (case bn130 => kernel_rfl); (case cn130 => kernel_rfl); (case qn130 => exact fun _ _ _ h => h); (case dn130 => rfl); (case hyn130 => (intro z hSw; (try dsimp only at hSw); go_simp; (try with_reducible rfl))); (try simp only [Act.put, List.setIfInBounds_toArray, List.set_cons_zero, List.set_cons_succ])
                            refine wpAnyH_done (by kernel_rfl) ?_ _
                            go_wp2_with fail
                            go_roundw
                            case rel => exact ⟨q + 1, by omega, by go_num, hZd, hqs⟩
                            case measure => simp [intOf]; omega
                  · obtain rfl : q = n := by omega
                    have hks := Lib.hid (hKS.out (HZT.out (allB_of HQ.out)))
                    go_wp2_with fail
                    go_roundw
                    case rel => exact ⟨k + 1, by omega, by go_num, hZ, hks⟩
                    case measure => simp [intOf]; omega
          · obtain rfl : k = n := by omega
            have hs := Lib.hid (hS1.out (HFY.out (allB_of HK.out)))
            go_wp2_with fail
            go_roundw
            case rel => exact ⟨j + 1, by omega, by go_num, hY, hs⟩
            case measure => simp [intOf]; omega
    · obtain rfl : j = n := by omega
      have hv := Lib.hid (HZ.out HJ.out)
      go_wp2_with fail
      go_ret
      exact ⟨by rw [hv.out]; rfl, HG.out.trans hB⟩
end Go.Proofs.YtpfncncohnhanaaGreatDoor


/- What the reference reckons of a frame is the property (plain); l05Flag by the property. -/
namespace Go.Proofs.YtpfncncohnhanaaGreatDoor
open Go.RowKit

theorem flZs_true {A : List Nat} {F x y z : Nat} (h : F ≠ 5 ∧ F ≠ 6) : flZs A F x y z = true := by
  unfold flZs flZ
  rw [if_neg h.1, if_neg h.2]
  simp
theorem flYs_of {A : List Nat} {F x y : Nat} (h : F ≠ 5 ∧ F ≠ 6) : flYs A F x y = (!(nt A x).testBit y || flY A F x y) := by
  unfold flYs
  rw [allB_iff.2 fun z _ => flZs_true h, Bool.and_true]
theorem flY_true {A : List Nat} {F x y : Nat} (h : F ≠ 3 ∧ F ≠ 4 ∧ F ≠ 8 ∧ F ≠ 9) : flY A F x y = true := by
  unfold flY
  rw [if_neg h.1, if_neg h.2.1, if_neg h.2.2.1, if_neg h.2.2.2]
theorem flX_true {A : List Nat} {F x : Nat} (h : F ≠ 0 ∧ F ≠ 1 ∧ F ≠ 2 ∧ F ≠ 7 ∧ F ≠ 10) : flX A F x = true := by
  unfold flX
  rw [if_neg h.1, if_neg h.2.1, if_neg h.2.2.1, if_neg h.2.2.2.1, if_neg h.2.2.2.2]
theorem flR_x {A : List Nat} {F : Nat} (h1 : F ≠ 5 ∧ F ≠ 6) (h2 : F ≠ 3 ∧ F ≠ 4 ∧ F ≠ 8 ∧ F ≠ 9) : flR A F = allB A.length (flX A F) := by
  unfold flR
  refine allB_congr fun x _ => ?_
  unfold flXs
  rw [allB_iff.2 fun y _ => by rw [flYs_of h1, flY_true h2, Bool.or_true], Bool.and_true]
theorem flR_y {A : List Nat} {F : Nat} (h1 : F ≠ 5 ∧ F ≠ 6) (h2 : F ≠ 0 ∧ F ≠ 1 ∧ F ≠ 2 ∧ F ≠ 7 ∧ F ≠ 10) : flR A F = allB A.length fun x => allB A.length fun y => !(nt A x).testBit y || flY A F x y := by
  unfold flR
  refine allB_congr fun x _ => ?_
  unfold flXs
  rw [flX_true h2, Bool.true_and]
  exact allB_congr fun y _ => flYs_of h1
theorem flR_z {A : List Nat} (hA : Rl A) {F : Nat} (h1 : F ≠ 3 ∧ F ≠ 4 ∧ F ≠ 8 ∧ F ≠ 9) (h2 : F ≠ 0 ∧ F ≠ 1 ∧ F ≠ 2 ∧ F ≠ 7 ∧ F ≠ 10) : flR A F = pairB A fun _ y z => flZ A F y z := by
  rw [Bool.eq_iff_iff, pairB_iff hA]
  unfold flR rl
  rw [allB_iff]
  constructor
  · intro h x y z hx hy hz
    have h3 := h x hx
    unfold flXs at h3
    rw [flX_true h2, Bool.true_and, allB_iff] at h3
    have h4 := h3 y (hA.bit hx hy)
    unfold flYs at h4
    rw [hy, flY_true h1, Bool.true_and, Bool.not_true, Bool.false_or, allB_iff] at h4
    have h5 := h4 z (hA.bit hx hz)
    unfold flZs at h5
    rwa [hz, Bool.not_true, Bool.false_or] at h5
  · intro h x hx
    unfold flXs
    rw [flX_true h2, Bool.true_and, allB_iff]
    intro y _
    unfold flYs
    cases hy : (nt A x).testBit y with
    | false => rfl
    | true =>
      rw [flY_true h1, Bool.true_and, Bool.not_true, Bool.false_or, allB_iff]
      intro z _
      unfold flZs
      cases hz : (nt A x).testBit z with
      | false => rfl
      | true => rw [h x y z hx hy hz]; rfl
theorem flR_0 (A : List Nat) : flR A 0 = reflB A := flR_x (by decide) (by decide)
theorem flR_1 (A : List Nat) : flR A 1 = serB A := flR_x (by decide) (by decide)
theorem flR_2 (A : List Nat) : flR A 2 = transB A := flR_x (by decide) (by decide)
theorem flR_7 (A : List Nat) : flR A 7 = irrB A := flR_x (by decide) (by decide)
theorem flR_10 (A : List Nat) : flR A 10 = funB A := flR_x (by decide) (by decide)
theorem flR_3 (A : List Nat) : flR A 3 = symB A := flR_y (by decide) (by decide)
theorem flR_8 (A : List Nat) : flR A 8 = antiB A := by
  rw [flR_y (by decide) (by decide)]
  refine allB_congr fun x _ => allB_congr fun y _ => ?_
  show (!(nt A x).testBit y || !(!(x == y) && (nt A y).testBit x)) = antiX A x y
  unfold antiX
  cases (nt A x).testBit y <;> rfl
theorem flR_4 {A : List Nat} (hA : Rl A) : flR A 4 = eucB A := by
  rw [flR_y (by decide) (by decide), Bool.eq_iff_iff, eucB_iff hA, allB_iff]
  unfold rl
  constructor
  · intro h x y z hx hy hz
    have h1 := h x hx
    rw [allB_iff] at h1
    have h2 := h1 y (hA.bit hx hy)
    rw [hy] at h2
    have h3 : decide (dif (nt A x) (nt A y) = 0) = true := by simpa [flY] using h2
    exact dif_zero.1 (of_decide_eq_true h3) z hz
  · intro h x hx
    rw [allB_iff]
    intro y _
    cases hy : (nt A x).testBit y with
    | false => rfl
    | true =>
      show (false || decide (dif (nt A x) (nt A y) = 0)) = true
      rw [Bool.false_or, decide_eq_true_eq, dif_zero]
      exact fun z hz => h x y z hx hy hz
theorem flR_9 {A : List Nat} (hA : Rl A) : flR A 9 = denB A := by
  rw [flR_y (by decide) (by decide), Bool.eq_iff_iff, denB_iff hA, allB_iff]
  constructor
  · intro h x y hx hy
    have h1 := h x hx
    rw [allB_iff] at h1
    have h2 := h1 y (hA.bit hx hy)
    unfold rl at hy
    rw [hy] at h2
    exact (denX hA hx).1 (by simpa [flY] using h2)
  · intro h x hx
    rw [allB_iff]
    intro y _
    cases hy : (nt A x).testBit y with
    | false => rfl
    | true =>
      show (false || !decide (nt A x &&& invN A A.length y = 0)) = true
      rw [Bool.false_or]
      exact (denX hA hx).2 (h x y hx hy)
theorem flR_5 {A : List Nat} (hA : Rl A) : flR A 5 = dirB A := flR_z hA (by decide) (by decide)
theorem flR_6 {A : List Nat} (hA : Rl A) : flR A 6 = conB A := flR_z hA (by decide) (by decide)
end Go.Proofs.YtpfncncohnhanaaGreatDoor


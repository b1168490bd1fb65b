/- Texts in one file: JfR JfO Range JsP JsO JsR JsK JsRa JsRb. -/
import Derived.Test.YtkjmfkllmljdeaaGreatProg
import Derived.Deep.RegionHeld3
import Derived.Test.YtkjmfkllmljdeaaGreatPa1
import Derived.Test.YtkjmfkllmljdeaaGreatPa2
set_option linter.all false

/- rightGoals of the program. -/
namespace Go.Proofs.YtkjmfkllmljdeaaGreat
open Go.RowKit

set_option maxHeartbeats 2000000 in
theorem right_4 (v : Value) (L : List ByteArray) (C : ByteArray) (w : World) (hL : Strs w v L) (hC : gp C = true) (hs : C.size ≤ 1048576) (_hn : L.length ≤ 1048576) (hk : kT C = 2) :
    Calls Tryz.prog 67 #[.agg #[v, .string C], .int .i64 4] w (GivesO w (some [(L, pl C), (L, pr C)])) := by
  have KQ := Lib.hid (fun W => parsed_c C W (by omega))
  rw [pf_fo hC] at KQ
  unfold GivesN at KQ
  have KP := Lib.hid (fun u W (hu : Nodes W u (Fm.enc (fo C))) => pt_two C u W hC (by omega) hu)
  have HS := Lib.hid hL
  obtain ⟨A, cA, rfl⟩ := strs_slice hL
  have KV := fun s W => proving_c A L.length cA C s W
  have hal := (Grew.refl w).alloc (.cells #[.slice A L.length cA, .string C] 63)
  have bx1 : ∀ W, Grew (w.alloc (.cells #[.slice A L.length cA, .string C] 63)) W → W.cell? ⟨w.heap.size, 1, none⟩ = some (.string C) := fun W hW => (hW.cell (p := ⟨w.heap.size, 1, none⟩) (by simp)).trans (by simp)
  have hpos := Fm.enc_pos (fo C)
  have KH := Lib.hid (fun W u (h : Nodes W u (Fm.enc (fo C))) => nodes_head h)
  rw [show kindOf (fo C) = 2 from hk] at KH
  generalize fo C = F at *
  generalize hnx : (Fm.enc F).length = nx at *
  replace hnx := Lib.hid hnx
  clear hL hk hC
  generalize hal2 : L.length = al at *
  replace hal2 := Lib.hid hal2
  generalize pl C = tp at *
  generalize pr C = tq at *
  replace KV := Lib.hid KV
  go_enter Tryz.func67, Tryz.ntmps67
  go_wp2_with fail
  refine (KQ.out _).mono ?_
  rintro e wa ⟨va, rfl, hoa, hga, _⟩
  have HN := Lib.hid hoa.nodes
  obtain ⟨b, o, c, rfl, hc, hm, k0⟩ := KH.out _ _ hoa.nodes
  clear hoa
  have ga := hal.trans hga
  go_wp2_with fail
  refine (KP.out _ _ HN.out).mono ?_
  rintro e w2 ⟨vp, rfl, hp, hgb⟩
  have hg2 := hga.trans hgb
  have g2 := hal.trans hg2
  obtain ⟨b2, o2, c2, rfl, hc2, hm2, hb2, hz⟩ := strs_two hp.strs
  clear hp
  have z0 := fun W (hW : Grew w2 W) => (hz W hW).1
  have z1 := fun W (hW : Grew w2 W) => (hz W hW).2
  clear hz
  have b0 : ∀ W, Grew w2 W → W.cell? ⟨w.heap.size, 0, none⟩ = some (.slice A al cA) := fun W hW => ((hg2.trans hW).cell (p := ⟨w.heap.size, 0, none⟩) (by simp)).trans (by simp)
  have b1 : ∀ W, Grew w2 W → W.cell? ⟨w.heap.size, 1, none⟩ = some (.string C) := fun W hW => ((hg2.trans hW).cell (p := ⟨w.heap.size, 1, none⟩) (by simp)).trans (by simp)
  have q0 := k0 _ hgb
  have i1 : (1 : Int) < (2 : Int) := by omega
  have hr2 := Grew.refl w2
  have hd2 := hr2.drew
  have gd := g2.trans hd2
  go_wp2_with fail
  go_region_held3 (fun w' => Grew w2 w') (first | with_reducible assumption | exact Grew.alloc ‹_› _ | exact Grew.drew (Grew.alloc (Grew.alloc ‹_› _) _))
    (first
     | (go_at_call 65; have tt4 := tg3; refine (KV.out tq _).mono ?_; rintro e v4 ⟨rfl, hg4⟩; have gq4 : Grew w v4 := Grew.trans (by repeat (first | with_reducible assumption | with_reducible refine Grew.alloc ?_ _ | with_reducible refine Grew.drew ?_)) hg4; have hq4 : Grew w2 v4 := Grew.trans (by repeat (first | with_reducible assumption | with_reducible refine Grew.alloc ?_ _ | with_reducible refine Grew.drew ?_)) hg4; have tg4 := trivial)
     | (go_at_call 65; refine (KV.out tp _).mono ?_; rintro e v3 ⟨rfl, hg3⟩; have gq3 : Grew w v3 := Grew.trans (by repeat (first | with_reducible assumption | with_reducible refine Grew.alloc ?_ _ | with_reducible refine Grew.drew ?_)) hg3; have hq3 : Grew w2 v3 := Grew.trans (by repeat (first | with_reducible assumption | with_reducible refine Grew.alloc ?_ _ | with_reducible refine Grew.drew ?_)) hg3; have tg3 := trivial))
  all_goals go_wp2_with fail
  all_goals go_ret2
  all_goals (have HL := Lib.hid (HS.out.grew gq4); exact givesO_some (jgs_lit2 _ _ _ _ _ _ _ _ HL.out HL.out) (gq4.alloc _))

set_option maxHeartbeats 2000000 in
theorem right_6 (v : Value) (L : List ByteArray) (C : ByteArray) (w : World) (hL : Strs w v L) (hC : gp C = true) (hs : C.size ≤ 1048576) (_hn : L.length ≤ 1048576) (hk : kT C = 3) :
    Calls Tryz.prog 67 #[.agg #[v, .string C], .int .i64 6] w (GivesO w (some [(L, pl C)])) := by
  have KQ := Lib.hid (fun W => parsed_c C W (by omega))
  rw [pf_fo hC] at KQ
  unfold GivesN at KQ
  have KP := Lib.hid (fun u W (hu : Nodes W u (Fm.enc (fo C))) => pt_two C u W hC (by omega) hu)
  have HS := Lib.hid hL
  obtain ⟨A, cA, rfl⟩ := strs_slice hL
  have KV := fun s W => proving_c A L.length cA C s W
  have hal := (Grew.refl w).alloc (.cells #[.slice A L.length cA, .string C] 63)
  have bx1 : ∀ W, Grew (w.alloc (.cells #[.slice A L.length cA, .string C] 63)) W → W.cell? ⟨w.heap.size, 1, none⟩ = some (.string C) := fun W hW => (hW.cell (p := ⟨w.heap.size, 1, none⟩) (by simp)).trans (by simp)
  have hpos := Fm.enc_pos (fo C)
  have KH := Lib.hid (fun W u (h : Nodes W u (Fm.enc (fo C))) => nodes_head h)
  rw [show kindOf (fo C) = 3 from hk] at KH
  generalize fo C = F at *
  generalize hnx : (Fm.enc F).length = nx at *
  replace hnx := Lib.hid hnx
  clear hL hk hC
  generalize hal2 : L.length = al at *
  replace hal2 := Lib.hid hal2
  generalize pl C = tp at *
  generalize pr C = tq at *
  replace KV := Lib.hid KV
  go_enter Tryz.func67, Tryz.ntmps67
  go_wp2_with fail
  refine (KQ.out _).mono ?_
  rintro e wa ⟨va, rfl, hoa, hga, _⟩
  have HN := Lib.hid hoa.nodes
  obtain ⟨b, o, c, rfl, hc, hm, k0⟩ := KH.out _ _ hoa.nodes
  clear hoa
  have ga := hal.trans hga
  go_wp2_with fail
  refine (KP.out _ _ HN.out).mono ?_
  rintro e w2 ⟨vp, rfl, hp, hgb⟩
  have hg2 := hga.trans hgb
  have g2 := hal.trans hg2
  obtain ⟨b2, o2, c2, rfl, hc2, hm2, hb2, hz⟩ := strs_two hp.strs
  clear hp
  have z0 := fun W (hW : Grew w2 W) => (hz W hW).1
  have z1 := fun W (hW : Grew w2 W) => (hz W hW).2
  clear hz
  have b0 : ∀ W, Grew w2 W → W.cell? ⟨w.heap.size, 0, none⟩ = some (.slice A al cA) := fun W hW => ((hg2.trans hW).cell (p := ⟨w.heap.size, 0, none⟩) (by simp)).trans (by simp)
  have b1 : ∀ W, Grew w2 W → W.cell? ⟨w.heap.size, 1, none⟩ = some (.string C) := fun W hW => ((hg2.trans hW).cell (p := ⟨w.heap.size, 1, none⟩) (by simp)).trans (by simp)
  have q0 := k0 _ hgb
  have i1 : (1 : Int) < (2 : Int) := by omega
  have hr2 := Grew.refl w2
  have hd2 := hr2.drew
  have gd := g2.trans hd2
  go_wp2_with fail
  go_region_held3 (fun w' => Grew w2 w') (first | with_reducible assumption | exact Grew.alloc ‹_› _ | exact Grew.drew (Grew.alloc (Grew.alloc ‹_› _) _))
    (first
     | (go_at_call 65; refine (KV.out tp _).mono ?_; rintro e v3 ⟨rfl, hg3⟩; have gq3 : Grew w v3 := Grew.trans (by repeat (first | with_reducible assumption | with_reducible refine Grew.alloc ?_ _ | with_reducible refine Grew.drew ?_)) hg3; have hq3 : Grew w2 v3 := Grew.trans (by repeat (first | with_reducible assumption | with_reducible refine Grew.alloc ?_ _ | with_reducible refine Grew.drew ?_)) hg3; have tg3 := trivial))
  all_goals go_wp2_with fail
  all_goals go_ret2
  all_goals (have HL := Lib.hid (HS.out.grew gq3); exact givesO_some (jgs_lit1 _ _ _ _ _ HL.out) (gq3.alloc _))

set_option maxHeartbeats 2000000 in
theorem right_7 (v : Value) (L : List ByteArray) (C : ByteArray) (w : World) (hL : Strs w v L) (hC : gp C = true) (hs : C.size ≤ 1048576) (_hn : L.length ≤ 1048576) (hk : kT C = 3) :
    Calls Tryz.prog 67 #[.agg #[v, .string C], .int .i64 7] w (GivesO w (some [(L, pr C)])) := by
  have KQ := Lib.hid (fun W => parsed_c C W (by omega))
  rw [pf_fo hC] at KQ
  unfold GivesN at KQ
  have KP := Lib.hid (fun u W (hu : Nodes W u (Fm.enc (fo C))) => pt_two C u W hC (by omega) hu)
  have HS := Lib.hid hL
  obtain ⟨A, cA, rfl⟩ := strs_slice hL
  have KV := fun s W => proving_c A L.length cA C s W
  have hal := (Grew.refl w).alloc (.cells #[.slice A L.length cA, .string C] 63)
  have bx1 : ∀ W, Grew (w.alloc (.cells #[.slice A L.length cA, .string C] 63)) W → W.cell? ⟨w.heap.size, 1, none⟩ = some (.string C) := fun W hW => (hW.cell (p := ⟨w.heap.size, 1, none⟩) (by simp)).trans (by simp)
  have hpos := Fm.enc_pos (fo C)
  have KH := Lib.hid (fun W u (h : Nodes W u (Fm.enc (fo C))) => nodes_head h)
  rw [show kindOf (fo C) = 3 from hk] at KH
  generalize fo C = F at *
  generalize hnx : (Fm.enc F).length = nx at *
  replace hnx := Lib.hid hnx
  clear hL hk hC
  generalize hal2 : L.length = al at *
  replace hal2 := Lib.hid hal2
  generalize pl C = tp at *
  generalize pr C = tq at *
  replace KV := Lib.hid KV
  go_enter Tryz.func67, Tryz.ntmps67
  go_wp2_with fail
  refine (KQ.out _).mono ?_
  rintro e wa ⟨va, rfl, hoa, hga, _⟩
  have HN := Lib.hid hoa.nodes
  obtain ⟨b, o, c, rfl, hc, hm, k0⟩ := KH.out _ _ hoa.nodes
  clear hoa
  have ga := hal.trans hga
  go_wp2_with fail
  refine (KP.out _ _ HN.out).mono ?_
  rintro e w2 ⟨vp, rfl, hp, hgb⟩
  have hg2 := hga.trans hgb
  have g2 := hal.trans hg2
  obtain ⟨b2, o2, c2, rfl, hc2, hm2, hb2, hz⟩ := strs_two hp.strs
  clear hp
  have z0 := fun W (hW : Grew w2 W) => (hz W hW).1
  have z1 := fun W (hW : Grew w2 W) => (hz W hW).2
  clear hz
  have b0 : ∀ W, Grew w2 W → W.cell? ⟨w.heap.size, 0, none⟩ = some (.slice A al cA) := fun W hW => ((hg2.trans hW).cell (p := ⟨w.heap.size, 0, none⟩) (by simp)).trans (by simp)
  have b1 : ∀ W, Grew w2 W → W.cell? ⟨w.heap.size, 1, none⟩ = some (.string C) := fun W hW => ((hg2.trans hW).cell (p := ⟨w.heap.size, 1, none⟩) (by simp)).trans (by simp)
  have q0 := k0 _ hgb
  have i1 : (1 : Int) < (2 : Int) := by omega
  have hr2 := Grew.refl w2
  have hd2 := hr2.drew
  have gd := g2.trans hd2
  go_wp2_with fail
  go_region_held3 (fun w' => Grew w2 w') (first | with_reducible assumption | exact Grew.alloc ‹_› _ | exact Grew.drew (Grew.alloc (Grew.alloc ‹_› _) _))
    (first
     | (go_at_call 65; refine (KV.out tq _).mono ?_; rintro e v3 ⟨rfl, hg3⟩; have gq3 : Grew w v3 := Grew.trans (by repeat (first | with_reducible assumption | with_reducible refine Grew.alloc ?_ _ | with_reducible refine Grew.drew ?_)) hg3; have hq3 : Grew w2 v3 := Grew.trans (by repeat (first | with_reducible assumption | with_reducible refine Grew.alloc ?_ _ | with_reducible refine Grew.drew ?_)) hg3; have tg3 := trivial))
  all_goals go_wp2_with fail
  all_goals go_ret2
  all_goals (have HL := Lib.hid (HS.out.grew gq3); exact givesO_some (jgs_lit1 _ _ _ _ _ HL.out) (gq3.alloc _))

set_option maxHeartbeats 2000000 in
theorem right_9 (v : Value) (L : List ByteArray) (C : ByteArray) (w : World) (hL : Strs w v L) (hC : gp C = true) (hs : C.size ≤ 1048576) (hn : L.length ≤ 1048576) (hk : kT C = 4) :
    Calls Tryz.prog 67 #[.agg #[v, .string C], .int .i64 9] w (GivesO w (some [(putS (L ++ [pl C]), pr C)])) := by
  have KQ := Lib.hid (fun W => parsed_c C W (by omega))
  rw [pf_fo hC] at KQ
  unfold GivesN at KQ
  have KP := Lib.hid (fun u W (hu : Nodes W u (Fm.enc (fo C))) => pt_two C u W hC (by omega) hu)
  have KI := Lib.hid (fun K u W (hW : Grew w W) (hu : Strs W u K) (hl : K.length ≤ 2) => withS_c v u L K C W (hL.grew hW) hu (by omega))
  have HS := Lib.hid hL
  obtain ⟨A, cA, rfl⟩ := strs_slice hL
  have hal := (Grew.refl w).alloc (.cells #[.slice A L.length cA, .string C] 63)
  have bx1 : ∀ W, Grew (w.alloc (.cells #[.slice A L.length cA, .string C] 63)) W → W.cell? ⟨w.heap.size, 1, none⟩ = some (.string C) := fun W hW => (hW.cell (p := ⟨w.heap.size, 1, none⟩) (by simp)).trans (by simp)
  have hpos := Fm.enc_pos (fo C)
  have KH := Lib.hid (fun W u (h : Nodes W u (Fm.enc (fo C))) => nodes_head h)
  rw [show kindOf (fo C) = 4 from hk] at KH
  generalize fo C = F at *
  generalize hnx : (Fm.enc F).length = nx at *
  replace hnx := Lib.hid hnx
  clear hL hk hC
  generalize hal2 : L.length = al at *
  replace hal2 := Lib.hid hal2
  generalize pl C = tp at *
  generalize pr C = tq at *
  go_enter Tryz.func67, Tryz.ntmps67
  go_wp2_with fail
  refine (KQ.out _).mono ?_
  rintro e wa ⟨va, rfl, hoa, hga, _⟩
  have HN := Lib.hid hoa.nodes
  obtain ⟨b, o, c, rfl, hc, hm, k0⟩ := KH.out _ _ hoa.nodes
  clear hoa
  have ga := hal.trans hga
  go_wp2_with fail
  refine (KP.out _ _ HN.out).mono ?_
  rintro e w2 ⟨vp, rfl, hp, hgb⟩
  have hg2 := hga.trans hgb
  have g2 := hal.trans hg2
  obtain ⟨b2, o2, c2, rfl, hc2, hm2, hb2, hz⟩ := strs_two hp.strs
  clear hp
  have z0 := fun W (hW : Grew w2 W) => (hz W hW).1
  have z1 := fun W (hW : Grew w2 W) => (hz W hW).2
  clear hz
  have b0 : ∀ W, Grew w2 W → W.cell? ⟨w.heap.size, 0, none⟩ = some (.slice A al cA) := fun W hW => ((hg2.trans hW).cell (p := ⟨w.heap.size, 0, none⟩) (by simp)).trans (by simp)
  have b1 : ∀ W, Grew w2 W → W.cell? ⟨w.heap.size, 1, none⟩ = some (.string C) := fun W hW => ((hg2.trans hW).cell (p := ⟨w.heap.size, 1, none⟩) (by simp)).trans (by simp)
  have q0 := k0 _ hgb
  have i1 : (1 : Int) < (2 : Int) := by omega
  have hr2 := Grew.refl w2
  have hd2 := hr2.drew
  have gd := g2.trans hd2
  go_wp2_with fail
  go_region_held3 (fun w' => Grew w2 w') (first | with_reducible assumption | exact Grew.alloc ‹_› _ | exact Grew.drew (Grew.alloc (Grew.alloc ‹_› _) _))
    (first
     | (go_at_call 65; have tt4 := tg3; refine (proving_c _ _ _ _ tq _).mono ?_; rintro e v4 ⟨rfl, hg4⟩; have gq4 : Grew w v4 := Grew.trans (by repeat (first | with_reducible assumption | with_reducible refine Grew.alloc ?_ _ | with_reducible refine Grew.drew ?_)) hg4; have hq4 : Grew w2 v4 := Grew.trans (by repeat (first | with_reducible assumption | with_reducible refine Grew.alloc ?_ _ | with_reducible refine Grew.drew ?_)) hg4; have tg4 := trivial)
     | (go_at_call 66; refine (KI.out [tp] _ _ (by repeat (first | with_reducible assumption | with_reducible refine Grew.alloc ?_ _ | with_reducible refine Grew.drew ?_)) (strs_at1 (by simp <;> omega) (by simp)) (by simp)).mono ?_; rintro e v3 ⟨u3, rfl, hu3, hg3⟩; have gq3 : Grew w v3 := Grew.trans (by repeat (first | with_reducible assumption | with_reducible refine Grew.alloc ?_ _ | with_reducible refine Grew.drew ?_)) hg3; have hq3 : Grew w2 v3 := Grew.trans (by repeat (first | with_reducible assumption | with_reducible refine Grew.alloc ?_ _ | with_reducible refine Grew.drew ?_)) hg3; have tg3 := trivial; have HU3 := Lib.hid hu3; obtain ⟨Au3, cu3, rfl⟩ := strs_slice hu3; clear hu3))
  all_goals go_wp2_with fail
  all_goals go_ret2
  all_goals exact givesO_some (jgs_lit1 _ _ _ _ _ (HU3.out.grew hg4)) (gq4.alloc _)

set_option maxHeartbeats 2000000 in
theorem right_4n (v : Value) (L : List ByteArray) (C : ByteArray) (w : World) (hL : Strs w v L) (hC : gp C = true) (hs : C.size ≤ 1048576) (_hn : L.length ≤ 1048576) (hk : kT C ≠ 2) :
    Calls Tryz.prog 67 #[.agg #[v, .string C], .int .i64 4] w (GivesO w none) := by
  have KQ := Lib.hid (fun W => parsed_c C W (by omega))
  rw [pf_fo hC] at KQ
  unfold GivesN at KQ
  have KP := Lib.hid (fun u W (hu : Nodes W u (Fm.enc (fo C))) => pt_any C u W hC hu)
  obtain ⟨A, cA, rfl⟩ := strs_slice hL
  have hal := (Grew.refl w).alloc (.cells #[.slice A L.length cA, .string C] 63)
  have bx1 : ∀ W, Grew (w.alloc (.cells #[.slice A L.length cA, .string C] 63)) W → W.cell? ⟨w.heap.size, 1, none⟩ = some (.string C) := fun W hW => (hW.cell (p := ⟨w.heap.size, 1, none⟩) (by simp)).trans (by simp)
  have hpos := Fm.enc_pos (fo C)
  have KH := Lib.hid (fun W u (h : Nodes W u (Fm.enc (fo C))) => nodes_head h)
  have hkk : (kindOf (fo C) == 2) = false := by unfold kT at hk; simpa using hk
  generalize kindOf (fo C) = km at *
  generalize fo C = F at *
  generalize hnx : (Fm.enc F).length = nx at *
  replace hnx := Lib.hid hnx
  clear hL hk hC
  generalize hal2 : L.length = al at *
  replace hal2 := Lib.hid hal2
  go_enter Tryz.func67, Tryz.ntmps67
  go_wp2_with fail
  refine (KQ.out _).mono ?_
  rintro e wa ⟨va, rfl, hoa, hga, _⟩
  have HN := Lib.hid hoa.nodes
  obtain ⟨b, o, c, rfl, hc, hm, k0⟩ := KH.out _ _ hoa.nodes
  clear hoa
  have ga := hal.trans hga
  go_wp2_with fail
  refine (KP.out _ _ HN.out).mono ?_
  rintro e w2 ⟨A2, n2, c2, rfl, hgb⟩
  have g2 := ga.trans hgb
  have q0 := k0 _ hgb
  go_wp2_with fail
  go_ret2
  exact givesO_none g2

set_option maxHeartbeats 2000000 in
theorem right_6n (v : Value) (L : List ByteArray) (C : ByteArray) (w : World) (hL : Strs w v L) (hC : gp C = true) (hs : C.size ≤ 1048576) (_hn : L.length ≤ 1048576) (hk : kT C ≠ 3) :
    Calls Tryz.prog 67 #[.agg #[v, .string C], .int .i64 6] w (GivesO w none) := by
  have KQ := Lib.hid (fun W => parsed_c C W (by omega))
  rw [pf_fo hC] at KQ
  unfold GivesN at KQ
  have KP := Lib.hid (fun u W (hu : Nodes W u (Fm.enc (fo C))) => pt_any C u W hC hu)
  obtain ⟨A, cA, rfl⟩ := strs_slice hL
  have hal := (Grew.refl w).alloc (.cells #[.slice A L.length cA, .string C] 63)
  have bx1 : ∀ W, Grew (w.alloc (.cells #[.slice A L.length cA, .string C] 63)) W → W.cell? ⟨w.heap.size, 1, none⟩ = some (.string C) := fun W hW => (hW.cell (p := ⟨w.heap.size, 1, none⟩) (by simp)).trans (by simp)
  have hpos := Fm.enc_pos (fo C)
  have KH := Lib.hid (fun W u (h : Nodes W u (Fm.enc (fo C))) => nodes_head h)
  have hkk : (kindOf (fo C) == 3) = false := by unfold kT at hk; simpa using hk
  generalize kindOf (fo C) = km at *
  generalize fo C = F at *
  generalize hnx : (Fm.enc F).length = nx at *
  replace hnx := Lib.hid hnx
  clear hL hk hC
  generalize hal2 : L.length = al at *
  replace hal2 := Lib.hid hal2
  go_enter Tryz.func67, Tryz.ntmps67
  go_wp2_with fail
  refine (KQ.out _).mono ?_
  rintro e wa ⟨va, rfl, hoa, hga, _⟩
  have HN := Lib.hid hoa.nodes
  obtain ⟨b, o, c, rfl, hc, hm, k0⟩ := KH.out _ _ hoa.nodes
  clear hoa
  have ga := hal.trans hga
  go_wp2_with fail
  refine (KP.out _ _ HN.out).mono ?_
  rintro e w2 ⟨A2, n2, c2, rfl, hgb⟩
  have g2 := ga.trans hgb
  have q0 := k0 _ hgb
  go_wp2_with fail
  go_ret2
  exact givesO_none g2

set_option maxHeartbeats 2000000 in
theorem right_7n (v : Value) (L : List ByteArray) (C : ByteArray) (w : World) (hL : Strs w v L) (hC : gp C = true) (hs : C.size ≤ 1048576) (_hn : L.length ≤ 1048576) (hk : kT C ≠ 3) :
    Calls Tryz.prog 67 #[.agg #[v, .string C], .int .i64 7] w (GivesO w none) := by
  have KQ := Lib.hid (fun W => parsed_c C W (by omega))
  rw [pf_fo hC] at KQ
  unfold GivesN at KQ
  have KP := Lib.hid (fun u W (hu : Nodes W u (Fm.enc (fo C))) => pt_any C u W hC hu)
  obtain ⟨A, cA, rfl⟩ := strs_slice hL
  have hal := (Grew.refl w).alloc (.cells #[.slice A L.length cA, .string C] 63)
  have bx1 : ∀ W, Grew (w.alloc (.cells #[.slice A L.length cA, .string C] 63)) W → W.cell? ⟨w.heap.size, 1, none⟩ = some (.string C) := fun W hW => (hW.cell (p := ⟨w.heap.size, 1, none⟩) (by simp)).trans (by simp)
  have hpos := Fm.enc_pos (fo C)
  have KH := Lib.hid (fun W u (h : Nodes W u (Fm.enc (fo C))) => nodes_head h)
  have hkk : (kindOf (fo C) == 3) = false := by unfold kT at hk; simpa using hk
  generalize kindOf (fo C) = km at *
  generalize fo C = F at *
  generalize hnx : (Fm.enc F).length = nx at *
  replace hnx := Lib.hid hnx
  clear hL hk hC
  generalize hal2 : L.length = al at *
  replace hal2 := Lib.hid hal2
  go_enter Tryz.func67, Tryz.ntmps67
  go_wp2_with fail
  refine (KQ.out _).mono ?_
  rintro e wa ⟨va, rfl, hoa, hga, _⟩
  have HN := Lib.hid hoa.nodes
  obtain ⟨b, o, c, rfl, hc, hm, k0⟩ := KH.out _ _ hoa.nodes
  clear hoa
  have ga := hal.trans hga
  go_wp2_with fail
  refine (KP.out _ _ HN.out).mono ?_
  rintro e w2 ⟨A2, n2, c2, rfl, hgb⟩
  have g2 := ga.trans hgb
  have q0 := k0 _ hgb
  go_wp2_with fail
  go_ret2
  exact givesO_none g2

set_option maxHeartbeats 2000000 in
theorem right_9n (v : Value) (L : List ByteArray) (C : ByteArray) (w : World) (hL : Strs w v L) (hC : gp C = true) (hs : C.size ≤ 1048576) (_hn : L.length ≤ 1048576) (hk : kT C ≠ 4) :
    Calls Tryz.prog 67 #[.agg #[v, .string C], .int .i64 9] w (GivesO w none) := by
  have KQ := Lib.hid (fun W => parsed_c C W (by omega))
  rw [pf_fo hC] at KQ
  unfold GivesN at KQ
  have KP := Lib.hid (fun u W (hu : Nodes W u (Fm.enc (fo C))) => pt_any C u W hC hu)
  obtain ⟨A, cA, rfl⟩ := strs_slice hL
  have hal := (Grew.refl w).alloc (.cells #[.slice A L.length cA, .string C] 63)
  have bx1 : ∀ W, Grew (w.alloc (.cells #[.slice A L.length cA, .string C] 63)) W → W.cell? ⟨w.heap.size, 1, none⟩ = some (.string C) := fun W hW => (hW.cell (p := ⟨w.heap.size, 1, none⟩) (by simp)).trans (by simp)
  have hpos := Fm.enc_pos (fo C)
  have KH := Lib.hid (fun W u (h : Nodes W u (Fm.enc (fo C))) => nodes_head h)
  have hkk : (kindOf (fo C) == 4) = false := by unfold kT at hk; simpa using hk
  generalize kindOf (fo C) = km at *
  generalize fo C = F at *
  generalize hnx : (Fm.enc F).length = nx at *
  replace hnx := Lib.hid hnx
  clear hL hk hC
  generalize hal2 : L.length = al at *
  replace hal2 := Lib.hid hal2
  go_enter Tryz.func67, Tryz.ntmps67
  go_wp2_with fail
  refine (KQ.out _).mono ?_
  rintro e wa ⟨va, rfl, hoa, hga, _⟩
  have HN := Lib.hid hoa.nodes
  obtain ⟨b, o, c, rfl, hc, hm, k0⟩ := KH.out _ _ hoa.nodes
  clear hoa
  have ga := hal.trans hga
  go_wp2_with fail
  refine (KP.out _ _ HN.out).mono ?_
  rintro e w2 ⟨A2, n2, c2, rfl, hgb⟩
  have g2 := ga.trans hgb
  have q0 := k0 _ hgb
  go_wp2_with fail
  go_ret2
  exact givesO_none g2

set_option maxHeartbeats 2000000 in
theorem right_x (R : Int) (v : Value) (L : List ByteArray) (C : ByteArray) (w : World) (hL : Strs w v L) (hC : gp C = true) (hs : C.size ≤ 1048576) (h4 : R ≠ 4) (h6 : R ≠ 6) (h7 : R ≠ 7) (h9 : R ≠ 9) :
    Calls Tryz.prog 67 #[.agg #[v, .string C], .int .i64 R] w (GivesO w none) := by
  have KQ := Lib.hid (fun W => parsed_c C W (by omega))
  rw [pf_fo hC] at KQ
  unfold GivesN at KQ
  have KP := Lib.hid (fun u W (hu : Nodes W u (Fm.enc (fo C))) => pt_any C u W hC hu)
  obtain ⟨A, cA, rfl⟩ := strs_slice hL
  have hal := (Grew.refl w).alloc (.cells #[.slice A L.length cA, .string C] 63)
  have KH := Lib.hid (fun W u (h : Nodes W u (Fm.enc (fo C))) => nodes_head h)
  have e4 : (R == 4) = false := by simpa using h4
  have e6 : (R == 6) = false := by simpa using h6
  have e7 : (R == 7) = false := by simpa using h7
  have e9 : (R == 9) = false := by simpa using h9
  generalize fo C = F at *
  generalize hnx : (Fm.enc F).length = nx at *
  replace hnx := Lib.hid hnx
  clear hL hC h4 h6 h7 h9
  generalize L.length = al at *
  go_enter Tryz.func67, Tryz.ntmps67
  go_wp2_with fail
  refine (KQ.out _).mono ?_
  rintro e wa ⟨va, rfl, hoa, hga, _⟩
  have HN := Lib.hid hoa.nodes
  obtain ⟨b, o, c, rfl, hc, hm, k0⟩ := KH.out _ _ hoa.nodes
  clear hoa
  have ga := hal.trans hga
  go_wp2_with fail
  refine (KP.out _ _ HN.out).mono ?_
  rintro e w2 ⟨A2, n2, c2, rfl, hgb⟩
  have g2 := ga.trans hgb
  go_wp2_with fail
  go_ret2
  exact givesO_none g2

theorem rightGoals_c (R : Int) (v : Value) (L : List ByteArray) (C : ByteArray) (w : World) (hL : Strs w v L) (hC : gp C = true) (hs : C.size ≤ 1048576) (hn : L.length ≤ 1048576) :
    Calls Tryz.prog 67 #[.agg #[v, .string C], .int .i64 R] w (GivesO w (rgl R L C)) := by
  unfold rgl
  by_cases h4 : R = 4
  · subst h4
    by_cases hk : kT C = 2
    · rw [if_pos ⟨rfl, hk⟩]; exact right_4 v L C w hL hC hs hn hk
    · rw [if_neg (fun h => hk h.2), if_neg (by omega), if_neg (by omega), if_neg (by omega)]; exact right_4n v L C w hL hC hs hn hk
  by_cases h6 : R = 6
  · subst h6
    by_cases hk : kT C = 3
    · rw [if_neg (by omega), if_pos ⟨rfl, hk⟩]; exact right_6 v L C w hL hC hs hn hk
    · rw [if_neg (by omega), if_neg (fun h => hk h.2), if_neg (by omega), if_neg (by omega)]; exact right_6n v L C w hL hC hs hn hk
  by_cases h7 : R = 7
  · subst h7
    by_cases hk : kT C = 3
    · rw [if_neg (by omega), if_neg (by omega), if_pos ⟨rfl, hk⟩]; exact right_7 v L C w hL hC hs hn hk
    · rw [if_neg (by omega), if_neg (by omega), if_neg (fun h => hk h.2), if_neg (by omega)]; exact right_7n v L C w hL hC hs hn hk
  by_cases h9 : R = 9
  · subst h9
    by_cases hk : kT C = 4
    · rw [if_neg (by omega), if_neg (by omega), if_neg (by omega), if_pos ⟨rfl, hk⟩]; exact right_9 v L C w hL hC hs hn hk
    · rw [if_neg (by omega), if_neg (by omega), if_neg (by omega), if_neg (fun h => hk h.2)]; exact right_9n v L C w hL hC hs hn hk
  rw [if_neg (fun h => h4 h.1), if_neg (fun h => h6 h.1), if_neg (fun h => h7 h.1), if_neg (fun h => h9 h.1)]
  exact right_x R v L C w hL hC hs h4 h6 h7 h9
end Go.Proofs.YtkjmfkllmljdeaaGreat

/- goals of the program. -/
namespace Go.Proofs.YtkjmfkllmljdeaaGreat
open Go.RowKit

theorem dc_dcd (p : Prop) : dc p = dcd p := rfl
theorem empty_yes : ByteArray.empty.toList.isEmpty = true := by
  have : ([] : List UInt8) = ByteArray.empty.toList := by unfold ByteArray.toList ByteArray.toList.loop; rfl
  rw [← this]; rfl
theorem empty_no {s : ByteArray} (h : s ≠ ByteArray.empty) : s.toList.isEmpty = false := by
  cases hq : s.toList.isEmpty with
  | false => rfl
  | true =>
    exfalso
    have h2 : s.toList = ByteArray.empty.toList := by
      rw [List.isEmpty_iff] at hq
      rw [hq]; exact (by unfold ByteArray.toList ByteArray.toList.loop; rfl : ([] : List UInt8) = ByteArray.empty.toList)
    exact h ((Lib.bytes_beq_iff s ByteArray.empty).1 (by rw [h2]; simp))

set_option maxHeartbeats 4000000 in
theorem goals_1 (v : Value) (L : List ByteArray) (C M : ByteArray) (w : World) (hL : Strs w v L) (hn : L.length ≤ 1048576) :
    Calls Tryz.prog 48 #[.agg #[v, .string C], .int .i64 1, .string M] w (GivesO w (if dcd (M = ByteArray.empty ∧ C ∈ L) = true then some [] else none)) := by
  by_cases hM : M = ByteArray.empty
  · subst hM
    rw [dcd_congr (show (ByteArray.empty = ByteArray.empty ∧ C ∈ L) ↔ C ∈ L from ⟨fun h => h.2, fun h => ⟨rfl, h⟩⟩)]
    have KC := fun W (hW : Grew w W) => containsS_c v L C W (hL.grew hW) (by omega)
    rw [dc_dcd] at KC
    generalize dcd (C ∈ L) = q at *
    have he := empty_yes
    obtain ⟨A, cA, rfl⟩ := strs_slice hL
    have hal := (Grew.refl w).alloc (.cells #[.slice A L.length cA, .string C] 63)
    clear hL hn
    generalize L.length = al at *
    cases q with
    | true =>
      replace KC := Lib.hid KC
      simp only [if_true]
      go_enter Tryz.func48, Tryz.ntmps48
      go_wp2_with fail
      refine (KC.out _ hal).mono ?_
      rintro e w1 ⟨rfl, hg1⟩
      go_wp2_with fail
      go_ret2
      exact givesO_some (Jgs.nil_ _) (hal.trans hg1)
    | false =>
      replace KC := Lib.hid KC
      simp only [Bool.false_eq_true, if_false]
      go_enter Tryz.func48, Tryz.ntmps48
      go_wp2_with fail
      refine (KC.out _ hal).mono ?_
      rintro e w1 ⟨rfl, hg1⟩
      go_wp2_with fail
      go_ret2
      exact givesO_none (hal.trans hg1)
  · rw [dcd_false (fun h => hM h.1), if_neg (by decide)]
    have he := empty_no hM
    obtain ⟨A, cA, rfl⟩ := strs_slice hL
    have hal := (Grew.refl w).alloc (.cells #[.slice A L.length cA, .string C] 63)
    clear hL hn hM
    generalize L.length = al at *
    go_enter Tryz.func48, Tryz.ntmps48
    go_wp2_with fail
    go_ret2
    exact givesO_none hal

set_option maxHeartbeats 4000000 in
theorem goals_2 (v : Value) (L : List ByteArray) (C M : ByteArray) (w : World) (hL : Strs w v L) (hn : L.length ≤ 1048576) :
    Calls Tryz.prog 48 #[.agg #[v, .string C], .int .i64 2, .string M] w (GivesO w (if dcd (M = ByteArray.empty ∧ txF ∈ L) = true then some [] else none)) := by
  by_cases hM : M = ByteArray.empty
  · subst hM
    rw [dcd_congr (show (ByteArray.empty = ByteArray.empty ∧ txF ∈ L) ↔ txF ∈ L from ⟨fun h => h.2, fun h => ⟨rfl, h⟩⟩)]
    have KC := fun W (hW : Grew w W) => containsS_c v L txF W (hL.grew hW) (by omega)
    rw [dc_dcd] at KC
    generalize dcd (txF ∈ L) = q at *
    have he := empty_yes
    obtain ⟨A, cA, rfl⟩ := strs_slice hL
    have hal := (Grew.refl w).alloc (.cells #[.slice A L.length cA, .string C] 63)
    clear hL hn
    generalize L.length = al at *
    cases q with
    | true =>
      replace KC := Lib.hid KC
      simp only [if_true]
      go_enter Tryz.func48, Tryz.ntmps48
      go_wp2_with fail
      refine (KC.out _ hal).mono ?_
      rintro e w1 ⟨rfl, hg1⟩
      go_wp2_with fail
      go_ret2
      exact givesO_some (Jgs.nil_ _) (hal.trans hg1)
    | false =>
      replace KC := Lib.hid KC
      simp only [Bool.false_eq_true, if_false]
      go_enter Tryz.func48, Tryz.ntmps48
      go_wp2_with fail
      refine (KC.out _ hal).mono ?_
      rintro e w1 ⟨rfl, hg1⟩
      go_wp2_with fail
      go_ret2
      exact givesO_none (hal.trans hg1)
  · rw [dcd_false (fun h => hM h.1), if_neg (by decide)]
    have he := empty_no hM
    obtain ⟨A, cA, rfl⟩ := strs_slice hL
    have hal := (Grew.refl w).alloc (.cells #[.slice A L.length cA, .string C] 63)
    clear hL hn hM
    generalize L.length = al at *
    go_enter Tryz.func48, Tryz.ntmps48
    go_wp2_with fail
    go_ret2
    exact givesO_none hal

set_option maxHeartbeats 4000000 in
theorem goals_3 (v : Value) (L : List ByteArray) (C M : ByteArray) (w : World) (hL : Strs w v L) (hn : L.length ≤ 1048576) (hG : ∀ s ∈ L, gp s = true) (hm : M.size ≤ 1048576) :
    Calls Tryz.prog 48 #[.agg #[v, .string C], .int .i64 3, .string M] w (GivesO w (if dcd (M ∈ L) = true then lgl 3 L C M else none)) := by
  have KC := fun W (hW : Grew w W) => containsS_c v L M W (hL.grew hW) (by omega)
  rw [dc_dcd] at KC
  by_cases hM : M ∈ L
  · rw [dcd_true hM, if_pos rfl]
    rw [dcd_true hM] at KC
    replace KC := Lib.hid KC
    have hg := hG M hM
    have KQ := Lib.hid (fun W => parsed_c M W (by omega))
    rw [pf_fo hg] at KQ
    unfold GivesN at KQ
    have KL := Lib.hid (fun u W (hW : Grew w W) (hu : Nodes W u (Fm.enc (fo M))) => leftGoals_c 3 v u L C M W (hL.grew hW) hu hg hn (by decide))
    obtain ⟨A, cA, rfl⟩ := strs_slice hL
    have hal := (Grew.refl w).alloc (.cells #[.slice A L.length cA, .string C] 63)
    clear hL hn hM hG hg
    generalize lgl 3 L C M = O at *
    generalize Fm.enc (fo M) = xs at *
    generalize L.length = al at *
    have b0 : ∀ W, Grew (w.alloc (.cells #[.slice A al cA, .string C] 63)) W → W.cell? ⟨w.heap.size, 0, none⟩ = some (.slice A al cA) := fun W hW => (hW.cell (p := ⟨w.heap.size, 0, none⟩) (by simp)).trans (by simp)
    have b1 : ∀ W, Grew (w.alloc (.cells #[.slice A al cA, .string C] 63)) W → W.cell? ⟨w.heap.size, 1, none⟩ = some (.string C) := fun W hW => (hW.cell (p := ⟨w.heap.size, 1, none⟩) (by simp)).trans (by simp)
    go_enter Tryz.func48, Tryz.ntmps48
    go_wp2_with fail
    refine (KC.out _ hal).mono ?_
    rintro e w2 ⟨rfl, hg2⟩
    have g2 := hal.trans hg2
    have q0 := fun W (hW : Grew w2 W) => b0 W (hg2.trans hW)
    have q1 := fun W (hW : Grew w2 W) => b1 W (hg2.trans hW)
    clear b0 b1
    have hr2 := Grew.refl w2
    have hd2 := hr2.drew
    have gd := g2.trans hd2
    unfold GivesO at KL
    go_wp2_with fail
    go_region_held3 (fun w' => Grew w2 w') (first | with_reducible assumption | exact Grew.alloc ‹_› _ | exact Grew.drew (Grew.alloc (Grew.alloc ‹_› _) _))
      (first
       | (go_at_call 63; refine (KL.out _ _ gq3 HN.out).mono ?_; rintro e v4 ⟨u4, rfl, ⟨A4, n4, c4, rfl⟩, hj4, hg4⟩; have HJ4 := Lib.hid hj4; clear hj4; have gq4 := gq3.trans hg4; have hq4 := hq3.trans hg4)
       | (go_at_call 64; refine (KQ.out _).mono ?_; rintro e v3 ⟨u3, rfl, ho3, hg3, _⟩; have gq3 : Grew w v3 := Grew.trans (by repeat (first | with_reducible assumption | with_reducible refine Grew.alloc ?_ _ | with_reducible refine Grew.drew ?_)) hg3; have hq3 : Grew w2 v3 := Grew.trans (by repeat (first | with_reducible assumption | with_reducible refine Grew.alloc ?_ _ | with_reducible refine Grew.drew ?_)) hg3; have HN := Lib.hid ho3.nodes; obtain ⟨A3, n3, c3, rfl⟩ := (show ∃ A n c, u3 = .slice A n c from by obtain ⟨A, c, e⟩ := nodes_slice ho3.nodes; exact ⟨A, _, c, e⟩); clear ho3))
    all_goals go_wp2_with fail
    all_goals go_ret2
    all_goals exact ⟨_, rfl, ⟨_, _, _, rfl⟩, HJ4.out, gq4⟩
  · rw [dcd_false hM, if_neg (by decide)]
    rw [dcd_false hM] at KC
    replace KC := Lib.hid KC
    obtain ⟨A, cA, rfl⟩ := strs_slice hL
    have hal := (Grew.refl w).alloc (.cells #[.slice A L.length cA, .string C] 63)
    clear hL hn hM hG hm
    generalize L.length = al at *
    have b0 : ∀ W, Grew (w.alloc (.cells #[.slice A al cA, .string C] 63)) W → W.cell? ⟨w.heap.size, 0, none⟩ = some (.slice A al cA) := fun W hW => (hW.cell (p := ⟨w.heap.size, 0, none⟩) (by simp)).trans (by simp)
    have b1 : ∀ W, Grew (w.alloc (.cells #[.slice A al cA, .string C] 63)) W → W.cell? ⟨w.heap.size, 1, none⟩ = some (.string C) := fun W hW => (hW.cell (p := ⟨w.heap.size, 1, none⟩) (by simp)).trans (by simp)
    go_enter Tryz.func48, Tryz.ntmps48
    go_wp2_with fail
    refine (KC.out _ hal).mono ?_
    rintro e w2 ⟨rfl, hg2⟩
    go_wp2_with fail
    go_ret2
    exact givesO_none (hal.trans hg2)

set_option maxHeartbeats 4000000 in
theorem goals_5 (v : Value) (L : List ByteArray) (C M : ByteArray) (w : World) (hL : Strs w v L) (hn : L.length ≤ 1048576) (hG : ∀ s ∈ L, gp s = true) (hm : M.size ≤ 1048576) :
    Calls Tryz.prog 48 #[.agg #[v, .string C], .int .i64 5, .string M] w (GivesO w (if dcd (M ∈ L) = true then lgl 5 L C M else none)) := by
  have KC := fun W (hW : Grew w W) => containsS_c v L M W (hL.grew hW) (by omega)
  rw [dc_dcd] at KC
  by_cases hM : M ∈ L
  · rw [dcd_true hM, if_pos rfl]
    rw [dcd_true hM] at KC
    replace KC := Lib.hid KC
    have hg := hG M hM
    have KQ := Lib.hid (fun W => parsed_c M W (by omega))
    rw [pf_fo hg] at KQ
    unfold GivesN at KQ
    have KL := Lib.hid (fun u W (hW : Grew w W) (hu : Nodes W u (Fm.enc (fo M))) => leftGoals_c 5 v u L C M W (hL.grew hW) hu hg hn (by decide))
    obtain ⟨A, cA, rfl⟩ := strs_slice hL
    have hal := (Grew.refl w).alloc (.cells #[.slice A L.length cA, .string C] 63)
    clear hL hn hM hG hg
    generalize lgl 5 L C M = O at *
    generalize Fm.enc (fo M) = xs at *
    generalize L.length = al at *
    have b0 : ∀ W, Grew (w.alloc (.cells #[.slice A al cA, .string C] 63)) W → W.cell? ⟨w.heap.size, 0, none⟩ = some (.slice A al cA) := fun W hW => (hW.cell (p := ⟨w.heap.size, 0, none⟩) (by simp)).trans (by simp)
    have b1 : ∀ W, Grew (w.alloc (.cells #[.slice A al cA, .string C] 63)) W → W.cell? ⟨w.heap.size, 1, none⟩ = some (.string C) := fun W hW => (hW.cell (p := ⟨w.heap.size, 1, none⟩) (by simp)).trans (by simp)
    go_enter Tryz.func48, Tryz.ntmps48
    go_wp2_with fail
    refine (KC.out _ hal).mono ?_
    rintro e w2 ⟨rfl, hg2⟩
    have g2 := hal.trans hg2
    have q0 := fun W (hW : Grew w2 W) => b0 W (hg2.trans hW)
    have q1 := fun W (hW : Grew w2 W) => b1 W (hg2.trans hW)
    clear b0 b1
    have hr2 := Grew.refl w2
    have hd2 := hr2.drew
    have gd := g2.trans hd2
    unfold GivesO at KL
    go_wp2_with fail
    go_region_held3 (fun w' => Grew w2 w') (first | with_reducible assumption | exact Grew.alloc ‹_› _ | exact Grew.drew (Grew.alloc (Grew.alloc ‹_› _) _))
      (first
       | (go_at_call 63; refine (KL.out _ _ gq3 HN.out).mono ?_; rintro e v4 ⟨u4, rfl, ⟨A4, n4, c4, rfl⟩, hj4, hg4⟩; have HJ4 := Lib.hid hj4; clear hj4; have gq4 := gq3.trans hg4; have hq4 := hq3.trans hg4)
       | (go_at_call 64; refine (KQ.out _).mono ?_; rintro e v3 ⟨u3, rfl, ho3, hg3, _⟩; have gq3 : Grew w v3 := Grew.trans (by repeat (first | with_reducible assumption | with_reducible refine Grew.alloc ?_ _ | with_reducible refine Grew.drew ?_)) hg3; have hq3 : Grew w2 v3 := Grew.trans (by repeat (first | with_reducible assumption | with_reducible refine Grew.alloc ?_ _ | with_reducible refine Grew.drew ?_)) hg3; have HN := Lib.hid ho3.nodes; obtain ⟨A3, n3, c3, rfl⟩ := (show ∃ A n c, u3 = .slice A n c from by obtain ⟨A, c, e⟩ := nodes_slice ho3.nodes; exact ⟨A, _, c, e⟩); clear ho3))
    all_goals go_wp2_with fail
    all_goals go_ret2
    all_goals exact ⟨_, rfl, ⟨_, _, _, rfl⟩, HJ4.out, gq4⟩
  · rw [dcd_false hM, if_neg (by decide)]
    rw [dcd_false hM] at KC
    replace KC := Lib.hid KC
    obtain ⟨A, cA, rfl⟩ := strs_slice hL
    have hal := (Grew.refl w).alloc (.cells #[.slice A L.length cA, .string C] 63)
    clear hL hn hM hG hm
    generalize L.length = al at *
    have b0 : ∀ W, Grew (w.alloc (.cells #[.slice A al cA, .string C] 63)) W → W.cell? ⟨w.heap.size, 0, none⟩ = some (.slice A al cA) := fun W hW => (hW.cell (p := ⟨w.heap.size, 0, none⟩) (by simp)).trans (by simp)
    have b1 : ∀ W, Grew (w.alloc (.cells #[.slice A al cA, .string C] 63)) W → W.cell? ⟨w.heap.size, 1, none⟩ = some (.string C) := fun W hW => (hW.cell (p := ⟨w.heap.size, 1, none⟩) (by simp)).trans (by simp)
    go_enter Tryz.func48, Tryz.ntmps48
    go_wp2_with fail
    refine (KC.out _ hal).mono ?_
    rintro e w2 ⟨rfl, hg2⟩
    go_wp2_with fail
    go_ret2
    exact givesO_none (hal.trans hg2)

set_option maxHeartbeats 4000000 in
theorem goals_8 (v : Value) (L : List ByteArray) (C M : ByteArray) (w : World) (hL : Strs w v L) (hn : L.length ≤ 1048576) (hG : ∀ s ∈ L, gp s = true) (hm : M.size ≤ 1048576) :
    Calls Tryz.prog 48 #[.agg #[v, .string C], .int .i64 8, .string M] w (GivesO w (if dcd (M ∈ L) = true then lgl 8 L C M else none)) := by
  have KC := fun W (hW : Grew w W) => containsS_c v L M W (hL.grew hW) (by omega)
  rw [dc_dcd] at KC
  by_cases hM : M ∈ L
  · rw [dcd_true hM, if_pos rfl]
    rw [dcd_true hM] at KC
    replace KC := Lib.hid KC
    have hg := hG M hM
    have KQ := Lib.hid (fun W => parsed_c M W (by omega))
    rw [pf_fo hg] at KQ
    unfold GivesN at KQ
    have KL := Lib.hid (fun u W (hW : Grew w W) (hu : Nodes W u (Fm.enc (fo M))) => leftGoals_c 8 v u L C M W (hL.grew hW) hu hg hn (by decide))
    obtain ⟨A, cA, rfl⟩ := strs_slice hL
    have hal := (Grew.refl w).alloc (.cells #[.slice A L.length cA, .string C] 63)
    clear hL hn hM hG hg
    generalize lgl 8 L C M = O at *
    generalize Fm.enc (fo M) = xs at *
    generalize L.length = al at *
    have b0 : ∀ W, Grew (w.alloc (.cells #[.slice A al cA, .string C] 63)) W → W.cell? ⟨w.heap.size, 0, none⟩ = some (.slice A al cA) := fun W hW => (hW.cell (p := ⟨w.heap.size, 0, none⟩) (by simp)).trans (by simp)
    have b1 : ∀ W, Grew (w.alloc (.cells #[.slice A al cA, .string C] 63)) W → W.cell? ⟨w.heap.size, 1, none⟩ = some (.string C) := fun W hW => (hW.cell (p := ⟨w.heap.size, 1, none⟩) (by simp)).trans (by simp)
    go_enter Tryz.func48, Tryz.ntmps48
    go_wp2_with fail
    refine (KC.out _ hal).mono ?_
    rintro e w2 ⟨rfl, hg2⟩
    have g2 := hal.trans hg2
    have q0 := fun W (hW : Grew w2 W) => b0 W (hg2.trans hW)
    have q1 := fun W (hW : Grew w2 W) => b1 W (hg2.trans hW)
    clear b0 b1
    have hr2 := Grew.refl w2
    have hd2 := hr2.drew
    have gd := g2.trans hd2
    unfold GivesO at KL
    go_wp2_with fail
    go_region_held3 (fun w' => Grew w2 w') (first | with_reducible assumption | exact Grew.alloc ‹_› _ | exact Grew.drew (Grew.alloc (Grew.alloc ‹_› _) _))
      (first
       | (go_at_call 63; refine (KL.out _ _ gq3 HN.out).mono ?_; rintro e v4 ⟨u4, rfl, ⟨A4, n4, c4, rfl⟩, hj4, hg4⟩; have HJ4 := Lib.hid hj4; clear hj4; have gq4 := gq3.trans hg4; have hq4 := hq3.trans hg4)
       | (go_at_call 64; refine (KQ.out _).mono ?_; rintro e v3 ⟨u3, rfl, ho3, hg3, _⟩; have gq3 : Grew w v3 := Grew.trans (by repeat (first | with_reducible assumption | with_reducible refine Grew.alloc ?_ _ | with_reducible refine Grew.drew ?_)) hg3; have hq3 : Grew w2 v3 := Grew.trans (by repeat (first | with_reducible assumption | with_reducible refine Grew.alloc ?_ _ | with_reducible refine Grew.drew ?_)) hg3; have HN := Lib.hid ho3.nodes; obtain ⟨A3, n3, c3, rfl⟩ := (show ∃ A n c, u3 = .slice A n c from by obtain ⟨A, c, e⟩ := nodes_slice ho3.nodes; exact ⟨A, _, c, e⟩); clear ho3))
    all_goals go_wp2_with fail
    all_goals go_ret2
    all_goals exact ⟨_, rfl, ⟨_, _, _, rfl⟩, HJ4.out, gq4⟩
  · rw [dcd_false hM, if_neg (by decide)]
    rw [dcd_false hM] at KC
    replace KC := Lib.hid KC
    obtain ⟨A, cA, rfl⟩ := strs_slice hL
    have hal := (Grew.refl w).alloc (.cells #[.slice A L.length cA, .string C] 63)
    clear hL hn hM hG hm
    generalize L.length = al at *
    have b0 : ∀ W, Grew (w.alloc (.cells #[.slice A al cA, .string C] 63)) W → W.cell? ⟨w.heap.size, 0, none⟩ = some (.slice A al cA) := fun W hW => (hW.cell (p := ⟨w.heap.size, 0, none⟩) (by simp)).trans (by simp)
    have b1 : ∀ W, Grew (w.alloc (.cells #[.slice A al cA, .string C] 63)) W → W.cell? ⟨w.heap.size, 1, none⟩ = some (.string C) := fun W hW => (hW.cell (p := ⟨w.heap.size, 1, none⟩) (by simp)).trans (by simp)
    go_enter Tryz.func48, Tryz.ntmps48
    go_wp2_with fail
    refine (KC.out _ hal).mono ?_
    rintro e w2 ⟨rfl, hg2⟩
    go_wp2_with fail
    go_ret2
    exact givesO_none (hal.trans hg2)

set_option maxHeartbeats 4000000 in
theorem goals_11 (v : Value) (L : List ByteArray) (C M : ByteArray) (w : World) (hL : Strs w v L) (hn : L.length ≤ 1048576) (hm : M.size ≤ 1048576) :
    Calls Tryz.prog 48 #[.agg #[v, .string C], .int .i64 11, .string M] w (GivesO w (if gp M = true then some [(L, M), (putS (L ++ [M]), C)] else none)) := by
  have KG := fun W => isPlainText_c M W (by omega)
  have KI := Lib.hid (fun K u W (hW : Grew w W) (hu : Strs W u K) (hl : K.length ≤ 2) => withS_c v u L K C W (hL.grew hW) hu (by omega))
  have HS := Lib.hid hL
  obtain ⟨A, cA, rfl⟩ := strs_slice hL
  have hal := (Grew.refl w).alloc (.cells #[.slice A L.length cA, .string C] 63)
  have KV := Lib.hid (fun s W => proving_c A L.length cA C s W)
  clear hL
  have hr := Grew.refl w
  generalize hal2 : L.length = al at *
  replace hal2 := Lib.hid hal2
  cases hq : gp M with
  | true =>
    rw [hq] at KG
    replace KG := Lib.hid KG
    clear hq
    simp only [if_true]
    have hb0 : ∀ W, Grew (w.alloc (.cells #[.slice A al cA, .string C] 63)) W → W.cell? ⟨w.heap.size, 0, none⟩ = some (.slice A al cA) := fun W hW => (hW.cell (p := ⟨w.heap.size, 0, none⟩) (by simp)).trans (by simp)
    have hb1 : ∀ W, Grew (w.alloc (.cells #[.slice A al cA, .string C] 63)) W → W.cell? ⟨w.heap.size, 1, none⟩ = some (.string C) := fun W hW => (hW.cell (p := ⟨w.heap.size, 1, none⟩) (by simp)).trans (by simp)
    go_enter Tryz.func48, Tryz.ntmps48
    go_wp2_with fail
    generalize hw2 : w.alloc (.cells #[.slice A al cA, .string C] 63) = w2 at *
    clear hw2
    have hr2 := Grew.refl w2
    have hd2 := hr2.drew
    have gd := hal.trans hd2
    go_region_held3 (fun w' => Grew w2 w') (first | with_reducible assumption | exact Grew.alloc ‹_› _ | exact Grew.drew (Grew.alloc (Grew.alloc ‹_› _) _))
      (first
       | (go_at_call 59; have tt5 := tg4; refine (KG.out _).mono ?_; rintro e v5 ⟨rfl, hg5⟩; have gq5 : Grew w v5 := Grew.trans (by repeat (first | with_reducible assumption | with_reducible refine Grew.alloc ?_ _ | with_reducible refine Grew.drew ?_)) hg5; have hq5 : Grew w2 v5 := Grew.trans (by repeat (first | with_reducible assumption | with_reducible refine Grew.alloc ?_ _ | with_reducible refine Grew.drew ?_)) hg5; have hp5 : Grew v4 v5 := (by first | with_reducible exact hg5 | with_reducible exact Grew.of_alloc hg5))
       | (go_at_call 66; have tt4 := tg3; refine (KI.out [M] _ _ (by repeat (first | with_reducible assumption | with_reducible refine Grew.alloc ?_ _ | with_reducible refine Grew.drew ?_)) (by first | exact strs_at1 (by simp <;> omega) (by simp) | exact strs_at1 (Nat.lt_of_lt_of_le (by simp <;> omega) hg3.size) ((hg3.cell (by simp <;> omega)).trans (by simp))) (by simp)).mono ?_; rintro e v4 ⟨u4, rfl, hu4, hg4⟩; have gq4 : Grew w v4 := Grew.trans (by repeat (first | with_reducible assumption | with_reducible refine Grew.alloc ?_ _ | with_reducible refine Grew.drew ?_)) hg4; have hq4 : Grew w2 v4 := Grew.trans (by repeat (first | with_reducible assumption | with_reducible refine Grew.alloc ?_ _ | with_reducible refine Grew.drew ?_)) hg4; have tg4 := trivial; have HU4 := Lib.hid hu4; obtain ⟨Au4, cu4, rfl⟩ := strs_slice hu4; clear hu4)
       | (go_at_call 65; refine (KV.out M _).mono ?_; rintro e v3 ⟨rfl, hg3⟩; have gq3 : Grew w v3 := Grew.trans (by repeat (first | with_reducible assumption | with_reducible refine Grew.alloc ?_ _ | with_reducible refine Grew.drew ?_)) hg3; have hq3 : Grew w2 v3 := Grew.trans (by repeat (first | with_reducible assumption | with_reducible refine Grew.alloc ?_ _ | with_reducible refine Grew.drew ?_)) hg3; have tg3 := trivial))
    all_goals go_wp2_with fail
    all_goals go_ret2
    all_goals first | (have HL := Lib.hid (HS.out.grew gq5); exact givesO_some (jgs_lit2 _ _ _ _ _ _ _ _ HL.out (HU4.out.grew hp5)) (gq5.alloc _)) | (have HL := Lib.hid (HS.out.grew gq4); exact givesO_some ((jgs_lit2 _ _ _ _ _ _ _ _ HL.out HU4.out).grew hg5) gq5)
  | false =>
    rw [hq] at KG
    replace KG := Lib.hid KG
    clear hq
    simp only [Bool.false_eq_true, if_false]
    have hb0 : ∀ W, Grew (w.alloc (.cells #[.slice A al cA, .string C] 63)) W → W.cell? ⟨w.heap.size, 0, none⟩ = some (.slice A al cA) := fun W hW => (hW.cell (p := ⟨w.heap.size, 0, none⟩) (by simp)).trans (by simp)
    have hb1 : ∀ W, Grew (w.alloc (.cells #[.slice A al cA, .string C] 63)) W → W.cell? ⟨w.heap.size, 1, none⟩ = some (.string C) := fun W hW => (hW.cell (p := ⟨w.heap.size, 1, none⟩) (by simp)).trans (by simp)
    go_enter Tryz.func48, Tryz.ntmps48
    go_wp2_with fail
    generalize hw2 : w.alloc (.cells #[.slice A al cA, .string C] 63) = w2 at *
    clear hw2
    have hr2 := Grew.refl w2
    have hd2 := hr2.drew
    have gd := hal.trans hd2
    go_region_held3 (fun w' => Grew w2 w') (first | with_reducible assumption | exact Grew.alloc ‹_› _ | exact Grew.drew (Grew.alloc (Grew.alloc ‹_› _) _))
      (first
       | (go_at_call 59; have tt5 := tg4; refine (KG.out _).mono ?_; rintro e v5 ⟨rfl, hg5⟩; have gq5 : Grew w v5 := Grew.trans (by repeat (first | with_reducible assumption | with_reducible refine Grew.alloc ?_ _ | with_reducible refine Grew.drew ?_)) hg5; have hq5 : Grew w2 v5 := Grew.trans (by repeat (first | with_reducible assumption | with_reducible refine Grew.alloc ?_ _ | with_reducible refine Grew.drew ?_)) hg5; have hp5 : Grew v4 v5 := (by first | with_reducible exact hg5 | with_reducible exact Grew.of_alloc hg5))
       | (go_at_call 66; have tt4 := tg3; refine (KI.out [M] _ _ (by repeat (first | with_reducible assumption | with_reducible refine Grew.alloc ?_ _ | with_reducible refine Grew.drew ?_)) (by first | exact strs_at1 (by simp <;> omega) (by simp) | exact strs_at1 (Nat.lt_of_lt_of_le (by simp <;> omega) hg3.size) ((hg3.cell (by simp <;> omega)).trans (by simp))) (by simp)).mono ?_; rintro e v4 ⟨u4, rfl, hu4, hg4⟩; have gq4 : Grew w v4 := Grew.trans (by repeat (first | with_reducible assumption | with_reducible refine Grew.alloc ?_ _ | with_reducible refine Grew.drew ?_)) hg4; have hq4 : Grew w2 v4 := Grew.trans (by repeat (first | with_reducible assumption | with_reducible refine Grew.alloc ?_ _ | with_reducible refine Grew.drew ?_)) hg4; have tg4 := trivial; have HU4 := Lib.hid hu4; obtain ⟨Au4, cu4, rfl⟩ := strs_slice hu4; clear hu4)
       | (go_at_call 65; refine (KV.out M _).mono ?_; rintro e v3 ⟨rfl, hg3⟩; have gq3 : Grew w v3 := Grew.trans (by repeat (first | with_reducible assumption | with_reducible refine Grew.alloc ?_ _ | with_reducible refine Grew.drew ?_)) hg3; have hq3 : Grew w2 v3 := Grew.trans (by repeat (first | with_reducible assumption | with_reducible refine Grew.alloc ?_ _ | with_reducible refine Grew.drew ?_)) hg3; have tg3 := trivial))
    all_goals go_wp2_with fail
    all_goals go_ret2
    all_goals exact givesO_none (by repeat (first | with_reducible assumption | with_reducible refine Grew.alloc ?_ _ | with_reducible refine Grew.drew ?_))

set_option maxHeartbeats 4000000 in
theorem goals_x (R : Int) (v : Value) (L : List ByteArray) (C M : ByteArray) (w : World) (hL : Strs w v L) (hn : L.length ≤ 1048576) (hC : gp C = true) (hs : C.size ≤ 1048576) (h1 : R ≠ 1) (h2 : R ≠ 2) (h3 : R ≠ 3) (h5 : R ≠ 5) (h8 : R ≠ 8) (h11 : R ≠ 11) :
    Calls Tryz.prog 48 #[.agg #[v, .string C], .int .i64 R, .string M] w (GivesO w (if dcd (M = ByteArray.empty) = true then rgl R L C else none)) := by
  have KR := Lib.hid (fun W (hW : Grew w W) => rightGoals_c R v L C W (hL.grew hW) hC hs hn)
  obtain ⟨A, cA, rfl⟩ := strs_slice hL
  have hal := (Grew.refl w).alloc (.cells #[.slice A L.length cA, .string C] 63)
  have e1 : (R == 1) = false := by simpa using h1
  have e2 : (R == 2) = false := by simpa using h2
  have e3 : (R == 3) = false := by simpa using h3
  have e5 : (R == 5) = false := by simpa using h5
  have e8 : (R == 8) = false := by simpa using h8
  have e11 : (R == 11) = false := by simpa using h11
  clear hL hn hC hs h1 h2 h3 h5 h8 h11
  generalize rgl R L C = O at *
  generalize L.length = al at *
  unfold GivesO at KR
  have b0 : ∀ W, Grew (w.alloc (.cells #[.slice A al cA, .string C] 63)) W → W.cell? ⟨w.heap.size, 0, none⟩ = some (.slice A al cA) := fun W hW => (hW.cell (p := ⟨w.heap.size, 0, none⟩) (by simp)).trans (by simp)
  have b1 : ∀ W, Grew (w.alloc (.cells #[.slice A al cA, .string C] 63)) W → W.cell? ⟨w.heap.size, 1, none⟩ = some (.string C) := fun W hW => (hW.cell (p := ⟨w.heap.size, 1, none⟩) (by simp)).trans (by simp)
  by_cases hM : M = ByteArray.empty
  · subst hM
    rw [dcd_true rfl, if_pos rfl]
    have he := empty_yes
    cases hO : O.isSome with
    | true =>
      rw [hO] at KR
      go_enter Tryz.func48, Tryz.ntmps48
      go_wp2_with fail
      refine (KR.out _ hal).mono ?_
      rintro e w2 ⟨u, rfl, ⟨A2, n2, c2, rfl⟩, hj, hg2⟩
      have HJ := Lib.hid hj
      clear hj
      go_wp2_with fail
      go_ret2
      exact ⟨_, by rw [hO]; rfl, ⟨_, _, _, rfl⟩, HJ.out, hal.trans hg2⟩
    | false =>
      rw [hO] at KR
      go_enter Tryz.func48, Tryz.ntmps48
      go_wp2_with fail
      refine (KR.out _ hal).mono ?_
      rintro e w2 ⟨u, rfl, ⟨A2, n2, c2, rfl⟩, hj, hg2⟩
      have HJ := Lib.hid hj
      clear hj
      go_wp2_with fail
      go_ret2
      exact ⟨_, by rw [hO]; rfl, ⟨_, _, _, rfl⟩, HJ.out, hal.trans hg2⟩
  · rw [dcd_false hM, if_neg (by decide)]
    have he := empty_no hM
    clear hM
    cases hO : O.isSome with
    | true =>
      rw [hO] at KR
      go_enter Tryz.func48, Tryz.ntmps48
      go_wp2_with fail
      refine (KR.out _ hal).mono ?_
      rintro e w2 ⟨u, rfl, ⟨A2, n2, c2, rfl⟩, hj, hg2⟩
      have HJ := Lib.hid hj
      clear hj
      go_wp2_with fail
      go_ret2
      exact givesO_none (hal.trans hg2)
    | false =>
      rw [hO] at KR
      go_enter Tryz.func48, Tryz.ntmps48
      go_wp2_with fail
      refine (KR.out _ hal).mono ?_
      rintro e w2 ⟨u, rfl, ⟨A2, n2, c2, rfl⟩, hj, hg2⟩
      have HJ := Lib.hid hj
      clear hj
      go_wp2_with fail
      go_ret2
      exact givesO_none (hal.trans hg2)

theorem goals_c (R : Int) (v : Value) (L : List ByteArray) (C M : ByteArray) (w : World) (hL : Strs w v L) (hn : L.length ≤ 1048576) (hG : ∀ s ∈ L, gp s = true) (hC : gp C = true) (hs : C.size ≤ 1048576) (hm : M.size ≤ 1048576) :
    Calls Tryz.prog 48 #[.agg #[v, .string C], .int .i64 R, .string M] w (GivesO w (gls R L C M)) := by
  unfold gls
  by_cases h1 : R = 1
  · subst h1; rw [if_pos rfl]; exact goals_1 v L C M w hL hn
  by_cases h2 : R = 2
  · subst h2; rw [if_neg (by omega), if_pos rfl]; exact goals_2 v L C M w hL hn
  by_cases h3 : R = 3
  · subst h3; rw [if_neg (by omega), if_neg (by omega), if_pos (by omega)]; exact goals_3 v L C M w hL hn hG hm
  by_cases h5 : R = 5
  · subst h5; rw [if_neg (by omega), if_neg (by omega), if_pos (by omega)]; exact goals_5 v L C M w hL hn hG hm
  by_cases h8 : R = 8
  · subst h8; rw [if_neg (by omega), if_neg (by omega), if_pos (by omega)]; exact goals_8 v L C M w hL hn hG hm
  by_cases h11 : R = 11
  · subst h11; rw [if_neg (by omega), if_neg (by omega), if_neg (by omega), if_pos rfl]; exact goals_11 v L C M w hL hn hm
  rw [if_neg h1, if_neg h2, if_neg (by omega), if_neg h11]
  exact goals_x R v L C M w hL hn hC hs h1 h2 h3 h5 h8 h11
end Go.Proofs.YtkjmfkllmljdeaaGreat

/- A number between two bounds. -/
namespace Go.Proofs.YtkjmfkllmljdeaaGreat
open Go.RowKit

theorem l01In_c (k lo hi : Int) (w : World) : Calls Tryz.prog 20 #[.int .i64 k, .int .i64 lo, .int .i64 hi] w fun e w' => e = .returned (.bool (decide (lo ≤ k ∧ k ≤ hi))) ∧ Grew w w' := by
  by_cases h : lo ≤ k
  · have hd : decide (lo ≤ k ∧ k ≤ hi) = decide (k ≤ hi) := by simp [h]
    rw [hd]
    go_enter Tryz.func20, Tryz.ntmps20
    go_wp2_with fail
    go_ret
    exact ⟨rfl, Grew.refl _⟩
  · have hd : decide (lo ≤ k ∧ k ≤ hi) = false := by simp [h]
    rw [hd]
    go_enter Tryz.func20, Tryz.ntmps20
    go_wp2_with fail
    go_ret
    exact ⟨rfl, Grew.refl _⟩

theorem inRange_c (k lo hi : Int) (w : World) : Calls Tryz.prog 45 #[.int .i64 k, .int .i64 lo, .int .i64 hi] w fun e w' => e = .returned (.bool (decide (lo ≤ k ∧ k ≤ hi))) ∧ Grew w w' := by
  by_cases h : lo ≤ k
  · have hd : decide (lo ≤ k ∧ k ≤ hi) = decide (k ≤ hi) := by simp [h]
    rw [hd]
    go_enter Tryz.func45, Tryz.ntmps45
    go_wp2_with fail
    go_ret
    exact ⟨rfl, Grew.refl _⟩
  · have hd : decide (lo ≤ k ∧ k ≤ hi) = false := by simp [h]
    rw [hd]
    go_enter Tryz.func45, Tryz.ntmps45
    go_wp2_with fail
    go_ret
    exact ⟨rfl, Grew.refl _⟩
end Go.Proofs.YtkjmfkllmljdeaaGreat

/- l22Split, l22Need, l22Counts, l22Uses of the reference; when a rule fits. -/
namespace Go.Proofs.YtkjmfkllmljdeaaGreat
open Go.RowKit

theorem l22Split_yes (k : Int) (A p q : Fm.Tree) (w : World) (hA : FmOk A) (hk : kindOf A = k) (h2 : TwoF A p q) :
    Calls Tryz.prog 55 #[.string (tx A), .int .i64 k] w fun e w' => e = .returned (.tuple #[.string (tx p), .string (tx q), .bool true]) ∧ Grew w w' := by
  have KA := fun w => l22Formula_c (tx A) w (by have := tx_size hA.1; omega)
  unfold GivesP at KA
  rw [gp_tx hA, tx_pf hA.1] at KA
  replace KA := Lib.hid KA
  have hl := h2.len
  have hA1 := hA.1
  have KL := Lib.hid (fun v w h => l02Left_c v (Fm.enc A) p w h (by omega) (at_first h2))
  have KR := Lib.hid (fun v w h => l02Right_c v (Fm.enc A) p q w h (by omega) (at_first h2) (at_second h2) hl)
  have KP := Lib.hid (fun v w h => l02Text_c p v w h (by omega))
  have KQ := Lib.hid (fun v w h => l02Text_c q v w h (by omega))
  have e1 : bs (Fm.txt p 0) = tx p := rfl
  have e2 : bs (Fm.txt q 0) = tx q := rfl
  unfold Says at KP KQ
  rw [e1] at KP
  rw [e2] at KQ
  clear e1 e2 hl
  go_enter Tryz.func55, Tryz.ntmps55
  go_wp2_with fail
  refine (KA.out _).mono ?_
  rintro e w1 ⟨v1, rfl, ho1, hg1⟩
  have HA1 := Lib.hid ho1.nodes
  obtain ⟨b1, o1, c1, rfl, hc1, hm1, k1⟩ := nodes_head ho1.nodes
  rw [hk] at k1
  clear ho1
  have r1 := Grew.refl w1
  have d1 := r1.drew
  have hpos := Fm.enc_pos A
  go_wp2_with fail
  refine (KL.out _ _ HA1.out).mono ?_
  rintro e w2 ⟨v2, rfl, hn2, hg2⟩
  have H2 := Lib.hid hn2
  obtain ⟨A2, c2, rfl⟩ := nodes_slice hn2
  clear hn2
  go_wp2_with fail
  refine (KP.out _ _ H2.out).mono ?_
  rintro e w3 ⟨rfl, hg3⟩
  have g13 := hg2.trans hg3
  go_wp2_with fail
  refine (KR.out _ _ (HA1.out.grew g13)).mono ?_
  rintro e w4 ⟨v4, rfl, hn4, hg4⟩
  have H4 := Lib.hid hn4
  obtain ⟨A4, c4, rfl⟩ := nodes_slice hn4
  clear hn4
  go_wp2_with fail
  refine (KQ.out _ _ H4.out).mono ?_
  rintro e w5 ⟨rfl, hg5⟩
  go_wp2_with fail
  go_ret3
  exact ⟨rfl, ((hg1.trans g13).trans hg4).trans hg5⟩

theorem l22Split_no (k : Int) (A : Fm.Tree) (w : World) (hA : FmOk A) (hk : kindOf A ≠ k) :
    Calls Tryz.prog 55 #[.string (tx A), .int .i64 k] w fun e w' => e = .returned (.tuple #[.string ByteArray.empty, .string ByteArray.empty, .bool false]) ∧ Grew w w' := by
  have KA := fun w => l22Formula_c (tx A) w (by have := tx_size hA.1; omega)
  unfold GivesP at KA
  rw [gp_tx hA, tx_pf hA.1] at KA
  replace KA := Lib.hid KA
  have hA1 := hA.1
  have hkk : (kindOf A != k) = true := by simpa using hk
  go_enter Tryz.func55, Tryz.ntmps55
  go_wp2_with fail
  refine (KA.out _).mono ?_
  rintro e w1 ⟨v1, rfl, ho1, hg1⟩
  have HA1 := Lib.hid ho1.nodes
  obtain ⟨b1, o1, c1, rfl, hc1, hm1, k1⟩ := nodes_head ho1.nodes
  clear ho1
  have r1 := Grew.refl w1
  have d1 := r1.drew
  have hpos := Fm.enc_pos A
  generalize kindOf A = kk at *
  go_wp2_with fail
  go_ret3
  exact ⟨rfl, hg1⟩

/-- The text is that of a formula of a kind. -/
def isK (s : ByteArray) (k : Int) : Prop := gp s = true ∧ kT s = k
theorem split_yes (k : Int) (s : ByteArray) (w : World) (h : isK s k) (h3 : k = 2 ∨ k = 3 ∨ k = 4) :
    Calls Tryz.prog 55 #[.string s, .int .i64 k] w fun e w' => e = .returned (.tuple #[.string (pl s), .string (pr s), .bool true]) ∧ Grew w w' := by
  obtain ⟨h1, hk⟩ := h
  obtain ⟨h4, h5, h6⟩ := two_of h1 (by rw [hk]; exact h3)
  have h7 := l22Split_yes k (fo s) (lft (fo s)) (rgt (fo s)) w h5 hk h4
  rw [h6] at h7
  exact h7
theorem split_no (k : Int) (s : ByteArray) (w : World) (hs : s.size ≤ 1048576) (h : ¬ isK s k) :
    Calls Tryz.prog 55 #[.string s, .int .i64 k] w fun e w' => e = .returned (.tuple #[.string ByteArray.empty, .string ByteArray.empty, .bool false]) ∧ Grew w w' := by
  by_cases h1 : gp s = true
  · obtain ⟨h5, h6⟩ := fo_ok h1
    have h7 := l22Split_no k (fo s) w h5 (fun hk => h ⟨h1, hk⟩)
    rw [h6] at h7
    exact h7
  · have hg : gp s = false := by simpa using h1
    have KA := fun w => l22Formula_c s w (by omega)
    unfold GivesP at KA
    rw [hg] at KA
    replace KA := Lib.hid KA
    clear h h1 hg
    generalize (Fm.pf s).1 = xs at *
    go_enter Tryz.func55, Tryz.ntmps55
    go_wp2_with fail
    refine (KA.out _).mono ?_
    rintro e w1 ⟨v1, rfl, ho1, hg1⟩
    obtain ⟨A1, c1, rfl⟩ := nodes_slice ho1.nodes
    clear ho1
    go_wp2_with fail
    go_ret3
    exact ⟨rfl, hg1⟩
theorem needJ_c (y : Jf) (up ua v : Value) (K : List ByteArray) (r : ByteArray) (w : World) (hup : Ints w up y.2.1) (hs : Strs w ua y.2.2.1) (hv : Strs w v K) :
    Calls Tryz.prog 56 #[.agg #[.int .i64 y.1, up, ua, .string y.2.2.2.1, .string y.2.2.2.2], v, .string r] w fun e w' => e = .returned (.bool (dcd (js y = (K, r)))) ∧ Grew w w' := by
  have KW := Lib.hid (fun W (hW : Grew w W) => l01Words_c ua v y.2.2.1 K W (hs.grew hW) (hv.grew hW))
  obtain ⟨VP, cp, rfl⟩ := ints_slice hup
  obtain ⟨UA, ca, rfl⟩ := strs_slice hs
  obtain ⟨VK, ck, rfl⟩ := strs_slice hv
  have hal := (Grew.refl w).alloc (.cells #[.int .i64 y.1, .slice VP y.2.1.length cp, .slice UA y.2.2.1.length ca, .string y.2.2.2.1, .string y.2.2.2.2] 42)
  have hiff : js y = (K, r) ↔ (y.2.2.2.1 = r ∧ y.2.2.1 = K) := by
    unfold js
    rw [Prod.mk.injEq]
    exact ⟨fun h => ⟨h.2, h.1⟩, fun h => ⟨h.2, h.1⟩⟩
  rw [dcd_congr hiff]
  clear hup hs hv hiff
  generalize y.2.1.length = pl0 at *
  by_cases h : y.2.2.2.1 = r
  · rw [dcd_congr (show (y.2.2.2.1 = r ∧ y.2.2.1 = K) ↔ y.2.2.1 = K from ⟨fun h => h.2, fun h2 => ⟨h, h2⟩⟩)]
    subst h
    change Hid (∀ W, Grew w W → Calls _ _ _ W (fun e w' => e = .returned (.bool (dcd (y.2.2.1 = K))) ∧ Grew W w')) at KW
    generalize dcd (y.2.2.1 = K) = R at *
    generalize y.2.2.1.length = al at *
    generalize K.length = kl at *
    have hb : (y.2.2.2.1.toList == y.2.2.2.1.toList) = true := by simp
    generalize y.2.2.2.1 = C at *
    go_enter Tryz.func56, Tryz.ntmps56
    go_wp2_with fail
    refine (KW.out _ hal).mono ?_
    rintro e w1 ⟨rfl, hg1⟩
    go_wp2_with fail
    go_ret
    exact ⟨rfl, hal.trans hg1⟩
  · rw [dcd_false (fun h2 => h h2.1)]
    have hb := bytes_ne h
    clear h KW
    generalize y.2.2.1.length = al at *
    generalize K.length = kl at *
    generalize y.2.2.2.1 = C at *
    go_enter Tryz.func56, Tryz.ntmps56
    go_wp2_with fail
    go_ret
    exact ⟨rfl, hal⟩
/-- How many premises a rule has. -/
def cntJ (r : Int) : Int := if r = 1 ∨ r = 2 then 0 else if r = 4 ∨ r = 5 ∨ r = 8 ∨ r = 11 then 2 else if 1 ≤ r ∧ r ≤ 11 then 1 else -1
theorem l22Counts_c (r : Int) (w : World) : Calls Tryz.prog 40 #[.int .i64 r] w fun e w' => e = .returned (.int .i64 (cntJ r)) ∧ Grew w w' := by
  by_cases h1 : r = 1
  · subst h1
    go_enter Tryz.func40, Tryz.ntmps40
    go_wp2_with fail
    go_ret
    exact ⟨rfl, Grew.refl _⟩
  by_cases h2 : r = 2
  · subst h2
    go_enter Tryz.func40, Tryz.ntmps40
    go_wp2_with fail
    go_ret
    exact ⟨rfl, Grew.refl _⟩
  by_cases h4 : r = 4
  · subst h4
    go_enter Tryz.func40, Tryz.ntmps40
    go_wp2_with fail
    go_ret
    exact ⟨rfl, Grew.refl _⟩
  by_cases h5 : r = 5
  · subst h5
    go_enter Tryz.func40, Tryz.ntmps40
    go_wp2_with fail
    go_ret
    exact ⟨rfl, Grew.refl _⟩
  by_cases h8 : r = 8
  · subst h8
    go_enter Tryz.func40, Tryz.ntmps40
    go_wp2_with fail
    go_ret
    exact ⟨rfl, Grew.refl _⟩
  by_cases h11 : r = 11
  · subst h11
    go_enter Tryz.func40, Tryz.ntmps40
    go_wp2_with fail
    go_ret
    exact ⟨rfl, Grew.refl _⟩
  have e1 : (r == 1) = false := by simpa using h1
  have e2 : (r == 2) = false := by simpa using h2
  have e4 : (r == 4) = false := by simpa using h4
  have e5 : (r == 5) = false := by simpa using h5
  have e8 : (r == 8) = false := by simpa using h8
  have e11 : (r == 11) = false := by simpa using h11
  have KI := fun W => l01In_c r 1 11 W
  have hc : cntJ r = if 1 ≤ r ∧ r ≤ 11 then 1 else -1 := by unfold cntJ; rw [if_neg (by omega), if_neg (by omega)]
  rw [hc]
  clear h1 h2 h4 h5 h8 h11 hc
  by_cases hr : 1 ≤ r ∧ r ≤ 11
  · rw [decide_eq_true hr] at KI
    rw [if_pos hr]
    replace KI := Lib.hid KI
    clear hr
    go_enter Tryz.func40, Tryz.ntmps40
    go_wp2_with fail
    refine (KI.out _).mono ?_
    rintro e w1 ⟨rfl, hg1⟩
    go_wp2_with fail
    go_ret
    exact ⟨rfl, hg1⟩
  · rw [decide_eq_false hr] at KI
    rw [if_neg hr]
    replace KI := Lib.hid KI
    clear hr
    go_enter Tryz.func40, Tryz.ntmps40
    go_wp2_with fail
    refine (KI.out _).mono ?_
    rintro e w1 ⟨rfl, hg1⟩
    go_wp2_with fail
    go_ret
    exact ⟨rfl, hg1⟩
/-- The rule uses a main formula. -/
def usesJ (r : Int) : Bool := decide (r = 3 ∨ r = 5 ∨ r = 8 ∨ r = 11)
theorem l22Uses_c (r : Int) (w : World) : Calls Tryz.prog 42 #[.int .i64 r] w fun e w' => e = .returned (.bool (usesJ r)) ∧ Grew w w' := by
  by_cases h3 : r = 3
  · subst h3
    go_enter Tryz.func42, Tryz.ntmps42
    go_wp2_with fail
    go_ret
    exact ⟨rfl, Grew.refl _⟩
  by_cases h5 : r = 5
  · subst h5
    go_enter Tryz.func42, Tryz.ntmps42
    go_wp2_with fail
    go_ret
    exact ⟨rfl, Grew.refl _⟩
  by_cases h8 : r = 8
  · subst h8
    go_enter Tryz.func42, Tryz.ntmps42
    go_wp2_with fail
    go_ret
    exact ⟨rfl, Grew.refl _⟩
  by_cases h11 : r = 11
  · subst h11
    go_enter Tryz.func42, Tryz.ntmps42
    go_wp2_with fail
    go_ret
    exact ⟨rfl, Grew.refl _⟩
  have hu : usesJ r = false := by unfold usesJ; rw [decide_eq_false]; omega
  rw [hu]
  have e3 : (r == 3) = false := by simpa using h3
  have e5 : (r == 5) = false := by simpa using h5
  have e8 : (r == 8) = false := by simpa using h8
  have e11 : (r == 11) = false := by simpa using h11
  clear h3 h5 h8 h11 hu
  go_enter Tryz.func42, Tryz.ntmps42
  go_wp2_with fail
  go_ret
  exact ⟨rfl, Grew.refl _⟩
theorem with1_c (v vt : Value) (L : List ByteArray) (s : ByteArray) (w : World) (h : Strs w v L) (hk : Strs w vt [s]) (hn : L.length ≤ 1000000) (hu : Up L) :
    Calls Tryz.prog 57 #[v, vt] w (GivesA w (putS (L ++ [s]))) := by
  rw [← insA_put hu]
  exact l22WithA_c v vt L s w h hk (by omega)
theorem with2_c (v vt : Value) (L : List ByteArray) (s z : ByteArray) (w : World) (h : Strs w v L) (hk : Strs w vt [s, z]) (hn : L.length ≤ 1000000) (hu : Up L) :
    Calls Tryz.prog 57 #[v, vt] w (GivesA w (putS (L ++ [s, z]))) := by
  rw [← insA_put2 hu]
  exact l22WithA2_c v vt L s z w h hk hn
theorem dcd_iff {p : Prop} : dcd p = true ↔ p := ⟨of_dcd, dcd_true⟩
theorem strs_at2 {w : World} {k : Nat} {a b : ByteArray} (hk : k < w.heap.size) (h : w.cell? ⟨k, 0, none⟩ = some (.string a)) (h2 : w.cell? ⟨k, 1, none⟩ = some (.string b)) : Strs w (.slice (some ⟨k, 0, none⟩) 2 2) [a, b] := by
  refine ⟨rfl, by simp, .inr ⟨k, 0, 2, rfl, by simp, by omega, hk, fun j u hu => ?_⟩⟩
  have hj : j < 2 := by have := (List.getElem?_eq_some_iff.1 hu).1; simpa [scells] using this
  match j, hj with
  | 0, _ =>
    obtain rfl : (.string a : Value) = u := by simpa [scells] using hu
    exact h
  | 1, _ =>
    obtain rfl : (.string b : Value) = u := by simpa [scells] using hu
    exact h2
end Go.Proofs.YtkjmfkllmljdeaaGreat

/- Rows of inferences that grow in the reference. -/
namespace Go.Proofs.YtkjmfkllmljdeaaGreat
open Go.RowKit

/-- A row of inferences; the inner lists lie wherever. -/
def qcells (ps : List (Value × Value × Jf)) : List Value := ps.flatMap fun p => [.int .i64 p.2.2.1, p.1, p.2.1, .string p.2.2.2.2.2.1, .string p.2.2.2.2.2.2]
theorem qcells_append (ps qs : List (Value × Value × Jf)) : qcells (ps ++ qs) = qcells ps ++ qcells qs := by simp [qcells]
theorem qcells_at (ps : List (Value × Value × Jf)) : ∀ i p, ps[i]? = some p → (qcells ps)[i * 5]? = some (.int .i64 p.2.2.1) ∧ (qcells ps)[i * 5 + 1]? = some p.1 ∧ (qcells ps)[i * 5 + 2]? = some p.2.1 ∧ (qcells ps)[i * 5 + 3]? = some (.string p.2.2.2.2.2.1) ∧ (qcells ps)[i * 5 + 4]? = some (.string p.2.2.2.2.2.2) := by
  induction ps with
  | nil => intro i p hi; simp at hi
  | cons x ps ih =>
    intro i p hi
    match i with
    | 0 => simp at hi; subst hi; exact ⟨rfl, rfl, rfl, rfl, rfl⟩
    | i + 1 =>
      have h := ih i p (by simpa using hi)
      have e1 : (i + 1) * 5 = i * 5 + 5 := by omega
      rw [e1]
      have hc : qcells (x :: ps) = [.int .i64 x.2.2.1, x.1, x.2.1, .string x.2.2.2.2.2.1, .string x.2.2.2.2.2.2] ++ qcells ps := rfl
      rw [hc]
      have hd : ∀ k, ([Value.int .i64 x.2.2.1, x.1, x.2.1, .string x.2.2.2.2.2.1, .string x.2.2.2.2.2.2] ++ qcells ps)[k + 5]? = (qcells ps)[k]? := fun k => by rw [List.getElem?_append_right (by simp)]; simp
      refine ⟨(hd _).trans h.1, ?_, ?_, ?_, ?_⟩
      · rw [show i * 5 + 5 + 1 = i * 5 + 1 + 5 by omega]; exact (hd _).trans h.2.1
      · rw [show i * 5 + 5 + 2 = i * 5 + 2 + 5 by omega]; exact (hd _).trans h.2.2.1
      · rw [show i * 5 + 5 + 3 = i * 5 + 3 + 5 by omega]; exact (hd _).trans h.2.2.2.1
      · rw [show i * 5 + 5 + 4 = i * 5 + 4 + 5 by omega]; exact (hd _).trans h.2.2.2.2
def OwnQ (w0 w : World) (B : Nat) (v : Value) (xs : List Jf) : Prop := ∃ ps : List (Value × Value × Jf), ps.map (·.2.2) = xs ∧ w.ownsRow B 42 5 v xs.length (qcells ps) ∧ ∀ p ∈ ps, Ints w0 p.1 p.2.2.2.1 ∧ Strs w0 p.2.1 p.2.2.2.2.1
theorem OwnQ.grew {w0 w w' : World} {B : Nat} {v : Value} {xs : List Jf} (h : OwnQ w0 w B v xs) (hg : Grew w w') : OwnQ w0 w' B v xs := by
  obtain ⟨ps, h1, h2, h3⟩ := h
  exact ⟨ps, h1, own_grew h2 hg, h3⟩
theorem OwnQ.jfs {w0 w : World} {B : Nat} {v : Value} {xs : List Jf} (h : OwnQ w0 w B v xs) (hg : Grew w0 w) : Jfs w v xs := by
  obtain ⟨ps, rfl, h2, h3⟩ := h
  obtain ⟨_, _, h4⟩ := Rd.of_own h2
  rcases h4 with ⟨h5, h6⟩ | ⟨b, o, c, h5, h6, h7, h8, h9⟩
  · exact .inl ⟨h5, List.eq_nil_of_length_eq_zero h6⟩
  · refine .inr ⟨b, o, c, h5, h6, h7, h8, fun i x hx => ?_⟩
    rw [List.getElem?_map] at hx
    cases hp : ps[i]? with
    | none => rw [hp] at hx; cases hx
    | some p =>
      rw [hp] at hx
      simp at hx
      obtain ⟨e0, e1, e2, e3, e4⟩ := qcells_at ps i p hp
      rw [← hx]
      have hm := h3 p (List.mem_of_getElem? hp)
      exact ⟨p.1, p.2.1, ⟨h9 _ _ e0, h9 _ _ e1, h9 _ _ e2, h9 _ _ e3, h9 _ _ e4⟩, hm.1.grew hg, hm.2.grew hg⟩
theorem OwnQ.nil_ (w0 : World) {w : World} {B g : Nat} (hB : B ≤ g) (hg : w.heap[g]? = some (.cells #[] 42 (0, 0))) : OwnQ w0 w B (.slice (some ⟨g, 0, none⟩) 0 0) [] :=
  ⟨[], rfl, ⟨rfl, .inr ⟨g, 0, #[], rfl, hB, hg, by simp, by simp, by simp, rfl⟩⟩, fun p hp => by cases hp⟩
theorem rd_litQ (w : World) (a b c d e : Value) (t : TypeId) : Rd (w.alloc (.cells #[a, b, c, d, e] t)) 5 (.slice (some ⟨w.heap.size, 0, none⟩) 1 1) 1 [a, b, c, d, e] := by
  refine ⟨rfl, by omega, .inr ⟨w.heap.size, 0, 1, rfl, by omega, by omega, by simp, fun j x hx => ?_⟩⟩
  have hj : j = 0 ∨ j = 1 ∨ j = 2 ∨ j = 3 ∨ j = 4 := by
    have := (List.getElem?_eq_some_iff.1 hx).1
    simp at this
    omega
  rcases hj with rfl | rfl | rfl | rfl | rfl <;> (simp at hx; subst hx; simp)
/-- 'out = append(out, x)', out a row of inferences of the call's own. -/
theorem wpList_appQ {ops : Array Oper} {rest : List Oper} {o : Oper} {a : Act} {Q : Exit → Act → World → Prop} {w w0 : World} (s x : Operand) (hgd : o.guard = none)
    (ho : o.op = .call { callee := .builtin .append, args := #[s, x], argTypes := #[26, 26] })
    (v : Value) (Js : List Jf) (hs : a.eval s = v) (hown : OwnQ w0 w w0.heap.size v Js) (hg : Grew w0 w) (vx u1 u2 : Value) (j : Jf) (hx : a.eval x = vx) (hr : Rd w 5 vx 1 [.int .i64 j.1, u1, u2, .string j.2.2.2.1, .string j.2.2.2.2]) (hu : Ints w0 u1 j.2.1) (hv : Strs w0 u2 j.2.2.1) (hn : Js.length ≤ 1048576)
    (h : ∀ v' w', OwnQ w0 w' w0.heap.size v' (Js ++ [j]) → Grew w0 w' → w.grownBy w' v.ownBlock → (v'.ownBlock = v.ownBlock ∨ v'.ownBlock = some w.heap.size) → wpList Tryz.prog ops Q rest (a.put o.dst v') w') : wpList Tryz.prog ops Q (o :: rest) a w := by
  obtain ⟨i0, hi0, hz0, hz1, hz2⟩ := info_parts infoJf
  obtain ⟨ps, h1, h2, h3⟩ := hown
  have hu1 : u1.oneCell' = true := by
    obtain ⟨A, c, rfl⟩ := ints_slice hu
    rfl
  have hu2 : u2.oneCell' = true := by
    obtain ⟨A, c, rfl⟩ := strs_slice hv
    rfl
  refine wpList_append_rd w hgd s x _ ho w0.heap.size 42 i0 _ 5 88 Tryz.underlying26 hi0 hz0 hz1 hz2 rfl (by omega) v Js.length (qcells ps) hs h2 vx 1 [.int .i64 j.1, u1, u2, .string j.2.2.2.1, .string j.2.2.2.2] hx hr (by intro y hy; simp at hy; rcases hy with rfl | rfl | rfl | rfl | rfl; rfl; exact hu1; exact hu2; rfl; rfl) (by unfold maxLen; omega) (by omega) hg.size ?_
  intro v' w' k1 k2 k3
  refine h v' w' ⟨ps ++ [(u1, u2, j)], by rw [List.map_append, h1]; rfl, ?_, fun p hp => ?_⟩ (hg.grown k2 fun k hk => (h2.lt k hk).1) k2 k3
  · rw [List.length_append, qcells_append]
    exact k1
  · rw [List.mem_append] at hp
    rcases hp with hp | hp
    · exact h3 p hp
    · simp at hp; subst hp; exact ⟨hu, hv⟩
end Go.Proofs.YtkjmfkllmljdeaaGreat

/- l22Fits of the reference: what is said of a rule. -/
namespace Go.Proofs.YtkjmfkllmljdeaaGreat
open Go.RowKit

theorem lenJ1 {α : Type} {p : List α} (h : p.length = 1) : ∃ a, p = [a] := by
  match p, h with
  | [a], _ => exact ⟨a, rfl⟩
theorem lenJ2 {α : Type} {p : List α} (h : p.length = 2) : ∃ a b, p = [a, b] := by
  match p, h with
  | [a, b], _ => exact ⟨a, b, rfl⟩
/-- The premises' cells. -/
theorem jfs_at {w : World} {v : Value} {p : List Jf} (h : Jfs w v p) (hp : 0 < p.length) : ∃ b o c, v = .slice (some ⟨b, o, none⟩) p.length c ∧ p.length ≤ c ∧ c ≤ 9223372036854775807 ∧
    ∀ i y, p[i]? = some y → ∃ up ua, (∀ W, Grew w W → W.cell? ⟨b, o + i * 5, none⟩ = some (.int .i64 y.1)) ∧ (∀ W, Grew w W → W.cell? ⟨b, o + i * 5 + 1, none⟩ = some up) ∧ (∀ W, Grew w W → W.cell? ⟨b, o + i * 5 + 2, none⟩ = some ua) ∧ (∀ W, Grew w W → W.cell? ⟨b, o + i * 5 + 3, none⟩ = some (.string y.2.2.2.1)) ∧ (∀ W, Grew w W → W.cell? ⟨b, o + i * 5 + 4, none⟩ = some (.string y.2.2.2.2)) ∧ Ints w up y.2.1 ∧ Strs w ua y.2.2.1 := by
  obtain ⟨b, o, c, h1, h2, h3, _, h5⟩ := JfRd.open_ h hp
  refine ⟨b, o, c, h1, h2, h3, fun i y hy => ?_⟩
  obtain ⟨up, ua, k1, k2, k3⟩ := h5 i y hy
  exact ⟨up, ua, fun W hW => (k1 W hW).1, fun W hW => (k1 W hW).2.1, fun W hW => (k1 W hW).2.2.1, fun W hW => (k1 W hW).2.2.2.1, fun W hW => (k1 W hW).2.2.2.2, k2, k3⟩
/-- What l22Fits gives at an inference. -/
def RuleJ (x : Jf) (k : Nat) : Prop := ∀ (up ua vp : Value) (p : List Jf) (w : World), Ints w up x.2.1 → Strs w ua x.2.2.1 → Jfs w vp p → sqB x.2.2.1 x.2.2.2.1 = true → x.2.2.2.1.size ≤ 1048576 → x.2.2.2.2.size ≤ 1048576 → (usesJ x.1 = true ∨ x.2.2.2.2 = ByteArray.empty) → p.length = k →
    Calls Tryz.prog 43 #[.agg #[.int .i64 x.1, up, ua, .string x.2.2.2.1, .string x.2.2.2.2], vp] w fun e w' => e = .returned (.bool (dcd (okJ x (p.map js)))) ∧ Grew w w'
theorem txF_has : (⟨#[70]⟩ : ByteArray) = txF := rfl
theorem usesJ_no {r : Int} {M : ByteArray} (h : usesJ r = true ∨ M = ByteArray.empty) (hr : usesJ r = false) : M = ByteArray.empty := h.resolve_left (by rw [hr]; decide)
end Go.Proofs.YtkjmfkllmljdeaaGreat

/- When a rule fits, rule by rule. No program is in sight. -/
namespace Go.Proofs.YtkjmfkllmljdeaaGreat
open Go.RowKit

theorem okJ_3 {P : List Int} {A : List ByteArray} {C M : ByteArray} {y : Jg} (hasc : ascP A = true) : okJ (3, P, A, C, M) [y] ↔ (isK M 2 ∧ M ∈ A ∧ y = (putS (A ++ [pl M, pr M]), C)) := by
  have hg := ascP_gp hasc M
  unfold okJ gls lgl isK
  by_cases h1 : M ∈ A <;> by_cases h2 : kT M = 2 <;> simp [h1, h2, dcd_iff, hg] <;> first | done | (constructor <;> first | (rintro ⟨rfl, rfl⟩; exact ⟨rfl, rfl⟩) | (rintro rfl; rfl) | (intro h; exact h.symm))
theorem okJ_5 {P : List Int} {A : List ByteArray} {C M : ByteArray} {y z : Jg} (hasc : ascP A = true) : okJ (5, P, A, C, M) [y, z] ↔ (isK M 3 ∧ M ∈ A ∧ y = (putS (A ++ [pl M]), C) ∧ z = (putS (A ++ [pr M]), C)) := by
  have hg := ascP_gp hasc M
  unfold okJ gls lgl isK
  by_cases h1 : M ∈ A <;> by_cases h2 : kT M = 3 <;> simp [h1, h2, dcd_iff, hg] <;> first | done | (constructor <;> first | (rintro ⟨rfl, rfl⟩; exact ⟨rfl, rfl⟩) | (rintro rfl; rfl) | (intro h; exact h.symm))
theorem okJ_8 {P : List Int} {A : List ByteArray} {C M : ByteArray} {y z : Jg} (hasc : ascP A = true) : okJ (8, P, A, C, M) [y, z] ↔ (isK M 4 ∧ M ∈ A ∧ y = (A, pl M) ∧ z = (putS (A ++ [pr M]), C)) := by
  have hg := ascP_gp hasc M
  unfold okJ gls lgl isK
  by_cases h1 : M ∈ A <;> by_cases h2 : kT M = 4 <;> simp [h1, h2, dcd_iff, hg] <;> first | done | (constructor <;> first | (rintro ⟨rfl, rfl⟩; exact ⟨rfl, rfl⟩) | (rintro rfl; rfl) | (intro h; exact h.symm))
theorem okJ_4 {P : List Int} {A : List ByteArray} {C M : ByteArray} {y z : Jg} (hC : gp C = true) (hM : M = ByteArray.empty) : okJ (4, P, A, C, M) [y, z] ↔ (isK C 2 ∧ y = (A, pl C) ∧ z = (A, pr C)) := by
  unfold okJ gls rgl isK
  by_cases h2 : kT C = 2 <;> simp [h2, dcd_iff, hM, hC] <;> first | done | (constructor <;> first | (rintro ⟨rfl, rfl⟩; exact ⟨rfl, rfl⟩) | (rintro rfl; rfl) | (intro h; exact h.symm))
theorem okJ_6 {P : List Int} {A : List ByteArray} {C M : ByteArray} {y : Jg} (hC : gp C = true) (hM : M = ByteArray.empty) : okJ (6, P, A, C, M) [y] ↔ (isK C 3 ∧ y = (A, pl C)) := by
  unfold okJ gls rgl isK
  by_cases h2 : kT C = 3 <;> simp [h2, dcd_iff, hM, hC] <;> first | done | (constructor <;> first | (rintro ⟨rfl, rfl⟩; exact ⟨rfl, rfl⟩) | (rintro rfl; rfl) | (intro h; exact h.symm))
theorem okJ_7 {P : List Int} {A : List ByteArray} {C M : ByteArray} {y : Jg} (hC : gp C = true) (hM : M = ByteArray.empty) : okJ (7, P, A, C, M) [y] ↔ (isK C 3 ∧ y = (A, pr C)) := by
  unfold okJ gls rgl isK
  by_cases h2 : kT C = 3 <;> simp [h2, dcd_iff, hM, hC] <;> first | done | (constructor <;> first | (rintro ⟨rfl, rfl⟩; exact ⟨rfl, rfl⟩) | (rintro rfl; rfl) | (intro h; exact h.symm))
theorem okJ_9 {P : List Int} {A : List ByteArray} {C M : ByteArray} {y : Jg} (hC : gp C = true) (hM : M = ByteArray.empty) : okJ (9, P, A, C, M) [y] ↔ (isK C 4 ∧ y = (putS (A ++ [pl C]), pr C)) := by
  unfold okJ gls rgl isK
  by_cases h2 : kT C = 4 <;> simp [h2, dcd_iff, hM, hC] <;> first | done | (constructor <;> first | (rintro ⟨rfl, rfl⟩; exact ⟨rfl, rfl⟩) | (rintro rfl; rfl) | (intro h; exact h.symm))
theorem okJ_11 {P : List Int} {A : List ByteArray} {C M : ByteArray} {y z : Jg} : okJ (11, P, A, C, M) [y, z] ↔ (gp M = true ∧ y = (A, M) ∧ z = (putS (A ++ [M]), C)) := by
  unfold okJ gls
  by_cases h2 : gp M = true <;> simp [h2] <;> first | done | (constructor <;> first | (rintro ⟨rfl, rfl⟩; exact ⟨rfl, rfl⟩) | (rintro rfl; rfl) | (intro h; exact h.symm))
end Go.Proofs.YtkjmfkllmljdeaaGreat

/- l22Fits of the reference at some rules. -/
namespace Go.Proofs.YtkjmfkllmljdeaaGreat
open Go.RowKit

set_option maxHeartbeats 8000000 in
set_option maxRecDepth 8192 in
theorem ruleJ_3 (P : List Int) (A : List ByteArray) (C M : ByteArray) : RuleJ (3, P, A, C, M) 1 := by
  intro up ua vp p w hup hs hv hq hC hM hu hk
  simp only at hup hs hq hC hM hu hk ⊢
  obtain ⟨hgC, hasc, hln⟩ := sqB_and hq
  have hUp := ascP_up hasc
  obtain ⟨y0, rfl⟩ := lenJ1 hk
  obtain ⟨r0, P0, A0, C0, M0⟩ := y0
  obtain ⟨pb, po, pc, rfl, hpc, hpm, hat⟩ := jfs_at hv (by simp)
  have hiff : okJ (3, P, A, C, M) ([(r0, P0, A0, C0, M0)].map js) ↔ (isK M 2 ∧ M ∈ A ∧ js (r0, P0, A0, C0, M0) = (putS (A ++ [pl M, pr M]), C)) := by
    have hgA := ascP_gp hasc
    exact okJ_3 hasc
  rw [dcd_congr hiff]
  clear hiff
  obtain ⟨up0, ua0, q0a, q0b, q0c, q0d, q0e, hp0, hu0⟩ := hat 0 _ rfl
  simp only [Nat.zero_mul, Nat.add_zero] at q0a q0b q0c q0d q0e hp0 hu0
  have KN0 := fun W (hW : Grew w W) v (hv : Strs W v (putS (A ++ [pl M, pr M]))) => needJ_c (r0, P0, A0, C0, M0) up0 ua0 v (putS (A ++ [pl M, pr M])) (C) W (hp0.grew hW) (hu0.grew hW) hv
  have KW0 := Lib.hid (fun W (hW : Grew w W) v (hv : Strs W v [pl M, pr M]) => with2_c ua v A (pl M) (pr M) W (hs.grew hW) hv (by omega) hUp)
  have KY := fun W (hW : Grew w W) => l01Says_c ua A M W (hs.grew hW) (by omega)
  rw [dc_dcd] at KY
  have HSA := Lib.hid (fun W (hW : Grew w W) => hs.grew hW)
  obtain ⟨VP, cp, rfl⟩ := ints_slice hup
  obtain ⟨UA, ca, rfl⟩ := strs_slice hs
  obtain ⟨V0, d0, rfl⟩ := ints_slice hp0
  obtain ⟨U0, c0, rfl⟩ := strs_slice hu0
  simp only [List.length_cons, List.length_nil] at hpc ⊢
  have hal := (Grew.refl w).alloc (.cells #[.int .i64 3, .slice VP P.length cp, .slice UA A.length ca, .string C, .string M] 42)
  have f0 : ∀ W, Grew (w.alloc (.cells #[.int .i64 3, .slice VP P.length cp, .slice UA A.length ca, .string C, .string M] 42)) W → W.cell? ⟨w.heap.size, 0, none⟩ = some (.int .i64 3) := fun W hW => (hW.cell (p := ⟨w.heap.size, 0, none⟩) (by simp)).trans (by simp)
  have f2 : ∀ W, Grew (w.alloc (.cells #[.int .i64 3, .slice VP P.length cp, .slice UA A.length ca, .string C, .string M] 42)) W → W.cell? ⟨w.heap.size, 2, none⟩ = some (.slice UA A.length ca) := fun W hW => (hW.cell (p := ⟨w.heap.size, 2, none⟩) (by simp)).trans (by simp)
  have f3 : ∀ W, Grew (w.alloc (.cells #[.int .i64 3, .slice VP P.length cp, .slice UA A.length ca, .string C, .string M] 42)) W → W.cell? ⟨w.heap.size, 3, none⟩ = some (.string C) := fun W hW => (hW.cell (p := ⟨w.heap.size, 3, none⟩) (by simp)).trans (by simp)
  have f4 : ∀ W, Grew (w.alloc (.cells #[.int .i64 3, .slice VP P.length cp, .slice UA A.length ca, .string C, .string M] 42)) W → W.cell? ⟨w.heap.size, 4, none⟩ = some (.string M) := fun W hW => (hW.cell (p := ⟨w.heap.size, 4, none⟩) (by simp)).trans (by simp)
  clear hup hs hv hat hk hq hasc hUp hu hu0 hp0
  generalize P.length = pln at *
  generalize A.length = al at *
  generalize A0.length = al0 at *
  generalize P0.length = pl0 at *
  generalize hwb : w.alloc (.cells #[.int .i64 3, .slice VP pln cp, .slice UA al ca, .string C, .string M] 42) = wb at *
  have rb := Grew.refl wb
  have rbd := rb.drew
  have rbn := fun n => rb.drewN n
  by_cases h0 : isK M 2
  · have hh : True := trivial
    have KP := Lib.hid (fun W => split_yes 2 M W h0 (by decide))
    by_cases h1 : M ∈ A
    · have hh : True := trivial
      rw [dcd_true h1] at KY
      by_cases h2 : js (r0, P0, A0, C0, M0) = (putS (A ++ [pl M, pr M]), C)
      · have hh : True := trivial
        rw [dcd_true h2] at KN0
        rw [dcd_true ⟨h0, h1, h2⟩]
        replace KN0 := Lib.hid KN0
        replace KY := Lib.hid KY
        replace hwb := hwb.symm
        clear h0 h1 h2
        go_enter Tryz.func43, Tryz.ntmps43
        go_wp2_with fail
        rw [← hwb]
        clear hwb
        go_quiet (fail)
        go_wp2_with fail
        refine (KP.out _).mono ?_
        rintro e w1 ⟨rfl, hg1'⟩
        have hg1 : Grew wb w1 := Grew.trans (by repeat (first | with_reducible assumption | with_reducible refine Grew.alloc ?_ _ | with_reducible refine Grew.drew ?_ | with_reducible refine Grew.drewN ?_ _)) hg1'
        have g1 := hal.trans hg1
        have r1 := Grew.refl w1
        have d1 := r1.drew
        have gd := g1.trans d1
        have e0 := fun W (hW : Grew w1 W) => f0 W (hg1.trans hW)
        have e2 := fun W (hW : Grew w1 W) => f2 W (hg1.trans hW)
        have e3 := fun W (hW : Grew w1 W) => f3 W (hg1.trans hW)
        have e4 := fun W (hW : Grew w1 W) => f4 W (hg1.trans hW)
        have p0a := fun W (hW : Grew w1 W) => q0a W (g1.trans hW)
        have p0b := fun W (hW : Grew w1 W) => q0b W (g1.trans hW)
        have p0c := fun W (hW : Grew w1 W) => q0c W (g1.trans hW)
        have p0d := fun W (hW : Grew w1 W) => q0d W (g1.trans hW)
        have p0e := fun W (hW : Grew w1 W) => q0e W (g1.trans hW)
        clear f0 f2 f3 f4 q0a q0b q0c q0d q0e
        go_wp2_with fail
        refine wp_region_held_drew (S := fun w' => Grew w1 w') (by kernel_rfl) d1 (fun hHeld => ?_)
        refine wpAnyH_take (i := 0) (oi := ?on1) (v := ?vn1) ?hin1 ?an1 ?bn1 ?cn1 ?qn1 (Or.inl ⟨?dn1, ?hyn1⟩) hHeld ?restn1
        case hin1 => (simp only [List.getElem?_toArray, List.getElem?_cons_zero]; exact rfl)
        case an1 => kernel_rfl
        case bn1 => kernel_rfl
        case cn1 => kernel_rfl
        case qn1 => exact fun _ _ _ h => h
        case dn1 => rfl
        case hyn1 => (intro z hSw; (try dsimp only at hSw); go_simp; (try with_reducible rfl))
        try simp only [Act.put, List.setIfInBounds_toArray, List.set_cons_zero, List.set_cons_succ]
        refine wpAnyH_take (i := 1) (oi := ?on2) (v := ?vn2) ?hin2 ?an2 ?bn2 ?cn2 ?qn2 (Or.inl ⟨?dn2, ?hyn2⟩) hHeld ?restn2
        case hin2 => (simp only [List.getElem?_toArray, List.getElem?_cons_succ, List.getElem?_cons_zero]; exact rfl)
        case an2 => kernel_rfl
        case bn2 => kernel_rfl
        case cn2 => kernel_rfl
        case qn2 => exact fun _ _ _ h => h
        case dn2 => rfl
        case hyn2 => (intro z hSw; (try dsimp only at hSw); go_simp; (try with_reducible rfl))
        try simp only [Act.put, List.setIfInBounds_toArray, List.set_cons_zero, List.set_cons_succ]
        refine wpAnyH_take (i := 2) (oi := ?on3) (v := ?vn3) ?hin3 ?an3 ?bn3 ?cn3 ?qn3 (Or.inl ⟨?dn3, ?hyn3⟩) hHeld ?restn3
        case hin3 => (simp only [List.getElem?_toArray, List.getElem?_cons_succ, List.getElem?_cons_zero]; exact rfl)
        case an3 => kernel_rfl
        case bn3 => kernel_rfl
        case cn3 => kernel_rfl
        case qn3 => exact fun _ _ _ h => h
        case dn3 => rfl
        case hyn3 => (intro z hSw; (try dsimp only at hSw); go_simp; (try with_reducible rfl))
        try simp only [Act.put, List.setIfInBounds_toArray, List.set_cons_zero, List.set_cons_succ]
        refine wpAnyH_take (i := 3) (oi := ?on4) (v := ?vn4) ?hin4 ?an4 ?bn4 ?cn4 ?qn4 (Or.inl ⟨?dn4, ?hyn4⟩) hHeld ?restn4
        case hin4 => (simp only [List.getElem?_toArray, List.getElem?_cons_succ, List.getElem?_cons_zero]; exact rfl)
        case an4 => kernel_rfl
        case bn4 => kernel_rfl
        case cn4 => kernel_rfl
        case qn4 => exact fun _ _ _ h => h
        case dn4 => rfl
        case hyn4 => (intro z hSw; (try dsimp only at hSw); go_simp; (try with_reducible rfl))
        try simp only [Act.put, List.setIfInBounds_toArray, List.set_cons_zero, List.set_cons_succ]
        refine wpAnyH_take (i := 4) (oi := ?on5) (v := ?vn5) ?hin5 ?an5 ?bn5 ?cn5 ?qn5 (Or.inl ⟨?dn5, ?hyn5⟩) hHeld ?restn5
        case hin5 => (simp only [List.getElem?_toArray, List.getElem?_cons_succ, List.getElem?_cons_zero]; exact rfl)
        case an5 => kernel_rfl
        case bn5 => kernel_rfl
        case cn5 => kernel_rfl
        case qn5 => exact fun _ _ _ h => h
        case dn5 => rfl
        case hyn5 => (intro z hSw; (try dsimp only at hSw); go_simp; (try with_reducible rfl))
        try simp only [Act.put, List.setIfInBounds_toArray, List.set_cons_zero, List.set_cons_succ]
        refine wpAnyH_ready (rs := [5]) (by kernel_rfl) (by simp) ?_
        refine AllReadyH.cons (o := ?on6) ?hin6 ?restn6 AllReadyH.nil
        case hin6 => (simp only [List.getElem?_toArray, List.getElem?_cons_succ, List.getElem?_cons_zero]; exact rfl)
        intro K hK
        go_simp
        go_at_call 54
        refine (KY.out _ (by repeat (first | with_reducible assumption | with_reducible refine Grew.alloc ?_ _ | with_reducible refine Grew.drew ?_ | with_reducible refine Grew.drewN ?_ _))).mono ?_
        rintro e ws ⟨rfl, hgs⟩
        have gws : Grew w ws := Grew.trans (by repeat (first | with_reducible assumption | with_reducible refine Grew.alloc ?_ _ | with_reducible refine Grew.drew ?_ | with_reducible refine Grew.drewN ?_ _)) hgs
        have mws : Grew w1 ws := Grew.trans (by repeat (first | with_reducible assumption | with_reducible refine Grew.alloc ?_ _ | with_reducible refine Grew.drew ?_ | with_reducible refine Grew.drewN ?_ _)) hgs
        refine hK.out _ _ ?_ (fun hHeld => ?_)
        · (try dsimp only); first | with_reducible assumption | exact Grew.alloc ‹_› _
        clear hK K
        try simp only [Act.put, List.setIfInBounds_toArray, List.set_cons_zero, List.set_cons_succ]
        refine wpAnyH_take (i := 6) (oi := ?on7) (v := ?vn7) ?hin7 ?an7 ?bn7 ?cn7 ?qn7 (Or.inl ⟨?dn7, ?hyn7⟩) hHeld ?restn7
        case hin7 => (simp only [List.getElem?_toArray, List.getElem?_cons_succ, List.getElem?_cons_zero]; exact rfl)
        case an7 => kernel_rfl
        case bn7 => kernel_rfl
        case cn7 => kernel_rfl
        case qn7 => exact fun _ _ _ h => h
        case dn7 => rfl
        case hyn7 => (intro z hSw; (try dsimp only at hSw); go_simp; (try with_reducible rfl))
        try simp only [Act.put, List.setIfInBounds_toArray, List.set_cons_zero, List.set_cons_succ]
        refine wpAnyH_take (i := 7) (oi := ?on8) (v := ?vn8) ?hin8 ?an8 ?bn8 ?cn8 ?qn8 (Or.inl ⟨?dn8, ?hyn8⟩) hHeld ?restn8
        case hin8 => (simp only [List.getElem?_toArray, List.getElem?_cons_succ, List.getElem?_cons_zero]; exact rfl)
        case an8 => kernel_rfl
        case bn8 => kernel_rfl
        case cn8 => kernel_rfl
        case qn8 => exact fun _ _ _ h => h
        case dn8 => rfl
        case hyn8 => (intro z hSw; (try dsimp only at hSw); go_simp; (try with_reducible rfl))
        try simp only [Act.put, List.setIfInBounds_toArray, List.set_cons_zero, List.set_cons_succ]
        refine wpAnyH_take (i := 8) (oi := ?on9) (v := ?vn9) ?hin9 ?an9 ?bn9 ?cn9 ?qn9 (Or.inl ⟨?dn9, ?hyn9⟩) hHeld ?restn9
        case hin9 => (simp only [List.getElem?_toArray, List.getElem?_cons_succ, List.getElem?_cons_zero]; exact rfl)
        case an9 => kernel_rfl
        case bn9 => kernel_rfl
        case cn9 => kernel_rfl
        case qn9 => exact fun _ _ _ h => h
        case dn9 => rfl
        case hyn9 => (intro z hSw; (try dsimp only at hSw); go_simp; (try with_reducible rfl))
        try simp only [Act.put, List.setIfInBounds_toArray, List.set_cons_zero, List.set_cons_succ]
        refine wpAnyH_take (i := 9) (oi := ?on10) (v := ?vn10) ?hin10 ?an10 ?bn10 ?cn10 ?qn10 (Or.inl ⟨?dn10, ?hyn10⟩) hHeld ?restn10
        case hin10 => (simp only [List.getElem?_toArray, List.getElem?_cons_succ, List.getElem?_cons_zero]; exact rfl)
        case an10 => kernel_rfl
        case bn10 => kernel_rfl
        case cn10 => kernel_rfl
        case qn10 => exact fun _ _ _ h => h
        case dn10 => rfl
        case hyn10 => (intro z hSw; (try dsimp only at hSw); go_simp; (try with_reducible rfl))
        try simp only [Act.put, List.setIfInBounds_toArray, List.set_cons_zero, List.set_cons_succ]
        refine wpAnyH_take (i := 10) (oi := ?on11) (v := ?vn11) ?hin11 ?an11 ?bn11 ?cn11 ?qn11 (Or.inl ⟨?dn11, ?hyn11⟩) hHeld ?restn11
        case hin11 => (simp only [List.getElem?_toArray, List.getElem?_cons_succ, List.getElem?_cons_zero]; exact rfl)
        case an11 => kernel_rfl
        case bn11 => kernel_rfl
        case cn11 => kernel_rfl
        case qn11 => exact fun _ _ _ h => h
        case dn11 => rfl
        case hyn11 => (intro z hSw; (try dsimp only at hSw); go_simp; (try with_reducible rfl))
        try simp only [Act.put, List.setIfInBounds_toArray, List.set_cons_zero, List.set_cons_succ]
        refine wpAnyH_take (i := 11) (oi := ?on12) (v := ?vn12) ?hin12 ?an12 ?bn12 ?cn12 ?qn12 (Or.inl ⟨?dn12, ?hyn12⟩) hHeld ?restn12
        case hin12 => (simp only [List.getElem?_toArray, List.getElem?_cons_succ, List.getElem?_cons_zero]; exact rfl)
        case an12 => kernel_rfl
        case bn12 => kernel_rfl
        case cn12 => kernel_rfl
        case qn12 => exact fun _ _ _ h => h
        case dn12 => rfl
        case hyn12 => (intro z hSw; (try dsimp only at hSw); go_simp; (try with_reducible rfl))
        try simp only [Act.put, List.setIfInBounds_toArray, List.set_cons_zero, List.set_cons_succ]
        refine wpAnyH_take (i := 12) (oi := ?on13) (v := ?vn13) ?hin13 ?an13 ?bn13 ?cn13 ?qn13 (Or.inl ⟨?dn13, ?hyn13⟩) hHeld ?restn13
        case hin13 => (simp only [List.getElem?_toArray, List.getElem?_cons_succ, List.getElem?_cons_zero]; exact rfl)
        case an13 => kernel_rfl
        case bn13 => kernel_rfl
        case cn13 => kernel_rfl
        case qn13 => exact fun _ _ _ h => h
        case dn13 => rfl
        case hyn13 => (intro z hSw; (try dsimp only at hSw); go_simp; (try with_reducible rfl))
        try simp only [Act.put, List.setIfInBounds_toArray, List.set_cons_zero, List.set_cons_succ]
        refine wpAnyH_take (i := 13) (oi := ?on14) (v := ?vn14) ?hin14 ?an14 ?bn14 ?cn14 ?qn14 (Or.inl ⟨?dn14, ?hyn14⟩) hHeld ?restn14
        case hin14 => (simp only [List.getElem?_toArray, List.getElem?_cons_succ, List.getElem?_cons_zero]; exact rfl)
        case an14 => kernel_rfl
        case bn14 => kernel_rfl
        case cn14 => kernel_rfl
        case qn14 => exact fun _ _ _ h => h
        case dn14 => rfl
        case hyn14 => (intro z hSw; (try dsimp only at hSw); go_simp; (try with_reducible rfl))
        try simp only [Act.put, List.setIfInBounds_toArray, List.set_cons_zero, List.set_cons_succ]
        refine wpAnyH_take (i := 16) (oi := ?on15) (v := ?vn15) ?hin15 ?an15 ?bn15 ?cn15 ?qn15 (Or.inl ⟨?dn15, ?hyn15⟩) hHeld ?restn15
        case hin15 => (simp only [List.getElem?_toArray, List.getElem?_cons_succ, List.getElem?_cons_zero]; exact rfl)
        case an15 => kernel_rfl
        case bn15 => kernel_rfl
        case cn15 => kernel_rfl
        case qn15 => exact fun _ _ _ h => h
        case dn15 => rfl
        case hyn15 => (intro z hSw; (try dsimp only at hSw); go_simp; (try with_reducible rfl))
        try simp only [Act.put, List.setIfInBounds_toArray, List.set_cons_zero, List.set_cons_succ]
        refine wpAnyH_ready (rs := [14]) (by kernel_rfl) (by simp) ?_
        refine AllReadyH.cons (o := ?on16) ?hin16 ?restn16 AllReadyH.nil
        case hin16 => (simp only [List.getElem?_toArray, List.getElem?_cons_succ, List.getElem?_cons_zero]; exact rfl)
        intro K hK
        go_simp
        refine hK.out _ _ ?_ (fun hHeld => ?_)
        · (try dsimp only); first | with_reducible assumption | exact Grew.alloc ‹_› _
        clear hK K
        try simp only [Act.put, List.setIfInBounds_toArray, List.set_cons_zero, List.set_cons_succ]
        refine wpAnyH_ready (rs := [15]) (by kernel_rfl) (by simp) ?_
        refine AllReadyH.cons (o := ?on17) ?hin17 ?restn17 AllReadyH.nil
        case hin17 => (simp only [List.getElem?_toArray, List.getElem?_cons_succ, List.getElem?_cons_zero]; exact rfl)
        intro K hK
        go_simp
        go_at_call 57
        refine (KW0.out _ (by repeat (first | with_reducible assumption | with_reducible refine Grew.alloc ?_ _ | with_reducible refine Grew.drew ?_ | with_reducible refine Grew.drewN ?_ _)) _ (strs_at2 (by simp) (by simp) (by simp))).mono ?_
        rintro e z0 ⟨zu0, rfl, zo0, zg0⟩
        have gz0 : Grew w z0 := Grew.trans (by repeat (first | with_reducible assumption | with_reducible refine Grew.alloc ?_ _ | with_reducible refine Grew.drew ?_ | with_reducible refine Grew.drewN ?_ _)) zg0
        have mz0 : Grew w1 z0 := Grew.trans (by repeat (first | with_reducible assumption | with_reducible refine Grew.alloc ?_ _ | with_reducible refine Grew.drew ?_ | with_reducible refine Grew.drewN ?_ _)) zg0
        have zs0 := Lib.hid zo0
        obtain ⟨ZA0, zc0, rfl⟩ := strs_slice zo0
        clear zo0
        refine hK.out _ _ ?_ (fun hHeld => ?_)
        · (try dsimp only); first | with_reducible assumption | exact Grew.alloc ‹_› _
        clear hK K
        try simp only [Act.put, List.setIfInBounds_toArray, List.set_cons_zero, List.set_cons_succ]
        refine wpAnyH_ready (rs := [17]) (by kernel_rfl) (by simp) ?_
        refine AllReadyH.cons (o := ?on18) ?hin18 ?restn18 AllReadyH.nil
        case hin18 => (simp only [List.getElem?_toArray, List.getElem?_cons_succ, List.getElem?_cons_zero]; exact rfl)
        intro K hK
        go_simp
        go_at_call 56
        refine (KN0.out _ (by repeat (first | with_reducible assumption | with_reducible refine Grew.alloc ?_ _ | with_reducible refine Grew.drew ?_ | with_reducible refine Grew.drewN ?_ _)) _ zs0.out).mono ?_
        rintro e v0 ⟨rfl, vg0⟩
        have gv0 : Grew w v0 := Grew.trans (by repeat (first | with_reducible assumption | with_reducible refine Grew.alloc ?_ _ | with_reducible refine Grew.drew ?_ | with_reducible refine Grew.drewN ?_ _)) vg0
        have mv0 : Grew w1 v0 := Grew.trans (by repeat (first | with_reducible assumption | with_reducible refine Grew.alloc ?_ _ | with_reducible refine Grew.drew ?_ | with_reducible refine Grew.drewN ?_ _)) vg0
        refine hK.out _ _ ?_ (fun hHeld => ?_)
        · (try dsimp only); first | with_reducible assumption | exact Grew.alloc ‹_› _
        clear hK K
        try simp only [Act.put, List.setIfInBounds_toArray, List.set_cons_zero, List.set_cons_succ]
        refine wpAnyH_take (i := 18) (oi := ?on19) (v := ?vn19) ?hin19 ?an19 ?bn19 ?cn19 ?qn19 (Or.inl ⟨?dn19, ?hyn19⟩) hHeld ?restn19
        case hin19 => (simp only [List.getElem?_toArray, List.getElem?_cons_succ, List.getElem?_cons_zero]; exact rfl)
        case an19 => kernel_rfl
        case bn19 => kernel_rfl
        case cn19 => kernel_rfl
        case qn19 => exact fun _ _ _ h => h
        case dn19 => rfl
        case hyn19 => (intro z hSw; (try dsimp only at hSw); go_simp; (try with_reducible rfl))
        try simp only [Act.put, List.setIfInBounds_toArray, List.set_cons_zero, List.set_cons_succ]
        refine wpAnyH_take (i := 19) (oi := ?on20) (v := ?vn20) ?hin20 ?an20 ?bn20 ?cn20 ?qn20 (Or.inl ⟨?dn20, ?hyn20⟩) hHeld ?restn20
        case hin20 => (simp only [List.getElem?_toArray, List.getElem?_cons_succ, List.getElem?_cons_zero]; exact rfl)
        case an20 => kernel_rfl
        case bn20 => kernel_rfl
        case cn20 => kernel_rfl
        case qn20 => exact fun _ _ _ h => h
        case dn20 => rfl
        case hyn20 => (intro z hSw; (try dsimp only at hSw); go_simp; (try with_reducible rfl))
        try simp only [Act.put, List.setIfInBounds_toArray, List.set_cons_zero, List.set_cons_succ]
        refine wpAnyH_done (by kernel_rfl) ?_ _
        go_wp2_with fail
        go_ret
        exact ⟨rfl, (by repeat (first | with_reducible assumption | with_reducible refine Grew.alloc ?_ _ | with_reducible refine Grew.drew ?_ | with_reducible refine Grew.drewN ?_ _))⟩
      · rw [dcd_false (fun h => h2 (h.2.2))]
        rw [dcd_false h2] at KN0
        replace KN0 := Lib.hid KN0
        replace KY := Lib.hid KY
        replace hwb := hwb.symm
        clear h0 h1 h2
        go_enter Tryz.func43, Tryz.ntmps43
        go_wp2_with fail
        rw [← hwb]
        clear hwb
        go_quiet (fail)
        go_wp2_with fail
        refine (KP.out _).mono ?_
        rintro e w1 ⟨rfl, hg1'⟩
        have hg1 : Grew wb w1 := Grew.trans (by repeat (first | with_reducible assumption | with_reducible refine Grew.alloc ?_ _ | with_reducible refine Grew.drew ?_ | with_reducible refine Grew.drewN ?_ _)) hg1'
        have g1 := hal.trans hg1
        have r1 := Grew.refl w1
        have d1 := r1.drew
        have gd := g1.trans d1
        have e0 := fun W (hW : Grew w1 W) => f0 W (hg1.trans hW)
        have e2 := fun W (hW : Grew w1 W) => f2 W (hg1.trans hW)
        have e3 := fun W (hW : Grew w1 W) => f3 W (hg1.trans hW)
        have e4 := fun W (hW : Grew w1 W) => f4 W (hg1.trans hW)
        have p0a := fun W (hW : Grew w1 W) => q0a W (g1.trans hW)
        have p0b := fun W (hW : Grew w1 W) => q0b W (g1.trans hW)
        have p0c := fun W (hW : Grew w1 W) => q0c W (g1.trans hW)
        have p0d := fun W (hW : Grew w1 W) => q0d W (g1.trans hW)
        have p0e := fun W (hW : Grew w1 W) => q0e W (g1.trans hW)
        clear f0 f2 f3 f4 q0a q0b q0c q0d q0e
        go_wp2_with fail
        refine wp_region_held_drew (S := fun w' => Grew w1 w') (by kernel_rfl) d1 (fun hHeld => ?_)
        refine wpAnyH_take (i := 0) (oi := ?on21) (v := ?vn21) ?hin21 ?an21 ?bn21 ?cn21 ?qn21 (Or.inl ⟨?dn21, ?hyn21⟩) hHeld ?restn21
        case hin21 => (simp only [List.getElem?_toArray, List.getElem?_cons_zero]; exact rfl)
        case an21 => kernel_rfl
        case bn21 => kernel_rfl
        case cn21 => kernel_rfl
        case qn21 => exact fun _ _ _ h => h
        case dn21 => rfl
        case hyn21 => (intro z hSw; (try dsimp only at hSw); go_simp; (try with_reducible rfl))
        try simp only [Act.put, List.setIfInBounds_toArray, List.set_cons_zero, List.set_cons_succ]
        refine wpAnyH_take (i := 1) (oi := ?on22) (v := ?vn22) ?hin22 ?an22 ?bn22 ?cn22 ?qn22 (Or.inl ⟨?dn22, ?hyn22⟩) hHeld ?restn22
        case hin22 => (simp only [List.getElem?_toArray, List.getElem?_cons_succ, List.getElem?_cons_zero]; exact rfl)
        case an22 => kernel_rfl
        case bn22 => kernel_rfl
        case cn22 => kernel_rfl
        case qn22 => exact fun _ _ _ h => h
        case dn22 => rfl
        case hyn22 => (intro z hSw; (try dsimp only at hSw); go_simp; (try with_reducible rfl))
        try simp only [Act.put, List.setIfInBounds_toArray, List.set_cons_zero, List.set_cons_succ]
        refine wpAnyH_take (i := 2) (oi := ?on23) (v := ?vn23) ?hin23 ?an23 ?bn23 ?cn23 ?qn23 (Or.inl ⟨?dn23, ?hyn23⟩) hHeld ?restn23
        case hin23 => (simp only [List.getElem?_toArray, List.getElem?_cons_succ, List.getElem?_cons_zero]; exact rfl)
        case an23 => kernel_rfl
        case bn23 => kernel_rfl
        case cn23 => kernel_rfl
        case qn23 => exact fun _ _ _ h => h
        case dn23 => rfl
        case hyn23 => (intro z hSw; (try dsimp only at hSw); go_simp; (try with_reducible rfl))
        try simp only [Act.put, List.setIfInBounds_toArray, List.set_cons_zero, List.set_cons_succ]
        refine wpAnyH_take (i := 3) (oi := ?on24) (v := ?vn24) ?hin24 ?an24 ?bn24 ?cn24 ?qn24 (Or.inl ⟨?dn24, ?hyn24⟩) hHeld ?restn24
        case hin24 => (simp only [List.getElem?_toArray, List.getElem?_cons_succ, List.getElem?_cons_zero]; exact rfl)
        case an24 => kernel_rfl
        case bn24 => kernel_rfl
        case cn24 => kernel_rfl
        case qn24 => exact fun _ _ _ h => h
        case dn24 => rfl
        case hyn24 => (intro z hSw; (try dsimp only at hSw); go_simp; (try with_reducible rfl))
        try simp only [Act.put, List.setIfInBounds_toArray, List.set_cons_zero, List.set_cons_succ]
        refine wpAnyH_take (i := 4) (oi := ?on25) (v := ?vn25) ?hin25 ?an25 ?bn25 ?cn25 ?qn25 (Or.inl ⟨?dn25, ?hyn25⟩) hHeld ?restn25
        case hin25 => (simp only [List.getElem?_toArray, List.getElem?_cons_succ, List.getElem?_cons_zero]; exact rfl)
        case an25 => kernel_rfl
        case bn25 => kernel_rfl
        case cn25 => kernel_rfl
        case qn25 => exact fun _ _ _ h => h
        case dn25 => rfl
        case hyn25 => (intro z hSw; (try dsimp only at hSw); go_simp; (try with_reducible rfl))
        try simp only [Act.put, List.setIfInBounds_toArray, List.set_cons_zero, List.set_cons_succ]
        refine wpAnyH_ready (rs := [5]) (by kernel_rfl) (by simp) ?_
        refine AllReadyH.cons (o := ?on26) ?hin26 ?restn26 AllReadyH.nil
        case hin26 => (simp only [List.getElem?_toArray, List.getElem?_cons_succ, List.getElem?_cons_zero]; exact rfl)
        intro K hK
        go_simp
        go_at_call 54
        refine (KY.out _ (by repeat (first | with_reducible assumption | with_reducible refine Grew.alloc ?_ _ | with_reducible refine Grew.drew ?_ | with_reducible refine Grew.drewN ?_ _))).mono ?_
        rintro e ws ⟨rfl, hgs⟩
        have gws : Grew w ws := Grew.trans (by repeat (first | with_reducible assumption | with_reducible refine Grew.alloc ?_ _ | with_reducible refine Grew.drew ?_ | with_reducible refine Grew.drewN ?_ _)) hgs
        have mws : Grew w1 ws := Grew.trans (by repeat (first | with_reducible assumption | with_reducible refine Grew.alloc ?_ _ | with_reducible refine Grew.drew ?_ | with_reducible refine Grew.drewN ?_ _)) hgs
        refine hK.out _ _ ?_ (fun hHeld => ?_)
        · (try dsimp only); first | with_reducible assumption | exact Grew.alloc ‹_› _
        clear hK K
        try simp only [Act.put, List.setIfInBounds_toArray, List.set_cons_zero, List.set_cons_succ]
        refine wpAnyH_take (i := 6) (oi := ?on27) (v := ?vn27) ?hin27 ?an27 ?bn27 ?cn27 ?qn27 (Or.inl ⟨?dn27, ?hyn27⟩) hHeld ?restn27
        case hin27 => (simp only [List.getElem?_toArray, List.getElem?_cons_succ, List.getElem?_cons_zero]; exact rfl)
        case an27 => kernel_rfl
        case bn27 => kernel_rfl
        case cn27 => kernel_rfl
        case qn27 => exact fun _ _ _ h => h
        case dn27 => rfl
        case hyn27 => (intro z hSw; (try dsimp only at hSw); go_simp; (try with_reducible rfl))
        try simp only [Act.put, List.setIfInBounds_toArray, List.set_cons_zero, List.set_cons_succ]
        refine wpAnyH_take (i := 7) (oi := ?on28) (v := ?vn28) ?hin28 ?an28 ?bn28 ?cn28 ?qn28 (Or.inl ⟨?dn28, ?hyn28⟩) hHeld ?restn28
        case hin28 => (simp only [List.getElem?_toArray, List.getElem?_cons_succ, List.getElem?_cons_zero]; exact rfl)
        case an28 => kernel_rfl
        case bn28 => kernel_rfl
        case cn28 => kernel_rfl
        case qn28 => exact fun _ _ _ h => h
        case dn28 => rfl
        case hyn28 => (intro z hSw; (try dsimp only at hSw); go_simp; (try with_reducible rfl))
        try simp only [Act.put, List.setIfInBounds_toArray, List.set_cons_zero, List.set_cons_succ]
        refine wpAnyH_take (i := 8) (oi := ?on29) (v := ?vn29) ?hin29 ?an29 ?bn29 ?cn29 ?qn29 (Or.inl ⟨?dn29, ?hyn29⟩) hHeld ?restn29
        case hin29 => (simp only [List.getElem?_toArray, List.getElem?_cons_succ, List.getElem?_cons_zero]; exact rfl)
        case an29 => kernel_rfl
        case bn29 => kernel_rfl
        case cn29 => kernel_rfl
        case qn29 => exact fun _ _ _ h => h
        case dn29 => rfl
        case hyn29 => (intro z hSw; (try dsimp only at hSw); go_simp; (try with_reducible rfl))
        try simp only [Act.put, List.setIfInBounds_toArray, List.set_cons_zero, List.set_cons_succ]
        refine wpAnyH_take (i := 9) (oi := ?on30) (v := ?vn30) ?hin30 ?an30 ?bn30 ?cn30 ?qn30 (Or.inl ⟨?dn30, ?hyn30⟩) hHeld ?restn30
        case hin30 => (simp only [List.getElem?_toArray, List.getElem?_cons_succ, List.getElem?_cons_zero]; exact rfl)
        case an30 => kernel_rfl
        case bn30 => kernel_rfl
        case cn30 => kernel_rfl
        case qn30 => exact fun _ _ _ h => h
        case dn30 => rfl
        case hyn30 => (intro z hSw; (try dsimp only at hSw); go_simp; (try with_reducible rfl))
        try simp only [Act.put, List.setIfInBounds_toArray, List.set_cons_zero, List.set_cons_succ]
        refine wpAnyH_take (i := 10) (oi := ?on31) (v := ?vn31) ?hin31 ?an31 ?bn31 ?cn31 ?qn31 (Or.inl ⟨?dn31, ?hyn31⟩) hHeld ?restn31
        case hin31 => (simp only [List.getElem?_toArray, List.getElem?_cons_succ, List.getElem?_cons_zero]; exact rfl)
        case an31 => kernel_rfl
        case bn31 => kernel_rfl
        case cn31 => kernel_rfl
        case qn31 => exact fun _ _ _ h => h
        case dn31 => rfl
        case hyn31 => (intro z hSw; (try dsimp only at hSw); go_simp; (try with_reducible rfl))
        try simp only [Act.put, List.setIfInBounds_toArray, List.set_cons_zero, List.set_cons_succ]
        refine wpAnyH_take (i := 11) (oi := ?on32) (v := ?vn32) ?hin32 ?an32 ?bn32 ?cn32 ?qn32 (Or.inl ⟨?dn32, ?hyn32⟩) hHeld ?restn32
        case hin32 => (simp only [List.getElem?_toArray, List.getElem?_cons_succ, List.getElem?_cons_zero]; exact rfl)
        case an32 => kernel_rfl
        case bn32 => kernel_rfl
        case cn32 => kernel_rfl
        case qn32 => exact fun _ _ _ h => h
        case dn32 => rfl
        case hyn32 => (intro z hSw; (try dsimp only at hSw); go_simp; (try with_reducible rfl))
        try simp only [Act.put, List.setIfInBounds_toArray, List.set_cons_zero, List.set_cons_succ]
        refine wpAnyH_take (i := 12) (oi := ?on33) (v := ?vn33) ?hin33 ?an33 ?bn33 ?cn33 ?qn33 (Or.inl ⟨?dn33, ?hyn33⟩) hHeld ?restn33
        case hin33 => (simp only [List.getElem?_toArray, List.getElem?_cons_succ, List.getElem?_cons_zero]; exact rfl)
        case an33 => kernel_rfl
        case bn33 => kernel_rfl
        case cn33 => kernel_rfl
        case qn33 => exact fun _ _ _ h => h
        case dn33 => rfl
        case hyn33 => (intro z hSw; (try dsimp only at hSw); go_simp; (try with_reducible rfl))
        try simp only [Act.put, List.setIfInBounds_toArray, List.set_cons_zero, List.set_cons_succ]
        refine wpAnyH_take (i := 13) (oi := ?on34) (v := ?vn34) ?hin34 ?an34 ?bn34 ?cn34 ?qn34 (Or.inl ⟨?dn34, ?hyn34⟩) hHeld ?restn34
        case hin34 => (simp only [List.getElem?_toArray, List.getElem?_cons_succ, List.getElem?_cons_zero]; exact rfl)
        case an34 => kernel_rfl
        case bn34 => kernel_rfl
        case cn34 => kernel_rfl
        case qn34 => exact fun _ _ _ h => h
        case dn34 => rfl
        case hyn34 => (intro z hSw; (try dsimp only at hSw); go_simp; (try with_reducible rfl))
        try simp only [Act.put, List.setIfInBounds_toArray, List.set_cons_zero, List.set_cons_succ]
        refine wpAnyH_take (i := 16) (oi := ?on35) (v := ?vn35) ?hin35 ?an35 ?bn35 ?cn35 ?qn35 (Or.inl ⟨?dn35, ?hyn35⟩) hHeld ?restn35
        case hin35 => (simp only [List.getElem?_toArray, List.getElem?_cons_succ, List.getElem?_cons_zero]; exact rfl)
        case an35 => kernel_rfl
        case bn35 => kernel_rfl
        case cn35 => kernel_rfl
        case qn35 => exact fun _ _ _ h => h
        case dn35 => rfl
        case hyn35 => (intro z hSw; (try dsimp only at hSw); go_simp; (try with_reducible rfl))
        try simp only [Act.put, List.setIfInBounds_toArray, List.set_cons_zero, List.set_cons_succ]
        refine wpAnyH_ready (rs := [14]) (by kernel_rfl) (by simp) ?_
        refine AllReadyH.cons (o := ?on36) ?hin36 ?restn36 AllReadyH.nil
        case hin36 => (simp only [List.getElem?_toArray, List.getElem?_cons_succ, List.getElem?_cons_zero]; exact rfl)
        intro K hK
        go_simp
        refine hK.out _ _ ?_ (fun hHeld => ?_)
        · (try dsimp only); first | with_reducible assumption | exact Grew.alloc ‹_› _
        clear hK K
        try simp only [Act.put, List.setIfInBounds_toArray, List.set_cons_zero, List.set_cons_succ]
        refine wpAnyH_ready (rs := [15]) (by kernel_rfl) (by simp) ?_
        refine AllReadyH.cons (o := ?on37) ?hin37 ?restn37 AllReadyH.nil
        case hin37 => (simp only [List.getElem?_toArray, List.getElem?_cons_succ, List.getElem?_cons_zero]; exact rfl)
        intro K hK
        go_simp
        go_at_call 57
        refine (KW0.out _ (by repeat (first | with_reducible assumption | with_reducible refine Grew.alloc ?_ _ | with_reducible refine Grew.drew ?_ | with_reducible refine Grew.drewN ?_ _)) _ (strs_at2 (by simp) (by simp) (by simp))).mono ?_
        rintro e z0 ⟨zu0, rfl, zo0, zg0⟩
        have gz0 : Grew w z0 := Grew.trans (by repeat (first | with_reducible assumption | with_reducible refine Grew.alloc ?_ _ | with_reducible refine Grew.drew ?_ | with_reducible refine Grew.drewN ?_ _)) zg0
        have mz0 : Grew w1 z0 := Grew.trans (by repeat (first | with_reducible assumption | with_reducible refine Grew.alloc ?_ _ | with_reducible refine Grew.drew ?_ | with_reducible refine Grew.drewN ?_ _)) zg0
        have zs0 := Lib.hid zo0
        obtain ⟨ZA0, zc0, rfl⟩ := strs_slice zo0
        clear zo0
        refine hK.out _ _ ?_ (fun hHeld => ?_)
        · (try dsimp only); first | with_reducible assumption | exact Grew.alloc ‹_› _
        clear hK K
        try simp only [Act.put, List.setIfInBounds_toArray, List.set_cons_zero, List.set_cons_succ]
        refine wpAnyH_ready (rs := [17]) (by kernel_rfl) (by simp) ?_
        refine AllReadyH.cons (o := ?on38) ?hin38 ?restn38 AllReadyH.nil
        case hin38 => (simp only [List.getElem?_toArray, List.getElem?_cons_succ, List.getElem?_cons_zero]; exact rfl)
        intro K hK
        go_simp
        go_at_call 56
        refine (KN0.out _ (by repeat (first | with_reducible assumption | with_reducible refine Grew.alloc ?_ _ | with_reducible refine Grew.drew ?_ | with_reducible refine Grew.drewN ?_ _)) _ zs0.out).mono ?_
        rintro e v0 ⟨rfl, vg0⟩
        have gv0 : Grew w v0 := Grew.trans (by repeat (first | with_reducible assumption | with_reducible refine Grew.alloc ?_ _ | with_reducible refine Grew.drew ?_ | with_reducible refine Grew.drewN ?_ _)) vg0
        have mv0 : Grew w1 v0 := Grew.trans (by repeat (first | with_reducible assumption | with_reducible refine Grew.alloc ?_ _ | with_reducible refine Grew.drew ?_ | with_reducible refine Grew.drewN ?_ _)) vg0
        refine hK.out _ _ ?_ (fun hHeld => ?_)
        · (try dsimp only); first | with_reducible assumption | exact Grew.alloc ‹_› _
        clear hK K
        try simp only [Act.put, List.setIfInBounds_toArray, List.set_cons_zero, List.set_cons_succ]
        refine wpAnyH_take (i := 18) (oi := ?on39) (v := ?vn39) ?hin39 ?an39 ?bn39 ?cn39 ?qn39 (Or.inl ⟨?dn39, ?hyn39⟩) hHeld ?restn39
        case hin39 => (simp only [List.getElem?_toArray, List.getElem?_cons_succ, List.getElem?_cons_zero]; exact rfl)
        case an39 => kernel_rfl
        case bn39 => kernel_rfl
        case cn39 => kernel_rfl
        case qn39 => exact fun _ _ _ h => h
        case dn39 => rfl
        case hyn39 => (intro z hSw; (try dsimp only at hSw); go_simp; (try with_reducible rfl))
        try simp only [Act.put, List.setIfInBounds_toArray, List.set_cons_zero, List.set_cons_succ]
        refine wpAnyH_take (i := 19) (oi := ?on40) (v := ?vn40) ?hin40 ?an40 ?bn40 ?cn40 ?qn40 (Or.inl ⟨?dn40, ?hyn40⟩) hHeld ?restn40
        case hin40 => (simp only [List.getElem?_toArray, List.getElem?_cons_succ, List.getElem?_cons_zero]; exact rfl)
        case an40 => kernel_rfl
        case bn40 => kernel_rfl
        case cn40 => kernel_rfl
        case qn40 => exact fun _ _ _ h => h
        case dn40 => rfl
        case hyn40 => (intro z hSw; (try dsimp only at hSw); go_simp; (try with_reducible rfl))
        try simp only [Act.put, List.setIfInBounds_toArray, List.set_cons_zero, List.set_cons_succ]
        refine wpAnyH_done (by kernel_rfl) ?_ _
        go_wp2_with fail
        go_ret
        exact ⟨rfl, (by repeat (first | with_reducible assumption | with_reducible refine Grew.alloc ?_ _ | with_reducible refine Grew.drew ?_ | with_reducible refine Grew.drewN ?_ _))⟩
    · rw [dcd_false (fun h => h1 (h.2.1))]
      rw [dcd_false h1] at KY
      replace KN0 := Lib.hid KN0
      replace KY := Lib.hid KY
      replace hwb := hwb.symm
      clear h0 h1
      go_enter Tryz.func43, Tryz.ntmps43
      go_wp2_with fail
      rw [← hwb]
      clear hwb
      go_quiet (fail)
      go_wp2_with fail
      refine (KP.out _).mono ?_
      rintro e w1 ⟨rfl, hg1'⟩
      have hg1 : Grew wb w1 := Grew.trans (by repeat (first | with_reducible assumption | with_reducible refine Grew.alloc ?_ _ | with_reducible refine Grew.drew ?_ | with_reducible refine Grew.drewN ?_ _)) hg1'
      have g1 := hal.trans hg1
      have r1 := Grew.refl w1
      have d1 := r1.drew
      have gd := g1.trans d1
      have e0 := fun W (hW : Grew w1 W) => f0 W (hg1.trans hW)
      have e2 := fun W (hW : Grew w1 W) => f2 W (hg1.trans hW)
      have e3 := fun W (hW : Grew w1 W) => f3 W (hg1.trans hW)
      have e4 := fun W (hW : Grew w1 W) => f4 W (hg1.trans hW)
      have p0a := fun W (hW : Grew w1 W) => q0a W (g1.trans hW)
      have p0b := fun W (hW : Grew w1 W) => q0b W (g1.trans hW)
      have p0c := fun W (hW : Grew w1 W) => q0c W (g1.trans hW)
      have p0d := fun W (hW : Grew w1 W) => q0d W (g1.trans hW)
      have p0e := fun W (hW : Grew w1 W) => q0e W (g1.trans hW)
      clear f0 f2 f3 f4 q0a q0b q0c q0d q0e
      go_wp2_with fail
      refine wp_region_held_drew (S := fun w' => Grew w1 w') (by kernel_rfl) d1 (fun hHeld => ?_)
      refine wpAnyH_take (i := 0) (oi := ?on41) (v := ?vn41) ?hin41 ?an41 ?bn41 ?cn41 ?qn41 (Or.inl ⟨?dn41, ?hyn41⟩) hHeld ?restn41
      case hin41 => (simp only [List.getElem?_toArray, List.getElem?_cons_zero]; exact rfl)
      case an41 => kernel_rfl
      case bn41 => kernel_rfl
      case cn41 => kernel_rfl
      case qn41 => exact fun _ _ _ h => h
      case dn41 => rfl
      case hyn41 => (intro z hSw; (try dsimp only at hSw); go_simp; (try with_reducible rfl))
      try simp only [Act.put, List.setIfInBounds_toArray, List.set_cons_zero, List.set_cons_succ]
      refine wpAnyH_take (i := 1) (oi := ?on42) (v := ?vn42) ?hin42 ?an42 ?bn42 ?cn42 ?qn42 (Or.inl ⟨?dn42, ?hyn42⟩) hHeld ?restn42
      case hin42 => (simp only [List.getElem?_toArray, List.getElem?_cons_succ, List.getElem?_cons_zero]; exact rfl)
      case an42 => kernel_rfl
      case bn42 => kernel_rfl
      case cn42 => kernel_rfl
      case qn42 => exact fun _ _ _ h => h
      case dn42 => rfl
      case hyn42 => (intro z hSw; (try dsimp only at hSw); go_simp; (try with_reducible rfl))
      try simp only [Act.put, List.setIfInBounds_toArray, List.set_cons_zero, List.set_cons_succ]
      refine wpAnyH_take (i := 2) (oi := ?on43) (v := ?vn43) ?hin43 ?an43 ?bn43 ?cn43 ?qn43 (Or.inl ⟨?dn43, ?hyn43⟩) hHeld ?restn43
      case hin43 => (simp only [List.getElem?_toArray, List.getElem?_cons_succ, List.getElem?_cons_zero]; exact rfl)
      case an43 => kernel_rfl
      case bn43 => kernel_rfl
      case cn43 => kernel_rfl
      case qn43 => exact fun _ _ _ h => h
      case dn43 => rfl
      case hyn43 => (intro z hSw; (try dsimp only at hSw); go_simp; (try with_reducible rfl))
      try simp only [Act.put, List.setIfInBounds_toArray, List.set_cons_zero, List.set_cons_succ]
      refine wpAnyH_take (i := 3) (oi := ?on44) (v := ?vn44) ?hin44 ?an44 ?bn44 ?cn44 ?qn44 (Or.inl ⟨?dn44, ?hyn44⟩) hHeld ?restn44
      case hin44 => (simp only [List.getElem?_toArray, List.getElem?_cons_succ, List.getElem?_cons_zero]; exact rfl)
      case an44 => kernel_rfl
      case bn44 => kernel_rfl
      case cn44 => kernel_rfl
      case qn44 => exact fun _ _ _ h => h
      case dn44 => rfl
      case hyn44 => (intro z hSw; (try dsimp only at hSw); go_simp; (try with_reducible rfl))
      try simp only [Act.put, List.setIfInBounds_toArray, List.set_cons_zero, List.set_cons_succ]
      refine wpAnyH_take (i := 4) (oi := ?on45) (v := ?vn45) ?hin45 ?an45 ?bn45 ?cn45 ?qn45 (Or.inl ⟨?dn45, ?hyn45⟩) hHeld ?restn45
      case hin45 => (simp only [List.getElem?_toArray, List.getElem?_cons_succ, List.getElem?_cons_zero]; exact rfl)
      case an45 => kernel_rfl
      case bn45 => kernel_rfl
      case cn45 => kernel_rfl
      case qn45 => exact fun _ _ _ h => h
      case dn45 => rfl
      case hyn45 => (intro z hSw; (try dsimp only at hSw); go_simp; (try with_reducible rfl))
      try simp only [Act.put, List.setIfInBounds_toArray, List.set_cons_zero, List.set_cons_succ]
      refine wpAnyH_ready (rs := [5]) (by kernel_rfl) (by simp) ?_
      refine AllReadyH.cons (o := ?on46) ?hin46 ?restn46 AllReadyH.nil
      case hin46 => (simp only [List.getElem?_toArray, List.getElem?_cons_succ, List.getElem?_cons_zero]; exact rfl)
      intro K hK
      go_simp
      go_at_call 54
      refine (KY.out _ (by repeat (first | with_reducible assumption | with_reducible refine Grew.alloc ?_ _ | with_reducible refine Grew.drew ?_ | with_reducible refine Grew.drewN ?_ _))).mono ?_
      rintro e ws ⟨rfl, hgs⟩
      have gws : Grew w ws := Grew.trans (by repeat (first | with_reducible assumption | with_reducible refine Grew.alloc ?_ _ | with_reducible refine Grew.drew ?_ | with_reducible refine Grew.drewN ?_ _)) hgs
      have mws : Grew w1 ws := Grew.trans (by repeat (first | with_reducible assumption | with_reducible refine Grew.alloc ?_ _ | with_reducible refine Grew.drew ?_ | with_reducible refine Grew.drewN ?_ _)) hgs
      refine hK.out _ _ ?_ (fun hHeld => ?_)
      · (try dsimp only); first | with_reducible assumption | exact Grew.alloc ‹_› _
      clear hK K
      try simp only [Act.put, List.setIfInBounds_toArray, List.set_cons_zero, List.set_cons_succ]
      refine wpAnyH_take (i := 6) (oi := ?on47) (v := ?vn47) ?hin47 ?an47 ?bn47 ?cn47 ?qn47 (Or.inl ⟨?dn47, ?hyn47⟩) hHeld ?restn47
      case hin47 => (simp only [List.getElem?_toArray, List.getElem?_cons_succ, List.getElem?_cons_zero]; exact rfl)
      case an47 => kernel_rfl
      case bn47 => kernel_rfl
      case cn47 => kernel_rfl
      case qn47 => exact fun _ _ _ h => h
      case dn47 => rfl
      case hyn47 => (intro z hSw; (try dsimp only at hSw); go_simp; (try with_reducible rfl))
      try simp only [Act.put, List.setIfInBounds_toArray, List.set_cons_zero, List.set_cons_succ]
      refine wpAnyH_take (i := 7) (oi := ?on48) (v := ?vn48) ?hin48 ?an48 ?bn48 ?cn48 ?qn48 (Or.inl ⟨?dn48, ?hyn48⟩) hHeld ?restn48
      case hin48 => (simp only [List.getElem?_toArray, List.getElem?_cons_succ, List.getElem?_cons_zero]; exact rfl)
      case an48 => kernel_rfl
      case bn48 => kernel_rfl
      case cn48 => kernel_rfl
      case qn48 => exact fun _ _ _ h => h
      case dn48 => rfl
      case hyn48 => (intro z hSw; (try dsimp only at hSw); go_simp; (try with_reducible rfl))
      try simp only [Act.put, List.setIfInBounds_toArray, List.set_cons_zero, List.set_cons_succ]
      refine wpAnyH_take (i := 8) (oi := ?on49) ?hin49 ?an49 ?bn49 ?cn49 ?qn49 (Or.inr ⟨?dn49, rfl⟩) hHeld ?restn49
      case hin49 => (simp only [List.getElem?_toArray, List.getElem?_cons_succ, List.getElem?_cons_zero]; exact rfl)
      case an49 => kernel_rfl
      case bn49 => kernel_rfl
      case cn49 => kernel_rfl
      case qn49 => exact fun _ _ _ h => h
      case dn49 => rfl
      try simp only [Act.put, List.setIfInBounds_toArray, List.set_cons_zero, List.set_cons_succ]
      refine wpAnyH_take (i := 9) (oi := ?on50) ?hin50 ?an50 ?bn50 ?cn50 ?qn50 (Or.inr ⟨?dn50, rfl⟩) hHeld ?restn50
      case hin50 => (simp only [List.getElem?_toArray, List.getElem?_cons_succ, List.getElem?_cons_zero]; exact rfl)
      case an50 => kernel_rfl
      case bn50 => kernel_rfl
      case cn50 => kernel_rfl
      case qn50 => exact fun _ _ _ h => h
      case dn50 => rfl
      try simp only [Act.put, List.setIfInBounds_toArray, List.set_cons_zero, List.set_cons_succ]
      refine wpAnyH_take (i := 10) (oi := ?on51) ?hin51 ?an51 ?bn51 ?cn51 ?qn51 (Or.inr ⟨?dn51, rfl⟩) hHeld ?restn51
      case hin51 => (simp only [List.getElem?_toArray, List.getElem?_cons_succ, List.getElem?_cons_zero]; exact rfl)
      case an51 => kernel_rfl
      case bn51 => kernel_rfl
      case cn51 => kernel_rfl
      case qn51 => exact fun _ _ _ h => h
      case dn51 => rfl
      try simp only [Act.put, List.setIfInBounds_toArray, List.set_cons_zero, List.set_cons_succ]
      refine wpAnyH_take (i := 11) (oi := ?on52) ?hin52 ?an52 ?bn52 ?cn52 ?qn52 (Or.inr ⟨?dn52, rfl⟩) hHeld ?restn52
      case hin52 => (simp only [List.getElem?_toArray, List.getElem?_cons_succ, List.getElem?_cons_zero]; exact rfl)
      case an52 => kernel_rfl
      case bn52 => kernel_rfl
      case cn52 => kernel_rfl
      case qn52 => exact fun _ _ _ h => h
      case dn52 => rfl
      try simp only [Act.put, List.setIfInBounds_toArray, List.set_cons_zero, List.set_cons_succ]
      refine wpAnyH_take (i := 12) (oi := ?on53) ?hin53 ?an53 ?bn53 ?cn53 ?qn53 (Or.inr ⟨?dn53, rfl⟩) hHeld ?restn53
      case hin53 => (simp only [List.getElem?_toArray, List.getElem?_cons_succ, List.getElem?_cons_zero]; exact rfl)
      case an53 => kernel_rfl
      case bn53 => kernel_rfl
      case cn53 => kernel_rfl
      case qn53 => exact fun _ _ _ h => h
      case dn53 => rfl
      try simp only [Act.put, List.setIfInBounds_toArray, List.set_cons_zero, List.set_cons_succ]
      refine wpAnyH_take (i := 13) (oi := ?on54) ?hin54 ?an54 ?bn54 ?cn54 ?qn54 (Or.inr ⟨?dn54, rfl⟩) hHeld ?restn54
      case hin54 => (simp only [List.getElem?_toArray, List.getElem?_cons_succ, List.getElem?_cons_zero]; exact rfl)
      case an54 => kernel_rfl
      case bn54 => kernel_rfl
      case cn54 => kernel_rfl
      case qn54 => exact fun _ _ _ h => h
      case dn54 => rfl
      try simp only [Act.put, List.setIfInBounds_toArray, List.set_cons_zero, List.set_cons_succ]
      refine wpAnyH_take (i := 14) (oi := ?on55) ?hin55 ?an55 ?bn55 ?cn55 ?qn55 (Or.inr ⟨?dn55, rfl⟩) hHeld ?restn55
      case hin55 => (simp only [List.getElem?_toArray, List.getElem?_cons_succ, List.getElem?_cons_zero]; exact rfl)
      case an55 => kernel_rfl
      case bn55 => kernel_rfl
      case cn55 => kernel_rfl
      case qn55 => exact fun _ _ _ h => h
      case dn55 => rfl
      try simp only [Act.put, List.setIfInBounds_toArray, List.set_cons_zero, List.set_cons_succ]
      refine wpAnyH_take (i := 15) (oi := ?on56) ?hin56 ?an56 ?bn56 ?cn56 ?qn56 (Or.inr ⟨?dn56, rfl⟩) hHeld ?restn56
      case hin56 => (simp only [List.getElem?_toArray, List.getElem?_cons_succ, List.getElem?_cons_zero]; exact rfl)
      case an56 => kernel_rfl
      case bn56 => kernel_rfl
      case cn56 => kernel_rfl
      case qn56 => exact fun _ _ _ h => h
      case dn56 => rfl
      try simp only [Act.put, List.setIfInBounds_toArray, List.set_cons_zero, List.set_cons_succ]
      refine wpAnyH_take (i := 16) (oi := ?on57) ?hin57 ?an57 ?bn57 ?cn57 ?qn57 (Or.inr ⟨?dn57, rfl⟩) hHeld ?restn57
      case hin57 => (simp only [List.getElem?_toArray, List.getElem?_cons_succ, List.getElem?_cons_zero]; exact rfl)
      case an57 => kernel_rfl
      case bn57 => kernel_rfl
      case cn57 => kernel_rfl
      case qn57 => exact fun _ _ _ h => h
      case dn57 => rfl
      try simp only [Act.put, List.setIfInBounds_toArray, List.set_cons_zero, List.set_cons_succ]
      refine wpAnyH_take (i := 17) (oi := ?on58) ?hin58 ?an58 ?bn58 ?cn58 ?qn58 (Or.inr ⟨?dn58, rfl⟩) hHeld ?restn58
      case hin58 => (simp only [List.getElem?_toArray, List.getElem?_cons_succ, List.getElem?_cons_zero]; exact rfl)
      case an58 => kernel_rfl
      case bn58 => kernel_rfl
      case cn58 => kernel_rfl
      case qn58 => exact fun _ _ _ h => h
      case dn58 => rfl
      try simp only [Act.put, List.setIfInBounds_toArray, List.set_cons_zero, List.set_cons_succ]
      refine wpAnyH_take (i := 18) (oi := ?on59) (v := ?vn59) ?hin59 ?an59 ?bn59 ?cn59 ?qn59 (Or.inl ⟨?dn59, ?hyn59⟩) hHeld ?restn59
      case hin59 => (simp only [List.getElem?_toArray, List.getElem?_cons_succ, List.getElem?_cons_zero]; exact rfl)
      case an59 => kernel_rfl
      case bn59 => kernel_rfl
      case cn59 => kernel_rfl
      case qn59 => exact fun _ _ _ h => h
      case dn59 => rfl
      case hyn59 => (intro z hSw; (try dsimp only at hSw); go_simp; (try with_reducible rfl))
      try simp only [Act.put, List.setIfInBounds_toArray, List.set_cons_zero, List.set_cons_succ]
      refine wpAnyH_take (i := 19) (oi := ?on60) (v := ?vn60) ?hin60 ?an60 ?bn60 ?cn60 ?qn60 (Or.inl ⟨?dn60, ?hyn60⟩) hHeld ?restn60
      case hin60 => (simp only [List.getElem?_toArray, List.getElem?_cons_succ, List.getElem?_cons_zero]; exact rfl)
      case an60 => kernel_rfl
      case bn60 => kernel_rfl
      case cn60 => kernel_rfl
      case qn60 => exact fun _ _ _ h => h
      case dn60 => rfl
      case hyn60 => (intro z hSw; (try dsimp only at hSw); go_simp; (try with_reducible rfl))
      try simp only [Act.put, List.setIfInBounds_toArray, List.set_cons_zero, List.set_cons_succ]
      refine wpAnyH_done (by kernel_rfl) ?_ _
      go_wp2_with fail
      go_ret
      exact ⟨rfl, (by repeat (first | with_reducible assumption | with_reducible refine Grew.alloc ?_ _ | with_reducible refine Grew.drew ?_ | with_reducible refine Grew.drewN ?_ _))⟩
  · rw [dcd_false (fun h => h0 (h.1))]
    have KP := Lib.hid (fun W => split_no 2 M W hM h0)
    replace KN0 := Lib.hid KN0
    replace KY := Lib.hid KY
    replace hwb := hwb.symm
    clear h0
    go_enter Tryz.func43, Tryz.ntmps43
    go_wp2_with fail
    rw [← hwb]
    clear hwb
    go_quiet (fail)
    go_wp2_with fail
    refine (KP.out _).mono ?_
    rintro e w1 ⟨rfl, hg1'⟩
    have hg1 : Grew wb w1 := Grew.trans (by repeat (first | with_reducible assumption | with_reducible refine Grew.alloc ?_ _ | with_reducible refine Grew.drew ?_ | with_reducible refine Grew.drewN ?_ _)) hg1'
    have g1 := hal.trans hg1
    have r1 := Grew.refl w1
    have d1 := r1.drew
    have gd := g1.trans d1
    have e0 := fun W (hW : Grew w1 W) => f0 W (hg1.trans hW)
    have e2 := fun W (hW : Grew w1 W) => f2 W (hg1.trans hW)
    have e3 := fun W (hW : Grew w1 W) => f3 W (hg1.trans hW)
    have e4 := fun W (hW : Grew w1 W) => f4 W (hg1.trans hW)
    have p0a := fun W (hW : Grew w1 W) => q0a W (g1.trans hW)
    have p0b := fun W (hW : Grew w1 W) => q0b W (g1.trans hW)
    have p0c := fun W (hW : Grew w1 W) => q0c W (g1.trans hW)
    have p0d := fun W (hW : Grew w1 W) => q0d W (g1.trans hW)
    have p0e := fun W (hW : Grew w1 W) => q0e W (g1.trans hW)
    clear f0 f2 f3 f4 q0a q0b q0c q0d q0e
    go_wp2_with fail
    refine wp_region_held_drew (S := fun w' => Grew w1 w') (by kernel_rfl) d1 (fun hHeld => ?_)
    refine wpAnyH_take (i := 0) (oi := ?on61) (v := ?vn61) ?hin61 ?an61 ?bn61 ?cn61 ?qn61 (Or.inl ⟨?dn61, ?hyn61⟩) hHeld ?restn61
    case hin61 => (simp only [List.getElem?_toArray, List.getElem?_cons_zero]; exact rfl)
    case an61 => kernel_rfl
    case bn61 => kernel_rfl
    case cn61 => kernel_rfl
    case qn61 => exact fun _ _ _ h => h
    case dn61 => rfl
    case hyn61 => (intro z hSw; (try dsimp only at hSw); go_simp; (try with_reducible rfl))
    try simp only [Act.put, List.setIfInBounds_toArray, List.set_cons_zero, List.set_cons_succ]
    refine wpAnyH_take (i := 1) (oi := ?on62) (v := ?vn62) ?hin62 ?an62 ?bn62 ?cn62 ?qn62 (Or.inl ⟨?dn62, ?hyn62⟩) hHeld ?restn62
    case hin62 => (simp only [List.getElem?_toArray, List.getElem?_cons_succ, List.getElem?_cons_zero]; exact rfl)
    case an62 => kernel_rfl
    case bn62 => kernel_rfl
    case cn62 => kernel_rfl
    case qn62 => exact fun _ _ _ h => h
    case dn62 => rfl
    case hyn62 => (intro z hSw; (try dsimp only at hSw); go_simp; (try with_reducible rfl))
    try simp only [Act.put, List.setIfInBounds_toArray, List.set_cons_zero, List.set_cons_succ]
    refine wpAnyH_take (i := 2) (oi := ?on63) ?hin63 ?an63 ?bn63 ?cn63 ?qn63 (Or.inr ⟨?dn63, rfl⟩) hHeld ?restn63
    case hin63 => (simp only [List.getElem?_toArray, List.getElem?_cons_succ, List.getElem?_cons_zero]; exact rfl)
    case an63 => kernel_rfl
    case bn63 => kernel_rfl
    case cn63 => kernel_rfl
    case qn63 => exact fun _ _ _ h => h
    case dn63 => rfl
    try simp only [Act.put, List.setIfInBounds_toArray, List.set_cons_zero, List.set_cons_succ]
    refine wpAnyH_take (i := 3) (oi := ?on64) ?hin64 ?an64 ?bn64 ?cn64 ?qn64 (Or.inr ⟨?dn64, rfl⟩) hHeld ?restn64
    case hin64 => (simp only [List.getElem?_toArray, List.getElem?_cons_succ, List.getElem?_cons_zero]; exact rfl)
    case an64 => kernel_rfl
    case bn64 => kernel_rfl
    case cn64 => kernel_rfl
    case qn64 => exact fun _ _ _ h => h
    case dn64 => rfl
    try simp only [Act.put, List.setIfInBounds_toArray, List.set_cons_zero, List.set_cons_succ]
    refine wpAnyH_take (i := 4) (oi := ?on65) ?hin65 ?an65 ?bn65 ?cn65 ?qn65 (Or.inr ⟨?dn65, rfl⟩) hHeld ?restn65
    case hin65 => (simp only [List.getElem?_toArray, List.getElem?_cons_succ, List.getElem?_cons_zero]; exact rfl)
    case an65 => kernel_rfl
    case bn65 => kernel_rfl
    case cn65 => kernel_rfl
    case qn65 => exact fun _ _ _ h => h
    case dn65 => rfl
    try simp only [Act.put, List.setIfInBounds_toArray, List.set_cons_zero, List.set_cons_succ]
    refine wpAnyH_take (i := 5) (oi := ?on66) ?hin66 ?an66 ?bn66 ?cn66 ?qn66 (Or.inr ⟨?dn66, rfl⟩) hHeld ?restn66
    case hin66 => (simp only [List.getElem?_toArray, List.getElem?_cons_succ, List.getElem?_cons_zero]; exact rfl)
    case an66 => kernel_rfl
    case bn66 => kernel_rfl
    case cn66 => kernel_rfl
    case qn66 => exact fun _ _ _ h => h
    case dn66 => rfl
    try simp only [Act.put, List.setIfInBounds_toArray, List.set_cons_zero, List.set_cons_succ]
    refine wpAnyH_take (i := 6) (oi := ?on67) (v := ?vn67) ?hin67 ?an67 ?bn67 ?cn67 ?qn67 (Or.inl ⟨?dn67, ?hyn67⟩) hHeld ?restn67
    case hin67 => (simp only [List.getElem?_toArray, List.getElem?_cons_succ, List.getElem?_cons_zero]; exact rfl)
    case an67 => kernel_rfl
    case bn67 => kernel_rfl
    case cn67 => kernel_rfl
    case qn67 => exact fun _ _ _ h => h
    case dn67 => rfl
    case hyn67 => (intro z hSw; (try dsimp only at hSw); go_simp; (try with_reducible rfl))
    try simp only [Act.put, List.setIfInBounds_toArray, List.set_cons_zero, List.set_cons_succ]
    refine wpAnyH_take (i := 7) (oi := ?on68) (v := ?vn68) ?hin68 ?an68 ?bn68 ?cn68 ?qn68 (Or.inl ⟨?dn68, ?hyn68⟩) hHeld ?restn68
    case hin68 => (simp only [List.getElem?_toArray, List.getElem?_cons_succ, List.getElem?_cons_zero]; exact rfl)
    case an68 => kernel_rfl
    case bn68 => kernel_rfl
    case cn68 => kernel_rfl
    case qn68 => exact fun _ _ _ h => h
    case dn68 => rfl
    case hyn68 => (intro z hSw; (try dsimp only at hSw); go_simp; (try with_reducible rfl))
    try simp only [Act.put, List.setIfInBounds_toArray, List.set_cons_zero, List.set_cons_succ]
    refine wpAnyH_take (i := 8) (oi := ?on69) ?hin69 ?an69 ?bn69 ?cn69 ?qn69 (Or.inr ⟨?dn69, rfl⟩) hHeld ?restn69
    case hin69 => (simp only [List.getElem?_toArray, List.getElem?_cons_succ, List.getElem?_cons_zero]; exact rfl)
    case an69 => kernel_rfl
    case bn69 => kernel_rfl
    case cn69 => kernel_rfl
    case qn69 => exact fun _ _ _ h => h
    case dn69 => rfl
    try simp only [Act.put, List.setIfInBounds_toArray, List.set_cons_zero, List.set_cons_succ]
    refine wpAnyH_take (i := 9) (oi := ?on70) ?hin70 ?an70 ?bn70 ?cn70 ?qn70 (Or.inr ⟨?dn70, rfl⟩) hHeld ?restn70
    case hin70 => (simp only [List.getElem?_toArray, List.getElem?_cons_succ, List.getElem?_cons_zero]; exact rfl)
    case an70 => kernel_rfl
    case bn70 => kernel_rfl
    case cn70 => kernel_rfl
    case qn70 => exact fun _ _ _ h => h
    case dn70 => rfl
    try simp only [Act.put, List.setIfInBounds_toArray, List.set_cons_zero, List.set_cons_succ]
    refine wpAnyH_take (i := 10) (oi := ?on71) ?hin71 ?an71 ?bn71 ?cn71 ?qn71 (Or.inr ⟨?dn71, rfl⟩) hHeld ?restn71
    case hin71 => (simp only [List.getElem?_toArray, List.getElem?_cons_succ, List.getElem?_cons_zero]; exact rfl)
    case an71 => kernel_rfl
    case bn71 => kernel_rfl
    case cn71 => kernel_rfl
    case qn71 => exact fun _ _ _ h => h
    case dn71 => rfl
    try simp only [Act.put, List.setIfInBounds_toArray, List.set_cons_zero, List.set_cons_succ]
    refine wpAnyH_take (i := 11) (oi := ?on72) ?hin72 ?an72 ?bn72 ?cn72 ?qn72 (Or.inr ⟨?dn72, rfl⟩) hHeld ?restn72
    case hin72 => (simp only [List.getElem?_toArray, List.getElem?_cons_succ, List.getElem?_cons_zero]; exact rfl)
    case an72 => kernel_rfl
    case bn72 => kernel_rfl
    case cn72 => kernel_rfl
    case qn72 => exact fun _ _ _ h => h
    case dn72 => rfl
    try simp only [Act.put, List.setIfInBounds_toArray, List.set_cons_zero, List.set_cons_succ]
    refine wpAnyH_take (i := 12) (oi := ?on73) ?hin73 ?an73 ?bn73 ?cn73 ?qn73 (Or.inr ⟨?dn73, rfl⟩) hHeld ?restn73
    case hin73 => (simp only [List.getElem?_toArray, List.getElem?_cons_succ, List.getElem?_cons_zero]; exact rfl)
    case an73 => kernel_rfl
    case bn73 => kernel_rfl
    case cn73 => kernel_rfl
    case qn73 => exact fun _ _ _ h => h
    case dn73 => rfl
    try simp only [Act.put, List.setIfInBounds_toArray, List.set_cons_zero, List.set_cons_succ]
    refine wpAnyH_take (i := 13) (oi := ?on74) ?hin74 ?an74 ?bn74 ?cn74 ?qn74 (Or.inr ⟨?dn74, rfl⟩) hHeld ?restn74
    case hin74 => (simp only [List.getElem?_toArray, List.getElem?_cons_succ, List.getElem?_cons_zero]; exact rfl)
    case an74 => kernel_rfl
    case bn74 => kernel_rfl
    case cn74 => kernel_rfl
    case qn74 => exact fun _ _ _ h => h
    case dn74 => rfl
    try simp only [Act.put, List.setIfInBounds_toArray, List.set_cons_zero, List.set_cons_succ]
    refine wpAnyH_take (i := 14) (oi := ?on75) ?hin75 ?an75 ?bn75 ?cn75 ?qn75 (Or.inr ⟨?dn75, rfl⟩) hHeld ?restn75
    case hin75 => (simp only [List.getElem?_toArray, List.getElem?_cons_succ, List.getElem?_cons_zero]; exact rfl)
    case an75 => kernel_rfl
    case bn75 => kernel_rfl
    case cn75 => kernel_rfl
    case qn75 => exact fun _ _ _ h => h
    case dn75 => rfl
    try simp only [Act.put, List.setIfInBounds_toArray, List.set_cons_zero, List.set_cons_succ]
    refine wpAnyH_take (i := 15) (oi := ?on76) ?hin76 ?an76 ?bn76 ?cn76 ?qn76 (Or.inr ⟨?dn76, rfl⟩) hHeld ?restn76
    case hin76 => (simp only [List.getElem?_toArray, List.getElem?_cons_succ, List.getElem?_cons_zero]; exact rfl)
    case an76 => kernel_rfl
    case bn76 => kernel_rfl
    case cn76 => kernel_rfl
    case qn76 => exact fun _ _ _ h => h
    case dn76 => rfl
    try simp only [Act.put, List.setIfInBounds_toArray, List.set_cons_zero, List.set_cons_succ]
    refine wpAnyH_take (i := 16) (oi := ?on77) ?hin77 ?an77 ?bn77 ?cn77 ?qn77 (Or.inr ⟨?dn77, rfl⟩) hHeld ?restn77
    case hin77 => (simp only [List.getElem?_toArray, List.getElem?_cons_succ, List.getElem?_cons_zero]; exact rfl)
    case an77 => kernel_rfl
    case bn77 => kernel_rfl
    case cn77 => kernel_rfl
    case qn77 => exact fun _ _ _ h => h
    case dn77 => rfl
    try simp only [Act.put, List.setIfInBounds_toArray, List.set_cons_zero, List.set_cons_succ]
    refine wpAnyH_take (i := 17) (oi := ?on78) ?hin78 ?an78 ?bn78 ?cn78 ?qn78 (Or.inr ⟨?dn78, rfl⟩) hHeld ?restn78
    case hin78 => (simp only [List.getElem?_toArray, List.getElem?_cons_succ, List.getElem?_cons_zero]; exact rfl)
    case an78 => kernel_rfl
    case bn78 => kernel_rfl
    case cn78 => kernel_rfl
    case qn78 => exact fun _ _ _ h => h
    case dn78 => rfl
    try simp only [Act.put, List.setIfInBounds_toArray, List.set_cons_zero, List.set_cons_succ]
    refine wpAnyH_take (i := 18) (oi := ?on79) (v := ?vn79) ?hin79 ?an79 ?bn79 ?cn79 ?qn79 (Or.inl ⟨?dn79, ?hyn79⟩) hHeld ?restn79
    case hin79 => (simp only [List.getElem?_toArray, List.getElem?_cons_succ, List.getElem?_cons_zero]; exact rfl)
    case an79 => kernel_rfl
    case bn79 => kernel_rfl
    case cn79 => kernel_rfl
    case qn79 => exact fun _ _ _ h => h
    case dn79 => rfl
    case hyn79 => (intro z hSw; (try dsimp only at hSw); go_simp; (try with_reducible rfl))
    try simp only [Act.put, List.setIfInBounds_toArray, List.set_cons_zero, List.set_cons_succ]
    refine wpAnyH_take (i := 19) (oi := ?on80) (v := ?vn80) ?hin80 ?an80 ?bn80 ?cn80 ?qn80 (Or.inl ⟨?dn80, ?hyn80⟩) hHeld ?restn80
    case hin80 => (simp only [List.getElem?_toArray, List.getElem?_cons_succ, List.getElem?_cons_zero]; exact rfl)
    case an80 => kernel_rfl
    case bn80 => kernel_rfl
    case cn80 => kernel_rfl
    case qn80 => exact fun _ _ _ h => h
    case dn80 => rfl
    case hyn80 => (intro z hSw; (try dsimp only at hSw); go_simp; (try with_reducible rfl))
    try simp only [Act.put, List.setIfInBounds_toArray, List.set_cons_zero, List.set_cons_succ]
    refine wpAnyH_done (by kernel_rfl) ?_ _
    go_wp2_with fail
    go_ret
    exact ⟨rfl, (by repeat (first | with_reducible assumption | with_reducible refine Grew.alloc ?_ _ | with_reducible refine Grew.drew ?_ | with_reducible refine Grew.drewN ?_ _))⟩
end Go.Proofs.YtkjmfkllmljdeaaGreat

/- l22Fits of the reference at some rules. -/
namespace Go.Proofs.YtkjmfkllmljdeaaGreat
open Go.RowKit

set_option maxHeartbeats 8000000 in
set_option maxRecDepth 8192 in
theorem ruleJ_4 (P : List Int) (A : List ByteArray) (C M : ByteArray) : RuleJ (4, P, A, C, M) 2 := by
  intro up ua vp p w hup hs hv hq hC hM hu hk
  simp only at hup hs hq hC hM hu hk ⊢
  obtain ⟨hgC, hasc, hln⟩ := sqB_and hq
  have hUp := ascP_up hasc
  obtain ⟨y0, y1, rfl⟩ := lenJ2 hk
  obtain ⟨r0, P0, A0, C0, M0⟩ := y0
  obtain ⟨r1, P1, A1, C1, M1⟩ := y1
  have hM0 := usesJ_no hu (by decide)
  obtain ⟨pb, po, pc, rfl, hpc, hpm, hat⟩ := jfs_at hv (by simp)
  have hiff : okJ (4, P, A, C, M) ([(r0, P0, A0, C0, M0), (r1, P1, A1, C1, M1)].map js) ↔ (isK C 2 ∧ js (r0, P0, A0, C0, M0) = (A, pl C) ∧ js (r1, P1, A1, C1, M1) = (A, pr C)) := by
    exact okJ_4 hgC hM0
  rw [dcd_congr hiff]
  clear hiff
  obtain ⟨up0, ua0, q0a, q0b, q0c, q0d, q0e, hp0, hu0⟩ := hat 0 _ rfl
  simp only [Nat.zero_mul, Nat.add_zero] at q0a q0b q0c q0d q0e hp0 hu0
  obtain ⟨up1, ua1, q1a, q1b, q1c, q1d, q1e, hp1, hu1⟩ := hat 1 _ rfl
  simp only [Nat.one_mul] at q1a q1b q1c q1d q1e hp1 hu1
  have KN0 := fun W (hW : Grew w W) v (hv : Strs W v (A)) => needJ_c (r0, P0, A0, C0, M0) up0 ua0 v (A) (pl C) W (hp0.grew hW) (hu0.grew hW) hv
  have KN1 := fun W (hW : Grew w W) v (hv : Strs W v (A)) => needJ_c (r1, P1, A1, C1, M1) up1 ua1 v (A) (pr C) W (hp1.grew hW) (hu1.grew hW) hv
  have HSA := Lib.hid (fun W (hW : Grew w W) => hs.grew hW)
  obtain ⟨VP, cp, rfl⟩ := ints_slice hup
  obtain ⟨UA, ca, rfl⟩ := strs_slice hs
  obtain ⟨V0, d0, rfl⟩ := ints_slice hp0
  obtain ⟨U0, c0, rfl⟩ := strs_slice hu0
  obtain ⟨V1, d1, rfl⟩ := ints_slice hp1
  obtain ⟨U1, c1, rfl⟩ := strs_slice hu1
  simp only [List.length_cons, List.length_nil] at hpc ⊢
  have hal := (Grew.refl w).alloc (.cells #[.int .i64 4, .slice VP P.length cp, .slice UA A.length ca, .string C, .string M] 42)
  have f0 : ∀ W, Grew (w.alloc (.cells #[.int .i64 4, .slice VP P.length cp, .slice UA A.length ca, .string C, .string M] 42)) W → W.cell? ⟨w.heap.size, 0, none⟩ = some (.int .i64 4) := fun W hW => (hW.cell (p := ⟨w.heap.size, 0, none⟩) (by simp)).trans (by simp)
  have f2 : ∀ W, Grew (w.alloc (.cells #[.int .i64 4, .slice VP P.length cp, .slice UA A.length ca, .string C, .string M] 42)) W → W.cell? ⟨w.heap.size, 2, none⟩ = some (.slice UA A.length ca) := fun W hW => (hW.cell (p := ⟨w.heap.size, 2, none⟩) (by simp)).trans (by simp)
  have f3 : ∀ W, Grew (w.alloc (.cells #[.int .i64 4, .slice VP P.length cp, .slice UA A.length ca, .string C, .string M] 42)) W → W.cell? ⟨w.heap.size, 3, none⟩ = some (.string C) := fun W hW => (hW.cell (p := ⟨w.heap.size, 3, none⟩) (by simp)).trans (by simp)
  have f4 : ∀ W, Grew (w.alloc (.cells #[.int .i64 4, .slice VP P.length cp, .slice UA A.length ca, .string C, .string M] 42)) W → W.cell? ⟨w.heap.size, 4, none⟩ = some (.string M) := fun W hW => (hW.cell (p := ⟨w.heap.size, 4, none⟩) (by simp)).trans (by simp)
  clear hup hs hv hat hk hq hasc hUp hu hM0 hu0 hp0 hu1 hp1
  generalize P.length = pln at *
  generalize A.length = al at *
  generalize A0.length = al0 at *
  generalize A1.length = al1 at *
  generalize P0.length = pl0 at *
  generalize P1.length = pl1 at *
  generalize hwb : w.alloc (.cells #[.int .i64 4, .slice VP pln cp, .slice UA al ca, .string C, .string M] 42) = wb at *
  have rb := Grew.refl wb
  have rbd := rb.drew
  have rbn := fun n => rb.drewN n
  by_cases h0 : isK C 2
  · have hh : True := trivial
    have KP := Lib.hid (fun W => split_yes 2 C W h0 (by decide))
    by_cases h1 : js (r0, P0, A0, C0, M0) = (A, pl C)
    · have hh : True := trivial
      rw [dcd_true h1] at KN0
      by_cases h2 : js (r1, P1, A1, C1, M1) = (A, pr C)
      · have hh : True := trivial
        rw [dcd_true h2] at KN1
        rw [dcd_true ⟨h0, h1, h2⟩]
        replace KN0 := Lib.hid KN0
        replace KN1 := Lib.hid KN1
        replace hwb := hwb.symm
        clear h0 h1 h2
        go_enter Tryz.func43, Tryz.ntmps43
        go_wp2_with fail
        rw [← hwb]
        clear hwb
        go_quiet (fail)
        go_wp2_with fail
        refine (KP.out _).mono ?_
        rintro e w1 ⟨rfl, hg1'⟩
        have hg1 : Grew wb w1 := Grew.trans (by repeat (first | with_reducible assumption | with_reducible refine Grew.alloc ?_ _ | with_reducible refine Grew.drew ?_ | with_reducible refine Grew.drewN ?_ _)) hg1'
        have g1 := hal.trans hg1
        have r1 := Grew.refl w1
        have d1 := r1.drew
        have gd := g1.trans d1
        have e0 := fun W (hW : Grew w1 W) => f0 W (hg1.trans hW)
        have e2 := fun W (hW : Grew w1 W) => f2 W (hg1.trans hW)
        have e3 := fun W (hW : Grew w1 W) => f3 W (hg1.trans hW)
        have e4 := fun W (hW : Grew w1 W) => f4 W (hg1.trans hW)
        have p0a := fun W (hW : Grew w1 W) => q0a W (g1.trans hW)
        have p0b := fun W (hW : Grew w1 W) => q0b W (g1.trans hW)
        have p0c := fun W (hW : Grew w1 W) => q0c W (g1.trans hW)
        have p0d := fun W (hW : Grew w1 W) => q0d W (g1.trans hW)
        have p0e := fun W (hW : Grew w1 W) => q0e W (g1.trans hW)
        have p1a := fun W (hW : Grew w1 W) => q1a W (g1.trans hW)
        have p1b := fun W (hW : Grew w1 W) => q1b W (g1.trans hW)
        have p1c := fun W (hW : Grew w1 W) => q1c W (g1.trans hW)
        have p1d := fun W (hW : Grew w1 W) => q1d W (g1.trans hW)
        have p1e := fun W (hW : Grew w1 W) => q1e W (g1.trans hW)
        clear f0 f2 f3 f4 q0a q0b q0c q0d q0e q1a q1b q1c q1d q1e
        go_wp2_with fail
        refine (KN0.out _ (by repeat (first | with_reducible assumption | with_reducible refine Grew.alloc ?_ _ | with_reducible refine Grew.drew ?_ | with_reducible refine Grew.drewN ?_ _)) _ (HSA.out _ (by repeat (first | with_reducible assumption | with_reducible refine Grew.alloc ?_ _ | with_reducible refine Grew.drew ?_ | with_reducible refine Grew.drewN ?_ _)))).mono ?_
        rintro e v0 ⟨rfl, vg0⟩
        have gv0 : Grew w v0 := Grew.trans (by repeat (first | with_reducible assumption | with_reducible refine Grew.alloc ?_ _ | with_reducible refine Grew.drew ?_ | with_reducible refine Grew.drewN ?_ _)) vg0
        have mv0 : Grew w1 v0 := Grew.trans (by repeat (first | with_reducible assumption | with_reducible refine Grew.alloc ?_ _ | with_reducible refine Grew.drew ?_ | with_reducible refine Grew.drewN ?_ _)) vg0
        go_wp2_with fail
        refine (KN1.out _ (by repeat (first | with_reducible assumption | with_reducible refine Grew.alloc ?_ _ | with_reducible refine Grew.drew ?_ | with_reducible refine Grew.drewN ?_ _)) _ (HSA.out _ (by repeat (first | with_reducible assumption | with_reducible refine Grew.alloc ?_ _ | with_reducible refine Grew.drew ?_ | with_reducible refine Grew.drewN ?_ _)))).mono ?_
        rintro e v1 ⟨rfl, vg1⟩
        have gv1 : Grew w v1 := Grew.trans (by repeat (first | with_reducible assumption | with_reducible refine Grew.alloc ?_ _ | with_reducible refine Grew.drew ?_ | with_reducible refine Grew.drewN ?_ _)) vg1
        have mv1 : Grew w1 v1 := Grew.trans (by repeat (first | with_reducible assumption | with_reducible refine Grew.alloc ?_ _ | with_reducible refine Grew.drew ?_ | with_reducible refine Grew.drewN ?_ _)) vg1
        go_wp2_with fail
        go_ret
        exact ⟨rfl, (by repeat (first | with_reducible assumption | with_reducible refine Grew.alloc ?_ _ | with_reducible refine Grew.drew ?_ | with_reducible refine Grew.drewN ?_ _))⟩
      · rw [dcd_false (fun h => h2 (h.2.2))]
        rw [dcd_false h2] at KN1
        replace KN0 := Lib.hid KN0
        replace KN1 := Lib.hid KN1
        replace hwb := hwb.symm
        clear h0 h1 h2
        go_enter Tryz.func43, Tryz.ntmps43
        go_wp2_with fail
        rw [← hwb]
        clear hwb
        go_quiet (fail)
        go_wp2_with fail
        refine (KP.out _).mono ?_
        rintro e w1 ⟨rfl, hg1'⟩
        have hg1 : Grew wb w1 := Grew.trans (by repeat (first | with_reducible assumption | with_reducible refine Grew.alloc ?_ _ | with_reducible refine Grew.drew ?_ | with_reducible refine Grew.drewN ?_ _)) hg1'
        have g1 := hal.trans hg1
        have r1 := Grew.refl w1
        have d1 := r1.drew
        have gd := g1.trans d1
        have e0 := fun W (hW : Grew w1 W) => f0 W (hg1.trans hW)
        have e2 := fun W (hW : Grew w1 W) => f2 W (hg1.trans hW)
        have e3 := fun W (hW : Grew w1 W) => f3 W (hg1.trans hW)
        have e4 := fun W (hW : Grew w1 W) => f4 W (hg1.trans hW)
        have p0a := fun W (hW : Grew w1 W) => q0a W (g1.trans hW)
        have p0b := fun W (hW : Grew w1 W) => q0b W (g1.trans hW)
        have p0c := fun W (hW : Grew w1 W) => q0c W (g1.trans hW)
        have p0d := fun W (hW : Grew w1 W) => q0d W (g1.trans hW)
        have p0e := fun W (hW : Grew w1 W) => q0e W (g1.trans hW)
        have p1a := fun W (hW : Grew w1 W) => q1a W (g1.trans hW)
        have p1b := fun W (hW : Grew w1 W) => q1b W (g1.trans hW)
        have p1c := fun W (hW : Grew w1 W) => q1c W (g1.trans hW)
        have p1d := fun W (hW : Grew w1 W) => q1d W (g1.trans hW)
        have p1e := fun W (hW : Grew w1 W) => q1e W (g1.trans hW)
        clear f0 f2 f3 f4 q0a q0b q0c q0d q0e q1a q1b q1c q1d q1e
        go_wp2_with fail
        refine (KN0.out _ (by repeat (first | with_reducible assumption | with_reducible refine Grew.alloc ?_ _ | with_reducible refine Grew.drew ?_ | with_reducible refine Grew.drewN ?_ _)) _ (HSA.out _ (by repeat (first | with_reducible assumption | with_reducible refine Grew.alloc ?_ _ | with_reducible refine Grew.drew ?_ | with_reducible refine Grew.drewN ?_ _)))).mono ?_
        rintro e v0 ⟨rfl, vg0⟩
        have gv0 : Grew w v0 := Grew.trans (by repeat (first | with_reducible assumption | with_reducible refine Grew.alloc ?_ _ | with_reducible refine Grew.drew ?_ | with_reducible refine Grew.drewN ?_ _)) vg0
        have mv0 : Grew w1 v0 := Grew.trans (by repeat (first | with_reducible assumption | with_reducible refine Grew.alloc ?_ _ | with_reducible refine Grew.drew ?_ | with_reducible refine Grew.drewN ?_ _)) vg0
        go_wp2_with fail
        refine (KN1.out _ (by repeat (first | with_reducible assumption | with_reducible refine Grew.alloc ?_ _ | with_reducible refine Grew.drew ?_ | with_reducible refine Grew.drewN ?_ _)) _ (HSA.out _ (by repeat (first | with_reducible assumption | with_reducible refine Grew.alloc ?_ _ | with_reducible refine Grew.drew ?_ | with_reducible refine Grew.drewN ?_ _)))).mono ?_
        rintro e v1 ⟨rfl, vg1⟩
        have gv1 : Grew w v1 := Grew.trans (by repeat (first | with_reducible assumption | with_reducible refine Grew.alloc ?_ _ | with_reducible refine Grew.drew ?_ | with_reducible refine Grew.drewN ?_ _)) vg1
        have mv1 : Grew w1 v1 := Grew.trans (by repeat (first | with_reducible assumption | with_reducible refine Grew.alloc ?_ _ | with_reducible refine Grew.drew ?_ | with_reducible refine Grew.drewN ?_ _)) vg1
        go_wp2_with fail
        go_ret
        exact ⟨rfl, (by repeat (first | with_reducible assumption | with_reducible refine Grew.alloc ?_ _ | with_reducible refine Grew.drew ?_ | with_reducible refine Grew.drewN ?_ _))⟩
    · rw [dcd_false (fun h => h1 (h.2.1))]
      rw [dcd_false h1] at KN0
      replace KN0 := Lib.hid KN0
      replace KN1 := Lib.hid KN1
      replace hwb := hwb.symm
      clear h0 h1
      go_enter Tryz.func43, Tryz.ntmps43
      go_wp2_with fail
      rw [← hwb]
      clear hwb
      go_quiet (fail)
      go_wp2_with fail
      refine (KP.out _).mono ?_
      rintro e w1 ⟨rfl, hg1'⟩
      have hg1 : Grew wb w1 := Grew.trans (by repeat (first | with_reducible assumption | with_reducible refine Grew.alloc ?_ _ | with_reducible refine Grew.drew ?_ | with_reducible refine Grew.drewN ?_ _)) hg1'
      have g1 := hal.trans hg1
      have r1 := Grew.refl w1
      have d1 := r1.drew
      have gd := g1.trans d1
      have e0 := fun W (hW : Grew w1 W) => f0 W (hg1.trans hW)
      have e2 := fun W (hW : Grew w1 W) => f2 W (hg1.trans hW)
      have e3 := fun W (hW : Grew w1 W) => f3 W (hg1.trans hW)
      have e4 := fun W (hW : Grew w1 W) => f4 W (hg1.trans hW)
      have p0a := fun W (hW : Grew w1 W) => q0a W (g1.trans hW)
      have p0b := fun W (hW : Grew w1 W) => q0b W (g1.trans hW)
      have p0c := fun W (hW : Grew w1 W) => q0c W (g1.trans hW)
      have p0d := fun W (hW : Grew w1 W) => q0d W (g1.trans hW)
      have p0e := fun W (hW : Grew w1 W) => q0e W (g1.trans hW)
      have p1a := fun W (hW : Grew w1 W) => q1a W (g1.trans hW)
      have p1b := fun W (hW : Grew w1 W) => q1b W (g1.trans hW)
      have p1c := fun W (hW : Grew w1 W) => q1c W (g1.trans hW)
      have p1d := fun W (hW : Grew w1 W) => q1d W (g1.trans hW)
      have p1e := fun W (hW : Grew w1 W) => q1e W (g1.trans hW)
      clear f0 f2 f3 f4 q0a q0b q0c q0d q0e q1a q1b q1c q1d q1e
      go_wp2_with fail
      refine (KN0.out _ (by repeat (first | with_reducible assumption | with_reducible refine Grew.alloc ?_ _ | with_reducible refine Grew.drew ?_ | with_reducible refine Grew.drewN ?_ _)) _ (HSA.out _ (by repeat (first | with_reducible assumption | with_reducible refine Grew.alloc ?_ _ | with_reducible refine Grew.drew ?_ | with_reducible refine Grew.drewN ?_ _)))).mono ?_
      rintro e v0 ⟨rfl, vg0⟩
      have gv0 : Grew w v0 := Grew.trans (by repeat (first | with_reducible assumption | with_reducible refine Grew.alloc ?_ _ | with_reducible refine Grew.drew ?_ | with_reducible refine Grew.drewN ?_ _)) vg0
      have mv0 : Grew w1 v0 := Grew.trans (by repeat (first | with_reducible assumption | with_reducible refine Grew.alloc ?_ _ | with_reducible refine Grew.drew ?_ | with_reducible refine Grew.drewN ?_ _)) vg0
      go_wp2_with fail
      go_ret
      exact ⟨rfl, (by repeat (first | with_reducible assumption | with_reducible refine Grew.alloc ?_ _ | with_reducible refine Grew.drew ?_ | with_reducible refine Grew.drewN ?_ _))⟩
  · rw [dcd_false (fun h => h0 (h.1))]
    have KP := Lib.hid (fun W => split_no 2 C W hC h0)
    replace KN0 := Lib.hid KN0
    replace KN1 := Lib.hid KN1
    replace hwb := hwb.symm
    clear h0
    go_enter Tryz.func43, Tryz.ntmps43
    go_wp2_with fail
    rw [← hwb]
    clear hwb
    go_quiet (fail)
    go_wp2_with fail
    refine (KP.out _).mono ?_
    rintro e w1 ⟨rfl, hg1'⟩
    have hg1 : Grew wb w1 := Grew.trans (by repeat (first | with_reducible assumption | with_reducible refine Grew.alloc ?_ _ | with_reducible refine Grew.drew ?_ | with_reducible refine Grew.drewN ?_ _)) hg1'
    have g1 := hal.trans hg1
    have r1 := Grew.refl w1
    have d1 := r1.drew
    have gd := g1.trans d1
    have e0 := fun W (hW : Grew w1 W) => f0 W (hg1.trans hW)
    have e2 := fun W (hW : Grew w1 W) => f2 W (hg1.trans hW)
    have e3 := fun W (hW : Grew w1 W) => f3 W (hg1.trans hW)
    have e4 := fun W (hW : Grew w1 W) => f4 W (hg1.trans hW)
    have p0a := fun W (hW : Grew w1 W) => q0a W (g1.trans hW)
    have p0b := fun W (hW : Grew w1 W) => q0b W (g1.trans hW)
    have p0c := fun W (hW : Grew w1 W) => q0c W (g1.trans hW)
    have p0d := fun W (hW : Grew w1 W) => q0d W (g1.trans hW)
    have p0e := fun W (hW : Grew w1 W) => q0e W (g1.trans hW)
    have p1a := fun W (hW : Grew w1 W) => q1a W (g1.trans hW)
    have p1b := fun W (hW : Grew w1 W) => q1b W (g1.trans hW)
    have p1c := fun W (hW : Grew w1 W) => q1c W (g1.trans hW)
    have p1d := fun W (hW : Grew w1 W) => q1d W (g1.trans hW)
    have p1e := fun W (hW : Grew w1 W) => q1e W (g1.trans hW)
    clear f0 f2 f3 f4 q0a q0b q0c q0d q0e q1a q1b q1c q1d q1e
    go_wp2_with fail
    go_ret
    exact ⟨rfl, (by repeat (first | with_reducible assumption | with_reducible refine Grew.alloc ?_ _ | with_reducible refine Grew.drew ?_ | with_reducible refine Grew.drewN ?_ _))⟩
end Go.Proofs.YtkjmfkllmljdeaaGreat

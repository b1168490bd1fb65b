/- Texts in one file: Dt DtS DtFit DtW DdSz LawDt Args ArgsI ArgDd Nd CmpI UaP ShelfI SrtI NdS Det Ua UaS LawUa AsP AsC ShelfJ InsS As AsS LawAs. -/
import Derived.Deep.Strs
import Derived.Lib.SmallJoins
import Derived.Carry
import Derived.ProofKit
import Derived.Deep.SlicePairs
import Derived.Lib.OwnBridge
import Derived.Lib.RowBridge
import Derived.Sort.OwnSortedInts
import Derived.Ground.SlgnProg
import Derived.Shelf.SlicesG.CompactI
import Derived.Ground.SlgmProg
import Derived.Shelf.SortM.Plain
import Derived.Shelf.SortM.SortNone
import Derived.Test.YtofeeenjlaljpaaGreatProg
import Derived.Ground.Names2Prog
import Derived.Shelf.Spec.SlicesInsert
import Derived.Shelf.Spec.SlicesInsertGrow
import Derived.Test.YtofeeenjlaljpaaGreatPc1
import Derived.Test.YtofeeenjlaljpaaGreatPc2
import Derived.Test.YtofeeenjlaljpaaGreatPc3
import Derived.Test.YtofeeenjlaljpaaGreatPc4
import Derived.Test.YtofeeenjlaljpaaGreatPc5
set_option linter.all false

/- DetachDeductions of both sides. -/
namespace Go.Proofs.YtofeeenjlaljpaaGreat
open Go.RowKit

set_option maxRecDepth 20000 in
set_option maxHeartbeats 8000000 in
theorem implDt_c (v v2 : Value) (xs ys : List Dd) (w : World) (hv : Dds w v xs) (hv2 : Dds w v2 ys) (hf : FitsDd xs) (hf2 : FitsDd ys) (_hn : xs.length ≤ 1048576) (_hn2 : ys.length ≤ 1048576) :
    Calls Tryz.prog 28 #[v, v2] w (GivesDc w (dtF xs ys)) := by
  unfold GivesDc dtF
  obtain ⟨A, c, rfl⟩ := Dds_slice hv
  obtain ⟨A2, c2, rfl⟩ := Dds_slice hv2
  have KD := Lib.hid (deductionCode_c _ [xs, ys] _ (DdL.two (T := 27) hv hv2) (fun i hi => by
    have hi2 : i < 2 := by simpa using hi
    match i, hi2 with
    | 0, _ => exact hf
    | 1, _ => exact hf2))
  have HAL := Lib.hid ((Grew.refl w).alloc (.cells #[.slice A xs.length c, .slice A2 ys.length c2] 27))
  by_cases hd : dcode [xs, ys] = 0
  case neg =>
    rw [if_neg hd]
    have e0 : (dcode [xs, ys] == 0) = false := by simpa using hd
    clear hv hv2 hf hf2 hd
    generalize dcode [xs, ys] = d at *
    go_enter Tryz.func28, Tryz.ntmps28
    go_wp2_with fail
    refine (KD.out).mono ?_
    rintro e w1 ⟨rfl, hg1⟩
    go_wp2_with fail
    go_ret2
    exact ⟨_, rfl, OwnDx.nil_ _ _ _, HAL.out.trans hg1⟩
  rw [if_pos hd]
  rw [hd] at KD
  obtain ⟨⟨hn0, hn1, hfb⟩, hm0, hm1, hfb2⟩ := dcode_two hd
  have KR := Lib.hid (fun W (hW : Grew w W) => result_c _ xs (lst xs) W (hv.grew hW) hn0 (lst_at hn0))
  have KR2 := Lib.hid (fun W (hW : Grew w W) => result_c _ ys (lst ys) W (hv2.grew hW) hm0 (lst_at hm0))
  have hfx := hf _ (lst_mem hn0)
  have hfx2 := hf2 _ (lst_mem hm0)
  obtain ⟨_, _, hgp⟩ := step_good hfb (lst_at hn0)
  unfold GivesD1 at KR KR2
  by_cases hk : kT (lst xs).2.2.2.1 = 4
  case neg =>
    have hno : ¬ dtOk (lst xs) (lst ys) := fun h => hk h.1
    rw [if_neg hno]
    have KP := Lib.hid (fun W => pw_no 4 (lst xs).2.2.2.1 W hgp hk)
    clear hv hv2 hf hf2 hd hfb hfb2 hfx hfx2 hgp hk hno
    generalize lst xs = x at *
    generalize lst ys = y at *
    obtain ⟨r0, rA, rs, rc, rn⟩ := x
    obtain ⟨s0, sA, ss, sc, sn⟩ := y
    simp only at *
    go_enter Tryz.func28, Tryz.ntmps28
    go_wp2_with fail
    refine (KD.out).mono ?_
    rintro e w1 ⟨rfl, hg1⟩
    have g1 := HAL.out.trans hg1
    go_wp2_with fail
    refine (KR.out _ g1).mono ?_
    rintro e w2 ⟨up, ua, rfl, hup, hua, hg2⟩
    have g2 := g1.trans hg2
    obtain ⟨B2, d2, rfl⟩ := strs_slice hua
    obtain ⟨B3, d3, rfl⟩ := ints_slice hup
    clear hup hua
    go_wp2_with fail
    refine (KR2.out _ g2).mono ?_
    rintro e w3 ⟨up2, ua2, rfl, hup2, hua2, hg3⟩
    have g3 := g2.trans hg3
    obtain ⟨B4, d4, rfl⟩ := strs_slice hua2
    obtain ⟨B5, d5, rfl⟩ := ints_slice hup2
    clear hup2 hua2
    go_wp2_with fail
    refine (KP.out _).mono ?_
    rintro e w4 ⟨vp, rfl, ⟨B6, n6, d6, rfl⟩, hg4⟩
    have g4 := ((g3.alloc _).alloc _).trans hg4
    go_wp2_with fail
    go_quiet (fail)
    go_wp2_with fail
    go_ret2
    exact ⟨_, rfl, OwnDx.nil_ _ _ _, g4.drewN _⟩
  have KP := Lib.hid (fun W => pw_yes 4 (lst xs).2.2.2.1 W hgp hk (.inr (.inr rfl)))
  by_cases hpl : pl (lst xs).2.2.2.1 = (lst ys).2.2.2.1
  case neg =>
    have hno : ¬ dtOk (lst xs) (lst ys) := fun h => hpl h.2.1
    rw [if_neg hno]
    have hbn := bytes_ne hpl
    clear hv hv2 hf hf2 hd hfb hfb2 hfx hfx2 hgp hk hno hpl
    generalize lst xs = x at *
    generalize lst ys = y at *
    obtain ⟨r0, rA, rs, rc, rn⟩ := x
    obtain ⟨s0, sA, ss, sc, sn⟩ := y
    simp only at *
    generalize pl rc = tp at *
    generalize pr rc = tq at *
    go_enter Tryz.func28, Tryz.ntmps28
    go_wp2_with fail
    refine (KD.out).mono ?_
    rintro e w1 ⟨rfl, hg1⟩
    have g1 := HAL.out.trans hg1
    go_wp2_with fail
    refine (KR.out _ g1).mono ?_
    rintro e w2 ⟨up, ua, rfl, hup, hua, hg2⟩
    have g2 := g1.trans hg2
    obtain ⟨B2, d2, rfl⟩ := strs_slice hua
    obtain ⟨B3, d3, rfl⟩ := ints_slice hup
    clear hup hua
    go_wp2_with fail
    refine (KR2.out _ g2).mono ?_
    rintro e w3 ⟨up2, ua2, rfl, hup2, hua2, hg3⟩
    have g3 := g2.trans hg3
    obtain ⟨B4, d4, rfl⟩ := strs_slice hua2
    obtain ⟨B5, d5, rfl⟩ := ints_slice hup2
    clear hup2 hua2
    go_wp2_with fail
    refine (KP.out _).mono ?_
    rintro e w4 ⟨vp, rfl, hop, hg4⟩
    obtain ⟨b1, o1, c1, rfl, hc1, hm1', hb1, hf1⟩ := strs_two hop.strs
    clear hop
    have g4 := ((g3.alloc _).alloc _).trans hg4
    have z1 := (hf1 w4 (Grew.refl _)).1
    have hbk : w4.heap[w3.heap.size + 1]? = some (.cells #[.int .i64 s0, .slice B5 sA.length d5, .slice B4 ss.length d4, .string sc, .int .i64 sn] 50) := (hg4.block (by simp)).trans (by have h := blk_new (w3.alloc (.cells #[.int .i64 r0, .slice B3 rA.length d3, .slice B2 rs.length d2, .string rc, .int .i64 rn] 50)) (.cells #[.int .i64 s0, .slice B5 sA.length d5, .slice B4 ss.length d4, .string sc, .int .i64 sn] 50); rwa [World.size_alloc] at h)
    have z2 : w4.cell? ⟨w3.heap.size + 1, 3, none⟩ = some (.string sc) := (blk_cell hbk 3).trans rfl
    clear hf1 hbk
    go_wp2_with fail
    go_quiet (fail)
    go_wp2_with fail
    go_ret2
    exact ⟨_, rfl, OwnDx.nil_ _ _ _, g4.drewN _⟩
  by_cases hag : (lst xs).2.2.1 = (lst ys).2.2.1
  case neg =>
    have hno : ¬ dtOk (lst xs) (lst ys) := fun h => hag h.2.2
    rw [if_neg hno]
    have KE := Lib.hid (fun a b W (h1 : Strs W a (lst xs).2.2.1) (h2 : Strs W b (lst ys).2.2.1) => by
      have h := equalS_c a b _ _ W h1 h2
      rw [show @decide ((lst xs).2.2.1 = (lst ys).2.2.1) (Classical.propDecidable _) = false from @decide_eq_false _ (Classical.propDecidable _) hag] at h
      exact h)
    clear hv hv2 hf hf2 hd hfb hfb2 hfx hfx2 hgp hk hno hag
    generalize lst xs = x at *
    generalize lst ys = y at *
    obtain ⟨r0, rA, rs, rc, rn⟩ := x
    obtain ⟨s0, sA, ss, sc, sn⟩ := y
    simp only at *
    obtain ⟨tp, htp⟩ : ∃ tp, tp = pl rc := ⟨_, rfl⟩
    rw [← htp] at KP hpl
    subst hpl
    clear htp
    generalize pr rc = tq at *
    go_enter Tryz.func28, Tryz.ntmps28
    go_wp2_with fail
    refine (KD.out).mono ?_
    rintro e w1 ⟨rfl, hg1⟩
    have g1 := HAL.out.trans hg1
    go_wp2_with fail
    refine (KR.out _ g1).mono ?_
    rintro e w2 ⟨up, ua, rfl, hup, hua, hg2⟩
    have g2 := g1.trans hg2
    obtain ⟨B2, d2, rfl⟩ := strs_slice hua
    obtain ⟨B3, d3, rfl⟩ := ints_slice hup
    have HUA := Lib.hid hua
    clear hup hua
    go_wp2_with fail
    refine (KR2.out _ g2).mono ?_
    rintro e w3 ⟨up2, ua2, rfl, hup2, hua2, hg3⟩
    have g3 := g2.trans hg3
    obtain ⟨B4, d4, rfl⟩ := strs_slice hua2
    obtain ⟨B5, d5, rfl⟩ := ints_slice hup2
    have HUA2 := Lib.hid hua2
    clear hup2 hua2
    go_wp2_with fail
    refine (KP.out _).mono ?_
    rintro e w4 ⟨vp, rfl, hop, hg4⟩
    obtain ⟨b1, o1, c1, rfl, hc1, hm1', hb1, hf1⟩ := strs_two hop.strs
    clear hop
    have g4 := ((g3.alloc _).alloc _).trans hg4
    have z1 := (hf1 w4 (Grew.refl _)).1
    have hbk : w4.heap[w3.heap.size + 1]? = some (.cells #[.int .i64 s0, .slice B5 sA.length d5, .slice B4 ss.length d4, .string tp, .int .i64 sn] 50) := (hg4.block (by simp)).trans (by have h := blk_new (w3.alloc (.cells #[.int .i64 r0, .slice B3 rA.length d3, .slice B2 rs.length d2, .string rc, .int .i64 rn] 50)) (.cells #[.int .i64 s0, .slice B5 sA.length d5, .slice B4 ss.length d4, .string tp, .int .i64 sn] 50); rwa [World.size_alloc] at h)
    have z2 : w4.cell? ⟨w3.heap.size + 1, 3, none⟩ = some (.string tp) := (blk_cell hbk 3).trans rfl
    have z0 : ∀ W, Grew w4 W → W.cell? ⟨b1, o1, none⟩ = some (.string tp) := fun W hW => (hf1 W hW).1
    have hbk1 : w4.heap[w3.heap.size]? = some (.cells #[.int .i64 r0, .slice B3 rA.length d3, .slice B2 rs.length d2, .string rc, .int .i64 rn] 50) := (hg4.block (by simp; omega)).trans (((Grew.refl _).alloc _).block (by simp) |>.trans (blk_new w3 (.cells #[.int .i64 r0, .slice B3 rA.length d3, .slice B2 rs.length d2, .string rc, .int .i64 rn] 50)))
    have l1 := blk_lt hbk1
    have l2 := blk_lt hbk
    have y1 : ∀ W, Grew w4 W → W.cell? ⟨w3.heap.size + 1, 3, none⟩ = some (.string tp) := fun W hW => (hW.cell (p := ⟨w3.heap.size + 1, 3, none⟩) l2).trans z2
    have y2 : ∀ W, Grew w4 W → W.cell? ⟨w3.heap.size + 1, 2, none⟩ = some (.slice B4 ss.length d4) := fun W hW => (hW.cell (p := ⟨w3.heap.size + 1, 2, none⟩) l2).trans ((blk_cell hbk 2).trans rfl)
    have y3 : ∀ W, Grew w4 W → W.cell? ⟨w3.heap.size, 2, none⟩ = some (.slice B2 rs.length d2) := fun W hW => (hW.cell (p := ⟨w3.heap.size, 2, none⟩) l1).trans ((blk_cell hbk1 2).trans rfl)
    have g3' := ((Grew.refl w3).alloc (.cells #[.int .i64 r0, .slice B3 rA.length d3, .slice B2 rs.length d2, .string rc, .int .i64 rn] 50)).alloc (.cells #[.int .i64 s0, .slice B5 sA.length d5, .slice B4 ss.length d4, .string tp, .int .i64 sn] 50)
    have h34 := g3'.trans hg4
    have h24 := hg3.trans h34
    have hd4 := (Grew.refl w4).drew
    clear hf1 hbk hbk1 g3'
    go_wp2_with fail
    go_region_held3 (fun W' => Grew w4 W') (first | with_reducible assumption)
      (first | (go_at_call 59; refine (KE.out _ _ _ (HUA.out.grew (h24.trans hd4)) (HUA2.out.grew (h34.trans hd4))).mono ?_; rintro e w5 ⟨rfl, hg5⟩; have hk5 := hd4.trans hg5))
    have g5 := g4.trans (hd4.trans hg5)
    go_wp2_with fail
    go_ret2
    exact ⟨_, rfl, OwnDx.nil_ _ _ _, g5⟩
  have hok : dtOk (lst xs) (lst ys) := ⟨hk, hpl, hag⟩
  rw [if_pos hok]
  have KE := Lib.hid (fun a b W (h1 : Strs W a (lst xs).2.2.1) (h2 : Strs W b (lst ys).2.2.1) => by
    have h := equalS_c a b _ _ W h1 h2
    rw [show @decide ((lst xs).2.2.1 = (lst ys).2.2.1) (Classical.propDecidable _) = true from @decide_eq_true _ (Classical.propDecidable _) hag] at h
    exact h)
  have hprem : ∀ (zs : List Dd) (k : Int), fbd zs zs.length = -1 → ∀ (i : Nat) (x : Dd), zs[i]? = some x → ∀ q, q < x.2.1.length → 0 ≤ it x.2.1 q ∧ it x.2.1 q < ((shf zs.length k).length : Int) := fun zs k hz i x hx q hq => by
    have h1 := prem_lt hz hx (it x.2.1 q) (by rw [← it_get hq]; exact List.getElem_mem hq)
    have h2 := (List.getElem?_eq_some_iff.1 hx).1
    rw [shf_len]
    omega
  have KM := Lib.hid (fun W vt (hW : Grew w W) (hvt : Ints W vt (shf xs.length 0)) => by
    have h := mapDeductions_c _ vt xs (shf xs.length 0) W (hv.grew hW) hvt hf (hprem xs 0 hfb) _hn
    rwa [map_toD_shf hfb] at h)
  have KM2 := Lib.hid (fun W vt (hW : Grew w W) (hvt : Ints W vt (shf ys.length (xs.length : Int))) => by
    have h := mapDeductions_c _ vt ys (shf ys.length (xs.length : Int)) W (hv2.grew hW) hvt hf2 (hprem ys _ hfb2) _hn2
    rwa [map_toD_shf hfb2] at h)
  have KS := Lib.hid (fun W => shifted_c xs.length 0 W _hn (by omega) (by omega))
  have KS2 := Lib.hid (fun W => shifted_c ys.length (xs.length : Int) W _hn2 (by omega) (by omega))
  unfold GivesDp at KM KM2
  unfold GivesI1 at KS KS2
  have KC := Lib.hid (fun u W (hu : Strs W u (lst xs).2.2.1) => cloneL_c u _ W hu (by have := hfx.2.1; omega))
  unfold GivesS at KC
  have hcx : xs.length ≤ c ∧ c ≤ 9223372036854775807 := by
    rcases hv with ⟨_, h0⟩ | ⟨b, o, c', hv, hc, hm, hb, hcell⟩
    · rw [h0] at hn0; exact absurd rfl hn0
    · obtain ⟨_, rfl⟩ : A = some ⟨b, o, none⟩ ∧ c = c' := by simpa using hv
      exact ⟨hc, hm⟩
  have hcy : ys.length ≤ c2 ∧ c2 ≤ 9223372036854775807 := by
    rcases hv2 with ⟨_, h0⟩ | ⟨b, o, c', hv, hc, hm, hb, hcell⟩
    · rw [h0] at hm0; exact absurd rfl hm0
    · obtain ⟨_, rfl⟩ : A2 = some ⟨b, o, none⟩ ∧ c2 = c' := by simpa using hv
      exact ⟨hc, hm⟩
  have hMX : (xs.map (mvD 0)).length = xs.length := by rw [List.length_map]
  have hMY : (ys.map (mvD xs.length)).length = ys.length := by rw [List.length_map]
  clear hv hv2 hf hf2 hd hfb hfb2 hfx hfx2 hgp hk hok hag hprem
  generalize lst xs = x at *
  generalize lst ys = y at *
  obtain ⟨r0, rA, rs, rc, rn⟩ := x
  obtain ⟨s0, sA, ss, sc, sn⟩ := y
  simp only at *
  obtain ⟨tp, htp⟩ : ∃ tp, tp = pl rc := ⟨_, rfl⟩
  rw [← htp] at KP hpl
  subst hpl
  clear htp
  generalize pr rc = tq at *
  generalize hRR : (if xs.length + ys.length + 1 > 120 then (([], 3) : List Dd × Int) else (xs.map (mvD 0) ++ ys.map (mvD xs.length) ++ [(10, [(xs.length : Int) - 1, (xs.length : Int) + (ys.length : Int) - 1], rs, tq, 0)], 0)) = RR
  have HRR := Lib.hid hRR
  clear hRR
  generalize xs.map (mvD 0) = MX at *
  generalize ys.map (mvD xs.length) = MY at *
  generalize shf xs.length 0 = SH at *
  generalize shf ys.length (xs.length : Int) = SH2 at *
  generalize xs.length = n at *
  generalize ys.length = m at *
  go_enter Tryz.func28, Tryz.ntmps28
  go_wp2_with fail
  refine (KD.out).mono ?_
  rintro e w1 ⟨rfl, hg1⟩
  have g1 := HAL.out.trans hg1
  go_wp2_with fail
  refine (KR.out _ g1).mono ?_
  rintro e w2 ⟨up, ua, rfl, hup, hua, hg2⟩
  have g2 := g1.trans hg2
  obtain ⟨B2, d2, rfl⟩ := strs_slice hua
  obtain ⟨B3, d3, rfl⟩ := ints_slice hup
  have HUA := Lib.hid hua
  clear hup hua
  go_wp2_with fail
  refine (KR2.out _ g2).mono ?_
  rintro e w3 ⟨up2, ua2, rfl, hup2, hua2, hg3⟩
  have g3 := g2.trans hg3
  obtain ⟨B4, d4, rfl⟩ := strs_slice hua2
  obtain ⟨B5, d5, rfl⟩ := ints_slice hup2
  have HUA2 := Lib.hid hua2
  clear hup2 hua2
  go_wp2_with fail
  refine (KP.out _).mono ?_
  rintro e w4 ⟨vp, rfl, hop, hg4⟩
  obtain ⟨b1, o1, c1, rfl, hc1, hm1', hb1, hf1⟩ := strs_two hop.strs
  clear hop
  have g4 := ((g3.alloc _).alloc _).trans hg4
  have z1 := (hf1 w4 (Grew.refl _)).1
  have hbk : w4.heap[w3.heap.size + 1]? = some (.cells #[.int .i64 s0, .slice B5 sA.length d5, .slice B4 ss.length d4, .string tp, .int .i64 sn] 50) := (hg4.block (by simp)).trans (by have h := blk_new (w3.alloc (.cells #[.int .i64 r0, .slice B3 rA.length d3, .slice B2 rs.length d2, .string rc, .int .i64 rn] 50)) (.cells #[.int .i64 s0, .slice B5 sA.length d5, .slice B4 ss.length d4, .string tp, .int .i64 sn] 50); rwa [World.size_alloc] at h)
  have z2 : w4.cell? ⟨w3.heap.size + 1, 3, none⟩ = some (.string tp) := (blk_cell hbk 3).trans rfl
  have z0 : ∀ W, Grew w4 W → W.cell? ⟨b1, o1, none⟩ = some (.string tp) := fun W hW => (hf1 W hW).1
  have hbk1 : w4.heap[w3.heap.size]? = some (.cells #[.int .i64 r0, .slice B3 rA.length d3, .slice B2 rs.length d2, .string rc, .int .i64 rn] 50) := (hg4.block (by simp; omega)).trans (((Grew.refl _).alloc _).block (by simp) |>.trans (blk_new w3 (.cells #[.int .i64 r0, .slice B3 rA.length d3, .slice B2 rs.length d2, .string rc, .int .i64 rn] 50)))
  have l1 := blk_lt hbk1
  have l2 := blk_lt hbk
  have y1 : ∀ W, Grew w4 W → W.cell? ⟨w3.heap.size + 1, 3, none⟩ = some (.string tp) := fun W hW => (hW.cell (p := ⟨w3.heap.size + 1, 3, none⟩) l2).trans z2
  have y2 : ∀ W, Grew w4 W → W.cell? ⟨w3.heap.size + 1, 2, none⟩ = some (.slice B4 ss.length d4) := fun W hW => (hW.cell (p := ⟨w3.heap.size + 1, 2, none⟩) l2).trans ((blk_cell hbk 2).trans rfl)
  have y3 : ∀ W, Grew w4 W → W.cell? ⟨w3.heap.size, 2, none⟩ = some (.slice B2 rs.length d2) := fun W hW => (hW.cell (p := ⟨w3.heap.size, 2, none⟩) l1).trans ((blk_cell hbk1 2).trans rfl)
  have g3' := ((Grew.refl w3).alloc (.cells #[.int .i64 r0, .slice B3 rA.length d3, .slice B2 rs.length d2, .string rc, .int .i64 rn] 50)).alloc (.cells #[.int .i64 s0, .slice B5 sA.length d5, .slice B4 ss.length d4, .string tp, .int .i64 sn] 50)
  have h34 := g3'.trans hg4
  have h24 := hg3.trans h34
  have hd4 := (Grew.refl w4).drew
  have z0b := fun W (hW : Grew w4 W) => (hf1 W hW).2
  clear hf1 hbk hbk1 g3'
  go_wp2_with fail
  go_region_held3 (fun W' => Grew w4 W') (first | with_reducible assumption)
    (first | (go_at_call 59; refine (KE.out _ _ _ (HUA.out.grew (h24.trans hd4)) (HUA2.out.grew (h34.trans hd4))).mono ?_; rintro e w5 ⟨rfl, hg5⟩; have hk5 := hd4.trans hg5))
  have h45 := hd4.trans hg5
  have g5 := g4.trans h45
  clear KE HUA2 KP KR KR2 KD HAL z1 z2 y1 y2
  have HMX := Lib.hid hMX
  have HMY := Lib.hid hMY
  clear hMX hMY
  by_cases hlim : n + m + 1 > 120
  · have hRR := HRR.out
    rw [if_pos hlim] at hRR
    subst hRR
    clear HRR KM KM2 KS KS2 KC
    go_wp2_with fail
    go_ret2
    exact ⟨_, rfl, OwnDx.nil_ _ _ _, g5⟩
  have hRR := HRR.out
  rw [if_neg hlim] at hRR
  subst hRR
  clear HRR
  go_wp2_with fail
  refine (KS.out _).mono ?_
  rintro e w6 ⟨v6, rfl, ho6, hg6⟩
  go_wp2_with fail
  refine (KM.out _ _ (g5.trans hg6) ho6.ints).mono ?_
  rintro e w7 ⟨v7, ps, rfl, hom, hg7⟩
  have g7 := (g5.trans hg6).trans hg7
  have HOM := Lib.hid hom
  obtain ⟨Am, cm, rfl⟩ := hom.slice
  clear hom ho6
  go_wp2_with fail
  refine (sizeD_c _ _ _ _ hcx.2 hcx.1).mono ?_
  rintro e w7' ⟨rfl, rfl⟩
  go_wp2_with fail
  refine (KS2.out _).mono ?_
  rintro e w8 ⟨v8, rfl, ho8, hg8⟩
  go_wp2_with fail
  refine (KM2.out _ _ (g7.trans hg8) ho8.ints).mono ?_
  rintro e w9 ⟨v9, qs, rfl, hom2, hg9⟩
  have HOM2 := Lib.hid hom2
  obtain ⟨An, cn', rfl⟩ := hom2.slice
  have h79 := hg8.trans hg9
  have h69 := hg7.trans h79
  have hsl := Lib.hid (show MX.length + MY.length ≤ 1048576 by have := HMX.out; have := HMY.out; omega)
  clear hom2 ho8 KM KM2 KS KS2
  go_wp2_with (first
    | (at_builtin; refine wpList_appDps w6.heap.size w8.heap.size _ _ rfl rfl (.slice Am MX.length cm) MX ps rfl (HOM.out.grew h79) h69.size _ MY qs rfl HOM2.out (hg7.trans hg8).size (fun p hp b hb => Nat.lt_of_lt_of_le (HOM.out.below p hp b hb) hg8.size) hsl.out ?_; intro v10 w10 hown10 hg10))
  have h49 := (h45.trans hg6).trans h69
  have h410 : Grew w4 w10 := h49.grown hg10 (fun k hk => Nat.le_trans (h45.trans hg6).size (own_of_ge HOM.out.row hk))
  have g10 : Grew w w10 := g4.trans h410
  have h610 : w6.heap.size ≤ w10.heap.size := Nat.le_trans h69.size hg10.size
  have HO10 := Lib.hid hown10
  have HHb := Lib.hid hown10.below
  have HLT : Hid (∀ W : World, OwnI (W.alloc (.cells #[.int .i64 ((n : Int) - 1), .int .i64 ((n : Int) + (m : Int) - 1)] 2)) W.heap.size (.slice (some ⟨W.heap.size, 0, none⟩) 2 2) [(n : Int) - 1, (n : Int) + (m : Int) - 1]) := Lib.hid (fun W => World.ownsRow_lit (e := 2) (size := 1) W #[.int .i64 ((n : Int) - 1), .int .i64 ((n : Int) + (m : Int) - 1)] 2 (Nat.le_refl _) (by first | omega | decide) rfl)
  have hzl : (MX ++ MY).length ≤ 1048576 := by rw [List.length_append]; exact hsl.out
  generalize hZ : MX ++ MY = Z at *
  have HZ := Lib.hid hZ
  have HZL := Lib.hid hzl
  obtain ⟨A10, c10, rfl⟩ := hown10.slice
  clear hZ hzl
  clear hown10 hg10 HOM HOM2
  go_wp2_with fail
  refine (sizeD_c _ _ _ _ hcx.2 hcx.1).mono ?_
  rintro e w10 ⟨rfl, rfl⟩
  go_wp2_with fail
  refine (sizeD_c _ _ _ _ hcx.2 hcx.1).mono ?_
  rintro e w10 ⟨rfl, rfl⟩
  go_wp2_with fail
  refine (sizeD_c _ _ _ _ hcy.2 hcy.1).mono ?_
  rintro e w10 ⟨rfl, rfl⟩
  go_wp2_with fail
  have h4L := (h410.alloc (.cells #[.int .i64 ((n : Int) - 1), .int .i64 ((n : Int) + (m : Int) - 1)] 2)).drew
  go_region_held3 (fun W' => Grew w4 W') (first | with_reducible assumption | exact Grew.alloc ‹_› _)
    (first
     | (have hz := hkC; refine step_appDp w6.heap.size w10.heap.size rfl _ _ rfl (.slice A10 Z.length c10) Z (ps ++ qs) rfl (HO10.out.grew ((((Grew.refl _).alloc _).drew.trans hgC).alloc _)) (Nat.le_trans h610 ((((Grew.refl _).alloc _).drew.trans hgC).alloc _).size) _ _ _ (10, [(n : Int) - 1, (n : Int) + (m : Int) - 1], rs, tq, 0) rfl (rd_litDb _ (by simp) _ _ _ _ _ _) (own_grew (HLT.out w10) (((Grew.refl _).drew.trans hgC).alloc _)) (own_base (own_grew hoC ((Grew.refl _).alloc _)) ((Grew.refl w10).alloc _).drew.size) h610 HHb.out HZL.out ?_; intro v14 w14 hown14 hg14; have hk14 : Grew w4 w14 := (hkC.alloc _).grown hg14 (fun k hk => Nat.le_trans (h45.trans hg6).size (own_of_ge HO10.out.row hk)))
     | (go_at_call 41; refine (KC.out _ _ (HUA.out.grew (h24.trans h4L))).mono ?_; rintro e wC ⟨vC, rfl, hoC, hgC⟩; have hkC := h4L.trans hgC; obtain ⟨VC, vcc, rfl⟩ := strs_slice hoC.strs))
  all_goals go_wp2_with fail
  all_goals go_ret2
  all_goals
    have hk14 : Grew w4 w14 := (hkC.alloc _).grown hg14 (fun k hk => Nat.le_trans (h45.trans hg6).size (own_of_ge HO10.out.row hk))
    rw [← HZ.out, List.append_assoc] at hown14
    exact ⟨_, rfl, (hown14.base (g5.trans hg6).size).ownDx, g4.trans hk14⟩
end Go.Proofs.YtofeeenjlaljpaaGreat

/- DetachDeductions of the reference. -/
namespace Go.Proofs.YtofeeenjlaljpaaGreat
open Go.RowKit

theorem own_litI2 (w : World) (k l : Int) : OwnI (w.alloc (.cells #[.int .i64 k, .int .i64 l] 2)) w.heap.size (.slice (some ⟨w.heap.size, 0, none⟩) 2 2) [k, l] :=
  World.ownsRow_lit (e := 2) (size := 1) w #[.int .i64 k, .int .i64 l] 2 (Nat.le_refl _) (by first | omega | decide) rfl

set_option maxRecDepth 20000 in
set_option maxHeartbeats 8000000 in
theorem specDt_c (v v2 : Value) (xs ys : List Dd) (w : World) (hv : Dds w v xs) (hv2 : Dds w v2 ys) (hf : FitsDd xs) (hf2 : FitsDd ys) (_hn : xs.length ≤ 1048576) (_hn2 : ys.length ≤ 1048576) :
    Calls Tryz.prog 27 #[v, v2] w (GivesDc w (dtF xs ys)) := by
  unfold GivesDc dtF
  obtain ⟨A, c, rfl⟩ := Dds_slice hv
  obtain ⟨A2, c2, rfl⟩ := Dds_slice hv2
  have KD := Lib.hid (l25Code_c _ [xs, ys] _ (DdL.two (T := 27) hv hv2) (fun i hi => by
    have hi2 : i < 2 := by simpa using hi
    match i, hi2 with
    | 0, _ => exact hf
    | 1, _ => exact hf2) (by simp))
  have HAL := Lib.hid ((Grew.refl w).alloc (.cells #[.slice A xs.length c, .slice A2 ys.length c2] 27))
  by_cases hd : dcode [xs, ys] = 0
  case neg =>
    rw [if_neg hd]
    have e0 : (dcode [xs, ys] == 0) = false := by simpa using hd
    clear hv hv2 hf hf2 hd
    generalize dcode [xs, ys] = d at *
    go_enter Tryz.func27, Tryz.ntmps27
    go_wp2_with fail
    refine (KD.out).mono ?_
    rintro e w1 ⟨rfl, hg1⟩
    go_wp2_with fail
    go_ret2
    exact ⟨_, rfl, OwnDx.nil_ _ _ _, HAL.out.trans hg1⟩
  rw [if_pos hd]
  rw [hd] at KD
  obtain ⟨⟨hn0, hn1, hfb⟩, hm0, hm1, hfb2⟩ := dcode_two hd
  have KR := Lib.hid (fun W (hW : Grew w W) => l25Last_c _ xs (lst xs) W (hv.grew hW) hn0 (lst_at hn0))
  have KR2 := Lib.hid (fun W (hW : Grew w W) => l25Last_c _ ys (lst ys) W (hv2.grew hW) hm0 (lst_at hm0))
  have hfx := hf _ (lst_mem hn0)
  have hfx2 := hf2 _ (lst_mem hm0)
  obtain ⟨_, _, hgp⟩ := step_good hfb (lst_at hn0)
  unfold GivesD1 at KR KR2
  by_cases hk : kT (lst xs).2.2.2.1 = 4
  case neg =>
    have hno : ¬ dtOk (lst xs) (lst ys) := fun h => hk h.1
    rw [if_neg hno]
    have KP := Lib.hid (fun W => lp_no 4 (lst xs).2.2.2.1 W hgp hk)
    clear hv hv2 hf hf2 hd hfb hfb2 hfx hfx2 hgp hk hno
    generalize lst xs = x at *
    generalize lst ys = y at *
    obtain ⟨r0, rA, rs, rc, rn⟩ := x
    obtain ⟨s0, sA, ss, sc, sn⟩ := y
    simp only at *
    go_enter Tryz.func27, Tryz.ntmps27
    go_wp2_with fail
    refine (KD.out).mono ?_
    rintro e w1 ⟨rfl, hg1⟩
    have g1 := HAL.out.trans hg1
    go_wp2_with fail
    refine (KR.out _ g1).mono ?_
    rintro e w2 ⟨up, ua, rfl, hup, hua, hg2⟩
    have g2 := g1.trans hg2
    obtain ⟨B2, d2, rfl⟩ := strs_slice hua
    obtain ⟨B3, d3, rfl⟩ := ints_slice hup
    clear hup hua
    go_wp2_with fail
    refine (KR2.out _ g2).mono ?_
    rintro e w3 ⟨up2, ua2, rfl, hup2, hua2, hg3⟩
    have g3 := g2.trans hg3
    obtain ⟨B4, d4, rfl⟩ := strs_slice hua2
    obtain ⟨B5, d5, rfl⟩ := ints_slice hup2
    clear hup2 hua2
    go_wp2_with fail
    refine (KP.out _).mono ?_
    rintro e w4 ⟨rfl, hg4⟩
    have g4 := ((g3.alloc _).alloc _).trans hg4
    go_wp2_with fail
    go_ret2
    exact ⟨_, rfl, OwnDx.nil_ _ _ _, g4⟩
  have KP := Lib.hid (fun W => lp_yes 4 (lst xs).2.2.2.1 W hgp hk (.inr (.inr rfl)))
  by_cases hpl : pl (lst xs).2.2.2.1 = (lst ys).2.2.2.1
  case neg =>
    have hno : ¬ dtOk (lst xs) (lst ys) := fun h => hpl h.2.1
    rw [if_neg hno]
    have hbn := bytes_ne hpl
    clear hv hv2 hf hf2 hd hfb hfb2 hfx hfx2 hgp hk hno hpl
    generalize lst xs = x at *
    generalize lst ys = y at *
    obtain ⟨r0, rA, rs, rc, rn⟩ := x
    obtain ⟨s0, sA, ss, sc, sn⟩ := y
    simp only at *
    generalize pl rc = tp at *
    generalize pr rc = tq at *
    go_enter Tryz.func27, Tryz.ntmps27
    go_wp2_with fail
    refine (KD.out).mono ?_
    rintro e w1 ⟨rfl, hg1⟩
    have g1 := HAL.out.trans hg1
    go_wp2_with fail
    refine (KR.out _ g1).mono ?_
    rintro e w2 ⟨up, ua, rfl, hup, hua, hg2⟩
    have g2 := g1.trans hg2
    obtain ⟨B2, d2, rfl⟩ := strs_slice hua
    obtain ⟨B3, d3, rfl⟩ := ints_slice hup
    clear hup hua
    go_wp2_with fail
    refine (KR2.out _ g2).mono ?_
    rintro e w3 ⟨up2, ua2, rfl, hup2, hua2, hg3⟩
    have g3 := g2.trans hg3
    obtain ⟨B4, d4, rfl⟩ := strs_slice hua2
    obtain ⟨B5, d5, rfl⟩ := ints_slice hup2
    clear hup2 hua2
    go_wp2_with fail
    refine (KP.out _).mono ?_
    rintro e w4 ⟨rfl, hg4⟩
    have g4 := ((g3.alloc _).alloc _).trans hg4
    have hbk : w4.heap[w3.heap.size + 1]? = some (.cells #[.int .i64 s0, .slice B5 sA.length d5, .slice B4 ss.length d4, .string sc, .int .i64 sn] 50) := (hg4.block (by simp)).trans (by have h := blk_new (w3.alloc (.cells #[.int .i64 r0, .slice B3 rA.length d3, .slice B2 rs.length d2, .string rc, .int .i64 rn] 50)) (.cells #[.int .i64 s0, .slice B5 sA.length d5, .slice B4 ss.length d4, .string sc, .int .i64 sn] 50); rwa [World.size_alloc] at h)
    have hbk1 : w4.heap[w3.heap.size]? = some (.cells #[.int .i64 r0, .slice B3 rA.length d3, .slice B2 rs.length d2, .string rc, .int .i64 rn] 50) := (hg4.block (by simp; omega)).trans (((Grew.refl _).alloc _).block (by simp) |>.trans (blk_new w3 (.cells #[.int .i64 r0, .slice B3 rA.length d3, .slice B2 rs.length d2, .string rc, .int .i64 rn] 50)))
    have l1 := blk_lt hbk1
    have l2 := blk_lt hbk
    have y1 : ∀ W, Grew w4 W → W.cell? ⟨w3.heap.size + 1, 3, none⟩ = some (.string sc) := fun W hW => (hW.cell (p := ⟨w3.heap.size + 1, 3, none⟩) l2).trans ((blk_cell hbk 3).trans rfl)
    have y2 : ∀ W, Grew w4 W → W.cell? ⟨w3.heap.size + 1, 2, none⟩ = some (.slice B4 ss.length d4) := fun W hW => (hW.cell (p := ⟨w3.heap.size + 1, 2, none⟩) l2).trans ((blk_cell hbk 2).trans rfl)
    have y3 : ∀ W, Grew w4 W → W.cell? ⟨w3.heap.size, 2, none⟩ = some (.slice B2 rs.length d2) := fun W hW => (hW.cell (p := ⟨w3.heap.size, 2, none⟩) l1).trans ((blk_cell hbk1 2).trans rfl)
    have hr4 := Grew.refl w4
    clear hbk hbk1
    go_wp2_with fail
    go_ret2
    exact ⟨_, rfl, OwnDx.nil_ _ _ _, g4⟩
  by_cases hag : (lst xs).2.2.1 = (lst ys).2.2.1
  case neg =>
    have hno : ¬ dtOk (lst xs) (lst ys) := fun h => hag h.2.2
    rw [if_neg hno]
    have KE := Lib.hid (fun a b W (h1 : Strs W a (lst xs).2.2.1) (h2 : Strs W b (lst ys).2.2.1) => by
      have h := l25Same_q a b _ _ W h1 h2
      rw [show @decide ((lst xs).2.2.1 = (lst ys).2.2.1) (Classical.propDecidable _) = false from @decide_eq_false _ (Classical.propDecidable _) hag] at h
      exact h)
    clear hv hv2 hf hf2 hd hfb hfb2 hfx hfx2 hgp hk hno hag
    generalize lst xs = x at *
    generalize lst ys = y at *
    obtain ⟨r0, rA, rs, rc, rn⟩ := x
    obtain ⟨s0, sA, ss, sc, sn⟩ := y
    simp only at *
    obtain ⟨tp, htp⟩ : ∃ tp, tp = pl rc := ⟨_, rfl⟩
    rw [← htp] at KP hpl
    subst hpl
    clear htp
    generalize pr rc = tq at *
    go_enter Tryz.func27, Tryz.ntmps27
    go_wp2_with fail
    refine (KD.out).mono ?_
    rintro e w1 ⟨rfl, hg1⟩
    have g1 := HAL.out.trans hg1
    go_wp2_with fail
    refine (KR.out _ g1).mono ?_
    rintro e w2 ⟨up, ua, rfl, hup, hua, hg2⟩
    have g2 := g1.trans hg2
    obtain ⟨B2, d2, rfl⟩ := strs_slice hua
    obtain ⟨B3, d3, rfl⟩ := ints_slice hup
    have HUA := Lib.hid hua
    clear hup hua
    go_wp2_with fail
    refine (KR2.out _ g2).mono ?_
    rintro e w3 ⟨up2, ua2, rfl, hup2, hua2, hg3⟩
    have g3 := g2.trans hg3
    obtain ⟨B4, d4, rfl⟩ := strs_slice hua2
    obtain ⟨B5, d5, rfl⟩ := ints_slice hup2
    have HUA2 := Lib.hid hua2
    clear hup2 hua2
    go_wp2_with fail
    refine (KP.out _).mono ?_
    rintro e w4 ⟨rfl, hg4⟩
    have g4 := ((g3.alloc _).alloc _).trans hg4
    have hbk : w4.heap[w3.heap.size + 1]? = some (.cells #[.int .i64 s0, .slice B5 sA.length d5, .slice B4 ss.length d4, .string tp, .int .i64 sn] 50) := (hg4.block (by simp)).trans (by have h := blk_new (w3.alloc (.cells #[.int .i64 r0, .slice B3 rA.length d3, .slice B2 rs.length d2, .string rc, .int .i64 rn] 50)) (.cells #[.int .i64 s0, .slice B5 sA.length d5, .slice B4 ss.length d4, .string tp, .int .i64 sn] 50); rwa [World.size_alloc] at h)
    have hbk1 : w4.heap[w3.heap.size]? = some (.cells #[.int .i64 r0, .slice B3 rA.length d3, .slice B2 rs.length d2, .string rc, .int .i64 rn] 50) := (hg4.block (by simp; omega)).trans (((Grew.refl _).alloc _).block (by simp) |>.trans (blk_new w3 (.cells #[.int .i64 r0, .slice B3 rA.length d3, .slice B2 rs.length d2, .string rc, .int .i64 rn] 50)))
    have l1 := blk_lt hbk1
    have l2 := blk_lt hbk
    have y1 : ∀ W, Grew w4 W → W.cell? ⟨w3.heap.size + 1, 3, none⟩ = some (.string tp) := fun W hW => (hW.cell (p := ⟨w3.heap.size + 1, 3, none⟩) l2).trans ((blk_cell hbk 3).trans rfl)
    have y2 : ∀ W, Grew w4 W → W.cell? ⟨w3.heap.size + 1, 2, none⟩ = some (.slice B4 ss.length d4) := fun W hW => (hW.cell (p := ⟨w3.heap.size + 1, 2, none⟩) l2).trans ((blk_cell hbk 2).trans rfl)
    have y3 : ∀ W, Grew w4 W → W.cell? ⟨w3.heap.size, 2, none⟩ = some (.slice B2 rs.length d2) := fun W hW => (hW.cell (p := ⟨w3.heap.size, 2, none⟩) l1).trans ((blk_cell hbk1 2).trans rfl)
    have hr4 := Grew.refl w4
    clear hbk hbk1
    have hs1 := HUA.out.grew ((hg3.trans (((Grew.refl w3).alloc (.cells #[.int .i64 r0, .slice B3 rA.length d3, .slice B2 rs.length d2, .string rc, .int .i64 rn] 50)).alloc (.cells #[.int .i64 s0, .slice B5 sA.length d5, .slice B4 ss.length d4, .string tp, .int .i64 sn] 50))).trans hg4)
    have hs2 := HUA2.out.grew ((((Grew.refl w3).alloc (.cells #[.int .i64 r0, .slice B3 rA.length d3, .slice B2 rs.length d2, .string rc, .int .i64 rn] 50)).alloc (.cells #[.int .i64 s0, .slice B5 sA.length d5, .slice B4 ss.length d4, .string tp, .int .i64 sn] 50)).trans hg4)
    have KT := Lib.hid (KE.out _ _ w4 hs1 hs2)
    clear hs1 hs2
    go_wp2_with fail
    refine (KT.out).mono ?_
    rintro e w5 ⟨rfl, hg5⟩
    go_wp2_with fail
    go_ret2
    exact ⟨_, rfl, OwnDx.nil_ _ _ _, g4.trans hg5.grew⟩
  have hok : dtOk (lst xs) (lst ys) := ⟨hk, hpl, hag⟩
  rw [if_pos hok]
  have KE := Lib.hid (fun a b W (h1 : Strs W a (lst xs).2.2.1) (h2 : Strs W b (lst ys).2.2.1) => by
    have h := l25Same_q a b _ _ W h1 h2
    rw [show @decide ((lst xs).2.2.1 = (lst ys).2.2.1) (Classical.propDecidable _) = true from @decide_eq_true _ (Classical.propDecidable _) hag] at h
    exact h)
  have KM := Lib.hid (fun W0 W u (hW : Grew w W0) (h : OwnDp W W0.heap.size u [] []) (hg : Grew W0 W) => by
    have h := l25Behind_c u _ [] xs [] W0 W h hg (hv.grew hW) hf hfb (by omega) (by simp)
    exact h)
  have KM2 := Lib.hid (fun W0 W u ps (hW : Grew w W0) (h : OwnDp W W0.heap.size u (xs.map (mvD 0)) ps) (hg : Grew W0 W) => by
    have h := l25Behind_c u _ _ ys ps W0 W h hg (hv2.grew hW) hf2 hfb2 (by omega) (by rw [List.length_map]; omega)
    rw [List.length_map] at h
    exact h)
  simp only [List.length_nil, List.nil_append] at KM
  have hmz : mvD ((0 : Nat) : Int) = mvD 0 := rfl
  rw [hmz] at KM
  clear hmz
  have KC := Lib.hid (fun u W (hu : Strs W u (lst xs).2.2.1) => copyL_c u _ W hu (by have : (lst xs).2.2.1.length ≤ 1048576 := hfx.2.1; omega))
  unfold GivesS at KC
  have hcx : xs.length ≤ c ∧ c ≤ 9223372036854775807 := by
    rcases hv with ⟨_, h0⟩ | ⟨b, o, c', hv, hc, hm, hb, hcell⟩
    · rw [h0] at hn0; exact absurd rfl hn0
    · obtain ⟨_, rfl⟩ : A = some ⟨b, o, none⟩ ∧ c = c' := by simpa using hv
      exact ⟨hc, hm⟩
  have hMX : (xs.map (mvD 0)).length = xs.length := by rw [List.length_map]
  have hMY : (ys.map (mvD xs.length)).length = ys.length := by rw [List.length_map]
  clear hv hv2 hf hf2 hd hfb hfb2 hfx hfx2 hgp hk hok hag
  generalize lst xs = x at *
  generalize lst ys = y at *
  obtain ⟨r0, rA, rs, rc, rn⟩ := x
  obtain ⟨s0, sA, ss, sc, sn⟩ := y
  simp only at *
  obtain ⟨tp, htp⟩ : ∃ tp, tp = pl rc := ⟨_, rfl⟩
  rw [← htp] at KP hpl
  subst hpl
  clear htp
  generalize pr rc = tq at *
  generalize hRR : (if xs.length + ys.length + 1 > 120 then (([], 3) : List Dd × Int) else (xs.map (mvD 0) ++ ys.map (mvD xs.length) ++ [(10, [(xs.length : Int) - 1, (xs.length : Int) + (ys.length : Int) - 1], rs, tq, 0)], 0)) = RR
  have HRR := Lib.hid hRR
  clear hRR
  generalize xs.map (mvD 0) = MX at *
  generalize ys.map (mvD xs.length) = MY at *
  generalize xs.length = n at *
  generalize ys.length = m at *
  go_enter Tryz.func27, Tryz.ntmps27
  go_wp2_with fail
  refine (KD.out).mono ?_
  rintro e w1 ⟨rfl, hg1⟩
  have g1 := HAL.out.trans hg1
  go_wp2_with fail
  refine (KR.out _ g1).mono ?_
  rintro e w2 ⟨up, ua, rfl, hup, hua, hg2⟩
  have g2 := g1.trans hg2
  obtain ⟨B2, d2, rfl⟩ := strs_slice hua
  obtain ⟨B3, d3, rfl⟩ := ints_slice hup
  have HUA := Lib.hid hua
  clear hup hua
  go_wp2_with fail
  refine (KR2.out _ g2).mono ?_
  rintro e w3 ⟨up2, ua2, rfl, hup2, hua2, hg3⟩
  have g3 := g2.trans hg3
  obtain ⟨B4, d4, rfl⟩ := strs_slice hua2
  obtain ⟨B5, d5, rfl⟩ := ints_slice hup2
  have HUA2 := Lib.hid hua2
  clear hup2 hua2
  go_wp2_with fail
  refine (KP.out _).mono ?_
  rintro e w4 ⟨rfl, hg4⟩
  have g4 := ((g3.alloc _).alloc _).trans hg4
  have hbk : w4.heap[w3.heap.size + 1]? = some (.cells #[.int .i64 s0, .slice B5 sA.length d5, .slice B4 ss.length d4, .string tp, .int .i64 sn] 50) := (hg4.block (by simp)).trans (by have h := blk_new (w3.alloc (.cells #[.int .i64 r0, .slice B3 rA.length d3, .slice B2 rs.length d2, .string rc, .int .i64 rn] 50)) (.cells #[.int .i64 s0, .slice B5 sA.length d5, .slice B4 ss.length d4, .string tp, .int .i64 sn] 50); rwa [World.size_alloc] at h)
  have hbk1 : w4.heap[w3.heap.size]? = some (.cells #[.int .i64 r0, .slice B3 rA.length d3, .slice B2 rs.length d2, .string rc, .int .i64 rn] 50) := (hg4.block (by simp; omega)).trans (((Grew.refl _).alloc _).block (by simp) |>.trans (blk_new w3 (.cells #[.int .i64 r0, .slice B3 rA.length d3, .slice B2 rs.length d2, .string rc, .int .i64 rn] 50)))
  have l1 := blk_lt hbk1
  have l2 := blk_lt hbk
  have y1 : ∀ W, Grew w4 W → W.cell? ⟨w3.heap.size + 1, 3, none⟩ = some (.string tp) := fun W hW => (hW.cell (p := ⟨w3.heap.size + 1, 3, none⟩) l2).trans ((blk_cell hbk 3).trans rfl)
  have y2 : ∀ W, Grew w4 W → W.cell? ⟨w3.heap.size + 1, 2, none⟩ = some (.slice B4 ss.length d4) := fun W hW => (hW.cell (p := ⟨w3.heap.size + 1, 2, none⟩) l2).trans ((blk_cell hbk 2).trans rfl)
  have y3 : ∀ W, Grew w4 W → W.cell? ⟨w3.heap.size, 2, none⟩ = some (.slice B2 rs.length d2) := fun W hW => (hW.cell (p := ⟨w3.heap.size, 2, none⟩) l1).trans ((blk_cell hbk1 2).trans rfl)
  have hr4 := Grew.refl w4
  clear hbk hbk1
  have hs3 := HUA.out.grew ((hg3.trans (((Grew.refl w3).alloc (.cells #[.int .i64 r0, .slice B3 rA.length d3, .slice B2 rs.length d2, .string rc, .int .i64 rn] 50)).alloc (.cells #[.int .i64 s0, .slice B5 sA.length d5, .slice B4 ss.length d4, .string tp, .int .i64 sn] 50))).trans hg4)
  have hs1 := HUA.out.grew ((hg3.trans (((Grew.refl w3).alloc (.cells #[.int .i64 r0, .slice B3 rA.length d3, .slice B2 rs.length d2, .string rc, .int .i64 rn] 50)).alloc (.cells #[.int .i64 s0, .slice B5 sA.length d5, .slice B4 ss.length d4, .string tp, .int .i64 sn] 50))).trans hg4)
  have hs2 := HUA2.out.grew ((((Grew.refl w3).alloc (.cells #[.int .i64 r0, .slice B3 rA.length d3, .slice B2 rs.length d2, .string rc, .int .i64 rn] 50)).alloc (.cells #[.int .i64 s0, .slice B5 sA.length d5, .slice B4 ss.length d4, .string tp, .int .i64 sn] 50)).trans hg4)
  have KT := Lib.hid (KE.out _ _ w4 hs1 hs2)
  clear hs1 hs2
  go_wp2_with fail
  refine (KT.out).mono ?_
  rintro e w5 ⟨rfl, hg5⟩
  have h45 := hg5.grew
  have g5 := g4.trans h45
  clear KE HUA HUA2 KP KR KR2 KD HAL y1 y2 KT hg5
  have HMX := Lib.hid hMX
  have HMY := Lib.hid hMY
  clear hMX hMY
  by_cases hlim : n + m + 1 > 120
  · have hRR := HRR.out
    rw [if_pos hlim] at hRR
    subst hRR
    clear HRR KM KM2 KC
    go_wp2_with fail
    go_ret2
    exact ⟨_, rfl, OwnDx.nil_ _ _ _, g5⟩
  have hRR := HRR.out
  rw [if_neg hlim] at hRR
  subst hRR
  clear HRR
  have HE := Lib.hid (own_emptyD w5)
  have HEg := Lib.hid ((Grew.refl w5).alloc (.cells #[] 50))
  go_wp2_with fail
  refine (KM.out w5 _ _ g5 HE.out HEg.out).mono ?_
  rintro e w6 ⟨v6, ps, rfl, hom, hg6⟩
  have g6 := g5.trans hg6
  have HOM := Lib.hid hom
  obtain ⟨Am, cm, rfl⟩ := hom.slice
  clear hom
  go_wp2_with fail
  refine (KM2.out w5 _ _ ps g5 HOM.out hg6).mono ?_
  rintro e w7 ⟨v7, qs, rfl, hom2, hg7⟩
  have hzl : (MX ++ MY).length = n + m := by rw [List.length_append, HMX.out, HMY.out]
  have g7 := g5.trans hg7
  have h47 := h45.trans hg7
  have HO := Lib.hid hom2
  have HHb := Lib.hid hom2.below
  have HLT := Lib.hid (own_litI2 w7 ((n : Int) - 1) ((n : Int) + (m : Int) - 1))
  obtain ⟨A7, c7, rfl⟩ := hom2.slice
  have HCC := Lib.hid (fun W (hW : Grew w4 W) => KC.out _ W (hs3.grew hW))
  have h7L := (Grew.refl w7).alloc (.cells #[.int .i64 ((n : Int) - 1), .int .i64 ((n : Int) + (m : Int) - 1)] 2)
  have hlb : (MX ++ MY).length ≤ 1048576 := by omega
  generalize hZ : MX ++ MY = Z at *
  have HZ := Lib.hid hZ
  clear hZ
  rw [hzl]
  have HZL := Lib.hid hzl
  have HO2 : Hid (OwnDp w7 w5.heap.size (.slice A7 (n + m) c7) Z qs) := Lib.hid (by have h := HO.out; rw [hzl] at h; exact h)
  have h4L := h47.trans h7L
  clear hom2 hs3 KC KM KM2 HE HEg HOM hzl
  go_wp2_with fail
  refine (HCC.out _ h4L).mono ?_
  rintro e wC ⟨vC, rfl, hoC, hgC⟩
  have HOC := Lib.hid hoC
  obtain ⟨VC, vcc, rfl⟩ := strs_slice hoC.strs
  have hkC := h7L.trans hgC
  clear hoC
  go_wp2_with (first
    | (at_builtin; refine wpList_appDp w5.heap.size w7.heap.size _ _ rfl rfl (.slice A7 (n + m) c7) Z qs rfl (HO2.out.grew (hkC.alloc _)) (Nat.le_trans hg7.size (hkC.alloc _).size) _ _ _ (10, [(n : Int) - 1, (n : Int) + (m : Int) - 1], rs, tq, 0) rfl (rd_litD _ _ _ _ _ _ _) (own_grew HLT.out (hgC.alloc _)) (own_base (own_grew HOC.out ((Grew.refl wC).alloc _)) h7L.size) hg7.size HHb.out hlb ?_; intro v8 w8 hown8 hg8))
  go_ret2
  have hk8 : Grew w5 w8 := Grew.grown (hg7.trans (hkC.alloc _)) hg8 (fun k hk => own_of_ge HO2.out.row hk)
  rw [← HZ.out, List.append_assoc] at hown8
  exact ⟨_, rfl, (hown8.base g5.size).ownDx, g5.trans hk8⟩
end Go.Proofs.YtofeeenjlaljpaaGreat

/- The bounds of DetachDeductions' result. No program is in sight. -/
namespace Go.Proofs.YtofeeenjlaljpaaGreat
open Go.RowKit

theorem pr_fit {s : ByteArray} (h : gp s = true) (hk : kT s = 4) : (pr s).size ≤ 1048576 := by
  obtain ⟨h2, h3, _⟩ := two_of h (.inr (.inr hk))
  have hl : (Fm.enc (rgt (fo s))).length ≤ (Fm.enc (fo s)).length := by
    cases hf : fo s <;> simp [rgt, Fm.enc] <;> omega
  have h4 : (Fm.enc (rgt (fo s))).length ≤ 40 := Nat.le_trans hl h3.1
  have := tx_size h4
  show (tx (rgt (fo s))).size ≤ 1048576
  omega
theorem dtF_fit {xs ys : List Dd} (hf : FitsDd xs) (hf2 : FitsDd ys) : FitsDd (dtF xs ys).1 := by
  unfold dtF
  split
  · rename_i h
    obtain ⟨⟨h1, h2, h3⟩, _, _, _⟩ := dcode_two h
    split
    · rename_i hok
      split
      · exact FitsDd.nil
      · obtain ⟨k1, k2, k3, k4⟩ := hf _ (lst_mem h1)
        obtain ⟨_, _, hgp⟩ := step_good h3 (lst_at h1)
        exact ((hf.mv 0).app (hf2.mv _)).app (FitsDd.one ⟨by simp, k2, k3, pr_fit hgp hok.1⟩)
    · exact FitsDd.nil
  · exact FitsDd.nil
end Go.Proofs.YtofeeenjlaljpaaGreat

/- DetachDeductions of both sides, with the arguments in the law's order. -/
namespace Go.Proofs.YtofeeenjlaljpaaGreat
open Go.RowKit

theorem specDtw_c (v : Value) (xs : List Dd) (v2 : Value) (ys : List Dd) (w : World) (hv : Dds w v xs) (hv2 : Dds w v2 ys) (hf : FitsDd xs) (hn : xs.length ≤ 1048576) (hf2 : FitsDd ys) (hn2 : ys.length ≤ 1048576) :
    Calls Tryz.prog 27 #[v, v2] w (GivesDc w (dtF xs ys)) := specDt_c v v2 xs ys w hv hv2 hf hf2 hn hn2
theorem implDtw_c (v : Value) (xs : List Dd) (v2 : Value) (ys : List Dd) (w : World) (hv : Dds w v xs) (hv2 : Dds w v2 ys) (hf : FitsDd xs) (hn : xs.length ≤ 1048576) (hf2 : FitsDd ys) (hn2 : ys.length ≤ 1048576) :
    Calls Tryz.prog 28 #[v, v2] w (GivesDc w (dtF xs ys)) := implDt_c v v2 xs ys w hv hv2 hf hf2 hn hn2
end Go.Proofs.YtofeeenjlaljpaaGreat

/- The laws' own helpers on slices of Deductions: szDeductionS, toDeductionS, eqDeductionS. -/
namespace Go.Proofs.YtofeeenjlaljpaaGreat
open Go.RowKit

/-- The sizes of one. -/
def SizeDd (x : Dd) (r : Int) : Prop := r ≤ 1048576 ∧ (0 ≤ r → FitDd x)
theorem szDeduction_c (x : Dd) (up ua : Value) (left : Int) (w : World) (hp : ArgI w up x.2.1) (hs : ArgS w ua x.2.2.1) (hz : x.2.2.2.1.size ≤ 9223372036854775807) (h0 : 0 ≤ left) (h1 : left ≤ 1048576) :
    Calls Tryz.prog 35 #[.agg #[.int .i64 x.1, up, ua, .string x.2.2.2.1, .int .i64 x.2.2.2.2], .int .i64 left] w fun e w' => ∃ r : Int, e = .returned (.int .i64 r) ∧ SizeDd x r ∧ Grew w w' := by
  have hal := (Grew.refl w).alloc (.cells #[.int .i64 x.1, up, ua, .string x.2.2.2.1, .int .i64 x.2.2.2.2] 47)
  have HE : Hid (∀ r : Int, (r ≤ 1048576 ∧ (0 ≤ r → FitDd x)) → SizeDd x r) := Lib.hid (fun _ h => h)
  have HF : Hid (FitDd x ↔ (x.2.1.length ≤ 1048576 ∧ x.2.2.1.length ≤ 1048576 ∧ Fits x.2.2.1 ∧ x.2.2.2.1.size ≤ 1048576)) := Lib.hid Iff.rfl
  have KI := Lib.hid (fun l W (hW : Grew w W) (a0 : 0 ≤ l) (a1 : l ≤ 1048576) => szInt64S_c up x.2.1 l W (hp.grew hW) a0 a1)
  have KS := Lib.hid (fun l W (hW : Grew w W) (a0 : 0 ≤ l) (a1 : l ≤ 1048576) => szStringS_c ua x.2.2.1 l W (hs.grew hW) a0 a1)
  obtain ⟨⟨A, c, rfl, hm1⟩, _⟩ := hp
  obtain ⟨⟨A2, c2, rfl, hm2⟩, _, _⟩ := hs
  generalize FitDd x = FIT at *
  obtain ⟨r0, P, S, C, N⟩ := x
  simp only at *
  generalize P.length = pl at *
  generalize hsl : S.length = sl at *
  replace hsl := Lib.hid hsl
  go_enter Tryz.func35, Tryz.ntmps35
  go_wp2_with fail
  refine (KI.out _ _ hal (by omega) (by omega)).mono ?_
  rintro e w1 ⟨r1, rfl, ⟨hr1, hf1⟩, hg1⟩
  have k1 := hal.trans hg1
  by_cases h1 : r1 < 0
  · go_wp2_with fail
    go_ret
    exact ⟨_, rfl, HE.out _ ⟨by omega, fun h => absurd h (by omega)⟩, k1⟩
  have f2 : ∀ W, Grew w1 W → W.cell? ⟨w.heap.size, 2, none⟩ = some (.slice A2 sl c2) := fun W hW => ((hg1.trans hW).cell (p := ⟨w.heap.size, 2, none⟩) (by simp)).trans (by simp)
  have rr1 := Grew.refl w1
  go_wp2_with fail
  refine (KS.out _ _ k1 (by omega) (by omega)).mono ?_
  rintro e w2 ⟨r2, rfl, hs2, hg2⟩
  have HS2 := Lib.hid hs2
  have hr2 := hs2.1
  clear hs2
  have k2 := k1.trans hg2
  by_cases h2 : r2 < 0
  · go_wp2_with fail
    go_ret
    exact ⟨_, rfl, HE.out _ ⟨by omega, fun h => absurd h (by omega)⟩, k2⟩
  have f3 : ∀ W, Grew w2 W → W.cell? ⟨w.heap.size, 3, none⟩ = some (.string C) := fun W hW => (((hg1.trans hg2).trans hW).cell (p := ⟨w.heap.size, 3, none⟩) (by simp)).trans (by simp)
  have rr2 := Grew.refl w2
  have hsm := Lib.hid (HS2.out.2 (by omega))
  have hf1' := hf1 (by omega)
  clear hf1
  by_cases h3 : r2 < C.size
  · go_wp2_with fail
    go_ret
    exact ⟨_, rfl, HE.out _ ⟨by omega, fun h => absurd h (by omega)⟩, k2⟩
  · go_wp2_with fail
    go_ret
    exact ⟨_, rfl, HE.out _ ⟨by omega, fun h => HF.out.2 ⟨hf1', (by have h7 := hsm.out.1; have h8 := hsl.out; omega), small_fits hsm.out.2, by omega⟩⟩, k2⟩

/-- The first k are small. -/
def SmallDd (xs : List Dd) (k : Nat) : Prop := ∀ i x, i < k → xs[i]? = some x → FitDd x
theorem SmallDd.zero (xs : List Dd) : SmallDd xs 0 := fun i x hi => absurd hi (by omega)
theorem SmallDd.succ {xs : List Dd} {k : Nat} {x : Dd} (h : SmallDd xs k) (hx : xs[k]? = some x) (h1 : FitDd x) : SmallDd xs (k + 1) := by
  intro i y hi hy
  rcases Nat.lt_or_ge i k with hk | hk
  · exact h i y hk hy
  · obtain rfl : i = k := by omega
    rw [hx] at hy
    injection hy with hy
    subst hy
    exact h1
theorem SmallDd.fits {xs : List Dd} (h : SmallDd xs xs.length) : FitsDd xs := by
  intro x hx
  obtain ⟨i, hi, rfl⟩ := List.getElem_of_mem hx
  exact h i _ hi (List.getElem?_eq_getElem hi)

theorem szDeductionS_c (v : Value) (xs : List Dd) (left : Int) (w : World) (h : ArgDd w v xs) (h0 : 0 ≤ left) (h1 : left ≤ 1048576) :
    Calls Tryz.prog 10 #[v, .int .i64 left] w fun e w' => ∃ r : Int, e = .returned (.int .i64 r) ∧ SizesDd xs r ∧ Grew w w' := by
  obtain ⟨⟨A, c, rfl, hmax⟩, hS, hz⟩ := h
  have HE : Hid (∀ r : Int, (r ≤ 1048576 ∧ (0 ≤ r → xs.length ≤ 1048576 ∧ FitsDd xs)) → SizesDd xs r) := Lib.hid (fun _ h => h)
  by_cases hlong : left < xs.length
  · clear hS hz
    generalize xs.length = n at *
    go_enter Tryz.func10, Tryz.ntmps10
    go_wp2_with fail
    go_ret
    exact ⟨_, rfl, HE.out _ ⟨by omega, fun h => absurd h (by omega)⟩, Grew.refl _⟩
  · by_cases hp : 0 < xs.length
    · obtain ⟨b, o, c', hv, hc, hm, hb, hcell⟩ := (hS hp).open_ hp
      obtain ⟨rfl, rfl⟩ : A = some ⟨b, o, none⟩ ∧ c = c' := by simpa using hv
      clear hS hv
      have HC := Lib.hid hcell
      have HZ := Lib.hid hz
      have HX := Lib.hid (fun j (hj : j < xs.length) => (⟨xs[j], List.getElem?_eq_getElem hj, List.getElem_mem hj⟩ : ∃ x, xs[j]? = some x ∧ x ∈ xs))
      have HFIN := Lib.hid (fun (h : SmallDd xs xs.length) => h.fits)
      clear hcell hz
      generalize hN : xs.length = n at *
      clear hN
      go_enter Tryz.func10, Tryz.ntmps10
      go_wp2_with fail
      go_loopw [1, 5] (fun kk i wr => ∃ (j : Nat) (l : Int), j ≤ n ∧ i = .int .i64 j ∧ kk = .int .i64 l ∧ 0 ≤ l ∧ l ≤ 1048576 ∧ Grew w wr ∧ Hid (SmallDd xs j)) (fun _ i _ => n - (intOf i).toNat)
      case atStart => exact ⟨0, left - n, Nat.zero_le _, rfl, rfl, by omega, by omega, Grew.refl _, SmallDd.zero _⟩
      case round =>
        obtain ⟨j, l, hj, rfl, rfl, hl0, hl1, hB, HJ⟩ := hrel
        by_cases hlt : j < n
        · obtain ⟨x, hx, hxm⟩ := HX.out j hlt
          obtain ⟨up, ua, hcs, hpi, hps⟩ := HC.out j x hx
          obtain ⟨k1, k2, k3, k4, k5⟩ := hcs _ hB
          have hz1 := HZ.out x hxm
          have HS := Lib.hid (fun h => HJ.out.succ hx h)
          have HW := Lib.hid (fun W (hW : Grew w W) => szDeduction_c x up ua l W (hpi.grew hW) (hps.grew hW) hz1 hl0 (by omega))
          clear hcs hpi hps hx hxm hz1
          generalize hxx : x = y at HS HW
          obtain ⟨r0, P, S, C, N⟩ := x
          simp only at k1 k2 k3 k4 k5
          subst hxx
          simp only at HW
          go_wp2_with fail
          refine (HW.out _ hB).mono ?_
          rintro e w1 ⟨r, rfl, ⟨hr1, hr2⟩, hg1⟩
          by_cases hbig : r < 0
          · clear hr2
            go_wp2_with fail
            go_ret
            exact ⟨_, rfl, HE.out _ ⟨by omega, fun h => absurd h (by omega)⟩, hB.trans hg1⟩
          · have hs := Lib.hid (HS.out (hr2 (by omega)))
            clear hr2
            go_wp2_with fail
            go_roundw
            case rel => exact ⟨j + 1, r, by omega, by go_num, rfl, by omega, by omega, hB.trans hg1, hs⟩
            case measure => simp [intOf]; omega
        · obtain rfl : j = n := by omega
          go_wp2_with fail
          go_ret
          exact ⟨_, rfl, HE.out _ ⟨by omega, fun _ => ⟨by omega, HFIN.out HJ.out⟩⟩, hB⟩
    · obtain rfl : xs = [] := List.eq_nil_of_length_eq_zero (by omega)
      simp only [List.length_nil] at *
      go_enter Tryz.func10, Tryz.ntmps10
      go_wp2_with fail
      refine wp_loop_rounds 1 ?_; rw [rounds_succ]
      go_wp2_with fail
      go_ret
      exact ⟨_, rfl, HE.out _ ⟨by omega, fun _ => ⟨by simp, fun i hi => absurd hi (by simp)⟩⟩, Grew.refl _⟩
end Go.Proofs.YtofeeenjlaljpaaGreat

/- The law FnExactDetachDeductions, walked. -/
namespace Go.Proofs.YtofeeenjlaljpaaGreat
open Go.RowKit

theorem lawDtw_c (v0 : Value) (L0 : List Dd) (v1 : Value) (L1 : List Dd) (w : World) (h0 : ArgDd w v0 L0) (h1 : ArgDd w v1 L1) :
    Calls Tryz.prog 6 #[v0, v1] w fun e w' => e = .returned (.bool true) ∧ Grew w w' := by
  have Z0 := Lib.hid (fun W l (hW : Grew w W) (a0 : 0 ≤ l) (a1 : l ≤ 1048576) => szDeductionS_c v0 L0 l W (h0.grew hW) a0 a1)
  have T0 := Lib.hid (fun W (hW : Grew w W) => toDeductionS_x v0 L0 W (h0.grew hW))
  have Z1 := Lib.hid (fun W l (hW : Grew w W) (a0 : 0 ≤ l) (a1 : l ≤ 1048576) => szDeductionS_c v1 L1 l W (h1.grew hW) a0 a1)
  have T1 := Lib.hid (fun W (hW : Grew w W) => toDeductionS_x v1 L1 W (h1.grew hW))
  clear h0 h1
  go_enter Tryz.func6, Tryz.ntmps6
  go_wp2_with fail
  refine (Z0.out _ _ (Grew.refl w) (by omega) (by omega)).mono ?_
  rintro e w1 ⟨r0, rfl, ⟨hm0, hs0⟩, hg1⟩
  have z1 := Lib.hid hg1.size
  have g1 : Grew w w1 := (Grew.refl w).trans hg1
  clear hg1
  by_cases hr0 : r0 < 0
  · clear hs0
    go_wp2_with fail
    go_ret
    exact ⟨rfl, g1⟩
  obtain ⟨hn0, hf0⟩ := hs0 (by omega)
  have F0 : Hid (FitsDd L0) := Lib.hid hf0
  clear hs0 hf0
  go_wp2_with fail
  refine (Z1.out _ _ g1 (by omega) (by omega)).mono ?_
  rintro e w2 ⟨r1, rfl, ⟨hm1, hs1⟩, hg2⟩
  have z2 := Lib.hid hg2.size
  have g2 : Grew w w2 := g1.trans hg2
  clear hg2
  by_cases hr1 : r1 < 0
  · clear hs1
    go_wp2_with fail
    go_ret
    exact ⟨rfl, g2⟩
  obtain ⟨hn1, hf1⟩ := hs1 (by omega)
  have F1 : Hid (FitsDd L1) := Lib.hid hf1
  clear hs1 hf1
  have KS := Lib.hid (fun u0 u1 W x0 x1 => specDtw_c u0 L0 u1 L1 W x0 x1 F0.out (by omega) F1.out (by omega))
  have KI := Lib.hid (fun u0 u1 W x0 x1 => implDtw_c u0 L0 u1 L1 W x0 x1 F0.out (by omega) F1.out (by omega))
  have hlen := dtF_len (xs := L0) (ys := L1)
  have hrfit := Lib.hid (dtF_fit F0.out F1.out)
  generalize dtF L0 L1 = rr at *
  obtain ⟨xs, c⟩ := rr
  simp only at hlen
  simp only at hrfit
  unfold GivesDc at KS KI
  simp only at KS KI
  have hcc : (c != c) = false := by simp
  go_wp2_with fail
  refine (T0.out _ g2 hn0 F0.out).mono ?_
  rintro e w3 ⟨a0, rfl, oa0, hg3⟩
  have z3 := Lib.hid hg3.size
  have g3 : Grew w w3 := g2.trans hg3
  clear hg3
  go_wp2_with fail
  refine (T1.out _ g3 hn1 F1.out).mono ?_
  rintro e w4 ⟨a1, rfl, oa1, hg4⟩
  have z4 := Lib.hid hg4.size
  have g4 : Grew w w4 := g3.trans hg4
  replace oa0 := oa0.grew hg4
  clear hg4
  go_wp2_with fail
  refine (KS.out _ _ _ oa0.rd oa1.rd).mono ?_
  rintro e w5 ⟨q0, rfl, hq, hg5⟩
  have z5 := Lib.hid hg5.size
  have g5 : Grew w w5 := g4.trans hg5
  clear hg5 oa0 oa1
  go_wp2_with fail
  refine (T0.out _ g5 hn0 F0.out).mono ?_
  rintro e w6 ⟨x0, rfl, ox0, hg6⟩
  have z6 := Lib.hid hg6.size
  have g6 : Grew w w6 := g5.trans hg6
  replace hq := hq.grew hg6
  clear hg6
  go_wp2_with fail
  refine (T1.out _ g6 hn1 F1.out).mono ?_
  rintro e w7 ⟨x1, rfl, ox1, hg7⟩
  have z7 := Lib.hid hg7.size
  have g7 : Grew w w7 := g6.trans hg7
  replace ox0 := ox0.grew hg7
  replace hq := hq.grew hg7
  clear hg7
  go_wp2_with fail
  refine (KI.out _ _ _ ox0.rd ox1.rd).mono ?_
  rintro e w8 ⟨g0, rfl, hog, hg8⟩
  have z8 := Lib.hid hg8.size
  have g8 : Grew w w8 := g7.trans hg8
  replace hq := hq.grew hg8
  replace ox0 := ox0.grew hg8
  replace ox1 := ox1.grew hg8
  clear hg8
  go_wp2_with fail
  refine (eqDeductionS_yes _ _ xs _ hog.rd hq.rd (by omega) hrfit.out).mono ?_
  rintro e w9 ⟨rfl, hg9⟩
  have z9 := Lib.hid hg9.size
  have g9 : Grew w w9 := g8.trans hg9
  replace hq := hq.grew hg9
  replace ox0 := ox0.grew hg9
  replace ox1 := ox1.grew hg9
  replace hog := hog.grew hg9
  clear hg9
  go_wp2_with fail
  refine (T0.out _ g9 hn0 F0.out).mono ?_
  rintro e w10 ⟨y0, rfl, oy0, hg10⟩
  have z10 := Lib.hid hg10.size
  have g10 : Grew w w10 := g9.trans hg10
  replace hq := hq.grew hg10
  replace ox0 := ox0.grew hg10
  replace ox1 := ox1.grew hg10
  replace hog := hog.grew hg10
  clear hg10
  go_wp2_with fail
  refine (eqDeductionS_yes _ _ L0 _ ox0.rd oy0.rd (by omega) F0.out).mono ?_
  rintro e w11 ⟨rfl, hg11⟩
  have z11 := Lib.hid hg11.size
  have g11 : Grew w w11 := g10.trans hg11
  replace hq := hq.grew hg11
  replace ox0 := ox0.grew hg11
  replace ox1 := ox1.grew hg11
  replace hog := hog.grew hg11
  clear hg11 oy0
  go_wp2_with fail
  refine (T1.out _ g11 hn1 F1.out).mono ?_
  rintro e w12 ⟨y1, rfl, oy1, hg12⟩
  have z12 := Lib.hid hg12.size
  have g12 : Grew w w12 := g11.trans hg12
  replace hq := hq.grew hg12
  replace ox0 := ox0.grew hg12
  replace ox1 := ox1.grew hg12
  replace hog := hog.grew hg12
  clear hg12
  go_wp2_with fail
  refine (eqDeductionS_yes _ _ L1 _ ox1.rd oy1.rd (by omega) F1.out).mono ?_
  rintro e w13 ⟨rfl, hg13⟩
  have z13 := Lib.hid hg13.size
  have g13 : Grew w w13 := g12.trans hg13
  replace hq := hq.grew hg13
  replace ox0 := ox0.grew hg13
  replace ox1 := ox1.grew hg13
  replace hog := hog.grew hg13
  clear hg13 oy1
  have hdk0 := dk_le (k := 1) F0.out L0.length (Nat.le_refl _)
  go_wp2_with fail
  refine (markDeductionS_x _ L0 _ _ (1) _ ox0 F0.out (by omega) (by omega) (by omega)).mono ?_
  rintro e w14 ⟨rfl, _, hsp⟩
  replace hq := hsp.ownDx hq (.inl (by have y1 := z1.out; have y2 := z2.out; have y3 := z3.out; have y4 := z4.out; have y5 := z5.out; have y6 := z6.out; have y7 := z7.out; omega))
  replace hog := hsp.ownDx hog (.inr (by have y1 := z1.out; have y2 := z2.out; have y3 := z3.out; have y4 := z4.out; have y5 := z5.out; have y6 := z6.out; have y7 := z7.out; omega))
  replace ox1 := hsp.ownDx ox1 (.inr (by have y1 := z1.out; have y2 := z2.out; have y3 := z3.out; have y4 := z4.out; have y5 := z5.out; have y6 := z6.out; have y7 := z7.out; omega))
  have g14 : Grew w w14 := hsp.old g13 (by have y1 := z1.out; have y2 := z2.out; have y3 := z3.out; have y4 := z4.out; have y5 := z5.out; have y6 := z6.out; have y7 := z7.out; omega)
  clear hsp ox0
  generalize hkk0 : dk 1 L0 L0.length = kk0 at *
  clear hkk0
  have hdk1 := dk_le (k := kk0) F1.out L1.length (Nat.le_refl _)
  go_wp2_with fail
  refine (markDeductionS_x _ L1 _ _ (kk0) _ ox1 F1.out (by omega) (by omega) (by omega)).mono ?_
  rintro e w15 ⟨rfl, _, hsp⟩
  replace hq := hsp.ownDx hq (.inl (by have y1 := z1.out; have y2 := z2.out; have y3 := z3.out; have y4 := z4.out; have y5 := z5.out; have y6 := z6.out; have y7 := z7.out; omega))
  replace hog := hsp.ownDx hog (.inr (by have y1 := z1.out; have y2 := z2.out; have y3 := z3.out; have y4 := z4.out; have y5 := z5.out; have y6 := z6.out; have y7 := z7.out; omega))
  have g15 : Grew w w15 := hsp.old g14 (by have y1 := z1.out; have y2 := z2.out; have y3 := z3.out; have y4 := z4.out; have y5 := z5.out; have y6 := z6.out; have y7 := z7.out; omega)
  clear hsp ox1
  generalize hkk1 : dk kk0 L1 L1.length = kk1 at *
  clear hkk1
  go_wp2_with fail
  refine (eqDeductionS_yes _ _ xs _ hog.rd hq.rd (by omega) hrfit.out).mono ?_
  rintro e w16 ⟨rfl, hg16⟩
  have z16 := Lib.hid hg16.size
  have g16 : Grew w w16 := g15.trans hg16
  replace hq := hq.grew hg16
  replace hog := hog.grew hg16
  clear hg16
  have hdkr := dk_le (k := 1) hrfit.out xs.length (Nat.le_refl _)
  go_wp2_with fail
  refine (markDeductionS_x _ xs _ _ 1 _ hog hrfit.out (by omega) (by omega) (by omega)).mono ?_
  rintro e w17 ⟨rfl, hog, hsp⟩
  replace hq := hsp.ownDx hq (.inl (by have y1 := z1.out; have y2 := z2.out; have y3 := z3.out; have y4 := z4.out; have y5 := z5.out; have y6 := z6.out; have y7 := z7.out; omega))
  have g17 : Grew w w17 := hsp.old g16 (by have y1 := z1.out; have y2 := z2.out; have y3 := z3.out; have y4 := z4.out; have y5 := z5.out; have y6 := z6.out; have y7 := z7.out; omega)
  clear hsp
  have hdd : (dk 1 xs xs.length != dk 1 xs xs.length) = false := by simp
  go_wp2_with fail
  refine (heldDeductionS_c _ xs 1 _ hog.rd hrfit.out (by omega) (by omega) (by omega)).mono ?_
  rintro e w18 ⟨rfl, hg18⟩
  have z18 := Lib.hid hg18.size
  have g18 : Grew w w18 := g17.trans hg18
  replace hq := hq.grew hg18
  replace hog := hog.grew hg18
  clear hg18
  go_wp2_with fail
  refine (T0.out _ g18 hn0 F0.out).mono ?_
  rintro e w19 ⟨b0, rfl, ob0, hg19⟩
  have z19 := Lib.hid hg19.size
  have g19 : Grew w w19 := g18.trans hg19
  replace hq := hq.grew hg19
  replace hog := hog.grew hg19
  clear hg19
  go_wp2_with fail
  refine (T1.out _ g19 hn1 F1.out).mono ?_
  rintro e w20 ⟨b1, rfl, ob1, hg20⟩
  have z20 := Lib.hid hg20.size
  have g20 : Grew w w20 := g19.trans hg20
  replace ob0 := ob0.grew hg20
  replace hq := hq.grew hg20
  replace hog := hog.grew hg20
  clear hg20
  go_wp2_with fail
  refine (KI.out _ _ _ ob0.rd ob1.rd).mono ?_
  rintro e w21 ⟨h0, rfl, hoh, hg21⟩
  have z21 := Lib.hid hg21.size
  have g21 : Grew w w21 := g20.trans hg21
  replace hq := hq.grew hg21
  replace hog := hog.grew hg21
  clear hg21
  go_wp2_with fail
  refine (eqDeductionS_yes _ _ xs _ hoh.rd hq.rd (by omega) hrfit.out).mono ?_
  rintro e w22 ⟨rfl, hg22⟩
  have z22 := Lib.hid hg22.size
  have g22 : Grew w w22 := g21.trans hg22
  replace hq := hq.grew hg22
  replace hog := hog.grew hg22
  replace hoh := hoh.grew hg22
  clear hg22
  go_wp2_with fail
  refine (heldDeductionS_c _ xs 1 _ hog.rd hrfit.out (by omega) (by omega) (by omega)).mono ?_
  rintro e w23 ⟨rfl, hg23⟩
  go_wp2_with fail
  go_ret
  exact ⟨rfl, g22.trans hg23⟩
end Go.Proofs.YtofeeenjlaljpaaGreat

/- An argument that is a list of strings, or a struct of two such lists. -/
namespace Go.Proofs.YtofeeenjlaljpaaGreat
open Go.RowKit

theorem cell_lt {w : World} {a : Addr} {u : Value} (h : w.cell? a = some u) : a.block < w.heap.size := by
  unfold World.cell? at h
  split at h
  · rename_i hh
    exact (Array.getElem?_eq_some_iff.1 hh).1
  · cases h

theorem argS_of_trod {H : Type} {enc : TypeId × Value → H} {P : Program} {W : World} {sp : Nat → Bool} {held : Bool} {n : Nat} {t e : TypeId} {v : Value} {y : DataW H × List MemPlace}
    (ht : P.underlying t = some (.slice e)) (he : P.underlying e = some .string) (hc : P.cellsOf e = 1) (h : DataW.trod enc P W 0 sp held n t [v] = some y) : ∃ L, ArgS W v L := by
  rcases Go.Deep.open_strs ht he hc h with ⟨hv, _⟩ | ⟨a, len, cap, m, Sx, hv, _, hl, hm, hmm, _, hcell⟩
  · obtain rfl : v = .slice none 0 0 := by simpa using hv
    exact ⟨[], ⟨none, 0, rfl, by simp⟩, fun h => absurd h (by simp), fun i hi => absurd hi (by simp)⟩
  · obtain rfl : v = .slice (some a) len cap := by simpa using hv
    have hlm : len ≤ m := by rw [hmm]; split <;> omega
    have hmax : maxLen = 9223372036854775807 := by decide
    rw [hmax] at hm
    have hlen : ((List.range len).map Sx).length = len := by simp
    have hst : ∀ i, i < len → st ((List.range len).map Sx) i = Sx i := fun i hi => by simp [st, List.getD, hi]
    refine ⟨(List.range len).map Sx, ⟨some a, cap, by rw [hlen], by rw [hlen]; omega⟩, fun hp => ?_, fun i hi => ?_⟩
    · rw [hlen] at hp
      obtain ⟨b, off, spot⟩ := a
      have h0 := (hcell 0 (by omega)).1
      have hspot : spot = none := by simpa [Addr.add] using World.cell?_spot h0
      subst hspot
      have hb := cell_lt h0
      have hadd : ∀ i, (⟨b, off, none⟩ : Addr).add i = ⟨b, off + i, none⟩ := fun i => by
        unfold Addr.add
        split
        · subst_vars; rfl
        · rfl
      rw [hadd] at hb
      unfold Strs Rd
      rw [hlen]
      refine ⟨by rw [scells_length, hlen], by omega, .inr ⟨b, off, cap, rfl, hl, hm, hb, fun j u hu => ?_⟩⟩
      have hj : j < len := by
        have := (List.getElem?_eq_some_iff.1 hu).1
        rw [scells_length, hlen] at this
        omega
      rw [scells_at (by rw [hlen]; exact hj), hst j hj] at hu
      rw [← hadd, (hcell j (by omega)).1]
      exact hu
    · rw [hlen] at hi
      rw [hst i hi, ← hmax]
      exact (hcell i (by omega)).2
end Go.Proofs.YtofeeenjlaljpaaGreat

/- An argument that is a list of numbers. -/
namespace Go.Proofs.YtofeeenjlaljpaaGreat
open Go.RowKit

theorem argI_of_trod {H : Type} {enc : TypeId × Value → H} {P : Program} {W : World} {sp : Nat → Bool} {held : Bool} {n : Nat} {t e : TypeId} {v : Value} {y : DataW H × List MemPlace}
    (ht : P.underlying t = some (.slice e)) (he : P.underlying e = some (.int .i64)) (hc : P.cellsOf e = 1) (h : DataW.trod enc P W 0 sp held n t [v] = some y) : ∃ L, ArgI W v L := by
  rcases Go.Deep.open_slice ht h with ⟨hv, _⟩ | ⟨a, len, cap, m, k, D, Pl, hv, _, hl, hm, hmm, _, hcell⟩
  · obtain rfl : v = .slice none 0 0 := by simpa using hv
    exact ⟨[], ⟨none, 0, rfl, by simp⟩, fun h => absurd h (by simp)⟩
  · obtain rfl : v = .slice (some a) len cap := by simpa using hv
    have hlm : len ≤ m := by rw [hmm]; split <;> omega
    have hmax : maxLen = 9223372036854775807 := by decide
    rw [hmax] at hm
    have each : ∀ i, i < len → ∃ q : Int, W.cell? (a.add i) = some (.int .i64 q) := fun i hi => by
      obtain ⟨cs', h1, h2⟩ := hcell i (by omega)
      rw [hc] at h1
      obtain ⟨_, hlen, hc1⟩ := World.cells?_some h1
      match cs', hlen with
      | [v0], _ =>
        obtain ⟨x, hx, _⟩ := DataW.trod_int he h2
        obtain rfl : v0 = .int .i64 x := by simpa using hx
        have e0 := hc1 0 (by omega)
        rw [Go.Deep.add_add] at e0
        exact ⟨x, by simpa [hc] using e0⟩
    obtain ⟨q, hq⟩ := Go.Deep.choose_lt each
    have hlen : ((List.range len).map q).length = len := by simp
    refine ⟨(List.range len).map q, ⟨some a, cap, by rw [hlen], by rw [hlen]; omega⟩, fun hp => ?_⟩
    rw [hlen] at hp
    obtain ⟨b, off, spot⟩ := a
    have h0 := hq 0 (by omega)
    have hspot : spot = none := by simpa [Addr.add] using World.cell?_spot h0
    subst hspot
    have hb := cell_lt h0
    have hadd : ∀ i, (⟨b, off, none⟩ : Addr).add i = ⟨b, off + i, none⟩ := fun i => by
      unfold Addr.add
      split
      · subst_vars; rfl
      · rfl
    rw [hadd] at hb
    unfold Ints Rd
    rw [hlen]
    refine ⟨by rw [icells_length, hlen], by omega, .inr ⟨b, off, cap, rfl, hl, hm, hb, fun j u hu => ?_⟩⟩
    have hj : j < len := by
      have := (List.getElem?_eq_some_iff.1 hu).1
      rw [icells_length, hlen] at this
      omega
    have h1 := icells_at (L := (List.range len).map q) (i := j) (by rw [hlen]; exact hj)
    rw [h1] at hu
    rw [← hadd, hq j hj, ← hu]
    simp [it, List.getD, hj]
end Go.Proofs.YtofeeenjlaljpaaGreat

/- An argument that is a list of Deductions. -/
namespace Go.Proofs.YtofeeenjlaljpaaGreat
open Go.RowKit


theorem argDd_of_trod {H : Type} {enc : TypeId × Value → H} {P : Program} {W : World} {sp : Nat → Bool} {held : Bool} {n : Nat} {t e ei es : TypeId} {f0 f1 f2 f3 f4 : Field} {v : Value} {y : DataW H × List MemPlace}
    (ht : P.underlying t = some (.slice e)) (he : P.underlying e = some (.struct #[f0, f1, f2, f3, f4])) (ce : P.cellsOf e = 5) (o0 : f0.offset = 0) (o1 : f1.offset = 1) (o2 : f2.offset = 2) (o3 : f3.offset = 3) (o4 : f4.offset = 4)
    (c0 : P.cellsOf f0.type = 1) (c1 : P.cellsOf f1.type = 1) (c2 : P.cellsOf f2.type = 1) (c3 : P.cellsOf f3.type = 1) (c4 : P.cellsOf f4.type = 1)
    (u0 : P.underlying f0.type = some (.int .i64)) (u1 : P.underlying f1.type = some (.slice ei)) (u2 : P.underlying f2.type = some (.slice es)) (u3 : P.underlying f3.type = some .string) (u4 : P.underlying f4.type = some (.int .i64))
    (ui : P.underlying ei = some (.int .i64)) (ci : P.cellsOf ei = 1) (us : P.underlying es = some .string) (cs : P.cellsOf es = 1) (h : DataW.trod enc P W 0 sp held n t [v] = some y) : ∃ xs, ArgDd W v xs := by
  rcases Go.Deep.open_slice ht h with ⟨hv, _⟩ | ⟨a, len, cap, m, k, D, Pl, hv, _, hl, hm, hmm, _, hcell⟩
  · obtain rfl : v = .slice none 0 0 := by simpa using hv
    exact ⟨[], ⟨none, 0, rfl, by simp⟩, fun h => absurd h (by simp), fun x hx => absurd hx (by simp)⟩
  · obtain rfl : v = .slice (some a) len cap := by simpa using hv
    have hlm : len ≤ m := by rw [hmm]; split <;> omega
    have hmax : maxLen = 9223372036854775807 := by decide
    rw [hmax] at hm
    have each : ∀ i, i < len → ∃ q : (Value × Value) × Dd, W.cell? (a.add (i * 5)) = some (.int .i64 q.2.1) ∧ W.cell? (a.add (i * 5 + 1)) = some q.1.1 ∧ W.cell? (a.add (i * 5 + 2)) = some q.1.2 ∧ W.cell? (a.add (i * 5 + 3)) = some (.string q.2.2.2.2.1) ∧ W.cell? (a.add (i * 5 + 4)) = some (.int .i64 q.2.2.2.2.2) ∧ ArgI W q.1.1 q.2.2.1 ∧ ArgS W q.1.2 q.2.2.2.1 ∧ q.2.2.2.2.1.size ≤ maxLen := fun i hi => by
      obtain ⟨cs', h1, h2⟩ := hcell i (by omega)
      rw [ce] at h1
      obtain ⟨_, hlen, hc⟩ := World.cells?_some h1
      obtain ⟨xs, k', hk, hxy, _, hxl, hf⟩ := DataW.trod_struct he h2
      match xs, hxl, cs', hlen with
      | [y0, y1, y2, y3, y4], _, [v0, v1, v2, v3, v4], _ =>
        have g0 := hf 0 f0 rfl
        have g1 := hf 1 f1 rfl
        have g2 := hf 2 f2 rfl
        have g3 := hf 3 f3 rfl
        have g4 := hf 4 f4 rfl
        simp [o0, o1, o2, o3, o4, c0, c1, c2, c3, c4] at g0 g1 g2 g3 g4
        have e0 := hc 0 (by omega)
        have e1 := hc 1 (by omega)
        have e2 := hc 2 (by omega)
        have e3 := hc 3 (by omega)
        have e4 := hc 4 (by omega)
        rw [Go.Deep.add_add] at e0 e1 e2 e3 e4
        obtain ⟨x, hx, _⟩ := DataW.trod_int u0 g0
        obtain ⟨L1, hL1⟩ := argI_of_trod u1 ui ci g1
        obtain ⟨L2, hL2⟩ := argS_of_trod u2 us cs g2
        obtain ⟨s, hs, _, hsz⟩ := DataW.trod_string u3 g3
        obtain ⟨z, hz, _⟩ := DataW.trod_int u4 g4
        obtain rfl : v0 = .int .i64 x := by simpa using hx
        obtain rfl : v3 = .string s := by simpa using hs
        obtain rfl : v4 = .int .i64 z := by simpa using hz
        exact ⟨((v1, v2), (x, L1, L2, s, z)), by simpa using e0, by simpa using e1, by simpa using e2, by simpa using e3, by simpa using e4, hL1, hL2, hsz⟩
    obtain ⟨q, hq⟩ := Go.Deep.choose_lt each
    have hlen : ((List.range len).map fun i => (q i).2).length = len := by simp
    refine ⟨(List.range len).map fun i => (q i).2, ⟨some a, cap, by rw [hlen], by rw [hlen]; omega⟩, fun hp => ?_, fun x hx => ?_⟩
    · rw [hlen] at hp
      obtain ⟨b, off, spot⟩ := a
      have h0 := (hq 0 (by omega)).1
      have hspot : spot = none := by simpa [Addr.add] using World.cell?_spot h0
      subst hspot
      have hb := cell_lt h0
      have hadd : ∀ i, (⟨b, off, none⟩ : Addr).add i = ⟨b, off + i, none⟩ := fun i => by
        unfold Addr.add
        split
        · subst_vars; rfl
        · rfl
      rw [hadd] at hb
      refine .inr ⟨b, off, cap, by rw [hlen], by rw [hlen]; exact hl, hm, hb, fun i x hx => ?_⟩
      have hi : i < len := by
        have := (List.getElem?_eq_some_iff.1 hx).1
        rw [hlen] at this
        exact this
      have hxe : x = (q i).2 := by
        rw [List.getElem?_map, List.getElem?_range hi] at hx
        simp at hx
        exact hx.symm
      subst hxe
      obtain ⟨e0, e1, e2, e3, e4, e5, e6, _⟩ := hq i hi
      rw [hadd] at e0 e1 e2 e3 e4
      exact ⟨_, _, ⟨e0, by rw [← e1, Nat.add_assoc], by rw [← e2, Nat.add_assoc], by rw [← e3, Nat.add_assoc], by rw [← e4, Nat.add_assoc]⟩, e5, e6⟩
    · rw [List.mem_map] at hx
      obtain ⟨i, hi, rfl⟩ := hx
      rw [← hmax]
      exact (hq i (by simpa using hi)).2.2.2.2.2.2.2
end Go.Proofs.YtofeeenjlaljpaaGreat

/- Which steps of a deduction are used. -/
namespace Go.Proofs.YtofeeenjlaljpaaGreat
open Go.RowKit

/-- A set of numbers with those of a list. -/
def orF (u : Nat → Bool) (L : List Int) : Nat → Bool := fun i => u i || decide ((i : Int) ∈ L)
/-- What is used, behind the m last of n steps with the premises P. -/
def usd (P : Nat → List Int) (n : Nat) : Nat → Nat → Bool
  | 0 => fun i => i == n - 1
  | m + 1 => if usd P n m (n - 1 - m) then orF (usd P n m) (P (n - 1 - m)) else usd P n m
theorem usd_yes {P : Nat → List Int} {n i : Nat} (hi : i < n) (h : usd P n (n - (i + 1)) i = true) : usd P n (n - i) = orF (usd P n (n - (i + 1))) (P i) := by
  have e : n - i = (n - (i + 1)) + 1 := by omega
  have e2 : n - 1 - (n - (i + 1)) = i := by omega
  rw [e]
  show (if usd P n (n - (i + 1)) (n - 1 - (n - (i + 1))) then _ else _) = _
  rw [e2, if_pos h]
theorem usd_no {P : Nat → List Int} {n i : Nat} (hi : i < n) (h : usd P n (n - (i + 1)) i = false) : usd P n (n - i) = usd P n (n - (i + 1)) := by
  have e : n - i = (n - (i + 1)) + 1 := by omega
  have e2 : n - 1 - (n - (i + 1)) = i := by omega
  rw [e]
  show (if usd P n (n - (i + 1)) (n - 1 - (n - (i + 1))) then _ else _) = _
  rw [e2, h]
  rfl
theorem orF_zero (u : Nat → Bool) (L : List Int) : orF u (L.take 0) = u := by
  funext i
  simp [orF]
theorem orF_succ {u : Nat → Bool} {L : List Int} {q p : Nat} (hq : q < L.length) (hp : it L q = (p : Int)) : orF u (L.take (q + 1)) = fun i => orF u (L.take q) i || i == p := by
  funext i
  unfold orF
  have e : L[q]? = some (it L q) := by rw [List.getElem?_eq_getElem hq]; exact congrArg some (by simp [it, List.getD, hq])
  rw [List.take_add_one, e, hp]
  have e2 : decide ((i : Int) ∈ L.take q ++ (some (p : Int)).toList) = (decide ((i : Int) ∈ L.take q) || i == p) := by
    by_cases h1 : (i : Int) ∈ L.take q
    · simp [h1]
    · by_cases h2 : i = p
      · simp [h2]
      · have h3 : ¬ ((i : Int) = (p : Int)) := by omega
        have h4 : (i == p) = false := by simpa using h2
        simp only [Option.toList_some, List.mem_append, List.mem_singleton]
        rw [decide_eq_false h1, h4, decide_eq_false (by intro h; rcases h with h | h; exact h1 h; exact h3 h)]
        rfl
  rw [e2, Bool.or_assoc]
/-- A block of Booleans. -/
def BRow (w : World) (g n : Nat) (u : Nat → Bool) : Prop := ∃ cur, w.heap[g]? = some (.cells cur 4 (0, 0)) ∧ cur.size = n ∧ ∀ i, i < n → cur[i]? = some (.bool (u i))
theorem BRow.lt {w : World} {g n : Nat} {u : Nat → Bool} (h : BRow w g n u) : g < w.heap.size := by
  obtain ⟨cur, h1, _⟩ := h
  exact blk_lt h1
theorem BRow.grew {w w' : World} {g n : Nat} {u : Nat → Bool} (h : BRow w g n u) (hg : Grew w w') : BRow w' g n u := by
  have hl := h.lt
  obtain ⟨cur, h1, h2, h3⟩ := h
  exact ⟨cur, (hg.block hl).trans h1, h2, h3⟩
theorem BRow.cell {w : World} {g n : Nat} {u : Nat → Bool} (h : BRow w g n u) {p : Nat} (hp : p < n) : w.cell? ⟨g, p, none⟩ = some (.bool (u p)) := by
  obtain ⟨cur, h1, h2, h3⟩ := h
  rw [blk_cell h1]
  exact h3 p hp
theorem BRow.free {w : World} {g n : Nat} {u : Nat → Bool} (h : BRow w g n u) (p : Nat) : w.frozen? ⟨g, p, none⟩ = false := by
  obtain ⟨cur, h1, h2, h3⟩ := h
  exact blk_frozen h1 p
theorem BRow.set {w : World} {g n : Nat} {u u' : Nat → Bool} (h : BRow w g n u) {p : Nat} (hp : p < n) (hu : u' = fun i => u i || i == p) : BRow (w.setCell ⟨g, p, none⟩ (.bool true)) g n u' := by
  obtain ⟨cur, h1, h2, h3⟩ := h
  refine ⟨_, blk_set h1 p _, by simp [h2], fun i hi => ?_⟩
  rw [Array.getElem?_setIfInBounds, hu]
  by_cases hip : p = i
  · subst hip
    rw [if_pos rfl, if_pos (by omega)]
    simp
  · rw [if_neg hip, h3 i hi]
    have : (i == p) = false := by simp; omega
    show some (Value.bool (u i)) = some (.bool (u i || i == p))
    rw [this, Bool.or_false]
theorem BRow.set_new {w : World} {cur : Array Value} {n : Nat} {u u' : Nat → Bool} (h : BRow (w.alloc (.cells cur 4)) w.heap.size n u) {p : Nat} (hp : p < n) (hu : u' = fun i => u i || i == p) : BRow (w.alloc (.cells (cur.setIfInBounds p (.bool true)) 4)) w.heap.size n u' := by
  obtain ⟨cur', h1, h2, h3⟩ := h
  have h4 := h1.symm.trans (blk_new w _)
  injection h4 with h4
  injection h4 with h5
  subst h5
  refine ⟨_, blk_new w _, by simp [h2], fun i hi => ?_⟩
  rw [Array.getElem?_setIfInBounds, hu]
  by_cases hip : p = i
  · subst hip
    rw [if_pos rfl, if_pos (by omega)]
    simp
  · rw [if_neg hip, h3 i hi]
    have : (i == p) = false := by simp; omega
    show some (Value.bool (u i)) = some (.bool (u i || i == p))
    rw [this, Bool.or_false]
/-- A slice of slices of numbers. -/
def LLs (w : World) (v : Value) (P : List (List Int)) : Prop :=
  (v = .slice none 0 0 ∧ P = []) ∨ ∃ b o c, v = .slice (some ⟨b, o, none⟩) P.length c ∧ P.length ≤ c ∧ c ≤ 9223372036854775807 ∧ b < w.heap.size ∧
    ∀ i L, P[i]? = some L → ∃ u, w.cell? ⟨b, o + i, none⟩ = some u ∧ Ints w u L
def GivesB (w : World) (n : Nat) (u : Nat → Bool) (e : Ending) (w' : World) : Prop := ∃ g, w.heap.size ≤ g ∧ e = .returned (.slice (some ⟨g, 0, none⟩) n n) ∧ BRow w' g n u ∧ Grew w w'
theorem made_b {n i : Nat} (hi : i < n) : (madeCells #[Value.bool false] n)[i]? = some (.bool false) := by
  have e := toList_madeCells_one (.bool false) n
  rw [← Array.getElem?_toList, e]
  simp [hi]
theorem infoBl : (Tryz.prog.info? 4).map (fun i => (i.zero, i.size, i.bytes)) = some (some (.bool false), 1, 1) := by kernel_rfl
set_option maxHeartbeats 4000000 in
theorem neededFor_c (v : Value) (PL : List (List Int)) (w : World) (h : LLs w v PL) (hn0 : PL.length ≠ 0) (hn : PL.length ≤ 1048576)
    (hk : ∀ (i : Nat) (L : List Int), PL[i]? = some L → ∀ q, q < L.length → 0 ≤ it L q ∧ it L q < (PL.length : Int)) :
    Calls Tryz.prog 93 #[v] w (GivesB w PL.length (usd (fun i => PL.getD i []) PL.length PL.length)) := by
  unfold GivesB
  rcases h with ⟨_, h0⟩ | ⟨b, o, c, rfl, hc, hm, hb, hcl⟩
  · rw [h0] at hn0; exact absurd rfl hn0
  have HC := Lib.hid hcl
  have HX := Lib.hid (fun j (hj : j < PL.length) => (⟨PL[j], List.getElem?_eq_getElem hj, by simp [List.getD, hj]⟩ : ∃ L, PL[j]? = some L ∧ PL.getD j [] = L))
  have HK := Lib.hid hk
  clear hcl hk
  have HUy := Lib.hid (fun i hi h => @usd_yes (fun i => PL.getD i []) PL.length i hi h)
  have HUn := Lib.hid (fun i hi h => @usd_no (fun i => PL.getD i []) PL.length i hi h)
  have HU0 : Hid (usd (fun i => PL.getD i []) PL.length 0 = fun i => i == PL.length - 1) := Lib.hid rfl
  have hmk := fun W => run_make_rows (P := Tryz.prog) 70 4 (.bool false) 1 1 #[.bool false] Tryz.underlying70 infoBl rfl .i64 .i64 PL.length (by omega) (by omega) W
  rw [Nat.mul_one] at hmk
  have hbr : BRow (w.alloc (.cells (madeCells #[Value.bool false] PL.length) 4)) w.heap.size PL.length (fun _ => false) := ⟨_, blk_new w _, size_madeCells _ _, fun i hi => made_b hi⟩
  have HBR := Lib.hid hbr
  have HAL := Lib.hid ((Grew.refl w).alloc (.cells (madeCells #[Value.bool false] PL.length) 4))
  clear hbr
  generalize madeCells #[Value.bool false] PL.length = cur0 at *
  generalize hgp : usd (fun i => PL.getD i []) PL.length = US at *
  clear hgp
  generalize hN : PL.length = n at *
  have f0 := HBR.out.cell (p := n - 1) (by omega)
  have f1 := HBR.out.free
  have i0 : (0 : Int) ≤ (n : Int) - 1 := by omega
  have i1 : (n : Int) - 1 < (n : Int) := by omega
  go_enter Tryz.func93, Tryz.ntmps93
  go_wp2_with fail
  go_loopw [4] (fun k wr => ∃ (j : Nat), j ≤ n ∧ k = .int .i64 ((j : Int) - 1) ∧ Hid (BRow wr w.heap.size n (US (n - j))) ∧ Grew w wr) (fun k _ => (intOf k + 1).toNat)
  case atStart =>
    refine ⟨n, Nat.le_refl _, rfl, ?_, (Grew.refl w).alloc _⟩
    rw [Nat.sub_self, HU0.out]
    exact Lib.hid (HBR.out.set_new (by omega) (by funext i; simp))
  clear f0 f1 i0 i1 hmk HBR HAL HU0
  case round =>
    obtain ⟨j, hj, rfl, hO, hB⟩ := hrel
    by_cases hlt : 0 < j
    · obtain ⟨i, rfl⟩ : ∃ i, j = i + 1 := ⟨j - 1, by omega⟩
      have e : (((i + 1 : Nat) : Int) - 1) = (i : Int) := by omega
      rw [e]
      obtain ⟨L, hL, hLe⟩ := HX.out i (by omega)
      obtain ⟨uv, hcu, hui⟩ := HC.out i L hL
      have hki := Lib.hid (HK.out i L hL)
      have hy := HUy.out i (by omega)
      have hno := HUn.out i (by omega)
      rw [hLe] at hy
      have z1 : ∀ W, Grew w W → W.cell? ⟨b, o + i, none⟩ = some uv := fun W hW => (hW.cell (p := ⟨b, o + i, none⟩) hb).trans hcu
      have hfree := hO.out.free
      have hcell := hO.out.cell (p := i) (by omega)
      have HUI := Lib.hid hui
      obtain ⟨A1, c1, rfl⟩ := ints_slice hui
      have i0 : (0 : Int) ≤ (i : Int) := by omega
      have i1 : (i : Int) < (n : Int) := by omega
      clear hcu hui hL hLe e
      generalize US (n - (i + 1)) = u at *
      cases hu : u i with
      | true =>
        rw [hu] at hcell
        have hyy := Lib.hid (hy hu)
        clear hy hno hu
        go_wp2_with fail
        go_loopw [31] (fun r wx => ∃ (q : Nat), q ≤ L.length ∧ r = .int .i64 q ∧ Hid (BRow wx w.heap.size n (orF u (L.take q))) ∧ Grew w wx) (fun r _ => L.length - (intOf r).toNat)
        case atStart => exact ⟨0, Nat.zero_le _, rfl, by rw [orF_zero]; exact hO, hB⟩
        clear hfree hcell hO hB
        case round =>
          obtain ⟨q, hq, rfl, hO2, hB2⟩ := hrel
          by_cases hlt2 : q < L.length
          · obtain ⟨hk0, hk1⟩ := hki.out q hlt2
            obtain ⟨p, hpe⟩ : ∃ p : Nat, it L q = p := ⟨(it L q).toNat, by omega⟩
            rcases HUI.out.open_ with ⟨_, h2⟩ | ⟨b1, o1, c1', hv1, hc1, hm1, hb1, hcl1⟩
            · rw [h2] at hlt2; simp at hlt2
            obtain ⟨rfl, rfl⟩ : A1 = some ⟨b1, o1, none⟩ ∧ c1 = c1' := by simpa using hv1
            have z2 := hcl1 q hlt2 _ hB2
            rw [hpe] at z2
            have y0 := hO2.out.cell (p := p) (by omega)
            have y1 := hO2.out.free
            have j0 : (0 : Int) ≤ (p : Int) := by omega
            have j1 : (p : Int) < (n : Int) := by omega
            have hnx := Lib.hid (hO2.out.set (show p < n by omega) (orF_succ (u := u) hlt2 hpe))
            clear hcl1 hv1 hk0 hk1 hpe
            go_wp2_with fail
            go_roundw
            case rel => exact ⟨q + 1, by omega, by go_num, hnx, hB2.setCell (Nat.le_refl _) _⟩
            case measure => simp [intOf]; omega
          · obtain rfl : q = L.length := by omega
            rw [List.take_length] at hO2
            go_wp2_with fail
            go_roundw
            case rel => exact ⟨i, by omega, by go_num, by rw [hyy.out]; exact hO2, hB2⟩
            case measure => first | (simp [intOf]; done) | (simp [intOf]; omega)
      | false =>
        rw [hu] at hcell
        have hyy := Lib.hid (hno hu)
        clear hy hno hu
        go_wp2_with fail
        go_roundw
        case rel => exact ⟨i, by omega, by go_num, by rw [hyy.out]; exact hO, hB⟩
        case measure => first | (simp [intOf]; done) | (simp [intOf]; omega)
    · obtain rfl : j = 0 := by omega
      rw [Nat.sub_zero] at hO
      go_wp2_with fail
      go_ret
      exact ⟨_, Nat.le_refl _, rfl, hO.out, hB⟩
end Go.Proofs.YtofeeenjlaljpaaGreat

/- Sorting numbers and dropping repeats: the ascending list of them. No program is in sight. -/
namespace Go.Proofs.YtofeeenjlaljpaaGreat
open Go.RowKit Go.Sort

theorem upTo_lt (d : Array Int) (hs : ∀ i j, i ≤ j → j < d.size → d[i]! ≤ d[j]!) : ∀ m, m ≤ d.size → (Lib.compactUpTo d m).Pairwise (· < ·) ∧ (∀ x ∈ Lib.compactUpTo d m, ∃ i, i < m ∧ x = d[i]!) ∧ (∀ i, i < m → d[i]! ∈ Lib.compactUpTo d m)
  | 0, _ => ⟨by simp [Lib.compactUpTo], fun x hx => by simp [Lib.compactUpTo] at hx, fun i hi => by omega⟩
  | m + 1, hm => by
    obtain ⟨h1, h2, h3⟩ := upTo_lt d hs m (by omega)
    rw [Lib.compactUpTo_succ]
    by_cases hk : Lib.keeps d m = true
    · rw [if_pos hk]
      have hlt : ∀ i, i < m → d[i]! < d[m]! := fun i hi => by
        have h4 := hs i (m - 1) (by omega) (by omega)
        have h5 := hs (m - 1) m (by omega) (by omega)
        have h6 : ¬ d[m]! = d[m - 1]! := fun e => by
          rw [Lib.keeps_neg (by omega) e] at hk
          cases hk
        omega
      refine ⟨?_, fun x hx => ?_, fun i hi => ?_⟩
      · rw [List.pairwise_append]
        refine ⟨h1, List.pairwise_singleton _ _, fun x hx y hy => ?_⟩
        obtain ⟨i, hi, rfl⟩ := h2 x hx
        obtain rfl : y = d[m]! := by simpa using hy
        exact hlt i hi
      · rcases List.mem_append.1 hx with hx | hx
        · obtain ⟨i, hi, rfl⟩ := h2 x hx
          exact ⟨i, by omega, rfl⟩
        · exact ⟨m, by omega, by simpa using hx⟩
      · by_cases hi2 : i < m
        · exact List.mem_append_left _ (h3 i hi2)
        · obtain rfl : i = m := by omega
          simp
    · rw [if_neg hk, List.append_nil]
      refine ⟨h1, fun x hx => ?_, fun i hi => ?_⟩
      · obtain ⟨i, hi, rfl⟩ := h2 x hx
        exact ⟨i, by omega, rfl⟩
      · by_cases hi2 : i < m
        · exact h3 i hi2
        · obtain rfl : i = m := by omega
          by_cases h0 : i = 0
          · subst h0
            exact absurd (Lib.keeps_lt_one d 0 (by omega)) hk
          · have : d[i]! = d[i - 1]! := by
              by_cases e : d[i]! = d[i - 1]!
              · exact e
              · exact absurd (Lib.keeps_pos e) hk
            rw [this]
            exact h3 (i - 1) (by omega)

theorem arr_get {L : List Int} {i : Nat} (h : i < L.length) : L.toArray[i]! = L[i] := by
  rw [getElem!_pos L.toArray i (by simpa using h)]
  simp
/-- Numbers in ascending order, each once. -/
def srt (L : List Int) : List Int := Lib.compact (L.mergeSort fun x y => decide (x ≤ y))
theorem sorted_at {L : List Int} (h : L.Pairwise (· ≤ ·)) {i j : Nat} (hij : i ≤ j) (hj : j < L.toArray.size) : L.toArray[i]! ≤ L.toArray[j]! := by
  have hj2 : j < L.length := by simpa using hj
  by_cases e : i = j
  · subst e; omega
  · have := List.pairwise_iff_getElem.1 h i j (by omega) hj2 (by omega)
    have h1 : L.toArray[i]! = L[i]'(by omega) := arr_get (by omega)
    have h2 : L.toArray[j]! = L[j]'(by omega) := arr_get hj2
    rw [h1, h2]
    exact this
theorem merge_sorted (L : List Int) : (L.mergeSort fun x y => decide (x ≤ y)).Pairwise (· ≤ ·) := by
  have h := List.pairwise_mergeSort (le := fun x y : Int => decide (x ≤ y)) (fun a b c h1 h2 => by simp at h1 h2 ⊢; omega) (fun a b => by simp; omega) L
  exact h.imp (fun h => by simpa using h)
theorem srt_lt (L : List Int) : (srt L).Pairwise (· < ·) :=
  (upTo_lt _ (fun _ _ h1 h2 => sorted_at (merge_sorted L) h1 h2) _ (by simp)).1
theorem srt_mem (L : List Int) (x : Int) : x ∈ srt L ↔ x ∈ L := by
  obtain ⟨_, h2, h3⟩ := upTo_lt (L.mergeSort fun x y => decide (x ≤ y)).toArray (fun _ _ h1 h2 => sorted_at (merge_sorted L) h1 h2) (L.mergeSort fun x y => decide (x ≤ y)).length (by simp)
  have hp := (List.mergeSort_perm L fun x y => decide (x ≤ y)).mem_iff (a := x)
  rw [← hp]
  constructor
  · intro h
    obtain ⟨i, hi, rfl⟩ := h2 x h
    have : (L.mergeSort fun x y => decide (x ≤ y)).toArray[i]! = (L.mergeSort fun x y => decide (x ≤ y))[i] := arr_get hi
    rw [this]
    exact List.getElem_mem _
  · intro h
    obtain ⟨i, hi, he⟩ := List.getElem_of_mem h
    have := h3 i hi
    have e : (L.mergeSort fun x y => decide (x ≤ y)).toArray[i]! = (L.mergeSort fun x y => decide (x ≤ y))[i] := arr_get hi
    rw [e, he] at this
    exact this
theorem srt_nil : srt [] = [] := by simp [srt, Lib.compact, Lib.compactUpTo]
theorem srt_len (L : List Int) : (srt L).length ≤ L.length := by
  unfold srt
  have := Lib.compact_length_le (L.mergeSort fun x y => decide (x ≤ y))
  rwa [List.length_mergeSort] at this
/-- Ascending lists with the same members are the same. -/
theorem asc_ext : ∀ {L M : List Int}, L.Pairwise (· < ·) → M.Pairwise (· < ·) → (∀ x, x ∈ L ↔ x ∈ M) → L = M
  | [], [], _, _, _ => rfl
  | [], b :: M, _, _, h => absurd ((h b).2 (by simp)) (by simp)
  | a :: L, [], _, _, h => absurd ((h a).1 (by simp)) (by simp)
  | a :: L, b :: M, h1, h2, h => by
    obtain ⟨h3, h4⟩ := List.pairwise_cons.1 h1
    obtain ⟨h5, h6⟩ := List.pairwise_cons.1 h2
    have hab : a = b := by
      have ha := (h a).1 (by simp)
      have hb := (h b).2 (by simp)
      rcases List.mem_cons.1 ha with e | ha
      · exact e
      rcases List.mem_cons.1 hb with e | hb
      · exact e.symm
      have := h5 a ha
      have := h3 b hb
      omega
    subst hab
    congr 1
    refine asc_ext h4 h6 fun x => ⟨fun hx => ?_, fun hx => ?_⟩
    · rcases List.mem_cons.1 ((h x).1 (List.mem_cons_of_mem _ hx)) with e | hx2
      · have := h3 x hx; omega
      · exact hx2
    · rcases List.mem_cons.1 ((h x).2 (List.mem_cons_of_mem _ hx)) with e | hx2
      · have := h5 x hx; omega
      · exact hx2
/-- The numbers below n of a kind. -/
def below (n : Nat) (p : Nat → Bool) : List Int := ((List.range n).filter p).map fun i : Nat => (i : Int)
theorem below_zero (p : Nat → Bool) : below 0 p = [] := rfl
theorem below_yes {n : Nat} {p : Nat → Bool} (h : p n = true) : below (n + 1) p = below n p ++ [(n : Int)] := by
  unfold below
  rw [List.range_succ, List.filter_append, List.map_append, List.filter_cons, h]
  rfl
theorem below_no {n : Nat} {p : Nat → Bool} (h : p n = false) : below (n + 1) p = below n p := by
  unfold below
  rw [List.range_succ, List.filter_append, List.map_append, List.filter_cons, h]
  simp
theorem below_len (n : Nat) (p : Nat → Bool) : (below n p).length ≤ n := by
  unfold below
  rw [List.length_map]
  have := List.length_filter_le p (List.range n)
  rwa [List.length_range] at this
theorem below_lt (n : Nat) (p : Nat → Bool) : (below n p).Pairwise (· < ·) := by
  unfold below
  rw [List.pairwise_map]
  exact ((List.pairwise_lt_range (n := n)).filter p).imp (fun h => by omega)
theorem below_mem (n : Nat) (p : Nat → Bool) (x : Int) : x ∈ below n p ↔ ∃ i : Nat, i < n ∧ p i = true ∧ x = (i : Int) := by
  unfold below
  simp only [List.mem_map, List.mem_filter, List.mem_range]
  constructor
  · rintro ⟨i, ⟨h1, h2⟩, rfl⟩; exact ⟨i, h1, h2, rfl⟩
  · rintro ⟨i, h1, h2, rfl⟩; exact ⟨i, ⟨h1, h2⟩, rfl⟩
theorem srt_below {L : List Int} {n : Nat} {p : Nat → Bool} (h1 : ∀ x ∈ L, 0 ≤ x ∧ x < (n : Int)) (h2 : ∀ i, i < n → (p i = true ↔ (i : Int) ∈ L)) : srt L = below n p := by
  refine asc_ext (srt_lt L) (below_lt n p) fun x => ?_
  rw [srt_mem, below_mem]
  constructor
  · intro hx
    have := h1 x hx
    have e : ((x.toNat : Nat) : Int) = x := by omega
    exact ⟨x.toNat, by omega, (h2 _ (by omega)).2 (by rw [e]; exact hx), e.symm⟩
  · rintro ⟨i, hi, hp, rfl⟩
    exact (h2 i hi).1 hp

end Go.Proofs.YtofeeenjlaljpaaGreat

/- What UsedAssumptions answers. No program is in sight. -/
namespace Go.Proofs.YtofeeenjlaljpaaGreat
open Go.RowKit

/-- Which steps are used. -/
def uu (xs : List Dd) : Nat → Bool := usd (fun i => (xs.getD i dd0).2.1) xs.length xs.length
/-- A used step that is an assumption of the result. -/
def uaP (U : Nat → Bool) (M k : Nat) (x : Dd) : Bool := U k && x.1 == 1 && decide (x.2.2.2.2 < (M : Int))
def uaL (U : Nat → Bool) (M : Nat) (xs : List Dd) (j : Nat) : List Int := ((List.range j).filter fun k => uaP U M k (xs.getD k dd0)).map fun k => (xs.getD k dd0).2.2.2.2
theorem uaL_yes {U : Nat → Bool} {M : Nat} {xs : List Dd} {j : Nat} {x : Dd} (hx : xs[j]? = some x) (h : uaP U M j x = true) : uaL U M xs (j + 1) = uaL U M xs j ++ [x.2.2.2.2] := by
  have e : xs.getD j dd0 = x := by simp [List.getD, hx]
  unfold uaL
  rw [List.range_succ, List.filter_append, List.map_append, List.filter_cons]
  simp only [e, h]
  simp [hx]
theorem uaL_no {U : Nat → Bool} {M : Nat} {xs : List Dd} {j : Nat} {x : Dd} (hx : xs[j]? = some x) (h : uaP U M j x = false) : uaL U M xs (j + 1) = uaL U M xs j := by
  have e : xs.getD j dd0 = x := by simp [List.getD, hx]
  unfold uaL
  rw [List.range_succ, List.filter_append, List.map_append, List.filter_cons]
  simp only [e, h]
  simp
theorem uaL_len (U : Nat → Bool) (M : Nat) (xs : List Dd) (j : Nat) : (uaL U M xs j).length ≤ j := by
  unfold uaL
  rw [List.length_map]
  have := List.length_filter_le (fun k => uaP U M k (xs.getD k dd0)) (List.range j)
  rwa [List.length_range] at this
/-- Is there a used assumption with a number? -/
def fndP (U : Nat → Bool) (m k : Nat) (x : Dd) : Bool := U k && x.1 == 1 && x.2.2.2.2 == (m : Int)
def fnd (U : Nat → Bool) (xs : List Dd) (j m : Nat) : Bool := (List.range j).any fun k => fndP U m k (xs.getD k dd0)
theorem fnd_zero (U : Nat → Bool) (xs : List Dd) (m : Nat) : fnd U xs 0 m = false := rfl
theorem fnd_succ {U : Nat → Bool} {xs : List Dd} {j m : Nat} {x : Dd} (hx : xs[j]? = some x) : fnd U xs (j + 1) m = (fnd U xs j m || fndP U m j x) := by
  unfold fnd
  rw [List.range_succ, List.any_append]
  simp [hx]
noncomputable def uaF (xs : List Dd) : List Int × Int := if dcode [xs] = 0 then (below (lst xs).2.2.1.length (fnd (uu xs) xs xs.length), 0) else ([], dcode [xs])
theorem good_num {xs : List Dd} (h : fbd xs xs.length = -1) {i : Nat} {x : Dd} (hx : xs[i]? = some x) (h1 : x.1 = 1) : 0 ≤ x.2.2.2.2 := by
  obtain ⟨y, hy, hg⟩ := fbd_all h i (List.getElem?_eq_some_iff.1 hx).1
  rw [hx] at hy
  obtain rfl := Option.some.inj hy
  rcases hg.2.2 with hi | he
  · rcases hi with ⟨_, hn, _⟩ | ⟨h2, _⟩ | ⟨h2, _⟩ | ⟨h2, _⟩ | ⟨h2, _⟩ | ⟨h2, _⟩
    · exact hn.1
    all_goals omega
  · rcases he with ⟨h2, _⟩ | ⟨h2, _⟩ | ⟨h2, _⟩ | ⟨h2, _⟩
    all_goals omega
theorem srt_uaL {xs : List Dd} (h : fbd xs xs.length = -1) (U : Nat → Bool) (M : Nat) : srt (uaL U M xs xs.length) = below M (fnd U xs xs.length) := by
  have hget : ∀ k, k < xs.length → xs[k]? = some (xs.getD k dd0) := fun k hk => by simp [List.getD, hk]
  refine srt_below (fun x hx => ?_) (fun i hi => ?_)
  · unfold uaL at hx
    obtain ⟨k, hk, rfl⟩ := List.mem_map.1 hx
    obtain ⟨hk1, hk2⟩ := List.mem_filter.1 hk
    have hk3 := List.mem_range.1 hk1
    unfold uaP at hk2
    simp only [Bool.and_eq_true, beq_iff_eq, decide_eq_true_eq] at hk2
    exact ⟨good_num h (hget k hk3) hk2.1.2, hk2.2⟩
  · unfold fnd uaL
    rw [List.any_eq_true, List.mem_map]
    unfold fndP uaP
    constructor
    · rintro ⟨k, hk, he⟩
      simp only [Bool.and_eq_true, beq_iff_eq] at he
      refine ⟨k, List.mem_filter.2 ⟨hk, ?_⟩, he.2⟩
      simp only [Bool.and_eq_true, beq_iff_eq, decide_eq_true_eq]
      exact ⟨he.1, by rw [he.2]; omega⟩
    · rintro ⟨k, hk, he⟩
      obtain ⟨hk1, hk2⟩ := List.mem_filter.1 hk
      simp only [Bool.and_eq_true, beq_iff_eq, decide_eq_true_eq] at hk2
      refine ⟨k, hk1, ?_⟩
      simp only [Bool.and_eq_true, beq_iff_eq]
      exact ⟨hk2.1, he⟩
theorem uaF_len {xs : List Dd} (hf : FitsDd xs) : (uaF xs).1.length ≤ 1048576 := by
  unfold uaF
  split
  · rename_i h
    obtain ⟨h1, _⟩ := dcode_zero h
    have h2 := (hf _ (lst_mem h1)).2.1
    have := below_len (lst xs).2.2.1.length (fnd (uu xs) xs xs.length)
    exact Nat.le_trans this h2
  · simp
end Go.Proofs.YtofeeenjlaljpaaGreat

/- Contracts of the library (sorting, compacting strings), laid at this program. -/
namespace Go.Proofs
open Go.Shelf
def Tryz.laysCmpI_ren : Go.Shelf.Ren := ⟨fun | 43 => 70 | n => n, fun | 22 => 34 | 23 => 2 | 3 => 3 | 4 => 4 | 0 => 0 | n => n, fun | n => n⟩
theorem Tryz.laysCmpI : Go.Proofs.SlLaysN.n43 Tryz.prog Tryz.laysCmpI_ren := {
  mixed := by kernel_rfl
  f43 := ⟨Tryz.f70.name, by decide, Tryz.func70.trans (congrArg some (by kernel_rfl))⟩
  t0 := Tryz.underlying0
  a0 := Tryz.isAgg0
  z0 := Tryz.sizeOf0
  v0 := Tryz.zeroValue0
  t3 := Tryz.underlying3
  a3 := Tryz.isAgg3
  z3 := Tryz.sizeOf3
  v3 := Tryz.zeroValue3
  t4 := Tryz.underlying4
  a4 := Tryz.isAgg4
  z4 := Tryz.sizeOf4
  v4 := Tryz.zeroValue4
  t22 := Tryz.underlying34
  a22 := Tryz.isAgg34
  z22 := Tryz.sizeOf34
  v22 := Tryz.zeroValue34
  t23 := Tryz.underlying2
  a23 := Tryz.isAgg2
  z23 := Tryz.sizeOf2
  v23 := Tryz.zeroValue2
  i23 := by kernel_rfl }
open Go.RowKit Go.Lib Go.Sort in
theorem Tryz.slices_Compact_int_arr (blk off cap : Nat) (d : Array Int) (w : World) (hH : Holds encI w blk off d) (hsz : d.size ≤ 9223372036854775807) (hcap : d.size ≤ cap) :
    Calls Tryz.prog 70 #[.slice (some ⟨blk, off, none⟩) d.size cap] w fun e w' => e = .returned (.slice (some ⟨blk, off, none⟩) (compactUpTo d d.size).length cap) ∧ ∃ q, w' = putRow encI (Sort.ahead w q) blk off (compactUpTo d d.size ++ List.replicate (d.size - (compactUpTo d d.size).length) 0).toArray := AnyG.slices_Compact_int_arr Tryz.laysCmpI blk off cap d w hH hsz hcap
open Go.RowKit Go.Lib Go.Sort in
theorem Tryz.slices_Compact_int (blk off cap : Nat) (zs : List Int) (w : World) (hH : Holds (Value.int .i64) w blk off zs.toArray) (hsz : zs.length ≤ 9223372036854775807) (hcap : zs.length ≤ cap) :
    Calls Tryz.prog 70 #[.slice (some ⟨blk, off, none⟩) zs.length cap] w fun e w' => e = .returned (.slice (some ⟨blk, off, none⟩) (Lib.compact zs).length cap) ∧ ∃ q, w' = putRow (Value.int .i64) (Sort.ahead w q) blk off (Lib.compact zs ++ List.replicate (zs.length - (Lib.compact zs).length) 0).toArray := AnyG.slices_Compact_int Tryz.laysCmpI blk off cap zs w hH hsz hcap
open Go.RowKit Go.Lib Go.Sort in
theorem Tryz.slices_Compact_int_empty (a : Option Addr) (cap : Nat) (w : World) :
    Calls Tryz.prog 70 #[.slice a 0 cap] w fun e w' => e = .returned (.slice a 0 cap) ∧ w' = w := AnyG.slices_Compact_int_empty Tryz.laysCmpI a cap w
def Tryz.laysSortI_ren : Go.Shelf.Ren := ⟨fun | 5 => 69 | 8 => 101 | 7 => 100 | 19 => 130 | 20 => 131 | 10 => 121 | 11 => 122 | 12 => 123 | 13 => 124 | 14 => 125 | 15 => 126 | 16 => 127 | 17 => 128 | 18 => 129 | 30 => 151 | 31 => 152 | 32 => 153 | 33 => 154 | 34 => 155 | 35 => 156 | 40 => 166 | n => n, fun | 23 => 34 | 25 => 2 | 3 => 3 | 32 => 103 | 22 => 34 | 0 => 0 | 44 => 129 | 46 => 131 | 4 => 4 | 36 => 121 | 35 => 120 | 41 => 126 | 5 => 5 | 9 => 9 | 53 => 145 | 57 => 149 | 63 => 161 | 64 => 162 | n => n, fun | n => n⟩
theorem Tryz.laysSortI : Go.Proofs.SlLaysM.n5 Tryz.prog Tryz.laysSortI_ren := {
  mixed := by kernel_rfl
  f5 := ⟨Tryz.f69.name, by decide, Tryz.func69.trans (congrArg some (by kernel_rfl))⟩
  f7 := ⟨Tryz.f100.name, by decide, Tryz.func100.trans (congrArg some (by kernel_rfl))⟩
  f8 := Tryz.func101.trans (congrArg some (by kernel_rfl))
  f10 := ⟨Tryz.f121.name, by decide, Tryz.func121.trans (congrArg some (by kernel_rfl))⟩
  f11 := ⟨Tryz.f122.name, by decide, Tryz.func122.trans (congrArg some (by kernel_rfl))⟩
  f12 := ⟨Tryz.f123.name, by decide, Tryz.func123.trans (congrArg some (by kernel_rfl))⟩
  f13 := ⟨Tryz.f124.name, by decide, Tryz.func124.trans (congrArg some (by kernel_rfl))⟩
  f14 := ⟨Tryz.f125.name, by decide, Tryz.func125.trans (congrArg some (by kernel_rfl))⟩
  f15 := ⟨Tryz.f126.name, by decide, Tryz.func126.trans (congrArg some (by kernel_rfl))⟩
  f16 := ⟨Tryz.f127.name, by decide, Tryz.func127.trans (congrArg some (by kernel_rfl))⟩
  f17 := ⟨Tryz.f128.name, by decide, Tryz.func128.trans (congrArg some (by kernel_rfl))⟩
  f18 := ⟨Tryz.f129.name, by decide, Tryz.func129.trans (congrArg some (by kernel_rfl))⟩
  f19 := Tryz.func130.trans (congrArg some (by kernel_rfl))
  f20 := Tryz.func131.trans (congrArg some (by kernel_rfl))
  f30 := ⟨Tryz.f151.name, by decide, Tryz.func151.trans (congrArg some (by kernel_rfl))⟩
  f31 := Tryz.func152.trans (congrArg some (by kernel_rfl))
  f32 := Tryz.func153.trans (congrArg some (by kernel_rfl))
  f33 := ⟨Tryz.f154.name, by decide, Tryz.func154.trans (congrArg some (by kernel_rfl))⟩
  f34 := ⟨Tryz.f155.name, by decide, Tryz.func155.trans (congrArg some (by kernel_rfl))⟩
  f35 := ⟨Tryz.f156.name, by decide, Tryz.func156.trans (congrArg some (by kernel_rfl))⟩
  f40 := ⟨Tryz.f166.name, by decide, Tryz.func166.trans (congrArg some (by kernel_rfl))⟩
  t0 := Tryz.underlying0
  a0 := Tryz.isAgg0
  z0 := Tryz.sizeOf0
  v0 := Tryz.zeroValue0
  t3 := Tryz.underlying3
  a3 := Tryz.isAgg3
  z3 := Tryz.sizeOf3
  v3 := Tryz.zeroValue3
  t4 := Tryz.underlying4
  a4 := Tryz.isAgg4
  z4 := Tryz.sizeOf4
  v4 := Tryz.zeroValue4
  t5 := Tryz.underlying5
  a5 := Tryz.isAgg5
  z5 := Tryz.sizeOf5
  v5 := Tryz.zeroValue5
  t9 := Tryz.underlying9
  a9 := Tryz.isAgg9
  z9 := Tryz.sizeOf9
  v9 := Tryz.zeroValue9
  t22 := Tryz.underlying34
  a22 := Tryz.isAgg34
  z22 := Tryz.sizeOf34
  v22 := Tryz.zeroValue34
  t23 := Tryz.underlying34
  a23 := Tryz.isAgg34
  z23 := Tryz.sizeOf34
  v23 := Tryz.zeroValue34
  t25 := Tryz.underlying2
  a25 := Tryz.isAgg2
  z25 := Tryz.sizeOf2
  v25 := Tryz.zeroValue2
  t32 := Tryz.underlying103
  a32 := Tryz.isAgg103
  z32 := Tryz.sizeOf103
  v32 := Tryz.zeroValue103
  t35 := Tryz.underlying120
  a35 := Tryz.isAgg120
  z35 := Tryz.sizeOf120
  v35 := Tryz.zeroValue120
  t36 := Tryz.underlying121
  a36 := Tryz.isAgg121
  z36 := Tryz.sizeOf121
  v36 := Tryz.zeroValue121
  t41 := Tryz.underlying126
  a41 := Tryz.isAgg126
  z41 := Tryz.sizeOf126
  v41 := Tryz.zeroValue126
  t44 := Tryz.underlying129
  a44 := Tryz.isAgg129
  z44 := Tryz.sizeOf129
  v44 := Tryz.zeroValue129
  t46 := Tryz.underlying131
  a46 := Tryz.isAgg131
  z46 := Tryz.sizeOf131
  v46 := Tryz.zeroValue131
  t53 := Tryz.underlying145
  a53 := Tryz.isAgg145
  z53 := Tryz.sizeOf145
  v53 := Tryz.zeroValue145
  t57 := Tryz.underlying149
  a57 := Tryz.isAgg149
  z57 := Tryz.sizeOf149
  v57 := Tryz.zeroValue149
  t63 := Tryz.underlying161
  a63 := Tryz.isAgg161
  z63 := Tryz.sizeOf161
  v63 := Tryz.zeroValue161
  t64 := Tryz.underlying162
  a64 := Tryz.isAgg162
  z64 := Tryz.sizeOf162
  v64 := Tryz.zeroValue162 }
open Go.Sort Go.RowKit in
theorem Tryz.slices_Sort_int (blk off cap : Nat) (zs : List Int) (w : World) (hH : Holds (Value.int .i64) w blk off zs.toArray) (hblk : blk < w.heap.size) (hsz : zs.length < 4611686018427387904) :
    Calls Tryz.prog 69 #[.slice (some ⟨blk, off, none⟩) zs.length cap] w fun e w' =>
      e = .returned (.tuple #[]) ∧ ∃ n os, w' = grow (putRow (Value.int .i64) (Sort.ahead w n) blk off (zs.mergeSort fun x y => decide (x ≤ y)).toArray) os := AnyM.slices_Sort_int Tryz.laysSortI blk off cap zs w hH hblk hsz
open Go.RowKit Go.Sort in
theorem Tryz.slices_Sort_int_none (p : Option Addr) (cap : Nat) (w : World) :
    Calls Tryz.prog 69 #[.slice p 0 cap] w fun e w' => e = .returned (.tuple #[]) ∧ w' = w := AnyM.slices_Sort_int_none Tryz.laysSortI p cap w
end Go.Proofs

/- slices.Sort and slices.Compact of numbers, on a row of the call's own. -/
namespace Go.Proofs.YtofeeenjlaljpaaGreat
open Go.RowKit Go.Sort

theorem sortI_c (w0 W : World) (v : Value) (L : List Int) (hg : Grew w0 W) (h : OwnI W w0.heap.size v L) (hn : L.length ≤ 1099511627776) :
    Calls Tryz.prog 69 #[v] W fun e W1 => e = .returned (.tuple #[]) ∧ OwnI W1 w0.heap.size v (L.mergeSort fun x y => decide (x ≤ y)) ∧ Grew w0 W1 := by
  rcases h.2 with ⟨rfl, h0⟩ | ⟨g, cap, cur, rfl, hbase, hb, h1, h2, h3, h4⟩
  · obtain rfl := List.eq_nil_of_length_eq_zero h0
    refine (Tryz.slices_Sort_int_none none 0 W).mono fun e W1 hh => ?_
    obtain ⟨h5, h6⟩ := hh
    subst h6
    refine ⟨h5, ?_, hg⟩
    simpa using h
  · have hH := holds_of_blockI hb (by simpa [icells] using h4)
    refine (Tryz.slices_Sort_int g 0 cap L W hH (blk_lt hb) (by omega)).mono fun e W1 hh => ?_
    obtain ⟨h5, n, os, h6⟩ := hh
    subst h6
    have hl2 : (L.mergeSort fun x y => decide (x ≤ y)).length = L.length := List.length_mergeSort L
    refine ⟨h5, ?_, Below.grown hg (grownBy_sortedI _) hg.size (fun j hj => by cases hj; exact hbase)⟩
    have hs := ownsRow_sortedI (n := n) (os := os) (ts := L.mergeSort fun x y => decide (x ≤ y)) hl2 hbase hb h1 h2 h3
    unfold OwnI icells
    rw [hl2]
    exact hs
theorem compactI_c (w0 W : World) (v : Value) (L : List Int) (hg : Grew w0 W) (h : OwnI W w0.heap.size v L) (hn : L.length ≤ 1099511627776) :
    Calls Tryz.prog 70 #[v] W fun e W1 => ∃ u, e = .returned u ∧ OwnI W1 w0.heap.size u (Lib.compact L) ∧ Grew w0 W1 := by
  rcases h.2 with ⟨rfl, h0⟩ | ⟨g, cap, cur, rfl, hbase, hb, h1, h2, h3, h4⟩
  · obtain rfl := List.eq_nil_of_length_eq_zero h0
    refine (Tryz.slices_Compact_int_empty none 0 W).mono fun e W1 hh => ?_
    obtain ⟨h5, h6⟩ := hh
    subst h6
    refine ⟨_, h5, ?_, hg⟩
    simpa [Lib.compact, Lib.compactUpTo] using h
  · have hH := holds_of_blockI hb (by simpa [icells] using h4)
    refine (Tryz.slices_Compact_int g 0 cap L W hH (by omega) h1).mono fun e W1 hh => ?_
    obtain ⟨h5, q, h6⟩ := hh
    subst h6
    have hle := Lib.compact_length_le L
    have ho : W.ownsRow w0.heap.size 2 1 (.slice (some ⟨g, 0, none⟩) L.length cap) L.length (L.map (Value.int .i64)) := h
    have hc := Lib.ownsRow_putRow (q := q) (k := (Lib.compact L).length) (ys := Lib.compact L ++ List.replicate (L.length - (Lib.compact L).length) 0) ho (by simp; omega) (by omega)
    rw [List.take_left] at hc
    exact ⟨_, h5, hc, Lib.below_putRow hg hbase⟩
end Go.Proofs.YtofeeenjlaljpaaGreat

/- neededSteps, l25Used: which steps of a deduction are used. -/
namespace Go.Proofs.YtofeeenjlaljpaaGreat
open Go.RowKit

/-- A row of slices of numbers of the call's own. -/
def OwnW (w : World) (B : Nat) (v : Value) (us : List Value) : Prop := w.ownsRow B 34 1 v us.length us
theorem infoIs : (Tryz.prog.info? 34).map (fun i => (i.zero, i.size, i.bytes)) = some (some (.slice none 0 0), 1, 24) := by kernel_rfl
theorem wpList_appW {ops : Array Oper} {rest : List Oper} {o : Oper} {a : Act} {Q : Exit → Act → World → Prop} {w w0 : World} (s x : Operand) (hgd : o.guard = none)
    (ho : o.op = .call { callee := .builtin .append, args := #[s, x], argTypes := #[96, 96] })
    (v : Value) (us : List Value) (hs : a.eval s = v) (hown : OwnW w w0.heap.size v us) (hg : Grew w0 w) (vx u : Value) (hx : a.eval x = vx) (hr : Rd w 1 vx 1 [u]) (h1 : u.oneCell' = true) (hn : us.length ≤ 1048576)
    (h : ∀ v' w', OwnW w' w0.heap.size v' (us ++ [u]) → Grew w0 w' → wpList Tryz.prog ops Q rest (a.put o.dst v') w') : wpList Tryz.prog ops Q (o :: rest) a w := by
  obtain ⟨i0, hi0, hz0, hz1, hz2⟩ := info_parts infoIs
  refine wpList_append_rd w hgd s x _ ho w0.heap.size 34 i0 _ 1 24 Tryz.underlying96 hi0 hz0 hz1 hz2 rfl (by omega) v us.length us hs hown vx 1 [u] hx hr (by simpa using h1) (by unfold maxLen; omega) (by omega) hg.size ?_
  intro v' w' h1 h2 h3
  refine h v' w' ?_ (hg.grown h2 fun k hk => (hown.lt k hk).1)
  unfold OwnW
  rw [List.length_append]
  exact h1
theorem rd_litb (w : World) {g : Nat} (hg : g = w.heap.size) (u : Value) (t : TypeId) : Rd (w.alloc (.cells #[u] t)) 1 (.slice (some ⟨g, 0, none⟩) 1 1) 1 [u] := by
  subst hg
  exact rd_lit w u t
theorem LLs.of_rd {w w0 : World} {v : Value} {us : List Value} {PL : List (List Int)} (h : Rd w 1 v us.length us) (hg : Grew w0 w) (hP : PL.length = us.length) (hin : ∀ (i : Nat) (L : List Int), PL[i]? = some L → ∃ u, us[i]? = some u ∧ Ints w0 u L) : LLs w v PL := by
  obtain ⟨_, _, h3⟩ := h
  rcases h3 with ⟨h4, h5⟩ | ⟨b, o, c, h4, h5, h6, h7, h8⟩
  · exact .inl ⟨h4, List.eq_nil_of_length_eq_zero (by omega)⟩
  · refine .inr ⟨b, o, c, by rw [hP]; exact h4, by omega, h6, h7, fun i L hL => ?_⟩
    obtain ⟨u, hu, hi⟩ := hin i L hL
    exact ⟨u, h8 i u hu, hi.grew hg⟩
theorem prems_at (xs : List Dd) : (fun i => (xs.map fun x : Dd => x.2.1).getD i []) = fun i => (xs.getD i dd0).2.1 := by
  funext i
  simp only [List.getD, List.getElem?_map]
  cases xs[i]? <;> rfl
set_option maxHeartbeats 4000000 in
theorem neededSteps_c (v : Value) (xs : List Dd) (w : World) (h : Dds w v xs) (hfb : fbd xs xs.length = -1) (hn0 : xs.length ≠ 0) (hn : xs.length ≤ 1048576) :
    Calls Tryz.prog 62 #[v] w (GivesB w xs.length (usd (fun i => (xs.getD i dd0).2.1) xs.length xs.length)) := by
  unfold GivesB
  have KN := Lib.hid (fun W u (h1 : LLs W u (xs.map fun x : Dd => x.2.1)) => by
    have h := neededFor_c u (xs.map fun x : Dd => x.2.1) W h1 (by rw [List.length_map]; exact hn0) (by rw [List.length_map]; exact hn) (fun i L hL q hq => by
      rw [List.getElem?_map] at hL
      cases hx : xs[i]? with
      | none => rw [hx] at hL; cases hL
      | some x =>
        rw [hx] at hL
        obtain rfl : x.2.1 = L := by injection hL
        have h1 := prem_lt hfb hx (it x.2.1 q) (by rw [← it_get hq]; exact List.getElem_mem hq)
        have h2 := (List.getElem?_eq_some_iff.1 hx).1
        rw [List.length_map]
        omega)
    rw [List.length_map, prems_at] at h
    exact h)
  unfold GivesB at KN
  rcases h with ⟨_, h0⟩ | ⟨b, o, c, rfl, hc, hm, hb, hcl⟩
  · rw [h0] at hn0; exact absurd rfl hn0
  have HC := Lib.hid hcl
  have HX := Lib.hid (fun j (hj : j < xs.length) => (⟨xs[j], List.getElem?_eq_getElem hj⟩ : ∃ x, xs[j]? = some x))
  have HM := Lib.hid (fun v' (us : List Value) W (hW : Grew w W) (h1 : OwnW W w.heap.size v' us) (h2 : us.length = xs.length) (h3 : ∀ (i : Nat) (x : Dd), i < xs.length → xs[i]? = some x → ∃ u, us[i]? = some u ∧ Ints w u x.2.1) =>
    LLs.of_rd (PL := xs.map fun x : Dd => x.2.1) (Rd.of_own h1) hW (by rw [List.length_map, h2]) (fun i L hL => by
      rw [List.getElem?_map] at hL
      cases hx : xs[i]? with
      | none => rw [hx] at hL; cases hL
      | some x =>
        rw [hx] at hL
        obtain rfl : x.2.1 = L := by injection hL
        exact h3 i x (List.getElem?_eq_some_iff.1 hx).1 hx))
  clear hcl hfb
  generalize usd (fun i => (xs.getD i dd0).2.1) xs.length xs.length = US at *
  generalize (xs.map fun x : Dd => x.2.1) = PL at *
  generalize hN : xs.length = n at *
  go_enter Tryz.func62, Tryz.ntmps62
  go_wp2_with fail
  go_loopw [3, 8] (fun vv i wr => ∃ (j : Nat) (us : List Value), j ≤ n ∧ i = .int .i64 j ∧ Hid (OwnW wr w.heap.size vv us ∧ us.length = j ∧ ∀ (i : Nat) (x : Dd), i < j → xs[i]? = some x → ∃ u, us[i]? = some u ∧ Ints w u x.2.1) ∧ Grew w wr) (fun _ i _ => n - (intOf i).toNat)
  case atStart => exact ⟨0, [], Nat.zero_le _, rfl, Lib.hid ⟨World.ownsRow_nil w _ _ 1, rfl, fun i x hi => by omega⟩, Grew.refl _⟩
  case round =>
    obtain ⟨j, us, hj, rfl, hO, hB⟩ := hrel
    by_cases hlt : j < n
    · obtain ⟨x, hx⟩ := HX.out j hlt
      obtain ⟨up, ua, hcl, hup, hus⟩ := HC.out j x hx
      obtain ⟨k0, k1, k2, k3, k4⟩ := hcl.grew hb hB
      have hx' := Lib.hid hx
      have HUP := Lib.hid hup
      obtain ⟨A1, ca1, rfl⟩ := ints_slice hup
      obtain ⟨A2, ca2, rfl⟩ := strs_slice hus
      clear hcl hup hus hx
      obtain ⟨r0, rA, rs, rc, rn⟩ := x
      simp only at *
      have hal : ∀ a b, Grew w ((wr.alloc a).alloc b) := fun a b => (hB.alloc a).alloc b
      have hO1 : Hid (∀ a b, OwnW ((wr.alloc a).alloc b) w.heap.size _ us) := Lib.hid (fun a b => own_grew hO.out.1 (((Grew.refl wr).alloc a).alloc b))
      have hul := Lib.hid (show us.length ≤ 1048576 by have := hO.out.2.1; omega)
      go_wp2_with (first | (at_builtin; refine wpList_appW (w0 := w) _ _ rfl rfl _ us rfl (hO1.out _ _) (hal _ _) _ (.slice A1 rA.length ca1) rfl (rd_litb _ (by simp) _ _) rfl hul.out ?_; intro v2 w2 hown2 hg2))
      go_roundw
      case rel =>
        refine ⟨j + 1, us ++ [.slice A1 rA.length ca1], by omega, by go_num, Lib.hid ⟨hown2, by rw [List.length_append, hO.out.2.1]; rfl, fun i x hi hxi => ?_⟩, hg2⟩
        have hul2 := hO.out.2.1
        by_cases h : i < j
        · obtain ⟨u, h1, h2⟩ := hO.out.2.2 i x h hxi
          exact ⟨u, by rw [List.getElem?_append_left (by omega)]; exact h1, h2⟩
        · obtain rfl : i = j := by omega
          rw [hx'.out] at hxi
          obtain rfl := Option.some.inj hxi
          refine ⟨_, ?_, HUP.out⟩
          rw [List.getElem?_append_right (by omega), hul2, Nat.sub_self]
          rfl
      case measure => simp [intOf]; omega
    · obtain rfl : j = n := by omega
      go_wp2_with fail
      refine (KN.out _ _ (HM.out _ us _ hB hO.out.1 (by rw [hO.out.2.1]) hO.out.2.2)).mono ?_
      rintro e w2 ⟨g, hg0, rfl, hbr, hg2⟩
      have HBR := Lib.hid hbr
      have hsz := Nat.le_trans hB.size hg0
      clear hbr hg0
      go_wp2_with fail
      go_ret
      exact ⟨g, hsz, rfl, HBR.out, hB.trans hg2⟩
set_option maxHeartbeats 4000000 in
theorem l25Used_c (v : Value) (xs : List Dd) (w : World) (h : Dds w v xs) (hfb : fbd xs xs.length = -1) (hn0 : xs.length ≠ 0) (hn : xs.length ≤ 1048576) :
    Calls Tryz.prog 60 #[v] w (GivesB w xs.length (usd (fun i => (xs.getD i dd0).2.1) xs.length xs.length)) := by
  unfold GivesB
  rcases h with ⟨_, h0⟩ | ⟨b, o, c, rfl, hc, hm, hb, hcl⟩
  · rw [h0] at hn0; exact absurd rfl hn0
  have HC := Lib.hid hcl
  have HX := Lib.hid (fun j (hj : j < xs.length) => (⟨xs[j], List.getElem?_eq_getElem hj, by simp [List.getD, hj]⟩ : ∃ x, xs[j]? = some x ∧ (xs.getD j dd0).2.1 = x.2.1))
  have HK : Hid (∀ (i : Nat) (x : Dd), xs[i]? = some x → ∀ q, q < x.2.1.length → 0 ≤ it x.2.1 q ∧ it x.2.1 q < (xs.length : Int)) := Lib.hid (fun i x hx q hq => by
    have h1 := prem_lt hfb hx (it x.2.1 q) (by rw [← it_get hq]; exact List.getElem_mem hq)
    have h2 := (List.getElem?_eq_some_iff.1 hx).1
    omega)
  clear hcl hfb
  have HUy := Lib.hid (fun i hi h => @usd_yes (fun i => (xs.getD i dd0).2.1) xs.length i hi h)
  have HUn := Lib.hid (fun i hi h => @usd_no (fun i => (xs.getD i dd0).2.1) xs.length i hi h)
  have HU0 : Hid (usd (fun i => (xs.getD i dd0).2.1) xs.length 0 = fun i => i == xs.length - 1) := Lib.hid rfl
  have hmk := fun W => run_make_rows (P := Tryz.prog) 70 4 (.bool false) 1 1 #[.bool false] Tryz.underlying70 infoBl rfl .i64 .i64 xs.length (by omega) (by omega) W
  rw [Nat.mul_one] at hmk
  have hbr : BRow (w.alloc (.cells (madeCells #[Value.bool false] xs.length) 4)) w.heap.size xs.length (fun _ => false) := ⟨_, blk_new w _, size_madeCells _ _, fun i hi => made_b hi⟩
  have HBR := Lib.hid hbr
  have HAL := Lib.hid ((Grew.refl w).alloc (.cells (madeCells #[Value.bool false] xs.length) 4))
  clear hbr
  generalize madeCells #[Value.bool false] xs.length = cur0 at *
  generalize hgp : usd (fun i => (xs.getD i dd0).2.1) xs.length = US at *
  clear hgp
  generalize hN : xs.length = n at *
  have f0 := HBR.out.cell (p := n - 1) (by omega)
  have f1 := HBR.out.free
  have i0 : (0 : Int) ≤ (n : Int) - 1 := by omega
  have i1 : (n : Int) - 1 < (n : Int) := by omega
  go_enter Tryz.func60, Tryz.ntmps60
  go_wp2_with fail
  go_loopw [4] (fun k wr => ∃ (j : Nat), j ≤ n ∧ k = .int .i64 ((j : Int) - 1) ∧ Hid (BRow wr w.heap.size n (US (n - j))) ∧ Grew w wr) (fun k _ => (intOf k + 1).toNat)
  case atStart =>
    refine ⟨n, Nat.le_refl _, rfl, ?_, (Grew.refl w).alloc _⟩
    rw [Nat.sub_self, HU0.out]
    exact Lib.hid (HBR.out.set_new (by omega) (by funext i; simp))
  clear f0 f1 i0 i1 hmk HBR HAL HU0
  case round =>
    obtain ⟨j, hj, rfl, hO, hB⟩ := hrel
    by_cases hlt : 0 < j
    · obtain ⟨i, rfl⟩ : ∃ i, j = i + 1 := ⟨j - 1, by omega⟩
      have e : (((i + 1 : Nat) : Int) - 1) = (i : Int) := by omega
      rw [e]
      obtain ⟨x, hx, hxe⟩ := HX.out i (by omega)
      obtain ⟨up, ua, hcl, hui, hus⟩ := HC.out i x hx
      have hki := Lib.hid (HK.out i x hx)
      have hy := HUy.out i (by omega)
      have hno := HUn.out i (by omega)
      rw [hxe] at hy
      have k1 := fun W (hW : Grew w W) => (hcl.grew hb hW).2.1
      have HUI := Lib.hid hui
      obtain ⟨A1, c1, rfl⟩ := ints_slice hui
      obtain ⟨r0, L, rs, rc, rn⟩ := x
      clear hcl hui hus hx hxe e
      simp only at *
      have i0 : (0 : Int) ≤ (i : Int) := by omega
      have i1 : (i : Int) < (n : Int) := by omega
      generalize US (n - (i + 1)) = u at *
      cases hu : u i with
      | true =>
        have hyy := Lib.hid (hy hu)
        have hu2 := Lib.hid hu
        clear hy hno hu
        go_wp2_with fail
        go_loopw [5] (fun r wx => ∃ (q : Nat), q ≤ L.length ∧ r = .int .i64 q ∧ Hid (BRow wx w.heap.size n (orF u (L.take q))) ∧ Grew w wx) (fun r _ => L.length - (intOf r).toNat)
        case atStart => exact ⟨0, Nat.zero_le _, rfl, by rw [orF_zero]; exact hO, hB⟩
        clear hO hB
        case round =>
          obtain ⟨q, hq, rfl, hO2, hB2⟩ := hrel
          by_cases hlt2 : q < L.length
          · obtain ⟨hk0, hk1⟩ := hki.out q hlt2
            obtain ⟨p, hpe⟩ : ∃ p : Nat, it L q = p := ⟨(it L q).toNat, by omega⟩
            rcases HUI.out.open_ with ⟨_, h2⟩ | ⟨b1, o1, c1', hv1, hc1, hm1, hb1, hcl1⟩
            · rw [h2] at hlt2; simp at hlt2
            obtain ⟨rfl, rfl⟩ : A1 = some ⟨b1, o1, none⟩ ∧ c1 = c1' := by simpa using hv1
            have z2 := hcl1 q hlt2 _ hB2
            rw [hpe] at z2
            have hcell := hO2.out.cell (p := i) (by omega)
            have ht : orF u (L.take q) i = true := by unfold orF; rw [hu2.out, Bool.true_or]
            rw [ht] at hcell
            have y0 := hO2.out.cell (p := p) (by omega)
            have y1 := hO2.out.free
            have j0 : (0 : Int) ≤ (p : Int) := by omega
            have j1 : (p : Int) < (n : Int) := by omega
            have hnx := Lib.hid (hO2.out.set (show p < n by omega) (orF_succ (u := u) hlt2 hpe))
            clear hcl1 hv1 hk0 hk1 hpe ht
            go_wp2_with fail
            go_roundw
            case rel => exact ⟨q + 1, by omega, by go_num, hnx, hB2.setCell (Nat.le_refl _) _⟩
            case measure => simp [intOf]; omega
          · obtain rfl : q = L.length := by omega
            rw [List.take_length] at hO2
            go_wp2_with fail
            go_roundw
            case rel => exact ⟨i, by omega, by go_num, by rw [hyy.out]; exact hO2, hB2⟩
            case measure => first | (simp [intOf]; done) | (simp [intOf]; omega)
      | false =>
        have hyy := Lib.hid (hno hu)
        have hu2 := Lib.hid hu
        clear hy hno hu
        go_wp2_with fail
        go_loopw [5] (fun r wx => r = .int .i64 0 ∧ Hid (BRow wx w.heap.size n u) ∧ Grew w wx) (fun r _ => 0)
        case atStart => exact ⟨rfl, hO, hB⟩
        clear hO hB
        case round =>
          obtain ⟨rfl, hO2, hB2⟩ := hrel
          have hcell := hO2.out.cell (p := i) (by omega)
          rw [hu2.out] at hcell
          by_cases hl0 : (0 : Int) < (L.length : Int)
          · go_wp2_with fail
            go_roundw
            case rel => exact ⟨i, by omega, by go_num, by rw [hyy.out]; exact hO2, hB2⟩
            case measure => first | (simp [intOf]; done) | (simp [intOf]; omega)
          · go_wp2_with fail
            go_roundw
            case rel => exact ⟨i, by omega, by go_num, by rw [hyy.out]; exact hO2, hB2⟩
            case measure => first | (simp [intOf]; done) | (simp [intOf]; omega)
    · obtain rfl : j = 0 := by omega
      rw [Nat.sub_zero] at hO
      go_wp2_with fail
      go_ret
      exact ⟨_, Nat.le_refl _, rfl, hO.out, hB⟩
end Go.Proofs.YtofeeenjlaljpaaGreat

/- DetoursOf of both sides. Printed by detgen.py. -/
namespace Go.Proofs.YtofeeenjlaljpaaGreat
open Go.RowKit

theorem rd_litI2 (w : World) (ob : Obj) (k : Int) (t : TypeId) : Rd ((w.alloc ob).alloc (.cells #[.int .i64 k] t)) 1 (.slice (some ⟨w.heap.size + 1, 0, none⟩) 1 1) 1 [.int .i64 k] := by
  have h := rd_litI (w.alloc ob) k t
  have e : (w.alloc ob).heap.size = w.heap.size + 1 := World.size_alloc _ _
  rwa [e] at h

/-- Does a rule undo what a rule has made? -/
def dtr (r m : Int) : Bool := if r = 4 ∨ r = 5 then m == 3 else if r = 8 then (m == 6 || m == 7) else if r = 10 then m == 9 else false
def isDet (xs : List Dd) (x : Dd) : Bool := if x.2.1.length = 0 then false else dtr x.1 (xs.getD (it x.2.1 0).toNat dd0).1
def detL (xs : List Dd) (j : Nat) : List Int := ((List.range j).filter fun i => isDet xs (xs.getD i dd0)).map fun i : Nat => (i : Int)
theorem detL_zero (xs : List Dd) : detL xs 0 = [] := rfl
theorem detL_yes {xs : List Dd} {j : Nat} {x : Dd} (hx : xs[j]? = some x) (h : isDet xs x = true) : detL xs (j + 1) = detL xs j ++ [(j : Int)] := by
  unfold detL
  rw [List.range_succ, List.filter_append, List.map_append]
  have e : xs.getD j dd0 = x := by simp [List.getD, hx]
  congr 1
  rw [List.filter_cons]
  simp only [e, h]
  rfl
theorem detL_no {xs : List Dd} {j : Nat} {x : Dd} (hx : xs[j]? = some x) (h : isDet xs x = false) : detL xs (j + 1) = detL xs j := by
  unfold detL
  rw [List.range_succ, List.filter_append, List.map_append]
  have e : xs.getD j dd0 = x := by simp [List.getD, hx]
  rw [List.filter_cons]
  simp only [e, h]
  simp
theorem detL_len (xs : List Dd) (j : Nat) : (detL xs j).length ≤ j := by
  unfold detL
  rw [List.length_map]
  have := List.length_filter_le (fun i => isDet xs (xs.getD i dd0)) (List.range j)
  rwa [List.length_range] at this
theorem isDet_none {xs : List Dd} {x : Dd} (h : x.2.1.length = 0) : isDet xs x = false := by unfold isDet; rw [if_pos h]
theorem isDet_some {xs : List Dd} {x y : Dd} {p : Nat} (h : x.2.1.length ≠ 0) (hp : it x.2.1 0 = (p : Int)) (hy : xs[p]? = some y) : isDet xs x = dtr x.1 y.1 := by
  unfold isDet
  rw [if_neg h, hp, Int.toNat_natCast]
  have e : xs.getD p dd0 = y := by simp [List.getD, hy]
  rw [e]
noncomputable def detF (xs : List Dd) : List Int × Int := if dcode [xs] = 0 then (detL xs xs.length, 0) else ([], dcode [xs])
def GivesDet (w : World) (r : List Int × Int) (e : Ending) (w' : World) : Prop := ∃ v, e = .returned (.tuple #[v, .int .i64 r.2]) ∧ OwnI w' w.heap.size v r.1 ∧ Grew w w'
theorem detF_len {xs : List Dd} (hn : xs.length ≤ 1048576) : (detF xs).1.length ≤ 1048576 := by
  unfold detF
  split
  · have := detL_len xs xs.length
    exact Nat.le_trans this hn
  · simp

set_option maxHeartbeats 8000000 in
theorem implDet_c (v : Value) (xs : List Dd) (w : World) (hv : Dds w v xs) (hf : FitsDd xs) (_hn : xs.length ≤ 1048576) :
    Calls Tryz.prog 20 #[v] w (GivesDet w (detF xs)) := by
  unfold GivesDet detF
  obtain ⟨A, c, rfl⟩ := Dds_slice hv
  have KD := Lib.hid (deductionCode_c _ [xs] _ (DdL.one (T := 27) hv) (fun i hi => by obtain rfl : i = 0 := (by simpa using hi); exact hf))
  have HAL := Lib.hid ((Grew.refl w).alloc (.cells #[.slice A xs.length c] 27))
  by_cases hd : dcode [xs] = 0
  case neg =>
    rw [if_neg hd]
    have e0 : (dcode [xs] == 0) = false := by simpa using hd
    clear hv hf hd
    generalize dcode [xs] = d at *
    go_enter Tryz.func20, Tryz.ntmps20
    go_wp2_with fail
    refine (KD.out).mono ?_
    rintro e w1 ⟨rfl, hg1⟩
    go_wp2_with fail
    go_ret2
    exact ⟨_, rfl, OwnI.nil_ _ _, HAL.out.trans hg1⟩
  rw [if_pos hd]
  rw [hd] at KD
  obtain ⟨hn0, hn1, hfb⟩ := dcode_zero hd
  rcases hv with ⟨_, h0⟩ | ⟨b, o, c', hv, hc, hm, hb, hcell⟩
  · rw [h0] at hn0; exact absurd rfl hn0
  obtain ⟨rfl, rfl⟩ : A = some ⟨b, o, none⟩ ∧ c = c' := by simpa using hv
  have HX := Lib.hid (fun j (hj : j < xs.length) => (⟨xs[j], List.getElem?_eq_getElem hj⟩ : ∃ x, xs[j]? = some x))
  have HNE9 : Hid (∀ j x, xs[j]? = some x → x.2.1.length ≠ 0 → ∃ (p : Nat) (y : Dd), it x.2.1 0 = (p : Int) ∧ p < xs.length ∧ xs[p]? = some y ∧ Hid (isDet xs x = dtr x.1 y.1)) := Lib.hid (fun j x hx h0 => by
    have hj := (List.getElem?_eq_some_iff.1 hx).1
    obtain ⟨h1, h2⟩ := steps_prem hfb hx (q := 0) (by omega)
    have hp : (it x.2.1 0).toNat < xs.length := by omega
    refine ⟨(it x.2.1 0).toNat, xs[(it x.2.1 0).toNat], by omega, hp, List.getElem?_eq_getElem hp, isDet_some h0 (p := (it x.2.1 0).toNat) (by omega) (List.getElem?_eq_getElem hp)⟩)
  have HN09 := Lib.hid (fun (x : Dd) h => @isDet_none xs x h)
  have HY := Lib.hid (fun j x hx h => @detL_yes xs j x hx h)
  have HO := Lib.hid (fun j x hx h => @detL_no xs j x hx h)
  have HLn := Lib.hid (fun j => detL_len xs j)
  have HZ := Lib.hid (detL_zero xs)
  have HC := Lib.hid hcell
  clear hd hfb hv hcell hf
  generalize hN : xs.length = n at *
  clear hN
  go_enter Tryz.func20, Tryz.ntmps20
  go_wp2_with fail
  refine (KD.out).mono ?_
  rintro e w1 ⟨rfl, hg1⟩
  have g1 := HAL.out.trans hg1
  clear KD HAL hg1
  go_wp2_with fail
  go_loopw [5, 18] (fun vv i wr => ∃ (j : Nat), j ≤ n ∧ i = .int .i64 j ∧ Hid (OwnI wr w.heap.size vv (detL xs j)) ∧ Grew w wr) (fun _ i _ => n - (intOf i).toNat)
  case atStart => exact ⟨0, Nat.zero_le _, rfl, by rw [HZ.out]; exact Lib.hid (OwnI.nil_ _ _), g1⟩
  clear g1
  case round =>
    obtain ⟨j, hj, rfl, hO, hB⟩ := hrel
    obtain ⟨Ah, ch, rfl⟩ := ints_slice hO.out.ints
    by_cases hlt : j < n
    · obtain ⟨x, hx⟩ := HX.out j hlt
      have HNE := Lib.hid (HNE9.out j x hx)
      have HN0 := Lib.hid (HN09.out x)
      have hyes := Lib.hid (HY.out j x hx)
      have hno := Lib.hid (HO.out j x hx)
      obtain ⟨up, ua, hcl, hup, hus⟩ := HC.out j x hx
      obtain ⟨k0, k1, k2, k3, k4⟩ := hcl.grew hb hB
      have HUP := Lib.hid hup
      obtain ⟨A1, ca1, rfl⟩ := ints_slice hup
      obtain ⟨A2, ca2, rfl⟩ := strs_slice hus
      clear hcl hup hus hx
      generalize hisd : isDet xs x = isd at *
      clear hisd
      obtain ⟨r0, rA, rs, rc, rn⟩ := x
      simp only at *
      have hljl := HLn.out j
      generalize detL xs j = Lj at *
      generalize hk9 : detL xs (j + 1) = Lk at *
      have HK9 := Lib.hid hk9
      clear hk9
      have hal : ∀ ob, Grew w (wr.alloc ob) := fun ob => hB.alloc ob
      by_cases h0 : rA.length = 0
      · have hd := Lib.hid (HN0.out h0)
        have hrA : rA = [] := List.eq_nil_of_length_eq_zero h0
        subst hrA
        clear HNE HN0 h0
        simp only [List.length_nil] at *
        have he := Lib.hid (hno.out hd.out)
        clear hyes hno
        go_wp2_with fail
        go_roundw
        case rel => exact ⟨j + 1, by omega, by go_num, by rw [HK9.out, he.out]; exact Lib.hid (hO.out.grew ((Grew.refl wr).alloc _)), hal _⟩
        case measure => simp [intOf]; omega
      have hlen0 : ((rA.length : Int) == 0) = false := by simpa using h0
      obtain ⟨p, y, hpe, hpj, hy, HD⟩ := HNE.out h0
      obtain ⟨vp, va, hcy, _, _⟩ := HC.out p y hy
      rcases HUP.out.open_ with ⟨_, h2⟩ | ⟨b1, o1, c1, hv1, hc1, hm1, hb1, hcl1⟩
      · rw [h2] at h0; exact absurd rfl h0
      obtain ⟨rfl, rfl⟩ : A1 = some ⟨b1, o1, none⟩ ∧ ca1 = c1 := by simpa using hv1
      have z1 : ∀ W, Grew w W → W.cell? ⟨b1, o1, none⟩ = some (.int .i64 p) := fun W hW => by have := hcl1 0 (by omega) W hW; rwa [hpe] at this
      have z2 : ∀ W, Grew w W → W.cell? ⟨b, o + p * 5, none⟩ = some (.int .i64 y.1) := fun W hW => (hcy.grew hb hW).1
      have hrl : 0 < rA.length := by omega
      have i0 : (0 : Int) ≤ (p : Int) := by omega
      have i1 : (p : Int) < (n : Int) := by omega
      have i2 : (0 : Int) < (rA.length : Int) := by omega
      clear hcl1 hv1 hcy hy hpe HNE HN0 h0
      generalize y.1 = m at *
      generalize rA.length = rl at *
      by_cases h4 : r0 = 4
      · subst h4
        cases hm : (m == 3) with
        | true =>
          have hd := Lib.hid (HD.out.trans (show dtr _ m = true by simp [dtr, hm]))
          have he := Lib.hid (hyes.out hd.out)
          clear hyes hno
          have hO1 : ∀ ob ob2, OwnI ((wr.alloc ob).alloc ob2) w.heap.size (.slice Ah Lj.length ch) Lj := fun ob ob2 => hO.out.grew (((Grew.refl wr).alloc ob).alloc ob2)
          have hal2 : ∀ ob ob2, Grew w ((wr.alloc ob).alloc ob2) := fun ob ob2 => (hal ob).alloc ob2
          have hlj := Lib.hid (show Lj.length ≤ 1048576 by omega)
          go_wp2_with (first | (at_builtin; refine wpList_appI (w0 := w) _ _ rfl rfl _ Lj rfl (hO1 _ _) (hal2 _ _) _ (j : Int) rfl (by first | exact rd_litI _ _ _ | exact rd_litI2 _ _ _ _) hlj.out ?_; intro v2 w2 hown2 hg2 _))
          go_roundw
          case rel => exact ⟨j + 1, by omega, by go_num, by rw [HK9.out, he.out]; exact Lib.hid hown2, hg2⟩
          case measure => simp [intOf]; omega
        | false =>
          have hd := Lib.hid (HD.out.trans (show dtr _ m = false by simp [dtr, hm]))
          have he := Lib.hid (hno.out hd.out)
          clear hyes hno
          go_wp2_with fail
          go_roundw
          case rel => exact ⟨j + 1, by omega, by go_num, by rw [HK9.out, he.out]; exact Lib.hid (hO.out.grew ((Grew.refl wr).alloc _)), hal _⟩
          case measure => simp [intOf]; omega
      by_cases h5 : r0 = 5
      · subst h5
        cases hm : (m == 3) with
        | true =>
          have hd := Lib.hid (HD.out.trans (show dtr _ m = true by simp [dtr, hm]))
          have he := Lib.hid (hyes.out hd.out)
          clear hyes hno
          have hO1 : ∀ ob ob2, OwnI ((wr.alloc ob).alloc ob2) w.heap.size (.slice Ah Lj.length ch) Lj := fun ob ob2 => hO.out.grew (((Grew.refl wr).alloc ob).alloc ob2)
          have hal2 : ∀ ob ob2, Grew w ((wr.alloc ob).alloc ob2) := fun ob ob2 => (hal ob).alloc ob2
          have hlj := Lib.hid (show Lj.length ≤ 1048576 by omega)
          go_wp2_with (first | (at_builtin; refine wpList_appI (w0 := w) _ _ rfl rfl _ Lj rfl (hO1 _ _) (hal2 _ _) _ (j : Int) rfl (by first | exact rd_litI _ _ _ | exact rd_litI2 _ _ _ _) hlj.out ?_; intro v2 w2 hown2 hg2 _))
          go_roundw
          case rel => exact ⟨j + 1, by omega, by go_num, by rw [HK9.out, he.out]; exact Lib.hid hown2, hg2⟩
          case measure => simp [intOf]; omega
        | false =>
          have hd := Lib.hid (HD.out.trans (show dtr _ m = false by simp [dtr, hm]))
          have he := Lib.hid (hno.out hd.out)
          clear hyes hno
          go_wp2_with fail
          go_roundw
          case rel => exact ⟨j + 1, by omega, by go_num, by rw [HK9.out, he.out]; exact Lib.hid (hO.out.grew ((Grew.refl wr).alloc _)), hal _⟩
          case measure => simp [intOf]; omega
      by_cases h8 : r0 = 8
      · subst h8
        cases hm : (m == 6) with
        | true =>
          have hd := Lib.hid (HD.out.trans (show dtr _ m = true by simp [dtr, hm]))
          have he := Lib.hid (hyes.out hd.out)
          clear hyes hno
          have hO1 : ∀ ob ob2, OwnI ((wr.alloc ob).alloc ob2) w.heap.size (.slice Ah Lj.length ch) Lj := fun ob ob2 => hO.out.grew (((Grew.refl wr).alloc ob).alloc ob2)
          have hal2 : ∀ ob ob2, Grew w ((wr.alloc ob).alloc ob2) := fun ob ob2 => (hal ob).alloc ob2
          have hlj := Lib.hid (show Lj.length ≤ 1048576 by omega)
          go_wp2_with (first | (at_builtin; refine wpList_appI (w0 := w) _ _ rfl rfl _ Lj rfl (hO1 _ _) (hal2 _ _) _ (j : Int) rfl (by first | exact rd_litI _ _ _ | exact rd_litI2 _ _ _ _) hlj.out ?_; intro v2 w2 hown2 hg2 _))
          go_roundw
          case rel => exact ⟨j + 1, by omega, by go_num, by rw [HK9.out, he.out]; exact Lib.hid hown2, hg2⟩
          case measure => simp [intOf]; omega
        | false =>
          cases hm2 : (m == 7) with
          | true =>
            have hd := Lib.hid (HD.out.trans (show dtr _ m = true by simp [dtr, hm, hm2]))
            have he := Lib.hid (hyes.out hd.out)
            clear hyes hno
            have hO1 : ∀ ob ob2, OwnI ((wr.alloc ob).alloc ob2) w.heap.size (.slice Ah Lj.length ch) Lj := fun ob ob2 => hO.out.grew (((Grew.refl wr).alloc ob).alloc ob2)
            have hal2 : ∀ ob ob2, Grew w ((wr.alloc ob).alloc ob2) := fun ob ob2 => (hal ob).alloc ob2
            have hlj := Lib.hid (show Lj.length ≤ 1048576 by omega)
            go_wp2_with (first | (at_builtin; refine wpList_appI (w0 := w) _ _ rfl rfl _ Lj rfl (hO1 _ _) (hal2 _ _) _ (j : Int) rfl (by first | exact rd_litI _ _ _ | exact rd_litI2 _ _ _ _) hlj.out ?_; intro v2 w2 hown2 hg2 _))
            go_roundw
            case rel => exact ⟨j + 1, by omega, by go_num, by rw [HK9.out, he.out]; exact Lib.hid hown2, hg2⟩
            case measure => simp [intOf]; omega
          | false =>
            have hd := Lib.hid (HD.out.trans (show dtr _ m = false by simp [dtr, hm, hm2]))
            have he := Lib.hid (hno.out hd.out)
            clear hyes hno
            go_wp2_with fail
            go_roundw
            case rel => exact ⟨j + 1, by omega, by go_num, by rw [HK9.out, he.out]; exact Lib.hid (hO.out.grew ((Grew.refl wr).alloc _)), hal _⟩
            case measure => simp [intOf]; omega
      by_cases h10 : r0 = 10
      · subst h10
        cases hm : (m == 9) with
        | true =>
          have hd := Lib.hid (HD.out.trans (show dtr _ m = true by simp [dtr, hm]))
          have he := Lib.hid (hyes.out hd.out)
          clear hyes hno
          have hO1 : ∀ ob ob2, OwnI ((wr.alloc ob).alloc ob2) w.heap.size (.slice Ah Lj.length ch) Lj := fun ob ob2 => hO.out.grew (((Grew.refl wr).alloc ob).alloc ob2)
          have hal2 : ∀ ob ob2, Grew w ((wr.alloc ob).alloc ob2) := fun ob ob2 => (hal ob).alloc ob2
          have hlj := Lib.hid (show Lj.length ≤ 1048576 by omega)
          go_wp2_with (first | (at_builtin; refine wpList_appI (w0 := w) _ _ rfl rfl _ Lj rfl (hO1 _ _) (hal2 _ _) _ (j : Int) rfl (by first | exact rd_litI _ _ _ | exact rd_litI2 _ _ _ _) hlj.out ?_; intro v2 w2 hown2 hg2 _))
          go_roundw
          case rel => exact ⟨j + 1, by omega, by go_num, by rw [HK9.out, he.out]; exact Lib.hid hown2, hg2⟩
          case measure => simp [intOf]; omega
        | false =>
          have hd := Lib.hid (HD.out.trans (show dtr _ m = false by simp [dtr, hm]))
          have he := Lib.hid (hno.out hd.out)
          clear hyes hno
          go_wp2_with fail
          go_roundw
          case rel => exact ⟨j + 1, by omega, by go_num, by rw [HK9.out, he.out]; exact Lib.hid (hO.out.grew ((Grew.refl wr).alloc _)), hal _⟩
          case measure => simp [intOf]; omega
      have e4 : (r0 == 4) = false := by simpa using h4
      have e5 : (r0 == 5) = false := by simpa using h5
      have e8 : (r0 == 8) = false := by simpa using h8
      have e10 : (r0 == 10) = false := by simpa using h10
      have hd := Lib.hid (HD.out.trans (show dtr r0 m = false by unfold dtr; rw [if_neg (by omega), if_neg h8, if_neg h10]))
      clear h4 h5 h8 h10
      have he := Lib.hid (hno.out hd.out)
      clear hyes hno
      go_wp2_with fail
      go_roundw
      case rel => exact ⟨j + 1, by omega, by go_num, by rw [HK9.out, he.out]; exact Lib.hid (hO.out.grew ((Grew.refl wr).alloc _)), hal _⟩
      case measure => simp [intOf]; omega
    · obtain rfl : j = n := by omega
      go_wp2_with fail
      go_ret2
      exact ⟨_, rfl, hO.out, hB⟩
set_option maxHeartbeats 8000000 in
theorem l25Detour_c (v : Value) (xs : List Dd) (j : Nat) (x : Dd) (w : World) (hv : Dds w v xs) (hx : xs[j]? = some x) (hNE : x.2.1.length ≠ 0 → ∃ (p : Nat) (y : Dd), it x.2.1 0 = (p : Int) ∧ p < xs.length ∧ xs[p]? = some y ∧ Hid (isDet xs x = dtr x.1 y.1)) :
    Calls Tryz.prog 45 #[v, .int .i64 j] w fun e w' => e = .returned (.bool (isDet xs x)) ∧ Grew w w' := by
  have hjl := (List.getElem?_eq_some_iff.1 hx).1
  rcases hv with ⟨_, h0⟩ | ⟨b, o, c, rfl, hc, hm, hb, hcell⟩
  · rw [h0] at hjl; cases hjl
  have HC := Lib.hid hcell
  have HNE := Lib.hid hNE
  have HN0 := Lib.hid (@isDet_none xs x)
  obtain ⟨up, ua, hcl, hup, hus⟩ := HC.out j x hx
  have k0 := fun W (hW : Grew w W) => (hcl.grew hb hW).1
  have k1 := fun W (hW : Grew w W) => (hcl.grew hb hW).2.1
  have q0 := k0 _ (Grew.refl w)
  have q1 := k1 _ (Grew.refl w)
  have HUP := Lib.hid hup
  obtain ⟨A1, ca1, rfl⟩ := ints_slice hup
  clear hcl hup hus hx hcell hNE
  generalize hisd : isDet xs x = isd at *
  clear hisd
  obtain ⟨r0, rA, rs, rc, rn⟩ := x
  simp only at *
  generalize hN : xs.length = n at *
  clear hN
  have hj0 : (0 : Int) ≤ (j : Int) := by omega
  have hj1 : (j : Int) < (n : Int) := by omega
  have gr := Grew.refl w
  by_cases h0 : rA.length = 0
  · have hd := Lib.hid (HN0.out h0)
    have hrA : rA = [] := List.eq_nil_of_length_eq_zero h0
    subst hrA
    clear HNE HN0 h0
    simp only [List.length_nil] at *
    go_enter Tryz.func45, Tryz.ntmps45
    go_wp2_with fail
    go_ret
    exact ⟨by rw [hd.out]; first | rfl | simp, Grew.refl _⟩
  have hlen0 : ((rA.length : Int) == 0) = false := by simpa using h0
  obtain ⟨p, y, hpe, hpj, hy, HD⟩ := HNE.out h0
  obtain ⟨vp, va, hcy, _, _⟩ := HC.out p y hy
  rcases HUP.out.open_ with ⟨_, h2⟩ | ⟨b1, o1, c1, hv1, hc1, hm1, hb1, hcl1⟩
  · rw [h2] at h0; exact absurd rfl h0
  obtain ⟨rfl, rfl⟩ : A1 = some ⟨b1, o1, none⟩ ∧ ca1 = c1 := by simpa using hv1
  have z1 : ∀ W, Grew w W → W.cell? ⟨b1, o1, none⟩ = some (.int .i64 p) := fun W hW => by have := hcl1 0 (by omega) W hW; rwa [hpe] at this
  have z2 : ∀ W, Grew w W → W.cell? ⟨b, o + p * 5, none⟩ = some (.int .i64 y.1) := fun W hW => (hcy.grew hb hW).1
  have hrl : 0 < rA.length := by omega
  have i0 : (0 : Int) ≤ (p : Int) := by omega
  have i1 : (p : Int) < (n : Int) := by omega
  have i2 : (0 : Int) < (rA.length : Int) := by omega
  have y1 := z1 _ gr
  have y2 := z2 _ gr
  clear hcl1 hv1 hcy hy hpe HNE HN0 h0
  generalize y.1 = m at *
  generalize rA.length = rl at *
  by_cases h4 : r0 = 4
  · subst h4
    cases hm : (m == 3) with
    | true =>
      have hd := Lib.hid (HD.out.trans (show dtr _ m = true by simp [dtr, hm]))
      go_enter Tryz.func45, Tryz.ntmps45
      go_wp2_with fail
      go_ret
      exact ⟨by rw [hd.out]; first | rfl | simp, Grew.refl _⟩
    | false =>
      have hd := Lib.hid (HD.out.trans (show dtr _ m = false by simp [dtr, hm]))
      go_enter Tryz.func45, Tryz.ntmps45
      go_wp2_with fail
      go_ret
      exact ⟨by rw [hd.out]; first | rfl | simp, Grew.refl _⟩
  by_cases h5 : r0 = 5
  · subst h5
    cases hm : (m == 3) with
    | true =>
      have hd := Lib.hid (HD.out.trans (show dtr _ m = true by simp [dtr, hm]))
      go_enter Tryz.func45, Tryz.ntmps45
      go_wp2_with fail
      go_ret
      exact ⟨by rw [hd.out]; first | rfl | simp, Grew.refl _⟩
    | false =>
      have hd := Lib.hid (HD.out.trans (show dtr _ m = false by simp [dtr, hm]))
      go_enter Tryz.func45, Tryz.ntmps45
      go_wp2_with fail
      go_ret
      exact ⟨by rw [hd.out]; first | rfl | simp, Grew.refl _⟩
  by_cases h8 : r0 = 8
  · subst h8
    cases hm : (m == 6) with
    | true =>
      have hd := Lib.hid (HD.out.trans (show dtr _ m = true by simp [dtr, hm]))
      go_enter Tryz.func45, Tryz.ntmps45
      go_wp2_with fail
      go_ret
      exact ⟨by rw [hd.out]; first | rfl | simp, Grew.refl _⟩
    | false =>
      cases hm2 : (m == 7) with
      | true =>
        have hd := Lib.hid (HD.out.trans (show dtr _ m = true by simp [dtr, hm, hm2]))
        go_enter Tryz.func45, Tryz.ntmps45
        go_wp2_with fail
        go_ret
        exact ⟨by rw [hd.out]; first | rfl | simp, Grew.refl _⟩
      | false =>
        have hd := Lib.hid (HD.out.trans (show dtr _ m = false by simp [dtr, hm, hm2]))
        go_enter Tryz.func45, Tryz.ntmps45
        go_wp2_with fail
        go_ret
        exact ⟨by rw [hd.out]; first | rfl | simp, Grew.refl _⟩
  by_cases h10 : r0 = 10
  · subst h10
    cases hm : (m == 9) with
    | true =>
      have hd := Lib.hid (HD.out.trans (show dtr _ m = true by simp [dtr, hm]))
      go_enter Tryz.func45, Tryz.ntmps45
      go_wp2_with fail
      go_ret
      exact ⟨by rw [hd.out]; first | rfl | simp, Grew.refl _⟩
    | false =>
      have hd := Lib.hid (HD.out.trans (show dtr _ m = false by simp [dtr, hm]))
      go_enter Tryz.func45, Tryz.ntmps45
      go_wp2_with fail
      go_ret
      exact ⟨by rw [hd.out]; first | rfl | simp, Grew.refl _⟩
  have e4 : (r0 == 4) = false := by simpa using h4
  have e5 : (r0 == 5) = false := by simpa using h5
  have e8 : (r0 == 8) = false := by simpa using h8
  have e10 : (r0 == 10) = false := by simpa using h10
  have hd := Lib.hid (HD.out.trans (show dtr r0 m = false by unfold dtr; rw [if_neg (by omega), if_neg h8, if_neg h10]))
  clear h4 h5 h8 h10
  go_enter Tryz.func45, Tryz.ntmps45
  go_wp2_with fail
  go_ret
  exact ⟨by rw [hd.out]; first | rfl | simp, Grew.refl _⟩
set_option maxHeartbeats 4000000 in
theorem specDet_c (v : Value) (xs : List Dd) (w : World) (hv : Dds w v xs) (hf : FitsDd xs) (_hn : xs.length ≤ 1048576) :
    Calls Tryz.prog 19 #[v] w (GivesDet w (detF xs)) := by
  unfold GivesDet detF
  obtain ⟨A, c, rfl⟩ := Dds_slice hv
  have KD := Lib.hid (l25Code_c _ [xs] _ (DdL.one (T := 27) hv) (fun i hi => by obtain rfl : i = 0 := (by simpa using hi); exact hf) (by simp))
  have HAL := Lib.hid ((Grew.refl w).alloc (.cells #[.slice A xs.length c] 27))
  by_cases hd : dcode [xs] = 0
  case neg =>
    rw [if_neg hd]
    have e0 : (dcode [xs] == 0) = false := by simpa using hd
    clear hv hf hd
    generalize dcode [xs] = d at *
    go_enter Tryz.func19, Tryz.ntmps19
    go_wp2_with fail
    refine (KD.out).mono ?_
    rintro e w1 ⟨rfl, hg1⟩
    go_wp2_with fail
    go_ret2
    exact ⟨_, rfl, OwnI.nil_ _ _, HAL.out.trans hg1⟩
  rw [if_pos hd]
  rw [hd] at KD
  obtain ⟨hn0, hn1, hfb⟩ := dcode_zero hd
  have HX := Lib.hid (fun j (hj : j < xs.length) => (⟨xs[j], List.getElem?_eq_getElem hj⟩ : ∃ x, xs[j]? = some x))
  have KT := Lib.hid (fun j x (hx : xs[j]? = some x) W (hW : Grew w W) => l25Detour_c _ xs j x W (hv.grew hW) hx (fun h0 => by
    have hj := (List.getElem?_eq_some_iff.1 hx).1
    obtain ⟨h1, h2⟩ := steps_prem hfb hx (q := 0) (by omega)
    have hp : (it x.2.1 0).toNat < xs.length := by omega
    exact ⟨(it x.2.1 0).toNat, xs[(it x.2.1 0).toNat], by omega, hp, List.getElem?_eq_getElem hp, isDet_some h0 (p := (it x.2.1 0).toNat) (by omega) (List.getElem?_eq_getElem hp)⟩))
  have HY := Lib.hid (fun j x hx h => @detL_yes xs j x hx h)
  have HO := Lib.hid (fun j x hx h => @detL_no xs j x hx h)
  have HLn := Lib.hid (fun j => detL_len xs j)
  have HZ := Lib.hid (detL_zero xs)
  clear hd hfb hv hf
  generalize hN : xs.length = n at *
  clear hN
  go_enter Tryz.func19, Tryz.ntmps19
  go_wp2_with fail
  refine (KD.out).mono ?_
  rintro e w1 ⟨rfl, hg1⟩
  have g1 := HAL.out.trans hg1
  have he1 := Lib.hid ((own_emptyI w1).base g1.size)
  have ga1 := g1.alloc (.cells #[] 2)
  clear KD HAL hg1
  go_wp2_with fail
  go_loopw [5, 6] (fun vv i wr => ∃ (j : Nat), j ≤ n ∧ i = .int .i64 j ∧ Hid (OwnI wr w.heap.size vv (detL xs j)) ∧ Grew w wr) (fun _ i _ => n - (intOf i).toNat)
  case atStart => exact ⟨0, Nat.zero_le _, rfl, by rw [HZ.out]; exact he1, ga1⟩
  clear g1 he1 ga1
  case round =>
    obtain ⟨j, hj, rfl, hO, hB⟩ := hrel
    obtain ⟨Ah, ch, rfl⟩ := ints_slice hO.out.ints
    by_cases hlt : j < n
    · obtain ⟨x, hx⟩ := HX.out j hlt
      have hyes := Lib.hid (HY.out j x hx)
      have hno := Lib.hid (HO.out j x hx)
      have kt := Lib.hid (KT.out j x hx _ hB)
      clear hx
      have hljl := HLn.out j
      generalize detL xs j = Lj at *
      generalize hk9 : detL xs (j + 1) = Lk at *
      have HK9 := Lib.hid hk9
      clear hk9
      have hlj := Lib.hid (show Lj.length ≤ 1048576 by omega)
      cases hisd : isDet xs x with
      | true =>
        rw [hisd] at kt
        have he := Lib.hid (hyes.out hisd)
        clear hyes hno hisd
        go_wp2_with fail
        refine (kt.out).mono ?_
        rintro e w2 ⟨rfl, hg2⟩
        have hO1 := (hO.out.grew hg2).grew ((Grew.refl w2).alloc (.cells #[.int .i64 j] 2))
        have g2 := hB.trans hg2
        go_wp2_with (first | (at_builtin; refine wpList_appI (w0 := w) _ _ rfl rfl _ Lj rfl hO1 (g2.alloc _) _ (j : Int) rfl (by first | exact rd_litI _ _ _ | exact rd_litI2 _ _ _ _) hlj.out ?_; intro v3 w3 hown3 hg3 _))
        go_roundw
        case rel => exact ⟨j + 1, by omega, by go_num, by rw [HK9.out, he.out]; exact Lib.hid hown3, hg3⟩
        case measure => simp [intOf]; omega
      | false =>
        rw [hisd] at kt
        have he := Lib.hid (hno.out hisd)
        clear hyes hno hisd
        go_wp2_with fail
        refine (kt.out).mono ?_
        rintro e w2 ⟨rfl, hg2⟩
        have hO1 := Lib.hid (hO.out.grew hg2)
        go_wp2_with fail
        go_roundw
        case rel => exact ⟨j + 1, by omega, by go_num, by rw [HK9.out, he.out]; exact hO1, hB.trans hg2⟩
        case measure => simp [intOf]; omega
    · obtain rfl : j = n := by omega
      go_wp2_with fail
      go_ret2
      exact ⟨_, rfl, hO.out, hB⟩
end Go.Proofs.YtofeeenjlaljpaaGreat

/- UsedAssumptions of both sides. Printed by uagen.py. -/
namespace Go.Proofs.YtofeeenjlaljpaaGreat
open Go.RowKit

theorem tI_B : 2 ≠ 4 := by decide
theorem BRow.by_ {w w' : World} {g n B : Nat} {u : Nat → Bool} {v : Value} {L : List Int} (h : BRow w g n u) (ho : OwnI w B v L) (hg : w.grownBy w' v.ownBlock) : BRow w' g n u := by
  obtain ⟨cur, h1, h2, h3⟩ := h
  have hne := own_ne ho h1 tI_B
  exact ⟨cur, (World.grownBy.block hg g (blk_lt h1) (fun e => hne e.symm)).trans h1, h2, h3⟩

set_option maxRecDepth 20000 in
set_option maxHeartbeats 8000000 in
theorem implUa_c (v : Value) (xs : List Dd) (w : World) (hv : Dds w v xs) (hf : FitsDd xs) (_hn : xs.length ≤ 1048576) :
    Calls Tryz.prog 34 #[v] w (GivesDet w (uaF xs)) := by
  unfold GivesDet uaF
  obtain ⟨A, c, rfl⟩ := Dds_slice hv
  have KD := Lib.hid (deductionCode_c _ [xs] _ (DdL.one (T := 27) hv) (fun i hi => by obtain rfl : i = 0 := (by simpa using hi); exact hf))
  have HAL := Lib.hid ((Grew.refl w).alloc (.cells #[.slice A xs.length c] 27))
  by_cases hd : dcode [xs] = 0
  case neg =>
    rw [if_neg hd]
    have e0 : (dcode [xs] == 0) = false := by simpa using hd
    clear hv hf hd
    generalize dcode [xs] = d at *
    go_enter Tryz.func34, Tryz.ntmps34
    go_wp2_with fail
    refine (KD.out).mono ?_
    rintro e w1 ⟨rfl, hg1⟩
    go_wp2_with fail
    go_ret2
    exact ⟨_, rfl, OwnI.nil_ _ _, HAL.out.trans hg1⟩
  rw [if_pos hd]
  rw [hd] at KD
  obtain ⟨hn0, hn1, hfb⟩ := dcode_zero hd
  have KN := Lib.hid (fun W (hW : Grew w W) => neededSteps_c _ xs W (hv.grew hW) hfb hn0 _hn)
  unfold GivesB at KN
  have hM : (lst xs).2.2.1.length ≤ 12 := (step_good hfb (lst_at hn0)).1
  have KR := Lib.hid (fun W (hW : Grew w W) => result_c _ xs (lst xs) W (hv.grew hW) hn0 (lst_at hn0))
  unfold GivesD1 at KR
  have hS := srt_uaL hfb (uu xs) (lst xs).2.2.1.length
  unfold srt at hS
  have HS := Lib.hid hS
  rcases hv with ⟨_, h0⟩ | ⟨b, o, c', hv, hc, hm, hb, hcell⟩
  · rw [h0] at hn0; exact absurd rfl hn0
  obtain ⟨rfl, rfl⟩ : A = some ⟨b, o, none⟩ ∧ c = c' := by simpa using hv
  have HX := Lib.hid (fun j (hj : j < xs.length) => (⟨xs[j], List.getElem?_eq_getElem hj⟩ : ∃ x, xs[j]? = some x))
  have HY := Lib.hid (fun j x (hx : xs[j]? = some x) h => uaL_yes (U := uu xs) (M := (lst xs).2.2.1.length) hx h)
  have HN := Lib.hid (fun j x (hx : xs[j]? = some x) h => uaL_no (U := uu xs) (M := (lst xs).2.2.1.length) hx h)
  have HLn := Lib.hid (fun j => uaL_len (uu xs) (lst xs).2.2.1.length xs j)
  have HZ : Hid (uaL (uu xs) (lst xs).2.2.1.length xs 0 = []) := Lib.hid rfl
  have HC := Lib.hid hcell
  have hUU : usd (fun i => (xs.getD i dd0).2.1) xs.length xs.length = uu xs := rfl
  rw [hUU] at KN
  clear hd hfb hv hcell hf hUU hS
  generalize lst xs = y at *
  obtain ⟨s0, sA, ss, sc, sn⟩ := y
  simp only at *
  generalize uu xs = U at *
  generalize hML : ss.length = M at *
  have HML := Lib.hid hML
  clear hML
  generalize hN : xs.length = n at *
  clear hN
  go_enter Tryz.func34, Tryz.ntmps34
  go_wp2_with fail
  refine (KD.out).mono ?_
  rintro e w1 ⟨rfl, hg1⟩
  have g1 := HAL.out.trans hg1
  clear KD HAL hg1
  go_wp2_with fail
  refine (KN.out _ g1).mono ?_
  rintro e w2 ⟨gb, hgb, rfl, hbr, hg2⟩
  have HBR := Lib.hid hbr
  have g2 := g1.trans hg2
  clear KN hg2 hbr hgb
  go_wp2_with fail
  go_loopw [5, 18] (fun vv i wr => ∃ (j : Nat), j ≤ n ∧ i = .int .i64 j ∧ Hid (OwnI wr w.heap.size vv (uaL U M xs j)) ∧ Grew w wr ∧ Hid (BRow wr gb n U)) (fun _ i _ => n - (intOf i).toNat)
  case atStart => exact ⟨0, Nat.zero_le _, rfl, by rw [HZ.out]; exact Lib.hid (OwnI.nil_ _ _), g2, HBR⟩
  clear g1 g2 HBR
  case round =>
    obtain ⟨j, hj, rfl, hO, hB, hR⟩ := hrel
    obtain ⟨Ah, ch, rfl⟩ := ints_slice hO.out.ints
    by_cases hlt : j < n
    · obtain ⟨x, hx⟩ := HX.out j hlt
      have hyes := Lib.hid (HY.out j x hx)
      have hno := Lib.hid (HN.out j x hx)
      obtain ⟨up, ua, hcl, hup, hus⟩ := HC.out j x hx
      obtain ⟨k0, k1, k2, k3, k4⟩ := hcl.grew hb hB
      have kb := hR.out.cell (p := j) hlt
      obtain ⟨A1, ca1, rfl⟩ := ints_slice hup
      obtain ⟨A2, ca2, rfl⟩ := strs_slice hus
      have HDP : Hid (uaP U M j x = (U j && x.1 == 1 && decide (x.2.2.2.2 < (M : Int)))) := Lib.hid rfl
      clear hcl hup hus hx
      generalize hup9 : uaP U M j x = up9 at *
      clear hup9
      obtain ⟨r0, rA, rs, rc, rn⟩ := x
      simp only at *
      have hljl := HLn.out j
      generalize uaL U M xs j = Lj at *
      generalize hk9 : uaL U M xs (j + 1) = Lk at *
      have HK9 := Lib.hid hk9
      clear hk9
      have hlj := Lib.hid (show Lj.length ≤ 1048576 by omega)
      obtain ⟨wB, hwB⟩ : ∃ wB, wB = wr.alloc (.cells #[.int .i64 r0, .slice A1 rA.length ca1, .slice A2 rs.length ca2, .string rc, .int .i64 rn] 50) := ⟨_, rfl⟩
      have gB := Lib.hid (show Grew wr wB by rw [hwB]; exact (Grew.refl wr).alloc _)
      have bB := Lib.hid (show wB.heap[wr.heap.size]? = some (.cells #[.int .i64 r0, .slice A1 rA.length ca1, .slice A2 rs.length ca2, .string rc, .int .i64 rn] 50) by rw [hwB]; exact blk_new wr _)
      have HW : Hid (∀ W, Grew wB W → W.heap[wr.heap.size]? = some (.cells #[.int .i64 r0, .slice A1 rA.length ca1, .slice A2 rs.length ca2, .string rc, .int .i64 rn] 50)) := Lib.hid (fun W hW => (hW.block (blk_lt bB.out)).trans bB.out)
      have q0 : ∀ W, Grew wB W → W.cell? ⟨wr.heap.size, 0, none⟩ = some (.int .i64 r0) := fun W hW => by rw [blk_cell (HW.out W hW)]; rfl
      have q4 : ∀ W, Grew wB W → W.cell? ⟨wr.heap.size, 4, none⟩ = some (.int .i64 rn) := fun W hW => by rw [blk_cell (HW.out W hW)]; rfl
      have rB := Lib.hid (Grew.refl wB)
      have gwB := hB.trans gB.out
      have HO := Lib.hid (hO.out.grew gB.out)
      have HR := Lib.hid (hR.out.grew gB.out)
      have HWB := Lib.hid hwB
      clear hO hR bB
      cases hu : U j with
      | false =>
        rw [hu] at kb HDP
        have he := Lib.hid (hno.out HDP.out)
        clear hyes hno hu HDP KR
        go_wp2_with fail
        rw [← hwB]
        clear hwB
        go_wp2_with fail
        go_quiet (fail)
        go_wp2_with fail
        go_roundw
        case rel => exact ⟨j + 1, by omega, by go_num, by rw [HK9.out, he.out]; exact Lib.hid (HO.out.grew (rB.out.drewN _)), gwB.drewN _, Lib.hid (HR.out.grew (rB.out.drewN _))⟩
        case measure => simp [intOf]; omega
      | true =>
        rw [hu] at kb HDP
        simp only [Bool.true_and] at HDP
        by_cases h1 : r0 = 1
        case neg =>
          have hb1 : (r0 == 1) = false := by simpa using h1
          have he := Lib.hid (hno.out (by rw [HDP.out, hb1]; rfl))
          have r1 := rB.out
          clear hyes hno hu HDP KR
          go_wp2_with fail
          rw [← hwB]
          clear hwB
          go_wp2_with fail
          go_quiet (fail)
          go_wp2_with fail
          go_roundw
          case rel => exact ⟨j + 1, by omega, by go_num, by rw [HK9.out, he.out]; exact Lib.hid (HO.out.grew (rB.out.drewN _)), gwB.drewN _, Lib.hid (HR.out.grew (rB.out.drewN _))⟩
          case measure => simp [intOf]; omega
        subst h1
        have kr := Lib.hid (fun W (hW : Grew wB W) => KR.out W (gwB.trans hW))
        by_cases h2 : rn < (M : Int)
        case pos =>
          have he := Lib.hid (hyes.out (by rw [HDP.out]; simpa using h2))
          have r1 := rB.out
          have hd1 := rB.out.drew
          have fld := fld2
          clear hyes hno hu HDP KR
          go_wp2_with fail
          rw [← hwB]
          clear hwB
          go_wp2_with fail
          go_region_held3 (fun W' => Grew wB W') (first | with_reducible assumption)
            (first
             | (go_at_call 68; have hz := hkR; refine (sizeS_q _ _ _ hM3 _).mono ?_; rintro e wz ⟨rfl, rfl⟩)
             | (go_at_call 42; refine (kr.out _ hd1).mono ?_; rintro e wR ⟨vp, va, rfl, hvp, hva, hgR⟩; have hkR := hd1.trans hgR; obtain ⟨VP, vpc, rfl⟩ := ints_slice hvp; obtain ⟨VA, vac, rfl⟩ := strs_slice hva; rw [HML.out]; have hM3 : M ≤ 9223372036854775807 := by omega))
          all_goals have gR := gwB.trans hkR
          all_goals go_wp2_with (first | (at_builtin; refine wpList_appI (w0 := w) _ _ rfl rfl _ Lj rfl (HO.out.grew (hkR.alloc _)) (gR.alloc _) _ rn rfl (by first | exact rd_litI _ _ _ | exact rd_litI2 _ _ _ _) hlj.out ?_; intro v3 w3 hown3 hg3 hby3))
          all_goals go_roundw
          all_goals first
            | exact ⟨j + 1, by omega, by go_num, by rw [HK9.out, he.out]; exact Lib.hid hown3, hg3, Lib.hid ((HR.out.grew (hkR.alloc _)).by_ (HO.out.grew (hkR.alloc _)) hby3)⟩
            | (simp [intOf]; omega)
        case neg =>
          have he := Lib.hid (hno.out (by rw [HDP.out]; simpa using h2))
          have r1 := rB.out
          have hd1 := rB.out.drew
          have fld := fld2
          clear hyes hno hu HDP KR
          go_wp2_with fail
          rw [← hwB]
          clear hwB
          go_wp2_with fail
          go_region_held3 (fun W' => Grew wB W') (first | with_reducible assumption)
            (first
             | (go_at_call 68; have hz := hkR; refine (sizeS_q _ _ _ hM3 _).mono ?_; rintro e wz ⟨rfl, rfl⟩)
             | (go_at_call 42; refine (kr.out _ hd1).mono ?_; rintro e wR ⟨vp, va, rfl, hvp, hva, hgR⟩; have hkR := hd1.trans hgR; obtain ⟨VP, vpc, rfl⟩ := ints_slice hvp; obtain ⟨VA, vac, rfl⟩ := strs_slice hva; rw [HML.out]; have hM3 : M ≤ 9223372036854775807 := by omega))
          all_goals have gR := gwB.trans hkR
          all_goals go_wp2_with fail
          all_goals go_roundw
          all_goals first
            | exact ⟨j + 1, by omega, by go_num, by rw [HK9.out, he.out]; exact Lib.hid (HO.out.grew hkR), gR, Lib.hid (HR.out.grew hkR)⟩
            | (simp [intOf]; omega)
    · obtain rfl : j = n := by omega
      have hln := HLn.out j
      have KS := Lib.hid (sortI_c w _ _ _ hB hO.out (by omega))
      have KT := Lib.hid (fun W u (h1 : Grew w W) (h2 : OwnI W w.heap.size u ((uaL U M xs j).mergeSort fun x y => decide (x ≤ y))) => compactI_c w W u _ h1 h2 (by rw [List.length_mergeSort]; omega))
      rw [HS.out] at KT
      generalize (uaL U M xs j).mergeSort (fun x y => decide (x ≤ y)) = Lm at *
      generalize hLr : below M (fnd U xs j) = Lr at *
      have HLr := Lib.hid hLr
      clear hLr
      generalize uaL U M xs j = Lj at *
      go_wp2_with fail
      refine (KS.out).mono ?_
      rintro e w3 ⟨rfl, ho3, hg3⟩
      have HO3 := Lib.hid ho3
      clear ho3
      go_wp2_with fail
      refine (KT.out _ _ hg3 HO3.out).mono ?_
      rintro e w4 ⟨u, rfl, ho4, hg4⟩
      have HO4 := Lib.hid ho4
      clear ho4
      go_wp2_with fail
      go_ret2
      rw [HLr.out]
      exact ⟨_, rfl, HO4.out, hg4⟩
end Go.Proofs.YtofeeenjlaljpaaGreat

/- UsedAssumptions of the reference. -/
namespace Go.Proofs.YtofeeenjlaljpaaGreat
open Go.RowKit

set_option maxRecDepth 20000 in
set_option maxHeartbeats 8000000 in
theorem specUa_c (v : Value) (xs : List Dd) (w : World) (hv : Dds w v xs) (hf : FitsDd xs) (_hn : xs.length ≤ 1048576) :
    Calls Tryz.prog 33 #[v] w (GivesDet w (uaF xs)) := by
  unfold GivesDet uaF
  obtain ⟨A, c, rfl⟩ := Dds_slice hv
  have KD := Lib.hid (l25Code_c _ [xs] _ (DdL.one (T := 27) hv) (fun i hi => by obtain rfl : i = 0 := (by simpa using hi); exact hf) (by simp))
  have HAL := Lib.hid ((Grew.refl w).alloc (.cells #[.slice A xs.length c] 27))
  by_cases hd : dcode [xs] = 0
  case neg =>
    rw [if_neg hd]
    have e0 : (dcode [xs] == 0) = false := by simpa using hd
    clear hv hf hd
    generalize dcode [xs] = d at *
    go_enter Tryz.func33, Tryz.ntmps33
    go_wp2_with fail
    refine (KD.out).mono ?_
    rintro e w1 ⟨rfl, hg1⟩
    go_wp2_with fail
    go_ret2
    exact ⟨_, rfl, OwnI.nil_ _ _, HAL.out.trans hg1⟩
  rw [if_pos hd]
  rw [hd] at KD
  obtain ⟨hn0, hn1, hfb⟩ := dcode_zero hd
  have KN := Lib.hid (fun W (hW : Grew w W) => l25Used_c _ xs W (hv.grew hW) hfb hn0 _hn)
  unfold GivesB at KN
  have hM : (lst xs).2.2.1.length ≤ 12 := (step_good hfb (lst_at hn0)).1
  have KR := Lib.hid (fun W (hW : Grew w W) => l25Last_c _ xs (lst xs) W (hv.grew hW) hn0 (lst_at hn0))
  unfold GivesD1 at KR
  rcases hv with ⟨_, h0⟩ | ⟨b, o, c', hv, hc, hm, hb, hcell⟩
  · rw [h0] at hn0; exact absurd rfl hn0
  obtain ⟨rfl, rfl⟩ : A = some ⟨b, o, none⟩ ∧ c = c' := by simpa using hv
  have HX := Lib.hid (fun j (hj : j < xs.length) => (⟨xs[j], List.getElem?_eq_getElem hj⟩ : ∃ x, xs[j]? = some x))
  have HF := Lib.hid (fun j x m (hx : xs[j]? = some x) => fnd_succ (U := uu xs) (m := m) hx)
  have HF0 := Lib.hid (fun m => fnd_zero (uu xs) xs m)
  have HY := Lib.hid (fun m (h : fnd (uu xs) xs xs.length m = true) => below_yes (p := fnd (uu xs) xs xs.length) h)
  have HN := Lib.hid (fun m (h : fnd (uu xs) xs xs.length m = false) => below_no (p := fnd (uu xs) xs xs.length) h)
  have HLn := Lib.hid (fun m => below_len m (fnd (uu xs) xs xs.length))
  have HZ := Lib.hid (below_zero (fnd (uu xs) xs xs.length))
  have HC := Lib.hid hcell
  have hUU : usd (fun i => (xs.getD i dd0).2.1) xs.length xs.length = uu xs := rfl
  rw [hUU] at KN
  clear hd hfb hv hcell hf hUU
  generalize lst xs = y at *
  obtain ⟨s0, sA, ss, sc, sn⟩ := y
  simp only at *
  generalize uu xs = U at *
  generalize hML : ss.length = M at *
  have HML := Lib.hid hML
  clear hML
  generalize hN : xs.length = n at *
  clear hN
  go_enter Tryz.func33, Tryz.ntmps33
  go_wp2_with fail
  refine (KD.out).mono ?_
  rintro e w1 ⟨rfl, hg1⟩
  have g1 := HAL.out.trans hg1
  clear KD HAL hg1
  go_wp2_with fail
  refine (KN.out _ g1).mono ?_
  rintro e w2 ⟨gb, hgb, rfl, hbr, hg2⟩
  have HBR := Lib.hid (hbr.grew ((Grew.refl w2).alloc (.cells #[] 2)))
  have g2 := g1.trans hg2
  have he2 := Lib.hid ((own_emptyI w2).base g2.size)
  have ga2 := g2.alloc (.cells #[] 2)
  clear KN hg2 hbr hgb g1
  go_wp2_with fail
  go_loopw [6, 7] (fun vv i wr => ∃ (m : Nat), m ≤ M ∧ i = .int .i64 m ∧ Hid (OwnI wr w.heap.size vv (below m (fnd U xs n))) ∧ Grew w wr ∧ Hid (BRow wr gb n U)) (fun _ i _ => M - (intOf i).toNat)
  case atStart => exact ⟨0, Nat.zero_le _, rfl, by rw [HZ.out]; exact he2, ga2, HBR⟩
  clear g2 ga2 he2 HBR
  case round =>
    obtain ⟨m, hm2, rfl, hO, hB, hR⟩ := hrel
    obtain ⟨Ah, ch, rfl⟩ := ints_slice hO.out.ints
    go_wp2_with fail
    refine (KR.out _ hB).mono ?_
    rintro e w5 ⟨vp, va, rfl, hvp, hva, hg5⟩
    obtain ⟨VP, vpc, rfl⟩ := ints_slice hvp
    obtain ⟨VA, vac, rfl⟩ := strs_slice hva
    rw [HML.out]
    have g5 := hB.trans hg5
    have HO := Lib.hid (hO.out.grew hg5)
    have HR := Lib.hid (hR.out.grew hg5)
    have fld := fld2
    clear hO hR hg5 hvp hva hB
    by_cases hlt : m < M
    · have hyes := Lib.hid (HY.out m)
      have hno := Lib.hid (HN.out m)
      have hf0 := Lib.hid (HF0.out m)
      have hmm := HLn.out m
      generalize below m (fnd U xs n) = Lj at *
      generalize hk9 : below (m + 1) (fnd U xs n) = Lk at *
      have HK9 := Lib.hid hk9
      clear hk9
      have hlj := Lib.hid (show Lj.length ≤ 1048576 by omega)
      go_wp2_with fail
      go_loopw [8, 9] (fun fv i wx => ∃ (j : Nat), j ≤ n ∧ i = .int .i64 j ∧ fv = .bool (fnd U xs j m) ∧ Grew w wx ∧ Hid (OwnI wx w.heap.size (.slice (Ah) Lj.length ch) Lj) ∧ Hid (BRow wx gb n U)) (fun _ i _ => n - (intOf i).toNat)
      case atStart => exact ⟨0, Nat.zero_le _, rfl, by rw [hf0.out], g5, HO, HR⟩
      clear g5 HO HR
      case round =>
        obtain ⟨j, hj, rfl, rfl, hB, hO, hR⟩ := hrel
        by_cases hlt2 : j < n
        · obtain ⟨x, hx⟩ := HX.out j hlt2
          have hs := HF.out j x m hx
          unfold fndP at hs
          obtain ⟨up, ua, hcl, hup, hus⟩ := HC.out j x hx
          obtain ⟨k0, k1, k2, k3, k4⟩ := hcl.grew hb hB
          have kb := hR.out.cell (p := j) hlt2
          clear hcl hup hus hx
          obtain ⟨r0, rA, rs, rc, rn⟩ := x
          simp only at *
          generalize hf9 : fnd U xs (j + 1) m = f9 at *
          have HF9 := Lib.hid hf9
          clear hf9
          generalize fnd U xs j m = f8 at *
          cases f8 with
          | true =>
            rw [Bool.true_or] at hs
            replace hs := Lib.hid hs
            go_wp2_with fail
            go_roundw
            case rel => exact ⟨j + 1, by omega, by go_num, by rw [HF9.out, hs.out], hB, hO, hR⟩
            case measure => simp [intOf]; omega
          | false =>
            rw [Bool.false_or] at hs
            cases hu : U j with
            | false =>
              rw [hu] at kb hs
              simp only [Bool.false_and] at hs
              replace hs := Lib.hid hs
              clear hu
              go_wp2_with fail
              go_roundw
              case rel => exact ⟨j + 1, by omega, by go_num, by rw [HF9.out, hs.out], hB, hO, hR⟩
              case measure => simp [intOf]; omega
            | true =>
              rw [hu] at kb hs
              simp only [Bool.true_and] at hs
              clear hu
              by_cases h1 : r0 = 1
              case neg =>
                have hb1 : (r0 == 1) = false := by simpa using h1
                rw [hb1, Bool.false_and] at hs
                replace hs := Lib.hid hs
                go_wp2_with fail
                go_roundw
                case rel => exact ⟨j + 1, by omega, by go_num, by rw [HF9.out, hs.out], hB, hO, hR⟩
                case measure => simp [intOf]; omega
              subst h1
              have hb1 : ((1 : Int) == 1) = true := rfl
              rw [hb1, Bool.true_and] at hs
              clear hb1
              by_cases h2 : rn = (m : Int)
              case neg =>
                have hb2 : (rn == (m : Int)) = false := by simpa using h2
                rw [hb2] at hs
                replace hs := Lib.hid hs
                go_wp2_with fail
                go_roundw
                case rel => exact ⟨j + 1, by omega, by go_num, by rw [HF9.out, hs.out], hB, hO, hR⟩
                case measure => simp [intOf]; omega
              subst h2
              have hb2 : ((m : Int) == (m : Int)) = true := by simp
              rw [hb2] at hs
              replace hs := Lib.hid hs
              clear hb2
              go_wp2_with fail
              go_roundw
              case rel => exact ⟨j + 1, by omega, by go_num, by rw [HF9.out, hs.out], hB, hO, hR⟩
              case measure => simp [intOf]; omega
        · obtain rfl : j = n := by omega
          generalize hf9 : fnd U xs j m = f9 at *
          have HF9 := Lib.hid hf9
          clear hf9 HF HX
          cases f9 with
          | true =>
            have he := Lib.hid (hyes.out rfl)
            clear hyes hno
            go_wp2_with (first | (at_builtin; refine wpList_appI (w0 := w) _ _ rfl rfl _ Lj rfl (hO.out.grew ((Grew.refl _).alloc _)) (hB.alloc _) _ (m : Int) rfl (by first | exact rd_litI _ _ _ | exact rd_litI2 _ _ _ _) hlj.out ?_; intro v3 w3 hown3 hg3 hby3))
            go_roundw
            case rel => exact ⟨m + 1, by omega, by go_num, by rw [HK9.out, he.out]; exact Lib.hid hown3, hg3, Lib.hid ((hR.out.grew ((Grew.refl _).alloc _)).by_ (hO.out.grew ((Grew.refl _).alloc _)) hby3)⟩
            case measure => simp [intOf]; omega
          | false =>
            have he := Lib.hid (hno.out rfl)
            clear hyes hno
            go_wp2_with fail
            go_roundw
            case rel => exact ⟨m + 1, by omega, by go_num, by rw [HK9.out, he.out]; exact hO, hB, hR⟩
            case measure => simp [intOf]; omega
    · obtain rfl : m = M := by omega
      go_wp2_with fail
      go_ret2
      exact ⟨_, rfl, HO.out, g5⟩
end Go.Proofs.YtofeeenjlaljpaaGreat

/- The law FnExactUsedAssumptions, walked. -/
namespace Go.Proofs.YtofeeenjlaljpaaGreat
open Go.RowKit

theorem lawUa_c (v0 : Value) (L0 : List Dd) (w : World) (h0 : ArgDd w v0 L0) :
    Calls Tryz.prog 9 #[v0] w fun e w' => e = .returned (.bool true) ∧ Grew w w' := by
  have Z0 := Lib.hid (fun W l (hW : Grew w W) (a0 : 0 ≤ l) (a1 : l ≤ 1048576) => szDeductionS_c v0 L0 l W (h0.grew hW) a0 a1)
  have T0 := Lib.hid (fun W (hW : Grew w W) => toDeductionS_x v0 L0 W (h0.grew hW))
  clear h0
  go_enter Tryz.func9, Tryz.ntmps9
  go_wp2_with fail
  refine (Z0.out _ _ (Grew.refl w) (by omega) (by omega)).mono ?_
  rintro e w1 ⟨r0, rfl, ⟨hm0, hs0⟩, hg1⟩
  have z1 := Lib.hid hg1.size
  have g1 : Grew w w1 := (Grew.refl w).trans hg1
  clear hg1
  by_cases hr0 : r0 < 0
  · clear hs0
    go_wp2_with fail
    go_ret
    exact ⟨rfl, g1⟩
  obtain ⟨hn0, hf0⟩ := hs0 (by omega)
  have F0 : Hid (FitsDd L0) := Lib.hid hf0
  clear hs0 hf0
  have KS := Lib.hid (fun u0 W x0 => specUa_c u0 L0 W x0 F0.out (by omega))
  have KI := Lib.hid (fun u0 W x0 => implUa_c u0 L0 W x0 F0.out (by omega))
  have hlen := uaF_len F0.out
  generalize uaF L0 = rr at *
  obtain ⟨xs, c⟩ := rr
  simp only at hlen
  unfold GivesDet at KS KI
  simp only at KS KI
  have hcc : (c != c) = false := by simp
  go_wp2_with fail
  refine (T0.out _ g1 hn0 F0.out).mono ?_
  rintro e w2 ⟨a0, rfl, oa0, hg2⟩
  have z2 := Lib.hid hg2.size
  have g2 : Grew w w2 := g1.trans hg2
  clear hg2
  go_wp2_with fail
  refine (KS.out _ _ oa0.rd).mono ?_
  rintro e w3 ⟨q0, rfl, hq, hg3⟩
  have HQB := Lib.hid (fun g (hg : q0.ownBlock = some g) => (hq.lt g hg).2)
  have z3 := Lib.hid hg3.size
  have g3 : Grew w w3 := g2.trans hg3
  clear hg3 oa0
  go_wp2_with fail
  refine (T0.out _ g3 hn0 F0.out).mono ?_
  rintro e w4 ⟨x0, rfl, ox0, hg4⟩
  have z4 := Lib.hid hg4.size
  have g4 : Grew w w4 := g3.trans hg4
  replace hq := hq.grew hg4
  clear hg4
  go_wp2_with fail
  refine (KI.out _ _ ox0.rd).mono ?_
  rintro e w5 ⟨g0, rfl, hog, hg5⟩
  have HGB := Lib.hid (fun g (hg : g0.ownBlock = some g) => (hog.lt g hg).1)
  have z5 := Lib.hid hg5.size
  have g5 : Grew w w5 := g4.trans hg5
  replace hq := hq.grew hg5
  replace ox0 := ox0.grew hg5
  clear hg5
  go_wp2_with fail
  refine (eqInt64S_yes _ _ xs _ hog.ints hq.ints (by omega)).mono ?_
  rintro e w6 ⟨rfl, hg6⟩
  have z6 := Lib.hid hg6.size
  have g6 : Grew w w6 := g5.trans hg6
  replace hq := hq.grew hg6
  replace ox0 := ox0.grew hg6
  replace hog := hog.grew hg6
  clear hg6
  go_wp2_with fail
  refine (T0.out _ g6 hn0 F0.out).mono ?_
  rintro e w7 ⟨y0, rfl, oy0, hg7⟩
  have z7 := Lib.hid hg7.size
  have g7 : Grew w w7 := g6.trans hg7
  replace hq := hq.grew hg7
  replace ox0 := ox0.grew hg7
  replace hog := hog.grew hg7
  clear hg7
  go_wp2_with fail
  refine (eqDeductionS_yes _ _ L0 _ ox0.rd oy0.rd (by omega) F0.out).mono ?_
  rintro e w8 ⟨rfl, hg8⟩
  have z8 := Lib.hid hg8.size
  have g8 : Grew w w8 := g7.trans hg8
  replace hq := hq.grew hg8
  replace ox0 := ox0.grew hg8
  replace hog := hog.grew hg8
  clear hg8 oy0
  have hdk0 := dk_le (k := 1) F0.out L0.length (Nat.le_refl _)
  go_wp2_with fail
  refine (markDeductionS_x _ L0 _ _ (1) _ ox0 F0.out (by omega) (by omega) (by omega)).mono ?_
  rintro e w9 ⟨rfl, _, hsp⟩
  replace hq : OwnI w9 _ q0 xs := hsp.own hq (fun g hg => .inl (by have h1 := HQB.out g hg; have y1 := z1.out; have y2 := z2.out; have y3 := z3.out; have y4 := z4.out; omega))
  replace hog : OwnI w9 _ g0 xs := hsp.own hog (fun g hg => .inr (by have h1 := HGB.out g hg; have y1 := z1.out; have y2 := z2.out; have y3 := z3.out; have y4 := z4.out; omega))
  have g9 : Grew w w9 := hsp.old g8 (by have y1 := z1.out; have y2 := z2.out; have y3 := z3.out; have y4 := z4.out; omega)
  clear hsp ox0
  generalize hkk0 : dk 1 L0 L0.length = kk0 at *
  clear hkk0
  go_wp2_with fail
  refine (eqInt64S_yes _ _ xs _ hog.ints hq.ints (by omega)).mono ?_
  rintro e w10 ⟨rfl, hg10⟩
  have z10 := Lib.hid hg10.size
  have g10 : Grew w w10 := g9.trans hg10
  replace hq := hq.grew hg10
  replace hog := hog.grew hg10
  clear hg10
  go_wp2_with fail
  refine (markInt64S_m _ xs _ 1 _ hog (by omega) (by omega) (by omega)).mono ?_
  rintro e w11 ⟨rfl, hog, hrow⟩
  replace hq : OwnI w11 _ q0 xs := own_row hq hrow (fun g hg hg2 => by have h1 := HQB.out g hg2; have h2 := HGB.out g hg; have y1 := z1.out; have y2 := z2.out; have y3 := z3.out; have y4 := z4.out; omega)
  have g11 : Grew w w11 := grew_row g10 hrow (fun g hg => by have h2 := HGB.out g hg; have y1 := z1.out; have y2 := z2.out; have y3 := z3.out; have y4 := z4.out; omega)
  clear hrow
  go_wp2_with fail
  refine (heldInt64S_c _ xs.length 1 _ hog.ints (by omega) (by omega) (by omega)).mono ?_
  rintro e w12 ⟨rfl, hg12⟩
  have z12 := Lib.hid hg12.size
  have g12 : Grew w w12 := g11.trans hg12
  replace hq := hq.grew hg12
  replace hog := hog.grew hg12
  clear hg12
  go_wp2_with fail
  refine (T0.out _ g12 hn0 F0.out).mono ?_
  rintro e w13 ⟨b0, rfl, ob0, hg13⟩
  have z13 := Lib.hid hg13.size
  have g13 : Grew w w13 := g12.trans hg13
  replace hq := hq.grew hg13
  replace hog := hog.grew hg13
  clear hg13
  go_wp2_with fail
  refine (KI.out _ _ ob0.rd).mono ?_
  rintro e w14 ⟨h0, rfl, hoh, hg14⟩
  have z14 := Lib.hid hg14.size
  have g14 : Grew w w14 := g13.trans hg14
  replace hq := hq.grew hg14
  replace hog := hog.grew hg14
  clear hg14
  go_wp2_with fail
  refine (eqInt64S_yes _ _ xs _ hoh.ints hq.ints (by omega)).mono ?_
  rintro e w15 ⟨rfl, hg15⟩
  have z15 := Lib.hid hg15.size
  have g15 : Grew w w15 := g14.trans hg15
  replace hq := hq.grew hg15
  replace hog := hog.grew hg15
  replace hoh := hoh.grew hg15
  clear hg15
  go_wp2_with fail
  refine (heldInt64S_c _ xs.length 1 _ hog.ints (by omega) (by omega) (by omega)).mono ?_
  rintro e w16 ⟨rfl, hg16⟩
  go_wp2_with fail
  go_ret
  exact ⟨rfl, g15.trans hg16⟩
end Go.Proofs.YtofeeenjlaljpaaGreat

/- What AssumeFirst answers; a step whose assumptions grow. -/
namespace Go.Proofs.YtofeeenjlaljpaaGreat
open Go.RowKit

/-- A step with a text ahead of its assumptions. -/
def asm (t : ByteArray) (x : Dd) : Dd := (x.1, x.2.1, t :: x.2.2.1, x.2.2.2.1, if x.1 = 1 then x.2.2.2.2 + 1 else x.2.2.2.2)
def mixA (t : ByteArray) (xs : List Dd) (j : Nat) : List Dd := (List.range xs.length).map fun i => if i < j then asm t (xs.getD i dd0) else xs.getD i dd0
theorem mixA_len (t : ByteArray) (xs : List Dd) (j : Nat) : (mixA t xs j).length = xs.length := by simp [mixA]
theorem mixA_at {t : ByteArray} {xs : List Dd} {i j : Nat} {x : Dd} (h : xs[i]? = some x) : (mixA t xs j)[i]? = some (if i < j then asm t x else x) := by
  have hi := (List.getElem?_eq_some_iff.1 h).1
  unfold mixA
  rw [List.getElem?_map, List.getElem?_range hi]
  have e : xs.getD i dd0 = x := by simp [List.getD, h]
  simp only [Option.map_some, e]
theorem mixA_none {t : ByteArray} {xs : List Dd} {i : Nat} (j : Nat) (h : xs[i]? = none) : (mixA t xs j)[i]? = none := List.getElem?_eq_none (by rw [mixA_len]; exact List.getElem?_eq_none_iff.1 h)
theorem mixA_zero (t : ByteArray) (xs : List Dd) : mixA t xs 0 = xs := by
  apply List.ext_getElem?
  intro i
  cases h : xs[i]? with
  | none => exact mixA_none _ h
  | some x => rw [mixA_at h, if_neg (by omega)]
theorem mixA_all (t : ByteArray) (xs : List Dd) : mixA t xs xs.length = xs.map (asm t) := by
  apply List.ext_getElem?
  intro i
  cases h : xs[i]? with
  | none => rw [mixA_none _ h, List.getElem?_map, h]; rfl
  | some x => rw [mixA_at h, if_pos (List.getElem?_eq_some_iff.1 h).1, List.getElem?_map, h]; rfl
theorem mixA_other {t : ByteArray} {xs : List Dd} {i j : Nat} (hij : i ≠ j) : (mixA t xs (j + 1))[i]? = (mixA t xs j)[i]? := by
  cases h : xs[i]? with
  | none => rw [mixA_none _ h, mixA_none _ h]
  | some y =>
    rw [mixA_at h, mixA_at h]
    by_cases hlt2 : i < j
    · rw [if_pos hlt2, if_pos (by omega)]
    · rw [if_neg hlt2, if_neg (by omega)]
/-- No room for one assumption more. -/
def full (x : Dd) : Bool := x.2.2.1.length == 12
noncomputable def asF (t : ByteArray) (xs : List Dd) : List Dd × Int :=
  if dcode [xs] = 0 then (if gp t = true then (if xs.any full = true then ([], 3) else (xs.map (asm t), 0)) else ([], 1)) else ([], dcode [xs])
theorem asF_len {t : ByteArray} {xs : List Dd} (hn : xs.length ≤ 1048576) : (asF t xs).1.length ≤ 1048576 := by
  unfold asF
  split
  · split
    · split
      · simp
      · simpa using hn
    · simp
  · simp
theorem gp_size {t : ByteArray} (h : gp t = true) : t.size ≤ 160 := by
  obtain ⟨h1, h2⟩ := fo_ok h
  have := tx_size h1.1
  rwa [h2] at this
theorem asF_fit {t : ByteArray} {xs : List Dd} (hf : FitsDd xs) : FitsDd (asF t xs).1 := by
  unfold asF
  split
  · rename_i h
    obtain ⟨h1, h2, h3⟩ := dcode_zero h
    split
    · rename_i ht
      split
      · exact FitsDd.nil
      · intro y hy
        obtain ⟨x, hx, rfl⟩ := List.mem_map.1 hy
        obtain ⟨k1, k2, k3, k4⟩ := hf x hx
        obtain ⟨i, hi, hxi⟩ := List.getElem_of_mem hx
        have hlen := (step_good h3 (i := i) (x := x) (by rw [← hxi]; exact List.getElem?_eq_getElem hi)).1
        refine ⟨k1, ?_, ?_, k4⟩
        · show (t :: x.2.2.1).length ≤ 1048576
          rw [List.length_cons]
          omega
        · intro i hi
          have hs := gp_size ht
          cases i with
          | zero => show t.size ≤ 1048576; omega
          | succ i =>
            have : i < x.2.2.1.length := by
              have : i + 1 < (t :: x.2.2.1).length := hi
              rw [List.length_cons] at this
              omega
            exact k3 i this
    · exact FitsDd.nil
  · exact FitsDd.nil
theorem good_num2 {xs : List Dd} (h : fbd xs xs.length = -1) {i : Nat} {x : Dd} (hx : xs[i]? = some x) (h1 : x.1 = 1) : 0 ≤ x.2.2.2.2 ∧ x.2.2.2.2 ≤ 12 := by
  have h0 := good_num h hx h1
  have hl := (step_good h hx).1
  refine ⟨h0, ?_⟩
  obtain ⟨y, hy, hg⟩ := fbd_all h i (List.getElem?_eq_some_iff.1 hx).1
  rw [hx] at hy
  obtain rfl := Option.some.inj hy
  rcases hg.2.2 with hi | he
  · rcases hi with ⟨_, hn, _⟩ | ⟨h2, _⟩ | ⟨h2, _⟩ | ⟨h2, _⟩ | ⟨h2, _⟩ | ⟨h2, _⟩
    · omega
    all_goals omega
  · rcases he with ⟨h2, _⟩ | ⟨h2, _⟩ | ⟨h2, _⟩ | ⟨h2, _⟩
    all_goals omega
theorem full_at {xs : List Dd} {i : Nat} {x : Dd} (hx : xs[i]? = some x) (h : full x = true) : xs.any full = true := by
  rw [List.any_eq_true]
  exact ⟨x, List.mem_of_getElem? hx, h⟩
theorem full_no {xs : List Dd} (h : xs.any full = false) {i : Nat} {x : Dd} (hx : xs[i]? = some x) : full x = false := by
  rw [List.any_eq_false] at h
  simpa using h x (List.mem_of_getElem? hx)
theorem full_none {xs : List Dd} (h : ∀ (i : Nat) (x : Dd), i < xs.length → xs[i]? = some x → full x = false) : xs.any full = false := by
  rw [List.any_eq_false]
  intro x hx
  obtain ⟨i, hi, rfl⟩ := List.getElem_of_mem hx
  rw [h i _ hi (List.getElem?_eq_getElem hi)]
  simp

/-- One inner row of texts is another one now. -/
theorem Dx.ins {w w1 W : World} {lo hi hi' n g j : Nat} {ys ys' : List Dd} {cur curW : Array Value} {ps us : Nat → Value} {x x' : Dd} {u : Value} (h : Dx w lo hi ys n cur ps us) (hh : w.heap[g]? = some (.cells cur 50 (0, 0))) (hj : j < n) (hx : ys[j]? = some x) (hx' : ys'[j]? = some x') (hP : x'.2.1 = x.2.1) (hys : ∀ i, i ≠ j → ys'[i]? = ys[i]?)
    (hb : w.grownBy w1 (us j).ownBlock) (hS : OwnS w1 lo u x'.2.2.1) (hu : u.ownBlock = (us j).ownBlock ∨ ∀ b, u.ownBlock = some b → hi ≤ b) (hu2 : ∀ b, u.ownBlock = some b → b < hi') (hhi : hi ≤ hi')
    (hW : Only g w1 W) (hn : DdRow curW (j * 5) x' (ps j) u) (hk : ∀ i y up ua, i ≠ j → DdRow cur (i * 5) y up ua → DdRow curW (i * 5) y up ua) :
    Dx W lo hi' ys' n curW ps (fun i => if i = j then u else us i) := by
  obtain ⟨k1, k2, k3⟩ := h.rows j x hj hx
  have hg1 : w1.heap[g]? = some (.cells cur 50 (0, 0)) := (World.grownBy.block hb g (blk_lt hh) (fun e => own_ne k3 hh tS_D e.symm)).trans hh
  have ap : ∀ k, k < n → k ≠ j → Apart u (us k) := fun k hk hkj b hb1 hb2 => by
    rcases hu with hu | hu
    · rw [hu] at hb1
      rcases Nat.lt_or_ge j k with h1 | h1
      · exact h.apS j k h1 hk b hb1 hb2
      · exact (h.apS k j (by omega) hj) b hb2 hb1
    · have h1 := hu b hb1
      have h2 := h.hiS k b hk hb2
      omega
  refine ⟨fun k y hk1 hy => ?_, fun i b hi hb => Nat.lt_of_lt_of_le (h.hiP i b hi hb) hhi, fun i b hi hb => ?_, h.apP, fun i k hik hk => ?_⟩
  · by_cases hkj : k = j
    · subst hkj
      simp only [if_true]
      have e : y = x' := Option.some.inj (hy.symm.trans hx')
      subst e
      refine ⟨hn, ?_, own_only hS hW (own_ne hS hg1 tS_D)⟩
      have p1 : OwnI w1 lo (ps k) x.2.1 := own_apart k2 hb ((own_types k2 k3 tI_S).symm)
      rw [← hP] at p1
      exact own_only p1 hW (own_ne p1 hg1 tI_D)
    · simp only [if_neg hkj]
      rw [hys k hkj] at hy
      obtain ⟨m1, m2, m3⟩ := h.rows k y hk1 hy
      have apS : Apart (us j) (us k) := by
        rcases Nat.lt_or_ge j k with h1 | h1
        · exact h.apS j k h1 hk1
        · exact (h.apS k j (by omega) hj).symm
      have q2 : OwnI w1 lo (ps k) y.2.1 := own_apart m2 hb ((own_types m2 k3 tI_S).symm)
      have q3 : OwnS w1 lo (us k) y.2.2.1 := own_apart m3 hb apS
      exact ⟨hk k y _ _ hkj m1, own_only q2 hW (own_ne q2 hg1 tI_D), own_only q3 hW (own_ne q3 hg1 tS_D)⟩
  · by_cases hij : i = j
    · simp only [if_pos hij] at hb; exact hu2 b hb
    · simp only [if_neg hij] at hb; exact Nat.lt_of_lt_of_le (h.hiS i b hi hb) hhi
  · by_cases hij : i = j
    · simp only [if_pos hij, if_neg (show ¬ k = j by omega)]
      exact ap k hk (by omega)
    · by_cases hkj : k = j
      · simp only [if_neg hij, if_pos hkj]
        exact (ap i (by omega) hij).symm
      · simp only [if_neg hij, if_neg hkj]
        exact h.apS i k hik hk
theorem asrow {cur : Array Value} {j : Nat} {x : Dd} {up ua u : Value} (x' : Dd) (h : DdRow cur (j * 5) x up ua) (hs : j * 5 + 4 < cur.size) (h0 : x'.1 = x.1) (h1 : x'.2.2.2 = x.2.2.2) : DdRow (cur.setIfInBounds (j * 5 + 2) u) (j * 5) x' up u := by
  obtain ⟨k0, k1, k2, k3, k4⟩ := h
  unfold DdRow
  simp only [Array.getElem?_setIfInBounds]
  rw [h0, h1]
  refine ⟨?_, ?_, ?_, ?_, ?_⟩
  · rw [if_neg (by omega)]; exact k0
  · rw [if_neg (by omega)]; exact k1
  · rw [if_pos trivial, if_pos (by omega)]
  · rw [if_neg (by omega)]; exact k3
  · rw [if_neg (by omega)]; exact k4
theorem asrow2 {cur : Array Value} {j : Nat} {x : Dd} {up ua u n : Value} (x' : Dd) (h : DdRow cur (j * 5) x up ua) (hs : j * 5 + 4 < cur.size) (h0 : x'.1 = x.1) (h1 : x'.2.2.2.1 = x.2.2.2.1) (h2 : n = .int .i64 x'.2.2.2.2) : DdRow ((cur.setIfInBounds (j * 5 + 2) u).setIfInBounds (j * 5 + 4) n) (j * 5) x' up u := by
  obtain ⟨k0, k1, k2, k3, k4⟩ := h
  subst h2
  unfold DdRow
  simp only [Array.getElem?_setIfInBounds, Array.size_setIfInBounds]
  rw [h0, h1]
  refine ⟨?_, ?_, ?_, ?_, ?_⟩
  · rw [if_neg (by omega), if_neg (by omega)]; exact k0
  · rw [if_neg (by omega), if_neg (by omega)]; exact k1
  · rw [if_neg (by omega), if_pos trivial, if_pos (by omega)]
  · rw [if_neg (by omega), if_neg (by omega)]; exact k3
  · rw [if_pos trivial, if_pos (by omega)]
theorem askeep {cur : Array Value} {i j : Nat} {y : Dd} {up ua u : Value} (hij : i ≠ j) (h : DdRow cur (i * 5) y up ua) : DdRow (cur.setIfInBounds (j * 5 + 2) u) (i * 5) y up ua := by
  obtain ⟨k0, k1, k2, k3, k4⟩ := h
  unfold DdRow
  simp only [Array.getElem?_setIfInBounds]
  refine ⟨?_, ?_, ?_, ?_, ?_⟩
  · rw [if_neg (by omega)]; exact k0
  · rw [if_neg (by omega)]; exact k1
  · rw [if_neg (by omega)]; exact k2
  · rw [if_neg (by omega)]; exact k3
  · rw [if_neg (by omega)]; exact k4
theorem askeep2 {cur : Array Value} {i j : Nat} {y : Dd} {up ua u n : Value} (hij : i ≠ j) (h : DdRow cur (i * 5) y up ua) : DdRow ((cur.setIfInBounds (j * 5 + 2) u).setIfInBounds (j * 5 + 4) n) (i * 5) y up ua := by
  obtain ⟨k0, k1, k2, k3, k4⟩ := h
  unfold DdRow
  simp only [Array.getElem?_setIfInBounds, Array.size_setIfInBounds]
  refine ⟨?_, ?_, ?_, ?_, ?_⟩
  · rw [if_neg (by omega), if_neg (by omega)]; exact k0
  · rw [if_neg (by omega), if_neg (by omega)]; exact k1
  · rw [if_neg (by omega), if_neg (by omega)]; exact k2
  · rw [if_neg (by omega), if_neg (by omega)]; exact k3
  · rw [if_neg (by omega), if_neg (by omega)]; exact k4
end Go.Proofs.YtofeeenjlaljpaaGreat

/- slices.ContainsFunc over steps, with AssumeFirst's closure. -/
namespace Go.Proofs.YtofeeenjlaljpaaGreat
open Go.RowKit

theorem asc1_c (x : Dd) (up ua : Value) (W : World) (hup : Ints W up x.2.1) (hua : Strs W ua x.2.2.1) : Calls Tryz.prog 66 #[.agg #[.int .i64 x.1, up, ua, .string x.2.2.2.1, .int .i64 x.2.2.2.2]] W fun e W' => e = .returned (.bool (full x)) ∧ Grew W W' := by
  obtain ⟨A, c, rfl⟩ := ints_slice hup
  obtain ⟨A2, c2, rfl⟩ := strs_slice hua
  have hd : full x = ((x.2.2.1.length : Int) == 12) := by
    unfold full
    rw [Bool.eq_iff_iff]
    simp
    omega
  rw [hd]
  clear hup hua hd
  obtain ⟨r0, rA, rs, rc, rn⟩ := x
  simp only
  generalize rs.length = n at *
  go_enter Tryz.func66, Tryz.ntmps66
  go_wp2_with fail
  go_ret
  exact ⟨rfl, (Grew.refl W).alloc _⟩

set_option maxHeartbeats 2000000 in
theorem indexFuncA_c (v : Value) (xs : List Dd) (w : World) (h : Dds w v xs) (hn0 : xs.length ≠ 0) (hn : xs.length ≤ 1048576) :
    Calls Tryz.prog 97 #[v, .func (.func 66) #[] #[]] w fun e w' => ∃ r : Int, e = .returned (.int .i64 r) ∧ Grew w w' ∧ decide (0 ≤ r) = xs.any full := by
  rcases h with ⟨_, h0⟩ | ⟨b, o, c, rfl, hc, hm, hb, hcell⟩
  · rw [h0] at hn0; exact absurd rfl hn0
  have eg : ∀ args w, (callFunc 66 args).run Tryz.prog w = .ok (.enter 66 args) w := enters_of Tryz.func66 (by kernel_rfl) rfl
  obtain ⟨R, hR⟩ : ∃ R, R = xs.any full := ⟨_, rfl⟩
  rw [← hR]
  have HA := Lib.hid (fun k x (hx : xs[k]? = some x) h => hR.trans (full_at hx h))
  have HZ := Lib.hid (fun h => hR.trans (@full_none xs h))
  have HX := Lib.hid (fun j (hj : j < xs.length) => (⟨xs[j], List.getElem?_eq_getElem hj⟩ : ∃ x, xs[j]? = some x))
  have HC := Lib.hid hcell
  clear hcell hR
  generalize hN : xs.length = n at *
  clear hN
  go_enter Tryz.func97, Tryz.ntmps97
  go_wp2_with fail
  go_loopw [5, 8] (fun _ i wr => ∃ j : Nat, j ≤ n ∧ i = .int .i64 j ∧ Grew w wr ∧ Hid (∀ (i : Nat) (x : Dd), i < j → xs[i]? = some x → full x = false)) (fun _ i _ => n - (intOf i).toNat)
  case atStart => exact ⟨0, Nat.zero_le _, rfl, Grew.refl _, Lib.hid (fun i x hi => absurd hi (by omega))⟩
  case round =>
    obtain ⟨j, hj, rfl, hB, HJ⟩ := hrel
    by_cases hlt : j < n
    · obtain ⟨x, hx⟩ := HX.out j hlt
      obtain ⟨up, ua, hcl, hup, hua⟩ := HC.out j x hx
      obtain ⟨k0, k1, k2, k3, k4⟩ := hcl.grew hb hB
      have hz := Lib.hid (asc1_c x up ua wr (hup.grew hB) (hua.grew hB))
      have hA := Lib.hid (HA.out j x hx)
      have hS : Hid (full x = false → ∀ (i : Nat) (y : Dd), i < j + 1 → xs[i]? = some y → full y = false) := Lib.hid (fun h i y hi hy => by
        by_cases hlt : i < j
        · exact HJ.out i y hlt hy
        · obtain rfl : i = j := by omega
          rw [hx] at hy
          obtain rfl := Option.some.inj hy
          exact h)
      obtain ⟨A1, ca1, rfl⟩ := ints_slice hup
      obtain ⟨A2, ca2, rfl⟩ := strs_slice hua
      clear hcl hup hua hx
      generalize full x = f at *
      obtain ⟨r0, rA, rs, rc, rn⟩ := x
      simp only at *
      go_wp2_with fail
      go_at_fn 66
      refine (hz.out).mono ?_
      rintro e w1 ⟨rfl, hg1⟩
      have hB1 := hB.trans hg1
      cases f with
      | true =>
        have hv := hA.out rfl
        go_wp2_with fail
        go_ret
        exact ⟨_, rfl, hB1, by rw [hv]; simp⟩
      | false =>
        have hs := Lib.hid (hS.out rfl)
        clear hS hA
        go_wp2_with fail
        go_roundw
        case rel => exact ⟨j + 1, by omega, by go_num, hB1, hs⟩
        case measure => simp [intOf]; omega
    · obtain rfl : j = n := by omega
      have hv := Lib.hid (HZ.out (fun i x hi hx => HJ.out i x hi hx))
      go_wp2_with fail
      go_ret
      exact ⟨_, rfl, hB, by rw [hv.out]; rfl⟩
theorem containsFuncA_c (v : Value) (xs : List Dd) (w : World) (h : Dds w v xs) (hn0 : xs.length ≠ 0) (hn : xs.length ≤ 1048576) :
    Calls Tryz.prog 65 #[v, .func (.func 66) #[] #[]] w fun e w' => e = .returned (.bool (xs.any full)) ∧ Grew w w' := by
  have HI := Lib.hid (indexFuncA_c v xs w h hn0 hn)
  obtain ⟨A, c, rfl⟩ := Dds_slice h
  clear h hn0
  generalize xs.any full = R at *
  generalize xs.length = n at *
  go_enter Tryz.func65, Tryz.ntmps65
  go_wp2_with fail
  refine HI.out.mono ?_
  rintro e w1 ⟨r, rfl, hg1, hr⟩
  go_wp2_with fail
  go_ret
  exact ⟨by rw [← hr]; rfl, hg1⟩
end Go.Proofs.YtofeeenjlaljpaaGreat

/- Contracts of the library (sorting, compacting strings), laid at this program. -/
namespace Go.Proofs
open Go.Shelf
def Tryz.laysInsS_ren : Go.Shelf.Ren := ⟨fun | 22 => 67 | 29 => 98 | 30 => 99 | 36 => 120 | 17 => 150 | n => n, fun | 24 => 24 | 9 => 9 | 3 => 3 | 4 => 4 | 0 => 0 | n => n, fun | n => n⟩
theorem Tryz.laysInsS : Go.Proofs.Lays2.n22 Tryz.prog Tryz.laysInsS_ren := {
  mixed := by kernel_rfl
  f17 := Tryz.func150.trans (congrArg some (by kernel_rfl))
  f22 := Tryz.func67.trans (congrArg some (by kernel_rfl))
  f29 := Tryz.func98.trans (congrArg some (by kernel_rfl))
  f30 := Tryz.func99.trans (congrArg some (by kernel_rfl))
  f36 := Tryz.func120.trans (congrArg some (by kernel_rfl))
  t0 := Tryz.underlying0
  a0 := Tryz.isAgg0
  z0 := Tryz.sizeOf0
  v0 := Tryz.zeroValue0
  t3 := Tryz.underlying3
  a3 := Tryz.isAgg3
  z3 := Tryz.sizeOf3
  v3 := Tryz.zeroValue3
  t4 := Tryz.underlying4
  a4 := Tryz.isAgg4
  z4 := Tryz.sizeOf4
  v4 := Tryz.zeroValue4
  t9 := Tryz.underlying9
  a9 := Tryz.isAgg9
  z9 := Tryz.sizeOf9
  v9 := Tryz.zeroValue9
  t24 := Tryz.underlying24
  a24 := Tryz.isAgg24
  z24 := Tryz.sizeOf24
  v24 := Tryz.zeroValue24
  i9 := by kernel_rfl }
end Go.Proofs

/- slices.Insert of one text at the front of a row of texts of the call's own. -/
namespace Go.Proofs.YtofeeenjlaljpaaGreat
open Go.RowKit

/-- Cells of a block are written one behind the other. -/
theorem blk_setCells {g : Nat} {t : TypeId} : ∀ (vs : List Value) (o : Nat) (w : World) (cs : Array Value), w.heap[g]? = some (.cells cs t (0, 0)) → o + vs.length ≤ cs.size →
    ∃ cs', (w.setCells g o vs).heap[g]? = some (.cells cs' t (0, 0)) ∧ cs'.size = cs.size ∧ (∀ j, j < vs.length → cs'[o + j]? = vs[j]?) ∧ ∀ j, (j < o ∨ o + vs.length ≤ j) → cs'[j]? = cs[j]?
  | [], o, w, cs, h, _ => ⟨cs, h, rfl, fun j hj => by simp at hj, fun _ _ => rfl⟩
  | v :: r, o, w, cs, h, hl => by
    simp only [List.length_cons] at hl
    obtain ⟨cs', h1, h2, h3, h4⟩ := blk_setCells r (o + 1) (w.setCell ⟨g, o, none⟩ v) _ (blk_set h o v) (by simp; omega)
    refine ⟨cs', h1, by rw [h2]; simp, fun j hj => ?_, fun j hj => ?_⟩
    · simp only [List.length_cons] at hj
      cases j with
      | zero =>
        rw [h4 (o + 0) (.inl (by omega)), Nat.add_zero, Array.getElem?_setIfInBounds, if_pos rfl, if_pos (by omega)]
        rfl
      | succ j =>
        have := h3 j (by omega)
        rw [show o + (j + 1) = o + 1 + j by omega, this]
        simp
    · simp only [List.length_cons] at hj
      rw [h4 j (by omega)]
      rw [Array.getElem?_setIfInBounds, if_neg (by omega)]
theorem only_setCells {g : Nat} : ∀ (vs : List Value) (o : Nat) (w0 w : World), Only g w0 w → Only g w0 (w.setCells g o vs)
  | [], _, _, _, h => h
  | v :: r, o, w0, w, h => only_setCells r (o + 1) w0 (w.setCell ⟨g, o, none⟩ v) (h.setCell v)
/-- What inserting gives. -/
def InsG (w : World) (B : Nat) (v : Value) (L : List ByteArray) (e : Ending) (w' : World) : Prop :=
  ∃ u, e = .returned u ∧ OwnS w' B u L ∧ (u.ownBlock = v.ownBlock ∨ u.ownBlock = some w.heap.size) ∧ w.grownBy w' v.ownBlock

theorem scells_get {L : List ByteArray} {j : Nat} {u : Value} (h : (scells L)[j]? = some u) : j < L.length ∧ u = .string (st L j) := by
  unfold scells at h
  rw [List.getElem?_map] at h
  cases hl : L[j]? with
  | none => rw [hl] at h; cases h
  | some s =>
    rw [hl] at h
    have := (List.getElem?_eq_some_iff.1 hl).1
    refine ⟨this, ?_⟩
    have e : st L j = s := by simp [st, List.getD, hl]
    rw [e]
    simpa using h.symm

theorem scl (L : List ByteArray) : (scells L).length = L.length := by unfold scells; rw [List.length_map]
theorem zc_size (n : Nat) : (Builtin.zeroCells (Value.string ⟨#[]⟩).cells n).size = n := by
  rw [size_zeroCells, show (Value.string ⟨#[]⟩).cells.size = 1 from rfl, Nat.mul_one]
theorem grow_one (w : World) (t : ByteArray) (B G : Nat) (hB : B ≤ w.heap.size) (hG : 1 ≤ G) (hG2 : G ≤ 9223372036854775807) :
    OwnS (w.drew.alloc (.cells (([] ++ [Value.string t]).toArray ++ Builtin.zeroCells (Value.string ⟨#[]⟩).cells (G - (0 + 1))) 9)) B (.slice (some ⟨w.heap.size, 0, none⟩) (0 + 1) G) [t] := by
  refine OwnS.mk_ (L := [t]) hB (blk_new w.drew _) (by simpa using hG) hG2 ?_ (fun i hi => ?_)
  · rw [Array.size_append, zc_size]
    simp
    omega
  · obtain rfl : i = 0 := by simpa using hi
    rw [Array.getElem?_append_left (by simp)]
    rfl

theorem insert0_c (v : Value) (L : List ByteArray) (t : ByteArray) (B vb : Nat) (w : World) (h : OwnS w B v L) (hB : B ≤ w.heap.size) (hn : L.length ≤ 1048576)
    (hv : w.heap[vb]? = some (.cells #[.string t] 9 (0, 0))) (hne : v.ownBlock ≠ some vb) :
    Calls Tryz.prog 67 #[v, .int .i64 0, .slice (some ⟨vb, 0, none⟩) 1 1] w (InsG w B v (t :: L)) := by
  have hvs : ∀ j u, [Value.string t][j]? = some u → w.cell? ⟨vb, 0 + j, none⟩ = some u := fun j u hu => by
    rw [blk_cell hv, ← hu, Nat.zero_add]
    simp
  have h1v : ∀ u ∈ [Value.string t], u.oneCell' = true := fun u hu => by simp at hu; subst hu; rfl
  have hst : ∀ j, st (t :: L) (j + 1) = st L j := fun j => by simp [st, List.getD]
  have hst0 : st (t :: L) 0 = t := rfl
  unfold InsG
  rcases h.2 with ⟨rfl, h0⟩ | ⟨g, c, cur, rfl, hg, hh, hnc, hcm, hcs, ht⟩
  · obtain rfl := List.eq_nil_of_length_eq_zero h0
    refine (Any2.slices_Insert_string_end_grow Tryz.laysInsS none 0 0 vb 0 1 1 [] [.string t] w (by omega) (by omega) (by omega) (by omega) rfl rfl (fun _ => rfl) (fun a ha => by cases ha) hvs h1v).mono fun e w' hw => ?_
    obtain ⟨h1, h2⟩ := hw
    subst h2
    have hG := grownCap_ge w (0 + 1) 0 (Tryz.laysInsS_ren.t 9)
    have hG2 := grownCap_le_maxLen w (0 + 1) 0 (Tryz.laysInsS_ren.t 9) (by unfold maxLen; omega)
    unfold maxLen at hG2
    refine ⟨_, h1, ?_, .inr rfl, ?_⟩
    · exact grow_one w t B _ hB hG (by simpa using hG2)
    · exact ((Grew.refl w).drew.alloc _).by_ _
  · have hcm2 : c ≤ 9223372036854775807 := hcm
    have hcells : ∀ j u, (scells L)[j]? = some u → w.cell? ⟨g, 0 + j, none⟩ = some u := fun j u hu => by
      rw [Nat.zero_add, blk_cell hh]
      rw [Nat.mul_one] at ht
      have h2 : (cur.toList.take L.length)[j]? = some u := by rw [ht]; exact hu
      rw [List.getElem?_take] at h2
      split at h2
      · simpa using h2
      · cases h2
    have hcsz : cur.size = c := by omega
    have hfz : ∀ j, w.frozen? ⟨g, j, none⟩ = false := fun j => blk_frozen hh j
    have hsp : ∀ j, j < c → (w.cell? ⟨g, j, none⟩).isSome = true := fun j hj => by
      rw [blk_cell hh]
      have : j < cur.size := by omega
      simp [this]
    have hgb : vb ≠ g := fun e => hne (by rw [e]; rfl)
    rcases Nat.eq_zero_or_pos L.length with h0 | hp
    · obtain rfl := List.eq_nil_of_length_eq_zero h0
      rcases Nat.eq_zero_or_pos c with hc0 | hcp
      · subst hc0
        refine (Any2.slices_Insert_string_end_grow Tryz.laysInsS (some ⟨g, 0, none⟩) 0 0 vb 0 1 1 [] [.string t] w (by omega) (by omega) (by omega) (by omega) rfl rfl (fun h => by cases h) (fun a ha j u hu => by simp at hu) hvs h1v).mono fun e w' hw => ?_
        obtain ⟨h1, h2⟩ := hw
        subst h2
        have hG := grownCap_ge w (0 + 1) 0 (Tryz.laysInsS_ren.t 9)
        have hG2 := grownCap_le_maxLen w (0 + 1) 0 (Tryz.laysInsS_ren.t 9) (by unfold maxLen; omega)
        unfold maxLen at hG2
        refine ⟨_, h1, ?_, .inr rfl, ?_⟩
        · exact grow_one w t B _ hB hG (by simpa using hG2)
        · exact ((Grew.refl w).drew.alloc _).by_ _
      · refine (Any2.slices_Insert_string_end_room Tryz.laysInsS g 0 0 c vb 0 1 1 [.string t] w (by omega) (by omega) hcm2 rfl (fun j hj => by rw [show 0 + 0 + j = j by omega]; exact hsp j (by omega)) (fun j hj => hfz _) hvs h1v).mono fun e w' hw => ?_
        obtain ⟨h1, h2⟩ := hw
        subst h2
        obtain ⟨cs', k1, k2, k3, k4⟩ := blk_setCells [.string t] (0 + 0) w cur hh (by simp; omega)
        refine ⟨_, h1, ?_, .inl rfl, only_setCells _ _ _ _ (Only.refl g w)⟩
        refine OwnS.mk_ (L := [t]) hg k1 (by simp; omega) hcm2 (by omega) (fun i hi => ?_)
        obtain rfl : i = 0 := by simpa using hi
        have := k3 0 (by simp)
        simpa [st] using this
    · by_cases hroom : L.length + 1 ≤ c
      · refine (Any2.slices_Insert_string_shift Tryz.laysInsS g 0 L.length c 0 vb 0 1 1 (scells L) [.string t] w hp (by omega) hroom hcm2 hgb (scl L) rfl hcells (fun j hj => by rw [Nat.zero_add]; exact hsp j (by omega)) (fun j hj => hfz _) hvs (scells_one L) h1v 9 9 1 c (by simp [World.shape?, hv]) (by simp [World.shape?, hh, hcsz]) (by omega) (blk_frozen hv 0) (blk_frozen hv 1)).mono fun e w' hw => ?_
        obtain ⟨h1, h2⟩ := hw
        subst h2
        have hhd : w.drew.heap[g]? = some (.cells cur 9 (0, 0)) := hh
        obtain ⟨cs1, k1, k2, k3, k4⟩ := blk_setCells ((scells L).drop 0) (0 + (0 + 1)) w.drew cur hhd (by rw [List.drop_zero, scl]; omega)
        obtain ⟨cs2, m1, m2, m3, m4⟩ := blk_setCells [.string t] (0 + 0) _ cs1 k1 (by simp; omega)
        rw [List.drop_zero] at k3 k4
        refine ⟨_, h1, ?_, .inl rfl, only_setCells _ _ _ _ (only_setCells _ _ _ _ ((Only.refl g w).drew))⟩
        refine OwnS.mk_ (L := t :: L) hg m1 hroom hcm2 (by omega) (fun i hi => ?_)
        cases i with
        | zero =>
          have := m3 0 (by simp)
          simpa [st] using this
        | succ i =>
          simp only [List.length_cons] at hi
          rw [m4 (i + 1) (.inr (by simp))]
          have h3 := k3 i (by rw [scl]; omega)
          rw [show 0 + (0 + 1) + i = i + 1 by omega] at h3
          rw [h3, hst]
          unfold scells
          rw [List.getElem?_map]
          have : i < L.length := by omega
          simp [st, List.getD, this]
      · refine (Any2.slices_Insert_string_grow Tryz.laysInsS g 0 L.length c 0 vb 0 1 1 (scells L) [.string t] w hp (by omega) hnc (by omega) (by omega) (scl L) rfl hcells hvs (scells_one L) h1v).mono fun e w' hw => ?_
        obtain ⟨h1, h2⟩ := hw
        subst h2
        have hG := grownCap_ge w (L.length + 1) c (Tryz.laysInsS_ren.t 9)
        have hG2 := grownCap_le_maxLen w (L.length + 1) c (Tryz.laysInsS_ren.t 9) (by unfold maxLen; omega)
        unfold maxLen at hG2
        generalize grownCap w (L.length + 1) c (Tryz.laysInsS_ren.t 9) = G at *
        obtain ⟨cs0, hc0⟩ : ∃ cs0, cs0 = (((scells L).take 0).toArray ++ Builtin.zeroCells (Value.string ⟨#[]⟩).cells (L.length + 1 - 0) ++ Builtin.zeroCells (Value.string ⟨#[]⟩).cells (G - (L.length + 1))) := ⟨_, rfl⟩
        have hs0 : cs0.size = G := by
          rw [hc0]
          simp only [Array.size_append, size_zeroCells]
          simp [Value.cells]
          omega
        rw [← hc0]
        have hnew : (w.alloc (.cells cs0 9)).drew.heap[w.heap.size]? = some (.cells cs0 9 (0, 0)) := blk_new w _
        obtain ⟨cs1, k1, k2, k3, k4⟩ := blk_setCells [.string t] 0 _ cs0 hnew (by simp; omega)
        have k1' : (((w.alloc (.cells cs0 9)).drew.setCells w.heap.size 0 [.string t]).drew).heap[w.heap.size]? = some (.cells cs1 9 (0, 0)) := k1
        obtain ⟨cs2, m1, m2, m3, m4⟩ := blk_setCells ((scells L).drop 0) (0 + 1) _ cs1 k1' (by rw [List.drop_zero, scl]; omega)
        rw [List.drop_zero] at m3 m4
        refine ⟨_, h1, ?_, .inr rfl, ?_⟩
        · refine OwnS.mk_ (L := t :: L) hB m1 hG hG2 (by omega) (fun i hi => ?_)
          cases i with
          | zero =>
            rw [m4 0 (.inl (by omega))]
            have := k3 0 (by simp)
            simpa [st] using this
          | succ i =>
            simp only [List.length_cons] at hi
            have h3 := m3 i (by rw [scl]; omega)
            rw [show 0 + 1 + i = i + 1 by omega] at h3
            rw [h3, hst]
            unfold scells
            rw [List.getElem?_map]
            have : i < L.length := by omega
            simp [st, List.getD, this]
        · have hgA : Grew w (w.alloc (.cells cs0 9)).drew := ((Grew.refl w).alloc _).drew
          have ho := only_setCells ((scells L).drop 0) (0 + 1) _ _ ((only_setCells [.string t] 0 _ _ (Only.refl w.heap.size (w.alloc (.cells cs0 9)).drew)).drew)
          exact (ho.grew_of hgA (Nat.le_refl _)).by_ _
end Go.Proofs.YtofeeenjlaljpaaGreat

/- AssumeFirst of the program. Printed by asgen.py. -/
namespace Go.Proofs.YtofeeenjlaljpaaGreat
open Go.RowKit

set_option maxRecDepth 20000 in
set_option maxHeartbeats 8000000 in
theorem implAs_c (v : Value) (xs : List Dd) (t : ByteArray) (w : World) (hv : Dds w v xs) (hf : FitsDd xs) (_hn : xs.length ≤ 1048576) (ht : t.size ≤ 1048576) :
    Calls Tryz.prog 32 #[v, .string t] w (GivesDc w (asF t xs)) := by
  unfold GivesDc asF
  obtain ⟨A, c, rfl⟩ := Dds_slice hv
  have KD := Lib.hid (deductionCode_c _ [xs] _ (DdL.one (T := 27) hv) (fun i hi => by obtain rfl : i = 0 := (by simpa using hi); exact hf))
  have HAL := Lib.hid ((Grew.refl w).alloc (.cells #[.slice A xs.length c] 27))
  by_cases hd : dcode [xs] = 0
  case neg =>
    rw [if_neg hd]
    have e0 : (dcode [xs] == 0) = false := by simpa using hd
    clear hv hf hd
    generalize dcode [xs] = d at *
    go_enter Tryz.func32, Tryz.ntmps32
    go_wp2_with fail
    refine (KD.out).mono ?_
    rintro e w1 ⟨rfl, hg1⟩
    go_wp2_with fail
    go_ret2
    exact ⟨_, rfl, OwnDx.nil_ _ _ _, HAL.out.trans hg1⟩
  rw [if_pos hd]
  rw [hd] at KD
  obtain ⟨hn0, hn1, hfb⟩ := dcode_zero hd
  have KT := Lib.hid (fun W => isPlainText_c t W (by omega))
  by_cases hgt : gp t = true
  case neg =>
    have hgf : gp t = false := by simpa using hgt
    rw [if_neg hgt]
    rw [hgf] at KT
    clear hv hf hd hgt hgf
    go_enter Tryz.func32, Tryz.ntmps32
    go_wp2_with fail
    refine (KD.out).mono ?_
    rintro e w1 ⟨rfl, hg1⟩
    go_wp2_with fail
    refine (KT.out _).mono ?_
    rintro e w2 ⟨rfl, hg2⟩
    go_wp2_with fail
    go_ret2
    exact ⟨_, rfl, OwnDx.nil_ _ _ _, (HAL.out.trans hg1).trans hg2⟩
  rw [if_pos hgt]
  rw [hgt] at KT
  have KF := Lib.hid (fun W (hW : Grew w W) => containsFuncA_c _ xs W (hv.grew hW) hn0 _hn)
  by_cases hfl : xs.any full = true
  case pos =>
    rw [if_pos hfl]
    rw [hfl] at KF
    clear hv hf hd hgt hfl
    go_enter Tryz.func32, Tryz.ntmps32
    go_wp2_with fail
    refine (KD.out).mono ?_
    rintro e w1 ⟨rfl, hg1⟩
    have g1 := HAL.out.trans hg1
    go_wp2_with fail
    refine (KT.out _).mono ?_
    rintro e w2 ⟨rfl, hg2⟩
    have g2 := g1.trans hg2
    go_wp2_with fail
    refine (KF.out _ g2).mono ?_
    rintro e w3 ⟨rfl, hg3⟩
    go_wp2_with fail
    go_ret2
    exact ⟨_, rfl, OwnDx.nil_ _ _ _, g2.trans hg3⟩
  have hff : xs.any full = false := by simpa using hfl
  rw [if_neg hfl]
  rw [hff] at KF
  have hprem : ∀ (i : Nat) (x : Dd), xs[i]? = some x → ∀ q, q < x.2.1.length → 0 ≤ it x.2.1 q ∧ it x.2.1 q < ((shf xs.length 0).length : Int) := fun i x hx q hq => by
    have h1 := prem_lt hfb hx (it x.2.1 q) (by rw [← it_get hq]; exact List.getElem_mem hq)
    have h2 := (List.getElem?_eq_some_iff.1 hx).1
    rw [shf_len]
    omega
  have KM := Lib.hid (fun W vt (hW : Grew w W) (hvt : Ints W vt (shf xs.length 0)) => by
    have h := mapDeductions_c _ vt xs (shf xs.length 0) W (hv.grew hW) hvt hf hprem _hn
    rwa [map_toD_shf hfb, map_mvD_zero] at h)
  have KS := Lib.hid (fun W => shifted_c xs.length 0 W _hn (by omega) (by omega))
  unfold GivesDp at KM
  unfold GivesI1 at KS
  have hcx : xs.length ≤ c ∧ c ≤ 9223372036854775807 := by
    rcases hv with ⟨_, h0⟩ | ⟨b, o, c', hv, hc, hm, hb, hcell⟩
    · rw [h0] at hn0; exact absurd rfl hn0
    · obtain ⟨_, rfl⟩ : A = some ⟨b, o, none⟩ ∧ c = c' := by simpa using hv
      exact ⟨hc, hm⟩
  have HX := Lib.hid (fun j (hj : j < xs.length) => (⟨xs[j], List.getElem?_eq_getElem hj, hf _ (List.getElem_mem hj)⟩ : ∃ x, xs[j]? = some x ∧ FitDd x))
  have HM := Lib.hid (fun i j x (hx : xs[i]? = some x) => mixA_at (t := t) (j := j) hx)
  have HMO := Lib.hid (fun i j (hij : i ≠ j) => mixA_other (t := t) (xs := xs) hij)
  have HNU := Lib.hid (fun i x (hx : xs[i]? = some x) h1 => good_num2 hfb hx h1)
  have HE : Hid (∀ g c cur w' ps us hi, w.heap.size ≤ g → g < hi → w'.heap[g]? = some (.cells cur 50 (0, 0)) → xs.length ≤ c → c ≤ 9223372036854775807 → cur.size = c * 5 → Dx w' w.heap.size hi (mixA t xs xs.length) xs.length cur ps us → OwnDx w' w.heap.size hi (.slice (some ⟨g, 0, none⟩) xs.length c) (xs.map (asm t))) := Lib.hid (fun g c cur w' ps us hi h0 h1 h2 h3 h4 h5 h6 => .inr ⟨g, c, cur, ps, us, by rw [List.length_map], h0, h1, h2, by rw [List.length_map]; exact h3, h4, h5, by rw [List.length_map, ← mixA_all]; exact h6⟩)
  have HZ := Lib.hid (mixA_zero t xs)
  clear hv hf hd hgt hfl hff hprem hfb
  have hx0 : xs ≠ [] := fun h => hn0 (by rw [h]; rfl)
  generalize shf xs.length 0 = SH at *
  generalize hMP : xs.map (asm t) = MP at *
  have HMP := Lib.hid hMP
  clear hMP
  generalize hN : xs.length = n at *
  have HN := Lib.hid hN
  clear hN
  go_enter Tryz.func32, Tryz.ntmps32
  go_wp2_with fail
  refine (KD.out).mono ?_
  rintro e w1 ⟨rfl, hg1⟩
  have g1 := HAL.out.trans hg1
  go_wp2_with fail
  refine (KT.out _).mono ?_
  rintro e w2 ⟨rfl, hg2⟩
  have g2 := g1.trans hg2
  go_wp2_with fail
  refine (KF.out _ g2).mono ?_
  rintro e w3 ⟨rfl, hg3⟩
  have g3 := g2.trans hg3
  go_wp2_with fail
  refine (KS.out _).mono ?_
  rintro e w6 ⟨v6, rfl, ho6, hg6⟩
  have g6 := g3.trans hg6
  go_wp2_with fail
  refine (KM.out _ _ g6 ho6.ints).mono ?_
  rintro e w7 ⟨v7, ps0, rfl, hom, hg7⟩
  have g7 := g6.trans hg7
  have hox := (hom.base g6.size).ownDx
  rcases hox with ⟨_, h0⟩ | ⟨g, c7, cur0, ps, us0, rfl, hlo, hhi, hh0, hnc, hcm, hcs0, hD0⟩
  · exact absurd h0 hx0
  rw [HN.out]
  rw [HN.out] at hnc hD0
  have HH0 := Lib.hid hh0
  have HD0 := Lib.hid hD0
  have hnc7 : n ≤ c7 := hnc
  clear KD HAL KT KF KS KM hg1 hg2 hg3 hg6 hg7 ho6 hom hh0 hD0 g1 g2 g3 g6 hnc hx0
  go_wp2_with fail
  go_loopw [30] (fun i wr => ∃ (j : Nat) (cur : Array Value) (us : Nat → Value), j ≤ n ∧ i = .int .i64 j ∧ Hid (wr.heap[g]? = some (.cells cur 50 (0, 0))) ∧ cur.size = c7 * 5 ∧ Hid (Dx wr w.heap.size wr.heap.size (mixA t xs j) n cur ps us) ∧ Grew w wr) (fun i _ => n - (intOf i).toNat)
  case atStart => exact ⟨0, cur0, us0, Nat.zero_le _, rfl, HH0, hcs0, by rw [HZ.out]; exact HD0, g7⟩
  clear g7 HH0 HD0 hcs0 HZ hhi
  case round =>
    obtain ⟨j, cur, us, hj, rfl, HH, hcs, HD, hB⟩ := hrel
    by_cases hlt : j < n
    case pos =>
      obtain ⟨x, hx, hfx⟩ := HX.out j hlt
      have hmj : (mixA t xs j)[j]? = some x := by rw [HM.out j j x hx, if_neg (by omega)]
      have hmj1 : (mixA t xs (j + 1))[j]? = some (asm t x) := by rw [HM.out j (j + 1) x hx, if_pos (by omega)]
      have HMJ := Lib.hid hmj
      have HMJ1 := Lib.hid hmj1
      have HMOj := Lib.hid (fun i (hij : i ≠ j) => HMO.out i j hij)
      obtain ⟨m1, m2, m3⟩ := HD.out.rows j x hlt hmj
      have HRW := Lib.hid m1
      have HOS := Lib.hid m3
      have hsj := HD.out.hiS j
      have HSJ := Lib.hid (fun b (hb : (us j).ownBlock = some b) => hsj b hlt hb)
      have hnum := HNU.out j x hx
      have c0 := m1.1
      have c2 := m1.2.2.1
      have c4 := m1.2.2.2.2
      have hA := hfx.2.1
      have hl5 : j * 5 + 4 < cur.size := by omega
      have hlt1 := blk_lt HH.out
      clear hmj hmj1 m2 hsj hfx
      have hgl : Hid (Grew wr (wr.alloc (.cells #[.string t] 9))) := Lib.hid ((Grew.refl wr).alloc _)
      have KI := Lib.hid (insert0_c (us j) x.2.2.1 t w.heap.size wr.heap.size (wr.alloc (.cells #[.string t] 9)) (HOS.out.grew hgl.out) (Nat.le_trans hB.size hgl.out.size) hA (blk_new wr _) (fun e => by have := HSJ.out _ e; omega))
      unfold InsG at KI
      have k0 : (wr.alloc (.cells #[.string t] 9)).cell? ⟨g, j * 5, none⟩ = some (.int .i64 x.1) := (hgl.out.cell (p := ⟨g, j * 5, none⟩) hlt1).trans ((blk_cell HH.out _).trans c0)
      have k2 : ∀ W, Grew wr W → W.cell? ⟨g, j * 5 + 2, none⟩ = some (us j) := fun W hW => (hW.cell (p := ⟨g, j * 5 + 2, none⟩) hlt1).trans ((blk_cell HH.out _).trans c2)
      have hr0 := Grew.refl wr
      have HC0 := Lib.hid c0
      have HC4 := Lib.hid c4
      obtain ⟨VU, vuc, huj⟩ := strs_slice HOS.out.strs
      generalize huj9 : us j = vu at *
      have HUJ := Lib.hid huj9
      clear huj9
      subst huj
      have HX0 := Lib.hid hx
      clear k0 c0 c2 c4 m1 m3 hx
      go_wp2_with fail
      refine (KI.out).mono ?_
      rintro e w1 ⟨u, rfl, hou, hub, hby⟩
      have HOU := Lib.hid hou
      have HUB := Lib.hid hub
      have HBY := Lib.hid hby
      have hLG := hgl.out.block hlt1
      have hgW : Hid (w1.heap[g]? = some (.cells cur 50 (0, 0))) := Lib.hid ((World.grownBy.block hby g (Nat.lt_of_lt_of_le hlt1 hgl.out.size) (fun e => own_ne (HOS.out.grew hgl.out) (hLG.trans HH.out) tS_D e.symm)).trans (hLG.trans HH.out))
      obtain ⟨VN, vnc, rfl⟩ := strs_slice hou.strs
      have ff := fun i => blk_frozen hgW.out i
      have e2 : w1.cell? ⟨g, j * 5 + 2, none⟩ = some (cur[j * 5 + 2]'(by omega)) := (blk_cell hgW.out _).trans (Array.getElem?_eq_getElem (by omega))
      have HG2 := fun u => Lib.hid (blk_set hgW.out (j * 5 + 2) u)
      have f2 := fun u i => blk_frozen (HG2 u).out i
      have e0 : ∀ u, (w1.setCell ⟨g, j * 5 + 2, none⟩ u).cell? ⟨g, j * 5, none⟩ = some (.int .i64 x.1) := fun u => (blk_cell (HG2 u).out _).trans (by rw [Array.getElem?_setIfInBounds, if_neg (by omega)]; exact HC0.out)
      have e4 : ∀ u, (w1.setCell ⟨g, j * 5 + 2, none⟩ u).cell? ⟨g, j * 5 + 4, none⟩ = some (.int .i64 x.2.2.2.2) := fun u => (blk_cell (HG2 u).out _).trans (by rw [Array.getElem?_setIfInBounds, if_neg (by omega)]; exact HC4.out)
      clear hou hub hby hLG
      have hW := Lib.hid ((Only.refl g w1).setCell (o := j * 5 + 2) (.slice VN (t :: x.2.2.1).length vnc))
      have hcc : (t :: x.2.2.1).length = x.2.2.1.length + 1 := rfl
      rw [hcc]
      rw [hcc] at hW HOU HUB
      have HSZ : Hid (wr.heap.size ≤ (wr.alloc (.cells #[.string t] 9)).heap.size ∧ (wr.alloc (.cells #[.string t] 9)).heap.size ≤ w1.heap.size) := Lib.hid ⟨hgl.out.size, HBY.out.size⟩
      have HDL := Lib.hid ((HD.out.grew hgl.out).up hgl.out.size)
      have HHL : Hid ((wr.alloc (.cells #[.string t] 9)).heap[g]? = some (.cells cur 50 (0, 0))) := Lib.hid ((hgl.out.block hlt1).trans HH.out)
      have HU2 : Hid (∀ b, (Value.slice VN (x.2.2.1.length + 1) vnc).ownBlock = some b → b < w1.heap.size) := Lib.hid (fun b hb => (HOU.out.lt b hb).2)
      have HU1 : Hid ((Value.slice VN (x.2.2.1.length + 1) vnc).ownBlock = (us j).ownBlock ∨ ∀ b, (Value.slice VN (x.2.2.1.length + 1) vnc).ownBlock = some b → (wr.alloc (.cells #[.string t] 9)).heap.size ≤ b) := Lib.hid (by rcases HUB.out with h | h; exact .inl (by rw [HUJ.out]; exact h); exact .inr (fun b hb => by rw [h] at hb; injection hb with hb; omega))
      have hg1B : Hid (Grew w w1) := Lib.hid ((hB.trans hgl.out).grown HBY.out (fun k hk => own_of_ge HOS.out hk))
      by_cases h1 : x.1 = 1
      case pos =>
        have hb1 := hnum h1
        rw [h1] at e0
        have e4s : (((w1.setCell ⟨g, j * 5 + 2, none⟩ (.slice VN (x.2.2.1.length + 1) vnc))).heap[g]? = some (.cells (cur.setIfInBounds (j * 5 + 2) (.slice VN (x.2.2.1.length + 1) vnc)) 50 (0, 0))) := (HG2 _).out
        have HW2 := Lib.hid (hW.out.setCell (o := j * 5 + 4) (.int .i64 (x.2.2.2.2 + 1)))
        have HG4 := Lib.hid (blk_set e4s (j * 5 + 4) (.int .i64 (x.2.2.2.2 + 1)))
        clear e4s hnum
        have hxn : x.2.2.2.2 + 1 = (asm t x).2.2.2.2 := by unfold asm; simp [h1]
        have HXN := Lib.hid hxn
        clear hxn
        have hx1 : x.1 = 1 := h1
        have HX1 := Lib.hid hx1
        clear hx1 h1
        go_wp2_with fail
        go_roundw
        case rel =>
          have hd := HDL.out.ins (W := (w1.setCell ⟨g, j * 5 + 2, none⟩ (.slice VN (x.2.2.1.length + 1) vnc)).setCell ⟨g, j * 5 + 4, none⟩ (.int .i64 (x.2.2.2.2 + 1))) (x' := asm t x) (u := .slice VN (x.2.2.1.length + 1) vnc) (hi' := w1.heap.size) (ys' := mixA t xs (j + 1)) HHL.out hlt HMJ.out HMJ1.out rfl HMOj.out (by rw [HUJ.out]; exact HBY.out) HOU.out HU1.out HU2.out HSZ.out.2 HW2.out (asrow2 (n := .int .i64 (x.2.2.2.2 + 1)) (asm t x) HRW.out hl5 rfl rfl (by rw [HXN.out])) (fun i y up ua hij hr => askeep2 hij hr)
          exact ⟨j + 1, _, _, by omega, by go_num, HG4, by simp [hcs], Lib.hid (hd.up (by simp [World.setCell])), (((hg1B.out.setCell hlo _)).setCell hlo _)⟩
        case measure => simp [intOf]; omega
      case neg =>
        clear hnum e4
        have HG4 := HG2 (.slice VN (x.2.2.1.length + 1) vnc)
        have hb1 : (x.1 == 1) = false := by simpa using h1
        have hxn : (asm t x).2.2.2 = x.2.2.2 := by unfold asm; simp [h1]
        have HXN := Lib.hid hxn
        clear hxn
        go_wp2_with fail
        go_roundw
        case rel =>
          have hd := HDL.out.ins (W := w1.setCell ⟨g, j * 5 + 2, none⟩ (.slice VN (x.2.2.1.length + 1) vnc)) (x' := asm t x) (u := .slice VN (x.2.2.1.length + 1) vnc) (hi' := w1.heap.size) (ys' := mixA t xs (j + 1)) HHL.out hlt HMJ.out HMJ1.out rfl HMOj.out (by rw [HUJ.out]; exact HBY.out) HOU.out HU1.out HU2.out HSZ.out.2 hW.out (asrow (asm t x) HRW.out hl5 rfl HXN.out) (fun i y up ua hij hr => askeep hij hr)
          exact ⟨j + 1, _, _, by omega, by go_num, HG4, by simp [hcs], Lib.hid (hd.up (by simp [World.setCell])), hg1B.out.setCell hlo _⟩
        case measure => simp [intOf]; omega
    case neg =>
      obtain rfl : j = n := by omega
      have HEE := Lib.hid (HE.out g c7 cur _ ps us _ hlo (blk_lt HH.out) HH.out hnc7 hcm hcs HD.out)
      go_wp2_with fail
      go_ret2
      exact ⟨_, rfl, HEE.out, hB⟩
end Go.Proofs.YtofeeenjlaljpaaGreat

/- AssumeFirst of the reference. Printed by asgen.py. -/
namespace Go.Proofs.YtofeeenjlaljpaaGreat
open Go.RowKit

theorem own_litS (w : World) (t : ByteArray) : OwnS (w.alloc (.cells #[.string t] 9)) w.heap.size (.slice (some ⟨w.heap.size, 0, none⟩) 1 1) [t] :=
  World.ownsRow_lit (e := 9) (size := 1) w #[.string t] 1 (Nat.le_refl _) (by first | omega | decide) rfl
/-- 'out = append(out, xs...)', out a row of texts of the call's own. -/
theorem wpList_appSL {ops : Array Oper} {rest : List Oper} {o : Oper} {a : Act} {Q : Exit → Act → World → Prop} {w w0 : World} (s x : Operand) (hgd : o.guard = none)
    (ho : o.op = .call { callee := .builtin .append, args := #[s, x], argTypes := #[24, 24] })
    (v : Value) (L : List ByteArray) (hs : a.eval s = v) (hown : OwnS w w0.heap.size v L) (hg : Grew w0 w) (vx : Value) (K : List ByteArray) (hx : a.eval x = vx) (hr : Strs w vx K) (hn : L.length + K.length ≤ 1099511627776)
    (h : ∀ v' w', OwnS w' w0.heap.size v' (L ++ K) → Grew w0 w' → w.grownBy w' v.ownBlock → wpList Tryz.prog ops Q rest (a.put o.dst v') w') : wpList Tryz.prog ops Q (o :: rest) a w := by
  obtain ⟨i0, hi0, hz0, hz1, hz2⟩ := info_parts Tryz.infoStr
  refine wpList_append_rd w hgd s x _ ho w0.heap.size 9 i0 _ 1 16 Tryz.underlying24 hi0 hz0 hz1 hz2 rfl (by omega) v L.length (scells L) hs hown vx K.length (scells K) hx hr (scells_one K) (by unfold maxLen; omega) (by omega) hg.size ?_
  intro v' w' h1 h2 h3
  refine h v' w' ?_ (hg.grown h2 fun k hk => (hown.lt k hk).1) h2
  unfold OwnS
  rw [List.length_append, scells_append]
  exact h1

set_option maxRecDepth 20000 in
set_option maxHeartbeats 8000000 in
theorem specAs_c (v : Value) (xs : List Dd) (t : ByteArray) (w : World) (hv : Dds w v xs) (hf : FitsDd xs) (_hn : xs.length ≤ 1048576) (ht : t.size ≤ 1048576) :
    Calls Tryz.prog 31 #[v, .string t] w (GivesDc w (asF t xs)) := by
  unfold GivesDc asF
  obtain ⟨A, c, rfl⟩ := Dds_slice hv
  have KD := Lib.hid (l25Code_c _ [xs] _ (DdL.one (T := 27) hv) (fun i hi => by obtain rfl : i = 0 := (by simpa using hi); exact hf) (by simp))
  have HAL := Lib.hid ((Grew.refl w).alloc (.cells #[.slice A xs.length c] 27))
  by_cases hd : dcode [xs] = 0
  case neg =>
    rw [if_neg hd]
    have e0 : (dcode [xs] == 0) = false := by simpa using hd
    clear hv hf hd
    generalize dcode [xs] = d at *
    go_enter Tryz.func31, Tryz.ntmps31
    go_wp2_with fail
    refine (KD.out).mono ?_
    rintro e w1 ⟨rfl, hg1⟩
    go_wp2_with fail
    go_ret2
    exact ⟨_, rfl, OwnDx.nil_ _ _ _, HAL.out.trans hg1⟩
  rw [if_pos hd]
  rw [hd] at KD
  obtain ⟨hn0, hn1, hfb⟩ := dcode_zero hd
  have KT := Lib.hid (fun W => l25Formula_c t W (by omega))
  unfold GivesP at KT
  by_cases hgt : gp t = true
  case neg =>
    have hgf : gp t = false := by simpa using hgt
    rw [if_neg hgt]
    rw [hgf] at KT
    clear hv hf hd hgt hgf
    go_enter Tryz.func31, Tryz.ntmps31
    go_wp2_with fail
    refine (KD.out).mono ?_
    rintro e w1 ⟨rfl, hg1⟩
    go_wp2_with fail
    refine (KT.out _).mono ?_
    rintro e w2 ⟨vt, rfl, hot, hg2⟩
    obtain ⟨VT, vtc, rfl⟩ := nodes_slice hot.nodes
    clear hot
    go_wp2_with fail
    go_ret2
    exact ⟨_, rfl, OwnDx.nil_ _ _ _, (HAL.out.trans hg1).trans hg2⟩
  rw [if_pos hgt]
  rw [hgt] at KT
  have HRY : Hid (∀ i x, xs[i]? = some x → full x = true → (if xs.any full = true then (([], 3) : List Dd × Int) else (xs.map (asm t), 0)) = ([], 3)) := Lib.hid (fun i x hx h => if_pos (full_at hx h))
  have HRN : Hid ((∀ (i : Nat) (x : Dd), i < xs.length → xs[i]? = some x → full x = false) → (if xs.any full = true then (([], 3) : List Dd × Int) else (xs.map (asm t), 0)) = (xs.map (asm t), 0)) := Lib.hid (fun h => if_neg (by rw [full_none h]; simp))
  generalize (if xs.any full = true then (([], 3) : List Dd × Int) else (xs.map (asm t), 0)) = RR at *
  have KM := Lib.hid (fun W (hW : Grew w W) => by
    have h := l25Behind_c _ _ [] xs [] W (W.alloc (.cells #[] 50)) (own_emptyD W) ((Grew.refl W).alloc _) (hv.grew hW) hf hfb (by omega) (by simp)
    exact h)
  simp only [List.length_nil, List.nil_append] at KM
  have hmz : xs.map (mvD ((0 : Nat) : Int)) = xs := map_mvD_zero xs
  rw [hmz] at KM
  clear hmz
  have hcx : xs.length ≤ c ∧ c ≤ 9223372036854775807 := by
    rcases hv with ⟨_, h0⟩ | ⟨b, o, c', hv, hc, hm, hb, hcell⟩
    · rw [h0] at hn0; exact absurd rfl hn0
    · obtain ⟨_, rfl⟩ : A = some ⟨b, o, none⟩ ∧ c = c' := by simpa using hv
      exact ⟨hc, hm⟩
  have HX := Lib.hid (fun j (hj : j < xs.length) => (⟨xs[j], List.getElem?_eq_getElem hj, hf _ (List.getElem_mem hj)⟩ : ∃ x, xs[j]? = some x ∧ FitDd x))
  have HM := Lib.hid (fun i j x (hx : xs[i]? = some x) => mixA_at (t := t) (j := j) hx)
  have HMO := Lib.hid (fun i j (hij : i ≠ j) => mixA_other (t := t) (xs := xs) hij)
  have HNU := Lib.hid (fun i x (hx : xs[i]? = some x) h1 => good_num2 hfb hx h1)
  have HE : Hid (∀ g c cur w' ps us hi, w.heap.size ≤ g → g < hi → w'.heap[g]? = some (.cells cur 50 (0, 0)) → xs.length ≤ c → c ≤ 9223372036854775807 → cur.size = c * 5 → Dx w' w.heap.size hi (mixA t xs xs.length) xs.length cur ps us → OwnDx w' w.heap.size hi (.slice (some ⟨g, 0, none⟩) xs.length c) (xs.map (asm t))) := Lib.hid (fun g c cur w' ps us hi h0 h1 h2 h3 h4 h5 h6 => .inr ⟨g, c, cur, ps, us, by rw [List.length_map], h0, h1, h2, by rw [List.length_map]; exact h3, h4, h5, by rw [List.length_map, ← mixA_all]; exact h6⟩)
  have HZ := Lib.hid (mixA_zero t xs)
  clear hv hf hd hgt hfb
  have hx0 : xs ≠ [] := fun h => hn0 (by rw [h]; rfl)
  generalize hMP : xs.map (asm t) = MP at *
  have HMP := Lib.hid hMP
  clear hMP
  generalize hN : xs.length = n at *
  have HN := Lib.hid hN
  clear hN
  go_enter Tryz.func31, Tryz.ntmps31
  go_wp2_with fail
  refine (KD.out).mono ?_
  rintro e w1 ⟨rfl, hg1⟩
  have g1 := HAL.out.trans hg1
  go_wp2_with fail
  refine (KT.out _).mono ?_
  rintro e w2 ⟨vt, rfl, hot, hg2⟩
  obtain ⟨VT, vtc, rfl⟩ := nodes_slice hot.nodes
  clear hot
  have g2 := g1.trans hg2
  go_wp2_with fail
  refine (KM.out _ g2).mono ?_
  rintro e w7 ⟨v7, ps0, rfl, hom, hg7⟩
  have g7 := g2.trans hg7
  have hox := (hom.base g2.size).ownDx
  rcases hox with ⟨_, h0⟩ | ⟨g, c7, cur0, ps, us0, rfl, hlo, hhi, hh0, hnc, hcm, hcs0, hD0⟩
  · exact absurd h0 hx0
  rw [HN.out]
  rw [HN.out] at hnc hD0
  have HH0 := Lib.hid hh0
  have HD0 := Lib.hid hD0
  have hnc7 : n ≤ c7 := hnc
  clear KD HAL KT KM hg1 hg2 hg7 hom hh0 hD0 g1 g2 hnc hx0
  go_wp2_with fail
  go_loopw [10] (fun i wr => ∃ (j : Nat) (cur : Array Value) (us : Nat → Value), j ≤ n ∧ i = .int .i64 j ∧ Hid (wr.heap[g]? = some (.cells cur 50 (0, 0))) ∧ cur.size = c7 * 5 ∧ Hid (Dx wr w.heap.size wr.heap.size (mixA t xs j) n cur ps us) ∧ Grew w wr ∧ Hid (∀ (i : Nat) (x : Dd), i < j → xs[i]? = some x → full x = false)) (fun i _ => n - (intOf i).toNat)
  case atStart => exact ⟨0, cur0, us0, Nat.zero_le _, rfl, HH0, hcs0, by rw [HZ.out]; exact HD0, g7, Lib.hid (fun i x hi => absurd hi (by omega))⟩
  clear g7 HH0 HD0 hcs0 HZ hhi
  case round =>
    obtain ⟨j, cur, us, hj, rfl, HH, hcs, HD, hB, HNF⟩ := hrel
    by_cases hlt : j < n
    case pos =>
      obtain ⟨x, hx, hfx⟩ := HX.out j hlt
      have hmj : (mixA t xs j)[j]? = some x := by rw [HM.out j j x hx, if_neg (by omega)]
      have hmj1 : (mixA t xs (j + 1))[j]? = some (asm t x) := by rw [HM.out j (j + 1) x hx, if_pos (by omega)]
      have HMJ := Lib.hid hmj
      have HMJ1 := Lib.hid hmj1
      have HMOj := Lib.hid (fun i (hij : i ≠ j) => HMO.out i j hij)
      obtain ⟨m1, m2, m3⟩ := HD.out.rows j x hlt hmj
      have HRW := Lib.hid m1
      have HOS := Lib.hid m3
      have hsj := HD.out.hiS j
      have HSJ := Lib.hid (fun b (hb : (us j).ownBlock = some b) => hsj b hlt hb)
      have hnum := HNU.out j x hx
      have c0 := m1.1
      have c2 := m1.2.2.1
      have c4 := m1.2.2.2.2
      have hA := hfx.2.1
      have hl5 : j * 5 + 4 < cur.size := by omega
      have hlt1 := blk_lt HH.out
      clear hmj hmj1 m2 hsj hfx
      have hr0 := Grew.refl wr
      have k2 : ∀ W, Grew wr W → W.cell? ⟨g, j * 5 + 2, none⟩ = some (us j) := fun W hW => (hW.cell (p := ⟨g, j * 5 + 2, none⟩) hlt1).trans ((blk_cell HH.out _).trans c2)
      have HC0 := Lib.hid c0
      have HC4 := Lib.hid c4
      obtain ⟨VU, vuc, huj⟩ := strs_slice HOS.out.strs
      generalize huj9 : us j = vu at *
      have HUJ := Lib.hid huj9
      clear huj9
      subst huj
      have HX0 := Lib.hid hx
      have HY := Lib.hid (HRY.out j x hx)
      have HNF1 : Hid (full x = false → ∀ (i : Nat) (y : Dd), i < j + 1 → xs[i]? = some y → full y = false) := Lib.hid (fun h i y hi hy => by
        by_cases hlt : i < j
        · exact HNF.out i y hlt hy
        · obtain rfl : i = j := by omega
          rw [hx] at hy
          obtain rfl := Option.some.inj hy
          exact h)
      have hfd : full x = ((x.2.2.1.length : Int) == 12) := by
        unfold full
        rw [Bool.eq_iff_iff]
        simp
        omega
      have HFD := Lib.hid hfd
      clear c0 c2 c4 m1 m3 hx hfd
      by_cases h12 : x.2.2.1.length = 12
      case pos =>
        have hR := HY.out (by rw [HFD.out, h12]; rfl)
        subst hR
        clear HY HNF1 HRN HRY
        rw [h12] at k2
        go_wp2_with fail
        go_ret2
        exact ⟨_, rfl, OwnDx.nil_ _ _ _, hB⟩
      have HNF2 := Lib.hid (HNF1.out (by rw [HFD.out]; simp; omega))
      clear HNF1 HY HFD
      have hb12 : ((x.2.2.1.length : Int) == 12) = false := by simp; omega
      have HLI := Lib.hid (own_litS wr t)
      have HVX := Lib.hid (fun W (hW : Grew wr W) => (HOS.out.strs).grew hW)
      by_cases h1 : x.1 = 1
      case pos =>
        have hb1 := hnum h1
        have HX1 := Lib.hid h1
        have hxn : x.2.2.2.2 + 1 = (asm t x).2.2.2.2 := by unfold asm; simp [h1]
        have HXN := Lib.hid hxn
        clear hxn hnum h1
        go_wp2_with (first | (at_builtin; refine wpList_appSL (w0 := wr) _ _ rfl rfl _ [t] rfl HLI.out ((Grew.refl wr).alloc _) _ x.2.2.1 rfl (HVX.out _ ((Grew.refl wr).alloc _)) (by simp; omega) ?_; intro u w1 hou hgw hby; rw [List.singleton_append] at hou; obtain ⟨VN, vnc, rfl⟩ := strs_slice hou.strs; have hgW := Lib.hid ((hgw.block hlt1).trans HH.out); have ff := fun i => blk_frozen hgW.out i; have e2 : w1.cell? ⟨g, j * 5 + 2, none⟩ = some (cur[j * 5 + 2]'(by omega)) := (blk_cell hgW.out _).trans (Array.getElem?_eq_getElem (by omega)); have HG2 := fun u => Lib.hid (blk_set hgW.out (j * 5 + 2) u); have f2 := fun u i => blk_frozen (HG2 u).out i; have e0 : ∀ u, (w1.setCell ⟨g, j * 5 + 2, none⟩ u).cell? ⟨g, j * 5, none⟩ = some (.int .i64 1) := fun u => (blk_cell (HG2 u).out _).trans (by rw [Array.getElem?_setIfInBounds, if_neg (by omega)]; first | exact HC0.out | (rw [HC0.out, HX1.out])); have e4 : ∀ u, (w1.setCell ⟨g, j * 5 + 2, none⟩ u).cell? ⟨g, j * 5 + 4, none⟩ = some (.int .i64 x.2.2.2.2) := fun u => (blk_cell (HG2 u).out _).trans (by rw [Array.getElem?_setIfInBounds, if_neg (by omega)]; exact HC4.out); have hcc : (t :: x.2.2.1).length = x.2.2.1.length + 1 := rfl; rw [hcc]; rw [hcc] at hou; have HOU := Lib.hid hou; have HGW := Lib.hid hgw; have g1B := hB.trans hgw; clear hou hby hgw))
        go_roundw
        case rel =>
          have HU2 : Hid (∀ b, (Value.slice VN (x.2.2.1.length + 1) vnc).ownBlock = some b → b < w1.heap.size) := Lib.hid (fun b hb => (HOU.out.lt b hb).2)
          have HU1 : Hid ((Value.slice VN (x.2.2.1.length + 1) vnc).ownBlock = (us j).ownBlock ∨ ∀ b, (Value.slice VN (x.2.2.1.length + 1) vnc).ownBlock = some b → wr.heap.size ≤ b) := Lib.hid (.inr (fun b hb => (HOU.out.lt b hb).1))
          have HOB := HOU.out.base hB.size
          have hW := (Only.refl g w1).setCell (o := j * 5 + 2) (.slice VN (x.2.2.1.length + 1) vnc)
          have hW2 := hW.setCell (o := j * 5 + 4) (.int .i64 (x.2.2.2.2 + 1))
          have hd := HD.out.ins (W := (w1.setCell ⟨g, j * 5 + 2, none⟩ (.slice VN (x.2.2.1.length + 1) vnc)).setCell ⟨g, j * 5 + 4, none⟩ (.int .i64 (x.2.2.2.2 + 1))) (x' := asm t x) (u := .slice VN (x.2.2.1.length + 1) vnc) (hi' := w1.heap.size) (ys' := mixA t xs (j + 1)) HH.out hlt HMJ.out HMJ1.out rfl HMOj.out (HGW.out.by_ _) HOB HU1.out HU2.out HGW.out.size hW2 (asrow2 (n := .int .i64 (x.2.2.2.2 + 1)) (asm t x) HRW.out hl5 rfl rfl (by rw [HXN.out])) (fun i y up ua hij hr => askeep2 hij hr)
          exact ⟨j + 1, _, _, by omega, by go_num, Lib.hid (blk_set (HG2 _).out _ _), by simp [hcs], Lib.hid (hd.up (by simp [World.setCell])), (((g1B.setCell hlo _)).setCell hlo _), HNF2⟩
        case measure => simp [intOf]; omega
      case neg =>
        have hb1 : (x.1 == 1) = false := by simpa using h1
        have hxn : (asm t x).2.2.2 = x.2.2.2 := by unfold asm; simp [h1]
        have HXN := Lib.hid hxn
        clear hxn hnum
        go_wp2_with (first | (at_builtin; refine wpList_appSL (w0 := wr) _ _ rfl rfl _ [t] rfl HLI.out ((Grew.refl wr).alloc _) _ x.2.2.1 rfl (HVX.out _ ((Grew.refl wr).alloc _)) (by simp; omega) ?_; intro u w1 hou hgw hby; rw [List.singleton_append] at hou; obtain ⟨VN, vnc, rfl⟩ := strs_slice hou.strs; have hgW := Lib.hid ((hgw.block hlt1).trans HH.out); have ff := fun i => blk_frozen hgW.out i; have e2 : w1.cell? ⟨g, j * 5 + 2, none⟩ = some (cur[j * 5 + 2]'(by omega)) := (blk_cell hgW.out _).trans (Array.getElem?_eq_getElem (by omega)); have HG2 := fun u => Lib.hid (blk_set hgW.out (j * 5 + 2) u); have f2 := fun u i => blk_frozen (HG2 u).out i; have e0 : ∀ u, (w1.setCell ⟨g, j * 5 + 2, none⟩ u).cell? ⟨g, j * 5, none⟩ = some (.int .i64 x.1) := fun u => (blk_cell (HG2 u).out _).trans (by rw [Array.getElem?_setIfInBounds, if_neg (by omega)]; first | exact HC0.out | (rw [HC0.out, HX1.out])); have hcc : (t :: x.2.2.1).length = x.2.2.1.length + 1 := rfl; rw [hcc]; rw [hcc] at hou; have HOU := Lib.hid hou; have HGW := Lib.hid hgw; have g1B := hB.trans hgw; clear hou hby hgw))
        go_roundw
        case rel =>
          have HU2 : Hid (∀ b, (Value.slice VN (x.2.2.1.length + 1) vnc).ownBlock = some b → b < w1.heap.size) := Lib.hid (fun b hb => (HOU.out.lt b hb).2)
          have HU1 : Hid ((Value.slice VN (x.2.2.1.length + 1) vnc).ownBlock = (us j).ownBlock ∨ ∀ b, (Value.slice VN (x.2.2.1.length + 1) vnc).ownBlock = some b → wr.heap.size ≤ b) := Lib.hid (.inr (fun b hb => (HOU.out.lt b hb).1))
          have HOB := HOU.out.base hB.size
          have hW := (Only.refl g w1).setCell (o := j * 5 + 2) (.slice VN (x.2.2.1.length + 1) vnc)
          have hd := HD.out.ins (W := w1.setCell ⟨g, j * 5 + 2, none⟩ (.slice VN (x.2.2.1.length + 1) vnc)) (x' := asm t x) (u := .slice VN (x.2.2.1.length + 1) vnc) (hi' := w1.heap.size) (ys' := mixA t xs (j + 1)) HH.out hlt HMJ.out HMJ1.out rfl HMOj.out (HGW.out.by_ _) HOB HU1.out HU2.out HGW.out.size hW (asrow (asm t x) HRW.out hl5 rfl HXN.out) (fun i y up ua hij hr => askeep hij hr)
          exact ⟨j + 1, _, _, by omega, by go_num, (HG2 _), by simp [hcs], Lib.hid (hd.up (by simp [World.setCell])), g1B.setCell hlo _, HNF2⟩
        case measure => simp [intOf]; omega
    case neg =>
      obtain rfl : j = n := by omega
      have hR := HRN.out HNF.out
      subst hR
      have HEE := Lib.hid (HE.out g c7 cur _ ps us _ hlo (blk_lt HH.out) HH.out hnc7 hcm hcs HD.out)
      go_wp2_with fail
      go_ret2
      exact ⟨_, rfl, HEE.out, hB⟩
end Go.Proofs.YtofeeenjlaljpaaGreat

/- The law FnExactAssumeFirst, walked. -/
namespace Go.Proofs.YtofeeenjlaljpaaGreat
open Go.RowKit

theorem lawAs_c (v0 : Value) (L0 : List Dd) (s1 : ByteArray) (w : World) (h0 : ArgDd w v0 L0) :
    Calls Tryz.prog 8 #[v0, .string s1] w fun e w' => e = .returned (.bool true) ∧ Grew w w' := by
  by_cases hbig1 : 1048576 < s1.size
  · clear h0
    go_enter Tryz.func8, Tryz.ntmps8
    go_wp2_with fail
    go_ret
    exact ⟨rfl, Grew.refl _⟩
  have Z0 := Lib.hid (fun W l (hW : Grew w W) (a0 : 0 ≤ l) (a1 : l ≤ 1048576) => szDeductionS_c v0 L0 l W (h0.grew hW) a0 a1)
  have T0 := Lib.hid (fun W (hW : Grew w W) => toDeductionS_x v0 L0 W (h0.grew hW))
  clear h0
  go_enter Tryz.func8, Tryz.ntmps8
  go_wp2_with fail
  refine (Z0.out _ _ (Grew.refl w) (by omega) (by omega)).mono ?_
  rintro e w1 ⟨r0, rfl, ⟨hm0, hs0⟩, hg1⟩
  have z1 := Lib.hid hg1.size
  have g1 : Grew w w1 := (Grew.refl w).trans hg1
  clear hg1
  by_cases hr0 : r0 < 0
  · clear hs0
    go_wp2_with fail
    go_ret
    exact ⟨rfl, g1⟩
  obtain ⟨hn0, hf0⟩ := hs0 (by omega)
  have F0 : Hid (FitsDd L0) := Lib.hid hf0
  clear hs0 hf0
  have KS := Lib.hid (fun u0 W x0 => specAs_c u0 L0 s1 W x0 F0.out (by omega) (by omega))
  have KI := Lib.hid (fun u0 W x0 => implAs_c u0 L0 s1 W x0 F0.out (by omega) (by omega))
  have hlen := asF_len (t := s1) (xs := L0) (by omega)
  have hrfit := Lib.hid (asF_fit (t := s1) F0.out)
  generalize asF s1 L0 = rr at *
  obtain ⟨xs, c⟩ := rr
  simp only at hlen
  simp only at hrfit
  unfold GivesDc at KS KI
  simp only at KS KI
  have hcc : (c != c) = false := by simp
  go_wp2_with fail
  refine (T0.out _ g1 hn0 F0.out).mono ?_
  rintro e w2 ⟨a0, rfl, oa0, hg2⟩
  have z2 := Lib.hid hg2.size
  have g2 : Grew w w2 := g1.trans hg2
  clear hg2
  go_wp2_with fail
  refine (KS.out _ _ oa0.rd).mono ?_
  rintro e w3 ⟨q0, rfl, hq, hg3⟩
  have z3 := Lib.hid hg3.size
  have g3 : Grew w w3 := g2.trans hg3
  clear hg3 oa0
  go_wp2_with fail
  refine (T0.out _ g3 hn0 F0.out).mono ?_
  rintro e w4 ⟨x0, rfl, ox0, hg4⟩
  have z4 := Lib.hid hg4.size
  have g4 : Grew w w4 := g3.trans hg4
  replace hq := hq.grew hg4
  clear hg4
  go_wp2_with fail
  refine (KI.out _ _ ox0.rd).mono ?_
  rintro e w5 ⟨g0, rfl, hog, hg5⟩
  have z5 := Lib.hid hg5.size
  have g5 : Grew w w5 := g4.trans hg5
  replace hq := hq.grew hg5
  replace ox0 := ox0.grew hg5
  clear hg5
  go_wp2_with fail
  refine (eqDeductionS_yes _ _ xs _ hog.rd hq.rd (by omega) hrfit.out).mono ?_
  rintro e w6 ⟨rfl, hg6⟩
  have z6 := Lib.hid hg6.size
  have g6 : Grew w w6 := g5.trans hg6
  replace hq := hq.grew hg6
  replace ox0 := ox0.grew hg6
  replace hog := hog.grew hg6
  clear hg6
  go_wp2_with fail
  refine (T0.out _ g6 hn0 F0.out).mono ?_
  rintro e w7 ⟨y0, rfl, oy0, hg7⟩
  have z7 := Lib.hid hg7.size
  have g7 : Grew w w7 := g6.trans hg7
  replace hq := hq.grew hg7
  replace ox0 := ox0.grew hg7
  replace hog := hog.grew hg7
  clear hg7
  go_wp2_with fail
  refine (eqDeductionS_yes _ _ L0 _ ox0.rd oy0.rd (by omega) F0.out).mono ?_
  rintro e w8 ⟨rfl, hg8⟩
  have z8 := Lib.hid hg8.size
  have g8 : Grew w w8 := g7.trans hg8
  replace hq := hq.grew hg8
  replace ox0 := ox0.grew hg8
  replace hog := hog.grew hg8
  clear hg8 oy0
  have hdk0 := dk_le (k := 1) F0.out L0.length (Nat.le_refl _)
  go_wp2_with fail
  refine (markDeductionS_x _ L0 _ _ (1) _ ox0 F0.out (by omega) (by omega) (by omega)).mono ?_
  rintro e w9 ⟨rfl, _, hsp⟩
  replace hq := hsp.ownDx hq (.inl (by have y1 := z1.out; have y2 := z2.out; have y3 := z3.out; have y4 := z4.out; omega))
  replace hog := hsp.ownDx hog (.inr (by have y1 := z1.out; have y2 := z2.out; have y3 := z3.out; have y4 := z4.out; omega))
  have g9 : Grew w w9 := hsp.old g8 (by have y1 := z1.out; have y2 := z2.out; have y3 := z3.out; have y4 := z4.out; omega)
  clear hsp ox0
  generalize hkk0 : dk 1 L0 L0.length = kk0 at *
  clear hkk0
  go_wp2_with fail
  refine (eqDeductionS_yes _ _ xs _ hog.rd hq.rd (by omega) hrfit.out).mono ?_
  rintro e w10 ⟨rfl, hg10⟩
  have z10 := Lib.hid hg10.size
  have g10 : Grew w w10 := g9.trans hg10
  replace hq := hq.grew hg10
  replace hog := hog.grew hg10
  clear hg10
  have hdkr := dk_le (k := 1) hrfit.out xs.length (Nat.le_refl _)
  go_wp2_with fail
  refine (markDeductionS_x _ xs _ _ 1 _ hog hrfit.out (by omega) (by omega) (by omega)).mono ?_
  rintro e w11 ⟨rfl, hog, hsp⟩
  replace hq := hsp.ownDx hq (.inl (by have y1 := z1.out; have y2 := z2.out; have y3 := z3.out; have y4 := z4.out; omega))
  have g11 : Grew w w11 := hsp.old g10 (by have y1 := z1.out; have y2 := z2.out; have y3 := z3.out; have y4 := z4.out; omega)
  clear hsp
  have hdd : (dk 1 xs xs.length != dk 1 xs xs.length) = false := by simp
  go_wp2_with fail
  refine (heldDeductionS_c _ xs 1 _ hog.rd hrfit.out (by omega) (by omega) (by omega)).mono ?_
  rintro e w12 ⟨rfl, hg12⟩
  have z12 := Lib.hid hg12.size
  have g12 : Grew w w12 := g11.trans hg12
  replace hq := hq.grew hg12
  replace hog := hog.grew hg12
  clear hg12
  go_wp2_with fail
  refine (T0.out _ g12 hn0 F0.out).mono ?_
  rintro e w13 ⟨b0, rfl, ob0, hg13⟩
  have z13 := Lib.hid hg13.size
  have g13 : Grew w w13 := g12.trans hg13
  replace hq := hq.grew hg13
  replace hog := hog.grew hg13
  clear hg13
  go_wp2_with fail
  refine (KI.out _ _ ob0.rd).mono ?_
  rintro e w14 ⟨h0, rfl, hoh, hg14⟩
  have z14 := Lib.hid hg14.size
  have g14 : Grew w w14 := g13.trans hg14
  replace hq := hq.grew hg14
  replace hog := hog.grew hg14
  clear hg14
  go_wp2_with fail
  refine (eqDeductionS_yes _ _ xs _ hoh.rd hq.rd (by omega) hrfit.out).mono ?_
  rintro e w15 ⟨rfl, hg15⟩
  have z15 := Lib.hid hg15.size
  have g15 : Grew w w15 := g14.trans hg15
  replace hq := hq.grew hg15
  replace hog := hog.grew hg15
  replace hoh := hoh.grew hg15
  clear hg15
  go_wp2_with fail
  refine (heldDeductionS_c _ xs 1 _ hog.rd hrfit.out (by omega) (by omega) (by omega)).mono ?_
  rintro e w16 ⟨rfl, hg16⟩
  go_wp2_with fail
  go_ret
  exact ⟨rfl, g15.trans hg16⟩
end Go.Proofs.YtofeeenjlaljpaaGreat

/- Texts in one file: JsRe JsRf JsR1 StCf StCk JfU JfGd JfFb. -/
import Derived.Deep.RegionHeld3
import Derived.Deep.QuietTactic
import Derived.BigQuiet
import Derived.Deep.LoopGhost
import Derived.WalkLawsBesides
import Derived.Outline
import Derived.Shelf.Abstract
import Derived.Test.YtkjmfkllmljdeaaGreatProg
import Derived.Test.YtkjmfkllmljdeaaGreatPa1
import Derived.Test.YtkjmfkllmljdeaaGreatPa2
import Derived.Test.YtkjmfkllmljdeaaGreatPa3
import Derived.Test.YtkjmfkllmljdeaaGreatPa4
set_option linter.all false

/- l22Fits of the reference at some rules. -/
namespace Go.Proofs.YtkjmfkllmljdeaaGreat
open Go.RowKit

set_option maxHeartbeats 8000000 in
set_option maxRecDepth 8192 in
theorem ruleJ_8 (P : List Int) (A : List ByteArray) (C M : ByteArray) : RuleJ (8, P, A, C, M) 2 := by
  intro up ua vp p w hup hs hv hq hC hM hu hk
  simp only at hup hs hq hC hM hu hk ⊢
  obtain ⟨hgC, hasc, hln⟩ := sqB_and hq
  have hUp := ascP_up hasc
  obtain ⟨y0, y1, rfl⟩ := lenJ2 hk
  obtain ⟨r0, P0, A0, C0, M0⟩ := y0
  obtain ⟨r1, P1, A1, C1, M1⟩ := y1
  obtain ⟨pb, po, pc, rfl, hpc, hpm, hat⟩ := jfs_at hv (by simp)
  have hiff : okJ (8, P, A, C, M) ([(r0, P0, A0, C0, M0), (r1, P1, A1, C1, M1)].map js) ↔ (isK M 4 ∧ M ∈ A ∧ js (r0, P0, A0, C0, M0) = (A, pl M) ∧ js (r1, P1, A1, C1, M1) = (putS (A ++ [pr M]), C)) := by
    have hgA := ascP_gp hasc
    exact okJ_8 hasc
  rw [dcd_congr hiff]
  clear hiff
  obtain ⟨up0, ua0, q0a, q0b, q0c, q0d, q0e, hp0, hu0⟩ := hat 0 _ rfl
  simp only [Nat.zero_mul, Nat.add_zero] at q0a q0b q0c q0d q0e hp0 hu0
  obtain ⟨up1, ua1, q1a, q1b, q1c, q1d, q1e, hp1, hu1⟩ := hat 1 _ rfl
  simp only [Nat.one_mul] at q1a q1b q1c q1d q1e hp1 hu1
  have KN0 := fun W (hW : Grew w W) v (hv : Strs W v (A)) => needJ_c (r0, P0, A0, C0, M0) up0 ua0 v (A) (pl M) W (hp0.grew hW) (hu0.grew hW) hv
  have KN1 := fun W (hW : Grew w W) v (hv : Strs W v (putS (A ++ [pr M]))) => needJ_c (r1, P1, A1, C1, M1) up1 ua1 v (putS (A ++ [pr M])) (C) W (hp1.grew hW) (hu1.grew hW) hv
  have KW1 := Lib.hid (fun W (hW : Grew w W) v (hv : Strs W v [pr M]) => with1_c ua v A (pr M) W (hs.grew hW) hv (by omega) hUp)
  have KY := fun W (hW : Grew w W) => l01Says_c ua A M W (hs.grew hW) (by omega)
  rw [dc_dcd] at KY
  have HSA := Lib.hid (fun W (hW : Grew w W) => hs.grew hW)
  obtain ⟨VP, cp, rfl⟩ := ints_slice hup
  obtain ⟨UA, ca, rfl⟩ := strs_slice hs
  obtain ⟨V0, d0, rfl⟩ := ints_slice hp0
  obtain ⟨U0, c0, rfl⟩ := strs_slice hu0
  obtain ⟨V1, d1, rfl⟩ := ints_slice hp1
  obtain ⟨U1, c1, rfl⟩ := strs_slice hu1
  simp only [List.length_cons, List.length_nil] at hpc ⊢
  have hal := (Grew.refl w).alloc (.cells #[.int .i64 8, .slice VP P.length cp, .slice UA A.length ca, .string C, .string M] 42)
  have f0 : ∀ W, Grew (w.alloc (.cells #[.int .i64 8, .slice VP P.length cp, .slice UA A.length ca, .string C, .string M] 42)) W → W.cell? ⟨w.heap.size, 0, none⟩ = some (.int .i64 8) := fun W hW => (hW.cell (p := ⟨w.heap.size, 0, none⟩) (by simp)).trans (by simp)
  have f2 : ∀ W, Grew (w.alloc (.cells #[.int .i64 8, .slice VP P.length cp, .slice UA A.length ca, .string C, .string M] 42)) W → W.cell? ⟨w.heap.size, 2, none⟩ = some (.slice UA A.length ca) := fun W hW => (hW.cell (p := ⟨w.heap.size, 2, none⟩) (by simp)).trans (by simp)
  have f3 : ∀ W, Grew (w.alloc (.cells #[.int .i64 8, .slice VP P.length cp, .slice UA A.length ca, .string C, .string M] 42)) W → W.cell? ⟨w.heap.size, 3, none⟩ = some (.string C) := fun W hW => (hW.cell (p := ⟨w.heap.size, 3, none⟩) (by simp)).trans (by simp)
  have f4 : ∀ W, Grew (w.alloc (.cells #[.int .i64 8, .slice VP P.length cp, .slice UA A.length ca, .string C, .string M] 42)) W → W.cell? ⟨w.heap.size, 4, none⟩ = some (.string M) := fun W hW => (hW.cell (p := ⟨w.heap.size, 4, none⟩) (by simp)).trans (by simp)
  clear hup hs hv hat hk hq hasc hUp hu hu0 hp0 hu1 hp1
  generalize P.length = pln at *
  generalize A.length = al at *
  generalize A0.length = al0 at *
  generalize A1.length = al1 at *
  generalize P0.length = pl0 at *
  generalize P1.length = pl1 at *
  generalize hwb : w.alloc (.cells #[.int .i64 8, .slice VP pln cp, .slice UA al ca, .string C, .string M] 42) = wb at *
  have rb := Grew.refl wb
  have rbd := rb.drew
  have rbn := fun n => rb.drewN n
  by_cases h0 : isK M 4
  · have hh : True := trivial
    have KP := Lib.hid (fun W => split_yes 4 M W h0 (by decide))
    by_cases h1 : M ∈ A
    · have hh : True := trivial
      rw [dcd_true h1] at KY
      by_cases h2 : js (r0, P0, A0, C0, M0) = (A, pl M)
      · have hh : True := trivial
        rw [dcd_true h2] at KN0
        by_cases h3 : js (r1, P1, A1, C1, M1) = (putS (A ++ [pr M]), C)
        · have hh : True := trivial
          rw [dcd_true h3] at KN1
          rw [dcd_true ⟨h0, h1, h2, h3⟩]
          replace KN0 := Lib.hid KN0
          replace KN1 := Lib.hid KN1
          replace KY := Lib.hid KY
          replace hwb := hwb.symm
          clear h0 h1 h2 h3
          go_enter Tryz.func43, Tryz.ntmps43
          go_wp2_with fail
          rw [← hwb]
          clear hwb
          go_quiet (fail)
          go_wp2_with fail
          refine (KP.out _).mono ?_
          rintro e w1 ⟨rfl, hg1'⟩
          have hg1 : Grew wb w1 := Grew.trans (by repeat (first | with_reducible assumption | with_reducible refine Grew.alloc ?_ _ | with_reducible refine Grew.drew ?_ | with_reducible refine Grew.drewN ?_ _)) hg1'
          have g1 := hal.trans hg1
          have r1 := Grew.refl w1
          have d1 := r1.drew
          have gd := g1.trans d1
          have e0 := fun W (hW : Grew w1 W) => f0 W (hg1.trans hW)
          have e2 := fun W (hW : Grew w1 W) => f2 W (hg1.trans hW)
          have e3 := fun W (hW : Grew w1 W) => f3 W (hg1.trans hW)
          have e4 := fun W (hW : Grew w1 W) => f4 W (hg1.trans hW)
          have p0a := fun W (hW : Grew w1 W) => q0a W (g1.trans hW)
          have p0b := fun W (hW : Grew w1 W) => q0b W (g1.trans hW)
          have p0c := fun W (hW : Grew w1 W) => q0c W (g1.trans hW)
          have p0d := fun W (hW : Grew w1 W) => q0d W (g1.trans hW)
          have p0e := fun W (hW : Grew w1 W) => q0e W (g1.trans hW)
          have p1a := fun W (hW : Grew w1 W) => q1a W (g1.trans hW)
          have p1b := fun W (hW : Grew w1 W) => q1b W (g1.trans hW)
          have p1c := fun W (hW : Grew w1 W) => q1c W (g1.trans hW)
          have p1d := fun W (hW : Grew w1 W) => q1d W (g1.trans hW)
          have p1e := fun W (hW : Grew w1 W) => q1e W (g1.trans hW)
          clear f0 f2 f3 f4 q0a q0b q0c q0d q0e q1a q1b q1c q1d q1e
          go_wp2_with fail
          refine wp_region_held_drew (S := fun w' => Grew w1 w') (by kernel_rfl) d1 (fun hHeld => ?_)
          refine wpAnyH_take (i := 0) (oi := ?on231) (v := ?vn231) ?hin231 ?an231 ?bn231 ?cn231 ?qn231 (Or.inl ⟨?dn231, ?hyn231⟩) hHeld ?restn231
          case hin231 => (simp only [List.getElem?_toArray, List.getElem?_cons_zero]; exact rfl)
          case an231 => kernel_rfl
          case bn231 => kernel_rfl
          case cn231 => kernel_rfl
          case qn231 => exact fun _ _ _ h => h
          case dn231 => rfl
          case hyn231 => (intro z hSw; (try dsimp only at hSw); go_simp; (try with_reducible rfl))
          try simp only [Act.put, List.setIfInBounds_toArray, List.set_cons_zero, List.set_cons_succ]
          refine wpAnyH_take (i := 1) (oi := ?on232) (v := ?vn232) ?hin232 ?an232 ?bn232 ?cn232 ?qn232 (Or.inl ⟨?dn232, ?hyn232⟩) hHeld ?restn232
          case hin232 => (simp only [List.getElem?_toArray, List.getElem?_cons_succ, List.getElem?_cons_zero]; exact rfl)
          case an232 => kernel_rfl
          case bn232 => kernel_rfl
          case cn232 => kernel_rfl
          case qn232 => exact fun _ _ _ h => h
          case dn232 => rfl
          case hyn232 => (intro z hSw; (try dsimp only at hSw); go_simp; (try with_reducible rfl))
          try simp only [Act.put, List.setIfInBounds_toArray, List.set_cons_zero, List.set_cons_succ]
          refine wpAnyH_take (i := 2) (oi := ?on233) (v := ?vn233) ?hin233 ?an233 ?bn233 ?cn233 ?qn233 (Or.inl ⟨?dn233, ?hyn233⟩) hHeld ?restn233
          case hin233 => (simp only [List.getElem?_toArray, List.getElem?_cons_succ, List.getElem?_cons_zero]; exact rfl)
          case an233 => kernel_rfl
          case bn233 => kernel_rfl
          case cn233 => kernel_rfl
          case qn233 => exact fun _ _ _ h => h
          case dn233 => rfl
          case hyn233 => (intro z hSw; (try dsimp only at hSw); go_simp; (try with_reducible rfl))
          try simp only [Act.put, List.setIfInBounds_toArray, List.set_cons_zero, List.set_cons_succ]
          refine wpAnyH_take (i := 3) (oi := ?on234) (v := ?vn234) ?hin234 ?an234 ?bn234 ?cn234 ?qn234 (Or.inl ⟨?dn234, ?hyn234⟩) hHeld ?restn234
          case hin234 => (simp only [List.getElem?_toArray, List.getElem?_cons_succ, List.getElem?_cons_zero]; exact rfl)
          case an234 => kernel_rfl
          case bn234 => kernel_rfl
          case cn234 => kernel_rfl
          case qn234 => exact fun _ _ _ h => h
          case dn234 => rfl
          case hyn234 => (intro z hSw; (try dsimp only at hSw); go_simp; (try with_reducible rfl))
          try simp only [Act.put, List.setIfInBounds_toArray, List.set_cons_zero, List.set_cons_succ]
          refine wpAnyH_take (i := 4) (oi := ?on235) (v := ?vn235) ?hin235 ?an235 ?bn235 ?cn235 ?qn235 (Or.inl ⟨?dn235, ?hyn235⟩) hHeld ?restn235
          case hin235 => (simp only [List.getElem?_toArray, List.getElem?_cons_succ, List.getElem?_cons_zero]; exact rfl)
          case an235 => kernel_rfl
          case bn235 => kernel_rfl
          case cn235 => kernel_rfl
          case qn235 => exact fun _ _ _ h => h
          case dn235 => rfl
          case hyn235 => (intro z hSw; (try dsimp only at hSw); go_simp; (try with_reducible rfl))
          try simp only [Act.put, List.setIfInBounds_toArray, List.set_cons_zero, List.set_cons_succ]
          refine wpAnyH_ready (rs := [5]) (by kernel_rfl) (by simp) ?_
          refine AllReadyH.cons (o := ?on236) ?hin236 ?restn236 AllReadyH.nil
          case hin236 => (simp only [List.getElem?_toArray, List.getElem?_cons_succ, List.getElem?_cons_zero]; exact rfl)
          intro K hK
          go_simp
          go_at_call 54
          refine (KY.out _ (by repeat (first | with_reducible assumption | with_reducible refine Grew.alloc ?_ _ | with_reducible refine Grew.drew ?_ | with_reducible refine Grew.drewN ?_ _))).mono ?_
          rintro e ws ⟨rfl, hgs⟩
          have gws : Grew w ws := Grew.trans (by repeat (first | with_reducible assumption | with_reducible refine Grew.alloc ?_ _ | with_reducible refine Grew.drew ?_ | with_reducible refine Grew.drewN ?_ _)) hgs
          have mws : Grew w1 ws := Grew.trans (by repeat (first | with_reducible assumption | with_reducible refine Grew.alloc ?_ _ | with_reducible refine Grew.drew ?_ | with_reducible refine Grew.drewN ?_ _)) hgs
          refine hK.out _ _ ?_ (fun hHeld => ?_)
          · (try dsimp only); first | with_reducible assumption | exact Grew.alloc ‹_› _
          clear hK K
          try simp only [Act.put, List.setIfInBounds_toArray, List.set_cons_zero, List.set_cons_succ]
          refine wpAnyH_take (i := 6) (oi := ?on237) (v := ?vn237) ?hin237 ?an237 ?bn237 ?cn237 ?qn237 (Or.inl ⟨?dn237, ?hyn237⟩) hHeld ?restn237
          case hin237 => (simp only [List.getElem?_toArray, List.getElem?_cons_succ, List.getElem?_cons_zero]; exact rfl)
          case an237 => kernel_rfl
          case bn237 => kernel_rfl
          case cn237 => kernel_rfl
          case qn237 => exact fun _ _ _ h => h
          case dn237 => rfl
          case hyn237 => (intro z hSw; (try dsimp only at hSw); go_simp; (try with_reducible rfl))
          try simp only [Act.put, List.setIfInBounds_toArray, List.set_cons_zero, List.set_cons_succ]
          refine wpAnyH_take (i := 7) (oi := ?on238) (v := ?vn238) ?hin238 ?an238 ?bn238 ?cn238 ?qn238 (Or.inl ⟨?dn238, ?hyn238⟩) hHeld ?restn238
          case hin238 => (simp only [List.getElem?_toArray, List.getElem?_cons_succ, List.getElem?_cons_zero]; exact rfl)
          case an238 => kernel_rfl
          case bn238 => kernel_rfl
          case cn238 => kernel_rfl
          case qn238 => exact fun _ _ _ h => h
          case dn238 => rfl
          case hyn238 => (intro z hSw; (try dsimp only at hSw); go_simp; (try with_reducible rfl))
          try simp only [Act.put, List.setIfInBounds_toArray, List.set_cons_zero, List.set_cons_succ]
          refine wpAnyH_take (i := 8) (oi := ?on239) (v := ?vn239) ?hin239 ?an239 ?bn239 ?cn239 ?qn239 (Or.inl ⟨?dn239, ?hyn239⟩) hHeld ?restn239
          case hin239 => (simp only [List.getElem?_toArray, List.getElem?_cons_succ, List.getElem?_cons_zero]; exact rfl)
          case an239 => kernel_rfl
          case bn239 => kernel_rfl
          case cn239 => kernel_rfl
          case qn239 => exact fun _ _ _ h => h
          case dn239 => rfl
          case hyn239 => (intro z hSw; (try dsimp only at hSw); go_simp; (try with_reducible rfl))
          try simp only [Act.put, List.setIfInBounds_toArray, List.set_cons_zero, List.set_cons_succ]
          refine wpAnyH_take (i := 9) (oi := ?on240) (v := ?vn240) ?hin240 ?an240 ?bn240 ?cn240 ?qn240 (Or.inl ⟨?dn240, ?hyn240⟩) hHeld ?restn240
          case hin240 => (simp only [List.getElem?_toArray, List.getElem?_cons_succ, List.getElem?_cons_zero]; exact rfl)
          case an240 => kernel_rfl
          case bn240 => kernel_rfl
          case cn240 => kernel_rfl
          case qn240 => exact fun _ _ _ h => h
          case dn240 => rfl
          case hyn240 => (intro z hSw; (try dsimp only at hSw); go_simp; (try with_reducible rfl))
          try simp only [Act.put, List.setIfInBounds_toArray, List.set_cons_zero, List.set_cons_succ]
          refine wpAnyH_take (i := 10) (oi := ?on241) (v := ?vn241) ?hin241 ?an241 ?bn241 ?cn241 ?qn241 (Or.inl ⟨?dn241, ?hyn241⟩) hHeld ?restn241
          case hin241 => (simp only [List.getElem?_toArray, List.getElem?_cons_succ, List.getElem?_cons_zero]; exact rfl)
          case an241 => kernel_rfl
          case bn241 => kernel_rfl
          case cn241 => kernel_rfl
          case qn241 => exact fun _ _ _ h => h
          case dn241 => rfl
          case hyn241 => (intro z hSw; (try dsimp only at hSw); go_simp; (try with_reducible rfl))
          try simp only [Act.put, List.setIfInBounds_toArray, List.set_cons_zero, List.set_cons_succ]
          refine wpAnyH_take (i := 11) (oi := ?on242) (v := ?vn242) ?hin242 ?an242 ?bn242 ?cn242 ?qn242 (Or.inl ⟨?dn242, ?hyn242⟩) hHeld ?restn242
          case hin242 => (simp only [List.getElem?_toArray, List.getElem?_cons_succ, List.getElem?_cons_zero]; exact rfl)
          case an242 => kernel_rfl
          case bn242 => kernel_rfl
          case cn242 => kernel_rfl
          case qn242 => exact fun _ _ _ h => h
          case dn242 => rfl
          case hyn242 => (intro z hSw; (try dsimp only at hSw); go_simp; (try with_reducible rfl))
          try simp only [Act.put, List.setIfInBounds_toArray, List.set_cons_zero, List.set_cons_succ]
          refine wpAnyH_take (i := 12) (oi := ?on243) (v := ?vn243) ?hin243 ?an243 ?bn243 ?cn243 ?qn243 (Or.inl ⟨?dn243, ?hyn243⟩) hHeld ?restn243
          case hin243 => (simp only [List.getElem?_toArray, List.getElem?_cons_succ, List.getElem?_cons_zero]; exact rfl)
          case an243 => kernel_rfl
          case bn243 => kernel_rfl
          case cn243 => kernel_rfl
          case qn243 => exact fun _ _ _ h => h
          case dn243 => rfl
          case hyn243 => (intro z hSw; (try dsimp only at hSw); go_simp; (try with_reducible rfl))
          try simp only [Act.put, List.setIfInBounds_toArray, List.set_cons_zero, List.set_cons_succ]
          refine wpAnyH_ready (rs := [13]) (by kernel_rfl) (by simp) ?_
          refine AllReadyH.cons (o := ?on244) ?hin244 ?restn244 AllReadyH.nil
          case hin244 => (simp only [List.getElem?_toArray, List.getElem?_cons_succ, List.getElem?_cons_zero]; exact rfl)
          intro K hK
          go_simp
          go_at_call 56
          refine (KN0.out _ (by repeat (first | with_reducible assumption | with_reducible refine Grew.alloc ?_ _ | with_reducible refine Grew.drew ?_ | with_reducible refine Grew.drewN ?_ _)) _ (HSA.out _ (by repeat (first | with_reducible assumption | with_reducible refine Grew.alloc ?_ _ | with_reducible refine Grew.drew ?_ | with_reducible refine Grew.drewN ?_ _)))).mono ?_
          rintro e v0 ⟨rfl, vg0⟩
          have gv0 : Grew w v0 := Grew.trans (by repeat (first | with_reducible assumption | with_reducible refine Grew.alloc ?_ _ | with_reducible refine Grew.drew ?_ | with_reducible refine Grew.drewN ?_ _)) vg0
          have mv0 : Grew w1 v0 := Grew.trans (by repeat (first | with_reducible assumption | with_reducible refine Grew.alloc ?_ _ | with_reducible refine Grew.drew ?_ | with_reducible refine Grew.drewN ?_ _)) vg0
          refine hK.out _ _ ?_ (fun hHeld => ?_)
          · (try dsimp only); first | with_reducible assumption | exact Grew.alloc ‹_› _
          clear hK K
          try simp only [Act.put, List.setIfInBounds_toArray, List.set_cons_zero, List.set_cons_succ]
          refine wpAnyH_take (i := 14) (oi := ?on245) (v := ?vn245) ?hin245 ?an245 ?bn245 ?cn245 ?qn245 (Or.inl ⟨?dn245, ?hyn245⟩) hHeld ?restn245
          case hin245 => (simp only [List.getElem?_toArray, List.getElem?_cons_succ, List.getElem?_cons_zero]; exact rfl)
          case an245 => kernel_rfl
          case bn245 => kernel_rfl
          case cn245 => kernel_rfl
          case qn245 => exact fun _ _ _ h => h
          case dn245 => rfl
          case hyn245 => (intro z hSw; (try dsimp only at hSw); go_simp; (try with_reducible rfl))
          try simp only [Act.put, List.setIfInBounds_toArray, List.set_cons_zero, List.set_cons_succ]
          refine wpAnyH_take (i := 15) (oi := ?on246) (v := ?vn246) ?hin246 ?an246 ?bn246 ?cn246 ?qn246 (Or.inl ⟨?dn246, ?hyn246⟩) hHeld ?restn246
          case hin246 => (simp only [List.getElem?_toArray, List.getElem?_cons_succ, List.getElem?_cons_zero]; exact rfl)
          case an246 => kernel_rfl
          case bn246 => kernel_rfl
          case cn246 => kernel_rfl
          case qn246 => exact fun _ _ _ h => h
          case dn246 => rfl
          case hyn246 => (intro z hSw; (try dsimp only at hSw); go_simp; (try with_reducible rfl))
          try simp only [Act.put, List.setIfInBounds_toArray, List.set_cons_zero, List.set_cons_succ]
          refine wpAnyH_take (i := 16) (oi := ?on247) (v := ?vn247) ?hin247 ?an247 ?bn247 ?cn247 ?qn247 (Or.inl ⟨?dn247, ?hyn247⟩) hHeld ?restn247
          case hin247 => (simp only [List.getElem?_toArray, List.getElem?_cons_succ, List.getElem?_cons_zero]; exact rfl)
          case an247 => kernel_rfl
          case bn247 => kernel_rfl
          case cn247 => kernel_rfl
          case qn247 => exact fun _ _ _ h => h
          case dn247 => rfl
          case hyn247 => (intro z hSw; (try dsimp only at hSw); go_simp; (try with_reducible rfl))
          try simp only [Act.put, List.setIfInBounds_toArray, List.set_cons_zero, List.set_cons_succ]
          refine wpAnyH_take (i := 17) (oi := ?on248) (v := ?vn248) ?hin248 ?an248 ?bn248 ?cn248 ?qn248 (Or.inl ⟨?dn248, ?hyn248⟩) hHeld ?restn248
          case hin248 => (simp only [List.getElem?_toArray, List.getElem?_cons_succ, List.getElem?_cons_zero]; exact rfl)
          case an248 => kernel_rfl
          case bn248 => kernel_rfl
          case cn248 => kernel_rfl
          case qn248 => exact fun _ _ _ h => h
          case dn248 => rfl
          case hyn248 => (intro z hSw; (try dsimp only at hSw); go_simp; (try with_reducible rfl))
          try simp only [Act.put, List.setIfInBounds_toArray, List.set_cons_zero, List.set_cons_succ]
          refine wpAnyH_take (i := 18) (oi := ?on249) (v := ?vn249) ?hin249 ?an249 ?bn249 ?cn249 ?qn249 (Or.inl ⟨?dn249, ?hyn249⟩) hHeld ?restn249
          case hin249 => (simp only [List.getElem?_toArray, List.getElem?_cons_succ, List.getElem?_cons_zero]; exact rfl)
          case an249 => kernel_rfl
          case bn249 => kernel_rfl
          case cn249 => kernel_rfl
          case qn249 => exact fun _ _ _ h => h
          case dn249 => rfl
          case hyn249 => (intro z hSw; (try dsimp only at hSw); go_simp; (try with_reducible rfl))
          try simp only [Act.put, List.setIfInBounds_toArray, List.set_cons_zero, List.set_cons_succ]
          refine wpAnyH_take (i := 19) (oi := ?on250) (v := ?vn250) ?hin250 ?an250 ?bn250 ?cn250 ?qn250 (Or.inl ⟨?dn250, ?hyn250⟩) hHeld ?restn250
          case hin250 => (simp only [List.getElem?_toArray, List.getElem?_cons_succ, List.getElem?_cons_zero]; exact rfl)
          case an250 => kernel_rfl
          case bn250 => kernel_rfl
          case cn250 => kernel_rfl
          case qn250 => exact fun _ _ _ h => h
          case dn250 => rfl
          case hyn250 => (intro z hSw; (try dsimp only at hSw); go_simp; (try with_reducible rfl))
          try simp only [Act.put, List.setIfInBounds_toArray, List.set_cons_zero, List.set_cons_succ]
          refine wpAnyH_take (i := 20) (oi := ?on251) (v := ?vn251) ?hin251 ?an251 ?bn251 ?cn251 ?qn251 (Or.inl ⟨?dn251, ?hyn251⟩) hHeld ?restn251
          case hin251 => (simp only [List.getElem?_toArray, List.getElem?_cons_succ, List.getElem?_cons_zero]; exact rfl)
          case an251 => kernel_rfl
          case bn251 => kernel_rfl
          case cn251 => kernel_rfl
          case qn251 => exact fun _ _ _ h => h
          case dn251 => rfl
          case hyn251 => (intro z hSw; (try dsimp only at hSw); go_simp; (try with_reducible rfl))
          try simp only [Act.put, List.setIfInBounds_toArray, List.set_cons_zero, List.set_cons_succ]
          refine wpAnyH_take (i := 23) (oi := ?on252) (v := ?vn252) ?hin252 ?an252 ?bn252 ?cn252 ?qn252 (Or.inl ⟨?dn252, ?hyn252⟩) hHeld ?restn252
          case hin252 => (simp only [List.getElem?_toArray, List.getElem?_cons_succ, List.getElem?_cons_zero]; exact rfl)
          case an252 => kernel_rfl
          case bn252 => kernel_rfl
          case cn252 => kernel_rfl
          case qn252 => exact fun _ _ _ h => h
          case dn252 => rfl
          case hyn252 => (intro z hSw; (try dsimp only at hSw); go_simp; (try with_reducible rfl))
          try simp only [Act.put, List.setIfInBounds_toArray, List.set_cons_zero, List.set_cons_succ]
          refine wpAnyH_ready (rs := [21]) (by kernel_rfl) (by simp) ?_
          refine AllReadyH.cons (o := ?on253) ?hin253 ?restn253 AllReadyH.nil
          case hin253 => (simp only [List.getElem?_toArray, List.getElem?_cons_succ, List.getElem?_cons_zero]; exact rfl)
          intro K hK
          go_simp
          refine hK.out _ _ ?_ (fun hHeld => ?_)
          · (try dsimp only); first | with_reducible assumption | exact Grew.alloc ‹_› _
          clear hK K
          try simp only [Act.put, List.setIfInBounds_toArray, List.set_cons_zero, List.set_cons_succ]
          refine wpAnyH_ready (rs := [22]) (by kernel_rfl) (by simp) ?_
          refine AllReadyH.cons (o := ?on254) ?hin254 ?restn254 AllReadyH.nil
          case hin254 => (simp only [List.getElem?_toArray, List.getElem?_cons_succ, List.getElem?_cons_zero]; exact rfl)
          intro K hK
          go_simp
          go_at_call 57
          refine (KW1.out _ (by repeat (first | with_reducible assumption | with_reducible refine Grew.alloc ?_ _ | with_reducible refine Grew.drew ?_ | with_reducible refine Grew.drewN ?_ _)) _ (strs_at1 (by simp) (by simp))).mono ?_
          rintro e z1 ⟨zu1, rfl, zo1, zg1⟩
          have gz1 : Grew w z1 := Grew.trans (by repeat (first | with_reducible assumption | with_reducible refine Grew.alloc ?_ _ | with_reducible refine Grew.drew ?_ | with_reducible refine Grew.drewN ?_ _)) zg1
          have mz1 : Grew w1 z1 := Grew.trans (by repeat (first | with_reducible assumption | with_reducible refine Grew.alloc ?_ _ | with_reducible refine Grew.drew ?_ | with_reducible refine Grew.drewN ?_ _)) zg1
          have zs1 := Lib.hid zo1
          obtain ⟨ZA1, zc1, rfl⟩ := strs_slice zo1
          clear zo1
          refine hK.out _ _ ?_ (fun hHeld => ?_)
          · (try dsimp only); first | with_reducible assumption | exact Grew.alloc ‹_› _
          clear hK K
          try simp only [Act.put, List.setIfInBounds_toArray, List.set_cons_zero, List.set_cons_succ]
          refine wpAnyH_ready (rs := [24]) (by kernel_rfl) (by simp) ?_
          refine AllReadyH.cons (o := ?on255) ?hin255 ?restn255 AllReadyH.nil
          case hin255 => (simp only [List.getElem?_toArray, List.getElem?_cons_succ, List.getElem?_cons_zero]; exact rfl)
          intro K hK
          go_simp
          go_at_call 56
          refine (KN1.out _ (by repeat (first | with_reducible assumption | with_reducible refine Grew.alloc ?_ _ | with_reducible refine Grew.drew ?_ | with_reducible refine Grew.drewN ?_ _)) _ zs1.out).mono ?_
          rintro e v1 ⟨rfl, vg1⟩
          have gv1 : Grew w v1 := Grew.trans (by repeat (first | with_reducible assumption | with_reducible refine Grew.alloc ?_ _ | with_reducible refine Grew.drew ?_ | with_reducible refine Grew.drewN ?_ _)) vg1
          have mv1 : Grew w1 v1 := Grew.trans (by repeat (first | with_reducible assumption | with_reducible refine Grew.alloc ?_ _ | with_reducible refine Grew.drew ?_ | with_reducible refine Grew.drewN ?_ _)) vg1
          refine hK.out _ _ ?_ (fun hHeld => ?_)
          · (try dsimp only); first | with_reducible assumption | exact Grew.alloc ‹_› _
          clear hK K
          try simp only [Act.put, List.setIfInBounds_toArray, List.set_cons_zero, List.set_cons_succ]
          refine wpAnyH_take (i := 25) (oi := ?on256) (v := ?vn256) ?hin256 ?an256 ?bn256 ?cn256 ?qn256 (Or.inl ⟨?dn256, ?hyn256⟩) hHeld ?restn256
          case hin256 => (simp only [List.getElem?_toArray, List.getElem?_cons_succ, List.getElem?_cons_zero]; exact rfl)
          case an256 => kernel_rfl
          case bn256 => kernel_rfl
          case cn256 => kernel_rfl
          case qn256 => exact fun _ _ _ h => h
          case dn256 => rfl
          case hyn256 => (intro z hSw; (try dsimp only at hSw); go_simp; (try with_reducible rfl))
          try simp only [Act.put, List.setIfInBounds_toArray, List.set_cons_zero, List.set_cons_succ]
          refine wpAnyH_take (i := 26) (oi := ?on257) (v := ?vn257) ?hin257 ?an257 ?bn257 ?cn257 ?qn257 (Or.inl ⟨?dn257, ?hyn257⟩) hHeld ?restn257
          case hin257 => (simp only [List.getElem?_toArray, List.getElem?_cons_succ, List.getElem?_cons_zero]; exact rfl)
          case an257 => kernel_rfl
          case bn257 => kernel_rfl
          case cn257 => kernel_rfl
          case qn257 => exact fun _ _ _ h => h
          case dn257 => rfl
          case hyn257 => (intro z hSw; (try dsimp only at hSw); go_simp; (try with_reducible rfl))
          try simp only [Act.put, List.setIfInBounds_toArray, List.set_cons_zero, List.set_cons_succ]
          refine wpAnyH_done (by kernel_rfl) ?_ _
          go_wp2_with fail
          go_ret
          exact ⟨rfl, (by repeat (first | with_reducible assumption | with_reducible refine Grew.alloc ?_ _ | with_reducible refine Grew.drew ?_ | with_reducible refine Grew.drewN ?_ _))⟩
        · rw [dcd_false (fun h => h3 (h.2.2.2))]
          rw [dcd_false h3] at KN1
          replace KN0 := Lib.hid KN0
          replace KN1 := Lib.hid KN1
          replace KY := Lib.hid KY
          replace hwb := hwb.symm
          clear h0 h1 h2 h3
          go_enter Tryz.func43, Tryz.ntmps43
          go_wp2_with fail
          rw [← hwb]
          clear hwb
          go_quiet (fail)
          go_wp2_with fail
          refine (KP.out _).mono ?_
          rintro e w1 ⟨rfl, hg1'⟩
          have hg1 : Grew wb w1 := Grew.trans (by repeat (first | with_reducible assumption | with_reducible refine Grew.alloc ?_ _ | with_reducible refine Grew.drew ?_ | with_reducible refine Grew.drewN ?_ _)) hg1'
          have g1 := hal.trans hg1
          have r1 := Grew.refl w1
          have d1 := r1.drew
          have gd := g1.trans d1
          have e0 := fun W (hW : Grew w1 W) => f0 W (hg1.trans hW)
          have e2 := fun W (hW : Grew w1 W) => f2 W (hg1.trans hW)
          have e3 := fun W (hW : Grew w1 W) => f3 W (hg1.trans hW)
          have e4 := fun W (hW : Grew w1 W) => f4 W (hg1.trans hW)
          have p0a := fun W (hW : Grew w1 W) => q0a W (g1.trans hW)
          have p0b := fun W (hW : Grew w1 W) => q0b W (g1.trans hW)
          have p0c := fun W (hW : Grew w1 W) => q0c W (g1.trans hW)
          have p0d := fun W (hW : Grew w1 W) => q0d W (g1.trans hW)
          have p0e := fun W (hW : Grew w1 W) => q0e W (g1.trans hW)
          have p1a := fun W (hW : Grew w1 W) => q1a W (g1.trans hW)
          have p1b := fun W (hW : Grew w1 W) => q1b W (g1.trans hW)
          have p1c := fun W (hW : Grew w1 W) => q1c W (g1.trans hW)
          have p1d := fun W (hW : Grew w1 W) => q1d W (g1.trans hW)
          have p1e := fun W (hW : Grew w1 W) => q1e W (g1.trans hW)
          clear f0 f2 f3 f4 q0a q0b q0c q0d q0e q1a q1b q1c q1d q1e
          go_wp2_with fail
          refine wp_region_held_drew (S := fun w' => Grew w1 w') (by kernel_rfl) d1 (fun hHeld => ?_)
          refine wpAnyH_take (i := 0) (oi := ?on258) (v := ?vn258) ?hin258 ?an258 ?bn258 ?cn258 ?qn258 (Or.inl ⟨?dn258, ?hyn258⟩) hHeld ?restn258
          case hin258 => (simp only [List.getElem?_toArray, List.getElem?_cons_zero]; exact rfl)
          case an258 => kernel_rfl
          case bn258 => kernel_rfl
          case cn258 => kernel_rfl
          case qn258 => exact fun _ _ _ h => h
          case dn258 => rfl
          case hyn258 => (intro z hSw; (try dsimp only at hSw); go_simp; (try with_reducible rfl))
          try simp only [Act.put, List.setIfInBounds_toArray, List.set_cons_zero, List.set_cons_succ]
          refine wpAnyH_take (i := 1) (oi := ?on259) (v := ?vn259) ?hin259 ?an259 ?bn259 ?cn259 ?qn259 (Or.inl ⟨?dn259, ?hyn259⟩) hHeld ?restn259
          case hin259 => (simp only [List.getElem?_toArray, List.getElem?_cons_succ, List.getElem?_cons_zero]; exact rfl)
          case an259 => kernel_rfl
          case bn259 => kernel_rfl
          case cn259 => kernel_rfl
          case qn259 => exact fun _ _ _ h => h
          case dn259 => rfl
          case hyn259 => (intro z hSw; (try dsimp only at hSw); go_simp; (try with_reducible rfl))
          try simp only [Act.put, List.setIfInBounds_toArray, List.set_cons_zero, List.set_cons_succ]
          refine wpAnyH_take (i := 2) (oi := ?on260) (v := ?vn260) ?hin260 ?an260 ?bn260 ?cn260 ?qn260 (Or.inl ⟨?dn260, ?hyn260⟩) hHeld ?restn260
          case hin260 => (simp only [List.getElem?_toArray, List.getElem?_cons_succ, List.getElem?_cons_zero]; exact rfl)
          case an260 => kernel_rfl
          case bn260 => kernel_rfl
          case cn260 => kernel_rfl
          case qn260 => exact fun _ _ _ h => h
          case dn260 => rfl
          case hyn260 => (intro z hSw; (try dsimp only at hSw); go_simp; (try with_reducible rfl))
          try simp only [Act.put, List.setIfInBounds_toArray, List.set_cons_zero, List.set_cons_succ]
          refine wpAnyH_take (i := 3) (oi := ?on261) (v := ?vn261) ?hin261 ?an261 ?bn261 ?cn261 ?qn261 (Or.inl ⟨?dn261, ?hyn261⟩) hHeld ?restn261
          case hin261 => (simp only [List.getElem?_toArray, List.getElem?_cons_succ, List.getElem?_cons_zero]; exact rfl)
          case an261 => kernel_rfl
          case bn261 => kernel_rfl
          case cn261 => kernel_rfl
          case qn261 => exact fun _ _ _ h => h
          case dn261 => rfl
          case hyn261 => (intro z hSw; (try dsimp only at hSw); go_simp; (try with_reducible rfl))
          try simp only [Act.put, List.setIfInBounds_toArray, List.set_cons_zero, List.set_cons_succ]
          refine wpAnyH_take (i := 4) (oi := ?on262) (v := ?vn262) ?hin262 ?an262 ?bn262 ?cn262 ?qn262 (Or.inl ⟨?dn262, ?hyn262⟩) hHeld ?restn262
          case hin262 => (simp only [List.getElem?_toArray, List.getElem?_cons_succ, List.getElem?_cons_zero]; exact rfl)
          case an262 => kernel_rfl
          case bn262 => kernel_rfl
          case cn262 => kernel_rfl
          case qn262 => exact fun _ _ _ h => h
          case dn262 => rfl
          case hyn262 => (intro z hSw; (try dsimp only at hSw); go_simp; (try with_reducible rfl))
          try simp only [Act.put, List.setIfInBounds_toArray, List.set_cons_zero, List.set_cons_succ]
          refine wpAnyH_ready (rs := [5]) (by kernel_rfl) (by simp) ?_
          refine AllReadyH.cons (o := ?on263) ?hin263 ?restn263 AllReadyH.nil
          case hin263 => (simp only [List.getElem?_toArray, List.getElem?_cons_succ, List.getElem?_cons_zero]; exact rfl)
          intro K hK
          go_simp
          go_at_call 54
          refine (KY.out _ (by repeat (first | with_reducible assumption | with_reducible refine Grew.alloc ?_ _ | with_reducible refine Grew.drew ?_ | with_reducible refine Grew.drewN ?_ _))).mono ?_
          rintro e ws ⟨rfl, hgs⟩
          have gws : Grew w ws := Grew.trans (by repeat (first | with_reducible assumption | with_reducible refine Grew.alloc ?_ _ | with_reducible refine Grew.drew ?_ | with_reducible refine Grew.drewN ?_ _)) hgs
          have mws : Grew w1 ws := Grew.trans (by repeat (first | with_reducible assumption | with_reducible refine Grew.alloc ?_ _ | with_reducible refine Grew.drew ?_ | with_reducible refine Grew.drewN ?_ _)) hgs
          refine hK.out _ _ ?_ (fun hHeld => ?_)
          · (try dsimp only); first | with_reducible assumption | exact Grew.alloc ‹_› _
          clear hK K
          try simp only [Act.put, List.setIfInBounds_toArray, List.set_cons_zero, List.set_cons_succ]
          refine wpAnyH_take (i := 6) (oi := ?on264) (v := ?vn264) ?hin264 ?an264 ?bn264 ?cn264 ?qn264 (Or.inl ⟨?dn264, ?hyn264⟩) hHeld ?restn264
          case hin264 => (simp only [List.getElem?_toArray, List.getElem?_cons_succ, List.getElem?_cons_zero]; exact rfl)
          case an264 => kernel_rfl
          case bn264 => kernel_rfl
          case cn264 => kernel_rfl
          case qn264 => exact fun _ _ _ h => h
          case dn264 => rfl
          case hyn264 => (intro z hSw; (try dsimp only at hSw); go_simp; (try with_reducible rfl))
          try simp only [Act.put, List.setIfInBounds_toArray, List.set_cons_zero, List.set_cons_succ]
          refine wpAnyH_take (i := 7) (oi := ?on265) (v := ?vn265) ?hin265 ?an265 ?bn265 ?cn265 ?qn265 (Or.inl ⟨?dn265, ?hyn265⟩) hHeld ?restn265
          case hin265 => (simp only [List.getElem?_toArray, List.getElem?_cons_succ, List.getElem?_cons_zero]; exact rfl)
          case an265 => kernel_rfl
          case bn265 => kernel_rfl
          case cn265 => kernel_rfl
          case qn265 => exact fun _ _ _ h => h
          case dn265 => rfl
          case hyn265 => (intro z hSw; (try dsimp only at hSw); go_simp; (try with_reducible rfl))
          try simp only [Act.put, List.setIfInBounds_toArray, List.set_cons_zero, List.set_cons_succ]
          refine wpAnyH_take (i := 8) (oi := ?on266) (v := ?vn266) ?hin266 ?an266 ?bn266 ?cn266 ?qn266 (Or.inl ⟨?dn266, ?hyn266⟩) hHeld ?restn266
          case hin266 => (simp only [List.getElem?_toArray, List.getElem?_cons_succ, List.getElem?_cons_zero]; exact rfl)
          case an266 => kernel_rfl
          case bn266 => kernel_rfl
          case cn266 => kernel_rfl
          case qn266 => exact fun _ _ _ h => h
          case dn266 => rfl
          case hyn266 => (intro z hSw; (try dsimp only at hSw); go_simp; (try with_reducible rfl))
          try simp only [Act.put, List.setIfInBounds_toArray, List.set_cons_zero, List.set_cons_succ]
          refine wpAnyH_take (i := 9) (oi := ?on267) (v := ?vn267) ?hin267 ?an267 ?bn267 ?cn267 ?qn267 (Or.inl ⟨?dn267, ?hyn267⟩) hHeld ?restn267
          case hin267 => (simp only [List.getElem?_toArray, List.getElem?_cons_succ, List.getElem?_cons_zero]; exact rfl)
          case an267 => kernel_rfl
          case bn267 => kernel_rfl
          case cn267 => kernel_rfl
          case qn267 => exact fun _ _ _ h => h
          case dn267 => rfl
          case hyn267 => (intro z hSw; (try dsimp only at hSw); go_simp; (try with_reducible rfl))
          try simp only [Act.put, List.setIfInBounds_toArray, List.set_cons_zero, List.set_cons_succ]
          refine wpAnyH_take (i := 10) (oi := ?on268) (v := ?vn268) ?hin268 ?an268 ?bn268 ?cn268 ?qn268 (Or.inl ⟨?dn268, ?hyn268⟩) hHeld ?restn268
          case hin268 => (simp only [List.getElem?_toArray, List.getElem?_cons_succ, List.getElem?_cons_zero]; exact rfl)
          case an268 => kernel_rfl
          case bn268 => kernel_rfl
          case cn268 => kernel_rfl
          case qn268 => exact fun _ _ _ h => h
          case dn268 => rfl
          case hyn268 => (intro z hSw; (try dsimp only at hSw); go_simp; (try with_reducible rfl))
          try simp only [Act.put, List.setIfInBounds_toArray, List.set_cons_zero, List.set_cons_succ]
          refine wpAnyH_take (i := 11) (oi := ?on269) (v := ?vn269) ?hin269 ?an269 ?bn269 ?cn269 ?qn269 (Or.inl ⟨?dn269, ?hyn269⟩) hHeld ?restn269
          case hin269 => (simp only [List.getElem?_toArray, List.getElem?_cons_succ, List.getElem?_cons_zero]; exact rfl)
          case an269 => kernel_rfl
          case bn269 => kernel_rfl
          case cn269 => kernel_rfl
          case qn269 => exact fun _ _ _ h => h
          case dn269 => rfl
          case hyn269 => (intro z hSw; (try dsimp only at hSw); go_simp; (try with_reducible rfl))
          try simp only [Act.put, List.setIfInBounds_toArray, List.set_cons_zero, List.set_cons_succ]
          refine wpAnyH_take (i := 12) (oi := ?on270) (v := ?vn270) ?hin270 ?an270 ?bn270 ?cn270 ?qn270 (Or.inl ⟨?dn270, ?hyn270⟩) hHeld ?restn270
          case hin270 => (simp only [List.getElem?_toArray, List.getElem?_cons_succ, List.getElem?_cons_zero]; exact rfl)
          case an270 => kernel_rfl
          case bn270 => kernel_rfl
          case cn270 => kernel_rfl
          case qn270 => exact fun _ _ _ h => h
          case dn270 => rfl
          case hyn270 => (intro z hSw; (try dsimp only at hSw); go_simp; (try with_reducible rfl))
          try simp only [Act.put, List.setIfInBounds_toArray, List.set_cons_zero, List.set_cons_succ]
          refine wpAnyH_ready (rs := [13]) (by kernel_rfl) (by simp) ?_
          refine AllReadyH.cons (o := ?on271) ?hin271 ?restn271 AllReadyH.nil
          case hin271 => (simp only [List.getElem?_toArray, List.getElem?_cons_succ, List.getElem?_cons_zero]; exact rfl)
          intro K hK
          go_simp
          go_at_call 56
          refine (KN0.out _ (by repeat (first | with_reducible assumption | with_reducible refine Grew.alloc ?_ _ | with_reducible refine Grew.drew ?_ | with_reducible refine Grew.drewN ?_ _)) _ (HSA.out _ (by repeat (first | with_reducible assumption | with_reducible refine Grew.alloc ?_ _ | with_reducible refine Grew.drew ?_ | with_reducible refine Grew.drewN ?_ _)))).mono ?_
          rintro e v0 ⟨rfl, vg0⟩
          have gv0 : Grew w v0 := Grew.trans (by repeat (first | with_reducible assumption | with_reducible refine Grew.alloc ?_ _ | with_reducible refine Grew.drew ?_ | with_reducible refine Grew.drewN ?_ _)) vg0
          have mv0 : Grew w1 v0 := Grew.trans (by repeat (first | with_reducible assumption | with_reducible refine Grew.alloc ?_ _ | with_reducible refine Grew.drew ?_ | with_reducible refine Grew.drewN ?_ _)) vg0
          refine hK.out _ _ ?_ (fun hHeld => ?_)
          · (try dsimp only); first | with_reducible assumption | exact Grew.alloc ‹_› _
          clear hK K
          try simp only [Act.put, List.setIfInBounds_toArray, List.set_cons_zero, List.set_cons_succ]
          refine wpAnyH_take (i := 14) (oi := ?on272) (v := ?vn272) ?hin272 ?an272 ?bn272 ?cn272 ?qn272 (Or.inl ⟨?dn272, ?hyn272⟩) hHeld ?restn272
          case hin272 => (simp only [List.getElem?_toArray, List.getElem?_cons_succ, List.getElem?_cons_zero]; exact rfl)
          case an272 => kernel_rfl
          case bn272 => kernel_rfl
          case cn272 => kernel_rfl
          case qn272 => exact fun _ _ _ h => h
          case dn272 => rfl
          case hyn272 => (intro z hSw; (try dsimp only at hSw); go_simp; (try with_reducible rfl))
          try simp only [Act.put, List.setIfInBounds_toArray, List.set_cons_zero, List.set_cons_succ]
          refine wpAnyH_take (i := 15) (oi := ?on273) (v := ?vn273) ?hin273 ?an273 ?bn273 ?cn273 ?qn273 (Or.inl ⟨?dn273, ?hyn273⟩) hHeld ?restn273
          case hin273 => (simp only [List.getElem?_toArray, List.getElem?_cons_succ, List.getElem?_cons_zero]; exact rfl)
          case an273 => kernel_rfl
          case bn273 => kernel_rfl
          case cn273 => kernel_rfl
          case qn273 => exact fun _ _ _ h => h
          case dn273 => rfl
          case hyn273 => (intro z hSw; (try dsimp only at hSw); go_simp; (try with_reducible rfl))
          try simp only [Act.put, List.setIfInBounds_toArray, List.set_cons_zero, List.set_cons_succ]
          refine wpAnyH_take (i := 16) (oi := ?on274) (v := ?vn274) ?hin274 ?an274 ?bn274 ?cn274 ?qn274 (Or.inl ⟨?dn274, ?hyn274⟩) hHeld ?restn274
          case hin274 => (simp only [List.getElem?_toArray, List.getElem?_cons_succ, List.getElem?_cons_zero]; exact rfl)
          case an274 => kernel_rfl
          case bn274 => kernel_rfl
          case cn274 => kernel_rfl
          case qn274 => exact fun _ _ _ h => h
          case dn274 => rfl
          case hyn274 => (intro z hSw; (try dsimp only at hSw); go_simp; (try with_reducible rfl))
          try simp only [Act.put, List.setIfInBounds_toArray, List.set_cons_zero, List.set_cons_succ]
          refine wpAnyH_take (i := 17) (oi := ?on275) (v := ?vn275) ?hin275 ?an275 ?bn275 ?cn275 ?qn275 (Or.inl ⟨?dn275, ?hyn275⟩) hHeld ?restn275
          case hin275 => (simp only [List.getElem?_toArray, List.getElem?_cons_succ, List.getElem?_cons_zero]; exact rfl)
          case an275 => kernel_rfl
          case bn275 => kernel_rfl
          case cn275 => kernel_rfl
          case qn275 => exact fun _ _ _ h => h
          case dn275 => rfl
          case hyn275 => (intro z hSw; (try dsimp only at hSw); go_simp; (try with_reducible rfl))
          try simp only [Act.put, List.setIfInBounds_toArray, List.set_cons_zero, List.set_cons_succ]
          refine wpAnyH_take (i := 18) (oi := ?on276) (v := ?vn276) ?hin276 ?an276 ?bn276 ?cn276 ?qn276 (Or.inl ⟨?dn276, ?hyn276⟩) hHeld ?restn276
          case hin276 => (simp only [List.getElem?_toArray, List.getElem?_cons_succ, List.getElem?_cons_zero]; exact rfl)
          case an276 => kernel_rfl
          case bn276 => kernel_rfl
          case cn276 => kernel_rfl
          case qn276 => exact fun _ _ _ h => h
          case dn276 => rfl
          case hyn276 => (intro z hSw; (try dsimp only at hSw); go_simp; (try with_reducible rfl))
          try simp only [Act.put, List.setIfInBounds_toArray, List.set_cons_zero, List.set_cons_succ]
          refine wpAnyH_take (i := 19) (oi := ?on277) (v := ?vn277) ?hin277 ?an277 ?bn277 ?cn277 ?qn277 (Or.inl ⟨?dn277, ?hyn277⟩) hHeld ?restn277
          case hin277 => (simp only [List.getElem?_toArray, List.getElem?_cons_succ, List.getElem?_cons_zero]; exact rfl)
          case an277 => kernel_rfl
          case bn277 => kernel_rfl
          case cn277 => kernel_rfl
          case qn277 => exact fun _ _ _ h => h
          case dn277 => rfl
          case hyn277 => (intro z hSw; (try dsimp only at hSw); go_simp; (try with_reducible rfl))
          try simp only [Act.put, List.setIfInBounds_toArray, List.set_cons_zero, List.set_cons_succ]
          refine wpAnyH_take (i := 20) (oi := ?on278) (v := ?vn278) ?hin278 ?an278 ?bn278 ?cn278 ?qn278 (Or.inl ⟨?dn278, ?hyn278⟩) hHeld ?restn278
          case hin278 => (simp only [List.getElem?_toArray, List.getElem?_cons_succ, List.getElem?_cons_zero]; exact rfl)
          case an278 => kernel_rfl
          case bn278 => kernel_rfl
          case cn278 => kernel_rfl
          case qn278 => exact fun _ _ _ h => h
          case dn278 => rfl
          case hyn278 => (intro z hSw; (try dsimp only at hSw); go_simp; (try with_reducible rfl))
          try simp only [Act.put, List.setIfInBounds_toArray, List.set_cons_zero, List.set_cons_succ]
          refine wpAnyH_take (i := 23) (oi := ?on279) (v := ?vn279) ?hin279 ?an279 ?bn279 ?cn279 ?qn279 (Or.inl ⟨?dn279, ?hyn279⟩) hHeld ?restn279
          case hin279 => (simp only [List.getElem?_toArray, List.getElem?_cons_succ, List.getElem?_cons_zero]; exact rfl)
          case an279 => kernel_rfl
          case bn279 => kernel_rfl
          case cn279 => kernel_rfl
          case qn279 => exact fun _ _ _ h => h
          case dn279 => rfl
          case hyn279 => (intro z hSw; (try dsimp only at hSw); go_simp; (try with_reducible rfl))
          try simp only [Act.put, List.setIfInBounds_toArray, List.set_cons_zero, List.set_cons_succ]
          refine wpAnyH_ready (rs := [21]) (by kernel_rfl) (by simp) ?_
          refine AllReadyH.cons (o := ?on280) ?hin280 ?restn280 AllReadyH.nil
          case hin280 => (simp only [List.getElem?_toArray, List.getElem?_cons_succ, List.getElem?_cons_zero]; exact rfl)
          intro K hK
          go_simp
          refine hK.out _ _ ?_ (fun hHeld => ?_)
          · (try dsimp only); first | with_reducible assumption | exact Grew.alloc ‹_› _
          clear hK K
          try simp only [Act.put, List.setIfInBounds_toArray, List.set_cons_zero, List.set_cons_succ]
          refine wpAnyH_ready (rs := [22]) (by kernel_rfl) (by simp) ?_
          refine AllReadyH.cons (o := ?on281) ?hin281 ?restn281 AllReadyH.nil
          case hin281 => (simp only [List.getElem?_toArray, List.getElem?_cons_succ, List.getElem?_cons_zero]; exact rfl)
          intro K hK
          go_simp
          go_at_call 57
          refine (KW1.out _ (by repeat (first | with_reducible assumption | with_reducible refine Grew.alloc ?_ _ | with_reducible refine Grew.drew ?_ | with_reducible refine Grew.drewN ?_ _)) _ (strs_at1 (by simp) (by simp))).mono ?_
          rintro e z1 ⟨zu1, rfl, zo1, zg1⟩
          have gz1 : Grew w z1 := Grew.trans (by repeat (first | with_reducible assumption | with_reducible refine Grew.alloc ?_ _ | with_reducible refine Grew.drew ?_ | with_reducible refine Grew.drewN ?_ _)) zg1
          have mz1 : Grew w1 z1 := Grew.trans (by repeat (first | with_reducible assumption | with_reducible refine Grew.alloc ?_ _ | with_reducible refine Grew.drew ?_ | with_reducible refine Grew.drewN ?_ _)) zg1
          have zs1 := Lib.hid zo1
          obtain ⟨ZA1, zc1, rfl⟩ := strs_slice zo1
          clear zo1
          refine hK.out _ _ ?_ (fun hHeld => ?_)
          · (try dsimp only); first | with_reducible assumption | exact Grew.alloc ‹_› _
          clear hK K
          try simp only [Act.put, List.setIfInBounds_toArray, List.set_cons_zero, List.set_cons_succ]
          refine wpAnyH_ready (rs := [24]) (by kernel_rfl) (by simp) ?_
          refine AllReadyH.cons (o := ?on282) ?hin282 ?restn282 AllReadyH.nil
          case hin282 => (simp only [List.getElem?_toArray, List.getElem?_cons_succ, List.getElem?_cons_zero]; exact rfl)
          intro K hK
          go_simp
          go_at_call 56
          refine (KN1.out _ (by repeat (first | with_reducible assumption | with_reducible refine Grew.alloc ?_ _ | with_reducible refine Grew.drew ?_ | with_reducible refine Grew.drewN ?_ _)) _ zs1.out).mono ?_
          rintro e v1 ⟨rfl, vg1⟩
          have gv1 : Grew w v1 := Grew.trans (by repeat (first | with_reducible assumption | with_reducible refine Grew.alloc ?_ _ | with_reducible refine Grew.drew ?_ | with_reducible refine Grew.drewN ?_ _)) vg1
          have mv1 : Grew w1 v1 := Grew.trans (by repeat (first | with_reducible assumption | with_reducible refine Grew.alloc ?_ _ | with_reducible refine Grew.drew ?_ | with_reducible refine Grew.drewN ?_ _)) vg1
          refine hK.out _ _ ?_ (fun hHeld => ?_)
          · (try dsimp only); first | with_reducible assumption | exact Grew.alloc ‹_› _
          clear hK K
          try simp only [Act.put, List.setIfInBounds_toArray, List.set_cons_zero, List.set_cons_succ]
          refine wpAnyH_take (i := 25) (oi := ?on283) (v := ?vn283) ?hin283 ?an283 ?bn283 ?cn283 ?qn283 (Or.inl ⟨?dn283, ?hyn283⟩) hHeld ?restn283
          case hin283 => (simp only [List.getElem?_toArray, List.getElem?_cons_succ, List.getElem?_cons_zero]; exact rfl)
          case an283 => kernel_rfl
          case bn283 => kernel_rfl
          case cn283 => kernel_rfl
          case qn283 => exact fun _ _ _ h => h
          case dn283 => rfl
          case hyn283 => (intro z hSw; (try dsimp only at hSw); go_simp; (try with_reducible rfl))
          try simp only [Act.put, List.setIfInBounds_toArray, List.set_cons_zero, List.set_cons_succ]
          refine wpAnyH_take (i := 26) (oi := ?on284) (v := ?vn284) ?hin284 ?an284 ?bn284 ?cn284 ?qn284 (Or.inl ⟨?dn284, ?hyn284⟩) hHeld ?restn284
          case hin284 => (simp only [List.getElem?_toArray, List.getElem?_cons_succ, List.getElem?_cons_zero]; exact rfl)
          case an284 => kernel_rfl
          case bn284 => kernel_rfl
          case cn284 => kernel_rfl
          case qn284 => exact fun _ _ _ h => h
          case dn284 => rfl
          case hyn284 => (intro z hSw; (try dsimp only at hSw); go_simp; (try with_reducible rfl))
          try simp only [Act.put, List.setIfInBounds_toArray, List.set_cons_zero, List.set_cons_succ]
          refine wpAnyH_done (by kernel_rfl) ?_ _
          go_wp2_with fail
          go_ret
          exact ⟨rfl, (by repeat (first | with_reducible assumption | with_reducible refine Grew.alloc ?_ _ | with_reducible refine Grew.drew ?_ | with_reducible refine Grew.drewN ?_ _))⟩
      · rw [dcd_false (fun h => h2 (h.2.2.1))]
        rw [dcd_false h2] at KN0
        replace KN0 := Lib.hid KN0
        replace KN1 := Lib.hid KN1
        replace KY := Lib.hid KY
        replace hwb := hwb.symm
        clear h0 h1 h2
        go_enter Tryz.func43, Tryz.ntmps43
        go_wp2_with fail
        rw [← hwb]
        clear hwb
        go_quiet (fail)
        go_wp2_with fail
        refine (KP.out _).mono ?_
        rintro e w1 ⟨rfl, hg1'⟩
        have hg1 : Grew wb w1 := Grew.trans (by repeat (first | with_reducible assumption | with_reducible refine Grew.alloc ?_ _ | with_reducible refine Grew.drew ?_ | with_reducible refine Grew.drewN ?_ _)) hg1'
        have g1 := hal.trans hg1
        have r1 := Grew.refl w1
        have d1 := r1.drew
        have gd := g1.trans d1
        have e0 := fun W (hW : Grew w1 W) => f0 W (hg1.trans hW)
        have e2 := fun W (hW : Grew w1 W) => f2 W (hg1.trans hW)
        have e3 := fun W (hW : Grew w1 W) => f3 W (hg1.trans hW)
        have e4 := fun W (hW : Grew w1 W) => f4 W (hg1.trans hW)
        have p0a := fun W (hW : Grew w1 W) => q0a W (g1.trans hW)
        have p0b := fun W (hW : Grew w1 W) => q0b W (g1.trans hW)
        have p0c := fun W (hW : Grew w1 W) => q0c W (g1.trans hW)
        have p0d := fun W (hW : Grew w1 W) => q0d W (g1.trans hW)
        have p0e := fun W (hW : Grew w1 W) => q0e W (g1.trans hW)
        have p1a := fun W (hW : Grew w1 W) => q1a W (g1.trans hW)
        have p1b := fun W (hW : Grew w1 W) => q1b W (g1.trans hW)
        have p1c := fun W (hW : Grew w1 W) => q1c W (g1.trans hW)
        have p1d := fun W (hW : Grew w1 W) => q1d W (g1.trans hW)
        have p1e := fun W (hW : Grew w1 W) => q1e W (g1.trans hW)
        clear f0 f2 f3 f4 q0a q0b q0c q0d q0e q1a q1b q1c q1d q1e
        go_wp2_with fail
        refine wp_region_held_drew (S := fun w' => Grew w1 w') (by kernel_rfl) d1 (fun hHeld => ?_)
        refine wpAnyH_take (i := 0) (oi := ?on285) (v := ?vn285) ?hin285 ?an285 ?bn285 ?cn285 ?qn285 (Or.inl ⟨?dn285, ?hyn285⟩) hHeld ?restn285
        case hin285 => (simp only [List.getElem?_toArray, List.getElem?_cons_zero]; exact rfl)
        case an285 => kernel_rfl
        case bn285 => kernel_rfl
        case cn285 => kernel_rfl
        case qn285 => exact fun _ _ _ h => h
        case dn285 => rfl
        case hyn285 => (intro z hSw; (try dsimp only at hSw); go_simp; (try with_reducible rfl))
        try simp only [Act.put, List.setIfInBounds_toArray, List.set_cons_zero, List.set_cons_succ]
        refine wpAnyH_take (i := 1) (oi := ?on286) (v := ?vn286) ?hin286 ?an286 ?bn286 ?cn286 ?qn286 (Or.inl ⟨?dn286, ?hyn286⟩) hHeld ?restn286
        case hin286 => (simp only [List.getElem?_toArray, List.getElem?_cons_succ, List.getElem?_cons_zero]; exact rfl)
        case an286 => kernel_rfl
        case bn286 => kernel_rfl
        case cn286 => kernel_rfl
        case qn286 => exact fun _ _ _ h => h
        case dn286 => rfl
        case hyn286 => (intro z hSw; (try dsimp only at hSw); go_simp; (try with_reducible rfl))
        try simp only [Act.put, List.setIfInBounds_toArray, List.set_cons_zero, List.set_cons_succ]
        refine wpAnyH_take (i := 2) (oi := ?on287) (v := ?vn287) ?hin287 ?an287 ?bn287 ?cn287 ?qn287 (Or.inl ⟨?dn287, ?hyn287⟩) hHeld ?restn287
        case hin287 => (simp only [List.getElem?_toArray, List.getElem?_cons_succ, List.getElem?_cons_zero]; exact rfl)
        case an287 => kernel_rfl
        case bn287 => kernel_rfl
        case cn287 => kernel_rfl
        case qn287 => exact fun _ _ _ h => h
        case dn287 => rfl
        case hyn287 => (intro z hSw; (try dsimp only at hSw); go_simp; (try with_reducible rfl))
        try simp only [Act.put, List.setIfInBounds_toArray, List.set_cons_zero, List.set_cons_succ]
        refine wpAnyH_take (i := 3) (oi := ?on288) (v := ?vn288) ?hin288 ?an288 ?bn288 ?cn288 ?qn288 (Or.inl ⟨?dn288, ?hyn288⟩) hHeld ?restn288
        case hin288 => (simp only [List.getElem?_toArray, List.getElem?_cons_succ, List.getElem?_cons_zero]; exact rfl)
        case an288 => kernel_rfl
        case bn288 => kernel_rfl
        case cn288 => kernel_rfl
        case qn288 => exact fun _ _ _ h => h
        case dn288 => rfl
        case hyn288 => (intro z hSw; (try dsimp only at hSw); go_simp; (try with_reducible rfl))
        try simp only [Act.put, List.setIfInBounds_toArray, List.set_cons_zero, List.set_cons_succ]
        refine wpAnyH_take (i := 4) (oi := ?on289) (v := ?vn289) ?hin289 ?an289 ?bn289 ?cn289 ?qn289 (Or.inl ⟨?dn289, ?hyn289⟩) hHeld ?restn289
        case hin289 => (simp only [List.getElem?_toArray, List.getElem?_cons_succ, List.getElem?_cons_zero]; exact rfl)
        case an289 => kernel_rfl
        case bn289 => kernel_rfl
        case cn289 => kernel_rfl
        case qn289 => exact fun _ _ _ h => h
        case dn289 => rfl
        case hyn289 => (intro z hSw; (try dsimp only at hSw); go_simp; (try with_reducible rfl))
        try simp only [Act.put, List.setIfInBounds_toArray, List.set_cons_zero, List.set_cons_succ]
        refine wpAnyH_ready (rs := [5]) (by kernel_rfl) (by simp) ?_
        refine AllReadyH.cons (o := ?on290) ?hin290 ?restn290 AllReadyH.nil
        case hin290 => (simp only [List.getElem?_toArray, List.getElem?_cons_succ, List.getElem?_cons_zero]; exact rfl)
        intro K hK
        go_simp
        go_at_call 54
        refine (KY.out _ (by repeat (first | with_reducible assumption | with_reducible refine Grew.alloc ?_ _ | with_reducible refine Grew.drew ?_ | with_reducible refine Grew.drewN ?_ _))).mono ?_
        rintro e ws ⟨rfl, hgs⟩
        have gws : Grew w ws := Grew.trans (by repeat (first | with_reducible assumption | with_reducible refine Grew.alloc ?_ _ | with_reducible refine Grew.drew ?_ | with_reducible refine Grew.drewN ?_ _)) hgs
        have mws : Grew w1 ws := Grew.trans (by repeat (first | with_reducible assumption | with_reducible refine Grew.alloc ?_ _ | with_reducible refine Grew.drew ?_ | with_reducible refine Grew.drewN ?_ _)) hgs
        refine hK.out _ _ ?_ (fun hHeld => ?_)
        · (try dsimp only); first | with_reducible assumption | exact Grew.alloc ‹_› _
        clear hK K
        try simp only [Act.put, List.setIfInBounds_toArray, List.set_cons_zero, List.set_cons_succ]
        refine wpAnyH_take (i := 6) (oi := ?on291) (v := ?vn291) ?hin291 ?an291 ?bn291 ?cn291 ?qn291 (Or.inl ⟨?dn291, ?hyn291⟩) hHeld ?restn291
        case hin291 => (simp only [List.getElem?_toArray, List.getElem?_cons_succ, List.getElem?_cons_zero]; exact rfl)
        case an291 => kernel_rfl
        case bn291 => kernel_rfl
        case cn291 => kernel_rfl
        case qn291 => exact fun _ _ _ h => h
        case dn291 => rfl
        case hyn291 => (intro z hSw; (try dsimp only at hSw); go_simp; (try with_reducible rfl))
        try simp only [Act.put, List.setIfInBounds_toArray, List.set_cons_zero, List.set_cons_succ]
        refine wpAnyH_take (i := 7) (oi := ?on292) (v := ?vn292) ?hin292 ?an292 ?bn292 ?cn292 ?qn292 (Or.inl ⟨?dn292, ?hyn292⟩) hHeld ?restn292
        case hin292 => (simp only [List.getElem?_toArray, List.getElem?_cons_succ, List.getElem?_cons_zero]; exact rfl)
        case an292 => kernel_rfl
        case bn292 => kernel_rfl
        case cn292 => kernel_rfl
        case qn292 => exact fun _ _ _ h => h
        case dn292 => rfl
        case hyn292 => (intro z hSw; (try dsimp only at hSw); go_simp; (try with_reducible rfl))
        try simp only [Act.put, List.setIfInBounds_toArray, List.set_cons_zero, List.set_cons_succ]
        refine wpAnyH_take (i := 8) (oi := ?on293) (v := ?vn293) ?hin293 ?an293 ?bn293 ?cn293 ?qn293 (Or.inl ⟨?dn293, ?hyn293⟩) hHeld ?restn293
        case hin293 => (simp only [List.getElem?_toArray, List.getElem?_cons_succ, List.getElem?_cons_zero]; exact rfl)
        case an293 => kernel_rfl
        case bn293 => kernel_rfl
        case cn293 => kernel_rfl
        case qn293 => exact fun _ _ _ h => h
        case dn293 => rfl
        case hyn293 => (intro z hSw; (try dsimp only at hSw); go_simp; (try with_reducible rfl))
        try simp only [Act.put, List.setIfInBounds_toArray, List.set_cons_zero, List.set_cons_succ]
        refine wpAnyH_take (i := 9) (oi := ?on294) (v := ?vn294) ?hin294 ?an294 ?bn294 ?cn294 ?qn294 (Or.inl ⟨?dn294, ?hyn294⟩) hHeld ?restn294
        case hin294 => (simp only [List.getElem?_toArray, List.getElem?_cons_succ, List.getElem?_cons_zero]; exact rfl)
        case an294 => kernel_rfl
        case bn294 => kernel_rfl
        case cn294 => kernel_rfl
        case qn294 => exact fun _ _ _ h => h
        case dn294 => rfl
        case hyn294 => (intro z hSw; (try dsimp only at hSw); go_simp; (try with_reducible rfl))
        try simp only [Act.put, List.setIfInBounds_toArray, List.set_cons_zero, List.set_cons_succ]
        refine wpAnyH_take (i := 10) (oi := ?on295) (v := ?vn295) ?hin295 ?an295 ?bn295 ?cn295 ?qn295 (Or.inl ⟨?dn295, ?hyn295⟩) hHeld ?restn295
        case hin295 => (simp only [List.getElem?_toArray, List.getElem?_cons_succ, List.getElem?_cons_zero]; exact rfl)
        case an295 => kernel_rfl
        case bn295 => kernel_rfl
        case cn295 => kernel_rfl
        case qn295 => exact fun _ _ _ h => h
        case dn295 => rfl
        case hyn295 => (intro z hSw; (try dsimp only at hSw); go_simp; (try with_reducible rfl))
        try simp only [Act.put, List.setIfInBounds_toArray, List.set_cons_zero, List.set_cons_succ]
        refine wpAnyH_take (i := 11) (oi := ?on296) (v := ?vn296) ?hin296 ?an296 ?bn296 ?cn296 ?qn296 (Or.inl ⟨?dn296, ?hyn296⟩) hHeld ?restn296
        case hin296 => (simp only [List.getElem?_toArray, List.getElem?_cons_succ, List.getElem?_cons_zero]; exact rfl)
        case an296 => kernel_rfl
        case bn296 => kernel_rfl
        case cn296 => kernel_rfl
        case qn296 => exact fun _ _ _ h => h
        case dn296 => rfl
        case hyn296 => (intro z hSw; (try dsimp only at hSw); go_simp; (try with_reducible rfl))
        try simp only [Act.put, List.setIfInBounds_toArray, List.set_cons_zero, List.set_cons_succ]
        refine wpAnyH_take (i := 12) (oi := ?on297) (v := ?vn297) ?hin297 ?an297 ?bn297 ?cn297 ?qn297 (Or.inl ⟨?dn297, ?hyn297⟩) hHeld ?restn297
        case hin297 => (simp only [List.getElem?_toArray, List.getElem?_cons_succ, List.getElem?_cons_zero]; exact rfl)
        case an297 => kernel_rfl
        case bn297 => kernel_rfl
        case cn297 => kernel_rfl
        case qn297 => exact fun _ _ _ h => h
        case dn297 => rfl
        case hyn297 => (intro z hSw; (try dsimp only at hSw); go_simp; (try with_reducible rfl))
        try simp only [Act.put, List.setIfInBounds_toArray, List.set_cons_zero, List.set_cons_succ]
        refine wpAnyH_ready (rs := [13]) (by kernel_rfl) (by simp) ?_
        refine AllReadyH.cons (o := ?on298) ?hin298 ?restn298 AllReadyH.nil
        case hin298 => (simp only [List.getElem?_toArray, List.getElem?_cons_succ, List.getElem?_cons_zero]; exact rfl)
        intro K hK
        go_simp
        go_at_call 56
        refine (KN0.out _ (by repeat (first | with_reducible assumption | with_reducible refine Grew.alloc ?_ _ | with_reducible refine Grew.drew ?_ | with_reducible refine Grew.drewN ?_ _)) _ (HSA.out _ (by repeat (first | with_reducible assumption | with_reducible refine Grew.alloc ?_ _ | with_reducible refine Grew.drew ?_ | with_reducible refine Grew.drewN ?_ _)))).mono ?_
        rintro e v0 ⟨rfl, vg0⟩
        have gv0 : Grew w v0 := Grew.trans (by repeat (first | with_reducible assumption | with_reducible refine Grew.alloc ?_ _ | with_reducible refine Grew.drew ?_ | with_reducible refine Grew.drewN ?_ _)) vg0
        have mv0 : Grew w1 v0 := Grew.trans (by repeat (first | with_reducible assumption | with_reducible refine Grew.alloc ?_ _ | with_reducible refine Grew.drew ?_ | with_reducible refine Grew.drewN ?_ _)) vg0
        refine hK.out _ _ ?_ (fun hHeld => ?_)
        · (try dsimp only); first | with_reducible assumption | exact Grew.alloc ‹_› _
        clear hK K
        try simp only [Act.put, List.setIfInBounds_toArray, List.set_cons_zero, List.set_cons_succ]
        refine wpAnyH_take (i := 14) (oi := ?on299) (v := ?vn299) ?hin299 ?an299 ?bn299 ?cn299 ?qn299 (Or.inl ⟨?dn299, ?hyn299⟩) hHeld ?restn299
        case hin299 => (simp only [List.getElem?_toArray, List.getElem?_cons_succ, List.getElem?_cons_zero]; exact rfl)
        case an299 => kernel_rfl
        case bn299 => kernel_rfl
        case cn299 => kernel_rfl
        case qn299 => exact fun _ _ _ h => h
        case dn299 => rfl
        case hyn299 => (intro z hSw; (try dsimp only at hSw); go_simp; (try with_reducible rfl))
        try simp only [Act.put, List.setIfInBounds_toArray, List.set_cons_zero, List.set_cons_succ]
        refine wpAnyH_take (i := 15) (oi := ?on300) (v := ?vn300) ?hin300 ?an300 ?bn300 ?cn300 ?qn300 (Or.inl ⟨?dn300, ?hyn300⟩) hHeld ?restn300
        case hin300 => (simp only [List.getElem?_toArray, List.getElem?_cons_succ, List.getElem?_cons_zero]; exact rfl)
        case an300 => kernel_rfl
        case bn300 => kernel_rfl
        case cn300 => kernel_rfl
        case qn300 => exact fun _ _ _ h => h
        case dn300 => rfl
        case hyn300 => (intro z hSw; (try dsimp only at hSw); go_simp; (try with_reducible rfl))
        try simp only [Act.put, List.setIfInBounds_toArray, List.set_cons_zero, List.set_cons_succ]
        refine wpAnyH_take (i := 16) (oi := ?on301) ?hin301 ?an301 ?bn301 ?cn301 ?qn301 (Or.inr ⟨?dn301, rfl⟩) hHeld ?restn301
        case hin301 => (simp only [List.getElem?_toArray, List.getElem?_cons_succ, List.getElem?_cons_zero]; exact rfl)
        case an301 => kernel_rfl
        case bn301 => kernel_rfl
        case cn301 => kernel_rfl
        case qn301 => exact fun _ _ _ h => h
        case dn301 => rfl
        try simp only [Act.put, List.setIfInBounds_toArray, List.set_cons_zero, List.set_cons_succ]
        refine wpAnyH_take (i := 17) (oi := ?on302) ?hin302 ?an302 ?bn302 ?cn302 ?qn302 (Or.inr ⟨?dn302, rfl⟩) hHeld ?restn302
        case hin302 => (simp only [List.getElem?_toArray, List.getElem?_cons_succ, List.getElem?_cons_zero]; exact rfl)
        case an302 => kernel_rfl
        case bn302 => kernel_rfl
        case cn302 => kernel_rfl
        case qn302 => exact fun _ _ _ h => h
        case dn302 => rfl
        try simp only [Act.put, List.setIfInBounds_toArray, List.set_cons_zero, List.set_cons_succ]
        refine wpAnyH_take (i := 18) (oi := ?on303) ?hin303 ?an303 ?bn303 ?cn303 ?qn303 (Or.inr ⟨?dn303, rfl⟩) hHeld ?restn303
        case hin303 => (simp only [List.getElem?_toArray, List.getElem?_cons_succ, List.getElem?_cons_zero]; exact rfl)
        case an303 => kernel_rfl
        case bn303 => kernel_rfl
        case cn303 => kernel_rfl
        case qn303 => exact fun _ _ _ h => h
        case dn303 => rfl
        try simp only [Act.put, List.setIfInBounds_toArray, List.set_cons_zero, List.set_cons_succ]
        refine wpAnyH_take (i := 19) (oi := ?on304) ?hin304 ?an304 ?bn304 ?cn304 ?qn304 (Or.inr ⟨?dn304, rfl⟩) hHeld ?restn304
        case hin304 => (simp only [List.getElem?_toArray, List.getElem?_cons_succ, List.getElem?_cons_zero]; exact rfl)
        case an304 => kernel_rfl
        case bn304 => kernel_rfl
        case cn304 => kernel_rfl
        case qn304 => exact fun _ _ _ h => h
        case dn304 => rfl
        try simp only [Act.put, List.setIfInBounds_toArray, List.set_cons_zero, List.set_cons_succ]
        refine wpAnyH_take (i := 20) (oi := ?on305) ?hin305 ?an305 ?bn305 ?cn305 ?qn305 (Or.inr ⟨?dn305, rfl⟩) hHeld ?restn305
        case hin305 => (simp only [List.getElem?_toArray, List.getElem?_cons_succ, List.getElem?_cons_zero]; exact rfl)
        case an305 => kernel_rfl
        case bn305 => kernel_rfl
        case cn305 => kernel_rfl
        case qn305 => exact fun _ _ _ h => h
        case dn305 => rfl
        try simp only [Act.put, List.setIfInBounds_toArray, List.set_cons_zero, List.set_cons_succ]
        refine wpAnyH_take (i := 21) (oi := ?on306) ?hin306 ?an306 ?bn306 ?cn306 ?qn306 (Or.inr ⟨?dn306, rfl⟩) hHeld ?restn306
        case hin306 => (simp only [List.getElem?_toArray, List.getElem?_cons_succ, List.getElem?_cons_zero]; exact rfl)
        case an306 => kernel_rfl
        case bn306 => kernel_rfl
        case cn306 => kernel_rfl
        case qn306 => exact fun _ _ _ h => h
        case dn306 => rfl
        try simp only [Act.put, List.setIfInBounds_toArray, List.set_cons_zero, List.set_cons_succ]
        refine wpAnyH_take (i := 22) (oi := ?on307) ?hin307 ?an307 ?bn307 ?cn307 ?qn307 (Or.inr ⟨?dn307, rfl⟩) hHeld ?restn307
        case hin307 => (simp only [List.getElem?_toArray, List.getElem?_cons_succ, List.getElem?_cons_zero]; exact rfl)
        case an307 => kernel_rfl
        case bn307 => kernel_rfl
        case cn307 => kernel_rfl
        case qn307 => exact fun _ _ _ h => h
        case dn307 => rfl
        try simp only [Act.put, List.setIfInBounds_toArray, List.set_cons_zero, List.set_cons_succ]
        refine wpAnyH_take (i := 23) (oi := ?on308) ?hin308 ?an308 ?bn308 ?cn308 ?qn308 (Or.inr ⟨?dn308, rfl⟩) hHeld ?restn308
        case hin308 => (simp only [List.getElem?_toArray, List.getElem?_cons_succ, List.getElem?_cons_zero]; exact rfl)
        case an308 => kernel_rfl
        case bn308 => kernel_rfl
        case cn308 => kernel_rfl
        case qn308 => exact fun _ _ _ h => h
        case dn308 => rfl
        try simp only [Act.put, List.setIfInBounds_toArray, List.set_cons_zero, List.set_cons_succ]
        refine wpAnyH_take (i := 24) (oi := ?on309) ?hin309 ?an309 ?bn309 ?cn309 ?qn309 (Or.inr ⟨?dn309, rfl⟩) hHeld ?restn309
        case hin309 => (simp only [List.getElem?_toArray, List.getElem?_cons_succ, List.getElem?_cons_zero]; exact rfl)
        case an309 => kernel_rfl
        case bn309 => kernel_rfl
        case cn309 => kernel_rfl
        case qn309 => exact fun _ _ _ h => h
        case dn309 => rfl
        try simp only [Act.put, List.setIfInBounds_toArray, List.set_cons_zero, List.set_cons_succ]
        refine wpAnyH_take (i := 25) (oi := ?on310) (v := ?vn310) ?hin310 ?an310 ?bn310 ?cn310 ?qn310 (Or.inl ⟨?dn310, ?hyn310⟩) hHeld ?restn310
        case hin310 => (simp only [List.getElem?_toArray, List.getElem?_cons_succ, List.getElem?_cons_zero]; exact rfl)
        case an310 => kernel_rfl
        case bn310 => kernel_rfl
        case cn310 => kernel_rfl
        case qn310 => exact fun _ _ _ h => h
        case dn310 => rfl
        case hyn310 => (intro z hSw; (try dsimp only at hSw); go_simp; (try with_reducible rfl))
        try simp only [Act.put, List.setIfInBounds_toArray, List.set_cons_zero, List.set_cons_succ]
        refine wpAnyH_take (i := 26) (oi := ?on311) (v := ?vn311) ?hin311 ?an311 ?bn311 ?cn311 ?qn311 (Or.inl ⟨?dn311, ?hyn311⟩) hHeld ?restn311
        case hin311 => (simp only [List.getElem?_toArray, List.getElem?_cons_succ, List.getElem?_cons_zero]; exact rfl)
        case an311 => kernel_rfl
        case bn311 => kernel_rfl
        case cn311 => kernel_rfl
        case qn311 => exact fun _ _ _ h => h
        case dn311 => rfl
        case hyn311 => (intro z hSw; (try dsimp only at hSw); go_simp; (try with_reducible rfl))
        try simp only [Act.put, List.setIfInBounds_toArray, List.set_cons_zero, List.set_cons_succ]
        refine wpAnyH_done (by kernel_rfl) ?_ _
        go_wp2_with fail
        go_ret
        exact ⟨rfl, (by repeat (first | with_reducible assumption | with_reducible refine Grew.alloc ?_ _ | with_reducible refine Grew.drew ?_ | with_reducible refine Grew.drewN ?_ _))⟩
    · rw [dcd_false (fun h => h1 (h.2.1))]
      rw [dcd_false h1] at KY
      replace KN0 := Lib.hid KN0
      replace KN1 := Lib.hid KN1
      replace KY := Lib.hid KY
      replace hwb := hwb.symm
      clear h0 h1
      go_enter Tryz.func43, Tryz.ntmps43
      go_wp2_with fail
      rw [← hwb]
      clear hwb
      go_quiet (fail)
      go_wp2_with fail
      refine (KP.out _).mono ?_
      rintro e w1 ⟨rfl, hg1'⟩
      have hg1 : Grew wb w1 := Grew.trans (by repeat (first | with_reducible assumption | with_reducible refine Grew.alloc ?_ _ | with_reducible refine Grew.drew ?_ | with_reducible refine Grew.drewN ?_ _)) hg1'
      have g1 := hal.trans hg1
      have r1 := Grew.refl w1
      have d1 := r1.drew
      have gd := g1.trans d1
      have e0 := fun W (hW : Grew w1 W) => f0 W (hg1.trans hW)
      have e2 := fun W (hW : Grew w1 W) => f2 W (hg1.trans hW)
      have e3 := fun W (hW : Grew w1 W) => f3 W (hg1.trans hW)
      have e4 := fun W (hW : Grew w1 W) => f4 W (hg1.trans hW)
      have p0a := fun W (hW : Grew w1 W) => q0a W (g1.trans hW)
      have p0b := fun W (hW : Grew w1 W) => q0b W (g1.trans hW)
      have p0c := fun W (hW : Grew w1 W) => q0c W (g1.trans hW)
      have p0d := fun W (hW : Grew w1 W) => q0d W (g1.trans hW)
      have p0e := fun W (hW : Grew w1 W) => q0e W (g1.trans hW)
      have p1a := fun W (hW : Grew w1 W) => q1a W (g1.trans hW)
      have p1b := fun W (hW : Grew w1 W) => q1b W (g1.trans hW)
      have p1c := fun W (hW : Grew w1 W) => q1c W (g1.trans hW)
      have p1d := fun W (hW : Grew w1 W) => q1d W (g1.trans hW)
      have p1e := fun W (hW : Grew w1 W) => q1e W (g1.trans hW)
      clear f0 f2 f3 f4 q0a q0b q0c q0d q0e q1a q1b q1c q1d q1e
      go_wp2_with fail
      refine wp_region_held_drew (S := fun w' => Grew w1 w') (by kernel_rfl) d1 (fun hHeld => ?_)
      refine wpAnyH_take (i := 0) (oi := ?on312) (v := ?vn312) ?hin312 ?an312 ?bn312 ?cn312 ?qn312 (Or.inl ⟨?dn312, ?hyn312⟩) hHeld ?restn312
      case hin312 => (simp only [List.getElem?_toArray, List.getElem?_cons_zero]; exact rfl)
      case an312 => kernel_rfl
      case bn312 => kernel_rfl
      case cn312 => kernel_rfl
      case qn312 => exact fun _ _ _ h => h
      case dn312 => rfl
      case hyn312 => (intro z hSw; (try dsimp only at hSw); go_simp; (try with_reducible rfl))
      try simp only [Act.put, List.setIfInBounds_toArray, List.set_cons_zero, List.set_cons_succ]
      refine wpAnyH_take (i := 1) (oi := ?on313) (v := ?vn313) ?hin313 ?an313 ?bn313 ?cn313 ?qn313 (Or.inl ⟨?dn313, ?hyn313⟩) hHeld ?restn313
      case hin313 => (simp only [List.getElem?_toArray, List.getElem?_cons_succ, List.getElem?_cons_zero]; exact rfl)
      case an313 => kernel_rfl
      case bn313 => kernel_rfl
      case cn313 => kernel_rfl
      case qn313 => exact fun _ _ _ h => h
      case dn313 => rfl
      case hyn313 => (intro z hSw; (try dsimp only at hSw); go_simp; (try with_reducible rfl))
      try simp only [Act.put, List.setIfInBounds_toArray, List.set_cons_zero, List.set_cons_succ]
      refine wpAnyH_take (i := 2) (oi := ?on314) (v := ?vn314) ?hin314 ?an314 ?bn314 ?cn314 ?qn314 (Or.inl ⟨?dn314, ?hyn314⟩) hHeld ?restn314
      case hin314 => (simp only [List.getElem?_toArray, List.getElem?_cons_succ, List.getElem?_cons_zero]; exact rfl)
      case an314 => kernel_rfl
      case bn314 => kernel_rfl
      case cn314 => kernel_rfl
      case qn314 => exact fun _ _ _ h => h
      case dn314 => rfl
      case hyn314 => (intro z hSw; (try dsimp only at hSw); go_simp; (try with_reducible rfl))
      try simp only [Act.put, List.setIfInBounds_toArray, List.set_cons_zero, List.set_cons_succ]
      refine wpAnyH_take (i := 3) (oi := ?on315) (v := ?vn315) ?hin315 ?an315 ?bn315 ?cn315 ?qn315 (Or.inl ⟨?dn315, ?hyn315⟩) hHeld ?restn315
      case hin315 => (simp only [List.getElem?_toArray, List.getElem?_cons_succ, List.getElem?_cons_zero]; exact rfl)
      case an315 => kernel_rfl
      case bn315 => kernel_rfl
      case cn315 => kernel_rfl
      case qn315 => exact fun _ _ _ h => h
      case dn315 => rfl
      case hyn315 => (intro z hSw; (try dsimp only at hSw); go_simp; (try with_reducible rfl))
      try simp only [Act.put, List.setIfInBounds_toArray, List.set_cons_zero, List.set_cons_succ]
      refine wpAnyH_take (i := 4) (oi := ?on316) (v := ?vn316) ?hin316 ?an316 ?bn316 ?cn316 ?qn316 (Or.inl ⟨?dn316, ?hyn316⟩) hHeld ?restn316
      case hin316 => (simp only [List.getElem?_toArray, List.getElem?_cons_succ, List.getElem?_cons_zero]; exact rfl)
      case an316 => kernel_rfl
      case bn316 => kernel_rfl
      case cn316 => kernel_rfl
      case qn316 => exact fun _ _ _ h => h
      case dn316 => rfl
      case hyn316 => (intro z hSw; (try dsimp only at hSw); go_simp; (try with_reducible rfl))
      try simp only [Act.put, List.setIfInBounds_toArray, List.set_cons_zero, List.set_cons_succ]
      refine wpAnyH_ready (rs := [5]) (by kernel_rfl) (by simp) ?_
      refine AllReadyH.cons (o := ?on317) ?hin317 ?restn317 AllReadyH.nil
      case hin317 => (simp only [List.getElem?_toArray, List.getElem?_cons_succ, List.getElem?_cons_zero]; exact rfl)
      intro K hK
      go_simp
      go_at_call 54
      refine (KY.out _ (by repeat (first | with_reducible assumption | with_reducible refine Grew.alloc ?_ _ | with_reducible refine Grew.drew ?_ | with_reducible refine Grew.drewN ?_ _))).mono ?_
      rintro e ws ⟨rfl, hgs⟩
      have gws : Grew w ws := Grew.trans (by repeat (first | with_reducible assumption | with_reducible refine Grew.alloc ?_ _ | with_reducible refine Grew.drew ?_ | with_reducible refine Grew.drewN ?_ _)) hgs
      have mws : Grew w1 ws := Grew.trans (by repeat (first | with_reducible assumption | with_reducible refine Grew.alloc ?_ _ | with_reducible refine Grew.drew ?_ | with_reducible refine Grew.drewN ?_ _)) hgs
      refine hK.out _ _ ?_ (fun hHeld => ?_)
      · (try dsimp only); first | with_reducible assumption | exact Grew.alloc ‹_› _
      clear hK K
      try simp only [Act.put, List.setIfInBounds_toArray, List.set_cons_zero, List.set_cons_succ]
      refine wpAnyH_take (i := 6) (oi := ?on318) (v := ?vn318) ?hin318 ?an318 ?bn318 ?cn318 ?qn318 (Or.inl ⟨?dn318, ?hyn318⟩) hHeld ?restn318
      case hin318 => (simp only [List.getElem?_toArray, List.getElem?_cons_succ, List.getElem?_cons_zero]; exact rfl)
      case an318 => kernel_rfl
      case bn318 => kernel_rfl
      case cn318 => kernel_rfl
      case qn318 => exact fun _ _ _ h => h
      case dn318 => rfl
      case hyn318 => (intro z hSw; (try dsimp only at hSw); go_simp; (try with_reducible rfl))
      try simp only [Act.put, List.setIfInBounds_toArray, List.set_cons_zero, List.set_cons_succ]
      refine wpAnyH_take (i := 7) (oi := ?on319) (v := ?vn319) ?hin319 ?an319 ?bn319 ?cn319 ?qn319 (Or.inl ⟨?dn319, ?hyn319⟩) hHeld ?restn319
      case hin319 => (simp only [List.getElem?_toArray, List.getElem?_cons_succ, List.getElem?_cons_zero]; exact rfl)
      case an319 => kernel_rfl
      case bn319 => kernel_rfl
      case cn319 => kernel_rfl
      case qn319 => exact fun _ _ _ h => h
      case dn319 => rfl
      case hyn319 => (intro z hSw; (try dsimp only at hSw); go_simp; (try with_reducible rfl))
      try simp only [Act.put, List.setIfInBounds_toArray, List.set_cons_zero, List.set_cons_succ]
      refine wpAnyH_take (i := 8) (oi := ?on320) ?hin320 ?an320 ?bn320 ?cn320 ?qn320 (Or.inr ⟨?dn320, rfl⟩) hHeld ?restn320
      case hin320 => (simp only [List.getElem?_toArray, List.getElem?_cons_succ, List.getElem?_cons_zero]; exact rfl)
      case an320 => kernel_rfl
      case bn320 => kernel_rfl
      case cn320 => kernel_rfl
      case qn320 => exact fun _ _ _ h => h
      case dn320 => rfl
      try simp only [Act.put, List.setIfInBounds_toArray, List.set_cons_zero, List.set_cons_succ]
      refine wpAnyH_take (i := 9) (oi := ?on321) ?hin321 ?an321 ?bn321 ?cn321 ?qn321 (Or.inr ⟨?dn321, rfl⟩) hHeld ?restn321
      case hin321 => (simp only [List.getElem?_toArray, List.getElem?_cons_succ, List.getElem?_cons_zero]; exact rfl)
      case an321 => kernel_rfl
      case bn321 => kernel_rfl
      case cn321 => kernel_rfl
      case qn321 => exact fun _ _ _ h => h
      case dn321 => rfl
      try simp only [Act.put, List.setIfInBounds_toArray, List.set_cons_zero, List.set_cons_succ]
      refine wpAnyH_take (i := 10) (oi := ?on322) ?hin322 ?an322 ?bn322 ?cn322 ?qn322 (Or.inr ⟨?dn322, rfl⟩) hHeld ?restn322
      case hin322 => (simp only [List.getElem?_toArray, List.getElem?_cons_succ, List.getElem?_cons_zero]; exact rfl)
      case an322 => kernel_rfl
      case bn322 => kernel_rfl
      case cn322 => kernel_rfl
      case qn322 => exact fun _ _ _ h => h
      case dn322 => rfl
      try simp only [Act.put, List.setIfInBounds_toArray, List.set_cons_zero, List.set_cons_succ]
      refine wpAnyH_take (i := 11) (oi := ?on323) ?hin323 ?an323 ?bn323 ?cn323 ?qn323 (Or.inr ⟨?dn323, rfl⟩) hHeld ?restn323
      case hin323 => (simp only [List.getElem?_toArray, List.getElem?_cons_succ, List.getElem?_cons_zero]; exact rfl)
      case an323 => kernel_rfl
      case bn323 => kernel_rfl
      case cn323 => kernel_rfl
      case qn323 => exact fun _ _ _ h => h
      case dn323 => rfl
      try simp only [Act.put, List.setIfInBounds_toArray, List.set_cons_zero, List.set_cons_succ]
      refine wpAnyH_take (i := 12) (oi := ?on324) ?hin324 ?an324 ?bn324 ?cn324 ?qn324 (Or.inr ⟨?dn324, rfl⟩) hHeld ?restn324
      case hin324 => (simp only [List.getElem?_toArray, List.getElem?_cons_succ, List.getElem?_cons_zero]; exact rfl)
      case an324 => kernel_rfl
      case bn324 => kernel_rfl
      case cn324 => kernel_rfl
      case qn324 => exact fun _ _ _ h => h
      case dn324 => rfl
      try simp only [Act.put, List.setIfInBounds_toArray, List.set_cons_zero, List.set_cons_succ]
      refine wpAnyH_take (i := 13) (oi := ?on325) ?hin325 ?an325 ?bn325 ?cn325 ?qn325 (Or.inr ⟨?dn325, rfl⟩) hHeld ?restn325
      case hin325 => (simp only [List.getElem?_toArray, List.getElem?_cons_succ, List.getElem?_cons_zero]; exact rfl)
      case an325 => kernel_rfl
      case bn325 => kernel_rfl
      case cn325 => kernel_rfl
      case qn325 => exact fun _ _ _ h => h
      case dn325 => rfl
      try simp only [Act.put, List.setIfInBounds_toArray, List.set_cons_zero, List.set_cons_succ]
      refine wpAnyH_take (i := 14) (oi := ?on326) (v := ?vn326) ?hin326 ?an326 ?bn326 ?cn326 ?qn326 (Or.inl ⟨?dn326, ?hyn326⟩) hHeld ?restn326
      case hin326 => (simp only [List.getElem?_toArray, List.getElem?_cons_succ, List.getElem?_cons_zero]; exact rfl)
      case an326 => kernel_rfl
      case bn326 => kernel_rfl
      case cn326 => kernel_rfl
      case qn326 => exact fun _ _ _ h => h
      case dn326 => rfl
      case hyn326 => (intro z hSw; (try dsimp only at hSw); go_simp; (try with_reducible rfl))
      try simp only [Act.put, List.setIfInBounds_toArray, List.set_cons_zero, List.set_cons_succ]
      refine wpAnyH_take (i := 15) (oi := ?on327) (v := ?vn327) ?hin327 ?an327 ?bn327 ?cn327 ?qn327 (Or.inl ⟨?dn327, ?hyn327⟩) hHeld ?restn327
      case hin327 => (simp only [List.getElem?_toArray, List.getElem?_cons_succ, List.getElem?_cons_zero]; exact rfl)
      case an327 => kernel_rfl
      case bn327 => kernel_rfl
      case cn327 => kernel_rfl
      case qn327 => exact fun _ _ _ h => h
      case dn327 => rfl
      case hyn327 => (intro z hSw; (try dsimp only at hSw); go_simp; (try with_reducible rfl))
      try simp only [Act.put, List.setIfInBounds_toArray, List.set_cons_zero, List.set_cons_succ]
      refine wpAnyH_take (i := 16) (oi := ?on328) ?hin328 ?an328 ?bn328 ?cn328 ?qn328 (Or.inr ⟨?dn328, rfl⟩) hHeld ?restn328
      case hin328 => (simp only [List.getElem?_toArray, List.getElem?_cons_succ, List.getElem?_cons_zero]; exact rfl)
      case an328 => kernel_rfl
      case bn328 => kernel_rfl
      case cn328 => kernel_rfl
      case qn328 => exact fun _ _ _ h => h
      case dn328 => rfl
      try simp only [Act.put, List.setIfInBounds_toArray, List.set_cons_zero, List.set_cons_succ]
      refine wpAnyH_take (i := 17) (oi := ?on329) ?hin329 ?an329 ?bn329 ?cn329 ?qn329 (Or.inr ⟨?dn329, rfl⟩) hHeld ?restn329
      case hin329 => (simp only [List.getElem?_toArray, List.getElem?_cons_succ, List.getElem?_cons_zero]; exact rfl)
      case an329 => kernel_rfl
      case bn329 => kernel_rfl
      case cn329 => kernel_rfl
      case qn329 => exact fun _ _ _ h => h
      case dn329 => rfl
      try simp only [Act.put, List.setIfInBounds_toArray, List.set_cons_zero, List.set_cons_succ]
      refine wpAnyH_take (i := 18) (oi := ?on330) ?hin330 ?an330 ?bn330 ?cn330 ?qn330 (Or.inr ⟨?dn330, rfl⟩) hHeld ?restn330
      case hin330 => (simp only [List.getElem?_toArray, List.getElem?_cons_succ, List.getElem?_cons_zero]; exact rfl)
      case an330 => kernel_rfl
      case bn330 => kernel_rfl
      case cn330 => kernel_rfl
      case qn330 => exact fun _ _ _ h => h
      case dn330 => rfl
      try simp only [Act.put, List.setIfInBounds_toArray, List.set_cons_zero, List.set_cons_succ]
      refine wpAnyH_take (i := 19) (oi := ?on331) ?hin331 ?an331 ?bn331 ?cn331 ?qn331 (Or.inr ⟨?dn331, rfl⟩) hHeld ?restn331
      case hin331 => (simp only [List.getElem?_toArray, List.getElem?_cons_succ, List.getElem?_cons_zero]; exact rfl)
      case an331 => kernel_rfl
      case bn331 => kernel_rfl
      case cn331 => kernel_rfl
      case qn331 => exact fun _ _ _ h => h
      case dn331 => rfl
      try simp only [Act.put, List.setIfInBounds_toArray, List.set_cons_zero, List.set_cons_succ]
      refine wpAnyH_take (i := 20) (oi := ?on332) ?hin332 ?an332 ?bn332 ?cn332 ?qn332 (Or.inr ⟨?dn332, rfl⟩) hHeld ?restn332
      case hin332 => (simp only [List.getElem?_toArray, List.getElem?_cons_succ, List.getElem?_cons_zero]; exact rfl)
      case an332 => kernel_rfl
      case bn332 => kernel_rfl
      case cn332 => kernel_rfl
      case qn332 => exact fun _ _ _ h => h
      case dn332 => rfl
      try simp only [Act.put, List.setIfInBounds_toArray, List.set_cons_zero, List.set_cons_succ]
      refine wpAnyH_take (i := 21) (oi := ?on333) ?hin333 ?an333 ?bn333 ?cn333 ?qn333 (Or.inr ⟨?dn333, rfl⟩) hHeld ?restn333
      case hin333 => (simp only [List.getElem?_toArray, List.getElem?_cons_succ, List.getElem?_cons_zero]; exact rfl)
      case an333 => kernel_rfl
      case bn333 => kernel_rfl
      case cn333 => kernel_rfl
      case qn333 => exact fun _ _ _ h => h
      case dn333 => rfl
      try simp only [Act.put, List.setIfInBounds_toArray, List.set_cons_zero, List.set_cons_succ]
      refine wpAnyH_take (i := 22) (oi := ?on334) ?hin334 ?an334 ?bn334 ?cn334 ?qn334 (Or.inr ⟨?dn334, rfl⟩) hHeld ?restn334
      case hin334 => (simp only [List.getElem?_toArray, List.getElem?_cons_succ, List.getElem?_cons_zero]; exact rfl)
      case an334 => kernel_rfl
      case bn334 => kernel_rfl
      case cn334 => kernel_rfl
      case qn334 => exact fun _ _ _ h => h
      case dn334 => rfl
      try simp only [Act.put, List.setIfInBounds_toArray, List.set_cons_zero, List.set_cons_succ]
      refine wpAnyH_take (i := 23) (oi := ?on335) ?hin335 ?an335 ?bn335 ?cn335 ?qn335 (Or.inr ⟨?dn335, rfl⟩) hHeld ?restn335
      case hin335 => (simp only [List.getElem?_toArray, List.getElem?_cons_succ, List.getElem?_cons_zero]; exact rfl)
      case an335 => kernel_rfl
      case bn335 => kernel_rfl
      case cn335 => kernel_rfl
      case qn335 => exact fun _ _ _ h => h
      case dn335 => rfl
      try simp only [Act.put, List.setIfInBounds_toArray, List.set_cons_zero, List.set_cons_succ]
      refine wpAnyH_take (i := 24) (oi := ?on336) ?hin336 ?an336 ?bn336 ?cn336 ?qn336 (Or.inr ⟨?dn336, rfl⟩) hHeld ?restn336
      case hin336 => (simp only [List.getElem?_toArray, List.getElem?_cons_succ, List.getElem?_cons_zero]; exact rfl)
      case an336 => kernel_rfl
      case bn336 => kernel_rfl
      case cn336 => kernel_rfl
      case qn336 => exact fun _ _ _ h => h
      case dn336 => rfl
      try simp only [Act.put, List.setIfInBounds_toArray, List.set_cons_zero, List.set_cons_succ]
      refine wpAnyH_take (i := 25) (oi := ?on337) (v := ?vn337) ?hin337 ?an337 ?bn337 ?cn337 ?qn337 (Or.inl ⟨?dn337, ?hyn337⟩) hHeld ?restn337
      case hin337 => (simp only [List.getElem?_toArray, List.getElem?_cons_succ, List.getElem?_cons_zero]; exact rfl)
      case an337 => kernel_rfl
      case bn337 => kernel_rfl
      case cn337 => kernel_rfl
      case qn337 => exact fun _ _ _ h => h
      case dn337 => rfl
      case hyn337 => (intro z hSw; (try dsimp only at hSw); go_simp; (try with_reducible rfl))
      try simp only [Act.put, List.setIfInBounds_toArray, List.set_cons_zero, List.set_cons_succ]
      refine wpAnyH_take (i := 26) (oi := ?on338) (v := ?vn338) ?hin338 ?an338 ?bn338 ?cn338 ?qn338 (Or.inl ⟨?dn338, ?hyn338⟩) hHeld ?restn338
      case hin338 => (simp only [List.getElem?_toArray, List.getElem?_cons_succ, List.getElem?_cons_zero]; exact rfl)
      case an338 => kernel_rfl
      case bn338 => kernel_rfl
      case cn338 => kernel_rfl
      case qn338 => exact fun _ _ _ h => h
      case dn338 => rfl
      case hyn338 => (intro z hSw; (try dsimp only at hSw); go_simp; (try with_reducible rfl))
      try simp only [Act.put, List.setIfInBounds_toArray, List.set_cons_zero, List.set_cons_succ]
      refine wpAnyH_done (by kernel_rfl) ?_ _
      go_wp2_with fail
      go_ret
      exact ⟨rfl, (by repeat (first | with_reducible assumption | with_reducible refine Grew.alloc ?_ _ | with_reducible refine Grew.drew ?_ | with_reducible refine Grew.drewN ?_ _))⟩
  · rw [dcd_false (fun h => h0 (h.1))]
    have KP := Lib.hid (fun W => split_no 4 M W hM h0)
    replace KN0 := Lib.hid KN0
    replace KN1 := Lib.hid KN1
    replace KY := Lib.hid KY
    replace hwb := hwb.symm
    clear h0
    go_enter Tryz.func43, Tryz.ntmps43
    go_wp2_with fail
    rw [← hwb]
    clear hwb
    go_quiet (fail)
    go_wp2_with fail
    refine (KP.out _).mono ?_
    rintro e w1 ⟨rfl, hg1'⟩
    have hg1 : Grew wb w1 := Grew.trans (by repeat (first | with_reducible assumption | with_reducible refine Grew.alloc ?_ _ | with_reducible refine Grew.drew ?_ | with_reducible refine Grew.drewN ?_ _)) hg1'
    have g1 := hal.trans hg1
    have r1 := Grew.refl w1
    have d1 := r1.drew
    have gd := g1.trans d1
    have e0 := fun W (hW : Grew w1 W) => f0 W (hg1.trans hW)
    have e2 := fun W (hW : Grew w1 W) => f2 W (hg1.trans hW)
    have e3 := fun W (hW : Grew w1 W) => f3 W (hg1.trans hW)
    have e4 := fun W (hW : Grew w1 W) => f4 W (hg1.trans hW)
    have p0a := fun W (hW : Grew w1 W) => q0a W (g1.trans hW)
    have p0b := fun W (hW : Grew w1 W) => q0b W (g1.trans hW)
    have p0c := fun W (hW : Grew w1 W) => q0c W (g1.trans hW)
    have p0d := fun W (hW : Grew w1 W) => q0d W (g1.trans hW)
    have p0e := fun W (hW : Grew w1 W) => q0e W (g1.trans hW)
    have p1a := fun W (hW : Grew w1 W) => q1a W (g1.trans hW)
    have p1b := fun W (hW : Grew w1 W) => q1b W (g1.trans hW)
    have p1c := fun W (hW : Grew w1 W) => q1c W (g1.trans hW)
    have p1d := fun W (hW : Grew w1 W) => q1d W (g1.trans hW)
    have p1e := fun W (hW : Grew w1 W) => q1e W (g1.trans hW)
    clear f0 f2 f3 f4 q0a q0b q0c q0d q0e q1a q1b q1c q1d q1e
    go_wp2_with fail
    refine wp_region_held_drew (S := fun w' => Grew w1 w') (by kernel_rfl) d1 (fun hHeld => ?_)
    refine wpAnyH_take (i := 0) (oi := ?on339) (v := ?vn339) ?hin339 ?an339 ?bn339 ?cn339 ?qn339 (Or.inl ⟨?dn339, ?hyn339⟩) hHeld ?restn339
    case hin339 => (simp only [List.getElem?_toArray, List.getElem?_cons_zero]; exact rfl)
    case an339 => kernel_rfl
    case bn339 => kernel_rfl
    case cn339 => kernel_rfl
    case qn339 => exact fun _ _ _ h => h
    case dn339 => rfl
    case hyn339 => (intro z hSw; (try dsimp only at hSw); go_simp; (try with_reducible rfl))
    try simp only [Act.put, List.setIfInBounds_toArray, List.set_cons_zero, List.set_cons_succ]
    refine wpAnyH_take (i := 1) (oi := ?on340) (v := ?vn340) ?hin340 ?an340 ?bn340 ?cn340 ?qn340 (Or.inl ⟨?dn340, ?hyn340⟩) hHeld ?restn340
    case hin340 => (simp only [List.getElem?_toArray, List.getElem?_cons_succ, List.getElem?_cons_zero]; exact rfl)
    case an340 => kernel_rfl
    case bn340 => kernel_rfl
    case cn340 => kernel_rfl
    case qn340 => exact fun _ _ _ h => h
    case dn340 => rfl
    case hyn340 => (intro z hSw; (try dsimp only at hSw); go_simp; (try with_reducible rfl))
    try simp only [Act.put, List.setIfInBounds_toArray, List.set_cons_zero, List.set_cons_succ]
    refine wpAnyH_take (i := 2) (oi := ?on341) ?hin341 ?an341 ?bn341 ?cn341 ?qn341 (Or.inr ⟨?dn341, rfl⟩) hHeld ?restn341
    case hin341 => (simp only [List.getElem?_toArray, List.getElem?_cons_succ, List.getElem?_cons_zero]; exact rfl)
    case an341 => kernel_rfl
    case bn341 => kernel_rfl
    case cn341 => kernel_rfl
    case qn341 => exact fun _ _ _ h => h
    case dn341 => rfl
    try simp only [Act.put, List.setIfInBounds_toArray, List.set_cons_zero, List.set_cons_succ]
    refine wpAnyH_take (i := 3) (oi := ?on342) ?hin342 ?an342 ?bn342 ?cn342 ?qn342 (Or.inr ⟨?dn342, rfl⟩) hHeld ?restn342
    case hin342 => (simp only [List.getElem?_toArray, List.getElem?_cons_succ, List.getElem?_cons_zero]; exact rfl)
    case an342 => kernel_rfl
    case bn342 => kernel_rfl
    case cn342 => kernel_rfl
    case qn342 => exact fun _ _ _ h => h
    case dn342 => rfl
    try simp only [Act.put, List.setIfInBounds_toArray, List.set_cons_zero, List.set_cons_succ]
    refine wpAnyH_take (i := 4) (oi := ?on343) ?hin343 ?an343 ?bn343 ?cn343 ?qn343 (Or.inr ⟨?dn343, rfl⟩) hHeld ?restn343
    case hin343 => (simp only [List.getElem?_toArray, List.getElem?_cons_succ, List.getElem?_cons_zero]; exact rfl)
    case an343 => kernel_rfl
    case bn343 => kernel_rfl
    case cn343 => kernel_rfl
    case qn343 => exact fun _ _ _ h => h
    case dn343 => rfl
    try simp only [Act.put, List.setIfInBounds_toArray, List.set_cons_zero, List.set_cons_succ]
    refine wpAnyH_take (i := 5) (oi := ?on344) ?hin344 ?an344 ?bn344 ?cn344 ?qn344 (Or.inr ⟨?dn344, rfl⟩) hHeld ?restn344
    case hin344 => (simp only [List.getElem?_toArray, List.getElem?_cons_succ, List.getElem?_cons_zero]; exact rfl)
    case an344 => kernel_rfl
    case bn344 => kernel_rfl
    case cn344 => kernel_rfl
    case qn344 => exact fun _ _ _ h => h
    case dn344 => rfl
    try simp only [Act.put, List.setIfInBounds_toArray, List.set_cons_zero, List.set_cons_succ]
    refine wpAnyH_take (i := 6) (oi := ?on345) (v := ?vn345) ?hin345 ?an345 ?bn345 ?cn345 ?qn345 (Or.inl ⟨?dn345, ?hyn345⟩) hHeld ?restn345
    case hin345 => (simp only [List.getElem?_toArray, List.getElem?_cons_succ, List.getElem?_cons_zero]; exact rfl)
    case an345 => kernel_rfl
    case bn345 => kernel_rfl
    case cn345 => kernel_rfl
    case qn345 => exact fun _ _ _ h => h
    case dn345 => rfl
    case hyn345 => (intro z hSw; (try dsimp only at hSw); go_simp; (try with_reducible rfl))
    try simp only [Act.put, List.setIfInBounds_toArray, List.set_cons_zero, List.set_cons_succ]
    refine wpAnyH_take (i := 7) (oi := ?on346) (v := ?vn346) ?hin346 ?an346 ?bn346 ?cn346 ?qn346 (Or.inl ⟨?dn346, ?hyn346⟩) hHeld ?restn346
    case hin346 => (simp only [List.getElem?_toArray, List.getElem?_cons_succ, List.getElem?_cons_zero]; exact rfl)
    case an346 => kernel_rfl
    case bn346 => kernel_rfl
    case cn346 => kernel_rfl
    case qn346 => exact fun _ _ _ h => h
    case dn346 => rfl
    case hyn346 => (intro z hSw; (try dsimp only at hSw); go_simp; (try with_reducible rfl))
    try simp only [Act.put, List.setIfInBounds_toArray, List.set_cons_zero, List.set_cons_succ]
    refine wpAnyH_take (i := 8) (oi := ?on347) ?hin347 ?an347 ?bn347 ?cn347 ?qn347 (Or.inr ⟨?dn347, rfl⟩) hHeld ?restn347
    case hin347 => (simp only [List.getElem?_toArray, List.getElem?_cons_succ, List.getElem?_cons_zero]; exact rfl)
    case an347 => kernel_rfl
    case bn347 => kernel_rfl
    case cn347 => kernel_rfl
    case qn347 => exact fun _ _ _ h => h
    case dn347 => rfl
    try simp only [Act.put, List.setIfInBounds_toArray, List.set_cons_zero, List.set_cons_succ]
    refine wpAnyH_take (i := 9) (oi := ?on348) ?hin348 ?an348 ?bn348 ?cn348 ?qn348 (Or.inr ⟨?dn348, rfl⟩) hHeld ?restn348
    case hin348 => (simp only [List.getElem?_toArray, List.getElem?_cons_succ, List.getElem?_cons_zero]; exact rfl)
    case an348 => kernel_rfl
    case bn348 => kernel_rfl
    case cn348 => kernel_rfl
    case qn348 => exact fun _ _ _ h => h
    case dn348 => rfl
    try simp only [Act.put, List.setIfInBounds_toArray, List.set_cons_zero, List.set_cons_succ]
    refine wpAnyH_take (i := 10) (oi := ?on349) ?hin349 ?an349 ?bn349 ?cn349 ?qn349 (Or.inr ⟨?dn349, rfl⟩) hHeld ?restn349
    case hin349 => (simp only [List.getElem?_toArray, List.getElem?_cons_succ, List.getElem?_cons_zero]; exact rfl)
    case an349 => kernel_rfl
    case bn349 => kernel_rfl
    case cn349 => kernel_rfl
    case qn349 => exact fun _ _ _ h => h
    case dn349 => rfl
    try simp only [Act.put, List.setIfInBounds_toArray, List.set_cons_zero, List.set_cons_succ]
    refine wpAnyH_take (i := 11) (oi := ?on350) ?hin350 ?an350 ?bn350 ?cn350 ?qn350 (Or.inr ⟨?dn350, rfl⟩) hHeld ?restn350
    case hin350 => (simp only [List.getElem?_toArray, List.getElem?_cons_succ, List.getElem?_cons_zero]; exact rfl)
    case an350 => kernel_rfl
    case bn350 => kernel_rfl
    case cn350 => kernel_rfl
    case qn350 => exact fun _ _ _ h => h
    case dn350 => rfl
    try simp only [Act.put, List.setIfInBounds_toArray, List.set_cons_zero, List.set_cons_succ]
    refine wpAnyH_take (i := 12) (oi := ?on351) ?hin351 ?an351 ?bn351 ?cn351 ?qn351 (Or.inr ⟨?dn351, rfl⟩) hHeld ?restn351
    case hin351 => (simp only [List.getElem?_toArray, List.getElem?_cons_succ, List.getElem?_cons_zero]; exact rfl)
    case an351 => kernel_rfl
    case bn351 => kernel_rfl
    case cn351 => kernel_rfl
    case qn351 => exact fun _ _ _ h => h
    case dn351 => rfl
    try simp only [Act.put, List.setIfInBounds_toArray, List.set_cons_zero, List.set_cons_succ]
    refine wpAnyH_take (i := 13) (oi := ?on352) ?hin352 ?an352 ?bn352 ?cn352 ?qn352 (Or.inr ⟨?dn352, rfl⟩) hHeld ?restn352
    case hin352 => (simp only [List.getElem?_toArray, List.getElem?_cons_succ, List.getElem?_cons_zero]; exact rfl)
    case an352 => kernel_rfl
    case bn352 => kernel_rfl
    case cn352 => kernel_rfl
    case qn352 => exact fun _ _ _ h => h
    case dn352 => rfl
    try simp only [Act.put, List.setIfInBounds_toArray, List.set_cons_zero, List.set_cons_succ]
    refine wpAnyH_take (i := 14) (oi := ?on353) (v := ?vn353) ?hin353 ?an353 ?bn353 ?cn353 ?qn353 (Or.inl ⟨?dn353, ?hyn353⟩) hHeld ?restn353
    case hin353 => (simp only [List.getElem?_toArray, List.getElem?_cons_succ, List.getElem?_cons_zero]; exact rfl)
    case an353 => kernel_rfl
    case bn353 => kernel_rfl
    case cn353 => kernel_rfl
    case qn353 => exact fun _ _ _ h => h
    case dn353 => rfl
    case hyn353 => (intro z hSw; (try dsimp only at hSw); go_simp; (try with_reducible rfl))
    try simp only [Act.put, List.setIfInBounds_toArray, List.set_cons_zero, List.set_cons_succ]
    refine wpAnyH_take (i := 15) (oi := ?on354) (v := ?vn354) ?hin354 ?an354 ?bn354 ?cn354 ?qn354 (Or.inl ⟨?dn354, ?hyn354⟩) hHeld ?restn354
    case hin354 => (simp only [List.getElem?_toArray, List.getElem?_cons_succ, List.getElem?_cons_zero]; exact rfl)
    case an354 => kernel_rfl
    case bn354 => kernel_rfl
    case cn354 => kernel_rfl
    case qn354 => exact fun _ _ _ h => h
    case dn354 => rfl
    case hyn354 => (intro z hSw; (try dsimp only at hSw); go_simp; (try with_reducible rfl))
    try simp only [Act.put, List.setIfInBounds_toArray, List.set_cons_zero, List.set_cons_succ]
    refine wpAnyH_take (i := 16) (oi := ?on355) ?hin355 ?an355 ?bn355 ?cn355 ?qn355 (Or.inr ⟨?dn355, rfl⟩) hHeld ?restn355
    case hin355 => (simp only [List.getElem?_toArray, List.getElem?_cons_succ, List.getElem?_cons_zero]; exact rfl)
    case an355 => kernel_rfl
    case bn355 => kernel_rfl
    case cn355 => kernel_rfl
    case qn355 => exact fun _ _ _ h => h
    case dn355 => rfl
    try simp only [Act.put, List.setIfInBounds_toArray, List.set_cons_zero, List.set_cons_succ]
    refine wpAnyH_take (i := 17) (oi := ?on356) ?hin356 ?an356 ?bn356 ?cn356 ?qn356 (Or.inr ⟨?dn356, rfl⟩) hHeld ?restn356
    case hin356 => (simp only [List.getElem?_toArray, List.getElem?_cons_succ, List.getElem?_cons_zero]; exact rfl)
    case an356 => kernel_rfl
    case bn356 => kernel_rfl
    case cn356 => kernel_rfl
    case qn356 => exact fun _ _ _ h => h
    case dn356 => rfl
    try simp only [Act.put, List.setIfInBounds_toArray, List.set_cons_zero, List.set_cons_succ]
    refine wpAnyH_take (i := 18) (oi := ?on357) ?hin357 ?an357 ?bn357 ?cn357 ?qn357 (Or.inr ⟨?dn357, rfl⟩) hHeld ?restn357
    case hin357 => (simp only [List.getElem?_toArray, List.getElem?_cons_succ, List.getElem?_cons_zero]; exact rfl)
    case an357 => kernel_rfl
    case bn357 => kernel_rfl
    case cn357 => kernel_rfl
    case qn357 => exact fun _ _ _ h => h
    case dn357 => rfl
    try simp only [Act.put, List.setIfInBounds_toArray, List.set_cons_zero, List.set_cons_succ]
    refine wpAnyH_take (i := 19) (oi := ?on358) ?hin358 ?an358 ?bn358 ?cn358 ?qn358 (Or.inr ⟨?dn358, rfl⟩) hHeld ?restn358
    case hin358 => (simp only [List.getElem?_toArray, List.getElem?_cons_succ, List.getElem?_cons_zero]; exact rfl)
    case an358 => kernel_rfl
    case bn358 => kernel_rfl
    case cn358 => kernel_rfl
    case qn358 => exact fun _ _ _ h => h
    case dn358 => rfl
    try simp only [Act.put, List.setIfInBounds_toArray, List.set_cons_zero, List.set_cons_succ]
    refine wpAnyH_take (i := 20) (oi := ?on359) ?hin359 ?an359 ?bn359 ?cn359 ?qn359 (Or.inr ⟨?dn359, rfl⟩) hHeld ?restn359
    case hin359 => (simp only [List.getElem?_toArray, List.getElem?_cons_succ, List.getElem?_cons_zero]; exact rfl)
    case an359 => kernel_rfl
    case bn359 => kernel_rfl
    case cn359 => kernel_rfl
    case qn359 => exact fun _ _ _ h => h
    case dn359 => rfl
    try simp only [Act.put, List.setIfInBounds_toArray, List.set_cons_zero, List.set_cons_succ]
    refine wpAnyH_take (i := 21) (oi := ?on360) ?hin360 ?an360 ?bn360 ?cn360 ?qn360 (Or.inr ⟨?dn360, rfl⟩) hHeld ?restn360
    case hin360 => (simp only [List.getElem?_toArray, List.getElem?_cons_succ, List.getElem?_cons_zero]; exact rfl)
    case an360 => kernel_rfl
    case bn360 => kernel_rfl
    case cn360 => kernel_rfl
    case qn360 => exact fun _ _ _ h => h
    case dn360 => rfl
    try simp only [Act.put, List.setIfInBounds_toArray, List.set_cons_zero, List.set_cons_succ]
    refine wpAnyH_take (i := 22) (oi := ?on361) ?hin361 ?an361 ?bn361 ?cn361 ?qn361 (Or.inr ⟨?dn361, rfl⟩) hHeld ?restn361
    case hin361 => (simp only [List.getElem?_toArray, List.getElem?_cons_succ, List.getElem?_cons_zero]; exact rfl)
    case an361 => kernel_rfl
    case bn361 => kernel_rfl
    case cn361 => kernel_rfl
    case qn361 => exact fun _ _ _ h => h
    case dn361 => rfl
    try simp only [Act.put, List.setIfInBounds_toArray, List.set_cons_zero, List.set_cons_succ]
    refine wpAnyH_take (i := 23) (oi := ?on362) ?hin362 ?an362 ?bn362 ?cn362 ?qn362 (Or.inr ⟨?dn362, rfl⟩) hHeld ?restn362
    case hin362 => (simp only [List.getElem?_toArray, List.getElem?_cons_succ, List.getElem?_cons_zero]; exact rfl)
    case an362 => kernel_rfl
    case bn362 => kernel_rfl
    case cn362 => kernel_rfl
    case qn362 => exact fun _ _ _ h => h
    case dn362 => rfl
    try simp only [Act.put, List.setIfInBounds_toArray, List.set_cons_zero, List.set_cons_succ]
    refine wpAnyH_take (i := 24) (oi := ?on363) ?hin363 ?an363 ?bn363 ?cn363 ?qn363 (Or.inr ⟨?dn363, rfl⟩) hHeld ?restn363
    case hin363 => (simp only [List.getElem?_toArray, List.getElem?_cons_succ, List.getElem?_cons_zero]; exact rfl)
    case an363 => kernel_rfl
    case bn363 => kernel_rfl
    case cn363 => kernel_rfl
    case qn363 => exact fun _ _ _ h => h
    case dn363 => rfl
    try simp only [Act.put, List.setIfInBounds_toArray, List.set_cons_zero, List.set_cons_succ]
    refine wpAnyH_take (i := 25) (oi := ?on364) (v := ?vn364) ?hin364 ?an364 ?bn364 ?cn364 ?qn364 (Or.inl ⟨?dn364, ?hyn364⟩) hHeld ?restn364
    case hin364 => (simp only [List.getElem?_toArray, List.getElem?_cons_succ, List.getElem?_cons_zero]; exact rfl)
    case an364 => kernel_rfl
    case bn364 => kernel_rfl
    case cn364 => kernel_rfl
    case qn364 => exact fun _ _ _ h => h
    case dn364 => rfl
    case hyn364 => (intro z hSw; (try dsimp only at hSw); go_simp; (try with_reducible rfl))
    try simp only [Act.put, List.setIfInBounds_toArray, List.set_cons_zero, List.set_cons_succ]
    refine wpAnyH_take (i := 26) (oi := ?on365) (v := ?vn365) ?hin365 ?an365 ?bn365 ?cn365 ?qn365 (Or.inl ⟨?dn365, ?hyn365⟩) hHeld ?restn365
    case hin365 => (simp only [List.getElem?_toArray, List.getElem?_cons_succ, List.getElem?_cons_zero]; exact rfl)
    case an365 => kernel_rfl
    case bn365 => kernel_rfl
    case cn365 => kernel_rfl
    case qn365 => exact fun _ _ _ h => h
    case dn365 => rfl
    case hyn365 => (intro z hSw; (try dsimp only at hSw); go_simp; (try with_reducible rfl))
    try simp only [Act.put, List.setIfInBounds_toArray, List.set_cons_zero, List.set_cons_succ]
    refine wpAnyH_done (by kernel_rfl) ?_ _
    go_wp2_with fail
    go_ret
    exact ⟨rfl, (by repeat (first | with_reducible assumption | with_reducible refine Grew.alloc ?_ _ | with_reducible refine Grew.drew ?_ | with_reducible refine Grew.drewN ?_ _))⟩
end Go.Proofs.YtkjmfkllmljdeaaGreat

/- l22Fits of the reference at some rules. -/
namespace Go.Proofs.YtkjmfkllmljdeaaGreat
open Go.RowKit

set_option maxHeartbeats 8000000 in
set_option maxRecDepth 8192 in
theorem ruleJ_11 (P : List Int) (A : List ByteArray) (C M : ByteArray) : RuleJ (11, P, A, C, M) 2 := by
  intro up ua vp p w hup hs hv hq hC hM hu hk
  simp only at hup hs hq hC hM hu hk ⊢
  obtain ⟨hgC, hasc, hln⟩ := sqB_and hq
  have hUp := ascP_up hasc
  obtain ⟨y0, y1, rfl⟩ := lenJ2 hk
  obtain ⟨r0, P0, A0, C0, M0⟩ := y0
  obtain ⟨r1, P1, A1, C1, M1⟩ := y1
  obtain ⟨pb, po, pc, rfl, hpc, hpm, hat⟩ := jfs_at hv (by simp)
  have hiff : okJ (11, P, A, C, M) ([(r0, P0, A0, C0, M0), (r1, P1, A1, C1, M1)].map js) ↔ (gp M = true ∧ js (r0, P0, A0, C0, M0) = (A, M) ∧ js (r1, P1, A1, C1, M1) = (putS (A ++ [M]), C)) := by
    exact okJ_11
  rw [dcd_congr hiff]
  clear hiff
  obtain ⟨up0, ua0, q0a, q0b, q0c, q0d, q0e, hp0, hu0⟩ := hat 0 _ rfl
  simp only [Nat.zero_mul, Nat.add_zero] at q0a q0b q0c q0d q0e hp0 hu0
  obtain ⟨up1, ua1, q1a, q1b, q1c, q1d, q1e, hp1, hu1⟩ := hat 1 _ rfl
  simp only [Nat.one_mul] at q1a q1b q1c q1d q1e hp1 hu1
  have KN0 := fun W (hW : Grew w W) v (hv : Strs W v (A)) => needJ_c (r0, P0, A0, C0, M0) up0 ua0 v (A) (M) W (hp0.grew hW) (hu0.grew hW) hv
  have KN1 := fun W (hW : Grew w W) v (hv : Strs W v (putS (A ++ [M]))) => needJ_c (r1, P1, A1, C1, M1) up1 ua1 v (putS (A ++ [M])) (C) W (hp1.grew hW) (hu1.grew hW) hv
  have KW1 := Lib.hid (fun W (hW : Grew w W) v (hv : Strs W v [M]) => with1_c ua v A (M) W (hs.grew hW) hv (by omega) hUp)
  have HSA := Lib.hid (fun W (hW : Grew w W) => hs.grew hW)
  obtain ⟨VP, cp, rfl⟩ := ints_slice hup
  obtain ⟨UA, ca, rfl⟩ := strs_slice hs
  obtain ⟨V0, d0, rfl⟩ := ints_slice hp0
  obtain ⟨U0, c0, rfl⟩ := strs_slice hu0
  obtain ⟨V1, d1, rfl⟩ := ints_slice hp1
  obtain ⟨U1, c1, rfl⟩ := strs_slice hu1
  simp only [List.length_cons, List.length_nil] at hpc ⊢
  have hal := (Grew.refl w).alloc (.cells #[.int .i64 11, .slice VP P.length cp, .slice UA A.length ca, .string C, .string M] 42)
  have f0 : ∀ W, Grew (w.alloc (.cells #[.int .i64 11, .slice VP P.length cp, .slice UA A.length ca, .string C, .string M] 42)) W → W.cell? ⟨w.heap.size, 0, none⟩ = some (.int .i64 11) := fun W hW => (hW.cell (p := ⟨w.heap.size, 0, none⟩) (by simp)).trans (by simp)
  have f2 : ∀ W, Grew (w.alloc (.cells #[.int .i64 11, .slice VP P.length cp, .slice UA A.length ca, .string C, .string M] 42)) W → W.cell? ⟨w.heap.size, 2, none⟩ = some (.slice UA A.length ca) := fun W hW => (hW.cell (p := ⟨w.heap.size, 2, none⟩) (by simp)).trans (by simp)
  have f3 : ∀ W, Grew (w.alloc (.cells #[.int .i64 11, .slice VP P.length cp, .slice UA A.length ca, .string C, .string M] 42)) W → W.cell? ⟨w.heap.size, 3, none⟩ = some (.string C) := fun W hW => (hW.cell (p := ⟨w.heap.size, 3, none⟩) (by simp)).trans (by simp)
  have f4 : ∀ W, Grew (w.alloc (.cells #[.int .i64 11, .slice VP P.length cp, .slice UA A.length ca, .string C, .string M] 42)) W → W.cell? ⟨w.heap.size, 4, none⟩ = some (.string M) := fun W hW => (hW.cell (p := ⟨w.heap.size, 4, none⟩) (by simp)).trans (by simp)
  clear hup hs hv hat hk hq hasc hUp hu hu0 hp0 hu1 hp1
  generalize P.length = pln at *
  generalize A.length = al at *
  generalize A0.length = al0 at *
  generalize A1.length = al1 at *
  generalize P0.length = pl0 at *
  generalize P1.length = pl1 at *
  generalize hwb : w.alloc (.cells #[.int .i64 11, .slice VP pln cp, .slice UA al ca, .string C, .string M] 42) = wb at *
  have rb := Grew.refl wb
  have rbd := rb.drew
  have rbn := fun n => rb.drewN n
  by_cases h0 : gp M = true
  · have hh : True := trivial
    have KP := fun W => l22Formula_c M W (by omega)
    unfold GivesP at KP
    rw [h0] at KP
    generalize (Fm.pf M).1 = xsM at *
    replace KP := Lib.hid KP
    by_cases h1 : js (r0, P0, A0, C0, M0) = (A, M)
    · have hh : True := trivial
      rw [dcd_true h1] at KN0
      by_cases h2 : js (r1, P1, A1, C1, M1) = (putS (A ++ [M]), C)
      · have hh : True := trivial
        rw [dcd_true h2] at KN1
        rw [dcd_true ⟨h0, h1, h2⟩]
        replace KN0 := Lib.hid KN0
        replace KN1 := Lib.hid KN1
        replace hwb := hwb.symm
        clear h0 h1 h2
        go_enter Tryz.func43, Tryz.ntmps43
        go_wp2_with fail
        rw [← hwb]
        clear hwb
        go_quiet (fail)
        go_wp2_with fail
        refine (KP.out _).mono ?_
        rintro e w1 ⟨v1, rfl, ho1, hg1'⟩
        obtain ⟨A1, n1, rfl⟩ := nodes_slice ho1.nodes
        clear ho1
        have hg1 : Grew wb w1 := Grew.trans (by repeat (first | with_reducible assumption | with_reducible refine Grew.alloc ?_ _ | with_reducible refine Grew.drew ?_ | with_reducible refine Grew.drewN ?_ _)) hg1'
        have g1 := hal.trans hg1
        have r1 := Grew.refl w1
        have d1 := r1.drew
        have gd := g1.trans d1
        have e0 := fun W (hW : Grew w1 W) => f0 W (hg1.trans hW)
        have e2 := fun W (hW : Grew w1 W) => f2 W (hg1.trans hW)
        have e3 := fun W (hW : Grew w1 W) => f3 W (hg1.trans hW)
        have e4 := fun W (hW : Grew w1 W) => f4 W (hg1.trans hW)
        have p0a := fun W (hW : Grew w1 W) => q0a W (g1.trans hW)
        have p0b := fun W (hW : Grew w1 W) => q0b W (g1.trans hW)
        have p0c := fun W (hW : Grew w1 W) => q0c W (g1.trans hW)
        have p0d := fun W (hW : Grew w1 W) => q0d W (g1.trans hW)
        have p0e := fun W (hW : Grew w1 W) => q0e W (g1.trans hW)
        have p1a := fun W (hW : Grew w1 W) => q1a W (g1.trans hW)
        have p1b := fun W (hW : Grew w1 W) => q1b W (g1.trans hW)
        have p1c := fun W (hW : Grew w1 W) => q1c W (g1.trans hW)
        have p1d := fun W (hW : Grew w1 W) => q1d W (g1.trans hW)
        have p1e := fun W (hW : Grew w1 W) => q1e W (g1.trans hW)
        clear f0 f2 f3 f4 q0a q0b q0c q0d q0e q1a q1b q1c q1d q1e
        go_wp2_with fail
        refine wp_region_held_drew (S := fun w' => Grew w1 w') (by kernel_rfl) d1 (fun hHeld => ?_)
        refine wpAnyH_take (i := 0) (oi := ?on405) (v := ?vn405) ?hin405 ?an405 ?bn405 ?cn405 ?qn405 (Or.inl ⟨?dn405, ?hyn405⟩) hHeld ?restn405
        case hin405 => (simp only [List.getElem?_toArray, List.getElem?_cons_zero]; exact rfl)
        case an405 => kernel_rfl
        case bn405 => kernel_rfl
        case cn405 => kernel_rfl
        case qn405 => exact fun _ _ _ h => h
        case dn405 => rfl
        case hyn405 => (intro z hSw; (try dsimp only at hSw); go_simp; (try with_reducible rfl))
        try simp only [Act.put, List.setIfInBounds_toArray, List.set_cons_zero, List.set_cons_succ]
        refine wpAnyH_take (i := 1) (oi := ?on406) (v := ?vn406) ?hin406 ?an406 ?bn406 ?cn406 ?qn406 (Or.inl ⟨?dn406, ?hyn406⟩) hHeld ?restn406
        case hin406 => (simp only [List.getElem?_toArray, List.getElem?_cons_succ, List.getElem?_cons_zero]; exact rfl)
        case an406 => kernel_rfl
        case bn406 => kernel_rfl
        case cn406 => kernel_rfl
        case qn406 => exact fun _ _ _ h => h
        case dn406 => rfl
        case hyn406 => (intro z hSw; (try dsimp only at hSw); go_simp; (try with_reducible rfl))
        try simp only [Act.put, List.setIfInBounds_toArray, List.set_cons_zero, List.set_cons_succ]
        refine wpAnyH_take (i := 2) (oi := ?on407) (v := ?vn407) ?hin407 ?an407 ?bn407 ?cn407 ?qn407 (Or.inl ⟨?dn407, ?hyn407⟩) hHeld ?restn407
        case hin407 => (simp only [List.getElem?_toArray, List.getElem?_cons_succ, List.getElem?_cons_zero]; exact rfl)
        case an407 => kernel_rfl
        case bn407 => kernel_rfl
        case cn407 => kernel_rfl
        case qn407 => exact fun _ _ _ h => h
        case dn407 => rfl
        case hyn407 => (intro z hSw; (try dsimp only at hSw); go_simp; (try with_reducible rfl))
        try simp only [Act.put, List.setIfInBounds_toArray, List.set_cons_zero, List.set_cons_succ]
        refine wpAnyH_take (i := 3) (oi := ?on408) (v := ?vn408) ?hin408 ?an408 ?bn408 ?cn408 ?qn408 (Or.inl ⟨?dn408, ?hyn408⟩) hHeld ?restn408
        case hin408 => (simp only [List.getElem?_toArray, List.getElem?_cons_succ, List.getElem?_cons_zero]; exact rfl)
        case an408 => kernel_rfl
        case bn408 => kernel_rfl
        case cn408 => kernel_rfl
        case qn408 => exact fun _ _ _ h => h
        case dn408 => rfl
        case hyn408 => (intro z hSw; (try dsimp only at hSw); go_simp; (try with_reducible rfl))
        try simp only [Act.put, List.setIfInBounds_toArray, List.set_cons_zero, List.set_cons_succ]
        refine wpAnyH_take (i := 4) (oi := ?on409) (v := ?vn409) ?hin409 ?an409 ?bn409 ?cn409 ?qn409 (Or.inl ⟨?dn409, ?hyn409⟩) hHeld ?restn409
        case hin409 => (simp only [List.getElem?_toArray, List.getElem?_cons_succ, List.getElem?_cons_zero]; exact rfl)
        case an409 => kernel_rfl
        case bn409 => kernel_rfl
        case cn409 => kernel_rfl
        case qn409 => exact fun _ _ _ h => h
        case dn409 => rfl
        case hyn409 => (intro z hSw; (try dsimp only at hSw); go_simp; (try with_reducible rfl))
        try simp only [Act.put, List.setIfInBounds_toArray, List.set_cons_zero, List.set_cons_succ]
        refine wpAnyH_take (i := 5) (oi := ?on410) (v := ?vn410) ?hin410 ?an410 ?bn410 ?cn410 ?qn410 (Or.inl ⟨?dn410, ?hyn410⟩) hHeld ?restn410
        case hin410 => (simp only [List.getElem?_toArray, List.getElem?_cons_succ, List.getElem?_cons_zero]; exact rfl)
        case an410 => kernel_rfl
        case bn410 => kernel_rfl
        case cn410 => kernel_rfl
        case qn410 => exact fun _ _ _ h => h
        case dn410 => rfl
        case hyn410 => (intro z hSw; (try dsimp only at hSw); go_simp; (try with_reducible rfl))
        try simp only [Act.put, List.setIfInBounds_toArray, List.set_cons_zero, List.set_cons_succ]
        refine wpAnyH_take (i := 6) (oi := ?on411) (v := ?vn411) ?hin411 ?an411 ?bn411 ?cn411 ?qn411 (Or.inl ⟨?dn411, ?hyn411⟩) hHeld ?restn411
        case hin411 => (simp only [List.getElem?_toArray, List.getElem?_cons_succ, List.getElem?_cons_zero]; exact rfl)
        case an411 => kernel_rfl
        case bn411 => kernel_rfl
        case cn411 => kernel_rfl
        case qn411 => exact fun _ _ _ h => h
        case dn411 => rfl
        case hyn411 => (intro z hSw; (try dsimp only at hSw); go_simp; (try with_reducible rfl))
        try simp only [Act.put, List.setIfInBounds_toArray, List.set_cons_zero, List.set_cons_succ]
        refine wpAnyH_take (i := 7) (oi := ?on412) (v := ?vn412) ?hin412 ?an412 ?bn412 ?cn412 ?qn412 (Or.inl ⟨?dn412, ?hyn412⟩) hHeld ?restn412
        case hin412 => (simp only [List.getElem?_toArray, List.getElem?_cons_succ, List.getElem?_cons_zero]; exact rfl)
        case an412 => kernel_rfl
        case bn412 => kernel_rfl
        case cn412 => kernel_rfl
        case qn412 => exact fun _ _ _ h => h
        case dn412 => rfl
        case hyn412 => (intro z hSw; (try dsimp only at hSw); go_simp; (try with_reducible rfl))
        try simp only [Act.put, List.setIfInBounds_toArray, List.set_cons_zero, List.set_cons_succ]
        refine wpAnyH_ready (rs := [8]) (by kernel_rfl) (by simp) ?_
        refine AllReadyH.cons (o := ?on413) ?hin413 ?restn413 AllReadyH.nil
        case hin413 => (simp only [List.getElem?_toArray, List.getElem?_cons_succ, List.getElem?_cons_zero]; exact rfl)
        intro K hK
        go_simp
        go_at_call 56
        refine (KN0.out _ (by repeat (first | with_reducible assumption | with_reducible refine Grew.alloc ?_ _ | with_reducible refine Grew.drew ?_ | with_reducible refine Grew.drewN ?_ _)) _ (HSA.out _ (by repeat (first | with_reducible assumption | with_reducible refine Grew.alloc ?_ _ | with_reducible refine Grew.drew ?_ | with_reducible refine Grew.drewN ?_ _)))).mono ?_
        rintro e v0 ⟨rfl, vg0⟩
        have gv0 : Grew w v0 := Grew.trans (by repeat (first | with_reducible assumption | with_reducible refine Grew.alloc ?_ _ | with_reducible refine Grew.drew ?_ | with_reducible refine Grew.drewN ?_ _)) vg0
        have mv0 : Grew w1 v0 := Grew.trans (by repeat (first | with_reducible assumption | with_reducible refine Grew.alloc ?_ _ | with_reducible refine Grew.drew ?_ | with_reducible refine Grew.drewN ?_ _)) vg0
        refine hK.out _ _ ?_ (fun hHeld => ?_)
        · (try dsimp only); first | with_reducible assumption | exact Grew.alloc ‹_› _
        clear hK K
        try simp only [Act.put, List.setIfInBounds_toArray, List.set_cons_zero, List.set_cons_succ]
        refine wpAnyH_take (i := 9) (oi := ?on414) (v := ?vn414) ?hin414 ?an414 ?bn414 ?cn414 ?qn414 (Or.inl ⟨?dn414, ?hyn414⟩) hHeld ?restn414
        case hin414 => (simp only [List.getElem?_toArray, List.getElem?_cons_succ, List.getElem?_cons_zero]; exact rfl)
        case an414 => kernel_rfl
        case bn414 => kernel_rfl
        case cn414 => kernel_rfl
        case qn414 => exact fun _ _ _ h => h
        case dn414 => rfl
        case hyn414 => (intro z hSw; (try dsimp only at hSw); go_simp; (try with_reducible rfl))
        try simp only [Act.put, List.setIfInBounds_toArray, List.set_cons_zero, List.set_cons_succ]
        refine wpAnyH_take (i := 10) (oi := ?on415) (v := ?vn415) ?hin415 ?an415 ?bn415 ?cn415 ?qn415 (Or.inl ⟨?dn415, ?hyn415⟩) hHeld ?restn415
        case hin415 => (simp only [List.getElem?_toArray, List.getElem?_cons_succ, List.getElem?_cons_zero]; exact rfl)
        case an415 => kernel_rfl
        case bn415 => kernel_rfl
        case cn415 => kernel_rfl
        case qn415 => exact fun _ _ _ h => h
        case dn415 => rfl
        case hyn415 => (intro z hSw; (try dsimp only at hSw); go_simp; (try with_reducible rfl))
        try simp only [Act.put, List.setIfInBounds_toArray, List.set_cons_zero, List.set_cons_succ]
        refine wpAnyH_take (i := 11) (oi := ?on416) (v := ?vn416) ?hin416 ?an416 ?bn416 ?cn416 ?qn416 (Or.inl ⟨?dn416, ?hyn416⟩) hHeld ?restn416
        case hin416 => (simp only [List.getElem?_toArray, List.getElem?_cons_succ, List.getElem?_cons_zero]; exact rfl)
        case an416 => kernel_rfl
        case bn416 => kernel_rfl
        case cn416 => kernel_rfl
        case qn416 => exact fun _ _ _ h => h
        case dn416 => rfl
        case hyn416 => (intro z hSw; (try dsimp only at hSw); go_simp; (try with_reducible rfl))
        try simp only [Act.put, List.setIfInBounds_toArray, List.set_cons_zero, List.set_cons_succ]
        refine wpAnyH_take (i := 12) (oi := ?on417) (v := ?vn417) ?hin417 ?an417 ?bn417 ?cn417 ?qn417 (Or.inl ⟨?dn417, ?hyn417⟩) hHeld ?restn417
        case hin417 => (simp only [List.getElem?_toArray, List.getElem?_cons_succ, List.getElem?_cons_zero]; exact rfl)
        case an417 => kernel_rfl
        case bn417 => kernel_rfl
        case cn417 => kernel_rfl
        case qn417 => exact fun _ _ _ h => h
        case dn417 => rfl
        case hyn417 => (intro z hSw; (try dsimp only at hSw); go_simp; (try with_reducible rfl))
        try simp only [Act.put, List.setIfInBounds_toArray, List.set_cons_zero, List.set_cons_succ]
        refine wpAnyH_take (i := 13) (oi := ?on418) (v := ?vn418) ?hin418 ?an418 ?bn418 ?cn418 ?qn418 (Or.inl ⟨?dn418, ?hyn418⟩) hHeld ?restn418
        case hin418 => (simp only [List.getElem?_toArray, List.getElem?_cons_succ, List.getElem?_cons_zero]; exact rfl)
        case an418 => kernel_rfl
        case bn418 => kernel_rfl
        case cn418 => kernel_rfl
        case qn418 => exact fun _ _ _ h => h
        case dn418 => rfl
        case hyn418 => (intro z hSw; (try dsimp only at hSw); go_simp; (try with_reducible rfl))
        try simp only [Act.put, List.setIfInBounds_toArray, List.set_cons_zero, List.set_cons_succ]
        refine wpAnyH_take (i := 14) (oi := ?on419) (v := ?vn419) ?hin419 ?an419 ?bn419 ?cn419 ?qn419 (Or.inl ⟨?dn419, ?hyn419⟩) hHeld ?restn419
        case hin419 => (simp only [List.getElem?_toArray, List.getElem?_cons_succ, List.getElem?_cons_zero]; exact rfl)
        case an419 => kernel_rfl
        case bn419 => kernel_rfl
        case cn419 => kernel_rfl
        case qn419 => exact fun _ _ _ h => h
        case dn419 => rfl
        case hyn419 => (intro z hSw; (try dsimp only at hSw); go_simp; (try with_reducible rfl))
        try simp only [Act.put, List.setIfInBounds_toArray, List.set_cons_zero, List.set_cons_succ]
        refine wpAnyH_take (i := 15) (oi := ?on420) (v := ?vn420) ?hin420 ?an420 ?bn420 ?cn420 ?qn420 (Or.inl ⟨?dn420, ?hyn420⟩) hHeld ?restn420
        case hin420 => (simp only [List.getElem?_toArray, List.getElem?_cons_succ, List.getElem?_cons_zero]; exact rfl)
        case an420 => kernel_rfl
        case bn420 => kernel_rfl
        case cn420 => kernel_rfl
        case qn420 => exact fun _ _ _ h => h
        case dn420 => rfl
        case hyn420 => (intro z hSw; (try dsimp only at hSw); go_simp; (try with_reducible rfl))
        try simp only [Act.put, List.setIfInBounds_toArray, List.set_cons_zero, List.set_cons_succ]
        refine wpAnyH_take (i := 16) (oi := ?on421) (v := ?vn421) ?hin421 ?an421 ?bn421 ?cn421 ?qn421 (Or.inl ⟨?dn421, ?hyn421⟩) hHeld ?restn421
        case hin421 => (simp only [List.getElem?_toArray, List.getElem?_cons_succ, List.getElem?_cons_zero]; exact rfl)
        case an421 => kernel_rfl
        case bn421 => kernel_rfl
        case cn421 => kernel_rfl
        case qn421 => exact fun _ _ _ h => h
        case dn421 => rfl
        case hyn421 => (intro z hSw; (try dsimp only at hSw); go_simp; (try with_reducible rfl))
        try simp only [Act.put, List.setIfInBounds_toArray, List.set_cons_zero, List.set_cons_succ]
        refine wpAnyH_take (i := 19) (oi := ?on422) (v := ?vn422) ?hin422 ?an422 ?bn422 ?cn422 ?qn422 (Or.inl ⟨?dn422, ?hyn422⟩) hHeld ?restn422
        case hin422 => (simp only [List.getElem?_toArray, List.getElem?_cons_succ, List.getElem?_cons_zero]; exact rfl)
        case an422 => kernel_rfl
        case bn422 => kernel_rfl
        case cn422 => kernel_rfl
        case qn422 => exact fun _ _ _ h => h
        case dn422 => rfl
        case hyn422 => (intro z hSw; (try dsimp only at hSw); go_simp; (try with_reducible rfl))
        try simp only [Act.put, List.setIfInBounds_toArray, List.set_cons_zero, List.set_cons_succ]
        refine wpAnyH_ready (rs := [17]) (by kernel_rfl) (by simp) ?_
        refine AllReadyH.cons (o := ?on423) ?hin423 ?restn423 AllReadyH.nil
        case hin423 => (simp only [List.getElem?_toArray, List.getElem?_cons_succ, List.getElem?_cons_zero]; exact rfl)
        intro K hK
        go_simp
        refine hK.out _ _ ?_ (fun hHeld => ?_)
        · (try dsimp only); first | with_reducible assumption | exact Grew.alloc ‹_› _
        clear hK K
        try simp only [Act.put, List.setIfInBounds_toArray, List.set_cons_zero, List.set_cons_succ]
        refine wpAnyH_ready (rs := [18]) (by kernel_rfl) (by simp) ?_
        refine AllReadyH.cons (o := ?on424) ?hin424 ?restn424 AllReadyH.nil
        case hin424 => (simp only [List.getElem?_toArray, List.getElem?_cons_succ, List.getElem?_cons_zero]; exact rfl)
        intro K hK
        go_simp
        go_at_call 57
        refine (KW1.out _ (by repeat (first | with_reducible assumption | with_reducible refine Grew.alloc ?_ _ | with_reducible refine Grew.drew ?_ | with_reducible refine Grew.drewN ?_ _)) _ (strs_at1 (by simp) (by simp))).mono ?_
        rintro e z1 ⟨zu1, rfl, zo1, zg1⟩
        have gz1 : Grew w z1 := Grew.trans (by repeat (first | with_reducible assumption | with_reducible refine Grew.alloc ?_ _ | with_reducible refine Grew.drew ?_ | with_reducible refine Grew.drewN ?_ _)) zg1
        have mz1 : Grew w1 z1 := Grew.trans (by repeat (first | with_reducible assumption | with_reducible refine Grew.alloc ?_ _ | with_reducible refine Grew.drew ?_ | with_reducible refine Grew.drewN ?_ _)) zg1
        have zs1 := Lib.hid zo1
        obtain ⟨ZA1, zc1, rfl⟩ := strs_slice zo1
        clear zo1
        refine hK.out _ _ ?_ (fun hHeld => ?_)
        · (try dsimp only); first | with_reducible assumption | exact Grew.alloc ‹_› _
        clear hK K
        try simp only [Act.put, List.setIfInBounds_toArray, List.set_cons_zero, List.set_cons_succ]
        refine wpAnyH_ready (rs := [20]) (by kernel_rfl) (by simp) ?_
        refine AllReadyH.cons (o := ?on425) ?hin425 ?restn425 AllReadyH.nil
        case hin425 => (simp only [List.getElem?_toArray, List.getElem?_cons_succ, List.getElem?_cons_zero]; exact rfl)
        intro K hK
        go_simp
        go_at_call 56
        refine (KN1.out _ (by repeat (first | with_reducible assumption | with_reducible refine Grew.alloc ?_ _ | with_reducible refine Grew.drew ?_ | with_reducible refine Grew.drewN ?_ _)) _ zs1.out).mono ?_
        rintro e v1 ⟨rfl, vg1⟩
        have gv1 : Grew w v1 := Grew.trans (by repeat (first | with_reducible assumption | with_reducible refine Grew.alloc ?_ _ | with_reducible refine Grew.drew ?_ | with_reducible refine Grew.drewN ?_ _)) vg1
        have mv1 : Grew w1 v1 := Grew.trans (by repeat (first | with_reducible assumption | with_reducible refine Grew.alloc ?_ _ | with_reducible refine Grew.drew ?_ | with_reducible refine Grew.drewN ?_ _)) vg1
        refine hK.out _ _ ?_ (fun hHeld => ?_)
        · (try dsimp only); first | with_reducible assumption | exact Grew.alloc ‹_› _
        clear hK K
        try simp only [Act.put, List.setIfInBounds_toArray, List.set_cons_zero, List.set_cons_succ]
        refine wpAnyH_take (i := 21) (oi := ?on426) (v := ?vn426) ?hin426 ?an426 ?bn426 ?cn426 ?qn426 (Or.inl ⟨?dn426, ?hyn426⟩) hHeld ?restn426
        case hin426 => (simp only [List.getElem?_toArray, List.getElem?_cons_succ, List.getElem?_cons_zero]; exact rfl)
        case an426 => kernel_rfl
        case bn426 => kernel_rfl
        case cn426 => kernel_rfl
        case qn426 => exact fun _ _ _ h => h
        case dn426 => rfl
        case hyn426 => (intro z hSw; (try dsimp only at hSw); go_simp; (try with_reducible rfl))
        try simp only [Act.put, List.setIfInBounds_toArray, List.set_cons_zero, List.set_cons_succ]
        refine wpAnyH_take (i := 22) (oi := ?on427) (v := ?vn427) ?hin427 ?an427 ?bn427 ?cn427 ?qn427 (Or.inl ⟨?dn427, ?hyn427⟩) hHeld ?restn427
        case hin427 => (simp only [List.getElem?_toArray, List.getElem?_cons_succ, List.getElem?_cons_zero]; exact rfl)
        case an427 => kernel_rfl
        case bn427 => kernel_rfl
        case cn427 => kernel_rfl
        case qn427 => exact fun _ _ _ h => h
        case dn427 => rfl
        case hyn427 => (intro z hSw; (try dsimp only at hSw); go_simp; (try with_reducible rfl))
        try simp only [Act.put, List.setIfInBounds_toArray, List.set_cons_zero, List.set_cons_succ]
        refine wpAnyH_done (by kernel_rfl) ?_ _
        go_wp2_with fail
        go_ret
        exact ⟨rfl, (by repeat (first | with_reducible assumption | with_reducible refine Grew.alloc ?_ _ | with_reducible refine Grew.drew ?_ | with_reducible refine Grew.drewN ?_ _))⟩
      · rw [dcd_false (fun h => h2 (h.2.2))]
        rw [dcd_false h2] at KN1
        replace KN0 := Lib.hid KN0
        replace KN1 := Lib.hid KN1
        replace hwb := hwb.symm
        clear h0 h1 h2
        go_enter Tryz.func43, Tryz.ntmps43
        go_wp2_with fail
        rw [← hwb]
        clear hwb
        go_quiet (fail)
        go_wp2_with fail
        refine (KP.out _).mono ?_
        rintro e w1 ⟨v1, rfl, ho1, hg1'⟩
        obtain ⟨A1, n1, rfl⟩ := nodes_slice ho1.nodes
        clear ho1
        have hg1 : Grew wb w1 := Grew.trans (by repeat (first | with_reducible assumption | with_reducible refine Grew.alloc ?_ _ | with_reducible refine Grew.drew ?_ | with_reducible refine Grew.drewN ?_ _)) hg1'
        have g1 := hal.trans hg1
        have r1 := Grew.refl w1
        have d1 := r1.drew
        have gd := g1.trans d1
        have e0 := fun W (hW : Grew w1 W) => f0 W (hg1.trans hW)
        have e2 := fun W (hW : Grew w1 W) => f2 W (hg1.trans hW)
        have e3 := fun W (hW : Grew w1 W) => f3 W (hg1.trans hW)
        have e4 := fun W (hW : Grew w1 W) => f4 W (hg1.trans hW)
        have p0a := fun W (hW : Grew w1 W) => q0a W (g1.trans hW)
        have p0b := fun W (hW : Grew w1 W) => q0b W (g1.trans hW)
        have p0c := fun W (hW : Grew w1 W) => q0c W (g1.trans hW)
        have p0d := fun W (hW : Grew w1 W) => q0d W (g1.trans hW)
        have p0e := fun W (hW : Grew w1 W) => q0e W (g1.trans hW)
        have p1a := fun W (hW : Grew w1 W) => q1a W (g1.trans hW)
        have p1b := fun W (hW : Grew w1 W) => q1b W (g1.trans hW)
        have p1c := fun W (hW : Grew w1 W) => q1c W (g1.trans hW)
        have p1d := fun W (hW : Grew w1 W) => q1d W (g1.trans hW)
        have p1e := fun W (hW : Grew w1 W) => q1e W (g1.trans hW)
        clear f0 f2 f3 f4 q0a q0b q0c q0d q0e q1a q1b q1c q1d q1e
        go_wp2_with fail
        refine wp_region_held_drew (S := fun w' => Grew w1 w') (by kernel_rfl) d1 (fun hHeld => ?_)
        refine wpAnyH_take (i := 0) (oi := ?on428) (v := ?vn428) ?hin428 ?an428 ?bn428 ?cn428 ?qn428 (Or.inl ⟨?dn428, ?hyn428⟩) hHeld ?restn428
        case hin428 => (simp only [List.getElem?_toArray, List.getElem?_cons_zero]; exact rfl)
        case an428 => kernel_rfl
        case bn428 => kernel_rfl
        case cn428 => kernel_rfl
        case qn428 => exact fun _ _ _ h => h
        case dn428 => rfl
        case hyn428 => (intro z hSw; (try dsimp only at hSw); go_simp; (try with_reducible rfl))
        try simp only [Act.put, List.setIfInBounds_toArray, List.set_cons_zero, List.set_cons_succ]
        refine wpAnyH_take (i := 1) (oi := ?on429) (v := ?vn429) ?hin429 ?an429 ?bn429 ?cn429 ?qn429 (Or.inl ⟨?dn429, ?hyn429⟩) hHeld ?restn429
        case hin429 => (simp only [List.getElem?_toArray, List.getElem?_cons_succ, List.getElem?_cons_zero]; exact rfl)
        case an429 => kernel_rfl
        case bn429 => kernel_rfl
        case cn429 => kernel_rfl
        case qn429 => exact fun _ _ _ h => h
        case dn429 => rfl
        case hyn429 => (intro z hSw; (try dsimp only at hSw); go_simp; (try with_reducible rfl))
        try simp only [Act.put, List.setIfInBounds_toArray, List.set_cons_zero, List.set_cons_succ]
        refine wpAnyH_take (i := 2) (oi := ?on430) (v := ?vn430) ?hin430 ?an430 ?bn430 ?cn430 ?qn430 (Or.inl ⟨?dn430, ?hyn430⟩) hHeld ?restn430
        case hin430 => (simp only [List.getElem?_toArray, List.getElem?_cons_succ, List.getElem?_cons_zero]; exact rfl)
        case an430 => kernel_rfl
        case bn430 => kernel_rfl
        case cn430 => kernel_rfl
        case qn430 => exact fun _ _ _ h => h
        case dn430 => rfl
        case hyn430 => (intro z hSw; (try dsimp only at hSw); go_simp; (try with_reducible rfl))
        try simp only [Act.put, List.setIfInBounds_toArray, List.set_cons_zero, List.set_cons_succ]
        refine wpAnyH_take (i := 3) (oi := ?on431) (v := ?vn431) ?hin431 ?an431 ?bn431 ?cn431 ?qn431 (Or.inl ⟨?dn431, ?hyn431⟩) hHeld ?restn431
        case hin431 => (simp only [List.getElem?_toArray, List.getElem?_cons_succ, List.getElem?_cons_zero]; exact rfl)
        case an431 => kernel_rfl
        case bn431 => kernel_rfl
        case cn431 => kernel_rfl
        case qn431 => exact fun _ _ _ h => h
        case dn431 => rfl
        case hyn431 => (intro z hSw; (try dsimp only at hSw); go_simp; (try with_reducible rfl))
        try simp only [Act.put, List.setIfInBounds_toArray, List.set_cons_zero, List.set_cons_succ]
        refine wpAnyH_take (i := 4) (oi := ?on432) (v := ?vn432) ?hin432 ?an432 ?bn432 ?cn432 ?qn432 (Or.inl ⟨?dn432, ?hyn432⟩) hHeld ?restn432
        case hin432 => (simp only [List.getElem?_toArray, List.getElem?_cons_succ, List.getElem?_cons_zero]; exact rfl)
        case an432 => kernel_rfl
        case bn432 => kernel_rfl
        case cn432 => kernel_rfl
        case qn432 => exact fun _ _ _ h => h
        case dn432 => rfl
        case hyn432 => (intro z hSw; (try dsimp only at hSw); go_simp; (try with_reducible rfl))
        try simp only [Act.put, List.setIfInBounds_toArray, List.set_cons_zero, List.set_cons_succ]
        refine wpAnyH_take (i := 5) (oi := ?on433) (v := ?vn433) ?hin433 ?an433 ?bn433 ?cn433 ?qn433 (Or.inl ⟨?dn433, ?hyn433⟩) hHeld ?restn433
        case hin433 => (simp only [List.getElem?_toArray, List.getElem?_cons_succ, List.getElem?_cons_zero]; exact rfl)
        case an433 => kernel_rfl
        case bn433 => kernel_rfl
        case cn433 => kernel_rfl
        case qn433 => exact fun _ _ _ h => h
        case dn433 => rfl
        case hyn433 => (intro z hSw; (try dsimp only at hSw); go_simp; (try with_reducible rfl))
        try simp only [Act.put, List.setIfInBounds_toArray, List.set_cons_zero, List.set_cons_succ]
        refine wpAnyH_take (i := 6) (oi := ?on434) (v := ?vn434) ?hin434 ?an434 ?bn434 ?cn434 ?qn434 (Or.inl ⟨?dn434, ?hyn434⟩) hHeld ?restn434
        case hin434 => (simp only [List.getElem?_toArray, List.getElem?_cons_succ, List.getElem?_cons_zero]; exact rfl)
        case an434 => kernel_rfl
        case bn434 => kernel_rfl
        case cn434 => kernel_rfl
        case qn434 => exact fun _ _ _ h => h
        case dn434 => rfl
        case hyn434 => (intro z hSw; (try dsimp only at hSw); go_simp; (try with_reducible rfl))
        try simp only [Act.put, List.setIfInBounds_toArray, List.set_cons_zero, List.set_cons_succ]
        refine wpAnyH_take (i := 7) (oi := ?on435) (v := ?vn435) ?hin435 ?an435 ?bn435 ?cn435 ?qn435 (Or.inl ⟨?dn435, ?hyn435⟩) hHeld ?restn435
        case hin435 => (simp only [List.getElem?_toArray, List.getElem?_cons_succ, List.getElem?_cons_zero]; exact rfl)
        case an435 => kernel_rfl
        case bn435 => kernel_rfl
        case cn435 => kernel_rfl
        case qn435 => exact fun _ _ _ h => h
        case dn435 => rfl
        case hyn435 => (intro z hSw; (try dsimp only at hSw); go_simp; (try with_reducible rfl))
        try simp only [Act.put, List.setIfInBounds_toArray, List.set_cons_zero, List.set_cons_succ]
        refine wpAnyH_ready (rs := [8]) (by kernel_rfl) (by simp) ?_
        refine AllReadyH.cons (o := ?on436) ?hin436 ?restn436 AllReadyH.nil
        case hin436 => (simp only [List.getElem?_toArray, List.getElem?_cons_succ, List.getElem?_cons_zero]; exact rfl)
        intro K hK
        go_simp
        go_at_call 56
        refine (KN0.out _ (by repeat (first | with_reducible assumption | with_reducible refine Grew.alloc ?_ _ | with_reducible refine Grew.drew ?_ | with_reducible refine Grew.drewN ?_ _)) _ (HSA.out _ (by repeat (first | with_reducible assumption | with_reducible refine Grew.alloc ?_ _ | with_reducible refine Grew.drew ?_ | with_reducible refine Grew.drewN ?_ _)))).mono ?_
        rintro e v0 ⟨rfl, vg0⟩
        have gv0 : Grew w v0 := Grew.trans (by repeat (first | with_reducible assumption | with_reducible refine Grew.alloc ?_ _ | with_reducible refine Grew.drew ?_ | with_reducible refine Grew.drewN ?_ _)) vg0
        have mv0 : Grew w1 v0 := Grew.trans (by repeat (first | with_reducible assumption | with_reducible refine Grew.alloc ?_ _ | with_reducible refine Grew.drew ?_ | with_reducible refine Grew.drewN ?_ _)) vg0
        refine hK.out _ _ ?_ (fun hHeld => ?_)
        · (try dsimp only); first | with_reducible assumption | exact Grew.alloc ‹_› _
        clear hK K
        try simp only [Act.put, List.setIfInBounds_toArray, List.set_cons_zero, List.set_cons_succ]
        refine wpAnyH_take (i := 9) (oi := ?on437) (v := ?vn437) ?hin437 ?an437 ?bn437 ?cn437 ?qn437 (Or.inl ⟨?dn437, ?hyn437⟩) hHeld ?restn437
        case hin437 => (simp only [List.getElem?_toArray, List.getElem?_cons_succ, List.getElem?_cons_zero]; exact rfl)
        case an437 => kernel_rfl
        case bn437 => kernel_rfl
        case cn437 => kernel_rfl
        case qn437 => exact fun _ _ _ h => h
        case dn437 => rfl
        case hyn437 => (intro z hSw; (try dsimp only at hSw); go_simp; (try with_reducible rfl))
        try simp only [Act.put, List.setIfInBounds_toArray, List.set_cons_zero, List.set_cons_succ]
        refine wpAnyH_take (i := 10) (oi := ?on438) (v := ?vn438) ?hin438 ?an438 ?bn438 ?cn438 ?qn438 (Or.inl ⟨?dn438, ?hyn438⟩) hHeld ?restn438
        case hin438 => (simp only [List.getElem?_toArray, List.getElem?_cons_succ, List.getElem?_cons_zero]; exact rfl)
        case an438 => kernel_rfl
        case bn438 => kernel_rfl
        case cn438 => kernel_rfl
        case qn438 => exact fun _ _ _ h => h
        case dn438 => rfl
        case hyn438 => (intro z hSw; (try dsimp only at hSw); go_simp; (try with_reducible rfl))
        try simp only [Act.put, List.setIfInBounds_toArray, List.set_cons_zero, List.set_cons_succ]
        refine wpAnyH_take (i := 11) (oi := ?on439) (v := ?vn439) ?hin439 ?an439 ?bn439 ?cn439 ?qn439 (Or.inl ⟨?dn439, ?hyn439⟩) hHeld ?restn439
        case hin439 => (simp only [List.getElem?_toArray, List.getElem?_cons_succ, List.getElem?_cons_zero]; exact rfl)
        case an439 => kernel_rfl
        case bn439 => kernel_rfl
        case cn439 => kernel_rfl
        case qn439 => exact fun _ _ _ h => h
        case dn439 => rfl
        case hyn439 => (intro z hSw; (try dsimp only at hSw); go_simp; (try with_reducible rfl))
        try simp only [Act.put, List.setIfInBounds_toArray, List.set_cons_zero, List.set_cons_succ]
        refine wpAnyH_take (i := 12) (oi := ?on440) (v := ?vn440) ?hin440 ?an440 ?bn440 ?cn440 ?qn440 (Or.inl ⟨?dn440, ?hyn440⟩) hHeld ?restn440
        case hin440 => (simp only [List.getElem?_toArray, List.getElem?_cons_succ, List.getElem?_cons_zero]; exact rfl)
        case an440 => kernel_rfl
        case bn440 => kernel_rfl
        case cn440 => kernel_rfl
        case qn440 => exact fun _ _ _ h => h
        case dn440 => rfl
        case hyn440 => (intro z hSw; (try dsimp only at hSw); go_simp; (try with_reducible rfl))
        try simp only [Act.put, List.setIfInBounds_toArray, List.set_cons_zero, List.set_cons_succ]
        refine wpAnyH_take (i := 13) (oi := ?on441) (v := ?vn441) ?hin441 ?an441 ?bn441 ?cn441 ?qn441 (Or.inl ⟨?dn441, ?hyn441⟩) hHeld ?restn441
        case hin441 => (simp only [List.getElem?_toArray, List.getElem?_cons_succ, List.getElem?_cons_zero]; exact rfl)
        case an441 => kernel_rfl
        case bn441 => kernel_rfl
        case cn441 => kernel_rfl
        case qn441 => exact fun _ _ _ h => h
        case dn441 => rfl
        case hyn441 => (intro z hSw; (try dsimp only at hSw); go_simp; (try with_reducible rfl))
        try simp only [Act.put, List.setIfInBounds_toArray, List.set_cons_zero, List.set_cons_succ]
        refine wpAnyH_take (i := 14) (oi := ?on442) (v := ?vn442) ?hin442 ?an442 ?bn442 ?cn442 ?qn442 (Or.inl ⟨?dn442, ?hyn442⟩) hHeld ?restn442
        case hin442 => (simp only [List.getElem?_toArray, List.getElem?_cons_succ, List.getElem?_cons_zero]; exact rfl)
        case an442 => kernel_rfl
        case bn442 => kernel_rfl
        case cn442 => kernel_rfl
        case qn442 => exact fun _ _ _ h => h
        case dn442 => rfl
        case hyn442 => (intro z hSw; (try dsimp only at hSw); go_simp; (try with_reducible rfl))
        try simp only [Act.put, List.setIfInBounds_toArray, List.set_cons_zero, List.set_cons_succ]
        refine wpAnyH_take (i := 15) (oi := ?on443) (v := ?vn443) ?hin443 ?an443 ?bn443 ?cn443 ?qn443 (Or.inl ⟨?dn443, ?hyn443⟩) hHeld ?restn443
        case hin443 => (simp only [List.getElem?_toArray, List.getElem?_cons_succ, List.getElem?_cons_zero]; exact rfl)
        case an443 => kernel_rfl
        case bn443 => kernel_rfl
        case cn443 => kernel_rfl
        case qn443 => exact fun _ _ _ h => h
        case dn443 => rfl
        case hyn443 => (intro z hSw; (try dsimp only at hSw); go_simp; (try with_reducible rfl))
        try simp only [Act.put, List.setIfInBounds_toArray, List.set_cons_zero, List.set_cons_succ]
        refine wpAnyH_take (i := 16) (oi := ?on444) (v := ?vn444) ?hin444 ?an444 ?bn444 ?cn444 ?qn444 (Or.inl ⟨?dn444, ?hyn444⟩) hHeld ?restn444
        case hin444 => (simp only [List.getElem?_toArray, List.getElem?_cons_succ, List.getElem?_cons_zero]; exact rfl)
        case an444 => kernel_rfl
        case bn444 => kernel_rfl
        case cn444 => kernel_rfl
        case qn444 => exact fun _ _ _ h => h
        case dn444 => rfl
        case hyn444 => (intro z hSw; (try dsimp only at hSw); go_simp; (try with_reducible rfl))
        try simp only [Act.put, List.setIfInBounds_toArray, List.set_cons_zero, List.set_cons_succ]
        refine wpAnyH_take (i := 19) (oi := ?on445) (v := ?vn445) ?hin445 ?an445 ?bn445 ?cn445 ?qn445 (Or.inl ⟨?dn445, ?hyn445⟩) hHeld ?restn445
        case hin445 => (simp only [List.getElem?_toArray, List.getElem?_cons_succ, List.getElem?_cons_zero]; exact rfl)
        case an445 => kernel_rfl
        case bn445 => kernel_rfl
        case cn445 => kernel_rfl
        case qn445 => exact fun _ _ _ h => h
        case dn445 => rfl
        case hyn445 => (intro z hSw; (try dsimp only at hSw); go_simp; (try with_reducible rfl))
        try simp only [Act.put, List.setIfInBounds_toArray, List.set_cons_zero, List.set_cons_succ]
        refine wpAnyH_ready (rs := [17]) (by kernel_rfl) (by simp) ?_
        refine AllReadyH.cons (o := ?on446) ?hin446 ?restn446 AllReadyH.nil
        case hin446 => (simp only [List.getElem?_toArray, List.getElem?_cons_succ, List.getElem?_cons_zero]; exact rfl)
        intro K hK
        go_simp
        refine hK.out _ _ ?_ (fun hHeld => ?_)
        · (try dsimp only); first | with_reducible assumption | exact Grew.alloc ‹_› _
        clear hK K
        try simp only [Act.put, List.setIfInBounds_toArray, List.set_cons_zero, List.set_cons_succ]
        refine wpAnyH_ready (rs := [18]) (by kernel_rfl) (by simp) ?_
        refine AllReadyH.cons (o := ?on447) ?hin447 ?restn447 AllReadyH.nil
        case hin447 => (simp only [List.getElem?_toArray, List.getElem?_cons_succ, List.getElem?_cons_zero]; exact rfl)
        intro K hK
        go_simp
        go_at_call 57
        refine (KW1.out _ (by repeat (first | with_reducible assumption | with_reducible refine Grew.alloc ?_ _ | with_reducible refine Grew.drew ?_ | with_reducible refine Grew.drewN ?_ _)) _ (strs_at1 (by simp) (by simp))).mono ?_
        rintro e z1 ⟨zu1, rfl, zo1, zg1⟩
        have gz1 : Grew w z1 := Grew.trans (by repeat (first | with_reducible assumption | with_reducible refine Grew.alloc ?_ _ | with_reducible refine Grew.drew ?_ | with_reducible refine Grew.drewN ?_ _)) zg1
        have mz1 : Grew w1 z1 := Grew.trans (by repeat (first | with_reducible assumption | with_reducible refine Grew.alloc ?_ _ | with_reducible refine Grew.drew ?_ | with_reducible refine Grew.drewN ?_ _)) zg1
        have zs1 := Lib.hid zo1
        obtain ⟨ZA1, zc1, rfl⟩ := strs_slice zo1
        clear zo1
        refine hK.out _ _ ?_ (fun hHeld => ?_)
        · (try dsimp only); first | with_reducible assumption | exact Grew.alloc ‹_› _
        clear hK K
        try simp only [Act.put, List.setIfInBounds_toArray, List.set_cons_zero, List.set_cons_succ]
        refine wpAnyH_ready (rs := [20]) (by kernel_rfl) (by simp) ?_
        refine AllReadyH.cons (o := ?on448) ?hin448 ?restn448 AllReadyH.nil
        case hin448 => (simp only [List.getElem?_toArray, List.getElem?_cons_succ, List.getElem?_cons_zero]; exact rfl)
        intro K hK
        go_simp
        go_at_call 56
        refine (KN1.out _ (by repeat (first | with_reducible assumption | with_reducible refine Grew.alloc ?_ _ | with_reducible refine Grew.drew ?_ | with_reducible refine Grew.drewN ?_ _)) _ zs1.out).mono ?_
        rintro e v1 ⟨rfl, vg1⟩
        have gv1 : Grew w v1 := Grew.trans (by repeat (first | with_reducible assumption | with_reducible refine Grew.alloc ?_ _ | with_reducible refine Grew.drew ?_ | with_reducible refine Grew.drewN ?_ _)) vg1
        have mv1 : Grew w1 v1 := Grew.trans (by repeat (first | with_reducible assumption | with_reducible refine Grew.alloc ?_ _ | with_reducible refine Grew.drew ?_ | with_reducible refine Grew.drewN ?_ _)) vg1
        refine hK.out _ _ ?_ (fun hHeld => ?_)
        · (try dsimp only); first | with_reducible assumption | exact Grew.alloc ‹_› _
        clear hK K
        try simp only [Act.put, List.setIfInBounds_toArray, List.set_cons_zero, List.set_cons_succ]
        refine wpAnyH_take (i := 21) (oi := ?on449) (v := ?vn449) ?hin449 ?an449 ?bn449 ?cn449 ?qn449 (Or.inl ⟨?dn449, ?hyn449⟩) hHeld ?restn449
        case hin449 => (simp only [List.getElem?_toArray, List.getElem?_cons_succ, List.getElem?_cons_zero]; exact rfl)
        case an449 => kernel_rfl
        case bn449 => kernel_rfl
        case cn449 => kernel_rfl
        case qn449 => exact fun _ _ _ h => h
        case dn449 => rfl
        case hyn449 => (intro z hSw; (try dsimp only at hSw); go_simp; (try with_reducible rfl))
        try simp only [Act.put, List.setIfInBounds_toArray, List.set_cons_zero, List.set_cons_succ]
        refine wpAnyH_take (i := 22) (oi := ?on450) (v := ?vn450) ?hin450 ?an450 ?bn450 ?cn450 ?qn450 (Or.inl ⟨?dn450, ?hyn450⟩) hHeld ?restn450
        case hin450 => (simp only [List.getElem?_toArray, List.getElem?_cons_succ, List.getElem?_cons_zero]; exact rfl)
        case an450 => kernel_rfl
        case bn450 => kernel_rfl
        case cn450 => kernel_rfl
        case qn450 => exact fun _ _ _ h => h
        case dn450 => rfl
        case hyn450 => (intro z hSw; (try dsimp only at hSw); go_simp; (try with_reducible rfl))
        try simp only [Act.put, List.setIfInBounds_toArray, List.set_cons_zero, List.set_cons_succ]
        refine wpAnyH_done (by kernel_rfl) ?_ _
        go_wp2_with fail
        go_ret
        exact ⟨rfl, (by repeat (first | with_reducible assumption | with_reducible refine Grew.alloc ?_ _ | with_reducible refine Grew.drew ?_ | with_reducible refine Grew.drewN ?_ _))⟩
    · rw [dcd_false (fun h => h1 (h.2.1))]
      rw [dcd_false h1] at KN0
      replace KN0 := Lib.hid KN0
      replace KN1 := Lib.hid KN1
      replace hwb := hwb.symm
      clear h0 h1
      go_enter Tryz.func43, Tryz.ntmps43
      go_wp2_with fail
      rw [← hwb]
      clear hwb
      go_quiet (fail)
      go_wp2_with fail
      refine (KP.out _).mono ?_
      rintro e w1 ⟨v1, rfl, ho1, hg1'⟩
      obtain ⟨A1, n1, rfl⟩ := nodes_slice ho1.nodes
      clear ho1
      have hg1 : Grew wb w1 := Grew.trans (by repeat (first | with_reducible assumption | with_reducible refine Grew.alloc ?_ _ | with_reducible refine Grew.drew ?_ | with_reducible refine Grew.drewN ?_ _)) hg1'
      have g1 := hal.trans hg1
      have r1 := Grew.refl w1
      have d1 := r1.drew
      have gd := g1.trans d1
      have e0 := fun W (hW : Grew w1 W) => f0 W (hg1.trans hW)
      have e2 := fun W (hW : Grew w1 W) => f2 W (hg1.trans hW)
      have e3 := fun W (hW : Grew w1 W) => f3 W (hg1.trans hW)
      have e4 := fun W (hW : Grew w1 W) => f4 W (hg1.trans hW)
      have p0a := fun W (hW : Grew w1 W) => q0a W (g1.trans hW)
      have p0b := fun W (hW : Grew w1 W) => q0b W (g1.trans hW)
      have p0c := fun W (hW : Grew w1 W) => q0c W (g1.trans hW)
      have p0d := fun W (hW : Grew w1 W) => q0d W (g1.trans hW)
      have p0e := fun W (hW : Grew w1 W) => q0e W (g1.trans hW)
      have p1a := fun W (hW : Grew w1 W) => q1a W (g1.trans hW)
      have p1b := fun W (hW : Grew w1 W) => q1b W (g1.trans hW)
      have p1c := fun W (hW : Grew w1 W) => q1c W (g1.trans hW)
      have p1d := fun W (hW : Grew w1 W) => q1d W (g1.trans hW)
      have p1e := fun W (hW : Grew w1 W) => q1e W (g1.trans hW)
      clear f0 f2 f3 f4 q0a q0b q0c q0d q0e q1a q1b q1c q1d q1e
      go_wp2_with fail
      refine wp_region_held_drew (S := fun w' => Grew w1 w') (by kernel_rfl) d1 (fun hHeld => ?_)
      refine wpAnyH_take (i := 0) (oi := ?on451) (v := ?vn451) ?hin451 ?an451 ?bn451 ?cn451 ?qn451 (Or.inl ⟨?dn451, ?hyn451⟩) hHeld ?restn451
      case hin451 => (simp only [List.getElem?_toArray, List.getElem?_cons_zero]; exact rfl)
      case an451 => kernel_rfl
      case bn451 => kernel_rfl
      case cn451 => kernel_rfl
      case qn451 => exact fun _ _ _ h => h
      case dn451 => rfl
      case hyn451 => (intro z hSw; (try dsimp only at hSw); go_simp; (try with_reducible rfl))
      try simp only [Act.put, List.setIfInBounds_toArray, List.set_cons_zero, List.set_cons_succ]
      refine wpAnyH_take (i := 1) (oi := ?on452) (v := ?vn452) ?hin452 ?an452 ?bn452 ?cn452 ?qn452 (Or.inl ⟨?dn452, ?hyn452⟩) hHeld ?restn452
      case hin452 => (simp only [List.getElem?_toArray, List.getElem?_cons_succ, List.getElem?_cons_zero]; exact rfl)
      case an452 => kernel_rfl
      case bn452 => kernel_rfl
      case cn452 => kernel_rfl
      case qn452 => exact fun _ _ _ h => h
      case dn452 => rfl
      case hyn452 => (intro z hSw; (try dsimp only at hSw); go_simp; (try with_reducible rfl))
      try simp only [Act.put, List.setIfInBounds_toArray, List.set_cons_zero, List.set_cons_succ]
      refine wpAnyH_take (i := 2) (oi := ?on453) (v := ?vn453) ?hin453 ?an453 ?bn453 ?cn453 ?qn453 (Or.inl ⟨?dn453, ?hyn453⟩) hHeld ?restn453
      case hin453 => (simp only [List.getElem?_toArray, List.getElem?_cons_succ, List.getElem?_cons_zero]; exact rfl)
      case an453 => kernel_rfl
      case bn453 => kernel_rfl
      case cn453 => kernel_rfl
      case qn453 => exact fun _ _ _ h => h
      case dn453 => rfl
      case hyn453 => (intro z hSw; (try dsimp only at hSw); go_simp; (try with_reducible rfl))
      try simp only [Act.put, List.setIfInBounds_toArray, List.set_cons_zero, List.set_cons_succ]
      refine wpAnyH_take (i := 3) (oi := ?on454) (v := ?vn454) ?hin454 ?an454 ?bn454 ?cn454 ?qn454 (Or.inl ⟨?dn454, ?hyn454⟩) hHeld ?restn454
      case hin454 => (simp only [List.getElem?_toArray, List.getElem?_cons_succ, List.getElem?_cons_zero]; exact rfl)
      case an454 => kernel_rfl
      case bn454 => kernel_rfl
      case cn454 => kernel_rfl
      case qn454 => exact fun _ _ _ h => h
      case dn454 => rfl
      case hyn454 => (intro z hSw; (try dsimp only at hSw); go_simp; (try with_reducible rfl))
      try simp only [Act.put, List.setIfInBounds_toArray, List.set_cons_zero, List.set_cons_succ]
      refine wpAnyH_take (i := 4) (oi := ?on455) (v := ?vn455) ?hin455 ?an455 ?bn455 ?cn455 ?qn455 (Or.inl ⟨?dn455, ?hyn455⟩) hHeld ?restn455
      case hin455 => (simp only [List.getElem?_toArray, List.getElem?_cons_succ, List.getElem?_cons_zero]; exact rfl)
      case an455 => kernel_rfl
      case bn455 => kernel_rfl
      case cn455 => kernel_rfl
      case qn455 => exact fun _ _ _ h => h
      case dn455 => rfl
      case hyn455 => (intro z hSw; (try dsimp only at hSw); go_simp; (try with_reducible rfl))
      try simp only [Act.put, List.setIfInBounds_toArray, List.set_cons_zero, List.set_cons_succ]
      refine wpAnyH_take (i := 5) (oi := ?on456) (v := ?vn456) ?hin456 ?an456 ?bn456 ?cn456 ?qn456 (Or.inl ⟨?dn456, ?hyn456⟩) hHeld ?restn456
      case hin456 => (simp only [List.getElem?_toArray, List.getElem?_cons_succ, List.getElem?_cons_zero]; exact rfl)
      case an456 => kernel_rfl
      case bn456 => kernel_rfl
      case cn456 => kernel_rfl
      case qn456 => exact fun _ _ _ h => h
      case dn456 => rfl
      case hyn456 => (intro z hSw; (try dsimp only at hSw); go_simp; (try with_reducible rfl))
      try simp only [Act.put, List.setIfInBounds_toArray, List.set_cons_zero, List.set_cons_succ]
      refine wpAnyH_take (i := 6) (oi := ?on457) (v := ?vn457) ?hin457 ?an457 ?bn457 ?cn457 ?qn457 (Or.inl ⟨?dn457, ?hyn457⟩) hHeld ?restn457
      case hin457 => (simp only [List.getElem?_toArray, List.getElem?_cons_succ, List.getElem?_cons_zero]; exact rfl)
      case an457 => kernel_rfl
      case bn457 => kernel_rfl
      case cn457 => kernel_rfl
      case qn457 => exact fun _ _ _ h => h
      case dn457 => rfl
      case hyn457 => (intro z hSw; (try dsimp only at hSw); go_simp; (try with_reducible rfl))
      try simp only [Act.put, List.setIfInBounds_toArray, List.set_cons_zero, List.set_cons_succ]
      refine wpAnyH_take (i := 7) (oi := ?on458) (v := ?vn458) ?hin458 ?an458 ?bn458 ?cn458 ?qn458 (Or.inl ⟨?dn458, ?hyn458⟩) hHeld ?restn458
      case hin458 => (simp only [List.getElem?_toArray, List.getElem?_cons_succ, List.getElem?_cons_zero]; exact rfl)
      case an458 => kernel_rfl
      case bn458 => kernel_rfl
      case cn458 => kernel_rfl
      case qn458 => exact fun _ _ _ h => h
      case dn458 => rfl
      case hyn458 => (intro z hSw; (try dsimp only at hSw); go_simp; (try with_reducible rfl))
      try simp only [Act.put, List.setIfInBounds_toArray, List.set_cons_zero, List.set_cons_succ]
      refine wpAnyH_ready (rs := [8]) (by kernel_rfl) (by simp) ?_
      refine AllReadyH.cons (o := ?on459) ?hin459 ?restn459 AllReadyH.nil
      case hin459 => (simp only [List.getElem?_toArray, List.getElem?_cons_succ, List.getElem?_cons_zero]; exact rfl)
      intro K hK
      go_simp
      go_at_call 56
      refine (KN0.out _ (by repeat (first | with_reducible assumption | with_reducible refine Grew.alloc ?_ _ | with_reducible refine Grew.drew ?_ | with_reducible refine Grew.drewN ?_ _)) _ (HSA.out _ (by repeat (first | with_reducible assumption | with_reducible refine Grew.alloc ?_ _ | with_reducible refine Grew.drew ?_ | with_reducible refine Grew.drewN ?_ _)))).mono ?_
      rintro e v0 ⟨rfl, vg0⟩
      have gv0 : Grew w v0 := Grew.trans (by repeat (first | with_reducible assumption | with_reducible refine Grew.alloc ?_ _ | with_reducible refine Grew.drew ?_ | with_reducible refine Grew.drewN ?_ _)) vg0
      have mv0 : Grew w1 v0 := Grew.trans (by repeat (first | with_reducible assumption | with_reducible refine Grew.alloc ?_ _ | with_reducible refine Grew.drew ?_ | with_reducible refine Grew.drewN ?_ _)) vg0
      refine hK.out _ _ ?_ (fun hHeld => ?_)
      · (try dsimp only); first | with_reducible assumption | exact Grew.alloc ‹_› _
      clear hK K
      try simp only [Act.put, List.setIfInBounds_toArray, List.set_cons_zero, List.set_cons_succ]
      refine wpAnyH_take (i := 9) (oi := ?on460) (v := ?vn460) ?hin460 ?an460 ?bn460 ?cn460 ?qn460 (Or.inl ⟨?dn460, ?hyn460⟩) hHeld ?restn460
      case hin460 => (simp only [List.getElem?_toArray, List.getElem?_cons_succ, List.getElem?_cons_zero]; exact rfl)
      case an460 => kernel_rfl
      case bn460 => kernel_rfl
      case cn460 => kernel_rfl
      case qn460 => exact fun _ _ _ h => h
      case dn460 => rfl
      case hyn460 => (intro z hSw; (try dsimp only at hSw); go_simp; (try with_reducible rfl))
      try simp only [Act.put, List.setIfInBounds_toArray, List.set_cons_zero, List.set_cons_succ]
      refine wpAnyH_take (i := 10) (oi := ?on461) (v := ?vn461) ?hin461 ?an461 ?bn461 ?cn461 ?qn461 (Or.inl ⟨?dn461, ?hyn461⟩) hHeld ?restn461
      case hin461 => (simp only [List.getElem?_toArray, List.getElem?_cons_succ, List.getElem?_cons_zero]; exact rfl)
      case an461 => kernel_rfl
      case bn461 => kernel_rfl
      case cn461 => kernel_rfl
      case qn461 => exact fun _ _ _ h => h
      case dn461 => rfl
      case hyn461 => (intro z hSw; (try dsimp only at hSw); go_simp; (try with_reducible rfl))
      try simp only [Act.put, List.setIfInBounds_toArray, List.set_cons_zero, List.set_cons_succ]
      refine wpAnyH_take (i := 11) (oi := ?on462) ?hin462 ?an462 ?bn462 ?cn462 ?qn462 (Or.inr ⟨?dn462, rfl⟩) hHeld ?restn462
      case hin462 => (simp only [List.getElem?_toArray, List.getElem?_cons_succ, List.getElem?_cons_zero]; exact rfl)
      case an462 => kernel_rfl
      case bn462 => kernel_rfl
      case cn462 => kernel_rfl
      case qn462 => exact fun _ _ _ h => h
      case dn462 => rfl
      try simp only [Act.put, List.setIfInBounds_toArray, List.set_cons_zero, List.set_cons_succ]
      refine wpAnyH_take (i := 12) (oi := ?on463) ?hin463 ?an463 ?bn463 ?cn463 ?qn463 (Or.inr ⟨?dn463, rfl⟩) hHeld ?restn463
      case hin463 => (simp only [List.getElem?_toArray, List.getElem?_cons_succ, List.getElem?_cons_zero]; exact rfl)
      case an463 => kernel_rfl
      case bn463 => kernel_rfl
      case cn463 => kernel_rfl
      case qn463 => exact fun _ _ _ h => h
      case dn463 => rfl
      try simp only [Act.put, List.setIfInBounds_toArray, List.set_cons_zero, List.set_cons_succ]
      refine wpAnyH_take (i := 13) (oi := ?on464) ?hin464 ?an464 ?bn464 ?cn464 ?qn464 (Or.inr ⟨?dn464, rfl⟩) hHeld ?restn464
      case hin464 => (simp only [List.getElem?_toArray, List.getElem?_cons_succ, List.getElem?_cons_zero]; exact rfl)
      case an464 => kernel_rfl
      case bn464 => kernel_rfl
      case cn464 => kernel_rfl
      case qn464 => exact fun _ _ _ h => h
      case dn464 => rfl
      try simp only [Act.put, List.setIfInBounds_toArray, List.set_cons_zero, List.set_cons_succ]
      refine wpAnyH_take (i := 14) (oi := ?on465) ?hin465 ?an465 ?bn465 ?cn465 ?qn465 (Or.inr ⟨?dn465, rfl⟩) hHeld ?restn465
      case hin465 => (simp only [List.getElem?_toArray, List.getElem?_cons_succ, List.getElem?_cons_zero]; exact rfl)
      case an465 => kernel_rfl
      case bn465 => kernel_rfl
      case cn465 => kernel_rfl
      case qn465 => exact fun _ _ _ h => h
      case dn465 => rfl
      try simp only [Act.put, List.setIfInBounds_toArray, List.set_cons_zero, List.set_cons_succ]
      refine wpAnyH_take (i := 15) (oi := ?on466) ?hin466 ?an466 ?bn466 ?cn466 ?qn466 (Or.inr ⟨?dn466, rfl⟩) hHeld ?restn466
      case hin466 => (simp only [List.getElem?_toArray, List.getElem?_cons_succ, List.getElem?_cons_zero]; exact rfl)
      case an466 => kernel_rfl
      case bn466 => kernel_rfl
      case cn466 => kernel_rfl
      case qn466 => exact fun _ _ _ h => h
      case dn466 => rfl
      try simp only [Act.put, List.setIfInBounds_toArray, List.set_cons_zero, List.set_cons_succ]
      refine wpAnyH_take (i := 16) (oi := ?on467) ?hin467 ?an467 ?bn467 ?cn467 ?qn467 (Or.inr ⟨?dn467, rfl⟩) hHeld ?restn467
      case hin467 => (simp only [List.getElem?_toArray, List.getElem?_cons_succ, List.getElem?_cons_zero]; exact rfl)
      case an467 => kernel_rfl
      case bn467 => kernel_rfl
      case cn467 => kernel_rfl
      case qn467 => exact fun _ _ _ h => h
      case dn467 => rfl
      try simp only [Act.put, List.setIfInBounds_toArray, List.set_cons_zero, List.set_cons_succ]
      refine wpAnyH_take (i := 17) (oi := ?on468) ?hin468 ?an468 ?bn468 ?cn468 ?qn468 (Or.inr ⟨?dn468, rfl⟩) hHeld ?restn468
      case hin468 => (simp only [List.getElem?_toArray, List.getElem?_cons_succ, List.getElem?_cons_zero]; exact rfl)
      case an468 => kernel_rfl
      case bn468 => kernel_rfl
      case cn468 => kernel_rfl
      case qn468 => exact fun _ _ _ h => h
      case dn468 => rfl
      try simp only [Act.put, List.setIfInBounds_toArray, List.set_cons_zero, List.set_cons_succ]
      refine wpAnyH_take (i := 18) (oi := ?on469) ?hin469 ?an469 ?bn469 ?cn469 ?qn469 (Or.inr ⟨?dn469, rfl⟩) hHeld ?restn469
      case hin469 => (simp only [List.getElem?_toArray, List.getElem?_cons_succ, List.getElem?_cons_zero]; exact rfl)
      case an469 => kernel_rfl
      case bn469 => kernel_rfl
      case cn469 => kernel_rfl
      case qn469 => exact fun _ _ _ h => h
      case dn469 => rfl
      try simp only [Act.put, List.setIfInBounds_toArray, List.set_cons_zero, List.set_cons_succ]
      refine wpAnyH_take (i := 19) (oi := ?on470) ?hin470 ?an470 ?bn470 ?cn470 ?qn470 (Or.inr ⟨?dn470, rfl⟩) hHeld ?restn470
      case hin470 => (simp only [List.getElem?_toArray, List.getElem?_cons_succ, List.getElem?_cons_zero]; exact rfl)
      case an470 => kernel_rfl
      case bn470 => kernel_rfl
      case cn470 => kernel_rfl
      case qn470 => exact fun _ _ _ h => h
      case dn470 => rfl
      try simp only [Act.put, List.setIfInBounds_toArray, List.set_cons_zero, List.set_cons_succ]
      refine wpAnyH_take (i := 20) (oi := ?on471) ?hin471 ?an471 ?bn471 ?cn471 ?qn471 (Or.inr ⟨?dn471, rfl⟩) hHeld ?restn471
      case hin471 => (simp only [List.getElem?_toArray, List.getElem?_cons_succ, List.getElem?_cons_zero]; exact rfl)
      case an471 => kernel_rfl
      case bn471 => kernel_rfl
      case cn471 => kernel_rfl
      case qn471 => exact fun _ _ _ h => h
      case dn471 => rfl
      try simp only [Act.put, List.setIfInBounds_toArray, List.set_cons_zero, List.set_cons_succ]
      refine wpAnyH_take (i := 21) (oi := ?on472) (v := ?vn472) ?hin472 ?an472 ?bn472 ?cn472 ?qn472 (Or.inl ⟨?dn472, ?hyn472⟩) hHeld ?restn472
      case hin472 => (simp only [List.getElem?_toArray, List.getElem?_cons_succ, List.getElem?_cons_zero]; exact rfl)
      case an472 => kernel_rfl
      case bn472 => kernel_rfl
      case cn472 => kernel_rfl
      case qn472 => exact fun _ _ _ h => h
      case dn472 => rfl
      case hyn472 => (intro z hSw; (try dsimp only at hSw); go_simp; (try with_reducible rfl))
      try simp only [Act.put, List.setIfInBounds_toArray, List.set_cons_zero, List.set_cons_succ]
      refine wpAnyH_take (i := 22) (oi := ?on473) (v := ?vn473) ?hin473 ?an473 ?bn473 ?cn473 ?qn473 (Or.inl ⟨?dn473, ?hyn473⟩) hHeld ?restn473
      case hin473 => (simp only [List.getElem?_toArray, List.getElem?_cons_succ, List.getElem?_cons_zero]; exact rfl)
      case an473 => kernel_rfl
      case bn473 => kernel_rfl
      case cn473 => kernel_rfl
      case qn473 => exact fun _ _ _ h => h
      case dn473 => rfl
      case hyn473 => (intro z hSw; (try dsimp only at hSw); go_simp; (try with_reducible rfl))
      try simp only [Act.put, List.setIfInBounds_toArray, List.set_cons_zero, List.set_cons_succ]
      refine wpAnyH_done (by kernel_rfl) ?_ _
      go_wp2_with fail
      go_ret
      exact ⟨rfl, (by repeat (first | with_reducible assumption | with_reducible refine Grew.alloc ?_ _ | with_reducible refine Grew.drew ?_ | with_reducible refine Grew.drewN ?_ _))⟩
  · rw [dcd_false (fun h => h0 (h.1))]
    have KP := fun W => l22Formula_c M W (by omega)
    unfold GivesP at KP
    rw [(by simpa using h0 : gp M = false)] at KP
    generalize (Fm.pf M).1 = xsM at *
    replace KP := Lib.hid KP
    replace KN0 := Lib.hid KN0
    replace KN1 := Lib.hid KN1
    replace hwb := hwb.symm
    clear h0
    go_enter Tryz.func43, Tryz.ntmps43
    go_wp2_with fail
    rw [← hwb]
    clear hwb
    go_quiet (fail)
    go_wp2_with fail
    refine (KP.out _).mono ?_
    rintro e w1 ⟨v1, rfl, ho1, hg1'⟩
    obtain ⟨A1, n1, rfl⟩ := nodes_slice ho1.nodes
    clear ho1
    have hg1 : Grew wb w1 := Grew.trans (by repeat (first | with_reducible assumption | with_reducible refine Grew.alloc ?_ _ | with_reducible refine Grew.drew ?_ | with_reducible refine Grew.drewN ?_ _)) hg1'
    have g1 := hal.trans hg1
    have r1 := Grew.refl w1
    have d1 := r1.drew
    have gd := g1.trans d1
    have e0 := fun W (hW : Grew w1 W) => f0 W (hg1.trans hW)
    have e2 := fun W (hW : Grew w1 W) => f2 W (hg1.trans hW)
    have e3 := fun W (hW : Grew w1 W) => f3 W (hg1.trans hW)
    have e4 := fun W (hW : Grew w1 W) => f4 W (hg1.trans hW)
    have p0a := fun W (hW : Grew w1 W) => q0a W (g1.trans hW)
    have p0b := fun W (hW : Grew w1 W) => q0b W (g1.trans hW)
    have p0c := fun W (hW : Grew w1 W) => q0c W (g1.trans hW)
    have p0d := fun W (hW : Grew w1 W) => q0d W (g1.trans hW)
    have p0e := fun W (hW : Grew w1 W) => q0e W (g1.trans hW)
    have p1a := fun W (hW : Grew w1 W) => q1a W (g1.trans hW)
    have p1b := fun W (hW : Grew w1 W) => q1b W (g1.trans hW)
    have p1c := fun W (hW : Grew w1 W) => q1c W (g1.trans hW)
    have p1d := fun W (hW : Grew w1 W) => q1d W (g1.trans hW)
    have p1e := fun W (hW : Grew w1 W) => q1e W (g1.trans hW)
    clear f0 f2 f3 f4 q0a q0b q0c q0d q0e q1a q1b q1c q1d q1e
    go_wp2_with fail
    refine wp_region_held_drew (S := fun w' => Grew w1 w') (by kernel_rfl) d1 (fun hHeld => ?_)
    refine wpAnyH_take (i := 0) (oi := ?on474) (v := ?vn474) ?hin474 ?an474 ?bn474 ?cn474 ?qn474 (Or.inl ⟨?dn474, ?hyn474⟩) hHeld ?restn474
    case hin474 => (simp only [List.getElem?_toArray, List.getElem?_cons_zero]; exact rfl)
    case an474 => kernel_rfl
    case bn474 => kernel_rfl
    case cn474 => kernel_rfl
    case qn474 => exact fun _ _ _ h => h
    case dn474 => rfl
    case hyn474 => (intro z hSw; (try dsimp only at hSw); go_simp; (try with_reducible rfl))
    try simp only [Act.put, List.setIfInBounds_toArray, List.set_cons_zero, List.set_cons_succ]
    refine wpAnyH_take (i := 1) (oi := ?on475) (v := ?vn475) ?hin475 ?an475 ?bn475 ?cn475 ?qn475 (Or.inl ⟨?dn475, ?hyn475⟩) hHeld ?restn475
    case hin475 => (simp only [List.getElem?_toArray, List.getElem?_cons_succ, List.getElem?_cons_zero]; exact rfl)
    case an475 => kernel_rfl
    case bn475 => kernel_rfl
    case cn475 => kernel_rfl
    case qn475 => exact fun _ _ _ h => h
    case dn475 => rfl
    case hyn475 => (intro z hSw; (try dsimp only at hSw); go_simp; (try with_reducible rfl))
    try simp only [Act.put, List.setIfInBounds_toArray, List.set_cons_zero, List.set_cons_succ]
    refine wpAnyH_take (i := 2) (oi := ?on476) ?hin476 ?an476 ?bn476 ?cn476 ?qn476 (Or.inr ⟨?dn476, rfl⟩) hHeld ?restn476
    case hin476 => (simp only [List.getElem?_toArray, List.getElem?_cons_succ, List.getElem?_cons_zero]; exact rfl)
    case an476 => kernel_rfl
    case bn476 => kernel_rfl
    case cn476 => kernel_rfl
    case qn476 => exact fun _ _ _ h => h
    case dn476 => rfl
    try simp only [Act.put, List.setIfInBounds_toArray, List.set_cons_zero, List.set_cons_succ]
    refine wpAnyH_take (i := 3) (oi := ?on477) ?hin477 ?an477 ?bn477 ?cn477 ?qn477 (Or.inr ⟨?dn477, rfl⟩) hHeld ?restn477
    case hin477 => (simp only [List.getElem?_toArray, List.getElem?_cons_succ, List.getElem?_cons_zero]; exact rfl)
    case an477 => kernel_rfl
    case bn477 => kernel_rfl
    case cn477 => kernel_rfl
    case qn477 => exact fun _ _ _ h => h
    case dn477 => rfl
    try simp only [Act.put, List.setIfInBounds_toArray, List.set_cons_zero, List.set_cons_succ]
    refine wpAnyH_take (i := 4) (oi := ?on478) ?hin478 ?an478 ?bn478 ?cn478 ?qn478 (Or.inr ⟨?dn478, rfl⟩) hHeld ?restn478
    case hin478 => (simp only [List.getElem?_toArray, List.getElem?_cons_succ, List.getElem?_cons_zero]; exact rfl)
    case an478 => kernel_rfl
    case bn478 => kernel_rfl
    case cn478 => kernel_rfl
    case qn478 => exact fun _ _ _ h => h
    case dn478 => rfl
    try simp only [Act.put, List.setIfInBounds_toArray, List.set_cons_zero, List.set_cons_succ]
    refine wpAnyH_take (i := 5) (oi := ?on479) ?hin479 ?an479 ?bn479 ?cn479 ?qn479 (Or.inr ⟨?dn479, rfl⟩) hHeld ?restn479
    case hin479 => (simp only [List.getElem?_toArray, List.getElem?_cons_succ, List.getElem?_cons_zero]; exact rfl)
    case an479 => kernel_rfl
    case bn479 => kernel_rfl
    case cn479 => kernel_rfl
    case qn479 => exact fun _ _ _ h => h
    case dn479 => rfl
    try simp only [Act.put, List.setIfInBounds_toArray, List.set_cons_zero, List.set_cons_succ]
    refine wpAnyH_take (i := 6) (oi := ?on480) ?hin480 ?an480 ?bn480 ?cn480 ?qn480 (Or.inr ⟨?dn480, rfl⟩) hHeld ?restn480
    case hin480 => (simp only [List.getElem?_toArray, List.getElem?_cons_succ, List.getElem?_cons_zero]; exact rfl)
    case an480 => kernel_rfl
    case bn480 => kernel_rfl
    case cn480 => kernel_rfl
    case qn480 => exact fun _ _ _ h => h
    case dn480 => rfl
    try simp only [Act.put, List.setIfInBounds_toArray, List.set_cons_zero, List.set_cons_succ]
    refine wpAnyH_take (i := 7) (oi := ?on481) ?hin481 ?an481 ?bn481 ?cn481 ?qn481 (Or.inr ⟨?dn481, rfl⟩) hHeld ?restn481
    case hin481 => (simp only [List.getElem?_toArray, List.getElem?_cons_succ, List.getElem?_cons_zero]; exact rfl)
    case an481 => kernel_rfl
    case bn481 => kernel_rfl
    case cn481 => kernel_rfl
    case qn481 => exact fun _ _ _ h => h
    case dn481 => rfl
    try simp only [Act.put, List.setIfInBounds_toArray, List.set_cons_zero, List.set_cons_succ]
    refine wpAnyH_take (i := 8) (oi := ?on482) ?hin482 ?an482 ?bn482 ?cn482 ?qn482 (Or.inr ⟨?dn482, rfl⟩) hHeld ?restn482
    case hin482 => (simp only [List.getElem?_toArray, List.getElem?_cons_succ, List.getElem?_cons_zero]; exact rfl)
    case an482 => kernel_rfl
    case bn482 => kernel_rfl
    case cn482 => kernel_rfl
    case qn482 => exact fun _ _ _ h => h
    case dn482 => rfl
    try simp only [Act.put, List.setIfInBounds_toArray, List.set_cons_zero, List.set_cons_succ]
    refine wpAnyH_take (i := 9) (oi := ?on483) (v := ?vn483) ?hin483 ?an483 ?bn483 ?cn483 ?qn483 (Or.inl ⟨?dn483, ?hyn483⟩) hHeld ?restn483
    case hin483 => (simp only [List.getElem?_toArray, List.getElem?_cons_succ, List.getElem?_cons_zero]; exact rfl)
    case an483 => kernel_rfl
    case bn483 => kernel_rfl
    case cn483 => kernel_rfl
    case qn483 => exact fun _ _ _ h => h
    case dn483 => rfl
    case hyn483 => (intro z hSw; (try dsimp only at hSw); go_simp; (try with_reducible rfl))
    try simp only [Act.put, List.setIfInBounds_toArray, List.set_cons_zero, List.set_cons_succ]
    refine wpAnyH_take (i := 10) (oi := ?on484) (v := ?vn484) ?hin484 ?an484 ?bn484 ?cn484 ?qn484 (Or.inl ⟨?dn484, ?hyn484⟩) hHeld ?restn484
    case hin484 => (simp only [List.getElem?_toArray, List.getElem?_cons_succ, List.getElem?_cons_zero]; exact rfl)
    case an484 => kernel_rfl
    case bn484 => kernel_rfl
    case cn484 => kernel_rfl
    case qn484 => exact fun _ _ _ h => h
    case dn484 => rfl
    case hyn484 => (intro z hSw; (try dsimp only at hSw); go_simp; (try with_reducible rfl))
    try simp only [Act.put, List.setIfInBounds_toArray, List.set_cons_zero, List.set_cons_succ]
    refine wpAnyH_take (i := 11) (oi := ?on485) ?hin485 ?an485 ?bn485 ?cn485 ?qn485 (Or.inr ⟨?dn485, rfl⟩) hHeld ?restn485
    case hin485 => (simp only [List.getElem?_toArray, List.getElem?_cons_succ, List.getElem?_cons_zero]; exact rfl)
    case an485 => kernel_rfl
    case bn485 => kernel_rfl
    case cn485 => kernel_rfl
    case qn485 => exact fun _ _ _ h => h
    case dn485 => rfl
    try simp only [Act.put, List.setIfInBounds_toArray, List.set_cons_zero, List.set_cons_succ]
    refine wpAnyH_take (i := 12) (oi := ?on486) ?hin486 ?an486 ?bn486 ?cn486 ?qn486 (Or.inr ⟨?dn486, rfl⟩) hHeld ?restn486
    case hin486 => (simp only [List.getElem?_toArray, List.getElem?_cons_succ, List.getElem?_cons_zero]; exact rfl)
    case an486 => kernel_rfl
    case bn486 => kernel_rfl
    case cn486 => kernel_rfl
    case qn486 => exact fun _ _ _ h => h
    case dn486 => rfl
    try simp only [Act.put, List.setIfInBounds_toArray, List.set_cons_zero, List.set_cons_succ]
    refine wpAnyH_take (i := 13) (oi := ?on487) ?hin487 ?an487 ?bn487 ?cn487 ?qn487 (Or.inr ⟨?dn487, rfl⟩) hHeld ?restn487
    case hin487 => (simp only [List.getElem?_toArray, List.getElem?_cons_succ, List.getElem?_cons_zero]; exact rfl)
    case an487 => kernel_rfl
    case bn487 => kernel_rfl
    case cn487 => kernel_rfl
    case qn487 => exact fun _ _ _ h => h
    case dn487 => rfl
    try simp only [Act.put, List.setIfInBounds_toArray, List.set_cons_zero, List.set_cons_succ]
    refine wpAnyH_take (i := 14) (oi := ?on488) ?hin488 ?an488 ?bn488 ?cn488 ?qn488 (Or.inr ⟨?dn488, rfl⟩) hHeld ?restn488
    case hin488 => (simp only [List.getElem?_toArray, List.getElem?_cons_succ, List.getElem?_cons_zero]; exact rfl)
    case an488 => kernel_rfl
    case bn488 => kernel_rfl
    case cn488 => kernel_rfl
    case qn488 => exact fun _ _ _ h => h
    case dn488 => rfl
    try simp only [Act.put, List.setIfInBounds_toArray, List.set_cons_zero, List.set_cons_succ]
    refine wpAnyH_take (i := 15) (oi := ?on489) ?hin489 ?an489 ?bn489 ?cn489 ?qn489 (Or.inr ⟨?dn489, rfl⟩) hHeld ?restn489
    case hin489 => (simp only [List.getElem?_toArray, List.getElem?_cons_succ, List.getElem?_cons_zero]; exact rfl)
    case an489 => kernel_rfl
    case bn489 => kernel_rfl
    case cn489 => kernel_rfl
    case qn489 => exact fun _ _ _ h => h
    case dn489 => rfl
    try simp only [Act.put, List.setIfInBounds_toArray, List.set_cons_zero, List.set_cons_succ]
    refine wpAnyH_take (i := 16) (oi := ?on490) ?hin490 ?an490 ?bn490 ?cn490 ?qn490 (Or.inr ⟨?dn490, rfl⟩) hHeld ?restn490
    case hin490 => (simp only [List.getElem?_toArray, List.getElem?_cons_succ, List.getElem?_cons_zero]; exact rfl)
    case an490 => kernel_rfl
    case bn490 => kernel_rfl
    case cn490 => kernel_rfl
    case qn490 => exact fun _ _ _ h => h
    case dn490 => rfl
    try simp only [Act.put, List.setIfInBounds_toArray, List.set_cons_zero, List.set_cons_succ]
    refine wpAnyH_take (i := 17) (oi := ?on491) ?hin491 ?an491 ?bn491 ?cn491 ?qn491 (Or.inr ⟨?dn491, rfl⟩) hHeld ?restn491
    case hin491 => (simp only [List.getElem?_toArray, List.getElem?_cons_succ, List.getElem?_cons_zero]; exact rfl)
    case an491 => kernel_rfl
    case bn491 => kernel_rfl
    case cn491 => kernel_rfl
    case qn491 => exact fun _ _ _ h => h
    case dn491 => rfl
    try simp only [Act.put, List.setIfInBounds_toArray, List.set_cons_zero, List.set_cons_succ]
    refine wpAnyH_take (i := 18) (oi := ?on492) ?hin492 ?an492 ?bn492 ?cn492 ?qn492 (Or.inr ⟨?dn492, rfl⟩) hHeld ?restn492
    case hin492 => (simp only [List.getElem?_toArray, List.getElem?_cons_succ, List.getElem?_cons_zero]; exact rfl)
    case an492 => kernel_rfl
    case bn492 => kernel_rfl
    case cn492 => kernel_rfl
    case qn492 => exact fun _ _ _ h => h
    case dn492 => rfl
    try simp only [Act.put, List.setIfInBounds_toArray, List.set_cons_zero, List.set_cons_succ]
    refine wpAnyH_take (i := 19) (oi := ?on493) ?hin493 ?an493 ?bn493 ?cn493 ?qn493 (Or.inr ⟨?dn493, rfl⟩) hHeld ?restn493
    case hin493 => (simp only [List.getElem?_toArray, List.getElem?_cons_succ, List.getElem?_cons_zero]; exact rfl)
    case an493 => kernel_rfl
    case bn493 => kernel_rfl
    case cn493 => kernel_rfl
    case qn493 => exact fun _ _ _ h => h
    case dn493 => rfl
    try simp only [Act.put, List.setIfInBounds_toArray, List.set_cons_zero, List.set_cons_succ]
    refine wpAnyH_take (i := 20) (oi := ?on494) ?hin494 ?an494 ?bn494 ?cn494 ?qn494 (Or.inr ⟨?dn494, rfl⟩) hHeld ?restn494
    case hin494 => (simp only [List.getElem?_toArray, List.getElem?_cons_succ, List.getElem?_cons_zero]; exact rfl)
    case an494 => kernel_rfl
    case bn494 => kernel_rfl
    case cn494 => kernel_rfl
    case qn494 => exact fun _ _ _ h => h
    case dn494 => rfl
    try simp only [Act.put, List.setIfInBounds_toArray, List.set_cons_zero, List.set_cons_succ]
    refine wpAnyH_take (i := 21) (oi := ?on495) (v := ?vn495) ?hin495 ?an495 ?bn495 ?cn495 ?qn495 (Or.inl ⟨?dn495, ?hyn495⟩) hHeld ?restn495
    case hin495 => (simp only [List.getElem?_toArray, List.getElem?_cons_succ, List.getElem?_cons_zero]; exact rfl)
    case an495 => kernel_rfl
    case bn495 => kernel_rfl
    case cn495 => kernel_rfl
    case qn495 => exact fun _ _ _ h => h
    case dn495 => rfl
    case hyn495 => (intro z hSw; (try dsimp only at hSw); go_simp; (try with_reducible rfl))
    try simp only [Act.put, List.setIfInBounds_toArray, List.set_cons_zero, List.set_cons_succ]
    refine wpAnyH_take (i := 22) (oi := ?on496) (v := ?vn496) ?hin496 ?an496 ?bn496 ?cn496 ?qn496 (Or.inl ⟨?dn496, ?hyn496⟩) hHeld ?restn496
    case hin496 => (simp only [List.getElem?_toArray, List.getElem?_cons_succ, List.getElem?_cons_zero]; exact rfl)
    case an496 => kernel_rfl
    case bn496 => kernel_rfl
    case cn496 => kernel_rfl
    case qn496 => exact fun _ _ _ h => h
    case dn496 => rfl
    case hyn496 => (intro z hSw; (try dsimp only at hSw); go_simp; (try with_reducible rfl))
    try simp only [Act.put, List.setIfInBounds_toArray, List.set_cons_zero, List.set_cons_succ]
    refine wpAnyH_done (by kernel_rfl) ?_ _
    go_wp2_with fail
    go_ret
    exact ⟨rfl, (by repeat (first | with_reducible assumption | with_reducible refine Grew.alloc ?_ _ | with_reducible refine Grew.drew ?_ | with_reducible refine Grew.drewN ?_ _))⟩
end Go.Proofs.YtkjmfkllmljdeaaGreat

/- l22Fits of the reference at the rules without parts, at all rules. -/
namespace Go.Proofs.YtkjmfkllmljdeaaGreat
open Go.RowKit

theorem okJ_1 {P : List Int} {A : List ByteArray} {C M : ByteArray} (hM : M = ByteArray.empty) : okJ (1, P, A, C, M) [] ↔ C ∈ A := by
  unfold okJ gls
  simp [hM, dcd_iff]
theorem okJ_2 {P : List Int} {A : List ByteArray} {C M : ByteArray} (hM : M = ByteArray.empty) : okJ (2, P, A, C, M) [] ↔ txF ∈ A := by
  unfold okJ gls
  simp [hM, dcd_iff]
theorem okJ_10 {P : List Int} {A : List ByteArray} {C M : ByteArray} {y : Jg} (hM : M = ByteArray.empty) : okJ (10, P, A, C, M) [y] ↔ ((∀ s ∈ y.1, s ∈ A) ∧ y.2 = C) := by
  unfold okJ weakP
  obtain ⟨K, D⟩ := y
  constructor
  · rintro (⟨_, _, K', h1, h2⟩ | ⟨h, _⟩)
    · cases h1; exact ⟨h2, rfl⟩
    · exact absurd rfl h
  · rintro ⟨h1, h2⟩
    simp only at h1 h2
    subst h2
    exact .inl ⟨rfl, hM, K, rfl, h1⟩

set_option maxHeartbeats 4000000 in
set_option maxRecDepth 8192 in
theorem ruleJ_1 (P : List Int) (A : List ByteArray) (C M : ByteArray) : RuleJ (1, P, A, C, M) 0 := by
  intro up ua vp p w hup hs hv hq hC hM hu hk
  simp only at hup hs hq hC hM hu hk ⊢
  obtain ⟨hgC, hasc, hln⟩ := sqB_and hq
  obtain rfl := List.eq_nil_of_length_eq_zero hk
  have hM0 := usesJ_no hu (by decide)
  have hiff : okJ (1, P, A, C, M) (([] : List Jf).map js) ↔ C ∈ A := okJ_1 hM0
  rw [dcd_congr hiff]
  have KY := Lib.hid (fun W (hW : Grew w W) => l01Says_c ua A C W (hs.grew hW) (by omega))
  rw [dc_dcd] at KY
  obtain ⟨VP, cp, rfl⟩ := ints_slice hup
  obtain ⟨UA, ca, rfl⟩ := strs_slice hs
  obtain ⟨VV, cv, rfl⟩ := Jfs_slice hv
  simp only [List.length_nil]
  generalize dcd (C ∈ A) = R at *
  clear hup hs hv hq hasc hM0 hu hiff hk
  generalize P.length = pln at *
  generalize A.length = al at *
  have hal := (Grew.refl w).alloc (.cells #[.int .i64 1, .slice VP pln cp, .slice UA al ca, .string C, .string M] 42)
  have f0 : ∀ W, Grew (w.alloc (.cells #[.int .i64 1, .slice VP pln cp, .slice UA al ca, .string C, .string M] 42)) W → W.cell? ⟨w.heap.size, 0, none⟩ = some (.int .i64 1) := fun W hW => (hW.cell (p := ⟨w.heap.size, 0, none⟩) (by simp)).trans (by simp)
  have f2 : ∀ W, Grew (w.alloc (.cells #[.int .i64 1, .slice VP pln cp, .slice UA al ca, .string C, .string M] 42)) W → W.cell? ⟨w.heap.size, 2, none⟩ = some (.slice UA al ca) := fun W hW => (hW.cell (p := ⟨w.heap.size, 2, none⟩) (by simp)).trans (by simp)
  have f3 : ∀ W, Grew (w.alloc (.cells #[.int .i64 1, .slice VP pln cp, .slice UA al ca, .string C, .string M] 42)) W → W.cell? ⟨w.heap.size, 3, none⟩ = some (.string C) := fun W hW => (hW.cell (p := ⟨w.heap.size, 3, none⟩) (by simp)).trans (by simp)
  have f4 : ∀ W, Grew (w.alloc (.cells #[.int .i64 1, .slice VP pln cp, .slice UA al ca, .string C, .string M] 42)) W → W.cell? ⟨w.heap.size, 4, none⟩ = some (.string M) := fun W hW => (hW.cell (p := ⟨w.heap.size, 4, none⟩) (by simp)).trans (by simp)
  generalize hwb : w.alloc (.cells #[.int .i64 1, .slice VP pln cp, .slice UA al ca, .string C, .string M] 42) = wb at *
  have rb := Grew.refl wb
  have rbd := rb.drew
  have rbn := fun n => rb.drewN n
  replace hwb := hwb.symm
  go_enter Tryz.func43, Tryz.ntmps43
  go_wp2_with fail
  rw [← hwb]
  clear hwb
  go_quiet (fail)
  go_wp2_with fail
  refine (KY.out _ (by repeat (first | with_reducible assumption | with_reducible refine Grew.alloc ?_ _ | with_reducible refine Grew.drew ?_ | with_reducible refine Grew.drewN ?_ _))).mono ?_
  rintro e w1 ⟨rfl, hg1⟩
  go_wp2_with fail
  go_ret
  exact ⟨rfl, Grew.trans (by repeat (first | with_reducible assumption | with_reducible refine Grew.alloc ?_ _ | with_reducible refine Grew.drew ?_ | with_reducible refine Grew.drewN ?_ _)) hg1⟩

set_option maxHeartbeats 4000000 in
set_option maxRecDepth 8192 in
theorem ruleJ_2 (P : List Int) (A : List ByteArray) (C M : ByteArray) : RuleJ (2, P, A, C, M) 0 := by
  intro up ua vp p w hup hs hv hq hC hM hu hk
  simp only at hup hs hq hC hM hu hk ⊢
  obtain ⟨hgC, hasc, hln⟩ := sqB_and hq
  obtain rfl := List.eq_nil_of_length_eq_zero hk
  have hM0 := usesJ_no hu (by decide)
  have hiff : okJ (2, P, A, C, M) (([] : List Jf).map js) ↔ txF ∈ A := okJ_2 hM0
  rw [dcd_congr hiff]
  have KY := Lib.hid (fun W (hW : Grew w W) => l01Says_c ua A txF W (hs.grew hW) (by omega))
  rw [dc_dcd] at KY
  obtain ⟨VP, cp, rfl⟩ := ints_slice hup
  obtain ⟨UA, ca, rfl⟩ := strs_slice hs
  obtain ⟨VV, cv, rfl⟩ := Jfs_slice hv
  simp only [List.length_nil]
  generalize dcd (txF ∈ A) = R at *
  clear hup hs hv hq hasc hM0 hu hiff hk
  generalize P.length = pln at *
  generalize A.length = al at *
  have hal := (Grew.refl w).alloc (.cells #[.int .i64 2, .slice VP pln cp, .slice UA al ca, .string C, .string M] 42)
  have f0 : ∀ W, Grew (w.alloc (.cells #[.int .i64 2, .slice VP pln cp, .slice UA al ca, .string C, .string M] 42)) W → W.cell? ⟨w.heap.size, 0, none⟩ = some (.int .i64 2) := fun W hW => (hW.cell (p := ⟨w.heap.size, 0, none⟩) (by simp)).trans (by simp)
  have f2 : ∀ W, Grew (w.alloc (.cells #[.int .i64 2, .slice VP pln cp, .slice UA al ca, .string C, .string M] 42)) W → W.cell? ⟨w.heap.size, 2, none⟩ = some (.slice UA al ca) := fun W hW => (hW.cell (p := ⟨w.heap.size, 2, none⟩) (by simp)).trans (by simp)
  have f3 : ∀ W, Grew (w.alloc (.cells #[.int .i64 2, .slice VP pln cp, .slice UA al ca, .string C, .string M] 42)) W → W.cell? ⟨w.heap.size, 3, none⟩ = some (.string C) := fun W hW => (hW.cell (p := ⟨w.heap.size, 3, none⟩) (by simp)).trans (by simp)
  have f4 : ∀ W, Grew (w.alloc (.cells #[.int .i64 2, .slice VP pln cp, .slice UA al ca, .string C, .string M] 42)) W → W.cell? ⟨w.heap.size, 4, none⟩ = some (.string M) := fun W hW => (hW.cell (p := ⟨w.heap.size, 4, none⟩) (by simp)).trans (by simp)
  generalize hwb : w.alloc (.cells #[.int .i64 2, .slice VP pln cp, .slice UA al ca, .string C, .string M] 42) = wb at *
  have rb := Grew.refl wb
  have rbd := rb.drew
  have rbn := fun n => rb.drewN n
  replace hwb := hwb.symm
  go_enter Tryz.func43, Tryz.ntmps43
  go_wp2_with fail
  rw [← hwb]
  clear hwb
  go_quiet (fail)
  go_wp2_with fail
  refine (KY.out _ (by repeat (first | with_reducible assumption | with_reducible refine Grew.alloc ?_ _ | with_reducible refine Grew.drew ?_ | with_reducible refine Grew.drewN ?_ _))).mono ?_
  rintro e w1 ⟨rfl, hg1⟩
  go_wp2_with fail
  go_ret
  exact ⟨rfl, Grew.trans (by repeat (first | with_reducible assumption | with_reducible refine Grew.alloc ?_ _ | with_reducible refine Grew.drew ?_ | with_reducible refine Grew.drewN ?_ _)) hg1⟩

set_option maxHeartbeats 4000000 in
set_option maxRecDepth 8192 in
theorem ruleJ_10 (P : List Int) (A : List ByteArray) (C M : ByteArray) : RuleJ (10, P, A, C, M) 1 := by
  intro up ua vp p w hup hs hv hq hC hM hu hk
  simp only at hup hs hq hC hM hu hk ⊢
  obtain ⟨hgC, hasc, hln⟩ := sqB_and hq
  obtain ⟨y0, rfl⟩ := lenJ1 hk
  obtain ⟨r0, P0, A0, C0, M0⟩ := y0
  have hM0 := usesJ_no hu (by decide)
  obtain ⟨pb, po, pc, rfl, hpc, hpm, hat⟩ := jfs_at hv (by simp)
  have hiff : okJ (10, P, A, C, M) ([(r0, P0, A0, C0, M0)].map js) ↔ ((∀ s ∈ A0, s ∈ A) ∧ C0 = C) := okJ_10 hM0
  rw [dcd_congr hiff]
  clear hiff
  obtain ⟨up0, ua0, q0a, q0b, q0c, q0d, q0e, hp0, hu0⟩ := hat 0 _ rfl
  simp only [Nat.zero_mul, Nat.add_zero] at q0a q0b q0c q0d q0e hp0 hu0
  have KY := Lib.hid (fun s W (hW : Grew w W) => l01Says_c ua A s W (hs.grew hW) (by omega))
  obtain ⟨D0, hD0⟩ : ∃ D0, D0 = dcd ((∀ s ∈ A0, s ∈ A) ∧ C0 = C) := ⟨_, rfl⟩
  rw [← hD0]
  have HD0 := Lib.hid hD0
  have HOP := Lib.hid hu0.open_
  obtain ⟨VP, cp, rfl⟩ := ints_slice hup
  obtain ⟨UA, ca, rfl⟩ := strs_slice hs
  obtain ⟨U0, c0, rfl⟩ := strs_slice hu0
  have h0m : A0.length ≤ 9223372036854775807 := by
    rcases HOP.out with ⟨_, h⟩ | ⟨_, _, _, _, h1, h2, _⟩
    · rw [h]; simp
    · omega
  simp only [List.length_cons, List.length_nil] at hpc ⊢
  clear hup hs hv hat hk hq hasc hM0 hu hu0 hp0 hD0
  generalize P.length = pln at *
  generalize hAl : A.length = al at *
  replace hAl := Lib.hid hAl
  have hal := (Grew.refl w).alloc (.cells #[.int .i64 10, .slice VP pln cp, .slice UA al ca, .string C, .string M] 42)
  have f0 : ∀ W, Grew (w.alloc (.cells #[.int .i64 10, .slice VP pln cp, .slice UA al ca, .string C, .string M] 42)) W → W.cell? ⟨w.heap.size, 0, none⟩ = some (.int .i64 10) := fun W hW => (hW.cell (p := ⟨w.heap.size, 0, none⟩) (by simp)).trans (by simp)
  have f2 : ∀ W, Grew (w.alloc (.cells #[.int .i64 10, .slice VP pln cp, .slice UA al ca, .string C, .string M] 42)) W → W.cell? ⟨w.heap.size, 2, none⟩ = some (.slice UA al ca) := fun W hW => (hW.cell (p := ⟨w.heap.size, 2, none⟩) (by simp)).trans (by simp)
  have f3 : ∀ W, Grew (w.alloc (.cells #[.int .i64 10, .slice VP pln cp, .slice UA al ca, .string C, .string M] 42)) W → W.cell? ⟨w.heap.size, 3, none⟩ = some (.string C) := fun W hW => (hW.cell (p := ⟨w.heap.size, 3, none⟩) (by simp)).trans (by simp)
  have f4 : ∀ W, Grew (w.alloc (.cells #[.int .i64 10, .slice VP pln cp, .slice UA al ca, .string C, .string M] 42)) W → W.cell? ⟨w.heap.size, 4, none⟩ = some (.string M) := fun W hW => (hW.cell (p := ⟨w.heap.size, 4, none⟩) (by simp)).trans (by simp)
  generalize hwb : w.alloc (.cells #[.int .i64 10, .slice VP pln cp, .slice UA al ca, .string C, .string M] 42) = wb at *
  have rb := Grew.refl wb
  have rbd := rb.drew
  have rbn := fun n => rb.drewN n
  replace hwb := hwb.symm
  have i1 : (0 : Int) < (1 : Int) := by omega
  go_enter Tryz.func43, Tryz.ntmps43
  go_wp2_with fail
  rw [← hwb]
  clear hwb
  go_quiet (fail)
  go_wp2_with fail
  go_loopw [30] (fun i wr => ∃ j : Nat, j ≤ A0.length ∧ i = .int .i64 j ∧ Grew w wr ∧ Hid (∀ q, q < j → st A0 q ∈ A)) (fun i _ => A0.length - (intOf i).toNat)
  case atStart => exact ⟨0, Nat.zero_le _, rfl, (by repeat (first | with_reducible assumption | with_reducible refine Grew.alloc ?_ _ | with_reducible refine Grew.drew ?_ | with_reducible refine Grew.drewN ?_ _)), Lib.hid (fun q hq => absurd hq (by omega))⟩
  case round =>
    obtain ⟨j, hj, rfl, hB, HJ⟩ := hrel
    have t0 := q0c _ hB
    have t1 := q0d _ hB
    by_cases hlt : j < A0.length
    · rcases HOP.out with ⟨_, h0⟩ | ⟨b1, o1, c1, hv1, hc1, hm1, hb1, hf1⟩
      · rw [h0] at hlt; simp at hlt
      obtain ⟨rfl, rfl⟩ : U0 = some ⟨b1, o1, none⟩ ∧ c0 = c1 := by simpa using hv1
      have t2 := hf1 j hlt _ hB
      have KY1 := KY.out (st A0 j)
      rw [dc_dcd] at KY1
      by_cases hin : st A0 j ∈ A
      · rw [dcd_true hin] at KY1
        replace KY1 := Lib.hid KY1
        have HS := Lib.hid (show ∀ q, q < j + 1 → st A0 q ∈ A from fun q hq => by
          rcases Nat.lt_or_ge q j with hk | hk
          · exact HJ.out q hk
          · obtain rfl : q = j := by omega
            exact hin)
        clear hin hv1 hf1
        generalize st A0 j = s at *
        go_wp2_with fail
        refine (KY1.out _ hB).mono ?_
        rintro e w1 ⟨rfl, hg1⟩
        go_wp2_with fail
        go_roundw
        case rel => exact ⟨j + 1, by omega, by go_num, hB.trans hg1, HS⟩
        case measure => simp [intOf]; omega
      · rw [dcd_false hin] at KY1
        replace KY1 := Lib.hid KY1
        have HV := Lib.hid (HD0.out.trans (dcd_false (fun h => hin (h.1 _ (by rw [← st_get hlt]; exact List.getElem_mem hlt)))))
        clear hin hv1 hf1
        generalize st A0 j = s at *
        go_wp2_with fail
        refine (KY1.out _ hB).mono ?_
        rintro e w1 ⟨rfl, hg1⟩
        go_wp2_with fail
        go_ret
        exact ⟨congrArg (fun b => Ending.returned (Value.bool b)) HV.out.symm, hB.trans hg1⟩
    · obtain rfl : j = A0.length := by omega
      have hall : ∀ s ∈ A0, s ∈ A := fun s hs => by
        obtain ⟨q, hq, rfl⟩ := List.getElem_of_mem hs
        rw [st_get hq]
        exact HJ.out q hq
      by_cases hc : C0 = C
      · have HV := Lib.hid (HD0.out.trans (dcd_true ⟨hall, hc⟩))
        subst hc
        have hb : (C0.toList == C0.toList) = true := by simp
        clear hall
        go_wp2_with fail
        go_ret
        exact ⟨congrArg (fun b => Ending.returned (Value.bool b)) HV.out.symm, hB⟩
      · have HV := Lib.hid (HD0.out.trans (dcd_false (fun h => hc h.2)))
        have hb := bytes_ne hc
        clear hall hc
        go_wp2_with fail
        go_ret
        exact ⟨congrArg (fun b => Ending.returned (Value.bool b)) HV.out.symm, hB⟩

theorem rule_allJ (x : Jf) (k : Nat) (h : cntJ x.1 = k) : RuleJ x k := by
  obtain ⟨R, P, A, C, M⟩ := x
  simp only at h
  have hk : ∀ m : Nat, (m : Int) = k → m = k := fun m h => by omega
  by_cases h1 : R = 1
  · subst h1; obtain rfl := hk 0 h; exact ruleJ_1 P A C M
  by_cases h2 : R = 2
  · subst h2; obtain rfl := hk 0 h; exact ruleJ_2 P A C M
  by_cases h3 : R = 3
  · subst h3; obtain rfl := hk 1 h; exact ruleJ_3 P A C M
  by_cases h4 : R = 4
  · subst h4; obtain rfl := hk 2 h; exact ruleJ_4 P A C M
  by_cases h5 : R = 5
  · subst h5; obtain rfl := hk 2 h; exact ruleJ_5 P A C M
  by_cases h6 : R = 6
  · subst h6; obtain rfl := hk 1 h; exact ruleJ_6 P A C M
  by_cases h7 : R = 7
  · subst h7; obtain rfl := hk 1 h; exact ruleJ_7 P A C M
  by_cases h8 : R = 8
  · subst h8; obtain rfl := hk 2 h; exact ruleJ_8 P A C M
  by_cases h9 : R = 9
  · subst h9; obtain rfl := hk 1 h; exact ruleJ_9 P A C M
  by_cases h10 : R = 10
  · subst h10; obtain rfl := hk 1 h; exact ruleJ_10 P A C M
  by_cases h11 : R = 11
  · subst h11; obtain rfl := hk 2 h; exact ruleJ_11 P A C M
  exfalso
  unfold cntJ at h
  rw [if_neg (by omega), if_neg (by omega), if_neg (by omega)] at h
  omega
theorem okJ_cnt {x : Jf} {J : List Jg} (h : okJ x J) : (J.length : Int) = cntJ x.1 := by
  obtain ⟨R, P, A, C, M⟩ := x
  rcases h with ⟨h, _, K, rfl, _⟩ | ⟨h10, h⟩
  · simp only at h; subst h; rfl
  · simp only [gls, lgl, rgl] at h h10 ⊢
    repeat' split at h
    all_goals first
      | (cases h; done)
      | (obtain rfl := Option.some.inj h; unfold cntJ; simp only [List.length_cons, List.length_nil]; repeat' split <;> omega)
theorem okJ_uses {x : Jf} {J : List Jg} (h : okJ x J) : usesJ x.1 = true ∨ x.2.2.2.2 = ByteArray.empty := by
  obtain ⟨R, P, A, C, M⟩ := x
  rcases h with ⟨_, h, _⟩ | ⟨h10, h⟩
  · exact .inr h
  · simp only at h10 ⊢
    by_cases hu : R = 3 ∨ R = 5 ∨ R = 8 ∨ R = 11
    · exact .inl (by unfold usesJ; exact decide_eq_true hu)
    · right
      simp only [gls] at h
      rw [if_neg (show ¬ (R = 3 ∨ R = 5 ∨ R = 8) by omega), if_neg (show ¬ R = 11 by omega)] at h
      repeat' split at h
      all_goals first
        | (cases h; done)
        | (rename_i hd; exact (dcd_iff.1 hd).1)
        | (rename_i hd; exact dcd_iff.1 hd)
end Go.Proofs.YtkjmfkllmljdeaaGreat

/- A predicate on strings: IndexFunc, ContainsFunc. -/
namespace Go.Proofs.YtkjmfkllmljdeaaGreat
open Go.RowKit

/-- None of the first k strings meets the predicate. -/
def NoneS (p : ByteArray → Bool) (L : List ByteArray) (k : Nat) : Prop := ∀ i, i < k → p (st L i) = false
theorem NoneS.zero (p : ByteArray → Bool) (L : List ByteArray) : NoneS p L 0 := fun i hi => absurd hi (by omega)
theorem NoneS.succ {p : ByteArray → Bool} {L : List ByteArray} {k : Nat} (h : NoneS p L k) (h1 : p (st L k) = false) : NoneS p L (k + 1) := by
  intro i hi
  rcases Nat.lt_or_ge i k with hk | hk
  · exact h i hk
  · obtain rfl : i = k := by omega
    exact h1
theorem noneS_any {p : ByteArray → Bool} {L : List ByteArray} (h : NoneS p L L.length) : L.any p = false := by
  rw [List.any_eq_false]
  intro x hx
  obtain ⟨i, hi, rfl⟩ := List.getElem_of_mem hx
  rw [st_get hi, h i hi]
  simp
theorem anyS_at {p : ByteArray → Bool} {L : List ByteArray} {k : Nat} (hk : k < L.length) (h : p (st L k) = true) : L.any p = true := by
  rw [List.any_eq_true]
  exact ⟨L[k], List.getElem_mem hk, by rw [st_get hk]; exact h⟩

/-- What the function value gives at a string. -/
def PredS (f : Nat) (p : ByteArray → Bool) : Prop := ∀ s W, s.size ≤ 140737488355328 → Calls Tryz.prog f #[.string s] W fun e W' => e = .returned (.bool (p s)) ∧ Grew W W'

theorem indexFuncS_c (v : Value) (L : List ByteArray) (f : Nat) (p : ByteArray → Bool) (w : World) (h : Strs w v L) (hfit : Fits L) (hf : PredS f p) (eg : ∀ args w, (callFunc f args).run Tryz.prog w = .ok (.enter f args) w) :
    Calls Tryz.prog 79 #[v, .func (.func f) #[] #[]] w fun e w' => ∃ r : Int, e = .returned (.int .i64 r) ∧ Grew w w' ∧ decide (0 ≤ r) = L.any p := by
  rcases h.open_ with ⟨rfl, rfl⟩ | ⟨b, o, c, rfl, hc, hm, hb, hcell⟩
  · rw [noneS_any (NoneS.zero _ _)]
    clear h hf hfit
    go_enter Tryz.func79, Tryz.ntmps79
    go_wp2_with fail
    refine wp_loop_rounds 1 ?_; rw [rounds_succ]
    go_wp2_with fail
    go_ret
    exact ⟨_, rfl, Grew.refl _, rfl⟩
  obtain ⟨R, hR⟩ : ∃ R, R = L.any p := ⟨_, rfl⟩
  rw [← hR]
  have HA := Lib.hid (fun k hk h => hR.trans (@anyS_at p L k hk h))
  have HZ := Lib.hid (fun h => hR.trans (@noneS_any p L h))
  have HC := Lib.hid hcell
  have HF := Lib.hid hf
  unfold Fits at hfit
  have HT := Lib.hid hfit
  clear hcell h hf hR hfit
  generalize hN : L.length = n at *
  clear hN
  go_enter Tryz.func79, Tryz.ntmps79
  go_wp2_with fail
  go_loopw [5, 8] (fun _ i wr => ∃ j : Nat, j ≤ n ∧ i = .int .i64 j ∧ Grew w wr ∧ Hid (NoneS p L j)) (fun _ i _ => n - (intOf i).toNat)
  case atStart => exact ⟨0, Nat.zero_le _, rfl, Grew.refl _, NoneS.zero _ _⟩
  case round =>
    obtain ⟨j, hj, rfl, hB, HJ⟩ := hrel
    by_cases hlt : j < n
    · have k1 := HC.out j hlt _ hB
      have hz := HT.out j hlt
      have hA := Lib.hid (HA.out j hlt)
      have hS := Lib.hid (fun h => HJ.out.succ (k := j) h)
      generalize st L j = x at *
      go_wp2_with fail
      go_at_fn f
      refine (HF.out x _ (by omega)).mono ?_
      rintro e w1 ⟨rfl, hg1⟩
      have hB1 := hB.trans hg1
      cases hp : p x with
      | true =>
        have hv := hA.out hp
        go_wp2_with fail
        go_ret
        exact ⟨_, rfl, hB1, by rw [hv]; simp⟩
      | false =>
        have hs := Lib.hid (hS.out hp)
        go_wp2_with fail
        go_roundw
        case rel => exact ⟨j + 1, by omega, by go_num, hB1, hs⟩
        case measure => simp [intOf]; omega
    · obtain rfl : j = n := by omega
      have hv := Lib.hid (HZ.out HJ.out)
      go_wp2_with fail
      go_ret
      exact ⟨_, rfl, hB, by rw [hv.out]; rfl⟩

theorem containsFuncS_c (v : Value) (L : List ByteArray) (f : Nat) (p : ByteArray → Bool) (w : World) (h : Strs w v L) (hfit : Fits L) (hf : PredS f p) (eg : ∀ args w, (callFunc f args).run Tryz.prog w = .ok (.enter f args) w) :
    Calls Tryz.prog 60 #[v, .func (.func f) #[] #[]] w fun e w' => e = .returned (.bool (L.any p)) ∧ Grew w w' := by
  have HI := Lib.hid (indexFuncS_c v L f p w h hfit hf eg)
  clear h hf eg hfit
  generalize L.any p = R at *
  go_enter Tryz.func60, Tryz.ntmps60
  go_wp2_with fail
  refine HI.out.mono ?_
  rintro e w1 ⟨r, rfl, hg1, hr⟩
  go_wp2_with fail
  go_ret
  exact ⟨by rw [← hr]; rfl, hg1⟩
end Go.Proofs.YtkjmfkllmljdeaaGreat

/- slices.ContainsFunc at texts: predicates with captured values. -/
namespace Go.Proofs.YtkjmfkllmljdeaaGreat
open Go.RowKit

/-! Predicates with captured values, which only make memory. -/
/-- What the function value gives at the texts of a list. -/
def PredK (w : World) (f : Nat) (caps : Array Value) (L : List ByteArray) (p : ByteArray → Bool) : Prop := ∀ s W, s ∈ L → Grew w W → Calls Tryz.prog f (#[.string s] ++ caps) W fun e W' => e = .returned (.bool (p s)) ∧ Grew W W'

theorem indexFuncK_c (v : Value) (L : List ByteArray) (f : Nat) (caps : Array Value) (p : ByteArray → Bool) (w : World) (h : Strs w v L) (hf : PredK w f caps L p) (eg : ∀ args w, (callFunc f args).run Tryz.prog w = .ok (.enter f args) w) :
    Calls Tryz.prog 79 #[v, .func (.func f) #[] caps] w fun e w' => ∃ r : Int, e = .returned (.int .i64 r) ∧ Grew w w' ∧ decide (0 ≤ r) = L.any p := by
  rcases h.open_ with ⟨rfl, rfl⟩ | ⟨b, o, c, rfl, hc, hm, hb, hcell⟩
  · rw [noneS_any (NoneS.zero _ _)]
    clear h hf
    go_enter Tryz.func79, Tryz.ntmps79
    go_wp2_with fail
    refine wp_loop_rounds 1 ?_; rw [rounds_succ]
    go_wp2_with fail
    go_ret
    exact ⟨_, rfl, Grew.refl _, rfl⟩
  obtain ⟨R, hR⟩ : ∃ R, R = L.any p := ⟨_, rfl⟩
  rw [← hR]
  have HA := Lib.hid (fun k hk h => hR.trans (@anyS_at p L k hk h))
  have HZ := Lib.hid (fun h => hR.trans (@noneS_any p L h))
  have HC := Lib.hid hcell
  have HF := Lib.hid hf
  have HM := Lib.hid (fun k (hk : k < L.length) => (by rw [← st_get hk]; exact List.getElem_mem hk : st L k ∈ L))
  clear hcell h hf hR
  unfold PredK at HF
  generalize hN : L.length = n at *
  clear hN
  go_enter Tryz.func79, Tryz.ntmps79
  go_wp2_with fail
  go_loopw [5, 8] (fun _ i wr => ∃ j : Nat, j ≤ n ∧ i = .int .i64 j ∧ Grew w wr ∧ Hid (NoneS p L j)) (fun _ i _ => n - (intOf i).toNat)
  case atStart => exact ⟨0, Nat.zero_le _, rfl, Grew.refl _, NoneS.zero _ _⟩
  case round =>
    obtain ⟨j, hj, rfl, hB, HJ⟩ := hrel
    by_cases hlt : j < n
    · have k1 := HC.out j hlt _ hB
      have hA := Lib.hid (HA.out j hlt)
      have hS := Lib.hid (fun h => HJ.out.succ (k := j) h)
      have hF := Lib.hid (HF.out _ _ (HM.out j hlt) hB)
      generalize st L j = x at *
      go_wp2_with fail
      go_at_fn f
      refine (hF.out).mono ?_
      rintro e w1 ⟨rfl, hg1⟩
      have hB1 := hB.trans hg1
      cases hp : p x with
      | true =>
        have hv := hA.out hp
        go_wp2_with fail
        go_ret
        exact ⟨_, rfl, hB1, by rw [hv]; simp⟩
      | false =>
        have hs := Lib.hid (hS.out hp)
        go_wp2_with fail
        go_roundw
        case rel => exact ⟨j + 1, by omega, by go_num, hB1, hs⟩
        case measure => simp [intOf]; omega
    · obtain rfl : j = n := by omega
      have hv := Lib.hid (HZ.out HJ.out)
      go_wp2_with fail
      go_ret
      exact ⟨_, rfl, hB, by rw [hv.out]; rfl⟩
theorem containsFuncK_c (v : Value) (L : List ByteArray) (f : Nat) (caps : Array Value) (p : ByteArray → Bool) (w : World) (h : Strs w v L) (hf : PredK w f caps L p) (eg : ∀ args w, (callFunc f args).run Tryz.prog w = .ok (.enter f args) w) :
    Calls Tryz.prog 60 #[v, .func (.func f) #[] caps] w fun e w' => e = .returned (.bool (L.any p)) ∧ Grew w w' := by
  have HI := Lib.hid (indexFuncK_c v L f caps p w h hf eg)
  obtain ⟨A, c, rfl⟩ := strs_slice h
  clear h hf eg
  generalize L.any p = R at *
  go_enter Tryz.func60, Tryz.ntmps60
  go_wp2_with fail
  refine HI.out.mono ?_
  rintro e w1 ⟨r, rfl, hg1, hr⟩
  go_wp2_with fail
  go_ret
  exact ⟨by rw [← hr]; rfl, hg1⟩
end Go.Proofs.YtkjmfkllmljdeaaGreat

/- subset of the program. -/
namespace Go.Proofs.YtkjmfkllmljdeaaGreat
open Go.RowKit

theorem subsetP_c (s : ByteArray) (k : Nat) (A : Option Addr) (c : Nat) (L : List ByteArray) (w : World) (hL : Strs w (.slice A L.length c) L) (hn : L.length ≤ 1048576) (hk : w.cell? ⟨k, 0, none⟩ = some (.slice A L.length c)) :
    Calls Tryz.prog 61 #[.string s, .pointer (some ⟨k, 0, none⟩)] w fun e w' => e = .returned (.bool (!dcd (s ∈ L))) ∧ Grew w w' := by
  have KC := Lib.hid (containsS_c _ L s w hL (by omega))
  rw [show dc (s ∈ L) = dcd (s ∈ L) from rfl] at KC
  clear hL
  generalize dcd (s ∈ L) = q at *
  generalize L.length = n at *
  go_enter Tryz.func61, Tryz.ntmps61
  go_wp2_with fail
  refine (KC.out).mono ?_
  rintro e w1 ⟨rfl, hg1⟩
  go_wp2_with fail
  go_ret
  exact ⟨rfl, hg1⟩
theorem any_sub (K L : List ByteArray) : (!K.any fun s => !dcd (s ∈ L)) = dcd (∀ s ∈ K, s ∈ L) := by
  by_cases h : ∀ s ∈ K, s ∈ L
  · rw [dcd_true h]
    have : (K.any fun s => !dcd (s ∈ L)) = false := by
      rw [List.any_eq_false]
      intro s hs
      rw [dcd_true (h s hs)]; decide
    rw [this]; rfl
  · rw [dcd_false h]
    have : (K.any fun s => !dcd (s ∈ L)) = true := by
      rw [List.any_eq_true]
      simp only [Classical.not_forall] at h
      obtain ⟨s, hs, hn⟩ := h
      exact ⟨s, hs, by rw [dcd_false hn]; rfl⟩
    rw [this]; rfl
theorem subset_c (va vb : Value) (K L : List ByteArray) (w : World) (hK : Strs w va K) (hL : Strs w vb L) (hn : L.length ≤ 1048576) :
    Calls Tryz.prog 47 #[va, vb] w fun e w' => e = .returned (.bool (dcd (∀ s ∈ K, s ∈ L))) ∧ Grew w w' := by
  rw [← any_sub]
  obtain ⟨A, c, rfl⟩ := strs_slice hK
  obtain ⟨B, d, rfl⟩ := strs_slice hL
  have hal := (Grew.refl w).alloc (.cells #[.slice B L.length d] 37)
  have hbx : ∀ W, Grew (w.alloc (.cells #[.slice B L.length d] 37)) W → W.cell? ⟨w.heap.size, 0, none⟩ = some (.slice B L.length d) := fun W hW => (hW.cell (p := ⟨w.heap.size, 0, none⟩) (by simp)).trans (by simp)
  have KF := Lib.hid (containsFuncK_c _ K 61 #[.pointer (some ⟨w.heap.size, 0, none⟩)] (fun s => !dcd (s ∈ L)) _ (hK.grew hal) (fun s W _ hW => subsetP_c s w.heap.size B d L W (hL.grew (hal.trans hW)) hn (hbx W hW)) (enters_of Tryz.func61 (by kernel_rfl) rfl))
  clear hK hL hbx
  generalize (K.any fun s => !dcd (s ∈ L)) = q at *
  generalize K.length = k at *
  generalize L.length = n at *
  go_enter Tryz.func47, Tryz.ntmps47
  go_wp2_with fail
  refine (KF.out).mono ?_
  rintro e w1 ⟨rfl, hg1⟩
  go_wp2_with fail
  go_ret
  exact ⟨rfl, hal.trans hg1⟩
end Go.Proofs.YtkjmfkllmljdeaaGreat

/- isGoodInference of the program. -/
namespace Go.Proofs.YtkjmfkllmljdeaaGreat
open Go.RowKit

theorem goal_c (x : Jf) (up ua : Value) (w : World) (hup : Ints w up x.2.1) (hs : Strs w ua x.2.2.1) :
    Calls Tryz.prog 46 #[.agg #[.int .i64 x.1, up, ua, .string x.2.2.2.1, .string x.2.2.2.2]] w fun e w' => e = .returned (.agg #[ua, .string x.2.2.2.1]) ∧ Grew w w' := by
  obtain ⟨A, c, rfl⟩ := ints_slice hup
  obtain ⟨B, d, rfl⟩ := strs_slice hs
  clear hup hs
  generalize x.1 = xr at *
  generalize x.2.1.length = l1 at *
  generalize x.2.2.1.length = l2 at *
  generalize x.2.2.2.1 = xc at *
  generalize x.2.2.2.2 = xn at *
  go_enter Tryz.func46, Tryz.ntmps46
  go_wp2_with fail
  (try simp only [Exit.inBlock, Exit.then])
  have hinfo : (Tryz.prog.info? 63).map (·.size) = some 2 := by kernel_rfl
  have hb : ∀ o1 o2, ((w.alloc o1).alloc o2).heap[w.heap.size + 1]? = some o2 := fun o1 o2 => by
    have h := blk_new (w.alloc o1) o2
    have e : (w.alloc o1).heap.size = w.heap.size + 1 := by simp
    rwa [e] at h
  refine bodyPost_ret (results_cell_row rfl _ _ (w.heap.size + 1) _ _ _ _ rfl (hb _ _) Tryz.underlying63 rfl hinfo) rfl ?_
  exact ⟨rfl, ((Grew.refl w).alloc _).alloc _⟩

set_option maxHeartbeats 4000000 in
theorem isGoodInference_c (bef : List Jf) (vb : Value) (x : Jf) (up ua : Value) (w : World) (hb : Jfs w vb bef) (hup : Ints w up x.2.1) (hs : Strs w ua x.2.2.1) (hfx : FitJf x) (hbl : bef.length ≤ 1000) :
    Calls Tryz.prog 35 #[vb, .agg #[.int .i64 x.1, up, ua, .string x.2.2.2.1, .string x.2.2.2.2]] w fun e w' => e = .returned (.bool (dcd (goodJ bef x))) ∧ Grew w w' := by
  have hpl := hfx.1
  have hcl := hfx.2.1
  have hsc : x.2.2.2.1.size ≤ 1048576 := hfx.2.2.2.1
  have hsm : x.2.2.2.2.size ≤ 1048576 := hfx.2.2.2.2
  have KA := fun W (hW : Grew w W) => isSequent_c ua x.2.2.1 x.2.2.2.1 W (hs.grew hW) hfx.2.2.1 hcl (by omega)
  have HS0 := Lib.hid hs
  have HUP0 := Lib.hid hup
  have HG0 := Lib.hid (fun (hq : sqB x.2.2.1 x.2.2.2.1 = true) W (hW : Grew w W) => goals_c x.1 ua x.2.2.1 x.2.2.2.1 x.2.2.2.2 W (hs.grew hW) (by omega) (ascP_gp (sqB_and hq).2.1) (sqB_and hq).1 hsc hsm)
  have HGO := Lib.hid (fun W (hW : Grew w W) => goal_c x up ua W (hup.grew hW) (hs.grew hW))
  obtain ⟨UA, ca, rfl⟩ := strs_slice hs
  obtain ⟨A, cP, rfl⟩ := ints_slice hup
  have hal := (Grew.refl w).alloc (.cells #[.int .i64 x.1, .slice A x.2.1.length cP, .slice UA x.2.2.1.length ca, .string x.2.2.2.1, .string x.2.2.2.2] 42)
  obtain ⟨VB, vc, rfl⟩ := (show ∃ A c, vb = .slice A bef.length c from Jfs_slice hb)
  rw [show (gp x.2.2.2.1 && (ascP x.2.2.1 && decide (x.2.2.1.length ≤ 12))) = sqB x.2.2.1 x.2.2.2.1 from rfl] at KA
  cases hq : sqB x.2.2.1 x.2.2.2.1 with
  | false =>
    rw [dcd_false (fun h => by have := h.1; rw [hq] at this; cases this)]
    rw [hq] at KA
    replace KA := Lib.hid KA
    clear hb hs hup hq hfx HG0 HGO HS0 HUP0
    go_enter Tryz.func35, Tryz.ntmps35
    go_wp2_with fail
    refine (KA.out _ hal).mono ?_
    rintro e w1 ⟨rfl, hg1⟩
    go_wp2_with fail
    go_ret
    exact ⟨rfl, hal.trans hg1⟩
  | true =>
    rw [hq] at KA
    have HG := Lib.hid (HG0.out hq)
    have hgoal : goodJ bef x ↔ (PremJ bef x.2.1 x.2.1.length ∧ okJ x (givenJ bef x.2.1)) := by
      unfold goodJ
      rw [premJ_all]
      exact ⟨fun h => ⟨h.2.1, h.2.2⟩, fun h => ⟨hq, h.1, h.2⟩⟩
    rw [dcd_congr hgoal]
    clear hgoal HG0 hq
    obtain ⟨D0, hD0⟩ : ∃ D0, D0 = dcd (PremJ bef x.2.1 x.2.1.length ∧ okJ x (givenJ bef x.2.1)) := ⟨_, rfl⟩
    rw [← hD0]
    have HD0 := Lib.hid hD0
    clear hD0
    have HBD := Lib.hid hb
    obtain ⟨w0, hw0⟩ : ∃ w0, w0 = w.alloc (.cells #[.int .i64 x.1, .slice A x.2.1.length cP, .slice UA x.2.2.1.length ca, .string x.2.2.2.1, .string x.2.2.2.2] 42) := ⟨_, rfl⟩
    have hal0 : Grew w w0 := by rw [hw0]; exact hal
    have F00 : ∀ W, Grew w0 W → W.cell? ⟨w.heap.size, 0, none⟩ = some (.int .i64 x.1) := by rw [hw0]; exact fun W hW => (hW.cell (p := ⟨w.heap.size, 0, none⟩) (by simp)).trans (by simp)
    have F10 : ∀ W, Grew w0 W → W.cell? ⟨w.heap.size, 1, none⟩ = some (.slice A x.2.1.length cP) := by rw [hw0]; exact fun W hW => (hW.cell (p := ⟨w.heap.size, 1, none⟩) (by simp)).trans (by simp)
    have F20 : ∀ W, Grew w0 W → W.cell? ⟨w.heap.size, 2, none⟩ = some (.slice UA x.2.2.1.length ca) := by rw [hw0]; exact fun W hW => (hW.cell (p := ⟨w.heap.size, 2, none⟩) (by simp)).trans (by simp)
    have F30 : ∀ W, Grew w0 W → W.cell? ⟨w.heap.size, 3, none⟩ = some (.string x.2.2.2.1) := by rw [hw0]; exact fun W hW => (hW.cell (p := ⟨w.heap.size, 3, none⟩) (by simp)).trans (by simp)
    have F40 : ∀ W, Grew w0 W → W.cell? ⟨w.heap.size, 4, none⟩ = some (.string x.2.2.2.2) := by rw [hw0]; exact fun W hW => (hW.cell (p := ⟨w.heap.size, 4, none⟩) (by simp)).trans (by simp)
    have hw0s : w0.heap.size = w.heap.size + 1 := by rw [hw0]; simp
    replace KA := Lib.hid KA
    replace F00 := Lib.hid F00
    replace F10 := Lib.hid F10
    replace F20 := Lib.hid F20
    replace F30 := Lib.hid F30
    replace F40 := Lib.hid F40
    clear hup hb hs hfx hw0s
    replace hw0 := Lib.hid hw0
    go_enter Tryz.func35, Tryz.ntmps35
    go_wp2_with fail
    refine (KA.out _ hal).mono ?_
    rintro e w2 ⟨rfl, hg1⟩
    have g2 : Grew w0 w2 := by rw [hw0.out]; exact hg1
    have K1 := F10.out _ g2
    go_wp2_with fail
    go_loopw [5, 7, 19] (fun v5 _ i wr => ∃ j : Nat, j ≤ x.2.1.length ∧ i = .int .i64 j ∧ OwnJ w0 wr w0.heap.size v5 (givenM bef x.2.1 j) ∧ Grew w0 wr ∧ Hid (PremJ bef x.2.1 j)) (fun _ _ i _ => x.2.1.length - (intOf i).toNat)
    case atStart => exact ⟨0, Nat.zero_le _, rfl, OwnJ.nil_ _ _ _, g2, Lib.hid (fun i hi => absurd hi (by omega))⟩
    case round =>
      obtain ⟨j, hj, rfl, hO, hB, HP⟩ := hrel
      have hB0 := hal0.trans hB
      have hJl := givenM_len bef x.2.1 j
      by_cases hlt : j < x.2.1.length
      · rcases HUP0.out.open_ with ⟨_, h0⟩ | ⟨b1, o1, c1, hv1, _, hm1, hb1, hc1⟩
        · rw [h0] at hlt; simp at hlt
        obtain ⟨rfl, rfl⟩ : A = some ⟨b1, o1, none⟩ ∧ cP = c1 := by simpa using hv1
        have q1 := hc1 j hlt _ hB0
        clear hv1 hc1
        have KR := fun W => inRange_c (it x.2.1 j) 0 ((bef.length : Int) - 1) W
        by_cases hr : 0 ≤ it x.2.1 j ∧ it x.2.1 j ≤ (bef.length : Int) - 1
        · rw [decide_eq_true hr] at KR
          replace KR := Lib.hid KR
          obtain ⟨m, hm⟩ : ∃ m : Nat, it x.2.1 j = m := ⟨(it x.2.1 j).toNat, by omega⟩
          have hmb : m < bef.length := by omega
          rcases HBD.out with ⟨_, h0⟩ | ⟨b2, o2, c2, hv2, _, hm2, hb2, hc2⟩
          · rw [h0] at hmb; simp at hmb
          obtain ⟨rfl, rfl⟩ : VB = some ⟨b2, o2, none⟩ ∧ vc = c2 := by simpa using hv2
          have hy : bef[m]? = some bef[m] := List.getElem?_eq_getElem hmb
          generalize bef[m] = y at hy
          obtain ⟨yp, ya, hcy, hyp, hys⟩ := hc2 m y hy
          clear hv2 hc2
          have HST := Lib.hid (givenM_succ hlt hm hy)
          have HCY := Lib.hid hcy
          have HPN : Hid (PremJ bef x.2.1 (j + 1)) := Lib.hid (fun i hi => by
            rcases Nat.lt_or_ge i j with hk | hk
            · exact HP.out i hk
            · obtain rfl : i = j := by omega
              exact hr)
          rw [hm] at q1 KR
          have KJ := Lib.hid (fun W (hW : Grew wr W) => goal_c y yp ya W (hyp.grew (hB0.trans hW)) (hys.grew (hB0.trans hW)))
          have HYS := Lib.hid (hys.grew hal0)
          clear hcy hr hm hy hyp hys
          generalize givenM bef x.2.1 j = X at *
          go_wp2_with fail
          refine (KR.out _).mono ?_
          rintro e w3 ⟨rfl, hg3⟩
          obtain ⟨r0, r1, r2, r3, r4⟩ := HCY.out.grew hb2 (hB0.trans hg3)
          go_wp2_with fail
          refine (KJ.out _ hg3).mono ?_
          rintro e w4 ⟨rfl, hg4⟩
          have hO1 := hO.grew ((hg3.trans hg4).trans ((Grew.refl w4).alloc (.cells #[ya, .string y.2.2.2.1] 63)))
          have hB1 := (hB.trans (hg3.trans hg4)).alloc (.cells #[ya, .string y.2.2.2.1] 63)
          go_wp2_with (first | (at_builtin; refine wpList_appJ (w0 := w0) _ _ rfl rfl _ X rfl hO1 hB1 _ _ (js y) rfl (rd_litJ _ _ _ _) HYS.out (by omega) ?_; intro v2 w5 hown2 hg5 hgr5))
          go_roundw
          case rel => exact ⟨j + 1, by omega, by go_num, by rw [HST.out]; exact hown2, hg5, HPN⟩
          case measure => simp [intOf]; omega
        · rw [decide_eq_false hr] at KR
          replace KR := Lib.hid KR
          have HNO := Lib.hid (HD0.out.trans (dcd_false (fun h => hr (h.1 j hlt))))
          clear hr
          generalize it x.2.1 j = k at *
          go_wp2_with fail
          refine (KR.out _).mono ?_
          rintro e w3 ⟨rfl, hg3⟩
          go_wp2_with fail
          go_ret
          exact ⟨congrArg (fun b => Ending.returned (Value.bool b)) HNO.out.symm, hB0.trans hg3⟩
      · obtain rfl : j = x.2.1.length := by omega
        rw [givenM_all] at hO
        have hfin : (PremJ bef x.2.1 x.2.1.length ∧ okJ x (givenJ bef x.2.1)) ↔ okJ x (givenJ bef x.2.1) := ⟨fun h => h.2, fun h => ⟨HP.out, h⟩⟩
        have HV := Lib.hid (HD0.out.trans (dcd_congr hfin))
        clear hfin HD0
        have HJ := Lib.hid (hO.jgs hB)
        have p0 := F00.out
        have p2 := F20.out
        have p3 := F30.out
        have p4 := F40.out
        clear hO HBD HUP0 hJl
        generalize givenJ bef x.2.1 = J at *
        by_cases h10 : x.1 = 10
        · have e10 : (x.1 == 10) = true := by simpa using h10
          have hok : okJ x J ↔ weakP x.2.2.1 x.2.2.2.1 x.2.2.2.2 J := ⟨fun h => h.elim (fun h => h.2) (fun h => absurd h10 h.1), fun h => .inl ⟨h10, h⟩⟩
          have HV2 := Lib.hid (HV.out.trans (dcd_congr hok))
          clear hok h10 HG HGO HV
          have q0 := p0 _ hB
          have z2 := fun W (hW : Grew wr W) => p2 W (hB.trans hW)
          have z3 := fun W (hW : Grew wr W) => p3 W (hB.trans hW)
          have z4 := fun W (hW : Grew wr W) => p4 W (hB.trans hW)
          have rr := Grew.refl wr
          have rd := rr.drew
          clear p0 p2 p3 p4 F00 F10 F20 F30 F40
          by_cases hM : x.2.2.2.2 = ByteArray.empty
          · have he : x.2.2.2.2.toList.isEmpty = true := by rw [hM]; exact empty_yes
            by_cases hl : J.length = 1
            · obtain ⟨⟨K, D⟩, rfl⟩ : ∃ a, J = [a] := by
                match J, hl with
                | [a], _ => exact ⟨a, rfl⟩
              rcases HJ.out.open_ with ⟨_, h0⟩ | ⟨bj, oj, cj, rfl, hcj, hmj, hbj, hfj⟩
              · cases h0
              obtain ⟨uK, k12, hK⟩ := hfj 0 (K, D) rfl
              have k1 := fun W hW => (k12 W hW).1
              have k2 := fun W hW => (k12 W hW).2
              have HK := Lib.hid hK
              obtain ⟨AK, cK, rfl⟩ := strs_slice hK
              clear hfj k12 hK HJ hl hcj hmj hbj
              rw [Nat.zero_mul, Nat.add_zero] at k1 k2
              simp only [List.length_singleton] at *
              have i1 : (0 : Int) < (1 : Int) := by omega
              have gd := hB.trans rr.drew
              by_cases hD : D = x.2.2.2.1
              · subst hD
                have hw : weakP x.2.2.1 x.2.2.2.1 x.2.2.2.2 [(K, x.2.2.2.1)] ↔ ∀ s ∈ K, s ∈ x.2.2.1 := ⟨fun h => by obtain ⟨_, K', h1, h2⟩ := h; cases h1; exact h2, fun h => ⟨hM, K, rfl, h⟩⟩
                have HV3 := Lib.hid (HV2.out.trans (dcd_congr hw))
                have KS := Lib.hid (fun W (hW : Grew wr W) => subset_c _ _ K x.2.2.1 W (HK.out.grew hW) (HS0.out.grew (hB0.trans hW)) (by omega))
                clear hw hM HV2
                have qs : (x.2.2.2.1.toList == x.2.2.2.1.toList) = true := by simp
                generalize dcd (∀ s ∈ K, s ∈ x.2.2.1) = R at *
                go_wp2_with fail
                go_region_held3 (fun w' => Grew wr w') (first | with_reducible assumption | exact Grew.alloc ‹_› _)
                  (first
                   | (go_at_call 47; refine (KS.out _ (by first | with_reducible exact rr.drew | (repeat (first | with_reducible assumption | with_reducible refine Grew.drew ?_)))).mono ?_; rintro e w3 ⟨rfl, hg3⟩; have hk3 : Grew wr w3 := rr.drew.trans hg3))
                all_goals go_wp2_with fail
                all_goals go_ret
                all_goals exact ⟨congrArg (fun b => Ending.returned (Value.bool b)) HV3.out.symm, hB0.trans hk3⟩
              · have HV3 := Lib.hid (HV2.out.trans (dcd_false (fun h => by obtain ⟨_, K', h1, h2⟩ := h; cases h1; exact hD rfl)))
                have qs := bytes_ne hD
                clear hD hM
                go_wp2_with fail
                go_quiet (fail)
                go_wp2_with fail
                go_ret
                exact ⟨congrArg (fun b => Ending.returned (Value.bool b)) HV3.out.symm, by first | assumption | exact hB0.drewN _⟩
            · have HV3 := Lib.hid (HV2.out.trans (dcd_false (fun h => by obtain ⟨_, K', h1, h2⟩ := h; rw [h1] at hl; exact hl rfl)))
              obtain ⟨AJ, cJ, rfl⟩ := jgs_slice HJ.out
              have ql : (((J.length : Nat) : Int) == 1) = false := by simp; omega
              clear hl HJ hM
              generalize J.length = jl at *
              go_wp2_with fail
              go_quiet (fail)
              go_wp2_with fail
              go_ret
              exact ⟨congrArg (fun b => Ending.returned (Value.bool b)) HV3.out.symm, by first | assumption | exact hB0.drewN _⟩
          · have HV3 := Lib.hid (HV2.out.trans (dcd_false (fun h => hM h.1)))
            have he := empty_no hM
            obtain ⟨AJ, cJ, rfl⟩ := jgs_slice HJ.out
            clear HJ hM
            generalize J.length = jl at *
            go_wp2_with fail
            go_quiet (fail)
            go_wp2_with fail
            go_ret
            exact ⟨congrArg (fun b => Ending.returned (Value.bool b)) HV3.out.symm, by first | assumption | exact hB0.drewN _⟩
        · have e10 : (x.1 == 10) = false := by simpa using h10
          have hok : okJ x J ↔ gls x.1 x.2.2.1 x.2.2.2.1 x.2.2.2.2 = some J := ⟨fun h => h.elim (fun h => absurd h.1 h10) (fun h => h.2), fun h => .inr ⟨h10, h⟩⟩
          have HV2 := Lib.hid (HV.out.trans (dcd_congr hok))
          clear hok h10 HV
          have HGv := Lib.hid (fun W (hW : Grew wr W) => HG.out W (hB0.trans hW))
          have HGOv := Lib.hid (fun W (hW : Grew wr W) => HGO.out W (hB0.trans hW))
          obtain ⟨AJ, cJ, rfl⟩ := jgs_slice HJ.out
          have KE := Lib.hid (fun u Ks W (hW : Grew wr W) hu => equalFuncJ_c _ u J Ks W (HJ.out.grew hW) hu (enters_of Tryz.func50 (by kernel_rfl) rfl))
          clear HG HGO HJ
          unfold GivesO at HGv
          generalize gls x.1 x.2.2.1 x.2.2.2.1 x.2.2.2.2 = O at *
          have rr := Grew.refl wr
          have rd := rr.drew
          have p1 := F10.out
          have q0 := p0 _ hB
          have q1 := fun W (hW : Grew wr W) => p1 W (hB.trans hW)
          have q2 := fun W (hW : Grew wr W) => p2 W (hB.trans hW)
          have q3 := fun W (hW : Grew wr W) => p3 W (hB.trans hW)
          have q4 := fun W (hW : Grew wr W) => p4 W (hB.trans hW)
          have qq0 := fun W (hW : Grew wr W) => p0 W (hB.trans hW)
          clear p0 p1 p2 p3 p4 F00 F10 F20 F30 F40
          cases O with
          | none =>
            have HV3 := Lib.hid (HV2.out.trans (dcd_false (fun h => by cases h)))
            generalize J.length = jl at *
            go_wp2_with fail
            go_region_held3 (fun w' => Grew wr w') (first | with_reducible assumption | exact Grew.alloc ‹_› _)
              (first
               | (go_at_call 48; refine (HGv.out _ hk3).mono ?_; rintro e w4 ⟨u4, rfl, ⟨A4, n4, c4, rfl⟩, hj4, hg4⟩; clear hj4; have hk4 := hk3.trans hg4)
               | (go_at_call 46; refine (HGOv.out _ rr.drew).mono ?_; rintro e w3 ⟨rfl, hg3⟩; have hk3 : Grew wr w3 := rr.drew.trans hg3))
            all_goals go_wp2_with fail
            all_goals go_ret
            all_goals exact ⟨congrArg (fun b => Ending.returned (Value.bool b)) HV3.out.symm, hB0.trans hk4⟩
          | some Ks =>
            have hso : (some Ks = some J) ↔ J = Ks := ⟨fun h => (Option.some.inj h).symm, fun h => by rw [h]⟩
            have HV3 := Lib.hid (HV2.out.trans (dcd_congr hso))
            clear hso HV2
            generalize J.length = jl at *
            go_wp2_with fail
            go_region_held3 (fun w' => Grew wr w') (first | with_reducible assumption | exact Grew.alloc ‹_› _)
              (first
               | (go_at_call 48; refine (HGv.out _ hk3).mono ?_; rintro e w4 ⟨u4, rfl, ⟨A4, n4, c4, rfl⟩, hj4, hg4⟩; have HK4 := Lib.hid (hj4 Ks rfl); clear hj4; have hk4 := hk3.trans hg4)
               | (go_at_call 46; refine (HGOv.out _ rr.drew).mono ?_; rintro e w3 ⟨rfl, hg3⟩; have hk3 : Grew wr w3 := rr.drew.trans hg3))
            all_goals go_wp2_with fail
            all_goals refine (KE.out _ Ks _ hk4 HK4.out).mono ?_
            all_goals rintro e w5 ⟨rfl, hg5⟩
            all_goals go_wp2_with fail
            all_goals go_ret
            all_goals exact ⟨congrArg (fun b => Ending.returned (Value.bool b)) HV3.out.symm, (hB0.trans hk4).trans hg5⟩
end Go.Proofs.YtkjmfkllmljdeaaGreat

/- firstBadInference, FirstBadInference of the program. -/
namespace Go.Proofs.YtkjmfkllmljdeaaGreat
open Go.RowKit

theorem Jfs.take {w : World} {A : Option Addr} {n c : Nat} {xs : List Jf} (h : Jfs w (.slice A n c) xs) (i : Nat) (hi : i ≤ xs.length) : Jfs w (.slice A i c) (xs.take i) := by
  rcases h with ⟨h1, h2⟩ | ⟨b, o, c', h1, h2, h3, h4, h5⟩
  · subst h2
    obtain rfl : i = 0 := by simpa using hi
    cases h1
    exact .inl ⟨rfl, rfl⟩
  · obtain ⟨rfl, rfl, rfl⟩ : A = some ⟨b, o, none⟩ ∧ n = xs.length ∧ c = c' := by simpa using h1
    refine .inr ⟨b, o, c, by simp [Nat.min_eq_left hi], by simp; omega, h3, h4, fun j x hx => ?_⟩
    rw [List.getElem?_take] at hx
    split at hx
    · exact h5 j x hx
    · cases hx

set_option maxHeartbeats 2000000 in
theorem firstBadInference_c (v : Value) (xs : List Jf) (w : World) (hv : Jfs w v xs) (hf : FitsJf xs) (hl : xs.length ≤ 1000) :
    Calls Tryz.prog 24 #[v] w fun e w' => e = .returned (.int .i64 (fbj xs xs.length)) ∧ Grew w w' := by
  obtain ⟨A, c, rfl⟩ := Jfs_slice hv
  have HV := Lib.hid hv
  have HF := Lib.hid hf
  clear hv hf
  go_enter Tryz.func24, Tryz.ntmps24
  go_wp2_with fail
  go_loopw [7] (fun i wr => ∃ j : Nat, j ≤ xs.length ∧ i = .int .i64 j ∧ Grew w wr ∧ Hid (fbj xs j = -1)) (fun i _ => xs.length - (intOf i).toNat)
  case atStart => exact ⟨0, Nat.zero_le _, rfl, Grew.refl _, Lib.hid rfl⟩
  case round =>
    obtain ⟨j, hj, rfl, hB, HJ⟩ := hrel
    by_cases hlt : j < xs.length
    · have hd := Jfs.take HV.out j (by omega)
      rcases HV.out with ⟨_, h0⟩ | ⟨b, o, c', hv, hc, hm, hb, hcell⟩
      · rw [h0] at hlt; simp at hlt
      obtain ⟨rfl, rfl⟩ : A = some ⟨b, o, none⟩ ∧ c = c' := by simpa using hv
      have hx : xs[j]? = some xs[j] := List.getElem?_eq_getElem hlt
      have hfx := HF.out _ (List.getElem_mem hlt)
      generalize xs[j] = x at hx hfx
      obtain ⟨up, ua, hcl, hup, hus⟩ := hcell j x hx
      obtain ⟨k0, k1, k2, k3, k4⟩ := hcl.grew hb hB
      have KG := fun W (hW : Grew w W) => isGoodInference_c (xs.take j) _ x up ua W (hd.grew hW) (hup.grew hW) (hus.grew hW) hfx (by simp; omega)
      obtain ⟨A1, ca1, rfl⟩ := ints_slice hup
      obtain ⟨A2, ca2, rfl⟩ := strs_slice hus
      clear hd hv hcell hcl hup hus
      have hjc : (j : Int) ≤ c := by omega
      have hcm : (c : Int) ≤ 9223372036854775807 := by omega
      by_cases hg : goodJ (xs.take j) x
      · rw [dcd_true hg] at KG
        replace KG := Lib.hid KG
        have HN : Hid (fbj xs (j + 1) = -1) := Lib.hid (fbj_good HJ.out hx hg)
        clear hg hx
        go_wp2_with fail
        generalize hw1 : wr.alloc (.cells #[.int .i64 x.1, .slice A1 x.2.1.length ca1, .slice A2 x.2.2.1.length ca2, .string x.2.2.2.1, .string x.2.2.2.2] 42) = w1 at *
        have g1 : Grew w w1 := by rw [← hw1]; exact hB.alloc _
        have e0 : w1.cell? ⟨wr.heap.size, 0, none⟩ = some (.int .i64 x.1) ∧ w1.cell? ⟨wr.heap.size, 1, none⟩ = some (.slice A1 x.2.1.length ca1) ∧ w1.cell? ⟨wr.heap.size, 2, none⟩ = some (.slice A2 x.2.2.1.length ca2) ∧ w1.cell? ⟨wr.heap.size, 3, none⟩ = some (.string x.2.2.2.1) ∧ w1.cell? ⟨wr.heap.size, 4, none⟩ = some (.string x.2.2.2.2) := by
          rw [← hw1]
          exact ⟨by simp, by simp, by simp, by simp, by simp⟩
        have hbk : wr.heap.size < w1.heap.size := by rw [← hw1]; simp
        clear hw1 k0 k1 k2 k3 k4
        obtain ⟨q0, q1, q2, q3, q4⟩ := e0
        have f0 : ∀ W, Grew w1 W → W.cell? ⟨wr.heap.size, 0, none⟩ = some (.int .i64 x.1) := fun W hW => (hW.cell (p := ⟨wr.heap.size, 0, none⟩) hbk).trans q0
        have f1 : ∀ W, Grew w1 W → W.cell? ⟨wr.heap.size, 1, none⟩ = some (.slice A1 x.2.1.length ca1) := fun W hW => (hW.cell (p := ⟨wr.heap.size, 1, none⟩) hbk).trans q1
        have f2 : ∀ W, Grew w1 W → W.cell? ⟨wr.heap.size, 2, none⟩ = some (.slice A2 x.2.2.1.length ca2) := fun W hW => (hW.cell (p := ⟨wr.heap.size, 2, none⟩) hbk).trans q2
        have f3 : ∀ W, Grew w1 W → W.cell? ⟨wr.heap.size, 3, none⟩ = some (.string x.2.2.2.1) := fun W hW => (hW.cell (p := ⟨wr.heap.size, 3, none⟩) hbk).trans q3
        have f4 : ∀ W, Grew w1 W → W.cell? ⟨wr.heap.size, 4, none⟩ = some (.string x.2.2.2.2) := fun W hW => (hW.cell (p := ⟨wr.heap.size, 4, none⟩) hbk).trans q4
        clear q0 q1 q2 q3 q4
        have r1 := Grew.refl w1
        have d1 := r1.drew
        have gd := g1.trans d1
        go_region_held3 (fun w' => Grew w1 w') (with_reducible assumption)
          (first | (go_at_call 35; refine (KG.out _ gd).mono ?_; rintro e w2 ⟨rfl, hg2⟩; have hk := gd.trans hg2; have hk1 := d1.trans hg2))
        go_wp2_with fail
        go_roundw
        case rel => exact ⟨j + 1, by omega, by go_num, hk, HN⟩
        case measure => simp [intOf]; omega
      · rw [dcd_false hg] at KG
        replace KG := Lib.hid KG
        have HN : Hid (fbj xs xs.length = j) := Lib.hid (fbj_bad HJ.out (fun ⟨y, hy, hgy⟩ => hg (by rw [hx] at hy; cases hy; exact hgy)) hlt)
        clear hg hx
        go_wp2_with fail
        generalize hw1 : wr.alloc (.cells #[.int .i64 x.1, .slice A1 x.2.1.length ca1, .slice A2 x.2.2.1.length ca2, .string x.2.2.2.1, .string x.2.2.2.2] 42) = w1 at *
        have g1 : Grew w w1 := by rw [← hw1]; exact hB.alloc _
        have e0 : w1.cell? ⟨wr.heap.size, 0, none⟩ = some (.int .i64 x.1) ∧ w1.cell? ⟨wr.heap.size, 1, none⟩ = some (.slice A1 x.2.1.length ca1) ∧ w1.cell? ⟨wr.heap.size, 2, none⟩ = some (.slice A2 x.2.2.1.length ca2) ∧ w1.cell? ⟨wr.heap.size, 3, none⟩ = some (.string x.2.2.2.1) ∧ w1.cell? ⟨wr.heap.size, 4, none⟩ = some (.string x.2.2.2.2) := by
          rw [← hw1]
          exact ⟨by simp, by simp, by simp, by simp, by simp⟩
        have hbk : wr.heap.size < w1.heap.size := by rw [← hw1]; simp
        clear hw1 k0 k1 k2 k3 k4
        obtain ⟨q0, q1, q2, q3, q4⟩ := e0
        have f0 : ∀ W, Grew w1 W → W.cell? ⟨wr.heap.size, 0, none⟩ = some (.int .i64 x.1) := fun W hW => (hW.cell (p := ⟨wr.heap.size, 0, none⟩) hbk).trans q0
        have f1 : ∀ W, Grew w1 W → W.cell? ⟨wr.heap.size, 1, none⟩ = some (.slice A1 x.2.1.length ca1) := fun W hW => (hW.cell (p := ⟨wr.heap.size, 1, none⟩) hbk).trans q1
        have f2 : ∀ W, Grew w1 W → W.cell? ⟨wr.heap.size, 2, none⟩ = some (.slice A2 x.2.2.1.length ca2) := fun W hW => (hW.cell (p := ⟨wr.heap.size, 2, none⟩) hbk).trans q2
        have f3 : ∀ W, Grew w1 W → W.cell? ⟨wr.heap.size, 3, none⟩ = some (.string x.2.2.2.1) := fun W hW => (hW.cell (p := ⟨wr.heap.size, 3, none⟩) hbk).trans q3
        have f4 : ∀ W, Grew w1 W → W.cell? ⟨wr.heap.size, 4, none⟩ = some (.string x.2.2.2.2) := fun W hW => (hW.cell (p := ⟨wr.heap.size, 4, none⟩) hbk).trans q4
        clear q0 q1 q2 q3 q4
        have r1 := Grew.refl w1
        have d1 := r1.drew
        have gd := g1.trans d1
        go_region_held3 (fun w' => Grew w1 w') (with_reducible assumption)
          (first | (go_at_call 35; refine (KG.out _ gd).mono ?_; rintro e w2 ⟨rfl, hg2⟩; have hk := gd.trans hg2; have hk1 := d1.trans hg2))
        go_wp2_with fail
        go_ret
        exact ⟨congrArg (fun k => Ending.returned (Value.int .i64 k)) HN.out.symm, hk⟩
    · obtain rfl : j = xs.length := by omega
      go_wp2_with fail
      go_ret
      exact ⟨congrArg (fun k => Ending.returned (Value.int .i64 k)) HJ.out.symm, hB⟩
end Go.Proofs.YtkjmfkllmljdeaaGreat

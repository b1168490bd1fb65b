/- Texts in one file: JsRc JsRd. -/
import Derived.Test.YtkjmfkllmljdeaaGreatPa1
import Derived.Test.YtkjmfkllmljdeaaGreatPa2
import Derived.Test.YtkjmfkllmljdeaaGreatPa3
set_option linter.all false

/- l22Fits of the reference at some rules. -/
namespace Go.Proofs.YtkjmfkllmljdeaaGreat
open Go.RowKit

set_option maxHeartbeats 8000000 in
set_option maxRecDepth 8192 in
theorem ruleJ_5 (P : List Int) (A : List ByteArray) (C M : ByteArray) : RuleJ (5, P, A, C, M) 2 := by
  intro up ua vp p w hup hs hv hq hC hM hu hk
  simp only at hup hs hq hC hM hu hk ⊢
  obtain ⟨hgC, hasc, hln⟩ := sqB_and hq
  have hUp := ascP_up hasc
  obtain ⟨y0, y1, rfl⟩ := lenJ2 hk
  obtain ⟨r0, P0, A0, C0, M0⟩ := y0
  obtain ⟨r1, P1, A1, C1, M1⟩ := y1
  obtain ⟨pb, po, pc, rfl, hpc, hpm, hat⟩ := jfs_at hv (by simp)
  have hiff : okJ (5, P, A, C, M) ([(r0, P0, A0, C0, M0), (r1, P1, A1, C1, M1)].map js) ↔ (isK M 3 ∧ M ∈ A ∧ js (r0, P0, A0, C0, M0) = (putS (A ++ [pl M]), C) ∧ js (r1, P1, A1, C1, M1) = (putS (A ++ [pr M]), C)) := by
    have hgA := ascP_gp hasc
    exact okJ_5 hasc
  rw [dcd_congr hiff]
  clear hiff
  obtain ⟨up0, ua0, q0a, q0b, q0c, q0d, q0e, hp0, hu0⟩ := hat 0 _ rfl
  simp only [Nat.zero_mul, Nat.add_zero] at q0a q0b q0c q0d q0e hp0 hu0
  obtain ⟨up1, ua1, q1a, q1b, q1c, q1d, q1e, hp1, hu1⟩ := hat 1 _ rfl
  simp only [Nat.one_mul] at q1a q1b q1c q1d q1e hp1 hu1
  have KN0 := fun W (hW : Grew w W) v (hv : Strs W v (putS (A ++ [pl M]))) => needJ_c (r0, P0, A0, C0, M0) up0 ua0 v (putS (A ++ [pl M])) (C) W (hp0.grew hW) (hu0.grew hW) hv
  have KW0 := Lib.hid (fun W (hW : Grew w W) v (hv : Strs W v [pl M]) => with1_c ua v A (pl M) W (hs.grew hW) hv (by omega) hUp)
  have KN1 := fun W (hW : Grew w W) v (hv : Strs W v (putS (A ++ [pr M]))) => needJ_c (r1, P1, A1, C1, M1) up1 ua1 v (putS (A ++ [pr M])) (C) W (hp1.grew hW) (hu1.grew hW) hv
  have KW1 := Lib.hid (fun W (hW : Grew w W) v (hv : Strs W v [pr M]) => with1_c ua v A (pr M) W (hs.grew hW) hv (by omega) hUp)
  have KY := fun W (hW : Grew w W) => l01Says_c ua A M W (hs.grew hW) (by omega)
  rw [dc_dcd] at KY
  have HSA := Lib.hid (fun W (hW : Grew w W) => hs.grew hW)
  obtain ⟨VP, cp, rfl⟩ := ints_slice hup
  obtain ⟨UA, ca, rfl⟩ := strs_slice hs
  obtain ⟨V0, d0, rfl⟩ := ints_slice hp0
  obtain ⟨U0, c0, rfl⟩ := strs_slice hu0
  obtain ⟨V1, d1, rfl⟩ := ints_slice hp1
  obtain ⟨U1, c1, rfl⟩ := strs_slice hu1
  simp only [List.length_cons, List.length_nil] at hpc ⊢
  have hal := (Grew.refl w).alloc (.cells #[.int .i64 5, .slice VP P.length cp, .slice UA A.length ca, .string C, .string M] 42)
  have f0 : ∀ W, Grew (w.alloc (.cells #[.int .i64 5, .slice VP P.length cp, .slice UA A.length ca, .string C, .string M] 42)) W → W.cell? ⟨w.heap.size, 0, none⟩ = some (.int .i64 5) := fun W hW => (hW.cell (p := ⟨w.heap.size, 0, none⟩) (by simp)).trans (by simp)
  have f2 : ∀ W, Grew (w.alloc (.cells #[.int .i64 5, .slice VP P.length cp, .slice UA A.length ca, .string C, .string M] 42)) W → W.cell? ⟨w.heap.size, 2, none⟩ = some (.slice UA A.length ca) := fun W hW => (hW.cell (p := ⟨w.heap.size, 2, none⟩) (by simp)).trans (by simp)
  have f3 : ∀ W, Grew (w.alloc (.cells #[.int .i64 5, .slice VP P.length cp, .slice UA A.length ca, .string C, .string M] 42)) W → W.cell? ⟨w.heap.size, 3, none⟩ = some (.string C) := fun W hW => (hW.cell (p := ⟨w.heap.size, 3, none⟩) (by simp)).trans (by simp)
  have f4 : ∀ W, Grew (w.alloc (.cells #[.int .i64 5, .slice VP P.length cp, .slice UA A.length ca, .string C, .string M] 42)) W → W.cell? ⟨w.heap.size, 4, none⟩ = some (.string M) := fun W hW => (hW.cell (p := ⟨w.heap.size, 4, none⟩) (by simp)).trans (by simp)
  clear hup hs hv hat hk hq hasc hUp hu hu0 hp0 hu1 hp1
  generalize P.length = pln at *
  generalize A.length = al at *
  generalize A0.length = al0 at *
  generalize A1.length = al1 at *
  generalize P0.length = pl0 at *
  generalize P1.length = pl1 at *
  generalize hwb : w.alloc (.cells #[.int .i64 5, .slice VP pln cp, .slice UA al ca, .string C, .string M] 42) = wb at *
  have rb := Grew.refl wb
  have rbd := rb.drew
  have rbn := fun n => rb.drewN n
  by_cases h0 : isK M 3
  · have hh : True := trivial
    have KP := Lib.hid (fun W => split_yes 3 M W h0 (by decide))
    by_cases h1 : M ∈ A
    · have hh : True := trivial
      rw [dcd_true h1] at KY
      by_cases h2 : js (r0, P0, A0, C0, M0) = (putS (A ++ [pl M]), C)
      · have hh : True := trivial
        rw [dcd_true h2] at KN0
        by_cases h3 : js (r1, P1, A1, C1, M1) = (putS (A ++ [pr M]), C)
        · have hh : True := trivial
          rw [dcd_true h3] at KN1
          rw [dcd_true ⟨h0, h1, h2, h3⟩]
          replace KN0 := Lib.hid KN0
          replace KN1 := Lib.hid KN1
          replace KY := Lib.hid KY
          replace hwb := hwb.symm
          clear h0 h1 h2 h3
          go_enter Tryz.func43, Tryz.ntmps43
          go_wp2_with fail
          rw [← hwb]
          clear hwb
          go_quiet (fail)
          go_wp2_with fail
          refine (KP.out _).mono ?_
          rintro e w1 ⟨rfl, hg1'⟩
          have hg1 : Grew wb w1 := Grew.trans (by repeat (first | with_reducible assumption | with_reducible refine Grew.alloc ?_ _ | with_reducible refine Grew.drew ?_ | with_reducible refine Grew.drewN ?_ _)) hg1'
          have g1 := hal.trans hg1
          have r1 := Grew.refl w1
          have d1 := r1.drew
          have gd := g1.trans d1
          have e0 := fun W (hW : Grew w1 W) => f0 W (hg1.trans hW)
          have e2 := fun W (hW : Grew w1 W) => f2 W (hg1.trans hW)
          have e3 := fun W (hW : Grew w1 W) => f3 W (hg1.trans hW)
          have e4 := fun W (hW : Grew w1 W) => f4 W (hg1.trans hW)
          have p0a := fun W (hW : Grew w1 W) => q0a W (g1.trans hW)
          have p0b := fun W (hW : Grew w1 W) => q0b W (g1.trans hW)
          have p0c := fun W (hW : Grew w1 W) => q0c W (g1.trans hW)
          have p0d := fun W (hW : Grew w1 W) => q0d W (g1.trans hW)
          have p0e := fun W (hW : Grew w1 W) => q0e W (g1.trans hW)
          have p1a := fun W (hW : Grew w1 W) => q1a W (g1.trans hW)
          have p1b := fun W (hW : Grew w1 W) => q1b W (g1.trans hW)
          have p1c := fun W (hW : Grew w1 W) => q1c W (g1.trans hW)
          have p1d := fun W (hW : Grew w1 W) => q1d W (g1.trans hW)
          have p1e := fun W (hW : Grew w1 W) => q1e W (g1.trans hW)
          clear f0 f2 f3 f4 q0a q0b q0c q0d q0e q1a q1b q1c q1d q1e
          go_wp2_with fail
          refine wp_region_held_drew (S := fun w' => Grew w1 w') (by kernel_rfl) d1 (fun hHeld => ?_)
          refine wpAnyH_take (i := 0) (oi := ?on81) (v := ?vn81) ?hin81 ?an81 ?bn81 ?cn81 ?qn81 (Or.inl ⟨?dn81, ?hyn81⟩) hHeld ?restn81
          case hin81 => (simp only [List.getElem?_toArray, List.getElem?_cons_zero]; exact rfl)
          case an81 => kernel_rfl
          case bn81 => kernel_rfl
          case cn81 => kernel_rfl
          case qn81 => exact fun _ _ _ h => h
          case dn81 => rfl
          case hyn81 => (intro z hSw; (try dsimp only at hSw); go_simp; (try with_reducible rfl))
          try simp only [Act.put, List.setIfInBounds_toArray, List.set_cons_zero, List.set_cons_succ]
          refine wpAnyH_take (i := 1) (oi := ?on82) (v := ?vn82) ?hin82 ?an82 ?bn82 ?cn82 ?qn82 (Or.inl ⟨?dn82, ?hyn82⟩) hHeld ?restn82
          case hin82 => (simp only [List.getElem?_toArray, List.getElem?_cons_succ, List.getElem?_cons_zero]; exact rfl)
          case an82 => kernel_rfl
          case bn82 => kernel_rfl
          case cn82 => kernel_rfl
          case qn82 => exact fun _ _ _ h => h
          case dn82 => rfl
          case hyn82 => (intro z hSw; (try dsimp only at hSw); go_simp; (try with_reducible rfl))
          try simp only [Act.put, List.setIfInBounds_toArray, List.set_cons_zero, List.set_cons_succ]
          refine wpAnyH_take (i := 2) (oi := ?on83) (v := ?vn83) ?hin83 ?an83 ?bn83 ?cn83 ?qn83 (Or.inl ⟨?dn83, ?hyn83⟩) hHeld ?restn83
          case hin83 => (simp only [List.getElem?_toArray, List.getElem?_cons_succ, List.getElem?_cons_zero]; exact rfl)
          case an83 => kernel_rfl
          case bn83 => kernel_rfl
          case cn83 => kernel_rfl
          case qn83 => exact fun _ _ _ h => h
          case dn83 => rfl
          case hyn83 => (intro z hSw; (try dsimp only at hSw); go_simp; (try with_reducible rfl))
          try simp only [Act.put, List.setIfInBounds_toArray, List.set_cons_zero, List.set_cons_succ]
          refine wpAnyH_take (i := 3) (oi := ?on84) (v := ?vn84) ?hin84 ?an84 ?bn84 ?cn84 ?qn84 (Or.inl ⟨?dn84, ?hyn84⟩) hHeld ?restn84
          case hin84 => (simp only [List.getElem?_toArray, List.getElem?_cons_succ, List.getElem?_cons_zero]; exact rfl)
          case an84 => kernel_rfl
          case bn84 => kernel_rfl
          case cn84 => kernel_rfl
          case qn84 => exact fun _ _ _ h => h
          case dn84 => rfl
          case hyn84 => (intro z hSw; (try dsimp only at hSw); go_simp; (try with_reducible rfl))
          try simp only [Act.put, List.setIfInBounds_toArray, List.set_cons_zero, List.set_cons_succ]
          refine wpAnyH_take (i := 4) (oi := ?on85) (v := ?vn85) ?hin85 ?an85 ?bn85 ?cn85 ?qn85 (Or.inl ⟨?dn85, ?hyn85⟩) hHeld ?restn85
          case hin85 => (simp only [List.getElem?_toArray, List.getElem?_cons_succ, List.getElem?_cons_zero]; exact rfl)
          case an85 => kernel_rfl
          case bn85 => kernel_rfl
          case cn85 => kernel_rfl
          case qn85 => exact fun _ _ _ h => h
          case dn85 => rfl
          case hyn85 => (intro z hSw; (try dsimp only at hSw); go_simp; (try with_reducible rfl))
          try simp only [Act.put, List.setIfInBounds_toArray, List.set_cons_zero, List.set_cons_succ]
          refine wpAnyH_ready (rs := [5]) (by kernel_rfl) (by simp) ?_
          refine AllReadyH.cons (o := ?on86) ?hin86 ?restn86 AllReadyH.nil
          case hin86 => (simp only [List.getElem?_toArray, List.getElem?_cons_succ, List.getElem?_cons_zero]; exact rfl)
          intro K hK
          go_simp
          go_at_call 54
          refine (KY.out _ (by repeat (first | with_reducible assumption | with_reducible refine Grew.alloc ?_ _ | with_reducible refine Grew.drew ?_ | with_reducible refine Grew.drewN ?_ _))).mono ?_
          rintro e ws ⟨rfl, hgs⟩
          have gws : Grew w ws := Grew.trans (by repeat (first | with_reducible assumption | with_reducible refine Grew.alloc ?_ _ | with_reducible refine Grew.drew ?_ | with_reducible refine Grew.drewN ?_ _)) hgs
          have mws : Grew w1 ws := Grew.trans (by repeat (first | with_reducible assumption | with_reducible refine Grew.alloc ?_ _ | with_reducible refine Grew.drew ?_ | with_reducible refine Grew.drewN ?_ _)) hgs
          refine hK.out _ _ ?_ (fun hHeld => ?_)
          · (try dsimp only); first | with_reducible assumption | exact Grew.alloc ‹_› _
          clear hK K
          try simp only [Act.put, List.setIfInBounds_toArray, List.set_cons_zero, List.set_cons_succ]
          refine wpAnyH_take (i := 6) (oi := ?on87) (v := ?vn87) ?hin87 ?an87 ?bn87 ?cn87 ?qn87 (Or.inl ⟨?dn87, ?hyn87⟩) hHeld ?restn87
          case hin87 => (simp only [List.getElem?_toArray, List.getElem?_cons_succ, List.getElem?_cons_zero]; exact rfl)
          case an87 => kernel_rfl
          case bn87 => kernel_rfl
          case cn87 => kernel_rfl
          case qn87 => exact fun _ _ _ h => h
          case dn87 => rfl
          case hyn87 => (intro z hSw; (try dsimp only at hSw); go_simp; (try with_reducible rfl))
          try simp only [Act.put, List.setIfInBounds_toArray, List.set_cons_zero, List.set_cons_succ]
          refine wpAnyH_take (i := 7) (oi := ?on88) (v := ?vn88) ?hin88 ?an88 ?bn88 ?cn88 ?qn88 (Or.inl ⟨?dn88, ?hyn88⟩) hHeld ?restn88
          case hin88 => (simp only [List.getElem?_toArray, List.getElem?_cons_succ, List.getElem?_cons_zero]; exact rfl)
          case an88 => kernel_rfl
          case bn88 => kernel_rfl
          case cn88 => kernel_rfl
          case qn88 => exact fun _ _ _ h => h
          case dn88 => rfl
          case hyn88 => (intro z hSw; (try dsimp only at hSw); go_simp; (try with_reducible rfl))
          try simp only [Act.put, List.setIfInBounds_toArray, List.set_cons_zero, List.set_cons_succ]
          refine wpAnyH_take (i := 8) (oi := ?on89) (v := ?vn89) ?hin89 ?an89 ?bn89 ?cn89 ?qn89 (Or.inl ⟨?dn89, ?hyn89⟩) hHeld ?restn89
          case hin89 => (simp only [List.getElem?_toArray, List.getElem?_cons_succ, List.getElem?_cons_zero]; exact rfl)
          case an89 => kernel_rfl
          case bn89 => kernel_rfl
          case cn89 => kernel_rfl
          case qn89 => exact fun _ _ _ h => h
          case dn89 => rfl
          case hyn89 => (intro z hSw; (try dsimp only at hSw); go_simp; (try with_reducible rfl))
          try simp only [Act.put, List.setIfInBounds_toArray, List.set_cons_zero, List.set_cons_succ]
          refine wpAnyH_take (i := 9) (oi := ?on90) (v := ?vn90) ?hin90 ?an90 ?bn90 ?cn90 ?qn90 (Or.inl ⟨?dn90, ?hyn90⟩) hHeld ?restn90
          case hin90 => (simp only [List.getElem?_toArray, List.getElem?_cons_succ, List.getElem?_cons_zero]; exact rfl)
          case an90 => kernel_rfl
          case bn90 => kernel_rfl
          case cn90 => kernel_rfl
          case qn90 => exact fun _ _ _ h => h
          case dn90 => rfl
          case hyn90 => (intro z hSw; (try dsimp only at hSw); go_simp; (try with_reducible rfl))
          try simp only [Act.put, List.setIfInBounds_toArray, List.set_cons_zero, List.set_cons_succ]
          refine wpAnyH_take (i := 10) (oi := ?on91) (v := ?vn91) ?hin91 ?an91 ?bn91 ?cn91 ?qn91 (Or.inl ⟨?dn91, ?hyn91⟩) hHeld ?restn91
          case hin91 => (simp only [List.getElem?_toArray, List.getElem?_cons_succ, List.getElem?_cons_zero]; exact rfl)
          case an91 => kernel_rfl
          case bn91 => kernel_rfl
          case cn91 => kernel_rfl
          case qn91 => exact fun _ _ _ h => h
          case dn91 => rfl
          case hyn91 => (intro z hSw; (try dsimp only at hSw); go_simp; (try with_reducible rfl))
          try simp only [Act.put, List.setIfInBounds_toArray, List.set_cons_zero, List.set_cons_succ]
          refine wpAnyH_take (i := 11) (oi := ?on92) (v := ?vn92) ?hin92 ?an92 ?bn92 ?cn92 ?qn92 (Or.inl ⟨?dn92, ?hyn92⟩) hHeld ?restn92
          case hin92 => (simp only [List.getElem?_toArray, List.getElem?_cons_succ, List.getElem?_cons_zero]; exact rfl)
          case an92 => kernel_rfl
          case bn92 => kernel_rfl
          case cn92 => kernel_rfl
          case qn92 => exact fun _ _ _ h => h
          case dn92 => rfl
          case hyn92 => (intro z hSw; (try dsimp only at hSw); go_simp; (try with_reducible rfl))
          try simp only [Act.put, List.setIfInBounds_toArray, List.set_cons_zero, List.set_cons_succ]
          refine wpAnyH_take (i := 12) (oi := ?on93) (v := ?vn93) ?hin93 ?an93 ?bn93 ?cn93 ?qn93 (Or.inl ⟨?dn93, ?hyn93⟩) hHeld ?restn93
          case hin93 => (simp only [List.getElem?_toArray, List.getElem?_cons_succ, List.getElem?_cons_zero]; exact rfl)
          case an93 => kernel_rfl
          case bn93 => kernel_rfl
          case cn93 => kernel_rfl
          case qn93 => exact fun _ _ _ h => h
          case dn93 => rfl
          case hyn93 => (intro z hSw; (try dsimp only at hSw); go_simp; (try with_reducible rfl))
          try simp only [Act.put, List.setIfInBounds_toArray, List.set_cons_zero, List.set_cons_succ]
          refine wpAnyH_take (i := 15) (oi := ?on94) (v := ?vn94) ?hin94 ?an94 ?bn94 ?cn94 ?qn94 (Or.inl ⟨?dn94, ?hyn94⟩) hHeld ?restn94
          case hin94 => (simp only [List.getElem?_toArray, List.getElem?_cons_succ, List.getElem?_cons_zero]; exact rfl)
          case an94 => kernel_rfl
          case bn94 => kernel_rfl
          case cn94 => kernel_rfl
          case qn94 => exact fun _ _ _ h => h
          case dn94 => rfl
          case hyn94 => (intro z hSw; (try dsimp only at hSw); go_simp; (try with_reducible rfl))
          try simp only [Act.put, List.setIfInBounds_toArray, List.set_cons_zero, List.set_cons_succ]
          refine wpAnyH_ready (rs := [13]) (by kernel_rfl) (by simp) ?_
          refine AllReadyH.cons (o := ?on95) ?hin95 ?restn95 AllReadyH.nil
          case hin95 => (simp only [List.getElem?_toArray, List.getElem?_cons_succ, List.getElem?_cons_zero]; exact rfl)
          intro K hK
          go_simp
          refine hK.out _ _ ?_ (fun hHeld => ?_)
          · (try dsimp only); first | with_reducible assumption | exact Grew.alloc ‹_› _
          clear hK K
          try simp only [Act.put, List.setIfInBounds_toArray, List.set_cons_zero, List.set_cons_succ]
          refine wpAnyH_ready (rs := [14]) (by kernel_rfl) (by simp) ?_
          refine AllReadyH.cons (o := ?on96) ?hin96 ?restn96 AllReadyH.nil
          case hin96 => (simp only [List.getElem?_toArray, List.getElem?_cons_succ, List.getElem?_cons_zero]; exact rfl)
          intro K hK
          go_simp
          go_at_call 57
          refine (KW0.out _ (by repeat (first | with_reducible assumption | with_reducible refine Grew.alloc ?_ _ | with_reducible refine Grew.drew ?_ | with_reducible refine Grew.drewN ?_ _)) _ (strs_at1 (by simp) (by simp))).mono ?_
          rintro e z0 ⟨zu0, rfl, zo0, zg0⟩
          have gz0 : Grew w z0 := Grew.trans (by repeat (first | with_reducible assumption | with_reducible refine Grew.alloc ?_ _ | with_reducible refine Grew.drew ?_ | with_reducible refine Grew.drewN ?_ _)) zg0
          have mz0 : Grew w1 z0 := Grew.trans (by repeat (first | with_reducible assumption | with_reducible refine Grew.alloc ?_ _ | with_reducible refine Grew.drew ?_ | with_reducible refine Grew.drewN ?_ _)) zg0
          have zs0 := Lib.hid zo0
          obtain ⟨ZA0, zc0, rfl⟩ := strs_slice zo0
          clear zo0
          refine hK.out _ _ ?_ (fun hHeld => ?_)
          · (try dsimp only); first | with_reducible assumption | exact Grew.alloc ‹_› _
          clear hK K
          try simp only [Act.put, List.setIfInBounds_toArray, List.set_cons_zero, List.set_cons_succ]
          refine wpAnyH_ready (rs := [16]) (by kernel_rfl) (by simp) ?_
          refine AllReadyH.cons (o := ?on97) ?hin97 ?restn97 AllReadyH.nil
          case hin97 => (simp only [List.getElem?_toArray, List.getElem?_cons_succ, List.getElem?_cons_zero]; exact rfl)
          intro K hK
          go_simp
          go_at_call 56
          refine (KN0.out _ (by repeat (first | with_reducible assumption | with_reducible refine Grew.alloc ?_ _ | with_reducible refine Grew.drew ?_ | with_reducible refine Grew.drewN ?_ _)) _ zs0.out).mono ?_
          rintro e v0 ⟨rfl, vg0⟩
          have gv0 : Grew w v0 := Grew.trans (by repeat (first | with_reducible assumption | with_reducible refine Grew.alloc ?_ _ | with_reducible refine Grew.drew ?_ | with_reducible refine Grew.drewN ?_ _)) vg0
          have mv0 : Grew w1 v0 := Grew.trans (by repeat (first | with_reducible assumption | with_reducible refine Grew.alloc ?_ _ | with_reducible refine Grew.drew ?_ | with_reducible refine Grew.drewN ?_ _)) vg0
          refine hK.out _ _ ?_ (fun hHeld => ?_)
          · (try dsimp only); first | with_reducible assumption | exact Grew.alloc ‹_› _
          clear hK K
          try simp only [Act.put, List.setIfInBounds_toArray, List.set_cons_zero, List.set_cons_succ]
          refine wpAnyH_take (i := 17) (oi := ?on98) (v := ?vn98) ?hin98 ?an98 ?bn98 ?cn98 ?qn98 (Or.inl ⟨?dn98, ?hyn98⟩) hHeld ?restn98
          case hin98 => (simp only [List.getElem?_toArray, List.getElem?_cons_succ, List.getElem?_cons_zero]; exact rfl)
          case an98 => kernel_rfl
          case bn98 => kernel_rfl
          case cn98 => kernel_rfl
          case qn98 => exact fun _ _ _ h => h
          case dn98 => rfl
          case hyn98 => (intro z hSw; (try dsimp only at hSw); go_simp; (try with_reducible rfl))
          try simp only [Act.put, List.setIfInBounds_toArray, List.set_cons_zero, List.set_cons_succ]
          refine wpAnyH_take (i := 18) (oi := ?on99) (v := ?vn99) ?hin99 ?an99 ?bn99 ?cn99 ?qn99 (Or.inl ⟨?dn99, ?hyn99⟩) hHeld ?restn99
          case hin99 => (simp only [List.getElem?_toArray, List.getElem?_cons_succ, List.getElem?_cons_zero]; exact rfl)
          case an99 => kernel_rfl
          case bn99 => kernel_rfl
          case cn99 => kernel_rfl
          case qn99 => exact fun _ _ _ h => h
          case dn99 => rfl
          case hyn99 => (intro z hSw; (try dsimp only at hSw); go_simp; (try with_reducible rfl))
          try simp only [Act.put, List.setIfInBounds_toArray, List.set_cons_zero, List.set_cons_succ]
          refine wpAnyH_take (i := 19) (oi := ?on100) (v := ?vn100) ?hin100 ?an100 ?bn100 ?cn100 ?qn100 (Or.inl ⟨?dn100, ?hyn100⟩) hHeld ?restn100
          case hin100 => (simp only [List.getElem?_toArray, List.getElem?_cons_succ, List.getElem?_cons_zero]; exact rfl)
          case an100 => kernel_rfl
          case bn100 => kernel_rfl
          case cn100 => kernel_rfl
          case qn100 => exact fun _ _ _ h => h
          case dn100 => rfl
          case hyn100 => (intro z hSw; (try dsimp only at hSw); go_simp; (try with_reducible rfl))
          try simp only [Act.put, List.setIfInBounds_toArray, List.set_cons_zero, List.set_cons_succ]
          refine wpAnyH_take (i := 20) (oi := ?on101) (v := ?vn101) ?hin101 ?an101 ?bn101 ?cn101 ?qn101 (Or.inl ⟨?dn101, ?hyn101⟩) hHeld ?restn101
          case hin101 => (simp only [List.getElem?_toArray, List.getElem?_cons_succ, List.getElem?_cons_zero]; exact rfl)
          case an101 => kernel_rfl
          case bn101 => kernel_rfl
          case cn101 => kernel_rfl
          case qn101 => exact fun _ _ _ h => h
          case dn101 => rfl
          case hyn101 => (intro z hSw; (try dsimp only at hSw); go_simp; (try with_reducible rfl))
          try simp only [Act.put, List.setIfInBounds_toArray, List.set_cons_zero, List.set_cons_succ]
          refine wpAnyH_take (i := 21) (oi := ?on102) (v := ?vn102) ?hin102 ?an102 ?bn102 ?cn102 ?qn102 (Or.inl ⟨?dn102, ?hyn102⟩) hHeld ?restn102
          case hin102 => (simp only [List.getElem?_toArray, List.getElem?_cons_succ, List.getElem?_cons_zero]; exact rfl)
          case an102 => kernel_rfl
          case bn102 => kernel_rfl
          case cn102 => kernel_rfl
          case qn102 => exact fun _ _ _ h => h
          case dn102 => rfl
          case hyn102 => (intro z hSw; (try dsimp only at hSw); go_simp; (try with_reducible rfl))
          try simp only [Act.put, List.setIfInBounds_toArray, List.set_cons_zero, List.set_cons_succ]
          refine wpAnyH_take (i := 22) (oi := ?on103) (v := ?vn103) ?hin103 ?an103 ?bn103 ?cn103 ?qn103 (Or.inl ⟨?dn103, ?hyn103⟩) hHeld ?restn103
          case hin103 => (simp only [List.getElem?_toArray, List.getElem?_cons_succ, List.getElem?_cons_zero]; exact rfl)
          case an103 => kernel_rfl
          case bn103 => kernel_rfl
          case cn103 => kernel_rfl
          case qn103 => exact fun _ _ _ h => h
          case dn103 => rfl
          case hyn103 => (intro z hSw; (try dsimp only at hSw); go_simp; (try with_reducible rfl))
          try simp only [Act.put, List.setIfInBounds_toArray, List.set_cons_zero, List.set_cons_succ]
          refine wpAnyH_take (i := 23) (oi := ?on104) (v := ?vn104) ?hin104 ?an104 ?bn104 ?cn104 ?qn104 (Or.inl ⟨?dn104, ?hyn104⟩) hHeld ?restn104
          case hin104 => (simp only [List.getElem?_toArray, List.getElem?_cons_succ, List.getElem?_cons_zero]; exact rfl)
          case an104 => kernel_rfl
          case bn104 => kernel_rfl
          case cn104 => kernel_rfl
          case qn104 => exact fun _ _ _ h => h
          case dn104 => rfl
          case hyn104 => (intro z hSw; (try dsimp only at hSw); go_simp; (try with_reducible rfl))
          try simp only [Act.put, List.setIfInBounds_toArray, List.set_cons_zero, List.set_cons_succ]
          refine wpAnyH_take (i := 26) (oi := ?on105) (v := ?vn105) ?hin105 ?an105 ?bn105 ?cn105 ?qn105 (Or.inl ⟨?dn105, ?hyn105⟩) hHeld ?restn105
          case hin105 => (simp only [List.getElem?_toArray, List.getElem?_cons_succ, List.getElem?_cons_zero]; exact rfl)
          case an105 => kernel_rfl
          case bn105 => kernel_rfl
          case cn105 => kernel_rfl
          case qn105 => exact fun _ _ _ h => h
          case dn105 => rfl
          case hyn105 => (intro z hSw; (try dsimp only at hSw); go_simp; (try with_reducible rfl))
          try simp only [Act.put, List.setIfInBounds_toArray, List.set_cons_zero, List.set_cons_succ]
          refine wpAnyH_ready (rs := [24]) (by kernel_rfl) (by simp) ?_
          refine AllReadyH.cons (o := ?on106) ?hin106 ?restn106 AllReadyH.nil
          case hin106 => (simp only [List.getElem?_toArray, List.getElem?_cons_succ, List.getElem?_cons_zero]; exact rfl)
          intro K hK
          go_simp
          refine hK.out _ _ ?_ (fun hHeld => ?_)
          · (try dsimp only); first | with_reducible assumption | exact Grew.alloc ‹_› _
          clear hK K
          try simp only [Act.put, List.setIfInBounds_toArray, List.set_cons_zero, List.set_cons_succ]
          refine wpAnyH_ready (rs := [25]) (by kernel_rfl) (by simp) ?_
          refine AllReadyH.cons (o := ?on107) ?hin107 ?restn107 AllReadyH.nil
          case hin107 => (simp only [List.getElem?_toArray, List.getElem?_cons_succ, List.getElem?_cons_zero]; exact rfl)
          intro K hK
          go_simp
          go_at_call 57
          refine (KW1.out _ (by repeat (first | with_reducible assumption | with_reducible refine Grew.alloc ?_ _ | with_reducible refine Grew.drew ?_ | with_reducible refine Grew.drewN ?_ _)) _ (strs_at1 (by simp) (by simp))).mono ?_
          rintro e z1 ⟨zu1, rfl, zo1, zg1⟩
          have gz1 : Grew w z1 := Grew.trans (by repeat (first | with_reducible assumption | with_reducible refine Grew.alloc ?_ _ | with_reducible refine Grew.drew ?_ | with_reducible refine Grew.drewN ?_ _)) zg1
          have mz1 : Grew w1 z1 := Grew.trans (by repeat (first | with_reducible assumption | with_reducible refine Grew.alloc ?_ _ | with_reducible refine Grew.drew ?_ | with_reducible refine Grew.drewN ?_ _)) zg1
          have zs1 := Lib.hid zo1
          obtain ⟨ZA1, zc1, rfl⟩ := strs_slice zo1
          clear zo1
          refine hK.out _ _ ?_ (fun hHeld => ?_)
          · (try dsimp only); first | with_reducible assumption | exact Grew.alloc ‹_› _
          clear hK K
          try simp only [Act.put, List.setIfInBounds_toArray, List.set_cons_zero, List.set_cons_succ]
          refine wpAnyH_ready (rs := [27]) (by kernel_rfl) (by simp) ?_
          refine AllReadyH.cons (o := ?on108) ?hin108 ?restn108 AllReadyH.nil
          case hin108 => (simp only [List.getElem?_toArray, List.getElem?_cons_succ, List.getElem?_cons_zero]; exact rfl)
          intro K hK
          go_simp
          go_at_call 56
          refine (KN1.out _ (by repeat (first | with_reducible assumption | with_reducible refine Grew.alloc ?_ _ | with_reducible refine Grew.drew ?_ | with_reducible refine Grew.drewN ?_ _)) _ zs1.out).mono ?_
          rintro e v1 ⟨rfl, vg1⟩
          have gv1 : Grew w v1 := Grew.trans (by repeat (first | with_reducible assumption | with_reducible refine Grew.alloc ?_ _ | with_reducible refine Grew.drew ?_ | with_reducible refine Grew.drewN ?_ _)) vg1
          have mv1 : Grew w1 v1 := Grew.trans (by repeat (first | with_reducible assumption | with_reducible refine Grew.alloc ?_ _ | with_reducible refine Grew.drew ?_ | with_reducible refine Grew.drewN ?_ _)) vg1
          refine hK.out _ _ ?_ (fun hHeld => ?_)
          · (try dsimp only); first | with_reducible assumption | exact Grew.alloc ‹_› _
          clear hK K
          try simp only [Act.put, List.setIfInBounds_toArray, List.set_cons_zero, List.set_cons_succ]
          refine wpAnyH_take (i := 28) (oi := ?on109) (v := ?vn109) ?hin109 ?an109 ?bn109 ?cn109 ?qn109 (Or.inl ⟨?dn109, ?hyn109⟩) hHeld ?restn109
          case hin109 => (simp only [List.getElem?_toArray, List.getElem?_cons_succ, List.getElem?_cons_zero]; exact rfl)
          case an109 => kernel_rfl
          case bn109 => kernel_rfl
          case cn109 => kernel_rfl
          case qn109 => exact fun _ _ _ h => h
          case dn109 => rfl
          case hyn109 => (intro z hSw; (try dsimp only at hSw); go_simp; (try with_reducible rfl))
          try simp only [Act.put, List.setIfInBounds_toArray, List.set_cons_zero, List.set_cons_succ]
          refine wpAnyH_take (i := 29) (oi := ?on110) (v := ?vn110) ?hin110 ?an110 ?bn110 ?cn110 ?qn110 (Or.inl ⟨?dn110, ?hyn110⟩) hHeld ?restn110
          case hin110 => (simp only [List.getElem?_toArray, List.getElem?_cons_succ, List.getElem?_cons_zero]; exact rfl)
          case an110 => kernel_rfl
          case bn110 => kernel_rfl
          case cn110 => kernel_rfl
          case qn110 => exact fun _ _ _ h => h
          case dn110 => rfl
          case hyn110 => (intro z hSw; (try dsimp only at hSw); go_simp; (try with_reducible rfl))
          try simp only [Act.put, List.setIfInBounds_toArray, List.set_cons_zero, List.set_cons_succ]
          refine wpAnyH_done (by kernel_rfl) ?_ _
          go_wp2_with fail
          go_ret
          exact ⟨rfl, (by repeat (first | with_reducible assumption | with_reducible refine Grew.alloc ?_ _ | with_reducible refine Grew.drew ?_ | with_reducible refine Grew.drewN ?_ _))⟩
        · rw [dcd_false (fun h => h3 (h.2.2.2))]
          rw [dcd_false h3] at KN1
          replace KN0 := Lib.hid KN0
          replace KN1 := Lib.hid KN1
          replace KY := Lib.hid KY
          replace hwb := hwb.symm
          clear h0 h1 h2 h3
          go_enter Tryz.func43, Tryz.ntmps43
          go_wp2_with fail
          rw [← hwb]
          clear hwb
          go_quiet (fail)
          go_wp2_with fail
          refine (KP.out _).mono ?_
          rintro e w1 ⟨rfl, hg1'⟩
          have hg1 : Grew wb w1 := Grew.trans (by repeat (first | with_reducible assumption | with_reducible refine Grew.alloc ?_ _ | with_reducible refine Grew.drew ?_ | with_reducible refine Grew.drewN ?_ _)) hg1'
          have g1 := hal.trans hg1
          have r1 := Grew.refl w1
          have d1 := r1.drew
          have gd := g1.trans d1
          have e0 := fun W (hW : Grew w1 W) => f0 W (hg1.trans hW)
          have e2 := fun W (hW : Grew w1 W) => f2 W (hg1.trans hW)
          have e3 := fun W (hW : Grew w1 W) => f3 W (hg1.trans hW)
          have e4 := fun W (hW : Grew w1 W) => f4 W (hg1.trans hW)
          have p0a := fun W (hW : Grew w1 W) => q0a W (g1.trans hW)
          have p0b := fun W (hW : Grew w1 W) => q0b W (g1.trans hW)
          have p0c := fun W (hW : Grew w1 W) => q0c W (g1.trans hW)
          have p0d := fun W (hW : Grew w1 W) => q0d W (g1.trans hW)
          have p0e := fun W (hW : Grew w1 W) => q0e W (g1.trans hW)
          have p1a := fun W (hW : Grew w1 W) => q1a W (g1.trans hW)
          have p1b := fun W (hW : Grew w1 W) => q1b W (g1.trans hW)
          have p1c := fun W (hW : Grew w1 W) => q1c W (g1.trans hW)
          have p1d := fun W (hW : Grew w1 W) => q1d W (g1.trans hW)
          have p1e := fun W (hW : Grew w1 W) => q1e W (g1.trans hW)
          clear f0 f2 f3 f4 q0a q0b q0c q0d q0e q1a q1b q1c q1d q1e
          go_wp2_with fail
          refine wp_region_held_drew (S := fun w' => Grew w1 w') (by kernel_rfl) d1 (fun hHeld => ?_)
          refine wpAnyH_take (i := 0) (oi := ?on111) (v := ?vn111) ?hin111 ?an111 ?bn111 ?cn111 ?qn111 (Or.inl ⟨?dn111, ?hyn111⟩) hHeld ?restn111
          case hin111 => (simp only [List.getElem?_toArray, List.getElem?_cons_zero]; exact rfl)
          case an111 => kernel_rfl
          case bn111 => kernel_rfl
          case cn111 => kernel_rfl
          case qn111 => exact fun _ _ _ h => h
          case dn111 => rfl
          case hyn111 => (intro z hSw; (try dsimp only at hSw); go_simp; (try with_reducible rfl))
          try simp only [Act.put, List.setIfInBounds_toArray, List.set_cons_zero, List.set_cons_succ]
          refine wpAnyH_take (i := 1) (oi := ?on112) (v := ?vn112) ?hin112 ?an112 ?bn112 ?cn112 ?qn112 (Or.inl ⟨?dn112, ?hyn112⟩) hHeld ?restn112
          case hin112 => (simp only [List.getElem?_toArray, List.getElem?_cons_succ, List.getElem?_cons_zero]; exact rfl)
          case an112 => kernel_rfl
          case bn112 => kernel_rfl
          case cn112 => kernel_rfl
          case qn112 => exact fun _ _ _ h => h
          case dn112 => rfl
          case hyn112 => (intro z hSw; (try dsimp only at hSw); go_simp; (try with_reducible rfl))
          try simp only [Act.put, List.setIfInBounds_toArray, List.set_cons_zero, List.set_cons_succ]
          refine wpAnyH_take (i := 2) (oi := ?on113) (v := ?vn113) ?hin113 ?an113 ?bn113 ?cn113 ?qn113 (Or.inl ⟨?dn113, ?hyn113⟩) hHeld ?restn113
          case hin113 => (simp only [List.getElem?_toArray, List.getElem?_cons_succ, List.getElem?_cons_zero]; exact rfl)
          case an113 => kernel_rfl
          case bn113 => kernel_rfl
          case cn113 => kernel_rfl
          case qn113 => exact fun _ _ _ h => h
          case dn113 => rfl
          case hyn113 => (intro z hSw; (try dsimp only at hSw); go_simp; (try with_reducible rfl))
          try simp only [Act.put, List.setIfInBounds_toArray, List.set_cons_zero, List.set_cons_succ]
          refine wpAnyH_take (i := 3) (oi := ?on114) (v := ?vn114) ?hin114 ?an114 ?bn114 ?cn114 ?qn114 (Or.inl ⟨?dn114, ?hyn114⟩) hHeld ?restn114
          case hin114 => (simp only [List.getElem?_toArray, List.getElem?_cons_succ, List.getElem?_cons_zero]; exact rfl)
          case an114 => kernel_rfl
          case bn114 => kernel_rfl
          case cn114 => kernel_rfl
          case qn114 => exact fun _ _ _ h => h
          case dn114 => rfl
          case hyn114 => (intro z hSw; (try dsimp only at hSw); go_simp; (try with_reducible rfl))
          try simp only [Act.put, List.setIfInBounds_toArray, List.set_cons_zero, List.set_cons_succ]
          refine wpAnyH_take (i := 4) (oi := ?on115) (v := ?vn115) ?hin115 ?an115 ?bn115 ?cn115 ?qn115 (Or.inl ⟨?dn115, ?hyn115⟩) hHeld ?restn115
          case hin115 => (simp only [List.getElem?_toArray, List.getElem?_cons_succ, List.getElem?_cons_zero]; exact rfl)
          case an115 => kernel_rfl
          case bn115 => kernel_rfl
          case cn115 => kernel_rfl
          case qn115 => exact fun _ _ _ h => h
          case dn115 => rfl
          case hyn115 => (intro z hSw; (try dsimp only at hSw); go_simp; (try with_reducible rfl))
          try simp only [Act.put, List.setIfInBounds_toArray, List.set_cons_zero, List.set_cons_succ]
          refine wpAnyH_ready (rs := [5]) (by kernel_rfl) (by simp) ?_
          refine AllReadyH.cons (o := ?on116) ?hin116 ?restn116 AllReadyH.nil
          case hin116 => (simp only [List.getElem?_toArray, List.getElem?_cons_succ, List.getElem?_cons_zero]; exact rfl)
          intro K hK
          go_simp
          go_at_call 54
          refine (KY.out _ (by repeat (first | with_reducible assumption | with_reducible refine Grew.alloc ?_ _ | with_reducible refine Grew.drew ?_ | with_reducible refine Grew.drewN ?_ _))).mono ?_
          rintro e ws ⟨rfl, hgs⟩
          have gws : Grew w ws := Grew.trans (by repeat (first | with_reducible assumption | with_reducible refine Grew.alloc ?_ _ | with_reducible refine Grew.drew ?_ | with_reducible refine Grew.drewN ?_ _)) hgs
          have mws : Grew w1 ws := Grew.trans (by repeat (first | with_reducible assumption | with_reducible refine Grew.alloc ?_ _ | with_reducible refine Grew.drew ?_ | with_reducible refine Grew.drewN ?_ _)) hgs
          refine hK.out _ _ ?_ (fun hHeld => ?_)
          · (try dsimp only); first | with_reducible assumption | exact Grew.alloc ‹_› _
          clear hK K
          try simp only [Act.put, List.setIfInBounds_toArray, List.set_cons_zero, List.set_cons_succ]
          refine wpAnyH_take (i := 6) (oi := ?on117) (v := ?vn117) ?hin117 ?an117 ?bn117 ?cn117 ?qn117 (Or.inl ⟨?dn117, ?hyn117⟩) hHeld ?restn117
          case hin117 => (simp only [List.getElem?_toArray, List.getElem?_cons_succ, List.getElem?_cons_zero]; exact rfl)
          case an117 => kernel_rfl
          case bn117 => kernel_rfl
          case cn117 => kernel_rfl
          case qn117 => exact fun _ _ _ h => h
          case dn117 => rfl
          case hyn117 => (intro z hSw; (try dsimp only at hSw); go_simp; (try with_reducible rfl))
          try simp only [Act.put, List.setIfInBounds_toArray, List.set_cons_zero, List.set_cons_succ]
          refine wpAnyH_take (i := 7) (oi := ?on118) (v := ?vn118) ?hin118 ?an118 ?bn118 ?cn118 ?qn118 (Or.inl ⟨?dn118, ?hyn118⟩) hHeld ?restn118
          case hin118 => (simp only [List.getElem?_toArray, List.getElem?_cons_succ, List.getElem?_cons_zero]; exact rfl)
          case an118 => kernel_rfl
          case bn118 => kernel_rfl
          case cn118 => kernel_rfl
          case qn118 => exact fun _ _ _ h => h
          case dn118 => rfl
          case hyn118 => (intro z hSw; (try dsimp only at hSw); go_simp; (try with_reducible rfl))
          try simp only [Act.put, List.setIfInBounds_toArray, List.set_cons_zero, List.set_cons_succ]
          refine wpAnyH_take (i := 8) (oi := ?on119) (v := ?vn119) ?hin119 ?an119 ?bn119 ?cn119 ?qn119 (Or.inl ⟨?dn119, ?hyn119⟩) hHeld ?restn119
          case hin119 => (simp only [List.getElem?_toArray, List.getElem?_cons_succ, List.getElem?_cons_zero]; exact rfl)
          case an119 => kernel_rfl
          case bn119 => kernel_rfl
          case cn119 => kernel_rfl
          case qn119 => exact fun _ _ _ h => h
          case dn119 => rfl
          case hyn119 => (intro z hSw; (try dsimp only at hSw); go_simp; (try with_reducible rfl))
          try simp only [Act.put, List.setIfInBounds_toArray, List.set_cons_zero, List.set_cons_succ]
          refine wpAnyH_take (i := 9) (oi := ?on120) (v := ?vn120) ?hin120 ?an120 ?bn120 ?cn120 ?qn120 (Or.inl ⟨?dn120, ?hyn120⟩) hHeld ?restn120
          case hin120 => (simp only [List.getElem?_toArray, List.getElem?_cons_succ, List.getElem?_cons_zero]; exact rfl)
          case an120 => kernel_rfl
          case bn120 => kernel_rfl
          case cn120 => kernel_rfl
          case qn120 => exact fun _ _ _ h => h
          case dn120 => rfl
          case hyn120 => (intro z hSw; (try dsimp only at hSw); go_simp; (try with_reducible rfl))
          try simp only [Act.put, List.setIfInBounds_toArray, List.set_cons_zero, List.set_cons_succ]
          refine wpAnyH_take (i := 10) (oi := ?on121) (v := ?vn121) ?hin121 ?an121 ?bn121 ?cn121 ?qn121 (Or.inl ⟨?dn121, ?hyn121⟩) hHeld ?restn121
          case hin121 => (simp only [List.getElem?_toArray, List.getElem?_cons_succ, List.getElem?_cons_zero]; exact rfl)
          case an121 => kernel_rfl
          case bn121 => kernel_rfl
          case cn121 => kernel_rfl
          case qn121 => exact fun _ _ _ h => h
          case dn121 => rfl
          case hyn121 => (intro z hSw; (try dsimp only at hSw); go_simp; (try with_reducible rfl))
          try simp only [Act.put, List.setIfInBounds_toArray, List.set_cons_zero, List.set_cons_succ]
          refine wpAnyH_take (i := 11) (oi := ?on122) (v := ?vn122) ?hin122 ?an122 ?bn122 ?cn122 ?qn122 (Or.inl ⟨?dn122, ?hyn122⟩) hHeld ?restn122
          case hin122 => (simp only [List.getElem?_toArray, List.getElem?_cons_succ, List.getElem?_cons_zero]; exact rfl)
          case an122 => kernel_rfl
          case bn122 => kernel_rfl
          case cn122 => kernel_rfl
          case qn122 => exact fun _ _ _ h => h
          case dn122 => rfl
          case hyn122 => (intro z hSw; (try dsimp only at hSw); go_simp; (try with_reducible rfl))
          try simp only [Act.put, List.setIfInBounds_toArray, List.set_cons_zero, List.set_cons_succ]
          refine wpAnyH_take (i := 12) (oi := ?on123) (v := ?vn123) ?hin123 ?an123 ?bn123 ?cn123 ?qn123 (Or.inl ⟨?dn123, ?hyn123⟩) hHeld ?restn123
          case hin123 => (simp only [List.getElem?_toArray, List.getElem?_cons_succ, List.getElem?_cons_zero]; exact rfl)
          case an123 => kernel_rfl
          case bn123 => kernel_rfl
          case cn123 => kernel_rfl
          case qn123 => exact fun _ _ _ h => h
          case dn123 => rfl
          case hyn123 => (intro z hSw; (try dsimp only at hSw); go_simp; (try with_reducible rfl))
          try simp only [Act.put, List.setIfInBounds_toArray, List.set_cons_zero, List.set_cons_succ]
          refine wpAnyH_take (i := 15) (oi := ?on124) (v := ?vn124) ?hin124 ?an124 ?bn124 ?cn124 ?qn124 (Or.inl ⟨?dn124, ?hyn124⟩) hHeld ?restn124
          case hin124 => (simp only [List.getElem?_toArray, List.getElem?_cons_succ, List.getElem?_cons_zero]; exact rfl)
          case an124 => kernel_rfl
          case bn124 => kernel_rfl
          case cn124 => kernel_rfl
          case qn124 => exact fun _ _ _ h => h
          case dn124 => rfl
          case hyn124 => (intro z hSw; (try dsimp only at hSw); go_simp; (try with_reducible rfl))
          try simp only [Act.put, List.setIfInBounds_toArray, List.set_cons_zero, List.set_cons_succ]
          refine wpAnyH_ready (rs := [13]) (by kernel_rfl) (by simp) ?_
          refine AllReadyH.cons (o := ?on125) ?hin125 ?restn125 AllReadyH.nil
          case hin125 => (simp only [List.getElem?_toArray, List.getElem?_cons_succ, List.getElem?_cons_zero]; exact rfl)
          intro K hK
          go_simp
          refine hK.out _ _ ?_ (fun hHeld => ?_)
          · (try dsimp only); first | with_reducible assumption | exact Grew.alloc ‹_› _
          clear hK K
          try simp only [Act.put, List.setIfInBounds_toArray, List.set_cons_zero, List.set_cons_succ]
          refine wpAnyH_ready (rs := [14]) (by kernel_rfl) (by simp) ?_
          refine AllReadyH.cons (o := ?on126) ?hin126 ?restn126 AllReadyH.nil
          case hin126 => (simp only [List.getElem?_toArray, List.getElem?_cons_succ, List.getElem?_cons_zero]; exact rfl)
          intro K hK
          go_simp
          go_at_call 57
          refine (KW0.out _ (by repeat (first | with_reducible assumption | with_reducible refine Grew.alloc ?_ _ | with_reducible refine Grew.drew ?_ | with_reducible refine Grew.drewN ?_ _)) _ (strs_at1 (by simp) (by simp))).mono ?_
          rintro e z0 ⟨zu0, rfl, zo0, zg0⟩
          have gz0 : Grew w z0 := Grew.trans (by repeat (first | with_reducible assumption | with_reducible refine Grew.alloc ?_ _ | with_reducible refine Grew.drew ?_ | with_reducible refine Grew.drewN ?_ _)) zg0
          have mz0 : Grew w1 z0 := Grew.trans (by repeat (first | with_reducible assumption | with_reducible refine Grew.alloc ?_ _ | with_reducible refine Grew.drew ?_ | with_reducible refine Grew.drewN ?_ _)) zg0
          have zs0 := Lib.hid zo0
          obtain ⟨ZA0, zc0, rfl⟩ := strs_slice zo0
          clear zo0
          refine hK.out _ _ ?_ (fun hHeld => ?_)
          · (try dsimp only); first | with_reducible assumption | exact Grew.alloc ‹_› _
          clear hK K
          try simp only [Act.put, List.setIfInBounds_toArray, List.set_cons_zero, List.set_cons_succ]
          refine wpAnyH_ready (rs := [16]) (by kernel_rfl) (by simp) ?_
          refine AllReadyH.cons (o := ?on127) ?hin127 ?restn127 AllReadyH.nil
          case hin127 => (simp only [List.getElem?_toArray, List.getElem?_cons_succ, List.getElem?_cons_zero]; exact rfl)
          intro K hK
          go_simp
          go_at_call 56
          refine (KN0.out _ (by repeat (first | with_reducible assumption | with_reducible refine Grew.alloc ?_ _ | with_reducible refine Grew.drew ?_ | with_reducible refine Grew.drewN ?_ _)) _ zs0.out).mono ?_
          rintro e v0 ⟨rfl, vg0⟩
          have gv0 : Grew w v0 := Grew.trans (by repeat (first | with_reducible assumption | with_reducible refine Grew.alloc ?_ _ | with_reducible refine Grew.drew ?_ | with_reducible refine Grew.drewN ?_ _)) vg0
          have mv0 : Grew w1 v0 := Grew.trans (by repeat (first | with_reducible assumption | with_reducible refine Grew.alloc ?_ _ | with_reducible refine Grew.drew ?_ | with_reducible refine Grew.drewN ?_ _)) vg0
          refine hK.out _ _ ?_ (fun hHeld => ?_)
          · (try dsimp only); first | with_reducible assumption | exact Grew.alloc ‹_› _
          clear hK K
          try simp only [Act.put, List.setIfInBounds_toArray, List.set_cons_zero, List.set_cons_succ]
          refine wpAnyH_take (i := 17) (oi := ?on128) (v := ?vn128) ?hin128 ?an128 ?bn128 ?cn128 ?qn128 (Or.inl ⟨?dn128, ?hyn128⟩) hHeld ?restn128
          case hin128 => (simp only [List.getElem?_toArray, List.getElem?_cons_succ, List.getElem?_cons_zero]; exact rfl)
          case an128 => kernel_rfl
          case bn128 => kernel_rfl
          case cn128 => kernel_rfl
          case qn128 => exact fun _ _ _ h => h
          case dn128 => rfl
          case hyn128 => (intro z hSw; (try dsimp only at hSw); go_simp; (try with_reducible rfl))
          try simp only [Act.put, List.setIfInBounds_toArray, List.set_cons_zero, List.set_cons_succ]
          refine wpAnyH_take (i := 18) (oi := ?on129) (v := ?vn129) ?hin129 ?an129 ?bn129 ?cn129 ?qn129 (Or.inl ⟨?dn129, ?hyn129⟩) hHeld ?restn129
          case hin129 => (simp only [List.getElem?_toArray, List.getElem?_cons_succ, List.getElem?_cons_zero]; exact rfl)
          case an129 => kernel_rfl
          case bn129 => kernel_rfl
          case cn129 => kernel_rfl
          case qn129 => exact fun _ _ _ h => h
          case dn129 => rfl
          case hyn129 => (intro z hSw; (try dsimp only at hSw); go_simp; (try with_reducible rfl))
          try simp only [Act.put, List.setIfInBounds_toArray, List.set_cons_zero, List.set_cons_succ]
          refine wpAnyH_take (i := 19) (oi := ?on130) (v := ?vn130) ?hin130 ?an130 ?bn130 ?cn130 ?qn130 (Or.inl ⟨?dn130, ?hyn130⟩) hHeld ?restn130
          case hin130 => (simp only [List.getElem?_toArray, List.getElem?_cons_succ, List.getElem?_cons_zero]; exact rfl)
          case an130 => kernel_rfl
          case bn130 => kernel_rfl
          case cn130 => kernel_rfl
          case qn130 => exact fun _ _ _ h => h
          case dn130 => rfl
          case hyn130 => (intro z hSw; (try dsimp only at hSw); go_simp; (try with_reducible rfl))
          try simp only [Act.put, List.setIfInBounds_toArray, List.set_cons_zero, List.set_cons_succ]
          refine wpAnyH_take (i := 20) (oi := ?on131) (v := ?vn131) ?hin131 ?an131 ?bn131 ?cn131 ?qn131 (Or.inl ⟨?dn131, ?hyn131⟩) hHeld ?restn131
          case hin131 => (simp only [List.getElem?_toArray, List.getElem?_cons_succ, List.getElem?_cons_zero]; exact rfl)
          case an131 => kernel_rfl
          case bn131 => kernel_rfl
          case cn131 => kernel_rfl
          case qn131 => exact fun _ _ _ h => h
          case dn131 => rfl
          case hyn131 => (intro z hSw; (try dsimp only at hSw); go_simp; (try with_reducible rfl))
          try simp only [Act.put, List.setIfInBounds_toArray, List.set_cons_zero, List.set_cons_succ]
          refine wpAnyH_take (i := 21) (oi := ?on132) (v := ?vn132) ?hin132 ?an132 ?bn132 ?cn132 ?qn132 (Or.inl ⟨?dn132, ?hyn132⟩) hHeld ?restn132
          case hin132 => (simp only [List.getElem?_toArray, List.getElem?_cons_succ, List.getElem?_cons_zero]; exact rfl)
          case an132 => kernel_rfl
          case bn132 => kernel_rfl
          case cn132 => kernel_rfl
          case qn132 => exact fun _ _ _ h => h
          case dn132 => rfl
          case hyn132 => (intro z hSw; (try dsimp only at hSw); go_simp; (try with_reducible rfl))
          try simp only [Act.put, List.setIfInBounds_toArray, List.set_cons_zero, List.set_cons_succ]
          refine wpAnyH_take (i := 22) (oi := ?on133) (v := ?vn133) ?hin133 ?an133 ?bn133 ?cn133 ?qn133 (Or.inl ⟨?dn133, ?hyn133⟩) hHeld ?restn133
          case hin133 => (simp only [List.getElem?_toArray, List.getElem?_cons_succ, List.getElem?_cons_zero]; exact rfl)
          case an133 => kernel_rfl
          case bn133 => kernel_rfl
          case cn133 => kernel_rfl
          case qn133 => exact fun _ _ _ h => h
          case dn133 => rfl
          case hyn133 => (intro z hSw; (try dsimp only at hSw); go_simp; (try with_reducible rfl))
          try simp only [Act.put, List.setIfInBounds_toArray, List.set_cons_zero, List.set_cons_succ]
          refine wpAnyH_take (i := 23) (oi := ?on134) (v := ?vn134) ?hin134 ?an134 ?bn134 ?cn134 ?qn134 (Or.inl ⟨?dn134, ?hyn134⟩) hHeld ?restn134
          case hin134 => (simp only [List.getElem?_toArray, List.getElem?_cons_succ, List.getElem?_cons_zero]; exact rfl)
          case an134 => kernel_rfl
          case bn134 => kernel_rfl
          case cn134 => kernel_rfl
          case qn134 => exact fun _ _ _ h => h
          case dn134 => rfl
          case hyn134 => (intro z hSw; (try dsimp only at hSw); go_simp; (try with_reducible rfl))
          try simp only [Act.put, List.setIfInBounds_toArray, List.set_cons_zero, List.set_cons_succ]
          refine wpAnyH_take (i := 26) (oi := ?on135) (v := ?vn135) ?hin135 ?an135 ?bn135 ?cn135 ?qn135 (Or.inl ⟨?dn135, ?hyn135⟩) hHeld ?restn135
          case hin135 => (simp only [List.getElem?_toArray, List.getElem?_cons_succ, List.getElem?_cons_zero]; exact rfl)
          case an135 => kernel_rfl
          case bn135 => kernel_rfl
          case cn135 => kernel_rfl
          case qn135 => exact fun _ _ _ h => h
          case dn135 => rfl
          case hyn135 => (intro z hSw; (try dsimp only at hSw); go_simp; (try with_reducible rfl))
          try simp only [Act.put, List.setIfInBounds_toArray, List.set_cons_zero, List.set_cons_succ]
          refine wpAnyH_ready (rs := [24]) (by kernel_rfl) (by simp) ?_
          refine AllReadyH.cons (o := ?on136) ?hin136 ?restn136 AllReadyH.nil
          case hin136 => (simp only [List.getElem?_toArray, List.getElem?_cons_succ, List.getElem?_cons_zero]; exact rfl)
          intro K hK
          go_simp
          refine hK.out _ _ ?_ (fun hHeld => ?_)
          · (try dsimp only); first | with_reducible assumption | exact Grew.alloc ‹_› _
          clear hK K
          try simp only [Act.put, List.setIfInBounds_toArray, List.set_cons_zero, List.set_cons_succ]
          refine wpAnyH_ready (rs := [25]) (by kernel_rfl) (by simp) ?_
          refine AllReadyH.cons (o := ?on137) ?hin137 ?restn137 AllReadyH.nil
          case hin137 => (simp only [List.getElem?_toArray, List.getElem?_cons_succ, List.getElem?_cons_zero]; exact rfl)
          intro K hK
          go_simp
          go_at_call 57
          refine (KW1.out _ (by repeat (first | with_reducible assumption | with_reducible refine Grew.alloc ?_ _ | with_reducible refine Grew.drew ?_ | with_reducible refine Grew.drewN ?_ _)) _ (strs_at1 (by simp) (by simp))).mono ?_
          rintro e z1 ⟨zu1, rfl, zo1, zg1⟩
          have gz1 : Grew w z1 := Grew.trans (by repeat (first | with_reducible assumption | with_reducible refine Grew.alloc ?_ _ | with_reducible refine Grew.drew ?_ | with_reducible refine Grew.drewN ?_ _)) zg1
          have mz1 : Grew w1 z1 := Grew.trans (by repeat (first | with_reducible assumption | with_reducible refine Grew.alloc ?_ _ | with_reducible refine Grew.drew ?_ | with_reducible refine Grew.drewN ?_ _)) zg1
          have zs1 := Lib.hid zo1
          obtain ⟨ZA1, zc1, rfl⟩ := strs_slice zo1
          clear zo1
          refine hK.out _ _ ?_ (fun hHeld => ?_)
          · (try dsimp only); first | with_reducible assumption | exact Grew.alloc ‹_› _
          clear hK K
          try simp only [Act.put, List.setIfInBounds_toArray, List.set_cons_zero, List.set_cons_succ]
          refine wpAnyH_ready (rs := [27]) (by kernel_rfl) (by simp) ?_
          refine AllReadyH.cons (o := ?on138) ?hin138 ?restn138 AllReadyH.nil
          case hin138 => (simp only [List.getElem?_toArray, List.getElem?_cons_succ, List.getElem?_cons_zero]; exact rfl)
          intro K hK
          go_simp
          go_at_call 56
          refine (KN1.out _ (by repeat (first | with_reducible assumption | with_reducible refine Grew.alloc ?_ _ | with_reducible refine Grew.drew ?_ | with_reducible refine Grew.drewN ?_ _)) _ zs1.out).mono ?_
          rintro e v1 ⟨rfl, vg1⟩
          have gv1 : Grew w v1 := Grew.trans (by repeat (first | with_reducible assumption | with_reducible refine Grew.alloc ?_ _ | with_reducible refine Grew.drew ?_ | with_reducible refine Grew.drewN ?_ _)) vg1
          have mv1 : Grew w1 v1 := Grew.trans (by repeat (first | with_reducible assumption | with_reducible refine Grew.alloc ?_ _ | with_reducible refine Grew.drew ?_ | with_reducible refine Grew.drewN ?_ _)) vg1
          refine hK.out _ _ ?_ (fun hHeld => ?_)
          · (try dsimp only); first | with_reducible assumption | exact Grew.alloc ‹_› _
          clear hK K
          try simp only [Act.put, List.setIfInBounds_toArray, List.set_cons_zero, List.set_cons_succ]
          refine wpAnyH_take (i := 28) (oi := ?on139) (v := ?vn139) ?hin139 ?an139 ?bn139 ?cn139 ?qn139 (Or.inl ⟨?dn139, ?hyn139⟩) hHeld ?restn139
          case hin139 => (simp only [List.getElem?_toArray, List.getElem?_cons_succ, List.getElem?_cons_zero]; exact rfl)
          case an139 => kernel_rfl
          case bn139 => kernel_rfl
          case cn139 => kernel_rfl
          case qn139 => exact fun _ _ _ h => h
          case dn139 => rfl
          case hyn139 => (intro z hSw; (try dsimp only at hSw); go_simp; (try with_reducible rfl))
          try simp only [Act.put, List.setIfInBounds_toArray, List.set_cons_zero, List.set_cons_succ]
          refine wpAnyH_take (i := 29) (oi := ?on140) (v := ?vn140) ?hin140 ?an140 ?bn140 ?cn140 ?qn140 (Or.inl ⟨?dn140, ?hyn140⟩) hHeld ?restn140
          case hin140 => (simp only [List.getElem?_toArray, List.getElem?_cons_succ, List.getElem?_cons_zero]; exact rfl)
          case an140 => kernel_rfl
          case bn140 => kernel_rfl
          case cn140 => kernel_rfl
          case qn140 => exact fun _ _ _ h => h
          case dn140 => rfl
          case hyn140 => (intro z hSw; (try dsimp only at hSw); go_simp; (try with_reducible rfl))
          try simp only [Act.put, List.setIfInBounds_toArray, List.set_cons_zero, List.set_cons_succ]
          refine wpAnyH_done (by kernel_rfl) ?_ _
          go_wp2_with fail
          go_ret
          exact ⟨rfl, (by repeat (first | with_reducible assumption | with_reducible refine Grew.alloc ?_ _ | with_reducible refine Grew.drew ?_ | with_reducible refine Grew.drewN ?_ _))⟩
      · rw [dcd_false (fun h => h2 (h.2.2.1))]
        rw [dcd_false h2] at KN0
        replace KN0 := Lib.hid KN0
        replace KN1 := Lib.hid KN1
        replace KY := Lib.hid KY
        replace hwb := hwb.symm
        clear h0 h1 h2
        go_enter Tryz.func43, Tryz.ntmps43
        go_wp2_with fail
        rw [← hwb]
        clear hwb
        go_quiet (fail)
        go_wp2_with fail
        refine (KP.out _).mono ?_
        rintro e w1 ⟨rfl, hg1'⟩
        have hg1 : Grew wb w1 := Grew.trans (by repeat (first | with_reducible assumption | with_reducible refine Grew.alloc ?_ _ | with_reducible refine Grew.drew ?_ | with_reducible refine Grew.drewN ?_ _)) hg1'
        have g1 := hal.trans hg1
        have r1 := Grew.refl w1
        have d1 := r1.drew
        have gd := g1.trans d1
        have e0 := fun W (hW : Grew w1 W) => f0 W (hg1.trans hW)
        have e2 := fun W (hW : Grew w1 W) => f2 W (hg1.trans hW)
        have e3 := fun W (hW : Grew w1 W) => f3 W (hg1.trans hW)
        have e4 := fun W (hW : Grew w1 W) => f4 W (hg1.trans hW)
        have p0a := fun W (hW : Grew w1 W) => q0a W (g1.trans hW)
        have p0b := fun W (hW : Grew w1 W) => q0b W (g1.trans hW)
        have p0c := fun W (hW : Grew w1 W) => q0c W (g1.trans hW)
        have p0d := fun W (hW : Grew w1 W) => q0d W (g1.trans hW)
        have p0e := fun W (hW : Grew w1 W) => q0e W (g1.trans hW)
        have p1a := fun W (hW : Grew w1 W) => q1a W (g1.trans hW)
        have p1b := fun W (hW : Grew w1 W) => q1b W (g1.trans hW)
        have p1c := fun W (hW : Grew w1 W) => q1c W (g1.trans hW)
        have p1d := fun W (hW : Grew w1 W) => q1d W (g1.trans hW)
        have p1e := fun W (hW : Grew w1 W) => q1e W (g1.trans hW)
        clear f0 f2 f3 f4 q0a q0b q0c q0d q0e q1a q1b q1c q1d q1e
        go_wp2_with fail
        refine wp_region_held_drew (S := fun w' => Grew w1 w') (by kernel_rfl) d1 (fun hHeld => ?_)
        refine wpAnyH_take (i := 0) (oi := ?on141) (v := ?vn141) ?hin141 ?an141 ?bn141 ?cn141 ?qn141 (Or.inl ⟨?dn141, ?hyn141⟩) hHeld ?restn141
        case hin141 => (simp only [List.getElem?_toArray, List.getElem?_cons_zero]; exact rfl)
        case an141 => kernel_rfl
        case bn141 => kernel_rfl
        case cn141 => kernel_rfl
        case qn141 => exact fun _ _ _ h => h
        case dn141 => rfl
        case hyn141 => (intro z hSw; (try dsimp only at hSw); go_simp; (try with_reducible rfl))
        try simp only [Act.put, List.setIfInBounds_toArray, List.set_cons_zero, List.set_cons_succ]
        refine wpAnyH_take (i := 1) (oi := ?on142) (v := ?vn142) ?hin142 ?an142 ?bn142 ?cn142 ?qn142 (Or.inl ⟨?dn142, ?hyn142⟩) hHeld ?restn142
        case hin142 => (simp only [List.getElem?_toArray, List.getElem?_cons_succ, List.getElem?_cons_zero]; exact rfl)
        case an142 => kernel_rfl
        case bn142 => kernel_rfl
        case cn142 => kernel_rfl
        case qn142 => exact fun _ _ _ h => h
        case dn142 => rfl
        case hyn142 => (intro z hSw; (try dsimp only at hSw); go_simp; (try with_reducible rfl))
        try simp only [Act.put, List.setIfInBounds_toArray, List.set_cons_zero, List.set_cons_succ]
        refine wpAnyH_take (i := 2) (oi := ?on143) (v := ?vn143) ?hin143 ?an143 ?bn143 ?cn143 ?qn143 (Or.inl ⟨?dn143, ?hyn143⟩) hHeld ?restn143
        case hin143 => (simp only [List.getElem?_toArray, List.getElem?_cons_succ, List.getElem?_cons_zero]; exact rfl)
        case an143 => kernel_rfl
        case bn143 => kernel_rfl
        case cn143 => kernel_rfl
        case qn143 => exact fun _ _ _ h => h
        case dn143 => rfl
        case hyn143 => (intro z hSw; (try dsimp only at hSw); go_simp; (try with_reducible rfl))
        try simp only [Act.put, List.setIfInBounds_toArray, List.set_cons_zero, List.set_cons_succ]
        refine wpAnyH_take (i := 3) (oi := ?on144) (v := ?vn144) ?hin144 ?an144 ?bn144 ?cn144 ?qn144 (Or.inl ⟨?dn144, ?hyn144⟩) hHeld ?restn144
        case hin144 => (simp only [List.getElem?_toArray, List.getElem?_cons_succ, List.getElem?_cons_zero]; exact rfl)
        case an144 => kernel_rfl
        case bn144 => kernel_rfl
        case cn144 => kernel_rfl
        case qn144 => exact fun _ _ _ h => h
        case dn144 => rfl
        case hyn144 => (intro z hSw; (try dsimp only at hSw); go_simp; (try with_reducible rfl))
        try simp only [Act.put, List.setIfInBounds_toArray, List.set_cons_zero, List.set_cons_succ]
        refine wpAnyH_take (i := 4) (oi := ?on145) (v := ?vn145) ?hin145 ?an145 ?bn145 ?cn145 ?qn145 (Or.inl ⟨?dn145, ?hyn145⟩) hHeld ?restn145
        case hin145 => (simp only [List.getElem?_toArray, List.getElem?_cons_succ, List.getElem?_cons_zero]; exact rfl)
        case an145 => kernel_rfl
        case bn145 => kernel_rfl
        case cn145 => kernel_rfl
        case qn145 => exact fun _ _ _ h => h
        case dn145 => rfl
        case hyn145 => (intro z hSw; (try dsimp only at hSw); go_simp; (try with_reducible rfl))
        try simp only [Act.put, List.setIfInBounds_toArray, List.set_cons_zero, List.set_cons_succ]
        refine wpAnyH_ready (rs := [5]) (by kernel_rfl) (by simp) ?_
        refine AllReadyH.cons (o := ?on146) ?hin146 ?restn146 AllReadyH.nil
        case hin146 => (simp only [List.getElem?_toArray, List.getElem?_cons_succ, List.getElem?_cons_zero]; exact rfl)
        intro K hK
        go_simp
        go_at_call 54
        refine (KY.out _ (by repeat (first | with_reducible assumption | with_reducible refine Grew.alloc ?_ _ | with_reducible refine Grew.drew ?_ | with_reducible refine Grew.drewN ?_ _))).mono ?_
        rintro e ws ⟨rfl, hgs⟩
        have gws : Grew w ws := Grew.trans (by repeat (first | with_reducible assumption | with_reducible refine Grew.alloc ?_ _ | with_reducible refine Grew.drew ?_ | with_reducible refine Grew.drewN ?_ _)) hgs
        have mws : Grew w1 ws := Grew.trans (by repeat (first | with_reducible assumption | with_reducible refine Grew.alloc ?_ _ | with_reducible refine Grew.drew ?_ | with_reducible refine Grew.drewN ?_ _)) hgs
        refine hK.out _ _ ?_ (fun hHeld => ?_)
        · (try dsimp only); first | with_reducible assumption | exact Grew.alloc ‹_› _
        clear hK K
        try simp only [Act.put, List.setIfInBounds_toArray, List.set_cons_zero, List.set_cons_succ]
        refine wpAnyH_take (i := 6) (oi := ?on147) (v := ?vn147) ?hin147 ?an147 ?bn147 ?cn147 ?qn147 (Or.inl ⟨?dn147, ?hyn147⟩) hHeld ?restn147
        case hin147 => (simp only [List.getElem?_toArray, List.getElem?_cons_succ, List.getElem?_cons_zero]; exact rfl)
        case an147 => kernel_rfl
        case bn147 => kernel_rfl
        case cn147 => kernel_rfl
        case qn147 => exact fun _ _ _ h => h
        case dn147 => rfl
        case hyn147 => (intro z hSw; (try dsimp only at hSw); go_simp; (try with_reducible rfl))
        try simp only [Act.put, List.setIfInBounds_toArray, List.set_cons_zero, List.set_cons_succ]
        refine wpAnyH_take (i := 7) (oi := ?on148) (v := ?vn148) ?hin148 ?an148 ?bn148 ?cn148 ?qn148 (Or.inl ⟨?dn148, ?hyn148⟩) hHeld ?restn148
        case hin148 => (simp only [List.getElem?_toArray, List.getElem?_cons_succ, List.getElem?_cons_zero]; exact rfl)
        case an148 => kernel_rfl
        case bn148 => kernel_rfl
        case cn148 => kernel_rfl
        case qn148 => exact fun _ _ _ h => h
        case dn148 => rfl
        case hyn148 => (intro z hSw; (try dsimp only at hSw); go_simp; (try with_reducible rfl))
        try simp only [Act.put, List.setIfInBounds_toArray, List.set_cons_zero, List.set_cons_succ]
        refine wpAnyH_take (i := 8) (oi := ?on149) (v := ?vn149) ?hin149 ?an149 ?bn149 ?cn149 ?qn149 (Or.inl ⟨?dn149, ?hyn149⟩) hHeld ?restn149
        case hin149 => (simp only [List.getElem?_toArray, List.getElem?_cons_succ, List.getElem?_cons_zero]; exact rfl)
        case an149 => kernel_rfl
        case bn149 => kernel_rfl
        case cn149 => kernel_rfl
        case qn149 => exact fun _ _ _ h => h
        case dn149 => rfl
        case hyn149 => (intro z hSw; (try dsimp only at hSw); go_simp; (try with_reducible rfl))
        try simp only [Act.put, List.setIfInBounds_toArray, List.set_cons_zero, List.set_cons_succ]
        refine wpAnyH_take (i := 9) (oi := ?on150) (v := ?vn150) ?hin150 ?an150 ?bn150 ?cn150 ?qn150 (Or.inl ⟨?dn150, ?hyn150⟩) hHeld ?restn150
        case hin150 => (simp only [List.getElem?_toArray, List.getElem?_cons_succ, List.getElem?_cons_zero]; exact rfl)
        case an150 => kernel_rfl
        case bn150 => kernel_rfl
        case cn150 => kernel_rfl
        case qn150 => exact fun _ _ _ h => h
        case dn150 => rfl
        case hyn150 => (intro z hSw; (try dsimp only at hSw); go_simp; (try with_reducible rfl))
        try simp only [Act.put, List.setIfInBounds_toArray, List.set_cons_zero, List.set_cons_succ]
        refine wpAnyH_take (i := 10) (oi := ?on151) (v := ?vn151) ?hin151 ?an151 ?bn151 ?cn151 ?qn151 (Or.inl ⟨?dn151, ?hyn151⟩) hHeld ?restn151
        case hin151 => (simp only [List.getElem?_toArray, List.getElem?_cons_succ, List.getElem?_cons_zero]; exact rfl)
        case an151 => kernel_rfl
        case bn151 => kernel_rfl
        case cn151 => kernel_rfl
        case qn151 => exact fun _ _ _ h => h
        case dn151 => rfl
        case hyn151 => (intro z hSw; (try dsimp only at hSw); go_simp; (try with_reducible rfl))
        try simp only [Act.put, List.setIfInBounds_toArray, List.set_cons_zero, List.set_cons_succ]
        refine wpAnyH_take (i := 11) (oi := ?on152) (v := ?vn152) ?hin152 ?an152 ?bn152 ?cn152 ?qn152 (Or.inl ⟨?dn152, ?hyn152⟩) hHeld ?restn152
        case hin152 => (simp only [List.getElem?_toArray, List.getElem?_cons_succ, List.getElem?_cons_zero]; exact rfl)
        case an152 => kernel_rfl
        case bn152 => kernel_rfl
        case cn152 => kernel_rfl
        case qn152 => exact fun _ _ _ h => h
        case dn152 => rfl
        case hyn152 => (intro z hSw; (try dsimp only at hSw); go_simp; (try with_reducible rfl))
        try simp only [Act.put, List.setIfInBounds_toArray, List.set_cons_zero, List.set_cons_succ]
        refine wpAnyH_take (i := 12) (oi := ?on153) (v := ?vn153) ?hin153 ?an153 ?bn153 ?cn153 ?qn153 (Or.inl ⟨?dn153, ?hyn153⟩) hHeld ?restn153
        case hin153 => (simp only [List.getElem?_toArray, List.getElem?_cons_succ, List.getElem?_cons_zero]; exact rfl)
        case an153 => kernel_rfl
        case bn153 => kernel_rfl
        case cn153 => kernel_rfl
        case qn153 => exact fun _ _ _ h => h
        case dn153 => rfl
        case hyn153 => (intro z hSw; (try dsimp only at hSw); go_simp; (try with_reducible rfl))
        try simp only [Act.put, List.setIfInBounds_toArray, List.set_cons_zero, List.set_cons_succ]
        refine wpAnyH_take (i := 15) (oi := ?on154) (v := ?vn154) ?hin154 ?an154 ?bn154 ?cn154 ?qn154 (Or.inl ⟨?dn154, ?hyn154⟩) hHeld ?restn154
        case hin154 => (simp only [List.getElem?_toArray, List.getElem?_cons_succ, List.getElem?_cons_zero]; exact rfl)
        case an154 => kernel_rfl
        case bn154 => kernel_rfl
        case cn154 => kernel_rfl
        case qn154 => exact fun _ _ _ h => h
        case dn154 => rfl
        case hyn154 => (intro z hSw; (try dsimp only at hSw); go_simp; (try with_reducible rfl))
        try simp only [Act.put, List.setIfInBounds_toArray, List.set_cons_zero, List.set_cons_succ]
        refine wpAnyH_ready (rs := [13]) (by kernel_rfl) (by simp) ?_
        refine AllReadyH.cons (o := ?on155) ?hin155 ?restn155 AllReadyH.nil
        case hin155 => (simp only [List.getElem?_toArray, List.getElem?_cons_succ, List.getElem?_cons_zero]; exact rfl)
        intro K hK
        go_simp
        refine hK.out _ _ ?_ (fun hHeld => ?_)
        · (try dsimp only); first | with_reducible assumption | exact Grew.alloc ‹_› _
        clear hK K
        try simp only [Act.put, List.setIfInBounds_toArray, List.set_cons_zero, List.set_cons_succ]
        refine wpAnyH_ready (rs := [14]) (by kernel_rfl) (by simp) ?_
        refine AllReadyH.cons (o := ?on156) ?hin156 ?restn156 AllReadyH.nil
        case hin156 => (simp only [List.getElem?_toArray, List.getElem?_cons_succ, List.getElem?_cons_zero]; exact rfl)
        intro K hK
        go_simp
        go_at_call 57
        refine (KW0.out _ (by repeat (first | with_reducible assumption | with_reducible refine Grew.alloc ?_ _ | with_reducible refine Grew.drew ?_ | with_reducible refine Grew.drewN ?_ _)) _ (strs_at1 (by simp) (by simp))).mono ?_
        rintro e z0 ⟨zu0, rfl, zo0, zg0⟩
        have gz0 : Grew w z0 := Grew.trans (by repeat (first | with_reducible assumption | with_reducible refine Grew.alloc ?_ _ | with_reducible refine Grew.drew ?_ | with_reducible refine Grew.drewN ?_ _)) zg0
        have mz0 : Grew w1 z0 := Grew.trans (by repeat (first | with_reducible assumption | with_reducible refine Grew.alloc ?_ _ | with_reducible refine Grew.drew ?_ | with_reducible refine Grew.drewN ?_ _)) zg0
        have zs0 := Lib.hid zo0
        obtain ⟨ZA0, zc0, rfl⟩ := strs_slice zo0
        clear zo0
        refine hK.out _ _ ?_ (fun hHeld => ?_)
        · (try dsimp only); first | with_reducible assumption | exact Grew.alloc ‹_› _
        clear hK K
        try simp only [Act.put, List.setIfInBounds_toArray, List.set_cons_zero, List.set_cons_succ]
        refine wpAnyH_ready (rs := [16]) (by kernel_rfl) (by simp) ?_
        refine AllReadyH.cons (o := ?on157) ?hin157 ?restn157 AllReadyH.nil
        case hin157 => (simp only [List.getElem?_toArray, List.getElem?_cons_succ, List.getElem?_cons_zero]; exact rfl)
        intro K hK
        go_simp
        go_at_call 56
        refine (KN0.out _ (by repeat (first | with_reducible assumption | with_reducible refine Grew.alloc ?_ _ | with_reducible refine Grew.drew ?_ | with_reducible refine Grew.drewN ?_ _)) _ zs0.out).mono ?_
        rintro e v0 ⟨rfl, vg0⟩
        have gv0 : Grew w v0 := Grew.trans (by repeat (first | with_reducible assumption | with_reducible refine Grew.alloc ?_ _ | with_reducible refine Grew.drew ?_ | with_reducible refine Grew.drewN ?_ _)) vg0
        have mv0 : Grew w1 v0 := Grew.trans (by repeat (first | with_reducible assumption | with_reducible refine Grew.alloc ?_ _ | with_reducible refine Grew.drew ?_ | with_reducible refine Grew.drewN ?_ _)) vg0
        refine hK.out _ _ ?_ (fun hHeld => ?_)
        · (try dsimp only); first | with_reducible assumption | exact Grew.alloc ‹_› _
        clear hK K
        try simp only [Act.put, List.setIfInBounds_toArray, List.set_cons_zero, List.set_cons_succ]
        refine wpAnyH_take (i := 17) (oi := ?on158) (v := ?vn158) ?hin158 ?an158 ?bn158 ?cn158 ?qn158 (Or.inl ⟨?dn158, ?hyn158⟩) hHeld ?restn158
        case hin158 => (simp only [List.getElem?_toArray, List.getElem?_cons_succ, List.getElem?_cons_zero]; exact rfl)
        case an158 => kernel_rfl
        case bn158 => kernel_rfl
        case cn158 => kernel_rfl
        case qn158 => exact fun _ _ _ h => h
        case dn158 => rfl
        case hyn158 => (intro z hSw; (try dsimp only at hSw); go_simp; (try with_reducible rfl))
        try simp only [Act.put, List.setIfInBounds_toArray, List.set_cons_zero, List.set_cons_succ]
        refine wpAnyH_take (i := 18) (oi := ?on159) (v := ?vn159) ?hin159 ?an159 ?bn159 ?cn159 ?qn159 (Or.inl ⟨?dn159, ?hyn159⟩) hHeld ?restn159
        case hin159 => (simp only [List.getElem?_toArray, List.getElem?_cons_succ, List.getElem?_cons_zero]; exact rfl)
        case an159 => kernel_rfl
        case bn159 => kernel_rfl
        case cn159 => kernel_rfl
        case qn159 => exact fun _ _ _ h => h
        case dn159 => rfl
        case hyn159 => (intro z hSw; (try dsimp only at hSw); go_simp; (try with_reducible rfl))
        try simp only [Act.put, List.setIfInBounds_toArray, List.set_cons_zero, List.set_cons_succ]
        refine wpAnyH_take (i := 19) (oi := ?on160) ?hin160 ?an160 ?bn160 ?cn160 ?qn160 (Or.inr ⟨?dn160, rfl⟩) hHeld ?restn160
        case hin160 => (simp only [List.getElem?_toArray, List.getElem?_cons_succ, List.getElem?_cons_zero]; exact rfl)
        case an160 => kernel_rfl
        case bn160 => kernel_rfl
        case cn160 => kernel_rfl
        case qn160 => exact fun _ _ _ h => h
        case dn160 => rfl
        try simp only [Act.put, List.setIfInBounds_toArray, List.set_cons_zero, List.set_cons_succ]
        refine wpAnyH_take (i := 20) (oi := ?on161) ?hin161 ?an161 ?bn161 ?cn161 ?qn161 (Or.inr ⟨?dn161, rfl⟩) hHeld ?restn161
        case hin161 => (simp only [List.getElem?_toArray, List.getElem?_cons_succ, List.getElem?_cons_zero]; exact rfl)
        case an161 => kernel_rfl
        case bn161 => kernel_rfl
        case cn161 => kernel_rfl
        case qn161 => exact fun _ _ _ h => h
        case dn161 => rfl
        try simp only [Act.put, List.setIfInBounds_toArray, List.set_cons_zero, List.set_cons_succ]
        refine wpAnyH_take (i := 21) (oi := ?on162) ?hin162 ?an162 ?bn162 ?cn162 ?qn162 (Or.inr ⟨?dn162, rfl⟩) hHeld ?restn162
        case hin162 => (simp only [List.getElem?_toArray, List.getElem?_cons_succ, List.getElem?_cons_zero]; exact rfl)
        case an162 => kernel_rfl
        case bn162 => kernel_rfl
        case cn162 => kernel_rfl
        case qn162 => exact fun _ _ _ h => h
        case dn162 => rfl
        try simp only [Act.put, List.setIfInBounds_toArray, List.set_cons_zero, List.set_cons_succ]
        refine wpAnyH_take (i := 22) (oi := ?on163) ?hin163 ?an163 ?bn163 ?cn163 ?qn163 (Or.inr ⟨?dn163, rfl⟩) hHeld ?restn163
        case hin163 => (simp only [List.getElem?_toArray, List.getElem?_cons_succ, List.getElem?_cons_zero]; exact rfl)
        case an163 => kernel_rfl
        case bn163 => kernel_rfl
        case cn163 => kernel_rfl
        case qn163 => exact fun _ _ _ h => h
        case dn163 => rfl
        try simp only [Act.put, List.setIfInBounds_toArray, List.set_cons_zero, List.set_cons_succ]
        refine wpAnyH_take (i := 23) (oi := ?on164) ?hin164 ?an164 ?bn164 ?cn164 ?qn164 (Or.inr ⟨?dn164, rfl⟩) hHeld ?restn164
        case hin164 => (simp only [List.getElem?_toArray, List.getElem?_cons_succ, List.getElem?_cons_zero]; exact rfl)
        case an164 => kernel_rfl
        case bn164 => kernel_rfl
        case cn164 => kernel_rfl
        case qn164 => exact fun _ _ _ h => h
        case dn164 => rfl
        try simp only [Act.put, List.setIfInBounds_toArray, List.set_cons_zero, List.set_cons_succ]
        refine wpAnyH_take (i := 24) (oi := ?on165) ?hin165 ?an165 ?bn165 ?cn165 ?qn165 (Or.inr ⟨?dn165, rfl⟩) hHeld ?restn165
        case hin165 => (simp only [List.getElem?_toArray, List.getElem?_cons_succ, List.getElem?_cons_zero]; exact rfl)
        case an165 => kernel_rfl
        case bn165 => kernel_rfl
        case cn165 => kernel_rfl
        case qn165 => exact fun _ _ _ h => h
        case dn165 => rfl
        try simp only [Act.put, List.setIfInBounds_toArray, List.set_cons_zero, List.set_cons_succ]
        refine wpAnyH_take (i := 25) (oi := ?on166) ?hin166 ?an166 ?bn166 ?cn166 ?qn166 (Or.inr ⟨?dn166, rfl⟩) hHeld ?restn166
        case hin166 => (simp only [List.getElem?_toArray, List.getElem?_cons_succ, List.getElem?_cons_zero]; exact rfl)
        case an166 => kernel_rfl
        case bn166 => kernel_rfl
        case cn166 => kernel_rfl
        case qn166 => exact fun _ _ _ h => h
        case dn166 => rfl
        try simp only [Act.put, List.setIfInBounds_toArray, List.set_cons_zero, List.set_cons_succ]
        refine wpAnyH_take (i := 26) (oi := ?on167) ?hin167 ?an167 ?bn167 ?cn167 ?qn167 (Or.inr ⟨?dn167, rfl⟩) hHeld ?restn167
        case hin167 => (simp only [List.getElem?_toArray, List.getElem?_cons_succ, List.getElem?_cons_zero]; exact rfl)
        case an167 => kernel_rfl
        case bn167 => kernel_rfl
        case cn167 => kernel_rfl
        case qn167 => exact fun _ _ _ h => h
        case dn167 => rfl
        try simp only [Act.put, List.setIfInBounds_toArray, List.set_cons_zero, List.set_cons_succ]
        refine wpAnyH_take (i := 27) (oi := ?on168) ?hin168 ?an168 ?bn168 ?cn168 ?qn168 (Or.inr ⟨?dn168, rfl⟩) hHeld ?restn168
        case hin168 => (simp only [List.getElem?_toArray, List.getElem?_cons_succ, List.getElem?_cons_zero]; exact rfl)
        case an168 => kernel_rfl
        case bn168 => kernel_rfl
        case cn168 => kernel_rfl
        case qn168 => exact fun _ _ _ h => h
        case dn168 => rfl
        try simp only [Act.put, List.setIfInBounds_toArray, List.set_cons_zero, List.set_cons_succ]
        refine wpAnyH_take (i := 28) (oi := ?on169) (v := ?vn169) ?hin169 ?an169 ?bn169 ?cn169 ?qn169 (Or.inl ⟨?dn169, ?hyn169⟩) hHeld ?restn169
        case hin169 => (simp only [List.getElem?_toArray, List.getElem?_cons_succ, List.getElem?_cons_zero]; exact rfl)
        case an169 => kernel_rfl
        case bn169 => kernel_rfl
        case cn169 => kernel_rfl
        case qn169 => exact fun _ _ _ h => h
        case dn169 => rfl
        case hyn169 => (intro z hSw; (try dsimp only at hSw); go_simp; (try with_reducible rfl))
        try simp only [Act.put, List.setIfInBounds_toArray, List.set_cons_zero, List.set_cons_succ]
        refine wpAnyH_take (i := 29) (oi := ?on170) (v := ?vn170) ?hin170 ?an170 ?bn170 ?cn170 ?qn170 (Or.inl ⟨?dn170, ?hyn170⟩) hHeld ?restn170
        case hin170 => (simp only [List.getElem?_toArray, List.getElem?_cons_succ, List.getElem?_cons_zero]; exact rfl)
        case an170 => kernel_rfl
        case bn170 => kernel_rfl
        case cn170 => kernel_rfl
        case qn170 => exact fun _ _ _ h => h
        case dn170 => rfl
        case hyn170 => (intro z hSw; (try dsimp only at hSw); go_simp; (try with_reducible rfl))
        try simp only [Act.put, List.setIfInBounds_toArray, List.set_cons_zero, List.set_cons_succ]
        refine wpAnyH_done (by kernel_rfl) ?_ _
        go_wp2_with fail
        go_ret
        exact ⟨rfl, (by repeat (first | with_reducible assumption | with_reducible refine Grew.alloc ?_ _ | with_reducible refine Grew.drew ?_ | with_reducible refine Grew.drewN ?_ _))⟩
    · rw [dcd_false (fun h => h1 (h.2.1))]
      rw [dcd_false h1] at KY
      replace KN0 := Lib.hid KN0
      replace KN1 := Lib.hid KN1
      replace KY := Lib.hid KY
      replace hwb := hwb.symm
      clear h0 h1
      go_enter Tryz.func43, Tryz.ntmps43
      go_wp2_with fail
      rw [← hwb]
      clear hwb
      go_quiet (fail)
      go_wp2_with fail
      refine (KP.out _).mono ?_
      rintro e w1 ⟨rfl, hg1'⟩
      have hg1 : Grew wb w1 := Grew.trans (by repeat (first | with_reducible assumption | with_reducible refine Grew.alloc ?_ _ | with_reducible refine Grew.drew ?_ | with_reducible refine Grew.drewN ?_ _)) hg1'
      have g1 := hal.trans hg1
      have r1 := Grew.refl w1
      have d1 := r1.drew
      have gd := g1.trans d1
      have e0 := fun W (hW : Grew w1 W) => f0 W (hg1.trans hW)
      have e2 := fun W (hW : Grew w1 W) => f2 W (hg1.trans hW)
      have e3 := fun W (hW : Grew w1 W) => f3 W (hg1.trans hW)
      have e4 := fun W (hW : Grew w1 W) => f4 W (hg1.trans hW)
      have p0a := fun W (hW : Grew w1 W) => q0a W (g1.trans hW)
      have p0b := fun W (hW : Grew w1 W) => q0b W (g1.trans hW)
      have p0c := fun W (hW : Grew w1 W) => q0c W (g1.trans hW)
      have p0d := fun W (hW : Grew w1 W) => q0d W (g1.trans hW)
      have p0e := fun W (hW : Grew w1 W) => q0e W (g1.trans hW)
      have p1a := fun W (hW : Grew w1 W) => q1a W (g1.trans hW)
      have p1b := fun W (hW : Grew w1 W) => q1b W (g1.trans hW)
      have p1c := fun W (hW : Grew w1 W) => q1c W (g1.trans hW)
      have p1d := fun W (hW : Grew w1 W) => q1d W (g1.trans hW)
      have p1e := fun W (hW : Grew w1 W) => q1e W (g1.trans hW)
      clear f0 f2 f3 f4 q0a q0b q0c q0d q0e q1a q1b q1c q1d q1e
      go_wp2_with fail
      refine wp_region_held_drew (S := fun w' => Grew w1 w') (by kernel_rfl) d1 (fun hHeld => ?_)
      refine wpAnyH_take (i := 0) (oi := ?on171) (v := ?vn171) ?hin171 ?an171 ?bn171 ?cn171 ?qn171 (Or.inl ⟨?dn171, ?hyn171⟩) hHeld ?restn171
      case hin171 => (simp only [List.getElem?_toArray, List.getElem?_cons_zero]; exact rfl)
      case an171 => kernel_rfl
      case bn171 => kernel_rfl
      case cn171 => kernel_rfl
      case qn171 => exact fun _ _ _ h => h
      case dn171 => rfl
      case hyn171 => (intro z hSw; (try dsimp only at hSw); go_simp; (try with_reducible rfl))
      try simp only [Act.put, List.setIfInBounds_toArray, List.set_cons_zero, List.set_cons_succ]
      refine wpAnyH_take (i := 1) (oi := ?on172) (v := ?vn172) ?hin172 ?an172 ?bn172 ?cn172 ?qn172 (Or.inl ⟨?dn172, ?hyn172⟩) hHeld ?restn172
      case hin172 => (simp only [List.getElem?_toArray, List.getElem?_cons_succ, List.getElem?_cons_zero]; exact rfl)
      case an172 => kernel_rfl
      case bn172 => kernel_rfl
      case cn172 => kernel_rfl
      case qn172 => exact fun _ _ _ h => h
      case dn172 => rfl
      case hyn172 => (intro z hSw; (try dsimp only at hSw); go_simp; (try with_reducible rfl))
      try simp only [Act.put, List.setIfInBounds_toArray, List.set_cons_zero, List.set_cons_succ]
      refine wpAnyH_take (i := 2) (oi := ?on173) (v := ?vn173) ?hin173 ?an173 ?bn173 ?cn173 ?qn173 (Or.inl ⟨?dn173, ?hyn173⟩) hHeld ?restn173
      case hin173 => (simp only [List.getElem?_toArray, List.getElem?_cons_succ, List.getElem?_cons_zero]; exact rfl)
      case an173 => kernel_rfl
      case bn173 => kernel_rfl
      case cn173 => kernel_rfl
      case qn173 => exact fun _ _ _ h => h
      case dn173 => rfl
      case hyn173 => (intro z hSw; (try dsimp only at hSw); go_simp; (try with_reducible rfl))
      try simp only [Act.put, List.setIfInBounds_toArray, List.set_cons_zero, List.set_cons_succ]
      refine wpAnyH_take (i := 3) (oi := ?on174) (v := ?vn174) ?hin174 ?an174 ?bn174 ?cn174 ?qn174 (Or.inl ⟨?dn174, ?hyn174⟩) hHeld ?restn174
      case hin174 => (simp only [List.getElem?_toArray, List.getElem?_cons_succ, List.getElem?_cons_zero]; exact rfl)
      case an174 => kernel_rfl
      case bn174 => kernel_rfl
      case cn174 => kernel_rfl
      case qn174 => exact fun _ _ _ h => h
      case dn174 => rfl
      case hyn174 => (intro z hSw; (try dsimp only at hSw); go_simp; (try with_reducible rfl))
      try simp only [Act.put, List.setIfInBounds_toArray, List.set_cons_zero, List.set_cons_succ]
      refine wpAnyH_take (i := 4) (oi := ?on175) (v := ?vn175) ?hin175 ?an175 ?bn175 ?cn175 ?qn175 (Or.inl ⟨?dn175, ?hyn175⟩) hHeld ?restn175
      case hin175 => (simp only [List.getElem?_toArray, List.getElem?_cons_succ, List.getElem?_cons_zero]; exact rfl)
      case an175 => kernel_rfl
      case bn175 => kernel_rfl
      case cn175 => kernel_rfl
      case qn175 => exact fun _ _ _ h => h
      case dn175 => rfl
      case hyn175 => (intro z hSw; (try dsimp only at hSw); go_simp; (try with_reducible rfl))
      try simp only [Act.put, List.setIfInBounds_toArray, List.set_cons_zero, List.set_cons_succ]
      refine wpAnyH_ready (rs := [5]) (by kernel_rfl) (by simp) ?_
      refine AllReadyH.cons (o := ?on176) ?hin176 ?restn176 AllReadyH.nil
      case hin176 => (simp only [List.getElem?_toArray, List.getElem?_cons_succ, List.getElem?_cons_zero]; exact rfl)
      intro K hK
      go_simp
      go_at_call 54
      refine (KY.out _ (by repeat (first | with_reducible assumption | with_reducible refine Grew.alloc ?_ _ | with_reducible refine Grew.drew ?_ | with_reducible refine Grew.drewN ?_ _))).mono ?_
      rintro e ws ⟨rfl, hgs⟩
      have gws : Grew w ws := Grew.trans (by repeat (first | with_reducible assumption | with_reducible refine Grew.alloc ?_ _ | with_reducible refine Grew.drew ?_ | with_reducible refine Grew.drewN ?_ _)) hgs
      have mws : Grew w1 ws := Grew.trans (by repeat (first | with_reducible assumption | with_reducible refine Grew.alloc ?_ _ | with_reducible refine Grew.drew ?_ | with_reducible refine Grew.drewN ?_ _)) hgs
      refine hK.out _ _ ?_ (fun hHeld => ?_)
      · (try dsimp only); first | with_reducible assumption | exact Grew.alloc ‹_› _
      clear hK K
      try simp only [Act.put, List.setIfInBounds_toArray, List.set_cons_zero, List.set_cons_succ]
      refine wpAnyH_take (i := 6) (oi := ?on177) (v := ?vn177) ?hin177 ?an177 ?bn177 ?cn177 ?qn177 (Or.inl ⟨?dn177, ?hyn177⟩) hHeld ?restn177
      case hin177 => (simp only [List.getElem?_toArray, List.getElem?_cons_succ, List.getElem?_cons_zero]; exact rfl)
      case an177 => kernel_rfl
      case bn177 => kernel_rfl
      case cn177 => kernel_rfl
      case qn177 => exact fun _ _ _ h => h
      case dn177 => rfl
      case hyn177 => (intro z hSw; (try dsimp only at hSw); go_simp; (try with_reducible rfl))
      try simp only [Act.put, List.setIfInBounds_toArray, List.set_cons_zero, List.set_cons_succ]
      refine wpAnyH_take (i := 7) (oi := ?on178) (v := ?vn178) ?hin178 ?an178 ?bn178 ?cn178 ?qn178 (Or.inl ⟨?dn178, ?hyn178⟩) hHeld ?restn178
      case hin178 => (simp only [List.getElem?_toArray, List.getElem?_cons_succ, List.getElem?_cons_zero]; exact rfl)
      case an178 => kernel_rfl
      case bn178 => kernel_rfl
      case cn178 => kernel_rfl
      case qn178 => exact fun _ _ _ h => h
      case dn178 => rfl
      case hyn178 => (intro z hSw; (try dsimp only at hSw); go_simp; (try with_reducible rfl))
      try simp only [Act.put, List.setIfInBounds_toArray, List.set_cons_zero, List.set_cons_succ]
      refine wpAnyH_take (i := 8) (oi := ?on179) ?hin179 ?an179 ?bn179 ?cn179 ?qn179 (Or.inr ⟨?dn179, rfl⟩) hHeld ?restn179
      case hin179 => (simp only [List.getElem?_toArray, List.getElem?_cons_succ, List.getElem?_cons_zero]; exact rfl)
      case an179 => kernel_rfl
      case bn179 => kernel_rfl
      case cn179 => kernel_rfl
      case qn179 => exact fun _ _ _ h => h
      case dn179 => rfl
      try simp only [Act.put, List.setIfInBounds_toArray, List.set_cons_zero, List.set_cons_succ]
      refine wpAnyH_take (i := 9) (oi := ?on180) ?hin180 ?an180 ?bn180 ?cn180 ?qn180 (Or.inr ⟨?dn180, rfl⟩) hHeld ?restn180
      case hin180 => (simp only [List.getElem?_toArray, List.getElem?_cons_succ, List.getElem?_cons_zero]; exact rfl)
      case an180 => kernel_rfl
      case bn180 => kernel_rfl
      case cn180 => kernel_rfl
      case qn180 => exact fun _ _ _ h => h
      case dn180 => rfl
      try simp only [Act.put, List.setIfInBounds_toArray, List.set_cons_zero, List.set_cons_succ]
      refine wpAnyH_take (i := 10) (oi := ?on181) ?hin181 ?an181 ?bn181 ?cn181 ?qn181 (Or.inr ⟨?dn181, rfl⟩) hHeld ?restn181
      case hin181 => (simp only [List.getElem?_toArray, List.getElem?_cons_succ, List.getElem?_cons_zero]; exact rfl)
      case an181 => kernel_rfl
      case bn181 => kernel_rfl
      case cn181 => kernel_rfl
      case qn181 => exact fun _ _ _ h => h
      case dn181 => rfl
      try simp only [Act.put, List.setIfInBounds_toArray, List.set_cons_zero, List.set_cons_succ]
      refine wpAnyH_take (i := 11) (oi := ?on182) ?hin182 ?an182 ?bn182 ?cn182 ?qn182 (Or.inr ⟨?dn182, rfl⟩) hHeld ?restn182
      case hin182 => (simp only [List.getElem?_toArray, List.getElem?_cons_succ, List.getElem?_cons_zero]; exact rfl)
      case an182 => kernel_rfl
      case bn182 => kernel_rfl
      case cn182 => kernel_rfl
      case qn182 => exact fun _ _ _ h => h
      case dn182 => rfl
      try simp only [Act.put, List.setIfInBounds_toArray, List.set_cons_zero, List.set_cons_succ]
      refine wpAnyH_take (i := 12) (oi := ?on183) ?hin183 ?an183 ?bn183 ?cn183 ?qn183 (Or.inr ⟨?dn183, rfl⟩) hHeld ?restn183
      case hin183 => (simp only [List.getElem?_toArray, List.getElem?_cons_succ, List.getElem?_cons_zero]; exact rfl)
      case an183 => kernel_rfl
      case bn183 => kernel_rfl
      case cn183 => kernel_rfl
      case qn183 => exact fun _ _ _ h => h
      case dn183 => rfl
      try simp only [Act.put, List.setIfInBounds_toArray, List.set_cons_zero, List.set_cons_succ]
      refine wpAnyH_take (i := 13) (oi := ?on184) ?hin184 ?an184 ?bn184 ?cn184 ?qn184 (Or.inr ⟨?dn184, rfl⟩) hHeld ?restn184
      case hin184 => (simp only [List.getElem?_toArray, List.getElem?_cons_succ, List.getElem?_cons_zero]; exact rfl)
      case an184 => kernel_rfl
      case bn184 => kernel_rfl
      case cn184 => kernel_rfl
      case qn184 => exact fun _ _ _ h => h
      case dn184 => rfl
      try simp only [Act.put, List.setIfInBounds_toArray, List.set_cons_zero, List.set_cons_succ]
      refine wpAnyH_take (i := 14) (oi := ?on185) ?hin185 ?an185 ?bn185 ?cn185 ?qn185 (Or.inr ⟨?dn185, rfl⟩) hHeld ?restn185
      case hin185 => (simp only [List.getElem?_toArray, List.getElem?_cons_succ, List.getElem?_cons_zero]; exact rfl)
      case an185 => kernel_rfl
      case bn185 => kernel_rfl
      case cn185 => kernel_rfl
      case qn185 => exact fun _ _ _ h => h
      case dn185 => rfl
      try simp only [Act.put, List.setIfInBounds_toArray, List.set_cons_zero, List.set_cons_succ]
      refine wpAnyH_take (i := 15) (oi := ?on186) ?hin186 ?an186 ?bn186 ?cn186 ?qn186 (Or.inr ⟨?dn186, rfl⟩) hHeld ?restn186
      case hin186 => (simp only [List.getElem?_toArray, List.getElem?_cons_succ, List.getElem?_cons_zero]; exact rfl)
      case an186 => kernel_rfl
      case bn186 => kernel_rfl
      case cn186 => kernel_rfl
      case qn186 => exact fun _ _ _ h => h
      case dn186 => rfl
      try simp only [Act.put, List.setIfInBounds_toArray, List.set_cons_zero, List.set_cons_succ]
      refine wpAnyH_take (i := 16) (oi := ?on187) ?hin187 ?an187 ?bn187 ?cn187 ?qn187 (Or.inr ⟨?dn187, rfl⟩) hHeld ?restn187
      case hin187 => (simp only [List.getElem?_toArray, List.getElem?_cons_succ, List.getElem?_cons_zero]; exact rfl)
      case an187 => kernel_rfl
      case bn187 => kernel_rfl
      case cn187 => kernel_rfl
      case qn187 => exact fun _ _ _ h => h
      case dn187 => rfl
      try simp only [Act.put, List.setIfInBounds_toArray, List.set_cons_zero, List.set_cons_succ]
      refine wpAnyH_take (i := 17) (oi := ?on188) (v := ?vn188) ?hin188 ?an188 ?bn188 ?cn188 ?qn188 (Or.inl ⟨?dn188, ?hyn188⟩) hHeld ?restn188
      case hin188 => (simp only [List.getElem?_toArray, List.getElem?_cons_succ, List.getElem?_cons_zero]; exact rfl)
      case an188 => kernel_rfl
      case bn188 => kernel_rfl
      case cn188 => kernel_rfl
      case qn188 => exact fun _ _ _ h => h
      case dn188 => rfl
      case hyn188 => (intro z hSw; (try dsimp only at hSw); go_simp; (try with_reducible rfl))
      try simp only [Act.put, List.setIfInBounds_toArray, List.set_cons_zero, List.set_cons_succ]
      refine wpAnyH_take (i := 18) (oi := ?on189) (v := ?vn189) ?hin189 ?an189 ?bn189 ?cn189 ?qn189 (Or.inl ⟨?dn189, ?hyn189⟩) hHeld ?restn189
      case hin189 => (simp only [List.getElem?_toArray, List.getElem?_cons_succ, List.getElem?_cons_zero]; exact rfl)
      case an189 => kernel_rfl
      case bn189 => kernel_rfl
      case cn189 => kernel_rfl
      case qn189 => exact fun _ _ _ h => h
      case dn189 => rfl
      case hyn189 => (intro z hSw; (try dsimp only at hSw); go_simp; (try with_reducible rfl))
      try simp only [Act.put, List.setIfInBounds_toArray, List.set_cons_zero, List.set_cons_succ]
      refine wpAnyH_take (i := 19) (oi := ?on190) ?hin190 ?an190 ?bn190 ?cn190 ?qn190 (Or.inr ⟨?dn190, rfl⟩) hHeld ?restn190
      case hin190 => (simp only [List.getElem?_toArray, List.getElem?_cons_succ, List.getElem?_cons_zero]; exact rfl)
      case an190 => kernel_rfl
      case bn190 => kernel_rfl
      case cn190 => kernel_rfl
      case qn190 => exact fun _ _ _ h => h
      case dn190 => rfl
      try simp only [Act.put, List.setIfInBounds_toArray, List.set_cons_zero, List.set_cons_succ]
      refine wpAnyH_take (i := 20) (oi := ?on191) ?hin191 ?an191 ?bn191 ?cn191 ?qn191 (Or.inr ⟨?dn191, rfl⟩) hHeld ?restn191
      case hin191 => (simp only [List.getElem?_toArray, List.getElem?_cons_succ, List.getElem?_cons_zero]; exact rfl)
      case an191 => kernel_rfl
      case bn191 => kernel_rfl
      case cn191 => kernel_rfl
      case qn191 => exact fun _ _ _ h => h
      case dn191 => rfl
      try simp only [Act.put, List.setIfInBounds_toArray, List.set_cons_zero, List.set_cons_succ]
      refine wpAnyH_take (i := 21) (oi := ?on192) ?hin192 ?an192 ?bn192 ?cn192 ?qn192 (Or.inr ⟨?dn192, rfl⟩) hHeld ?restn192
      case hin192 => (simp only [List.getElem?_toArray, List.getElem?_cons_succ, List.getElem?_cons_zero]; exact rfl)
      case an192 => kernel_rfl
      case bn192 => kernel_rfl
      case cn192 => kernel_rfl
      case qn192 => exact fun _ _ _ h => h
      case dn192 => rfl
      try simp only [Act.put, List.setIfInBounds_toArray, List.set_cons_zero, List.set_cons_succ]
      refine wpAnyH_take (i := 22) (oi := ?on193) ?hin193 ?an193 ?bn193 ?cn193 ?qn193 (Or.inr ⟨?dn193, rfl⟩) hHeld ?restn193
      case hin193 => (simp only [List.getElem?_toArray, List.getElem?_cons_succ, List.getElem?_cons_zero]; exact rfl)
      case an193 => kernel_rfl
      case bn193 => kernel_rfl
      case cn193 => kernel_rfl
      case qn193 => exact fun _ _ _ h => h
      case dn193 => rfl
      try simp only [Act.put, List.setIfInBounds_toArray, List.set_cons_zero, List.set_cons_succ]
      refine wpAnyH_take (i := 23) (oi := ?on194) ?hin194 ?an194 ?bn194 ?cn194 ?qn194 (Or.inr ⟨?dn194, rfl⟩) hHeld ?restn194
      case hin194 => (simp only [List.getElem?_toArray, List.getElem?_cons_succ, List.getElem?_cons_zero]; exact rfl)
      case an194 => kernel_rfl
      case bn194 => kernel_rfl
      case cn194 => kernel_rfl
      case qn194 => exact fun _ _ _ h => h
      case dn194 => rfl
      try simp only [Act.put, List.setIfInBounds_toArray, List.set_cons_zero, List.set_cons_succ]
      refine wpAnyH_take (i := 24) (oi := ?on195) ?hin195 ?an195 ?bn195 ?cn195 ?qn195 (Or.inr ⟨?dn195, rfl⟩) hHeld ?restn195
      case hin195 => (simp only [List.getElem?_toArray, List.getElem?_cons_succ, List.getElem?_cons_zero]; exact rfl)
      case an195 => kernel_rfl
      case bn195 => kernel_rfl
      case cn195 => kernel_rfl
      case qn195 => exact fun _ _ _ h => h
      case dn195 => rfl
      try simp only [Act.put, List.setIfInBounds_toArray, List.set_cons_zero, List.set_cons_succ]
      refine wpAnyH_take (i := 25) (oi := ?on196) ?hin196 ?an196 ?bn196 ?cn196 ?qn196 (Or.inr ⟨?dn196, rfl⟩) hHeld ?restn196
      case hin196 => (simp only [List.getElem?_toArray, List.getElem?_cons_succ, List.getElem?_cons_zero]; exact rfl)
      case an196 => kernel_rfl
      case bn196 => kernel_rfl
      case cn196 => kernel_rfl
      case qn196 => exact fun _ _ _ h => h
      case dn196 => rfl
      try simp only [Act.put, List.setIfInBounds_toArray, List.set_cons_zero, List.set_cons_succ]
      refine wpAnyH_take (i := 26) (oi := ?on197) ?hin197 ?an197 ?bn197 ?cn197 ?qn197 (Or.inr ⟨?dn197, rfl⟩) hHeld ?restn197
      case hin197 => (simp only [List.getElem?_toArray, List.getElem?_cons_succ, List.getElem?_cons_zero]; exact rfl)
      case an197 => kernel_rfl
      case bn197 => kernel_rfl
      case cn197 => kernel_rfl
      case qn197 => exact fun _ _ _ h => h
      case dn197 => rfl
      try simp only [Act.put, List.setIfInBounds_toArray, List.set_cons_zero, List.set_cons_succ]
      refine wpAnyH_take (i := 27) (oi := ?on198) ?hin198 ?an198 ?bn198 ?cn198 ?qn198 (Or.inr ⟨?dn198, rfl⟩) hHeld ?restn198
      case hin198 => (simp only [List.getElem?_toArray, List.getElem?_cons_succ, List.getElem?_cons_zero]; exact rfl)
      case an198 => kernel_rfl
      case bn198 => kernel_rfl
      case cn198 => kernel_rfl
      case qn198 => exact fun _ _ _ h => h
      case dn198 => rfl
      try simp only [Act.put, List.setIfInBounds_toArray, List.set_cons_zero, List.set_cons_succ]
      refine wpAnyH_take (i := 28) (oi := ?on199) (v := ?vn199) ?hin199 ?an199 ?bn199 ?cn199 ?qn199 (Or.inl ⟨?dn199, ?hyn199⟩) hHeld ?restn199
      case hin199 => (simp only [List.getElem?_toArray, List.getElem?_cons_succ, List.getElem?_cons_zero]; exact rfl)
      case an199 => kernel_rfl
      case bn199 => kernel_rfl
      case cn199 => kernel_rfl
      case qn199 => exact fun _ _ _ h => h
      case dn199 => rfl
      case hyn199 => (intro z hSw; (try dsimp only at hSw); go_simp; (try with_reducible rfl))
      try simp only [Act.put, List.setIfInBounds_toArray, List.set_cons_zero, List.set_cons_succ]
      refine wpAnyH_take (i := 29) (oi := ?on200) (v := ?vn200) ?hin200 ?an200 ?bn200 ?cn200 ?qn200 (Or.inl ⟨?dn200, ?hyn200⟩) hHeld ?restn200
      case hin200 => (simp only [List.getElem?_toArray, List.getElem?_cons_succ, List.getElem?_cons_zero]; exact rfl)
      case an200 => kernel_rfl
      case bn200 => kernel_rfl
      case cn200 => kernel_rfl
      case qn200 => exact fun _ _ _ h => h
      case dn200 => rfl
      case hyn200 => (intro z hSw; (try dsimp only at hSw); go_simp; (try with_reducible rfl))
      try simp only [Act.put, List.setIfInBounds_toArray, List.set_cons_zero, List.set_cons_succ]
      refine wpAnyH_done (by kernel_rfl) ?_ _
      go_wp2_with fail
      go_ret
      exact ⟨rfl, (by repeat (first | with_reducible assumption | with_reducible refine Grew.alloc ?_ _ | with_reducible refine Grew.drew ?_ | with_reducible refine Grew.drewN ?_ _))⟩
  · rw [dcd_false (fun h => h0 (h.1))]
    have KP := Lib.hid (fun W => split_no 3 M W hM h0)
    replace KN0 := Lib.hid KN0
    replace KN1 := Lib.hid KN1
    replace KY := Lib.hid KY
    replace hwb := hwb.symm
    clear h0
    go_enter Tryz.func43, Tryz.ntmps43
    go_wp2_with fail
    rw [← hwb]
    clear hwb
    go_quiet (fail)
    go_wp2_with fail
    refine (KP.out _).mono ?_
    rintro e w1 ⟨rfl, hg1'⟩
    have hg1 : Grew wb w1 := Grew.trans (by repeat (first | with_reducible assumption | with_reducible refine Grew.alloc ?_ _ | with_reducible refine Grew.drew ?_ | with_reducible refine Grew.drewN ?_ _)) hg1'
    have g1 := hal.trans hg1
    have r1 := Grew.refl w1
    have d1 := r1.drew
    have gd := g1.trans d1
    have e0 := fun W (hW : Grew w1 W) => f0 W (hg1.trans hW)
    have e2 := fun W (hW : Grew w1 W) => f2 W (hg1.trans hW)
    have e3 := fun W (hW : Grew w1 W) => f3 W (hg1.trans hW)
    have e4 := fun W (hW : Grew w1 W) => f4 W (hg1.trans hW)
    have p0a := fun W (hW : Grew w1 W) => q0a W (g1.trans hW)
    have p0b := fun W (hW : Grew w1 W) => q0b W (g1.trans hW)
    have p0c := fun W (hW : Grew w1 W) => q0c W (g1.trans hW)
    have p0d := fun W (hW : Grew w1 W) => q0d W (g1.trans hW)
    have p0e := fun W (hW : Grew w1 W) => q0e W (g1.trans hW)
    have p1a := fun W (hW : Grew w1 W) => q1a W (g1.trans hW)
    have p1b := fun W (hW : Grew w1 W) => q1b W (g1.trans hW)
    have p1c := fun W (hW : Grew w1 W) => q1c W (g1.trans hW)
    have p1d := fun W (hW : Grew w1 W) => q1d W (g1.trans hW)
    have p1e := fun W (hW : Grew w1 W) => q1e W (g1.trans hW)
    clear f0 f2 f3 f4 q0a q0b q0c q0d q0e q1a q1b q1c q1d q1e
    go_wp2_with fail
    refine wp_region_held_drew (S := fun w' => Grew w1 w') (by kernel_rfl) d1 (fun hHeld => ?_)
    refine wpAnyH_take (i := 0) (oi := ?on201) (v := ?vn201) ?hin201 ?an201 ?bn201 ?cn201 ?qn201 (Or.inl ⟨?dn201, ?hyn201⟩) hHeld ?restn201
    case hin201 => (simp only [List.getElem?_toArray, List.getElem?_cons_zero]; exact rfl)
    case an201 => kernel_rfl
    case bn201 => kernel_rfl
    case cn201 => kernel_rfl
    case qn201 => exact fun _ _ _ h => h
    case dn201 => rfl
    case hyn201 => (intro z hSw; (try dsimp only at hSw); go_simp; (try with_reducible rfl))
    try simp only [Act.put, List.setIfInBounds_toArray, List.set_cons_zero, List.set_cons_succ]
    refine wpAnyH_take (i := 1) (oi := ?on202) (v := ?vn202) ?hin202 ?an202 ?bn202 ?cn202 ?qn202 (Or.inl ⟨?dn202, ?hyn202⟩) hHeld ?restn202
    case hin202 => (simp only [List.getElem?_toArray, List.getElem?_cons_succ, List.getElem?_cons_zero]; exact rfl)
    case an202 => kernel_rfl
    case bn202 => kernel_rfl
    case cn202 => kernel_rfl
    case qn202 => exact fun _ _ _ h => h
    case dn202 => rfl
    case hyn202 => (intro z hSw; (try dsimp only at hSw); go_simp; (try with_reducible rfl))
    try simp only [Act.put, List.setIfInBounds_toArray, List.set_cons_zero, List.set_cons_succ]
    refine wpAnyH_take (i := 2) (oi := ?on203) ?hin203 ?an203 ?bn203 ?cn203 ?qn203 (Or.inr ⟨?dn203, rfl⟩) hHeld ?restn203
    case hin203 => (simp only [List.getElem?_toArray, List.getElem?_cons_succ, List.getElem?_cons_zero]; exact rfl)
    case an203 => kernel_rfl
    case bn203 => kernel_rfl
    case cn203 => kernel_rfl
    case qn203 => exact fun _ _ _ h => h
    case dn203 => rfl
    try simp only [Act.put, List.setIfInBounds_toArray, List.set_cons_zero, List.set_cons_succ]
    refine wpAnyH_take (i := 3) (oi := ?on204) ?hin204 ?an204 ?bn204 ?cn204 ?qn204 (Or.inr ⟨?dn204, rfl⟩) hHeld ?restn204
    case hin204 => (simp only [List.getElem?_toArray, List.getElem?_cons_succ, List.getElem?_cons_zero]; exact rfl)
    case an204 => kernel_rfl
    case bn204 => kernel_rfl
    case cn204 => kernel_rfl
    case qn204 => exact fun _ _ _ h => h
    case dn204 => rfl
    try simp only [Act.put, List.setIfInBounds_toArray, List.set_cons_zero, List.set_cons_succ]
    refine wpAnyH_take (i := 4) (oi := ?on205) ?hin205 ?an205 ?bn205 ?cn205 ?qn205 (Or.inr ⟨?dn205, rfl⟩) hHeld ?restn205
    case hin205 => (simp only [List.getElem?_toArray, List.getElem?_cons_succ, List.getElem?_cons_zero]; exact rfl)
    case an205 => kernel_rfl
    case bn205 => kernel_rfl
    case cn205 => kernel_rfl
    case qn205 => exact fun _ _ _ h => h
    case dn205 => rfl
    try simp only [Act.put, List.setIfInBounds_toArray, List.set_cons_zero, List.set_cons_succ]
    refine wpAnyH_take (i := 5) (oi := ?on206) ?hin206 ?an206 ?bn206 ?cn206 ?qn206 (Or.inr ⟨?dn206, rfl⟩) hHeld ?restn206
    case hin206 => (simp only [List.getElem?_toArray, List.getElem?_cons_succ, List.getElem?_cons_zero]; exact rfl)
    case an206 => kernel_rfl
    case bn206 => kernel_rfl
    case cn206 => kernel_rfl
    case qn206 => exact fun _ _ _ h => h
    case dn206 => rfl
    try simp only [Act.put, List.setIfInBounds_toArray, List.set_cons_zero, List.set_cons_succ]
    refine wpAnyH_take (i := 6) (oi := ?on207) (v := ?vn207) ?hin207 ?an207 ?bn207 ?cn207 ?qn207 (Or.inl ⟨?dn207, ?hyn207⟩) hHeld ?restn207
    case hin207 => (simp only [List.getElem?_toArray, List.getElem?_cons_succ, List.getElem?_cons_zero]; exact rfl)
    case an207 => kernel_rfl
    case bn207 => kernel_rfl
    case cn207 => kernel_rfl
    case qn207 => exact fun _ _ _ h => h
    case dn207 => rfl
    case hyn207 => (intro z hSw; (try dsimp only at hSw); go_simp; (try with_reducible rfl))
    try simp only [Act.put, List.setIfInBounds_toArray, List.set_cons_zero, List.set_cons_succ]
    refine wpAnyH_take (i := 7) (oi := ?on208) (v := ?vn208) ?hin208 ?an208 ?bn208 ?cn208 ?qn208 (Or.inl ⟨?dn208, ?hyn208⟩) hHeld ?restn208
    case hin208 => (simp only [List.getElem?_toArray, List.getElem?_cons_succ, List.getElem?_cons_zero]; exact rfl)
    case an208 => kernel_rfl
    case bn208 => kernel_rfl
    case cn208 => kernel_rfl
    case qn208 => exact fun _ _ _ h => h
    case dn208 => rfl
    case hyn208 => (intro z hSw; (try dsimp only at hSw); go_simp; (try with_reducible rfl))
    try simp only [Act.put, List.setIfInBounds_toArray, List.set_cons_zero, List.set_cons_succ]
    refine wpAnyH_take (i := 8) (oi := ?on209) ?hin209 ?an209 ?bn209 ?cn209 ?qn209 (Or.inr ⟨?dn209, rfl⟩) hHeld ?restn209
    case hin209 => (simp only [List.getElem?_toArray, List.getElem?_cons_succ, List.getElem?_cons_zero]; exact rfl)
    case an209 => kernel_rfl
    case bn209 => kernel_rfl
    case cn209 => kernel_rfl
    case qn209 => exact fun _ _ _ h => h
    case dn209 => rfl
    try simp only [Act.put, List.setIfInBounds_toArray, List.set_cons_zero, List.set_cons_succ]
    refine wpAnyH_take (i := 9) (oi := ?on210) ?hin210 ?an210 ?bn210 ?cn210 ?qn210 (Or.inr ⟨?dn210, rfl⟩) hHeld ?restn210
    case hin210 => (simp only [List.getElem?_toArray, List.getElem?_cons_succ, List.getElem?_cons_zero]; exact rfl)
    case an210 => kernel_rfl
    case bn210 => kernel_rfl
    case cn210 => kernel_rfl
    case qn210 => exact fun _ _ _ h => h
    case dn210 => rfl
    try simp only [Act.put, List.setIfInBounds_toArray, List.set_cons_zero, List.set_cons_succ]
    refine wpAnyH_take (i := 10) (oi := ?on211) ?hin211 ?an211 ?bn211 ?cn211 ?qn211 (Or.inr ⟨?dn211, rfl⟩) hHeld ?restn211
    case hin211 => (simp only [List.getElem?_toArray, List.getElem?_cons_succ, List.getElem?_cons_zero]; exact rfl)
    case an211 => kernel_rfl
    case bn211 => kernel_rfl
    case cn211 => kernel_rfl
    case qn211 => exact fun _ _ _ h => h
    case dn211 => rfl
    try simp only [Act.put, List.setIfInBounds_toArray, List.set_cons_zero, List.set_cons_succ]
    refine wpAnyH_take (i := 11) (oi := ?on212) ?hin212 ?an212 ?bn212 ?cn212 ?qn212 (Or.inr ⟨?dn212, rfl⟩) hHeld ?restn212
    case hin212 => (simp only [List.getElem?_toArray, List.getElem?_cons_succ, List.getElem?_cons_zero]; exact rfl)
    case an212 => kernel_rfl
    case bn212 => kernel_rfl
    case cn212 => kernel_rfl
    case qn212 => exact fun _ _ _ h => h
    case dn212 => rfl
    try simp only [Act.put, List.setIfInBounds_toArray, List.set_cons_zero, List.set_cons_succ]
    refine wpAnyH_take (i := 12) (oi := ?on213) ?hin213 ?an213 ?bn213 ?cn213 ?qn213 (Or.inr ⟨?dn213, rfl⟩) hHeld ?restn213
    case hin213 => (simp only [List.getElem?_toArray, List.getElem?_cons_succ, List.getElem?_cons_zero]; exact rfl)
    case an213 => kernel_rfl
    case bn213 => kernel_rfl
    case cn213 => kernel_rfl
    case qn213 => exact fun _ _ _ h => h
    case dn213 => rfl
    try simp only [Act.put, List.setIfInBounds_toArray, List.set_cons_zero, List.set_cons_succ]
    refine wpAnyH_take (i := 13) (oi := ?on214) ?hin214 ?an214 ?bn214 ?cn214 ?qn214 (Or.inr ⟨?dn214, rfl⟩) hHeld ?restn214
    case hin214 => (simp only [List.getElem?_toArray, List.getElem?_cons_succ, List.getElem?_cons_zero]; exact rfl)
    case an214 => kernel_rfl
    case bn214 => kernel_rfl
    case cn214 => kernel_rfl
    case qn214 => exact fun _ _ _ h => h
    case dn214 => rfl
    try simp only [Act.put, List.setIfInBounds_toArray, List.set_cons_zero, List.set_cons_succ]
    refine wpAnyH_take (i := 14) (oi := ?on215) ?hin215 ?an215 ?bn215 ?cn215 ?qn215 (Or.inr ⟨?dn215, rfl⟩) hHeld ?restn215
    case hin215 => (simp only [List.getElem?_toArray, List.getElem?_cons_succ, List.getElem?_cons_zero]; exact rfl)
    case an215 => kernel_rfl
    case bn215 => kernel_rfl
    case cn215 => kernel_rfl
    case qn215 => exact fun _ _ _ h => h
    case dn215 => rfl
    try simp only [Act.put, List.setIfInBounds_toArray, List.set_cons_zero, List.set_cons_succ]
    refine wpAnyH_take (i := 15) (oi := ?on216) ?hin216 ?an216 ?bn216 ?cn216 ?qn216 (Or.inr ⟨?dn216, rfl⟩) hHeld ?restn216
    case hin216 => (simp only [List.getElem?_toArray, List.getElem?_cons_succ, List.getElem?_cons_zero]; exact rfl)
    case an216 => kernel_rfl
    case bn216 => kernel_rfl
    case cn216 => kernel_rfl
    case qn216 => exact fun _ _ _ h => h
    case dn216 => rfl
    try simp only [Act.put, List.setIfInBounds_toArray, List.set_cons_zero, List.set_cons_succ]
    refine wpAnyH_take (i := 16) (oi := ?on217) ?hin217 ?an217 ?bn217 ?cn217 ?qn217 (Or.inr ⟨?dn217, rfl⟩) hHeld ?restn217
    case hin217 => (simp only [List.getElem?_toArray, List.getElem?_cons_succ, List.getElem?_cons_zero]; exact rfl)
    case an217 => kernel_rfl
    case bn217 => kernel_rfl
    case cn217 => kernel_rfl
    case qn217 => exact fun _ _ _ h => h
    case dn217 => rfl
    try simp only [Act.put, List.setIfInBounds_toArray, List.set_cons_zero, List.set_cons_succ]
    refine wpAnyH_take (i := 17) (oi := ?on218) (v := ?vn218) ?hin218 ?an218 ?bn218 ?cn218 ?qn218 (Or.inl ⟨?dn218, ?hyn218⟩) hHeld ?restn218
    case hin218 => (simp only [List.getElem?_toArray, List.getElem?_cons_succ, List.getElem?_cons_zero]; exact rfl)
    case an218 => kernel_rfl
    case bn218 => kernel_rfl
    case cn218 => kernel_rfl
    case qn218 => exact fun _ _ _ h => h
    case dn218 => rfl
    case hyn218 => (intro z hSw; (try dsimp only at hSw); go_simp; (try with_reducible rfl))
    try simp only [Act.put, List.setIfInBounds_toArray, List.set_cons_zero, List.set_cons_succ]
    refine wpAnyH_take (i := 18) (oi := ?on219) (v := ?vn219) ?hin219 ?an219 ?bn219 ?cn219 ?qn219 (Or.inl ⟨?dn219, ?hyn219⟩) hHeld ?restn219
    case hin219 => (simp only [List.getElem?_toArray, List.getElem?_cons_succ, List.getElem?_cons_zero]; exact rfl)
    case an219 => kernel_rfl
    case bn219 => kernel_rfl
    case cn219 => kernel_rfl
    case qn219 => exact fun _ _ _ h => h
    case dn219 => rfl
    case hyn219 => (intro z hSw; (try dsimp only at hSw); go_simp; (try with_reducible rfl))
    try simp only [Act.put, List.setIfInBounds_toArray, List.set_cons_zero, List.set_cons_succ]
    refine wpAnyH_take (i := 19) (oi := ?on220) ?hin220 ?an220 ?bn220 ?cn220 ?qn220 (Or.inr ⟨?dn220, rfl⟩) hHeld ?restn220
    case hin220 => (simp only [List.getElem?_toArray, List.getElem?_cons_succ, List.getElem?_cons_zero]; exact rfl)
    case an220 => kernel_rfl
    case bn220 => kernel_rfl
    case cn220 => kernel_rfl
    case qn220 => exact fun _ _ _ h => h
    case dn220 => rfl
    try simp only [Act.put, List.setIfInBounds_toArray, List.set_cons_zero, List.set_cons_succ]
    refine wpAnyH_take (i := 20) (oi := ?on221) ?hin221 ?an221 ?bn221 ?cn221 ?qn221 (Or.inr ⟨?dn221, rfl⟩) hHeld ?restn221
    case hin221 => (simp only [List.getElem?_toArray, List.getElem?_cons_succ, List.getElem?_cons_zero]; exact rfl)
    case an221 => kernel_rfl
    case bn221 => kernel_rfl
    case cn221 => kernel_rfl
    case qn221 => exact fun _ _ _ h => h
    case dn221 => rfl
    try simp only [Act.put, List.setIfInBounds_toArray, List.set_cons_zero, List.set_cons_succ]
    refine wpAnyH_take (i := 21) (oi := ?on222) ?hin222 ?an222 ?bn222 ?cn222 ?qn222 (Or.inr ⟨?dn222, rfl⟩) hHeld ?restn222
    case hin222 => (simp only [List.getElem?_toArray, List.getElem?_cons_succ, List.getElem?_cons_zero]; exact rfl)
    case an222 => kernel_rfl
    case bn222 => kernel_rfl
    case cn222 => kernel_rfl
    case qn222 => exact fun _ _ _ h => h
    case dn222 => rfl
    try simp only [Act.put, List.setIfInBounds_toArray, List.set_cons_zero, List.set_cons_succ]
    refine wpAnyH_take (i := 22) (oi := ?on223) ?hin223 ?an223 ?bn223 ?cn223 ?qn223 (Or.inr ⟨?dn223, rfl⟩) hHeld ?restn223
    case hin223 => (simp only [List.getElem?_toArray, List.getElem?_cons_succ, List.getElem?_cons_zero]; exact rfl)
    case an223 => kernel_rfl
    case bn223 => kernel_rfl
    case cn223 => kernel_rfl
    case qn223 => exact fun _ _ _ h => h
    case dn223 => rfl
    try simp only [Act.put, List.setIfInBounds_toArray, List.set_cons_zero, List.set_cons_succ]
    refine wpAnyH_take (i := 23) (oi := ?on224) ?hin224 ?an224 ?bn224 ?cn224 ?qn224 (Or.inr ⟨?dn224, rfl⟩) hHeld ?restn224
    case hin224 => (simp only [List.getElem?_toArray, List.getElem?_cons_succ, List.getElem?_cons_zero]; exact rfl)
    case an224 => kernel_rfl
    case bn224 => kernel_rfl
    case cn224 => kernel_rfl
    case qn224 => exact fun _ _ _ h => h
    case dn224 => rfl
    try simp only [Act.put, List.setIfInBounds_toArray, List.set_cons_zero, List.set_cons_succ]
    refine wpAnyH_take (i := 24) (oi := ?on225) ?hin225 ?an225 ?bn225 ?cn225 ?qn225 (Or.inr ⟨?dn225, rfl⟩) hHeld ?restn225
    case hin225 => (simp only [List.getElem?_toArray, List.getElem?_cons_succ, List.getElem?_cons_zero]; exact rfl)
    case an225 => kernel_rfl
    case bn225 => kernel_rfl
    case cn225 => kernel_rfl
    case qn225 => exact fun _ _ _ h => h
    case dn225 => rfl
    try simp only [Act.put, List.setIfInBounds_toArray, List.set_cons_zero, List.set_cons_succ]
    refine wpAnyH_take (i := 25) (oi := ?on226) ?hin226 ?an226 ?bn226 ?cn226 ?qn226 (Or.inr ⟨?dn226, rfl⟩) hHeld ?restn226
    case hin226 => (simp only [List.getElem?_toArray, List.getElem?_cons_succ, List.getElem?_cons_zero]; exact rfl)
    case an226 => kernel_rfl
    case bn226 => kernel_rfl
    case cn226 => kernel_rfl
    case qn226 => exact fun _ _ _ h => h
    case dn226 => rfl
    try simp only [Act.put, List.setIfInBounds_toArray, List.set_cons_zero, List.set_cons_succ]
    refine wpAnyH_take (i := 26) (oi := ?on227) ?hin227 ?an227 ?bn227 ?cn227 ?qn227 (Or.inr ⟨?dn227, rfl⟩) hHeld ?restn227
    case hin227 => (simp only [List.getElem?_toArray, List.getElem?_cons_succ, List.getElem?_cons_zero]; exact rfl)
    case an227 => kernel_rfl
    case bn227 => kernel_rfl
    case cn227 => kernel_rfl
    case qn227 => exact fun _ _ _ h => h
    case dn227 => rfl
    try simp only [Act.put, List.setIfInBounds_toArray, List.set_cons_zero, List.set_cons_succ]
    refine wpAnyH_take (i := 27) (oi := ?on228) ?hin228 ?an228 ?bn228 ?cn228 ?qn228 (Or.inr ⟨?dn228, rfl⟩) hHeld ?restn228
    case hin228 => (simp only [List.getElem?_toArray, List.getElem?_cons_succ, List.getElem?_cons_zero]; exact rfl)
    case an228 => kernel_rfl
    case bn228 => kernel_rfl
    case cn228 => kernel_rfl
    case qn228 => exact fun _ _ _ h => h
    case dn228 => rfl
    try simp only [Act.put, List.setIfInBounds_toArray, List.set_cons_zero, List.set_cons_succ]
    refine wpAnyH_take (i := 28) (oi := ?on229) (v := ?vn229) ?hin229 ?an229 ?bn229 ?cn229 ?qn229 (Or.inl ⟨?dn229, ?hyn229⟩) hHeld ?restn229
    case hin229 => (simp only [List.getElem?_toArray, List.getElem?_cons_succ, List.getElem?_cons_zero]; exact rfl)
    case an229 => kernel_rfl
    case bn229 => kernel_rfl
    case cn229 => kernel_rfl
    case qn229 => exact fun _ _ _ h => h
    case dn229 => rfl
    case hyn229 => (intro z hSw; (try dsimp only at hSw); go_simp; (try with_reducible rfl))
    try simp only [Act.put, List.setIfInBounds_toArray, List.set_cons_zero, List.set_cons_succ]
    refine wpAnyH_take (i := 29) (oi := ?on230) (v := ?vn230) ?hin230 ?an230 ?bn230 ?cn230 ?qn230 (Or.inl ⟨?dn230, ?hyn230⟩) hHeld ?restn230
    case hin230 => (simp only [List.getElem?_toArray, List.getElem?_cons_succ, List.getElem?_cons_zero]; exact rfl)
    case an230 => kernel_rfl
    case bn230 => kernel_rfl
    case cn230 => kernel_rfl
    case qn230 => exact fun _ _ _ h => h
    case dn230 => rfl
    case hyn230 => (intro z hSw; (try dsimp only at hSw); go_simp; (try with_reducible rfl))
    try simp only [Act.put, List.setIfInBounds_toArray, List.set_cons_zero, List.set_cons_succ]
    refine wpAnyH_done (by kernel_rfl) ?_ _
    go_wp2_with fail
    go_ret
    exact ⟨rfl, (by repeat (first | with_reducible assumption | with_reducible refine Grew.alloc ?_ _ | with_reducible refine Grew.drew ?_ | with_reducible refine Grew.drewN ?_ _))⟩
end Go.Proofs.YtkjmfkllmljdeaaGreat

/- l22Fits of the reference at some rules. -/
namespace Go.Proofs.YtkjmfkllmljdeaaGreat
open Go.RowKit

set_option maxHeartbeats 8000000 in
set_option maxRecDepth 8192 in
theorem ruleJ_6 (P : List Int) (A : List ByteArray) (C M : ByteArray) : RuleJ (6, P, A, C, M) 1 := by
  intro up ua vp p w hup hs hv hq hC hM hu hk
  simp only at hup hs hq hC hM hu hk ⊢
  obtain ⟨hgC, hasc, hln⟩ := sqB_and hq
  have hUp := ascP_up hasc
  obtain ⟨y0, rfl⟩ := lenJ1 hk
  obtain ⟨r0, P0, A0, C0, M0⟩ := y0
  have hM0 := usesJ_no hu (by decide)
  obtain ⟨pb, po, pc, rfl, hpc, hpm, hat⟩ := jfs_at hv (by simp)
  have hiff : okJ (6, P, A, C, M) ([(r0, P0, A0, C0, M0)].map js) ↔ (isK C 3 ∧ js (r0, P0, A0, C0, M0) = (A, pl C)) := by
    exact okJ_6 hgC hM0
  rw [dcd_congr hiff]
  clear hiff
  obtain ⟨up0, ua0, q0a, q0b, q0c, q0d, q0e, hp0, hu0⟩ := hat 0 _ rfl
  simp only [Nat.zero_mul, Nat.add_zero] at q0a q0b q0c q0d q0e hp0 hu0
  have KN0 := fun W (hW : Grew w W) v (hv : Strs W v (A)) => needJ_c (r0, P0, A0, C0, M0) up0 ua0 v (A) (pl C) W (hp0.grew hW) (hu0.grew hW) hv
  have HSA := Lib.hid (fun W (hW : Grew w W) => hs.grew hW)
  obtain ⟨VP, cp, rfl⟩ := ints_slice hup
  obtain ⟨UA, ca, rfl⟩ := strs_slice hs
  obtain ⟨V0, d0, rfl⟩ := ints_slice hp0
  obtain ⟨U0, c0, rfl⟩ := strs_slice hu0
  simp only [List.length_cons, List.length_nil] at hpc ⊢
  have hal := (Grew.refl w).alloc (.cells #[.int .i64 6, .slice VP P.length cp, .slice UA A.length ca, .string C, .string M] 42)
  have f0 : ∀ W, Grew (w.alloc (.cells #[.int .i64 6, .slice VP P.length cp, .slice UA A.length ca, .string C, .string M] 42)) W → W.cell? ⟨w.heap.size, 0, none⟩ = some (.int .i64 6) := fun W hW => (hW.cell (p := ⟨w.heap.size, 0, none⟩) (by simp)).trans (by simp)
  have f2 : ∀ W, Grew (w.alloc (.cells #[.int .i64 6, .slice VP P.length cp, .slice UA A.length ca, .string C, .string M] 42)) W → W.cell? ⟨w.heap.size, 2, none⟩ = some (.slice UA A.length ca) := fun W hW => (hW.cell (p := ⟨w.heap.size, 2, none⟩) (by simp)).trans (by simp)
  have f3 : ∀ W, Grew (w.alloc (.cells #[.int .i64 6, .slice VP P.length cp, .slice UA A.length ca, .string C, .string M] 42)) W → W.cell? ⟨w.heap.size, 3, none⟩ = some (.string C) := fun W hW => (hW.cell (p := ⟨w.heap.size, 3, none⟩) (by simp)).trans (by simp)
  have f4 : ∀ W, Grew (w.alloc (.cells #[.int .i64 6, .slice VP P.length cp, .slice UA A.length ca, .string C, .string M] 42)) W → W.cell? ⟨w.heap.size, 4, none⟩ = some (.string M) := fun W hW => (hW.cell (p := ⟨w.heap.size, 4, none⟩) (by simp)).trans (by simp)
  clear hup hs hv hat hk hq hasc hUp hu hM0 hu0 hp0
  generalize P.length = pln at *
  generalize A.length = al at *
  generalize A0.length = al0 at *
  generalize P0.length = pl0 at *
  generalize hwb : w.alloc (.cells #[.int .i64 6, .slice VP pln cp, .slice UA al ca, .string C, .string M] 42) = wb at *
  have rb := Grew.refl wb
  have rbd := rb.drew
  have rbn := fun n => rb.drewN n
  by_cases h0 : isK C 3
  · have hh : True := trivial
    have KP := Lib.hid (fun W => split_yes 3 C W h0 (by decide))
    by_cases h1 : js (r0, P0, A0, C0, M0) = (A, pl C)
    · have hh : True := trivial
      rw [dcd_true h1] at KN0
      rw [dcd_true ⟨h0, h1⟩]
      replace KN0 := Lib.hid KN0
      replace hwb := hwb.symm
      clear h0 h1
      go_enter Tryz.func43, Tryz.ntmps43
      go_wp2_with fail
      rw [← hwb]
      clear hwb
      go_quiet (fail)
      go_wp2_with fail
      refine (KP.out _).mono ?_
      rintro e w1 ⟨rfl, hg1'⟩
      have hg1 : Grew wb w1 := Grew.trans (by repeat (first | with_reducible assumption | with_reducible refine Grew.alloc ?_ _ | with_reducible refine Grew.drew ?_ | with_reducible refine Grew.drewN ?_ _)) hg1'
      have g1 := hal.trans hg1
      have r1 := Grew.refl w1
      have d1 := r1.drew
      have gd := g1.trans d1
      have e0 := fun W (hW : Grew w1 W) => f0 W (hg1.trans hW)
      have e2 := fun W (hW : Grew w1 W) => f2 W (hg1.trans hW)
      have e3 := fun W (hW : Grew w1 W) => f3 W (hg1.trans hW)
      have e4 := fun W (hW : Grew w1 W) => f4 W (hg1.trans hW)
      have p0a := fun W (hW : Grew w1 W) => q0a W (g1.trans hW)
      have p0b := fun W (hW : Grew w1 W) => q0b W (g1.trans hW)
      have p0c := fun W (hW : Grew w1 W) => q0c W (g1.trans hW)
      have p0d := fun W (hW : Grew w1 W) => q0d W (g1.trans hW)
      have p0e := fun W (hW : Grew w1 W) => q0e W (g1.trans hW)
      clear f0 f2 f3 f4 q0a q0b q0c q0d q0e
      go_wp2_with fail
      refine (KN0.out _ (by repeat (first | with_reducible assumption | with_reducible refine Grew.alloc ?_ _ | with_reducible refine Grew.drew ?_ | with_reducible refine Grew.drewN ?_ _)) _ (HSA.out _ (by repeat (first | with_reducible assumption | with_reducible refine Grew.alloc ?_ _ | with_reducible refine Grew.drew ?_ | with_reducible refine Grew.drewN ?_ _)))).mono ?_
      rintro e v0 ⟨rfl, vg0⟩
      have gv0 : Grew w v0 := Grew.trans (by repeat (first | with_reducible assumption | with_reducible refine Grew.alloc ?_ _ | with_reducible refine Grew.drew ?_ | with_reducible refine Grew.drewN ?_ _)) vg0
      have mv0 : Grew w1 v0 := Grew.trans (by repeat (first | with_reducible assumption | with_reducible refine Grew.alloc ?_ _ | with_reducible refine Grew.drew ?_ | with_reducible refine Grew.drewN ?_ _)) vg0
      go_wp2_with fail
      go_ret
      exact ⟨rfl, (by repeat (first | with_reducible assumption | with_reducible refine Grew.alloc ?_ _ | with_reducible refine Grew.drew ?_ | with_reducible refine Grew.drewN ?_ _))⟩
    · rw [dcd_false (fun h => h1 (h.2))]
      rw [dcd_false h1] at KN0
      replace KN0 := Lib.hid KN0
      replace hwb := hwb.symm
      clear h0 h1
      go_enter Tryz.func43, Tryz.ntmps43
      go_wp2_with fail
      rw [← hwb]
      clear hwb
      go_quiet (fail)
      go_wp2_with fail
      refine (KP.out _).mono ?_
      rintro e w1 ⟨rfl, hg1'⟩
      have hg1 : Grew wb w1 := Grew.trans (by repeat (first | with_reducible assumption | with_reducible refine Grew.alloc ?_ _ | with_reducible refine Grew.drew ?_ | with_reducible refine Grew.drewN ?_ _)) hg1'
      have g1 := hal.trans hg1
      have r1 := Grew.refl w1
      have d1 := r1.drew
      have gd := g1.trans d1
      have e0 := fun W (hW : Grew w1 W) => f0 W (hg1.trans hW)
      have e2 := fun W (hW : Grew w1 W) => f2 W (hg1.trans hW)
      have e3 := fun W (hW : Grew w1 W) => f3 W (hg1.trans hW)
      have e4 := fun W (hW : Grew w1 W) => f4 W (hg1.trans hW)
      have p0a := fun W (hW : Grew w1 W) => q0a W (g1.trans hW)
      have p0b := fun W (hW : Grew w1 W) => q0b W (g1.trans hW)
      have p0c := fun W (hW : Grew w1 W) => q0c W (g1.trans hW)
      have p0d := fun W (hW : Grew w1 W) => q0d W (g1.trans hW)
      have p0e := fun W (hW : Grew w1 W) => q0e W (g1.trans hW)
      clear f0 f2 f3 f4 q0a q0b q0c q0d q0e
      go_wp2_with fail
      refine (KN0.out _ (by repeat (first | with_reducible assumption | with_reducible refine Grew.alloc ?_ _ | with_reducible refine Grew.drew ?_ | with_reducible refine Grew.drewN ?_ _)) _ (HSA.out _ (by repeat (first | with_reducible assumption | with_reducible refine Grew.alloc ?_ _ | with_reducible refine Grew.drew ?_ | with_reducible refine Grew.drewN ?_ _)))).mono ?_
      rintro e v0 ⟨rfl, vg0⟩
      have gv0 : Grew w v0 := Grew.trans (by repeat (first | with_reducible assumption | with_reducible refine Grew.alloc ?_ _ | with_reducible refine Grew.drew ?_ | with_reducible refine Grew.drewN ?_ _)) vg0
      have mv0 : Grew w1 v0 := Grew.trans (by repeat (first | with_reducible assumption | with_reducible refine Grew.alloc ?_ _ | with_reducible refine Grew.drew ?_ | with_reducible refine Grew.drewN ?_ _)) vg0
      go_wp2_with fail
      go_ret
      exact ⟨rfl, (by repeat (first | with_reducible assumption | with_reducible refine Grew.alloc ?_ _ | with_reducible refine Grew.drew ?_ | with_reducible refine Grew.drewN ?_ _))⟩
  · rw [dcd_false (fun h => h0 (h.1))]
    have KP := Lib.hid (fun W => split_no 3 C W hC h0)
    replace KN0 := Lib.hid KN0
    replace hwb := hwb.symm
    clear h0
    go_enter Tryz.func43, Tryz.ntmps43
    go_wp2_with fail
    rw [← hwb]
    clear hwb
    go_quiet (fail)
    go_wp2_with fail
    refine (KP.out _).mono ?_
    rintro e w1 ⟨rfl, hg1'⟩
    have hg1 : Grew wb w1 := Grew.trans (by repeat (first | with_reducible assumption | with_reducible refine Grew.alloc ?_ _ | with_reducible refine Grew.drew ?_ | with_reducible refine Grew.drewN ?_ _)) hg1'
    have g1 := hal.trans hg1
    have r1 := Grew.refl w1
    have d1 := r1.drew
    have gd := g1.trans d1
    have e0 := fun W (hW : Grew w1 W) => f0 W (hg1.trans hW)
    have e2 := fun W (hW : Grew w1 W) => f2 W (hg1.trans hW)
    have e3 := fun W (hW : Grew w1 W) => f3 W (hg1.trans hW)
    have e4 := fun W (hW : Grew w1 W) => f4 W (hg1.trans hW)
    have p0a := fun W (hW : Grew w1 W) => q0a W (g1.trans hW)
    have p0b := fun W (hW : Grew w1 W) => q0b W (g1.trans hW)
    have p0c := fun W (hW : Grew w1 W) => q0c W (g1.trans hW)
    have p0d := fun W (hW : Grew w1 W) => q0d W (g1.trans hW)
    have p0e := fun W (hW : Grew w1 W) => q0e W (g1.trans hW)
    clear f0 f2 f3 f4 q0a q0b q0c q0d q0e
    go_wp2_with fail
    go_ret
    exact ⟨rfl, (by repeat (first | with_reducible assumption | with_reducible refine Grew.alloc ?_ _ | with_reducible refine Grew.drew ?_ | with_reducible refine Grew.drewN ?_ _))⟩

set_option maxHeartbeats 8000000 in
set_option maxRecDepth 8192 in
theorem ruleJ_7 (P : List Int) (A : List ByteArray) (C M : ByteArray) : RuleJ (7, P, A, C, M) 1 := by
  intro up ua vp p w hup hs hv hq hC hM hu hk
  simp only at hup hs hq hC hM hu hk ⊢
  obtain ⟨hgC, hasc, hln⟩ := sqB_and hq
  have hUp := ascP_up hasc
  obtain ⟨y0, rfl⟩ := lenJ1 hk
  obtain ⟨r0, P0, A0, C0, M0⟩ := y0
  have hM0 := usesJ_no hu (by decide)
  obtain ⟨pb, po, pc, rfl, hpc, hpm, hat⟩ := jfs_at hv (by simp)
  have hiff : okJ (7, P, A, C, M) ([(r0, P0, A0, C0, M0)].map js) ↔ (isK C 3 ∧ js (r0, P0, A0, C0, M0) = (A, pr C)) := by
    exact okJ_7 hgC hM0
  rw [dcd_congr hiff]
  clear hiff
  obtain ⟨up0, ua0, q0a, q0b, q0c, q0d, q0e, hp0, hu0⟩ := hat 0 _ rfl
  simp only [Nat.zero_mul, Nat.add_zero] at q0a q0b q0c q0d q0e hp0 hu0
  have KN0 := fun W (hW : Grew w W) v (hv : Strs W v (A)) => needJ_c (r0, P0, A0, C0, M0) up0 ua0 v (A) (pr C) W (hp0.grew hW) (hu0.grew hW) hv
  have HSA := Lib.hid (fun W (hW : Grew w W) => hs.grew hW)
  obtain ⟨VP, cp, rfl⟩ := ints_slice hup
  obtain ⟨UA, ca, rfl⟩ := strs_slice hs
  obtain ⟨V0, d0, rfl⟩ := ints_slice hp0
  obtain ⟨U0, c0, rfl⟩ := strs_slice hu0
  simp only [List.length_cons, List.length_nil] at hpc ⊢
  have hal := (Grew.refl w).alloc (.cells #[.int .i64 7, .slice VP P.length cp, .slice UA A.length ca, .string C, .string M] 42)
  have f0 : ∀ W, Grew (w.alloc (.cells #[.int .i64 7, .slice VP P.length cp, .slice UA A.length ca, .string C, .string M] 42)) W → W.cell? ⟨w.heap.size, 0, none⟩ = some (.int .i64 7) := fun W hW => (hW.cell (p := ⟨w.heap.size, 0, none⟩) (by simp)).trans (by simp)
  have f2 : ∀ W, Grew (w.alloc (.cells #[.int .i64 7, .slice VP P.length cp, .slice UA A.length ca, .string C, .string M] 42)) W → W.cell? ⟨w.heap.size, 2, none⟩ = some (.slice UA A.length ca) := fun W hW => (hW.cell (p := ⟨w.heap.size, 2, none⟩) (by simp)).trans (by simp)
  have f3 : ∀ W, Grew (w.alloc (.cells #[.int .i64 7, .slice VP P.length cp, .slice UA A.length ca, .string C, .string M] 42)) W → W.cell? ⟨w.heap.size, 3, none⟩ = some (.string C) := fun W hW => (hW.cell (p := ⟨w.heap.size, 3, none⟩) (by simp)).trans (by simp)
  have f4 : ∀ W, Grew (w.alloc (.cells #[.int .i64 7, .slice VP P.length cp, .slice UA A.length ca, .string C, .string M] 42)) W → W.cell? ⟨w.heap.size, 4, none⟩ = some (.string M) := fun W hW => (hW.cell (p := ⟨w.heap.size, 4, none⟩) (by simp)).trans (by simp)
  clear hup hs hv hat hk hq hasc hUp hu hM0 hu0 hp0
  generalize P.length = pln at *
  generalize A.length = al at *
  generalize A0.length = al0 at *
  generalize P0.length = pl0 at *
  generalize hwb : w.alloc (.cells #[.int .i64 7, .slice VP pln cp, .slice UA al ca, .string C, .string M] 42) = wb at *
  have rb := Grew.refl wb
  have rbd := rb.drew
  have rbn := fun n => rb.drewN n
  by_cases h0 : isK C 3
  · have hh : True := trivial
    have KP := Lib.hid (fun W => split_yes 3 C W h0 (by decide))
    by_cases h1 : js (r0, P0, A0, C0, M0) = (A, pr C)
    · have hh : True := trivial
      rw [dcd_true h1] at KN0
      rw [dcd_true ⟨h0, h1⟩]
      replace KN0 := Lib.hid KN0
      replace hwb := hwb.symm
      clear h0 h1
      go_enter Tryz.func43, Tryz.ntmps43
      go_wp2_with fail
      rw [← hwb]
      clear hwb
      go_quiet (fail)
      go_wp2_with fail
      refine (KP.out _).mono ?_
      rintro e w1 ⟨rfl, hg1'⟩
      have hg1 : Grew wb w1 := Grew.trans (by repeat (first | with_reducible assumption | with_reducible refine Grew.alloc ?_ _ | with_reducible refine Grew.drew ?_ | with_reducible refine Grew.drewN ?_ _)) hg1'
      have g1 := hal.trans hg1
      have r1 := Grew.refl w1
      have d1 := r1.drew
      have gd := g1.trans d1
      have e0 := fun W (hW : Grew w1 W) => f0 W (hg1.trans hW)
      have e2 := fun W (hW : Grew w1 W) => f2 W (hg1.trans hW)
      have e3 := fun W (hW : Grew w1 W) => f3 W (hg1.trans hW)
      have e4 := fun W (hW : Grew w1 W) => f4 W (hg1.trans hW)
      have p0a := fun W (hW : Grew w1 W) => q0a W (g1.trans hW)
      have p0b := fun W (hW : Grew w1 W) => q0b W (g1.trans hW)
      have p0c := fun W (hW : Grew w1 W) => q0c W (g1.trans hW)
      have p0d := fun W (hW : Grew w1 W) => q0d W (g1.trans hW)
      have p0e := fun W (hW : Grew w1 W) => q0e W (g1.trans hW)
      clear f0 f2 f3 f4 q0a q0b q0c q0d q0e
      go_wp2_with fail
      refine (KN0.out _ (by repeat (first | with_reducible assumption | with_reducible refine Grew.alloc ?_ _ | with_reducible refine Grew.drew ?_ | with_reducible refine Grew.drewN ?_ _)) _ (HSA.out _ (by repeat (first | with_reducible assumption | with_reducible refine Grew.alloc ?_ _ | with_reducible refine Grew.drew ?_ | with_reducible refine Grew.drewN ?_ _)))).mono ?_
      rintro e v0 ⟨rfl, vg0⟩
      have gv0 : Grew w v0 := Grew.trans (by repeat (first | with_reducible assumption | with_reducible refine Grew.alloc ?_ _ | with_reducible refine Grew.drew ?_ | with_reducible refine Grew.drewN ?_ _)) vg0
      have mv0 : Grew w1 v0 := Grew.trans (by repeat (first | with_reducible assumption | with_reducible refine Grew.alloc ?_ _ | with_reducible refine Grew.drew ?_ | with_reducible refine Grew.drewN ?_ _)) vg0
      go_wp2_with fail
      go_ret
      exact ⟨rfl, (by repeat (first | with_reducible assumption | with_reducible refine Grew.alloc ?_ _ | with_reducible refine Grew.drew ?_ | with_reducible refine Grew.drewN ?_ _))⟩
    · rw [dcd_false (fun h => h1 (h.2))]
      rw [dcd_false h1] at KN0
      replace KN0 := Lib.hid KN0
      replace hwb := hwb.symm
      clear h0 h1
      go_enter Tryz.func43, Tryz.ntmps43
      go_wp2_with fail
      rw [← hwb]
      clear hwb
      go_quiet (fail)
      go_wp2_with fail
      refine (KP.out _).mono ?_
      rintro e w1 ⟨rfl, hg1'⟩
      have hg1 : Grew wb w1 := Grew.trans (by repeat (first | with_reducible assumption | with_reducible refine Grew.alloc ?_ _ | with_reducible refine Grew.drew ?_ | with_reducible refine Grew.drewN ?_ _)) hg1'
      have g1 := hal.trans hg1
      have r1 := Grew.refl w1
      have d1 := r1.drew
      have gd := g1.trans d1
      have e0 := fun W (hW : Grew w1 W) => f0 W (hg1.trans hW)
      have e2 := fun W (hW : Grew w1 W) => f2 W (hg1.trans hW)
      have e3 := fun W (hW : Grew w1 W) => f3 W (hg1.trans hW)
      have e4 := fun W (hW : Grew w1 W) => f4 W (hg1.trans hW)
      have p0a := fun W (hW : Grew w1 W) => q0a W (g1.trans hW)
      have p0b := fun W (hW : Grew w1 W) => q0b W (g1.trans hW)
      have p0c := fun W (hW : Grew w1 W) => q0c W (g1.trans hW)
      have p0d := fun W (hW : Grew w1 W) => q0d W (g1.trans hW)
      have p0e := fun W (hW : Grew w1 W) => q0e W (g1.trans hW)
      clear f0 f2 f3 f4 q0a q0b q0c q0d q0e
      go_wp2_with fail
      refine (KN0.out _ (by repeat (first | with_reducible assumption | with_reducible refine Grew.alloc ?_ _ | with_reducible refine Grew.drew ?_ | with_reducible refine Grew.drewN ?_ _)) _ (HSA.out _ (by repeat (first | with_reducible assumption | with_reducible refine Grew.alloc ?_ _ | with_reducible refine Grew.drew ?_ | with_reducible refine Grew.drewN ?_ _)))).mono ?_
      rintro e v0 ⟨rfl, vg0⟩
      have gv0 : Grew w v0 := Grew.trans (by repeat (first | with_reducible assumption | with_reducible refine Grew.alloc ?_ _ | with_reducible refine Grew.drew ?_ | with_reducible refine Grew.drewN ?_ _)) vg0
      have mv0 : Grew w1 v0 := Grew.trans (by repeat (first | with_reducible assumption | with_reducible refine Grew.alloc ?_ _ | with_reducible refine Grew.drew ?_ | with_reducible refine Grew.drewN ?_ _)) vg0
      go_wp2_with fail
      go_ret
      exact ⟨rfl, (by repeat (first | with_reducible assumption | with_reducible refine Grew.alloc ?_ _ | with_reducible refine Grew.drew ?_ | with_reducible refine Grew.drewN ?_ _))⟩
  · rw [dcd_false (fun h => h0 (h.1))]
    have KP := Lib.hid (fun W => split_no 3 C W hC h0)
    replace KN0 := Lib.hid KN0
    replace hwb := hwb.symm
    clear h0
    go_enter Tryz.func43, Tryz.ntmps43
    go_wp2_with fail
    rw [← hwb]
    clear hwb
    go_quiet (fail)
    go_wp2_with fail
    refine (KP.out _).mono ?_
    rintro e w1 ⟨rfl, hg1'⟩
    have hg1 : Grew wb w1 := Grew.trans (by repeat (first | with_reducible assumption | with_reducible refine Grew.alloc ?_ _ | with_reducible refine Grew.drew ?_ | with_reducible refine Grew.drewN ?_ _)) hg1'
    have g1 := hal.trans hg1
    have r1 := Grew.refl w1
    have d1 := r1.drew
    have gd := g1.trans d1
    have e0 := fun W (hW : Grew w1 W) => f0 W (hg1.trans hW)
    have e2 := fun W (hW : Grew w1 W) => f2 W (hg1.trans hW)
    have e3 := fun W (hW : Grew w1 W) => f3 W (hg1.trans hW)
    have e4 := fun W (hW : Grew w1 W) => f4 W (hg1.trans hW)
    have p0a := fun W (hW : Grew w1 W) => q0a W (g1.trans hW)
    have p0b := fun W (hW : Grew w1 W) => q0b W (g1.trans hW)
    have p0c := fun W (hW : Grew w1 W) => q0c W (g1.trans hW)
    have p0d := fun W (hW : Grew w1 W) => q0d W (g1.trans hW)
    have p0e := fun W (hW : Grew w1 W) => q0e W (g1.trans hW)
    clear f0 f2 f3 f4 q0a q0b q0c q0d q0e
    go_wp2_with fail
    go_ret
    exact ⟨rfl, (by repeat (first | with_reducible assumption | with_reducible refine Grew.alloc ?_ _ | with_reducible refine Grew.drew ?_ | with_reducible refine Grew.drewN ?_ _))⟩

set_option maxHeartbeats 8000000 in
set_option maxRecDepth 8192 in
theorem ruleJ_9 (P : List Int) (A : List ByteArray) (C M : ByteArray) : RuleJ (9, P, A, C, M) 1 := by
  intro up ua vp p w hup hs hv hq hC hM hu hk
  simp only at hup hs hq hC hM hu hk ⊢
  obtain ⟨hgC, hasc, hln⟩ := sqB_and hq
  have hUp := ascP_up hasc
  obtain ⟨y0, rfl⟩ := lenJ1 hk
  obtain ⟨r0, P0, A0, C0, M0⟩ := y0
  have hM0 := usesJ_no hu (by decide)
  obtain ⟨pb, po, pc, rfl, hpc, hpm, hat⟩ := jfs_at hv (by simp)
  have hiff : okJ (9, P, A, C, M) ([(r0, P0, A0, C0, M0)].map js) ↔ (isK C 4 ∧ js (r0, P0, A0, C0, M0) = (putS (A ++ [pl C]), pr C)) := by
    exact okJ_9 hgC hM0
  rw [dcd_congr hiff]
  clear hiff
  obtain ⟨up0, ua0, q0a, q0b, q0c, q0d, q0e, hp0, hu0⟩ := hat 0 _ rfl
  simp only [Nat.zero_mul, Nat.add_zero] at q0a q0b q0c q0d q0e hp0 hu0
  have KN0 := fun W (hW : Grew w W) v (hv : Strs W v (putS (A ++ [pl C]))) => needJ_c (r0, P0, A0, C0, M0) up0 ua0 v (putS (A ++ [pl C])) (pr C) W (hp0.grew hW) (hu0.grew hW) hv
  have KW0 := Lib.hid (fun W (hW : Grew w W) v (hv : Strs W v [pl C]) => with1_c ua v A (pl C) W (hs.grew hW) hv (by omega) hUp)
  have HSA := Lib.hid (fun W (hW : Grew w W) => hs.grew hW)
  obtain ⟨VP, cp, rfl⟩ := ints_slice hup
  obtain ⟨UA, ca, rfl⟩ := strs_slice hs
  obtain ⟨V0, d0, rfl⟩ := ints_slice hp0
  obtain ⟨U0, c0, rfl⟩ := strs_slice hu0
  simp only [List.length_cons, List.length_nil] at hpc ⊢
  have hal := (Grew.refl w).alloc (.cells #[.int .i64 9, .slice VP P.length cp, .slice UA A.length ca, .string C, .string M] 42)
  have f0 : ∀ W, Grew (w.alloc (.cells #[.int .i64 9, .slice VP P.length cp, .slice UA A.length ca, .string C, .string M] 42)) W → W.cell? ⟨w.heap.size, 0, none⟩ = some (.int .i64 9) := fun W hW => (hW.cell (p := ⟨w.heap.size, 0, none⟩) (by simp)).trans (by simp)
  have f2 : ∀ W, Grew (w.alloc (.cells #[.int .i64 9, .slice VP P.length cp, .slice UA A.length ca, .string C, .string M] 42)) W → W.cell? ⟨w.heap.size, 2, none⟩ = some (.slice UA A.length ca) := fun W hW => (hW.cell (p := ⟨w.heap.size, 2, none⟩) (by simp)).trans (by simp)
  have f3 : ∀ W, Grew (w.alloc (.cells #[.int .i64 9, .slice VP P.length cp, .slice UA A.length ca, .string C, .string M] 42)) W → W.cell? ⟨w.heap.size, 3, none⟩ = some (.string C) := fun W hW => (hW.cell (p := ⟨w.heap.size, 3, none⟩) (by simp)).trans (by simp)
  have f4 : ∀ W, Grew (w.alloc (.cells #[.int .i64 9, .slice VP P.length cp, .slice UA A.length ca, .string C, .string M] 42)) W → W.cell? ⟨w.heap.size, 4, none⟩ = some (.string M) := fun W hW => (hW.cell (p := ⟨w.heap.size, 4, none⟩) (by simp)).trans (by simp)
  clear hup hs hv hat hk hq hasc hUp hu hM0 hu0 hp0
  generalize P.length = pln at *
  generalize A.length = al at *
  generalize A0.length = al0 at *
  generalize P0.length = pl0 at *
  generalize hwb : w.alloc (.cells #[.int .i64 9, .slice VP pln cp, .slice UA al ca, .string C, .string M] 42) = wb at *
  have rb := Grew.refl wb
  have rbd := rb.drew
  have rbn := fun n => rb.drewN n
  by_cases h0 : isK C 4
  · have hh : True := trivial
    have KP := Lib.hid (fun W => split_yes 4 C W h0 (by decide))
    by_cases h1 : js (r0, P0, A0, C0, M0) = (putS (A ++ [pl C]), pr C)
    · have hh : True := trivial
      rw [dcd_true h1] at KN0
      rw [dcd_true ⟨h0, h1⟩]
      replace KN0 := Lib.hid KN0
      replace hwb := hwb.symm
      clear h0 h1
      go_enter Tryz.func43, Tryz.ntmps43
      go_wp2_with fail
      rw [← hwb]
      clear hwb
      go_quiet (fail)
      go_wp2_with fail
      refine (KP.out _).mono ?_
      rintro e w1 ⟨rfl, hg1'⟩
      have hg1 : Grew wb w1 := Grew.trans (by repeat (first | with_reducible assumption | with_reducible refine Grew.alloc ?_ _ | with_reducible refine Grew.drew ?_ | with_reducible refine Grew.drewN ?_ _)) hg1'
      have g1 := hal.trans hg1
      have r1 := Grew.refl w1
      have d1 := r1.drew
      have gd := g1.trans d1
      have e0 := fun W (hW : Grew w1 W) => f0 W (hg1.trans hW)
      have e2 := fun W (hW : Grew w1 W) => f2 W (hg1.trans hW)
      have e3 := fun W (hW : Grew w1 W) => f3 W (hg1.trans hW)
      have e4 := fun W (hW : Grew w1 W) => f4 W (hg1.trans hW)
      have p0a := fun W (hW : Grew w1 W) => q0a W (g1.trans hW)
      have p0b := fun W (hW : Grew w1 W) => q0b W (g1.trans hW)
      have p0c := fun W (hW : Grew w1 W) => q0c W (g1.trans hW)
      have p0d := fun W (hW : Grew w1 W) => q0d W (g1.trans hW)
      have p0e := fun W (hW : Grew w1 W) => q0e W (g1.trans hW)
      clear f0 f2 f3 f4 q0a q0b q0c q0d q0e
      go_wp2_with fail
      refine wp_region_held_drew (S := fun w' => Grew w1 w') (by kernel_rfl) d1 (fun hHeld => ?_)
      refine wpAnyH_take (i := 0) (oi := ?on366) (v := ?vn366) ?hin366 ?an366 ?bn366 ?cn366 ?qn366 (Or.inl ⟨?dn366, ?hyn366⟩) hHeld ?restn366
      case hin366 => (simp only [List.getElem?_toArray, List.getElem?_cons_zero]; exact rfl)
      case an366 => kernel_rfl
      case bn366 => kernel_rfl
      case cn366 => kernel_rfl
      case qn366 => exact fun _ _ _ h => h
      case dn366 => rfl
      case hyn366 => (intro z hSw; (try dsimp only at hSw); go_simp; (try with_reducible rfl))
      try simp only [Act.put, List.setIfInBounds_toArray, List.set_cons_zero, List.set_cons_succ]
      refine wpAnyH_take (i := 1) (oi := ?on367) (v := ?vn367) ?hin367 ?an367 ?bn367 ?cn367 ?qn367 (Or.inl ⟨?dn367, ?hyn367⟩) hHeld ?restn367
      case hin367 => (simp only [List.getElem?_toArray, List.getElem?_cons_succ, List.getElem?_cons_zero]; exact rfl)
      case an367 => kernel_rfl
      case bn367 => kernel_rfl
      case cn367 => kernel_rfl
      case qn367 => exact fun _ _ _ h => h
      case dn367 => rfl
      case hyn367 => (intro z hSw; (try dsimp only at hSw); go_simp; (try with_reducible rfl))
      try simp only [Act.put, List.setIfInBounds_toArray, List.set_cons_zero, List.set_cons_succ]
      refine wpAnyH_take (i := 2) (oi := ?on368) (v := ?vn368) ?hin368 ?an368 ?bn368 ?cn368 ?qn368 (Or.inl ⟨?dn368, ?hyn368⟩) hHeld ?restn368
      case hin368 => (simp only [List.getElem?_toArray, List.getElem?_cons_succ, List.getElem?_cons_zero]; exact rfl)
      case an368 => kernel_rfl
      case bn368 => kernel_rfl
      case cn368 => kernel_rfl
      case qn368 => exact fun _ _ _ h => h
      case dn368 => rfl
      case hyn368 => (intro z hSw; (try dsimp only at hSw); go_simp; (try with_reducible rfl))
      try simp only [Act.put, List.setIfInBounds_toArray, List.set_cons_zero, List.set_cons_succ]
      refine wpAnyH_take (i := 3) (oi := ?on369) (v := ?vn369) ?hin369 ?an369 ?bn369 ?cn369 ?qn369 (Or.inl ⟨?dn369, ?hyn369⟩) hHeld ?restn369
      case hin369 => (simp only [List.getElem?_toArray, List.getElem?_cons_succ, List.getElem?_cons_zero]; exact rfl)
      case an369 => kernel_rfl
      case bn369 => kernel_rfl
      case cn369 => kernel_rfl
      case qn369 => exact fun _ _ _ h => h
      case dn369 => rfl
      case hyn369 => (intro z hSw; (try dsimp only at hSw); go_simp; (try with_reducible rfl))
      try simp only [Act.put, List.setIfInBounds_toArray, List.set_cons_zero, List.set_cons_succ]
      refine wpAnyH_take (i := 4) (oi := ?on370) (v := ?vn370) ?hin370 ?an370 ?bn370 ?cn370 ?qn370 (Or.inl ⟨?dn370, ?hyn370⟩) hHeld ?restn370
      case hin370 => (simp only [List.getElem?_toArray, List.getElem?_cons_succ, List.getElem?_cons_zero]; exact rfl)
      case an370 => kernel_rfl
      case bn370 => kernel_rfl
      case cn370 => kernel_rfl
      case qn370 => exact fun _ _ _ h => h
      case dn370 => rfl
      case hyn370 => (intro z hSw; (try dsimp only at hSw); go_simp; (try with_reducible rfl))
      try simp only [Act.put, List.setIfInBounds_toArray, List.set_cons_zero, List.set_cons_succ]
      refine wpAnyH_take (i := 5) (oi := ?on371) (v := ?vn371) ?hin371 ?an371 ?bn371 ?cn371 ?qn371 (Or.inl ⟨?dn371, ?hyn371⟩) hHeld ?restn371
      case hin371 => (simp only [List.getElem?_toArray, List.getElem?_cons_succ, List.getElem?_cons_zero]; exact rfl)
      case an371 => kernel_rfl
      case bn371 => kernel_rfl
      case cn371 => kernel_rfl
      case qn371 => exact fun _ _ _ h => h
      case dn371 => rfl
      case hyn371 => (intro z hSw; (try dsimp only at hSw); go_simp; (try with_reducible rfl))
      try simp only [Act.put, List.setIfInBounds_toArray, List.set_cons_zero, List.set_cons_succ]
      refine wpAnyH_take (i := 6) (oi := ?on372) (v := ?vn372) ?hin372 ?an372 ?bn372 ?cn372 ?qn372 (Or.inl ⟨?dn372, ?hyn372⟩) hHeld ?restn372
      case hin372 => (simp only [List.getElem?_toArray, List.getElem?_cons_succ, List.getElem?_cons_zero]; exact rfl)
      case an372 => kernel_rfl
      case bn372 => kernel_rfl
      case cn372 => kernel_rfl
      case qn372 => exact fun _ _ _ h => h
      case dn372 => rfl
      case hyn372 => (intro z hSw; (try dsimp only at hSw); go_simp; (try with_reducible rfl))
      try simp only [Act.put, List.setIfInBounds_toArray, List.set_cons_zero, List.set_cons_succ]
      refine wpAnyH_take (i := 9) (oi := ?on373) (v := ?vn373) ?hin373 ?an373 ?bn373 ?cn373 ?qn373 (Or.inl ⟨?dn373, ?hyn373⟩) hHeld ?restn373
      case hin373 => (simp only [List.getElem?_toArray, List.getElem?_cons_succ, List.getElem?_cons_zero]; exact rfl)
      case an373 => kernel_rfl
      case bn373 => kernel_rfl
      case cn373 => kernel_rfl
      case qn373 => exact fun _ _ _ h => h
      case dn373 => rfl
      case hyn373 => (intro z hSw; (try dsimp only at hSw); go_simp; (try with_reducible rfl))
      try simp only [Act.put, List.setIfInBounds_toArray, List.set_cons_zero, List.set_cons_succ]
      refine wpAnyH_ready (rs := [7]) (by kernel_rfl) (by simp) ?_
      refine AllReadyH.cons (o := ?on374) ?hin374 ?restn374 AllReadyH.nil
      case hin374 => (simp only [List.getElem?_toArray, List.getElem?_cons_succ, List.getElem?_cons_zero]; exact rfl)
      intro K hK
      go_simp
      refine hK.out _ _ ?_ (fun hHeld => ?_)
      · (try dsimp only); first | with_reducible assumption | exact Grew.alloc ‹_› _
      clear hK K
      try simp only [Act.put, List.setIfInBounds_toArray, List.set_cons_zero, List.set_cons_succ]
      refine wpAnyH_ready (rs := [8]) (by kernel_rfl) (by simp) ?_
      refine AllReadyH.cons (o := ?on375) ?hin375 ?restn375 AllReadyH.nil
      case hin375 => (simp only [List.getElem?_toArray, List.getElem?_cons_succ, List.getElem?_cons_zero]; exact rfl)
      intro K hK
      go_simp
      go_at_call 57
      refine (KW0.out _ (by repeat (first | with_reducible assumption | with_reducible refine Grew.alloc ?_ _ | with_reducible refine Grew.drew ?_ | with_reducible refine Grew.drewN ?_ _)) _ (strs_at1 (by simp) (by simp))).mono ?_
      rintro e z0 ⟨zu0, rfl, zo0, zg0⟩
      have gz0 : Grew w z0 := Grew.trans (by repeat (first | with_reducible assumption | with_reducible refine Grew.alloc ?_ _ | with_reducible refine Grew.drew ?_ | with_reducible refine Grew.drewN ?_ _)) zg0
      have mz0 : Grew w1 z0 := Grew.trans (by repeat (first | with_reducible assumption | with_reducible refine Grew.alloc ?_ _ | with_reducible refine Grew.drew ?_ | with_reducible refine Grew.drewN ?_ _)) zg0
      have zs0 := Lib.hid zo0
      obtain ⟨ZA0, zc0, rfl⟩ := strs_slice zo0
      clear zo0
      refine hK.out _ _ ?_ (fun hHeld => ?_)
      · (try dsimp only); first | with_reducible assumption | exact Grew.alloc ‹_› _
      clear hK K
      try simp only [Act.put, List.setIfInBounds_toArray, List.set_cons_zero, List.set_cons_succ]
      refine wpAnyH_ready (rs := [10]) (by kernel_rfl) (by simp) ?_
      refine AllReadyH.cons (o := ?on376) ?hin376 ?restn376 AllReadyH.nil
      case hin376 => (simp only [List.getElem?_toArray, List.getElem?_cons_succ, List.getElem?_cons_zero]; exact rfl)
      intro K hK
      go_simp
      go_at_call 56
      refine (KN0.out _ (by repeat (first | with_reducible assumption | with_reducible refine Grew.alloc ?_ _ | with_reducible refine Grew.drew ?_ | with_reducible refine Grew.drewN ?_ _)) _ zs0.out).mono ?_
      rintro e v0 ⟨rfl, vg0⟩
      have gv0 : Grew w v0 := Grew.trans (by repeat (first | with_reducible assumption | with_reducible refine Grew.alloc ?_ _ | with_reducible refine Grew.drew ?_ | with_reducible refine Grew.drewN ?_ _)) vg0
      have mv0 : Grew w1 v0 := Grew.trans (by repeat (first | with_reducible assumption | with_reducible refine Grew.alloc ?_ _ | with_reducible refine Grew.drew ?_ | with_reducible refine Grew.drewN ?_ _)) vg0
      refine hK.out _ _ ?_ (fun hHeld => ?_)
      · (try dsimp only); first | with_reducible assumption | exact Grew.alloc ‹_› _
      clear hK K
      try simp only [Act.put, List.setIfInBounds_toArray, List.set_cons_zero, List.set_cons_succ]
      refine wpAnyH_take (i := 11) (oi := ?on377) (v := ?vn377) ?hin377 ?an377 ?bn377 ?cn377 ?qn377 (Or.inl ⟨?dn377, ?hyn377⟩) hHeld ?restn377
      case hin377 => (simp only [List.getElem?_toArray, List.getElem?_cons_succ, List.getElem?_cons_zero]; exact rfl)
      case an377 => kernel_rfl
      case bn377 => kernel_rfl
      case cn377 => kernel_rfl
      case qn377 => exact fun _ _ _ h => h
      case dn377 => rfl
      case hyn377 => (intro z hSw; (try dsimp only at hSw); go_simp; (try with_reducible rfl))
      try simp only [Act.put, List.setIfInBounds_toArray, List.set_cons_zero, List.set_cons_succ]
      refine wpAnyH_take (i := 12) (oi := ?on378) (v := ?vn378) ?hin378 ?an378 ?bn378 ?cn378 ?qn378 (Or.inl ⟨?dn378, ?hyn378⟩) hHeld ?restn378
      case hin378 => (simp only [List.getElem?_toArray, List.getElem?_cons_succ, List.getElem?_cons_zero]; exact rfl)
      case an378 => kernel_rfl
      case bn378 => kernel_rfl
      case cn378 => kernel_rfl
      case qn378 => exact fun _ _ _ h => h
      case dn378 => rfl
      case hyn378 => (intro z hSw; (try dsimp only at hSw); go_simp; (try with_reducible rfl))
      try simp only [Act.put, List.setIfInBounds_toArray, List.set_cons_zero, List.set_cons_succ]
      refine wpAnyH_done (by kernel_rfl) ?_ _
      go_wp2_with fail
      go_ret
      exact ⟨rfl, (by repeat (first | with_reducible assumption | with_reducible refine Grew.alloc ?_ _ | with_reducible refine Grew.drew ?_ | with_reducible refine Grew.drewN ?_ _))⟩
    · rw [dcd_false (fun h => h1 (h.2))]
      rw [dcd_false h1] at KN0
      replace KN0 := Lib.hid KN0
      replace hwb := hwb.symm
      clear h0 h1
      go_enter Tryz.func43, Tryz.ntmps43
      go_wp2_with fail
      rw [← hwb]
      clear hwb
      go_quiet (fail)
      go_wp2_with fail
      refine (KP.out _).mono ?_
      rintro e w1 ⟨rfl, hg1'⟩
      have hg1 : Grew wb w1 := Grew.trans (by repeat (first | with_reducible assumption | with_reducible refine Grew.alloc ?_ _ | with_reducible refine Grew.drew ?_ | with_reducible refine Grew.drewN ?_ _)) hg1'
      have g1 := hal.trans hg1
      have r1 := Grew.refl w1
      have d1 := r1.drew
      have gd := g1.trans d1
      have e0 := fun W (hW : Grew w1 W) => f0 W (hg1.trans hW)
      have e2 := fun W (hW : Grew w1 W) => f2 W (hg1.trans hW)
      have e3 := fun W (hW : Grew w1 W) => f3 W (hg1.trans hW)
      have e4 := fun W (hW : Grew w1 W) => f4 W (hg1.trans hW)
      have p0a := fun W (hW : Grew w1 W) => q0a W (g1.trans hW)
      have p0b := fun W (hW : Grew w1 W) => q0b W (g1.trans hW)
      have p0c := fun W (hW : Grew w1 W) => q0c W (g1.trans hW)
      have p0d := fun W (hW : Grew w1 W) => q0d W (g1.trans hW)
      have p0e := fun W (hW : Grew w1 W) => q0e W (g1.trans hW)
      clear f0 f2 f3 f4 q0a q0b q0c q0d q0e
      go_wp2_with fail
      refine wp_region_held_drew (S := fun w' => Grew w1 w') (by kernel_rfl) d1 (fun hHeld => ?_)
      refine wpAnyH_take (i := 0) (oi := ?on379) (v := ?vn379) ?hin379 ?an379 ?bn379 ?cn379 ?qn379 (Or.inl ⟨?dn379, ?hyn379⟩) hHeld ?restn379
      case hin379 => (simp only [List.getElem?_toArray, List.getElem?_cons_zero]; exact rfl)
      case an379 => kernel_rfl
      case bn379 => kernel_rfl
      case cn379 => kernel_rfl
      case qn379 => exact fun _ _ _ h => h
      case dn379 => rfl
      case hyn379 => (intro z hSw; (try dsimp only at hSw); go_simp; (try with_reducible rfl))
      try simp only [Act.put, List.setIfInBounds_toArray, List.set_cons_zero, List.set_cons_succ]
      refine wpAnyH_take (i := 1) (oi := ?on380) (v := ?vn380) ?hin380 ?an380 ?bn380 ?cn380 ?qn380 (Or.inl ⟨?dn380, ?hyn380⟩) hHeld ?restn380
      case hin380 => (simp only [List.getElem?_toArray, List.getElem?_cons_succ, List.getElem?_cons_zero]; exact rfl)
      case an380 => kernel_rfl
      case bn380 => kernel_rfl
      case cn380 => kernel_rfl
      case qn380 => exact fun _ _ _ h => h
      case dn380 => rfl
      case hyn380 => (intro z hSw; (try dsimp only at hSw); go_simp; (try with_reducible rfl))
      try simp only [Act.put, List.setIfInBounds_toArray, List.set_cons_zero, List.set_cons_succ]
      refine wpAnyH_take (i := 2) (oi := ?on381) (v := ?vn381) ?hin381 ?an381 ?bn381 ?cn381 ?qn381 (Or.inl ⟨?dn381, ?hyn381⟩) hHeld ?restn381
      case hin381 => (simp only [List.getElem?_toArray, List.getElem?_cons_succ, List.getElem?_cons_zero]; exact rfl)
      case an381 => kernel_rfl
      case bn381 => kernel_rfl
      case cn381 => kernel_rfl
      case qn381 => exact fun _ _ _ h => h
      case dn381 => rfl
      case hyn381 => (intro z hSw; (try dsimp only at hSw); go_simp; (try with_reducible rfl))
      try simp only [Act.put, List.setIfInBounds_toArray, List.set_cons_zero, List.set_cons_succ]
      refine wpAnyH_take (i := 3) (oi := ?on382) (v := ?vn382) ?hin382 ?an382 ?bn382 ?cn382 ?qn382 (Or.inl ⟨?dn382, ?hyn382⟩) hHeld ?restn382
      case hin382 => (simp only [List.getElem?_toArray, List.getElem?_cons_succ, List.getElem?_cons_zero]; exact rfl)
      case an382 => kernel_rfl
      case bn382 => kernel_rfl
      case cn382 => kernel_rfl
      case qn382 => exact fun _ _ _ h => h
      case dn382 => rfl
      case hyn382 => (intro z hSw; (try dsimp only at hSw); go_simp; (try with_reducible rfl))
      try simp only [Act.put, List.setIfInBounds_toArray, List.set_cons_zero, List.set_cons_succ]
      refine wpAnyH_take (i := 4) (oi := ?on383) (v := ?vn383) ?hin383 ?an383 ?bn383 ?cn383 ?qn383 (Or.inl ⟨?dn383, ?hyn383⟩) hHeld ?restn383
      case hin383 => (simp only [List.getElem?_toArray, List.getElem?_cons_succ, List.getElem?_cons_zero]; exact rfl)
      case an383 => kernel_rfl
      case bn383 => kernel_rfl
      case cn383 => kernel_rfl
      case qn383 => exact fun _ _ _ h => h
      case dn383 => rfl
      case hyn383 => (intro z hSw; (try dsimp only at hSw); go_simp; (try with_reducible rfl))
      try simp only [Act.put, List.setIfInBounds_toArray, List.set_cons_zero, List.set_cons_succ]
      refine wpAnyH_take (i := 5) (oi := ?on384) (v := ?vn384) ?hin384 ?an384 ?bn384 ?cn384 ?qn384 (Or.inl ⟨?dn384, ?hyn384⟩) hHeld ?restn384
      case hin384 => (simp only [List.getElem?_toArray, List.getElem?_cons_succ, List.getElem?_cons_zero]; exact rfl)
      case an384 => kernel_rfl
      case bn384 => kernel_rfl
      case cn384 => kernel_rfl
      case qn384 => exact fun _ _ _ h => h
      case dn384 => rfl
      case hyn384 => (intro z hSw; (try dsimp only at hSw); go_simp; (try with_reducible rfl))
      try simp only [Act.put, List.setIfInBounds_toArray, List.set_cons_zero, List.set_cons_succ]
      refine wpAnyH_take (i := 6) (oi := ?on385) (v := ?vn385) ?hin385 ?an385 ?bn385 ?cn385 ?qn385 (Or.inl ⟨?dn385, ?hyn385⟩) hHeld ?restn385
      case hin385 => (simp only [List.getElem?_toArray, List.getElem?_cons_succ, List.getElem?_cons_zero]; exact rfl)
      case an385 => kernel_rfl
      case bn385 => kernel_rfl
      case cn385 => kernel_rfl
      case qn385 => exact fun _ _ _ h => h
      case dn385 => rfl
      case hyn385 => (intro z hSw; (try dsimp only at hSw); go_simp; (try with_reducible rfl))
      try simp only [Act.put, List.setIfInBounds_toArray, List.set_cons_zero, List.set_cons_succ]
      refine wpAnyH_take (i := 9) (oi := ?on386) (v := ?vn386) ?hin386 ?an386 ?bn386 ?cn386 ?qn386 (Or.inl ⟨?dn386, ?hyn386⟩) hHeld ?restn386
      case hin386 => (simp only [List.getElem?_toArray, List.getElem?_cons_succ, List.getElem?_cons_zero]; exact rfl)
      case an386 => kernel_rfl
      case bn386 => kernel_rfl
      case cn386 => kernel_rfl
      case qn386 => exact fun _ _ _ h => h
      case dn386 => rfl
      case hyn386 => (intro z hSw; (try dsimp only at hSw); go_simp; (try with_reducible rfl))
      try simp only [Act.put, List.setIfInBounds_toArray, List.set_cons_zero, List.set_cons_succ]
      refine wpAnyH_ready (rs := [7]) (by kernel_rfl) (by simp) ?_
      refine AllReadyH.cons (o := ?on387) ?hin387 ?restn387 AllReadyH.nil
      case hin387 => (simp only [List.getElem?_toArray, List.getElem?_cons_succ, List.getElem?_cons_zero]; exact rfl)
      intro K hK
      go_simp
      refine hK.out _ _ ?_ (fun hHeld => ?_)
      · (try dsimp only); first | with_reducible assumption | exact Grew.alloc ‹_› _
      clear hK K
      try simp only [Act.put, List.setIfInBounds_toArray, List.set_cons_zero, List.set_cons_succ]
      refine wpAnyH_ready (rs := [8]) (by kernel_rfl) (by simp) ?_
      refine AllReadyH.cons (o := ?on388) ?hin388 ?restn388 AllReadyH.nil
      case hin388 => (simp only [List.getElem?_toArray, List.getElem?_cons_succ, List.getElem?_cons_zero]; exact rfl)
      intro K hK
      go_simp
      go_at_call 57
      refine (KW0.out _ (by repeat (first | with_reducible assumption | with_reducible refine Grew.alloc ?_ _ | with_reducible refine Grew.drew ?_ | with_reducible refine Grew.drewN ?_ _)) _ (strs_at1 (by simp) (by simp))).mono ?_
      rintro e z0 ⟨zu0, rfl, zo0, zg0⟩
      have gz0 : Grew w z0 := Grew.trans (by repeat (first | with_reducible assumption | with_reducible refine Grew.alloc ?_ _ | with_reducible refine Grew.drew ?_ | with_reducible refine Grew.drewN ?_ _)) zg0
      have mz0 : Grew w1 z0 := Grew.trans (by repeat (first | with_reducible assumption | with_reducible refine Grew.alloc ?_ _ | with_reducible refine Grew.drew ?_ | with_reducible refine Grew.drewN ?_ _)) zg0
      have zs0 := Lib.hid zo0
      obtain ⟨ZA0, zc0, rfl⟩ := strs_slice zo0
      clear zo0
      refine hK.out _ _ ?_ (fun hHeld => ?_)
      · (try dsimp only); first | with_reducible assumption | exact Grew.alloc ‹_› _
      clear hK K
      try simp only [Act.put, List.setIfInBounds_toArray, List.set_cons_zero, List.set_cons_succ]
      refine wpAnyH_ready (rs := [10]) (by kernel_rfl) (by simp) ?_
      refine AllReadyH.cons (o := ?on389) ?hin389 ?restn389 AllReadyH.nil
      case hin389 => (simp only [List.getElem?_toArray, List.getElem?_cons_succ, List.getElem?_cons_zero]; exact rfl)
      intro K hK
      go_simp
      go_at_call 56
      refine (KN0.out _ (by repeat (first | with_reducible assumption | with_reducible refine Grew.alloc ?_ _ | with_reducible refine Grew.drew ?_ | with_reducible refine Grew.drewN ?_ _)) _ zs0.out).mono ?_
      rintro e v0 ⟨rfl, vg0⟩
      have gv0 : Grew w v0 := Grew.trans (by repeat (first | with_reducible assumption | with_reducible refine Grew.alloc ?_ _ | with_reducible refine Grew.drew ?_ | with_reducible refine Grew.drewN ?_ _)) vg0
      have mv0 : Grew w1 v0 := Grew.trans (by repeat (first | with_reducible assumption | with_reducible refine Grew.alloc ?_ _ | with_reducible refine Grew.drew ?_ | with_reducible refine Grew.drewN ?_ _)) vg0
      refine hK.out _ _ ?_ (fun hHeld => ?_)
      · (try dsimp only); first | with_reducible assumption | exact Grew.alloc ‹_› _
      clear hK K
      try simp only [Act.put, List.setIfInBounds_toArray, List.set_cons_zero, List.set_cons_succ]
      refine wpAnyH_take (i := 11) (oi := ?on390) (v := ?vn390) ?hin390 ?an390 ?bn390 ?cn390 ?qn390 (Or.inl ⟨?dn390, ?hyn390⟩) hHeld ?restn390
      case hin390 => (simp only [List.getElem?_toArray, List.getElem?_cons_succ, List.getElem?_cons_zero]; exact rfl)
      case an390 => kernel_rfl
      case bn390 => kernel_rfl
      case cn390 => kernel_rfl
      case qn390 => exact fun _ _ _ h => h
      case dn390 => rfl
      case hyn390 => (intro z hSw; (try dsimp only at hSw); go_simp; (try with_reducible rfl))
      try simp only [Act.put, List.setIfInBounds_toArray, List.set_cons_zero, List.set_cons_succ]
      refine wpAnyH_take (i := 12) (oi := ?on391) (v := ?vn391) ?hin391 ?an391 ?bn391 ?cn391 ?qn391 (Or.inl ⟨?dn391, ?hyn391⟩) hHeld ?restn391
      case hin391 => (simp only [List.getElem?_toArray, List.getElem?_cons_succ, List.getElem?_cons_zero]; exact rfl)
      case an391 => kernel_rfl
      case bn391 => kernel_rfl
      case cn391 => kernel_rfl
      case qn391 => exact fun _ _ _ h => h
      case dn391 => rfl
      case hyn391 => (intro z hSw; (try dsimp only at hSw); go_simp; (try with_reducible rfl))
      try simp only [Act.put, List.setIfInBounds_toArray, List.set_cons_zero, List.set_cons_succ]
      refine wpAnyH_done (by kernel_rfl) ?_ _
      go_wp2_with fail
      go_ret
      exact ⟨rfl, (by repeat (first | with_reducible assumption | with_reducible refine Grew.alloc ?_ _ | with_reducible refine Grew.drew ?_ | with_reducible refine Grew.drewN ?_ _))⟩
  · rw [dcd_false (fun h => h0 (h.1))]
    have KP := Lib.hid (fun W => split_no 4 C W hC h0)
    replace KN0 := Lib.hid KN0
    replace hwb := hwb.symm
    clear h0
    go_enter Tryz.func43, Tryz.ntmps43
    go_wp2_with fail
    rw [← hwb]
    clear hwb
    go_quiet (fail)
    go_wp2_with fail
    refine (KP.out _).mono ?_
    rintro e w1 ⟨rfl, hg1'⟩
    have hg1 : Grew wb w1 := Grew.trans (by repeat (first | with_reducible assumption | with_reducible refine Grew.alloc ?_ _ | with_reducible refine Grew.drew ?_ | with_reducible refine Grew.drewN ?_ _)) hg1'
    have g1 := hal.trans hg1
    have r1 := Grew.refl w1
    have d1 := r1.drew
    have gd := g1.trans d1
    have e0 := fun W (hW : Grew w1 W) => f0 W (hg1.trans hW)
    have e2 := fun W (hW : Grew w1 W) => f2 W (hg1.trans hW)
    have e3 := fun W (hW : Grew w1 W) => f3 W (hg1.trans hW)
    have e4 := fun W (hW : Grew w1 W) => f4 W (hg1.trans hW)
    have p0a := fun W (hW : Grew w1 W) => q0a W (g1.trans hW)
    have p0b := fun W (hW : Grew w1 W) => q0b W (g1.trans hW)
    have p0c := fun W (hW : Grew w1 W) => q0c W (g1.trans hW)
    have p0d := fun W (hW : Grew w1 W) => q0d W (g1.trans hW)
    have p0e := fun W (hW : Grew w1 W) => q0e W (g1.trans hW)
    clear f0 f2 f3 f4 q0a q0b q0c q0d q0e
    go_wp2_with fail
    refine wp_region_held_drew (S := fun w' => Grew w1 w') (by kernel_rfl) d1 (fun hHeld => ?_)
    refine wpAnyH_take (i := 0) (oi := ?on392) (v := ?vn392) ?hin392 ?an392 ?bn392 ?cn392 ?qn392 (Or.inl ⟨?dn392, ?hyn392⟩) hHeld ?restn392
    case hin392 => (simp only [List.getElem?_toArray, List.getElem?_cons_zero]; exact rfl)
    case an392 => kernel_rfl
    case bn392 => kernel_rfl
    case cn392 => kernel_rfl
    case qn392 => exact fun _ _ _ h => h
    case dn392 => rfl
    case hyn392 => (intro z hSw; (try dsimp only at hSw); go_simp; (try with_reducible rfl))
    try simp only [Act.put, List.setIfInBounds_toArray, List.set_cons_zero, List.set_cons_succ]
    refine wpAnyH_take (i := 1) (oi := ?on393) (v := ?vn393) ?hin393 ?an393 ?bn393 ?cn393 ?qn393 (Or.inl ⟨?dn393, ?hyn393⟩) hHeld ?restn393
    case hin393 => (simp only [List.getElem?_toArray, List.getElem?_cons_succ, List.getElem?_cons_zero]; exact rfl)
    case an393 => kernel_rfl
    case bn393 => kernel_rfl
    case cn393 => kernel_rfl
    case qn393 => exact fun _ _ _ h => h
    case dn393 => rfl
    case hyn393 => (intro z hSw; (try dsimp only at hSw); go_simp; (try with_reducible rfl))
    try simp only [Act.put, List.setIfInBounds_toArray, List.set_cons_zero, List.set_cons_succ]
    refine wpAnyH_take (i := 2) (oi := ?on394) ?hin394 ?an394 ?bn394 ?cn394 ?qn394 (Or.inr ⟨?dn394, rfl⟩) hHeld ?restn394
    case hin394 => (simp only [List.getElem?_toArray, List.getElem?_cons_succ, List.getElem?_cons_zero]; exact rfl)
    case an394 => kernel_rfl
    case bn394 => kernel_rfl
    case cn394 => kernel_rfl
    case qn394 => exact fun _ _ _ h => h
    case dn394 => rfl
    try simp only [Act.put, List.setIfInBounds_toArray, List.set_cons_zero, List.set_cons_succ]
    refine wpAnyH_take (i := 3) (oi := ?on395) ?hin395 ?an395 ?bn395 ?cn395 ?qn395 (Or.inr ⟨?dn395, rfl⟩) hHeld ?restn395
    case hin395 => (simp only [List.getElem?_toArray, List.getElem?_cons_succ, List.getElem?_cons_zero]; exact rfl)
    case an395 => kernel_rfl
    case bn395 => kernel_rfl
    case cn395 => kernel_rfl
    case qn395 => exact fun _ _ _ h => h
    case dn395 => rfl
    try simp only [Act.put, List.setIfInBounds_toArray, List.set_cons_zero, List.set_cons_succ]
    refine wpAnyH_take (i := 4) (oi := ?on396) ?hin396 ?an396 ?bn396 ?cn396 ?qn396 (Or.inr ⟨?dn396, rfl⟩) hHeld ?restn396
    case hin396 => (simp only [List.getElem?_toArray, List.getElem?_cons_succ, List.getElem?_cons_zero]; exact rfl)
    case an396 => kernel_rfl
    case bn396 => kernel_rfl
    case cn396 => kernel_rfl
    case qn396 => exact fun _ _ _ h => h
    case dn396 => rfl
    try simp only [Act.put, List.setIfInBounds_toArray, List.set_cons_zero, List.set_cons_succ]
    refine wpAnyH_take (i := 5) (oi := ?on397) ?hin397 ?an397 ?bn397 ?cn397 ?qn397 (Or.inr ⟨?dn397, rfl⟩) hHeld ?restn397
    case hin397 => (simp only [List.getElem?_toArray, List.getElem?_cons_succ, List.getElem?_cons_zero]; exact rfl)
    case an397 => kernel_rfl
    case bn397 => kernel_rfl
    case cn397 => kernel_rfl
    case qn397 => exact fun _ _ _ h => h
    case dn397 => rfl
    try simp only [Act.put, List.setIfInBounds_toArray, List.set_cons_zero, List.set_cons_succ]
    refine wpAnyH_take (i := 6) (oi := ?on398) ?hin398 ?an398 ?bn398 ?cn398 ?qn398 (Or.inr ⟨?dn398, rfl⟩) hHeld ?restn398
    case hin398 => (simp only [List.getElem?_toArray, List.getElem?_cons_succ, List.getElem?_cons_zero]; exact rfl)
    case an398 => kernel_rfl
    case bn398 => kernel_rfl
    case cn398 => kernel_rfl
    case qn398 => exact fun _ _ _ h => h
    case dn398 => rfl
    try simp only [Act.put, List.setIfInBounds_toArray, List.set_cons_zero, List.set_cons_succ]
    refine wpAnyH_take (i := 7) (oi := ?on399) ?hin399 ?an399 ?bn399 ?cn399 ?qn399 (Or.inr ⟨?dn399, rfl⟩) hHeld ?restn399
    case hin399 => (simp only [List.getElem?_toArray, List.getElem?_cons_succ, List.getElem?_cons_zero]; exact rfl)
    case an399 => kernel_rfl
    case bn399 => kernel_rfl
    case cn399 => kernel_rfl
    case qn399 => exact fun _ _ _ h => h
    case dn399 => rfl
    try simp only [Act.put, List.setIfInBounds_toArray, List.set_cons_zero, List.set_cons_succ]
    refine wpAnyH_take (i := 8) (oi := ?on400) ?hin400 ?an400 ?bn400 ?cn400 ?qn400 (Or.inr ⟨?dn400, rfl⟩) hHeld ?restn400
    case hin400 => (simp only [List.getElem?_toArray, List.getElem?_cons_succ, List.getElem?_cons_zero]; exact rfl)
    case an400 => kernel_rfl
    case bn400 => kernel_rfl
    case cn400 => kernel_rfl
    case qn400 => exact fun _ _ _ h => h
    case dn400 => rfl
    try simp only [Act.put, List.setIfInBounds_toArray, List.set_cons_zero, List.set_cons_succ]
    refine wpAnyH_take (i := 9) (oi := ?on401) ?hin401 ?an401 ?bn401 ?cn401 ?qn401 (Or.inr ⟨?dn401, rfl⟩) hHeld ?restn401
    case hin401 => (simp only [List.getElem?_toArray, List.getElem?_cons_succ, List.getElem?_cons_zero]; exact rfl)
    case an401 => kernel_rfl
    case bn401 => kernel_rfl
    case cn401 => kernel_rfl
    case qn401 => exact fun _ _ _ h => h
    case dn401 => rfl
    try simp only [Act.put, List.setIfInBounds_toArray, List.set_cons_zero, List.set_cons_succ]
    refine wpAnyH_take (i := 10) (oi := ?on402) ?hin402 ?an402 ?bn402 ?cn402 ?qn402 (Or.inr ⟨?dn402, rfl⟩) hHeld ?restn402
    case hin402 => (simp only [List.getElem?_toArray, List.getElem?_cons_succ, List.getElem?_cons_zero]; exact rfl)
    case an402 => kernel_rfl
    case bn402 => kernel_rfl
    case cn402 => kernel_rfl
    case qn402 => exact fun _ _ _ h => h
    case dn402 => rfl
    try simp only [Act.put, List.setIfInBounds_toArray, List.set_cons_zero, List.set_cons_succ]
    refine wpAnyH_take (i := 11) (oi := ?on403) (v := ?vn403) ?hin403 ?an403 ?bn403 ?cn403 ?qn403 (Or.inl ⟨?dn403, ?hyn403⟩) hHeld ?restn403
    case hin403 => (simp only [List.getElem?_toArray, List.getElem?_cons_succ, List.getElem?_cons_zero]; exact rfl)
    case an403 => kernel_rfl
    case bn403 => kernel_rfl
    case cn403 => kernel_rfl
    case qn403 => exact fun _ _ _ h => h
    case dn403 => rfl
    case hyn403 => (intro z hSw; (try dsimp only at hSw); go_simp; (try with_reducible rfl))
    try simp only [Act.put, List.setIfInBounds_toArray, List.set_cons_zero, List.set_cons_succ]
    refine wpAnyH_take (i := 12) (oi := ?on404) (v := ?vn404) ?hin404 ?an404 ?bn404 ?cn404 ?qn404 (Or.inl ⟨?dn404, ?hyn404⟩) hHeld ?restn404
    case hin404 => (simp only [List.getElem?_toArray, List.getElem?_cons_succ, List.getElem?_cons_zero]; exact rfl)
    case an404 => kernel_rfl
    case bn404 => kernel_rfl
    case cn404 => kernel_rfl
    case qn404 => exact fun _ _ _ h => h
    case dn404 => rfl
    case hyn404 => (intro z hSw; (try dsimp only at hSw); go_simp; (try with_reducible rfl))
    try simp only [Act.put, List.setIfInBounds_toArray, List.set_cons_zero, List.set_cons_succ]
    refine wpAnyH_done (by kernel_rfl) ?_ _
    go_wp2_with fail
    go_ret
    exact ⟨rfl, (by repeat (first | with_reducible assumption | with_reducible refine Grew.alloc ?_ _ | with_reducible refine Grew.drew ?_ | with_reducible refine Grew.drewN ?_ _))⟩
end Go.Proofs.YtkjmfkllmljdeaaGreat

/- Texts in one file: DdRd DdRe Jg DdC DdR1 DdI DdE DdG DdFb. -/
import Derived.Deep.RegionHeld3
import Derived.Shelf.Abstract
import Derived.IntWalk
import Derived.Test.YtfpkfgimhanekaaGreatDoorPa1
import Derived.Test.YtfpkfgimhanekaaGreatDoorPa2
import Derived.Test.YtfpkfgimhanekaaGreatDoorPa3
import Derived.Test.YtfpkfgimhanekaaGreatDoorPa4
set_option linter.all false

/- l25Rule of the reference at some rules. -/
namespace Go.Proofs.YtfpkfgimhanekaaGreatDoor
open Go.RowKit

set_option maxHeartbeats 8000000 in
set_option maxRecDepth 8192 in
theorem rule_9 (P : List Int) (A : List ByteArray) (C : ByteArray) (N : Int) : RuleC (9, P, A, C, N) 1 := by
  intro up ua vp p w hup hs hv hC hp hl hk
  simp only at hup hs hC hl hk ⊢
  obtain ⟨y0, rfl⟩ := lenL1 hk
  obtain ⟨r0, P0, A0, C0, N0⟩ := y0
  obtain ⟨pb, po, pc, rfl, hpc, hpm, hat⟩ := dds_at hv (by simp)
  have hiff : (introP (9, P, A, C, N) ([(r0, P0, A0, C0, N0)].map jd) ∨ elimP (9, P, A, C, N) ([(r0, P0, A0, C0, N0)].map jd)) ↔ (kT C = 4 ∧ A0 = A ++ [pl C] ∧ C0 = pr C) := by
    simp [introP, elimP, jd]
    try grind
  rw [dcd_congr hiff]
  clear hiff
  obtain ⟨ua0, q0a, q0c, hu0⟩ := hat 0 _ rfl
  have hg0 : gp C0 = true := hp (r0, P0, A0, C0, N0) (by simp)
  simp only [Nat.zero_mul, Nat.add_zero] at q0a q0c hu0
  have KS0 := fun W (hW : Grew w W) v (hv : Strs W v (A ++ [pl C])) => same_c ua0 v A0 (A ++ [pl C]) W (hu0.grew hW) hv
  simp only [List.length_cons, List.length_nil] at hpc ⊢
  have KW := Lib.hid (fun a W (hW : Grew w W) u (hu : Strs W u [a]) => l25With_c ua u A [a] W (hs.grew hW) hu (by omega) (by simp))
  obtain ⟨VP, cp, rfl⟩ := ints_slice hup
  obtain ⟨UA, ca, rfl⟩ := strs_slice hs
  obtain ⟨U0, c0, rfl⟩ := strs_slice hu0
  have hal := (Grew.refl w).alloc (.cells #[.int .i64 9, .slice VP P.length cp, .slice UA A.length ca, .string C, .int .i64 N] 52)
  have f0 : ∀ W, Grew (w.alloc (.cells #[.int .i64 9, .slice VP P.length cp, .slice UA A.length ca, .string C, .int .i64 N] 52)) W → W.cell? ⟨w.heap.size, 0, none⟩ = some (.int .i64 9) := fun W hW => (hW.cell (p := ⟨w.heap.size, 0, none⟩) (by simp)).trans (by simp)
  have f2 : ∀ W, Grew (w.alloc (.cells #[.int .i64 9, .slice VP P.length cp, .slice UA A.length ca, .string C, .int .i64 N] 52)) W → W.cell? ⟨w.heap.size, 2, none⟩ = some (.slice UA A.length ca) := fun W hW => (hW.cell (p := ⟨w.heap.size, 2, none⟩) (by simp)).trans (by simp)
  have f3 : ∀ W, Grew (w.alloc (.cells #[.int .i64 9, .slice VP P.length cp, .slice UA A.length ca, .string C, .int .i64 N] 52)) W → W.cell? ⟨w.heap.size, 3, none⟩ = some (.string C) := fun W hW => (hW.cell (p := ⟨w.heap.size, 3, none⟩) (by simp)).trans (by simp)
  clear hup hs hv hat hp hl hk hu0
  generalize P.length = pln at *
  generalize A.length = al at *
  generalize A0.length = al0 at *
  by_cases h0 : kT C = 4
  · have hh : True := trivial
    have KP := Lib.hid (fun W => lp_yes 4 C W hC h0 (by decide))
    by_cases h1 : A0 = A ++ [pl C]
    · have hh : True := trivial
      rw [dcd_true h1] at KS0
      by_cases h2 : C0 = pr C
      · have hh : True := trivial
        have hb2 : (C0.toList == (pr C).toList) = true := by rw [h2]; simp
        rw [dcd_true ⟨h0, h1, h2⟩]
        replace KS0 := Lib.hid KS0
        clear h0 h1 h2
        go_enter Tryz.func82, Tryz.ntmps82
        go_wp2_with fail
        refine (KP.out _).mono ?_
        rintro e w1 ⟨rfl, hg1⟩
        have g1 := hal.trans hg1
        have hm1 := hg1
        have r1 := Grew.refl w1
        have d1 := r1.drew
        have gd := g1.trans d1
        have e0 := fun W (hW : Grew w1 W) => f0 W (hg1.trans hW)
        have e2 := fun W (hW : Grew w1 W) => f2 W (hg1.trans hW)
        have e3 := fun W (hW : Grew w1 W) => f3 W (hg1.trans hW)
        have p0a := fun W (hW : Grew w1 W) => q0a W (g1.trans hW)
        have p0c := fun W (hW : Grew w1 W) => q0c W (g1.trans hW)
        clear f0 f2 f3 q0a q0c
        go_wp2_with fail
        refine wp_region_held_drew (S := fun w' => Grew w1 w') (by kernel_rfl) d1 (fun hHeld => ?_)
        refine wpAnyH_take (i := 0) (oi := ?on307) (v := ?vn307) ?hin307 ?an307 ?bn307 ?cn307 ?qn307 (Or.inl ⟨?dn307, ?hyn307⟩) hHeld ?restn307
        case hin307 => (simp only [List.getElem?_toArray, List.getElem?_cons_succ, List.getElem?_cons_zero]; exact rfl)
        case an307 => kernel_rfl
        case bn307 => kernel_rfl
        case cn307 => kernel_rfl
        case qn307 => exact fun _ _ _ h => h
        case dn307 => rfl
        case hyn307 => (intro z hSw; (try dsimp only at hSw); go_simp; (try with_reducible rfl))
        try simp only [Act.put, List.setIfInBounds_toArray, List.set_cons_zero, List.set_cons_succ]
        refine wpAnyH_take (i := 1) (oi := ?on308) (v := ?vn308) ?hin308 ?an308 ?bn308 ?cn308 ?qn308 (Or.inl ⟨?dn308, ?hyn308⟩) hHeld ?restn308
        case hin308 => (simp only [List.getElem?_toArray, List.getElem?_cons_succ, List.getElem?_cons_zero]; exact rfl)
        case an308 => kernel_rfl
        case bn308 => kernel_rfl
        case cn308 => kernel_rfl
        case qn308 => exact fun _ _ _ h => h
        case dn308 => rfl
        case hyn308 => (intro z hSw; (try dsimp only at hSw); go_simp; (try with_reducible rfl))
        try simp only [Act.put, List.setIfInBounds_toArray, List.set_cons_zero, List.set_cons_succ]
        refine wpAnyH_take (i := 2) (oi := ?on309) (v := ?vn309) ?hin309 ?an309 ?bn309 ?cn309 ?qn309 (Or.inl ⟨?dn309, ?hyn309⟩) hHeld ?restn309
        case hin309 => (simp only [List.getElem?_toArray, List.getElem?_cons_succ, List.getElem?_cons_zero]; exact rfl)
        case an309 => kernel_rfl
        case bn309 => kernel_rfl
        case cn309 => kernel_rfl
        case qn309 => exact fun _ _ _ h => h
        case dn309 => rfl
        case hyn309 => (intro z hSw; (try dsimp only at hSw); go_simp; (try with_reducible rfl))
        try simp only [Act.put, List.setIfInBounds_toArray, List.set_cons_zero, List.set_cons_succ]
        refine wpAnyH_take (i := 3) (oi := ?on310) (v := ?vn310) ?hin310 ?an310 ?bn310 ?cn310 ?qn310 (Or.inl ⟨?dn310, ?hyn310⟩) hHeld ?restn310
        case hin310 => (simp only [List.getElem?_toArray, List.getElem?_cons_succ, List.getElem?_cons_zero]; exact rfl)
        case an310 => kernel_rfl
        case bn310 => kernel_rfl
        case cn310 => kernel_rfl
        case qn310 => exact fun _ _ _ h => h
        case dn310 => rfl
        case hyn310 => (intro z hSw; (try dsimp only at hSw); go_simp; (try with_reducible rfl))
        try simp only [Act.put, List.setIfInBounds_toArray, List.set_cons_zero, List.set_cons_succ]
        refine wpAnyH_take (i := 4) (oi := ?on311) (v := ?vn311) ?hin311 ?an311 ?bn311 ?cn311 ?qn311 (Or.inl ⟨?dn311, ?hyn311⟩) hHeld ?restn311
        case hin311 => (simp only [List.getElem?_toArray, List.getElem?_cons_succ, List.getElem?_cons_zero]; exact rfl)
        case an311 => kernel_rfl
        case bn311 => kernel_rfl
        case cn311 => kernel_rfl
        case qn311 => exact fun _ _ _ h => h
        case dn311 => rfl
        case hyn311 => (intro z hSw; (try dsimp only at hSw); go_simp; (try with_reducible rfl))
        try simp only [Act.put, List.setIfInBounds_toArray, List.set_cons_zero, List.set_cons_succ]
        refine wpAnyH_take (i := 5) (oi := ?on312) (v := ?vn312) ?hin312 ?an312 ?bn312 ?cn312 ?qn312 (Or.inl ⟨?dn312, ?hyn312⟩) hHeld ?restn312
        case hin312 => (simp only [List.getElem?_toArray, List.getElem?_cons_succ, List.getElem?_cons_zero]; exact rfl)
        case an312 => kernel_rfl
        case bn312 => kernel_rfl
        case cn312 => kernel_rfl
        case qn312 => exact fun _ _ _ h => h
        case dn312 => rfl
        case hyn312 => (intro z hSw; (try dsimp only at hSw); go_simp; (try with_reducible rfl))
        try simp only [Act.put, List.setIfInBounds_toArray, List.set_cons_zero, List.set_cons_succ]
        refine wpAnyH_take (i := 6) (oi := ?on313) (v := ?vn313) ?hin313 ?an313 ?bn313 ?cn313 ?qn313 (Or.inl ⟨?dn313, ?hyn313⟩) hHeld ?restn313
        case hin313 => (simp only [List.getElem?_toArray, List.getElem?_cons_succ, List.getElem?_cons_zero]; exact rfl)
        case an313 => kernel_rfl
        case bn313 => kernel_rfl
        case cn313 => kernel_rfl
        case qn313 => exact fun _ _ _ h => h
        case dn313 => rfl
        case hyn313 => (intro z hSw; (try dsimp only at hSw); go_simp; (try with_reducible rfl))
        try simp only [Act.put, List.setIfInBounds_toArray, List.set_cons_zero, List.set_cons_succ]
        refine wpAnyH_take (i := 7) (oi := ?on314) (v := ?vn314) ?hin314 ?an314 ?bn314 ?cn314 ?qn314 (Or.inl ⟨?dn314, ?hyn314⟩) hHeld ?restn314
        case hin314 => (simp only [List.getElem?_toArray, List.getElem?_cons_succ, List.getElem?_cons_zero]; exact rfl)
        case an314 => kernel_rfl
        case bn314 => kernel_rfl
        case cn314 => kernel_rfl
        case qn314 => exact fun _ _ _ h => h
        case dn314 => rfl
        case hyn314 => (intro z hSw; (try dsimp only at hSw); go_simp; (try with_reducible rfl))
        try simp only [Act.put, List.setIfInBounds_toArray, List.set_cons_zero, List.set_cons_succ]
        refine wpAnyH_take (i := 8) (oi := ?on315) (v := ?vn315) ?hin315 ?an315 ?bn315 ?cn315 ?qn315 (Or.inl ⟨?dn315, ?hyn315⟩) hHeld ?restn315
        case hin315 => (simp only [List.getElem?_toArray, List.getElem?_cons_succ, List.getElem?_cons_zero]; exact rfl)
        case an315 => kernel_rfl
        case bn315 => kernel_rfl
        case cn315 => kernel_rfl
        case qn315 => exact fun _ _ _ h => h
        case dn315 => rfl
        case hyn315 => (intro z hSw; (try dsimp only at hSw); go_simp; (try with_reducible rfl))
        try simp only [Act.put, List.setIfInBounds_toArray, List.set_cons_zero, List.set_cons_succ]
        refine wpAnyH_ready (rs := [9]) (by kernel_rfl) (by simp) ?_
        refine AllReadyH.cons (o := ?on316) ?hin316 ?restn316 AllReadyH.nil
        case hin316 => (simp only [List.getElem?_toArray, List.getElem?_cons_succ, List.getElem?_cons_zero]; exact rfl)
        intro K hK
        go_simp
        refine hK.out _ _ ?_ (fun hHeld => ?_)
        · (try dsimp only); first | with_reducible assumption | exact Grew.alloc ‹_› _
        clear hK K
        try simp only [Act.put, List.setIfInBounds_toArray, List.set_cons_zero, List.set_cons_succ]
        refine wpAnyH_ready (rs := [10]) (by kernel_rfl) (by simp) ?_
        refine AllReadyH.cons (o := ?on317) ?hin317 ?restn317 AllReadyH.nil
        case hin317 => (simp only [List.getElem?_toArray, List.getElem?_cons_succ, List.getElem?_cons_zero]; exact rfl)
        intro K hK
        go_simp
        go_at_call 102
        refine (KW.out (pl C) _ (by first | with_reducible assumption | exact Grew.alloc (by with_reducible assumption) _ | exact Grew.drew (Grew.alloc (by with_reducible assumption) _)) _ (by first | exact strs_lit1 _ _ | exact (strs_lit1 _ _).grew (Grew.refl _).drew)).mono ?_
        rintro e z0 ⟨zu0, rfl, zo0, zg0⟩
        have gz0 : Grew w z0 := Grew.trans (by first | with_reducible assumption | exact Grew.alloc (by with_reducible assumption) _ | exact Grew.drew (Grew.alloc (by with_reducible assumption) _)) zg0
        have mz0 : Grew w1 z0 := Grew.trans (by first | with_reducible assumption | exact Grew.alloc (by with_reducible assumption) _ | exact Grew.drew (Grew.alloc (by with_reducible assumption) _)) zg0
        have zs0 := Lib.hid zo0.strs
        clear zo0
        refine hK.out _ _ ?_ (fun hHeld => ?_)
        · (try dsimp only); first | with_reducible assumption | exact Grew.alloc ‹_› _
        clear hK K
        try simp only [Act.put, List.setIfInBounds_toArray, List.set_cons_zero, List.set_cons_succ]
        refine wpAnyH_ready (rs := [11]) (by kernel_rfl) (by simp) ?_
        refine AllReadyH.cons (o := ?on318) ?hin318 ?restn318 AllReadyH.nil
        case hin318 => (simp only [List.getElem?_toArray, List.getElem?_cons_succ, List.getElem?_cons_zero]; exact rfl)
        intro K hK
        go_simp
        go_at_call 100
        refine (KS0.out _ gz0 _ zs0.out).mono ?_
        rintro e w3 ⟨rfl, hq3⟩
        have hh3 := hq3.grew
        have gk3 : Grew w w3 := Grew.trans (by first | with_reducible assumption | exact Grew.alloc (by with_reducible assumption) _ | exact Grew.drew (Grew.alloc (by with_reducible assumption) _)) hh3
        have mk3 : Grew w1 w3 := Grew.trans (by first | with_reducible assumption | exact Grew.alloc (by with_reducible assumption) _ | exact Grew.drew (Grew.alloc (by with_reducible assumption) _)) hh3
        refine hK.out _ _ ?_ (fun hHeld => ?_)
        · (try dsimp only); first | with_reducible assumption | exact Grew.alloc ‹_› _
        clear hK K
        try simp only [Act.put, List.setIfInBounds_toArray, List.set_cons_zero, List.set_cons_succ]
        refine wpAnyH_take (i := 12) (oi := ?on319) (v := ?vn319) ?hin319 ?an319 ?bn319 ?cn319 ?qn319 (Or.inl ⟨?dn319, ?hyn319⟩) hHeld ?restn319
        case hin319 => (simp only [List.getElem?_toArray, List.getElem?_cons_succ, List.getElem?_cons_zero]; exact rfl)
        case an319 => kernel_rfl
        case bn319 => kernel_rfl
        case cn319 => kernel_rfl
        case qn319 => exact fun _ _ _ h => h
        case dn319 => rfl
        case hyn319 => (intro z hSw; (try dsimp only at hSw); go_simp; (try with_reducible rfl))
        try simp only [Act.put, List.setIfInBounds_toArray, List.set_cons_zero, List.set_cons_succ]
        refine wpAnyH_take (i := 13) (oi := ?on320) (v := ?vn320) ?hin320 ?an320 ?bn320 ?cn320 ?qn320 (Or.inl ⟨?dn320, ?hyn320⟩) hHeld ?restn320
        case hin320 => (simp only [List.getElem?_toArray, List.getElem?_cons_succ, List.getElem?_cons_zero]; exact rfl)
        case an320 => kernel_rfl
        case bn320 => kernel_rfl
        case cn320 => kernel_rfl
        case qn320 => exact fun _ _ _ h => h
        case dn320 => rfl
        case hyn320 => (intro z hSw; (try dsimp only at hSw); go_simp; (try with_reducible rfl))
        try simp only [Act.put, List.setIfInBounds_toArray, List.set_cons_zero, List.set_cons_succ]
        refine wpAnyH_take (i := 14) (oi := ?on321) (v := ?vn321) ?hin321 ?an321 ?bn321 ?cn321 ?qn321 (Or.inl ⟨?dn321, ?hyn321⟩) hHeld ?restn321
        case hin321 => (simp only [List.getElem?_toArray, List.getElem?_cons_succ, List.getElem?_cons_zero]; exact rfl)
        case an321 => kernel_rfl
        case bn321 => kernel_rfl
        case cn321 => kernel_rfl
        case qn321 => exact fun _ _ _ h => h
        case dn321 => rfl
        case hyn321 => (intro z hSw; (try dsimp only at hSw); go_simp; (try with_reducible rfl))
        try simp only [Act.put, List.setIfInBounds_toArray, List.set_cons_zero, List.set_cons_succ]
        refine wpAnyH_take (i := 15) (oi := ?on322) (v := ?vn322) ?hin322 ?an322 ?bn322 ?cn322 ?qn322 (Or.inl ⟨?dn322, ?hyn322⟩) hHeld ?restn322
        case hin322 => (simp only [List.getElem?_toArray, List.getElem?_cons_succ, List.getElem?_cons_zero]; exact rfl)
        case an322 => kernel_rfl
        case bn322 => kernel_rfl
        case cn322 => kernel_rfl
        case qn322 => exact fun _ _ _ h => h
        case dn322 => rfl
        case hyn322 => (intro z hSw; (try dsimp only at hSw); go_simp; (try with_reducible rfl))
        try simp only [Act.put, List.setIfInBounds_toArray, List.set_cons_zero, List.set_cons_succ]
        refine wpAnyH_take (i := 16) (oi := ?on323) (v := ?vn323) ?hin323 ?an323 ?bn323 ?cn323 ?qn323 (Or.inl ⟨?dn323, ?hyn323⟩) hHeld ?restn323
        case hin323 => (simp only [List.getElem?_toArray, List.getElem?_cons_succ, List.getElem?_cons_zero]; exact rfl)
        case an323 => kernel_rfl
        case bn323 => kernel_rfl
        case cn323 => kernel_rfl
        case qn323 => exact fun _ _ _ h => h
        case dn323 => rfl
        case hyn323 => (intro z hSw; (try dsimp only at hSw); go_simp; (try with_reducible rfl))
        try simp only [Act.put, List.setIfInBounds_toArray, List.set_cons_zero, List.set_cons_succ]
        refine wpAnyH_take (i := 17) (oi := ?on324) (v := ?vn324) ?hin324 ?an324 ?bn324 ?cn324 ?qn324 (Or.inl ⟨?dn324, ?hyn324⟩) hHeld ?restn324
        case hin324 => (simp only [List.getElem?_toArray, List.getElem?_cons_succ, List.getElem?_cons_zero]; exact rfl)
        case an324 => kernel_rfl
        case bn324 => kernel_rfl
        case cn324 => kernel_rfl
        case qn324 => exact fun _ _ _ h => h
        case dn324 => rfl
        case hyn324 => (intro z hSw; (try dsimp only at hSw); go_simp; (try with_reducible rfl))
        try simp only [Act.put, List.setIfInBounds_toArray, List.set_cons_zero, List.set_cons_succ]
        refine wpAnyH_take (i := 18) (oi := ?on325) (v := ?vn325) ?hin325 ?an325 ?bn325 ?cn325 ?qn325 (Or.inl ⟨?dn325, ?hyn325⟩) hHeld ?restn325
        case hin325 => (simp only [List.getElem?_toArray, List.getElem?_cons_succ, List.getElem?_cons_zero]; exact rfl)
        case an325 => kernel_rfl
        case bn325 => kernel_rfl
        case cn325 => kernel_rfl
        case qn325 => exact fun _ _ _ h => h
        case dn325 => rfl
        case hyn325 => (intro z hSw; (try dsimp only at hSw); go_simp; (try with_reducible rfl))
        try simp only [Act.put, List.setIfInBounds_toArray, List.set_cons_zero, List.set_cons_succ]
        refine wpAnyH_take (i := 19) (oi := ?on326) (v := ?vn326) ?hin326 ?an326 ?bn326 ?cn326 ?qn326 (Or.inl ⟨?dn326, ?hyn326⟩) hHeld ?restn326
        case hin326 => (simp only [List.getElem?_toArray, List.getElem?_cons_succ, List.getElem?_cons_zero]; exact rfl)
        case an326 => kernel_rfl
        case bn326 => kernel_rfl
        case cn326 => kernel_rfl
        case qn326 => exact fun _ _ _ h => h
        case dn326 => rfl
        case hyn326 => (intro z hSw; (try dsimp only at hSw); go_simp; (try with_reducible rfl))
        try simp only [Act.put, List.setIfInBounds_toArray, List.set_cons_zero, List.set_cons_succ]
        refine wpAnyH_take (i := 20) (oi := ?on327) (v := ?vn327) ?hin327 ?an327 ?bn327 ?cn327 ?qn327 (Or.inl ⟨?dn327, ?hyn327⟩) hHeld ?restn327
        case hin327 => (simp only [List.getElem?_toArray, List.getElem?_cons_succ, List.getElem?_cons_zero]; exact rfl)
        case an327 => kernel_rfl
        case bn327 => kernel_rfl
        case cn327 => kernel_rfl
        case qn327 => exact fun _ _ _ h => h
        case dn327 => rfl
        case hyn327 => (intro z hSw; (try dsimp only at hSw); go_simp; (try with_reducible rfl))
        try simp only [Act.put, List.setIfInBounds_toArray, List.set_cons_zero, List.set_cons_succ]
        refine wpAnyH_take (i := 21) (oi := ?on328) (v := ?vn328) ?hin328 ?an328 ?bn328 ?cn328 ?qn328 (Or.inl ⟨?dn328, ?hyn328⟩) hHeld ?restn328
        case hin328 => (simp only [List.getElem?_toArray, List.getElem?_cons_succ, List.getElem?_cons_zero]; exact rfl)
        case an328 => kernel_rfl
        case bn328 => kernel_rfl
        case cn328 => kernel_rfl
        case qn328 => exact fun _ _ _ h => h
        case dn328 => rfl
        case hyn328 => (intro z hSw; (try dsimp only at hSw); go_simp; (try with_reducible rfl))
        try simp only [Act.put, List.setIfInBounds_toArray, List.set_cons_zero, List.set_cons_succ]
        refine wpAnyH_done (by kernel_rfl) ?_ _
        go_wp2_with fail
        go_ret
        exact ⟨rfl, gk3⟩
      · rw [dcd_false (fun h => h2 (h.2.2))]
        have hb2 := bytes_ne h2
        replace KS0 := Lib.hid KS0
        clear h0 h1 h2
        go_enter Tryz.func82, Tryz.ntmps82
        go_wp2_with fail
        refine (KP.out _).mono ?_
        rintro e w1 ⟨rfl, hg1⟩
        have g1 := hal.trans hg1
        have hm1 := hg1
        have r1 := Grew.refl w1
        have d1 := r1.drew
        have gd := g1.trans d1
        have e0 := fun W (hW : Grew w1 W) => f0 W (hg1.trans hW)
        have e2 := fun W (hW : Grew w1 W) => f2 W (hg1.trans hW)
        have e3 := fun W (hW : Grew w1 W) => f3 W (hg1.trans hW)
        have p0a := fun W (hW : Grew w1 W) => q0a W (g1.trans hW)
        have p0c := fun W (hW : Grew w1 W) => q0c W (g1.trans hW)
        clear f0 f2 f3 q0a q0c
        go_wp2_with fail
        refine wp_region_held_drew (S := fun w' => Grew w1 w') (by kernel_rfl) d1 (fun hHeld => ?_)
        refine wpAnyH_take (i := 0) (oi := ?on329) (v := ?vn329) ?hin329 ?an329 ?bn329 ?cn329 ?qn329 (Or.inl ⟨?dn329, ?hyn329⟩) hHeld ?restn329
        case hin329 => (simp only [List.getElem?_toArray, List.getElem?_cons_succ, List.getElem?_cons_zero]; exact rfl)
        case an329 => kernel_rfl
        case bn329 => kernel_rfl
        case cn329 => kernel_rfl
        case qn329 => exact fun _ _ _ h => h
        case dn329 => rfl
        case hyn329 => (intro z hSw; (try dsimp only at hSw); go_simp; (try with_reducible rfl))
        try simp only [Act.put, List.setIfInBounds_toArray, List.set_cons_zero, List.set_cons_succ]
        refine wpAnyH_take (i := 1) (oi := ?on330) (v := ?vn330) ?hin330 ?an330 ?bn330 ?cn330 ?qn330 (Or.inl ⟨?dn330, ?hyn330⟩) hHeld ?restn330
        case hin330 => (simp only [List.getElem?_toArray, List.getElem?_cons_succ, List.getElem?_cons_zero]; exact rfl)
        case an330 => kernel_rfl
        case bn330 => kernel_rfl
        case cn330 => kernel_rfl
        case qn330 => exact fun _ _ _ h => h
        case dn330 => rfl
        case hyn330 => (intro z hSw; (try dsimp only at hSw); go_simp; (try with_reducible rfl))
        try simp only [Act.put, List.setIfInBounds_toArray, List.set_cons_zero, List.set_cons_succ]
        refine wpAnyH_take (i := 2) (oi := ?on331) (v := ?vn331) ?hin331 ?an331 ?bn331 ?cn331 ?qn331 (Or.inl ⟨?dn331, ?hyn331⟩) hHeld ?restn331
        case hin331 => (simp only [List.getElem?_toArray, List.getElem?_cons_succ, List.getElem?_cons_zero]; exact rfl)
        case an331 => kernel_rfl
        case bn331 => kernel_rfl
        case cn331 => kernel_rfl
        case qn331 => exact fun _ _ _ h => h
        case dn331 => rfl
        case hyn331 => (intro z hSw; (try dsimp only at hSw); go_simp; (try with_reducible rfl))
        try simp only [Act.put, List.setIfInBounds_toArray, List.set_cons_zero, List.set_cons_succ]
        refine wpAnyH_take (i := 3) (oi := ?on332) (v := ?vn332) ?hin332 ?an332 ?bn332 ?cn332 ?qn332 (Or.inl ⟨?dn332, ?hyn332⟩) hHeld ?restn332
        case hin332 => (simp only [List.getElem?_toArray, List.getElem?_cons_succ, List.getElem?_cons_zero]; exact rfl)
        case an332 => kernel_rfl
        case bn332 => kernel_rfl
        case cn332 => kernel_rfl
        case qn332 => exact fun _ _ _ h => h
        case dn332 => rfl
        case hyn332 => (intro z hSw; (try dsimp only at hSw); go_simp; (try with_reducible rfl))
        try simp only [Act.put, List.setIfInBounds_toArray, List.set_cons_zero, List.set_cons_succ]
        refine wpAnyH_take (i := 4) (oi := ?on333) (v := ?vn333) ?hin333 ?an333 ?bn333 ?cn333 ?qn333 (Or.inl ⟨?dn333, ?hyn333⟩) hHeld ?restn333
        case hin333 => (simp only [List.getElem?_toArray, List.getElem?_cons_succ, List.getElem?_cons_zero]; exact rfl)
        case an333 => kernel_rfl
        case bn333 => kernel_rfl
        case cn333 => kernel_rfl
        case qn333 => exact fun _ _ _ h => h
        case dn333 => rfl
        case hyn333 => (intro z hSw; (try dsimp only at hSw); go_simp; (try with_reducible rfl))
        try simp only [Act.put, List.setIfInBounds_toArray, List.set_cons_zero, List.set_cons_succ]
        refine wpAnyH_take (i := 5) (oi := ?on334) (v := ?vn334) ?hin334 ?an334 ?bn334 ?cn334 ?qn334 (Or.inl ⟨?dn334, ?hyn334⟩) hHeld ?restn334
        case hin334 => (simp only [List.getElem?_toArray, List.getElem?_cons_succ, List.getElem?_cons_zero]; exact rfl)
        case an334 => kernel_rfl
        case bn334 => kernel_rfl
        case cn334 => kernel_rfl
        case qn334 => exact fun _ _ _ h => h
        case dn334 => rfl
        case hyn334 => (intro z hSw; (try dsimp only at hSw); go_simp; (try with_reducible rfl))
        try simp only [Act.put, List.setIfInBounds_toArray, List.set_cons_zero, List.set_cons_succ]
        refine wpAnyH_take (i := 6) (oi := ?on335) (v := ?vn335) ?hin335 ?an335 ?bn335 ?cn335 ?qn335 (Or.inl ⟨?dn335, ?hyn335⟩) hHeld ?restn335
        case hin335 => (simp only [List.getElem?_toArray, List.getElem?_cons_succ, List.getElem?_cons_zero]; exact rfl)
        case an335 => kernel_rfl
        case bn335 => kernel_rfl
        case cn335 => kernel_rfl
        case qn335 => exact fun _ _ _ h => h
        case dn335 => rfl
        case hyn335 => (intro z hSw; (try dsimp only at hSw); go_simp; (try with_reducible rfl))
        try simp only [Act.put, List.setIfInBounds_toArray, List.set_cons_zero, List.set_cons_succ]
        refine wpAnyH_take (i := 7) (oi := ?on336) (v := ?vn336) ?hin336 ?an336 ?bn336 ?cn336 ?qn336 (Or.inl ⟨?dn336, ?hyn336⟩) hHeld ?restn336
        case hin336 => (simp only [List.getElem?_toArray, List.getElem?_cons_succ, List.getElem?_cons_zero]; exact rfl)
        case an336 => kernel_rfl
        case bn336 => kernel_rfl
        case cn336 => kernel_rfl
        case qn336 => exact fun _ _ _ h => h
        case dn336 => rfl
        case hyn336 => (intro z hSw; (try dsimp only at hSw); go_simp; (try with_reducible rfl))
        try simp only [Act.put, List.setIfInBounds_toArray, List.set_cons_zero, List.set_cons_succ]
        refine wpAnyH_take (i := 8) (oi := ?on337) (v := ?vn337) ?hin337 ?an337 ?bn337 ?cn337 ?qn337 (Or.inl ⟨?dn337, ?hyn337⟩) hHeld ?restn337
        case hin337 => (simp only [List.getElem?_toArray, List.getElem?_cons_succ, List.getElem?_cons_zero]; exact rfl)
        case an337 => kernel_rfl
        case bn337 => kernel_rfl
        case cn337 => kernel_rfl
        case qn337 => exact fun _ _ _ h => h
        case dn337 => rfl
        case hyn337 => (intro z hSw; (try dsimp only at hSw); go_simp; (try with_reducible rfl))
        try simp only [Act.put, List.setIfInBounds_toArray, List.set_cons_zero, List.set_cons_succ]
        refine wpAnyH_ready (rs := [9]) (by kernel_rfl) (by simp) ?_
        refine AllReadyH.cons (o := ?on338) ?hin338 ?restn338 AllReadyH.nil
        case hin338 => (simp only [List.getElem?_toArray, List.getElem?_cons_succ, List.getElem?_cons_zero]; exact rfl)
        intro K hK
        go_simp
        refine hK.out _ _ ?_ (fun hHeld => ?_)
        · (try dsimp only); first | with_reducible assumption | exact Grew.alloc ‹_› _
        clear hK K
        try simp only [Act.put, List.setIfInBounds_toArray, List.set_cons_zero, List.set_cons_succ]
        refine wpAnyH_ready (rs := [10]) (by kernel_rfl) (by simp) ?_
        refine AllReadyH.cons (o := ?on339) ?hin339 ?restn339 AllReadyH.nil
        case hin339 => (simp only [List.getElem?_toArray, List.getElem?_cons_succ, List.getElem?_cons_zero]; exact rfl)
        intro K hK
        go_simp
        go_at_call 102
        refine (KW.out (pl C) _ (by first | with_reducible assumption | exact Grew.alloc (by with_reducible assumption) _ | exact Grew.drew (Grew.alloc (by with_reducible assumption) _)) _ (by first | exact strs_lit1 _ _ | exact (strs_lit1 _ _).grew (Grew.refl _).drew)).mono ?_
        rintro e z0 ⟨zu0, rfl, zo0, zg0⟩
        have gz0 : Grew w z0 := Grew.trans (by first | with_reducible assumption | exact Grew.alloc (by with_reducible assumption) _ | exact Grew.drew (Grew.alloc (by with_reducible assumption) _)) zg0
        have mz0 : Grew w1 z0 := Grew.trans (by first | with_reducible assumption | exact Grew.alloc (by with_reducible assumption) _ | exact Grew.drew (Grew.alloc (by with_reducible assumption) _)) zg0
        have zs0 := Lib.hid zo0.strs
        clear zo0
        refine hK.out _ _ ?_ (fun hHeld => ?_)
        · (try dsimp only); first | with_reducible assumption | exact Grew.alloc ‹_› _
        clear hK K
        try simp only [Act.put, List.setIfInBounds_toArray, List.set_cons_zero, List.set_cons_succ]
        refine wpAnyH_ready (rs := [11]) (by kernel_rfl) (by simp) ?_
        refine AllReadyH.cons (o := ?on340) ?hin340 ?restn340 AllReadyH.nil
        case hin340 => (simp only [List.getElem?_toArray, List.getElem?_cons_succ, List.getElem?_cons_zero]; exact rfl)
        intro K hK
        go_simp
        go_at_call 100
        refine (KS0.out _ gz0 _ zs0.out).mono ?_
        rintro e w3 ⟨rfl, hq3⟩
        have hh3 := hq3.grew
        have gk3 : Grew w w3 := Grew.trans (by first | with_reducible assumption | exact Grew.alloc (by with_reducible assumption) _ | exact Grew.drew (Grew.alloc (by with_reducible assumption) _)) hh3
        have mk3 : Grew w1 w3 := Grew.trans (by first | with_reducible assumption | exact Grew.alloc (by with_reducible assumption) _ | exact Grew.drew (Grew.alloc (by with_reducible assumption) _)) hh3
        refine hK.out _ _ ?_ (fun hHeld => ?_)
        · (try dsimp only); first | with_reducible assumption | exact Grew.alloc ‹_› _
        clear hK K
        try simp only [Act.put, List.setIfInBounds_toArray, List.set_cons_zero, List.set_cons_succ]
        refine wpAnyH_take (i := 12) (oi := ?on341) (v := ?vn341) ?hin341 ?an341 ?bn341 ?cn341 ?qn341 (Or.inl ⟨?dn341, ?hyn341⟩) hHeld ?restn341
        case hin341 => (simp only [List.getElem?_toArray, List.getElem?_cons_succ, List.getElem?_cons_zero]; exact rfl)
        case an341 => kernel_rfl
        case bn341 => kernel_rfl
        case cn341 => kernel_rfl
        case qn341 => exact fun _ _ _ h => h
        case dn341 => rfl
        case hyn341 => (intro z hSw; (try dsimp only at hSw); go_simp; (try with_reducible rfl))
        try simp only [Act.put, List.setIfInBounds_toArray, List.set_cons_zero, List.set_cons_succ]
        refine wpAnyH_take (i := 13) (oi := ?on342) (v := ?vn342) ?hin342 ?an342 ?bn342 ?cn342 ?qn342 (Or.inl ⟨?dn342, ?hyn342⟩) hHeld ?restn342
        case hin342 => (simp only [List.getElem?_toArray, List.getElem?_cons_succ, List.getElem?_cons_zero]; exact rfl)
        case an342 => kernel_rfl
        case bn342 => kernel_rfl
        case cn342 => kernel_rfl
        case qn342 => exact fun _ _ _ h => h
        case dn342 => rfl
        case hyn342 => (intro z hSw; (try dsimp only at hSw); go_simp; (try with_reducible rfl))
        try simp only [Act.put, List.setIfInBounds_toArray, List.set_cons_zero, List.set_cons_succ]
        refine wpAnyH_take (i := 14) (oi := ?on343) (v := ?vn343) ?hin343 ?an343 ?bn343 ?cn343 ?qn343 (Or.inl ⟨?dn343, ?hyn343⟩) hHeld ?restn343
        case hin343 => (simp only [List.getElem?_toArray, List.getElem?_cons_succ, List.getElem?_cons_zero]; exact rfl)
        case an343 => kernel_rfl
        case bn343 => kernel_rfl
        case cn343 => kernel_rfl
        case qn343 => exact fun _ _ _ h => h
        case dn343 => rfl
        case hyn343 => (intro z hSw; (try dsimp only at hSw); go_simp; (try with_reducible rfl))
        try simp only [Act.put, List.setIfInBounds_toArray, List.set_cons_zero, List.set_cons_succ]
        refine wpAnyH_take (i := 15) (oi := ?on344) (v := ?vn344) ?hin344 ?an344 ?bn344 ?cn344 ?qn344 (Or.inl ⟨?dn344, ?hyn344⟩) hHeld ?restn344
        case hin344 => (simp only [List.getElem?_toArray, List.getElem?_cons_succ, List.getElem?_cons_zero]; exact rfl)
        case an344 => kernel_rfl
        case bn344 => kernel_rfl
        case cn344 => kernel_rfl
        case qn344 => exact fun _ _ _ h => h
        case dn344 => rfl
        case hyn344 => (intro z hSw; (try dsimp only at hSw); go_simp; (try with_reducible rfl))
        try simp only [Act.put, List.setIfInBounds_toArray, List.set_cons_zero, List.set_cons_succ]
        refine wpAnyH_take (i := 16) (oi := ?on345) (v := ?vn345) ?hin345 ?an345 ?bn345 ?cn345 ?qn345 (Or.inl ⟨?dn345, ?hyn345⟩) hHeld ?restn345
        case hin345 => (simp only [List.getElem?_toArray, List.getElem?_cons_succ, List.getElem?_cons_zero]; exact rfl)
        case an345 => kernel_rfl
        case bn345 => kernel_rfl
        case cn345 => kernel_rfl
        case qn345 => exact fun _ _ _ h => h
        case dn345 => rfl
        case hyn345 => (intro z hSw; (try dsimp only at hSw); go_simp; (try with_reducible rfl))
        try simp only [Act.put, List.setIfInBounds_toArray, List.set_cons_zero, List.set_cons_succ]
        refine wpAnyH_take (i := 17) (oi := ?on346) (v := ?vn346) ?hin346 ?an346 ?bn346 ?cn346 ?qn346 (Or.inl ⟨?dn346, ?hyn346⟩) hHeld ?restn346
        case hin346 => (simp only [List.getElem?_toArray, List.getElem?_cons_succ, List.getElem?_cons_zero]; exact rfl)
        case an346 => kernel_rfl
        case bn346 => kernel_rfl
        case cn346 => kernel_rfl
        case qn346 => exact fun _ _ _ h => h
        case dn346 => rfl
        case hyn346 => (intro z hSw; (try dsimp only at hSw); go_simp; (try with_reducible rfl))
        try simp only [Act.put, List.setIfInBounds_toArray, List.set_cons_zero, List.set_cons_succ]
        refine wpAnyH_take (i := 18) (oi := ?on347) (v := ?vn347) ?hin347 ?an347 ?bn347 ?cn347 ?qn347 (Or.inl ⟨?dn347, ?hyn347⟩) hHeld ?restn347
        case hin347 => (simp only [List.getElem?_toArray, List.getElem?_cons_succ, List.getElem?_cons_zero]; exact rfl)
        case an347 => kernel_rfl
        case bn347 => kernel_rfl
        case cn347 => kernel_rfl
        case qn347 => exact fun _ _ _ h => h
        case dn347 => rfl
        case hyn347 => (intro z hSw; (try dsimp only at hSw); go_simp; (try with_reducible rfl))
        try simp only [Act.put, List.setIfInBounds_toArray, List.set_cons_zero, List.set_cons_succ]
        refine wpAnyH_take (i := 19) (oi := ?on348) (v := ?vn348) ?hin348 ?an348 ?bn348 ?cn348 ?qn348 (Or.inl ⟨?dn348, ?hyn348⟩) hHeld ?restn348
        case hin348 => (simp only [List.getElem?_toArray, List.getElem?_cons_succ, List.getElem?_cons_zero]; exact rfl)
        case an348 => kernel_rfl
        case bn348 => kernel_rfl
        case cn348 => kernel_rfl
        case qn348 => exact fun _ _ _ h => h
        case dn348 => rfl
        case hyn348 => (intro z hSw; (try dsimp only at hSw); go_simp; (try with_reducible rfl))
        try simp only [Act.put, List.setIfInBounds_toArray, List.set_cons_zero, List.set_cons_succ]
        refine wpAnyH_take (i := 20) (oi := ?on349) (v := ?vn349) ?hin349 ?an349 ?bn349 ?cn349 ?qn349 (Or.inl ⟨?dn349, ?hyn349⟩) hHeld ?restn349
        case hin349 => (simp only [List.getElem?_toArray, List.getElem?_cons_succ, List.getElem?_cons_zero]; exact rfl)
        case an349 => kernel_rfl
        case bn349 => kernel_rfl
        case cn349 => kernel_rfl
        case qn349 => exact fun _ _ _ h => h
        case dn349 => rfl
        case hyn349 => (intro z hSw; (try dsimp only at hSw); go_simp; (try with_reducible rfl))
        try simp only [Act.put, List.setIfInBounds_toArray, List.set_cons_zero, List.set_cons_succ]
        refine wpAnyH_take (i := 21) (oi := ?on350) (v := ?vn350) ?hin350 ?an350 ?bn350 ?cn350 ?qn350 (Or.inl ⟨?dn350, ?hyn350⟩) hHeld ?restn350
        case hin350 => (simp only [List.getElem?_toArray, List.getElem?_cons_succ, List.getElem?_cons_zero]; exact rfl)
        case an350 => kernel_rfl
        case bn350 => kernel_rfl
        case cn350 => kernel_rfl
        case qn350 => exact fun _ _ _ h => h
        case dn350 => rfl
        case hyn350 => (intro z hSw; (try dsimp only at hSw); go_simp; (try with_reducible rfl))
        try simp only [Act.put, List.setIfInBounds_toArray, List.set_cons_zero, List.set_cons_succ]
        refine wpAnyH_done (by kernel_rfl) ?_ _
        go_wp2_with fail
        go_ret
        exact ⟨rfl, gk3⟩
    · rw [dcd_false (fun h => h1 (h.2.1))]
      rw [dcd_false h1] at KS0
      replace KS0 := Lib.hid KS0
      clear h0 h1
      go_enter Tryz.func82, Tryz.ntmps82
      go_wp2_with fail
      refine (KP.out _).mono ?_
      rintro e w1 ⟨rfl, hg1⟩
      have g1 := hal.trans hg1
      have hm1 := hg1
      have r1 := Grew.refl w1
      have d1 := r1.drew
      have gd := g1.trans d1
      have e0 := fun W (hW : Grew w1 W) => f0 W (hg1.trans hW)
      have e2 := fun W (hW : Grew w1 W) => f2 W (hg1.trans hW)
      have e3 := fun W (hW : Grew w1 W) => f3 W (hg1.trans hW)
      have p0a := fun W (hW : Grew w1 W) => q0a W (g1.trans hW)
      have p0c := fun W (hW : Grew w1 W) => q0c W (g1.trans hW)
      clear f0 f2 f3 q0a q0c
      go_wp2_with fail
      refine wp_region_held_drew (S := fun w' => Grew w1 w') (by kernel_rfl) d1 (fun hHeld => ?_)
      refine wpAnyH_take (i := 0) (oi := ?on351) (v := ?vn351) ?hin351 ?an351 ?bn351 ?cn351 ?qn351 (Or.inl ⟨?dn351, ?hyn351⟩) hHeld ?restn351
      case hin351 => (simp only [List.getElem?_toArray, List.getElem?_cons_succ, List.getElem?_cons_zero]; exact rfl)
      case an351 => kernel_rfl
      case bn351 => kernel_rfl
      case cn351 => kernel_rfl
      case qn351 => exact fun _ _ _ h => h
      case dn351 => rfl
      case hyn351 => (intro z hSw; (try dsimp only at hSw); go_simp; (try with_reducible rfl))
      try simp only [Act.put, List.setIfInBounds_toArray, List.set_cons_zero, List.set_cons_succ]
      refine wpAnyH_take (i := 1) (oi := ?on352) (v := ?vn352) ?hin352 ?an352 ?bn352 ?cn352 ?qn352 (Or.inl ⟨?dn352, ?hyn352⟩) hHeld ?restn352
      case hin352 => (simp only [List.getElem?_toArray, List.getElem?_cons_succ, List.getElem?_cons_zero]; exact rfl)
      case an352 => kernel_rfl
      case bn352 => kernel_rfl
      case cn352 => kernel_rfl
      case qn352 => exact fun _ _ _ h => h
      case dn352 => rfl
      case hyn352 => (intro z hSw; (try dsimp only at hSw); go_simp; (try with_reducible rfl))
      try simp only [Act.put, List.setIfInBounds_toArray, List.set_cons_zero, List.set_cons_succ]
      refine wpAnyH_take (i := 2) (oi := ?on353) (v := ?vn353) ?hin353 ?an353 ?bn353 ?cn353 ?qn353 (Or.inl ⟨?dn353, ?hyn353⟩) hHeld ?restn353
      case hin353 => (simp only [List.getElem?_toArray, List.getElem?_cons_succ, List.getElem?_cons_zero]; exact rfl)
      case an353 => kernel_rfl
      case bn353 => kernel_rfl
      case cn353 => kernel_rfl
      case qn353 => exact fun _ _ _ h => h
      case dn353 => rfl
      case hyn353 => (intro z hSw; (try dsimp only at hSw); go_simp; (try with_reducible rfl))
      try simp only [Act.put, List.setIfInBounds_toArray, List.set_cons_zero, List.set_cons_succ]
      refine wpAnyH_take (i := 3) (oi := ?on354) (v := ?vn354) ?hin354 ?an354 ?bn354 ?cn354 ?qn354 (Or.inl ⟨?dn354, ?hyn354⟩) hHeld ?restn354
      case hin354 => (simp only [List.getElem?_toArray, List.getElem?_cons_succ, List.getElem?_cons_zero]; exact rfl)
      case an354 => kernel_rfl
      case bn354 => kernel_rfl
      case cn354 => kernel_rfl
      case qn354 => exact fun _ _ _ h => h
      case dn354 => rfl
      case hyn354 => (intro z hSw; (try dsimp only at hSw); go_simp; (try with_reducible rfl))
      try simp only [Act.put, List.setIfInBounds_toArray, List.set_cons_zero, List.set_cons_succ]
      refine wpAnyH_take (i := 4) (oi := ?on355) (v := ?vn355) ?hin355 ?an355 ?bn355 ?cn355 ?qn355 (Or.inl ⟨?dn355, ?hyn355⟩) hHeld ?restn355
      case hin355 => (simp only [List.getElem?_toArray, List.getElem?_cons_succ, List.getElem?_cons_zero]; exact rfl)
      case an355 => kernel_rfl
      case bn355 => kernel_rfl
      case cn355 => kernel_rfl
      case qn355 => exact fun _ _ _ h => h
      case dn355 => rfl
      case hyn355 => (intro z hSw; (try dsimp only at hSw); go_simp; (try with_reducible rfl))
      try simp only [Act.put, List.setIfInBounds_toArray, List.set_cons_zero, List.set_cons_succ]
      refine wpAnyH_take (i := 5) (oi := ?on356) (v := ?vn356) ?hin356 ?an356 ?bn356 ?cn356 ?qn356 (Or.inl ⟨?dn356, ?hyn356⟩) hHeld ?restn356
      case hin356 => (simp only [List.getElem?_toArray, List.getElem?_cons_succ, List.getElem?_cons_zero]; exact rfl)
      case an356 => kernel_rfl
      case bn356 => kernel_rfl
      case cn356 => kernel_rfl
      case qn356 => exact fun _ _ _ h => h
      case dn356 => rfl
      case hyn356 => (intro z hSw; (try dsimp only at hSw); go_simp; (try with_reducible rfl))
      try simp only [Act.put, List.setIfInBounds_toArray, List.set_cons_zero, List.set_cons_succ]
      refine wpAnyH_take (i := 6) (oi := ?on357) (v := ?vn357) ?hin357 ?an357 ?bn357 ?cn357 ?qn357 (Or.inl ⟨?dn357, ?hyn357⟩) hHeld ?restn357
      case hin357 => (simp only [List.getElem?_toArray, List.getElem?_cons_succ, List.getElem?_cons_zero]; exact rfl)
      case an357 => kernel_rfl
      case bn357 => kernel_rfl
      case cn357 => kernel_rfl
      case qn357 => exact fun _ _ _ h => h
      case dn357 => rfl
      case hyn357 => (intro z hSw; (try dsimp only at hSw); go_simp; (try with_reducible rfl))
      try simp only [Act.put, List.setIfInBounds_toArray, List.set_cons_zero, List.set_cons_succ]
      refine wpAnyH_take (i := 7) (oi := ?on358) (v := ?vn358) ?hin358 ?an358 ?bn358 ?cn358 ?qn358 (Or.inl ⟨?dn358, ?hyn358⟩) hHeld ?restn358
      case hin358 => (simp only [List.getElem?_toArray, List.getElem?_cons_succ, List.getElem?_cons_zero]; exact rfl)
      case an358 => kernel_rfl
      case bn358 => kernel_rfl
      case cn358 => kernel_rfl
      case qn358 => exact fun _ _ _ h => h
      case dn358 => rfl
      case hyn358 => (intro z hSw; (try dsimp only at hSw); go_simp; (try with_reducible rfl))
      try simp only [Act.put, List.setIfInBounds_toArray, List.set_cons_zero, List.set_cons_succ]
      refine wpAnyH_take (i := 8) (oi := ?on359) (v := ?vn359) ?hin359 ?an359 ?bn359 ?cn359 ?qn359 (Or.inl ⟨?dn359, ?hyn359⟩) hHeld ?restn359
      case hin359 => (simp only [List.getElem?_toArray, List.getElem?_cons_succ, List.getElem?_cons_zero]; exact rfl)
      case an359 => kernel_rfl
      case bn359 => kernel_rfl
      case cn359 => kernel_rfl
      case qn359 => exact fun _ _ _ h => h
      case dn359 => rfl
      case hyn359 => (intro z hSw; (try dsimp only at hSw); go_simp; (try with_reducible rfl))
      try simp only [Act.put, List.setIfInBounds_toArray, List.set_cons_zero, List.set_cons_succ]
      refine wpAnyH_ready (rs := [9]) (by kernel_rfl) (by simp) ?_
      refine AllReadyH.cons (o := ?on360) ?hin360 ?restn360 AllReadyH.nil
      case hin360 => (simp only [List.getElem?_toArray, List.getElem?_cons_succ, List.getElem?_cons_zero]; exact rfl)
      intro K hK
      go_simp
      refine hK.out _ _ ?_ (fun hHeld => ?_)
      · (try dsimp only); first | with_reducible assumption | exact Grew.alloc ‹_› _
      clear hK K
      try simp only [Act.put, List.setIfInBounds_toArray, List.set_cons_zero, List.set_cons_succ]
      refine wpAnyH_ready (rs := [10]) (by kernel_rfl) (by simp) ?_
      refine AllReadyH.cons (o := ?on361) ?hin361 ?restn361 AllReadyH.nil
      case hin361 => (simp only [List.getElem?_toArray, List.getElem?_cons_succ, List.getElem?_cons_zero]; exact rfl)
      intro K hK
      go_simp
      go_at_call 102
      refine (KW.out (pl C) _ (by first | with_reducible assumption | exact Grew.alloc (by with_reducible assumption) _ | exact Grew.drew (Grew.alloc (by with_reducible assumption) _)) _ (by first | exact strs_lit1 _ _ | exact (strs_lit1 _ _).grew (Grew.refl _).drew)).mono ?_
      rintro e z0 ⟨zu0, rfl, zo0, zg0⟩
      have gz0 : Grew w z0 := Grew.trans (by first | with_reducible assumption | exact Grew.alloc (by with_reducible assumption) _ | exact Grew.drew (Grew.alloc (by with_reducible assumption) _)) zg0
      have mz0 : Grew w1 z0 := Grew.trans (by first | with_reducible assumption | exact Grew.alloc (by with_reducible assumption) _ | exact Grew.drew (Grew.alloc (by with_reducible assumption) _)) zg0
      have zs0 := Lib.hid zo0.strs
      clear zo0
      refine hK.out _ _ ?_ (fun hHeld => ?_)
      · (try dsimp only); first | with_reducible assumption | exact Grew.alloc ‹_› _
      clear hK K
      try simp only [Act.put, List.setIfInBounds_toArray, List.set_cons_zero, List.set_cons_succ]
      refine wpAnyH_ready (rs := [11]) (by kernel_rfl) (by simp) ?_
      refine AllReadyH.cons (o := ?on362) ?hin362 ?restn362 AllReadyH.nil
      case hin362 => (simp only [List.getElem?_toArray, List.getElem?_cons_succ, List.getElem?_cons_zero]; exact rfl)
      intro K hK
      go_simp
      go_at_call 100
      refine (KS0.out _ gz0 _ zs0.out).mono ?_
      rintro e w3 ⟨rfl, hq3⟩
      have hh3 := hq3.grew
      have gk3 : Grew w w3 := Grew.trans (by first | with_reducible assumption | exact Grew.alloc (by with_reducible assumption) _ | exact Grew.drew (Grew.alloc (by with_reducible assumption) _)) hh3
      have mk3 : Grew w1 w3 := Grew.trans (by first | with_reducible assumption | exact Grew.alloc (by with_reducible assumption) _ | exact Grew.drew (Grew.alloc (by with_reducible assumption) _)) hh3
      refine hK.out _ _ ?_ (fun hHeld => ?_)
      · (try dsimp only); first | with_reducible assumption | exact Grew.alloc ‹_› _
      clear hK K
      try simp only [Act.put, List.setIfInBounds_toArray, List.set_cons_zero, List.set_cons_succ]
      refine wpAnyH_take (i := 12) (oi := ?on363) (v := ?vn363) ?hin363 ?an363 ?bn363 ?cn363 ?qn363 (Or.inl ⟨?dn363, ?hyn363⟩) hHeld ?restn363
      case hin363 => (simp only [List.getElem?_toArray, List.getElem?_cons_succ, List.getElem?_cons_zero]; exact rfl)
      case an363 => kernel_rfl
      case bn363 => kernel_rfl
      case cn363 => kernel_rfl
      case qn363 => exact fun _ _ _ h => h
      case dn363 => rfl
      case hyn363 => (intro z hSw; (try dsimp only at hSw); go_simp; (try with_reducible rfl))
      try simp only [Act.put, List.setIfInBounds_toArray, List.set_cons_zero, List.set_cons_succ]
      refine wpAnyH_take (i := 13) (oi := ?on364) (v := ?vn364) ?hin364 ?an364 ?bn364 ?cn364 ?qn364 (Or.inl ⟨?dn364, ?hyn364⟩) hHeld ?restn364
      case hin364 => (simp only [List.getElem?_toArray, List.getElem?_cons_succ, List.getElem?_cons_zero]; exact rfl)
      case an364 => kernel_rfl
      case bn364 => kernel_rfl
      case cn364 => kernel_rfl
      case qn364 => exact fun _ _ _ h => h
      case dn364 => rfl
      case hyn364 => (intro z hSw; (try dsimp only at hSw); go_simp; (try with_reducible rfl))
      try simp only [Act.put, List.setIfInBounds_toArray, List.set_cons_zero, List.set_cons_succ]
      refine wpAnyH_take (i := 14) (oi := ?on365) ?hin365 ?an365 ?bn365 ?cn365 ?qn365 (Or.inr ⟨?dn365, rfl⟩) hHeld ?restn365
      case hin365 => (simp only [List.getElem?_toArray, List.getElem?_cons_succ, List.getElem?_cons_zero]; exact rfl)
      case an365 => kernel_rfl
      case bn365 => kernel_rfl
      case cn365 => kernel_rfl
      case qn365 => exact fun _ _ _ h => h
      case dn365 => rfl
      try simp only [Act.put, List.setIfInBounds_toArray, List.set_cons_zero, List.set_cons_succ]
      refine wpAnyH_take (i := 15) (oi := ?on366) ?hin366 ?an366 ?bn366 ?cn366 ?qn366 (Or.inr ⟨?dn366, rfl⟩) hHeld ?restn366
      case hin366 => (simp only [List.getElem?_toArray, List.getElem?_cons_succ, List.getElem?_cons_zero]; exact rfl)
      case an366 => kernel_rfl
      case bn366 => kernel_rfl
      case cn366 => kernel_rfl
      case qn366 => exact fun _ _ _ h => h
      case dn366 => rfl
      try simp only [Act.put, List.setIfInBounds_toArray, List.set_cons_zero, List.set_cons_succ]
      refine wpAnyH_take (i := 16) (oi := ?on367) ?hin367 ?an367 ?bn367 ?cn367 ?qn367 (Or.inr ⟨?dn367, rfl⟩) hHeld ?restn367
      case hin367 => (simp only [List.getElem?_toArray, List.getElem?_cons_succ, List.getElem?_cons_zero]; exact rfl)
      case an367 => kernel_rfl
      case bn367 => kernel_rfl
      case cn367 => kernel_rfl
      case qn367 => exact fun _ _ _ h => h
      case dn367 => rfl
      try simp only [Act.put, List.setIfInBounds_toArray, List.set_cons_zero, List.set_cons_succ]
      refine wpAnyH_take (i := 17) (oi := ?on368) ?hin368 ?an368 ?bn368 ?cn368 ?qn368 (Or.inr ⟨?dn368, rfl⟩) hHeld ?restn368
      case hin368 => (simp only [List.getElem?_toArray, List.getElem?_cons_succ, List.getElem?_cons_zero]; exact rfl)
      case an368 => kernel_rfl
      case bn368 => kernel_rfl
      case cn368 => kernel_rfl
      case qn368 => exact fun _ _ _ h => h
      case dn368 => rfl
      try simp only [Act.put, List.setIfInBounds_toArray, List.set_cons_zero, List.set_cons_succ]
      refine wpAnyH_take (i := 18) (oi := ?on369) ?hin369 ?an369 ?bn369 ?cn369 ?qn369 (Or.inr ⟨?dn369, rfl⟩) hHeld ?restn369
      case hin369 => (simp only [List.getElem?_toArray, List.getElem?_cons_succ, List.getElem?_cons_zero]; exact rfl)
      case an369 => kernel_rfl
      case bn369 => kernel_rfl
      case cn369 => kernel_rfl
      case qn369 => exact fun _ _ _ h => h
      case dn369 => rfl
      try simp only [Act.put, List.setIfInBounds_toArray, List.set_cons_zero, List.set_cons_succ]
      refine wpAnyH_take (i := 19) (oi := ?on370) ?hin370 ?an370 ?bn370 ?cn370 ?qn370 (Or.inr ⟨?dn370, rfl⟩) hHeld ?restn370
      case hin370 => (simp only [List.getElem?_toArray, List.getElem?_cons_succ, List.getElem?_cons_zero]; exact rfl)
      case an370 => kernel_rfl
      case bn370 => kernel_rfl
      case cn370 => kernel_rfl
      case qn370 => exact fun _ _ _ h => h
      case dn370 => rfl
      try simp only [Act.put, List.setIfInBounds_toArray, List.set_cons_zero, List.set_cons_succ]
      refine wpAnyH_take (i := 20) (oi := ?on371) (v := ?vn371) ?hin371 ?an371 ?bn371 ?cn371 ?qn371 (Or.inl ⟨?dn371, ?hyn371⟩) hHeld ?restn371
      case hin371 => (simp only [List.getElem?_toArray, List.getElem?_cons_succ, List.getElem?_cons_zero]; exact rfl)
      case an371 => kernel_rfl
      case bn371 => kernel_rfl
      case cn371 => kernel_rfl
      case qn371 => exact fun _ _ _ h => h
      case dn371 => rfl
      case hyn371 => (intro z hSw; (try dsimp only at hSw); go_simp; (try with_reducible rfl))
      try simp only [Act.put, List.setIfInBounds_toArray, List.set_cons_zero, List.set_cons_succ]
      refine wpAnyH_take (i := 21) (oi := ?on372) (v := ?vn372) ?hin372 ?an372 ?bn372 ?cn372 ?qn372 (Or.inl ⟨?dn372, ?hyn372⟩) hHeld ?restn372
      case hin372 => (simp only [List.getElem?_toArray, List.getElem?_cons_succ, List.getElem?_cons_zero]; exact rfl)
      case an372 => kernel_rfl
      case bn372 => kernel_rfl
      case cn372 => kernel_rfl
      case qn372 => exact fun _ _ _ h => h
      case dn372 => rfl
      case hyn372 => (intro z hSw; (try dsimp only at hSw); go_simp; (try with_reducible rfl))
      try simp only [Act.put, List.setIfInBounds_toArray, List.set_cons_zero, List.set_cons_succ]
      refine wpAnyH_done (by kernel_rfl) ?_ _
      go_wp2_with fail
      go_ret
      exact ⟨rfl, gk3⟩
  · rw [dcd_false (fun h => h0 (h.1))]
    have KP := Lib.hid (fun W => lp_no 4 C W hC h0)
    replace KS0 := Lib.hid KS0
    clear h0
    go_enter Tryz.func82, Tryz.ntmps82
    go_wp2_with fail
    refine (KP.out _).mono ?_
    rintro e w1 ⟨rfl, hg1⟩
    have g1 := hal.trans hg1
    have hm1 := hg1
    have r1 := Grew.refl w1
    have d1 := r1.drew
    have gd := g1.trans d1
    have e0 := fun W (hW : Grew w1 W) => f0 W (hg1.trans hW)
    have e2 := fun W (hW : Grew w1 W) => f2 W (hg1.trans hW)
    have e3 := fun W (hW : Grew w1 W) => f3 W (hg1.trans hW)
    have p0a := fun W (hW : Grew w1 W) => q0a W (g1.trans hW)
    have p0c := fun W (hW : Grew w1 W) => q0c W (g1.trans hW)
    clear f0 f2 f3 q0a q0c
    go_wp2_with fail
    go_quiet (fail)
    go_wp2_with fail
    go_ret
    exact ⟨rfl, g1.drewN _⟩

set_option maxHeartbeats 8000000 in
set_option maxRecDepth 8192 in
theorem rule_10 (P : List Int) (A : List ByteArray) (C : ByteArray) (N : Int) : RuleC (10, P, A, C, N) 2 := by
  intro up ua vp p w hup hs hv hC hp hl hk
  simp only at hup hs hC hl hk ⊢
  obtain ⟨y0, y1, rfl⟩ := lenL2 hk
  obtain ⟨r0, P0, A0, C0, N0⟩ := y0
  obtain ⟨r1, P1, A1, C1, N1⟩ := y1
  obtain ⟨pb, po, pc, rfl, hpc, hpm, hat⟩ := dds_at hv (by simp)
  have hiff : (introP (10, P, A, C, N) ([(r0, P0, A0, C0, N0), (r1, P1, A1, C1, N1)].map jd) ∨ elimP (10, P, A, C, N) ([(r0, P0, A0, C0, N0), (r1, P1, A1, C1, N1)].map jd)) ↔ (kT C0 = 4 ∧ A0 = A ∧ A1 = A ∧ C1 = pl C0 ∧ C = pr C0) := by
    simp [introP, elimP, jd]
    try grind
  rw [dcd_congr hiff]
  clear hiff
  obtain ⟨ua0, q0a, q0c, hu0⟩ := hat 0 _ rfl
  have hg0 : gp C0 = true := hp (r0, P0, A0, C0, N0) (by simp)
  simp only [Nat.zero_mul, Nat.add_zero] at q0a q0c hu0
  obtain ⟨ua1, q1a, q1c, hu1⟩ := hat 1 _ rfl
  have hg1 : gp C1 = true := hp (r1, P1, A1, C1, N1) (by simp)
  simp only [Nat.one_mul] at q1a q1c hu1
  have KS0 := fun W (hW : Grew w W) => same_c ua0 ua A0 A W (hu0.grew hW) (hs.grew hW)
  have KS1 := fun W (hW : Grew w W) => same_c ua1 ua A1 A W (hu1.grew hW) (hs.grew hW)
  simp only [List.length_cons, List.length_nil] at hpc ⊢
  obtain ⟨VP, cp, rfl⟩ := ints_slice hup
  obtain ⟨UA, ca, rfl⟩ := strs_slice hs
  obtain ⟨U0, c0, rfl⟩ := strs_slice hu0
  obtain ⟨U1, c1, rfl⟩ := strs_slice hu1
  have hal := (Grew.refl w).alloc (.cells #[.int .i64 10, .slice VP P.length cp, .slice UA A.length ca, .string C, .int .i64 N] 52)
  have f0 : ∀ W, Grew (w.alloc (.cells #[.int .i64 10, .slice VP P.length cp, .slice UA A.length ca, .string C, .int .i64 N] 52)) W → W.cell? ⟨w.heap.size, 0, none⟩ = some (.int .i64 10) := fun W hW => (hW.cell (p := ⟨w.heap.size, 0, none⟩) (by simp)).trans (by simp)
  have f2 : ∀ W, Grew (w.alloc (.cells #[.int .i64 10, .slice VP P.length cp, .slice UA A.length ca, .string C, .int .i64 N] 52)) W → W.cell? ⟨w.heap.size, 2, none⟩ = some (.slice UA A.length ca) := fun W hW => (hW.cell (p := ⟨w.heap.size, 2, none⟩) (by simp)).trans (by simp)
  have f3 : ∀ W, Grew (w.alloc (.cells #[.int .i64 10, .slice VP P.length cp, .slice UA A.length ca, .string C, .int .i64 N] 52)) W → W.cell? ⟨w.heap.size, 3, none⟩ = some (.string C) := fun W hW => (hW.cell (p := ⟨w.heap.size, 3, none⟩) (by simp)).trans (by simp)
  clear hup hs hv hat hp hl hk hu0 hu1
  generalize P.length = pln at *
  generalize A.length = al at *
  generalize A0.length = al0 at *
  generalize A1.length = al1 at *
  by_cases h0 : kT C0 = 4
  · have hh : True := trivial
    have KP := Lib.hid (fun W => lp_yes 4 C0 W hg0 h0 (by decide))
    by_cases h1 : A0 = A
    · have hh : True := trivial
      rw [dcd_true h1] at KS0
      by_cases h2 : A1 = A
      · have hh : True := trivial
        rw [dcd_true h2] at KS1
        by_cases h3 : C1 = pl C0
        · have hh : True := trivial
          have hb3 : (C1.toList == (pl C0).toList) = true := by rw [h3]; simp
          by_cases h4 : C = pr C0
          · have hh : True := trivial
            have hb4 : (C.toList == (pr C0).toList) = true := by rw [h4]; simp
            rw [dcd_true ⟨h0, h1, h2, h3, h4⟩]
            replace KS0 := Lib.hid KS0
            replace KS1 := Lib.hid KS1
            clear h0 h1 h2 h3 h4
            go_enter Tryz.func82, Tryz.ntmps82
            go_wp2_with fail
            refine (KP.out _).mono ?_
            rintro e w1 ⟨rfl, hg1⟩
            have g1 := hal.trans hg1
            have hm1 := hg1
            have r1 := Grew.refl w1
            have d1 := r1.drew
            have gd := g1.trans d1
            have e0 := fun W (hW : Grew w1 W) => f0 W (hg1.trans hW)
            have e2 := fun W (hW : Grew w1 W) => f2 W (hg1.trans hW)
            have e3 := fun W (hW : Grew w1 W) => f3 W (hg1.trans hW)
            have p0a := fun W (hW : Grew w1 W) => q0a W (g1.trans hW)
            have p0c := fun W (hW : Grew w1 W) => q0c W (g1.trans hW)
            have p1a := fun W (hW : Grew w1 W) => q1a W (g1.trans hW)
            have p1c := fun W (hW : Grew w1 W) => q1c W (g1.trans hW)
            clear f0 f2 f3 q0a q0c q1a q1c
            go_wp2_with fail
            have KT0 := Lib.hid (fun n => KS0.out (w1.drewN n) (g1.drewN n))
            have KT1 := Lib.hid (fun n => KS1.out (w1.drewN n) (g1.drewN n))
            go_quiet ((first | (go_at_call 100; exact Calls.quiet_of (KT0.out _)) | (go_at_call 100; exact Calls.quiet_of (KT1.out _))))
            go_wp2_with fail
            go_ret
            exact ⟨rfl, g1.drewN _⟩
          · rw [dcd_false (fun h => h4 (h.2.2.2.2))]
            have hb4 := bytes_ne h4
            replace KS0 := Lib.hid KS0
            replace KS1 := Lib.hid KS1
            clear h0 h1 h2 h3 h4
            go_enter Tryz.func82, Tryz.ntmps82
            go_wp2_with fail
            refine (KP.out _).mono ?_
            rintro e w1 ⟨rfl, hg1⟩
            have g1 := hal.trans hg1
            have hm1 := hg1
            have r1 := Grew.refl w1
            have d1 := r1.drew
            have gd := g1.trans d1
            have e0 := fun W (hW : Grew w1 W) => f0 W (hg1.trans hW)
            have e2 := fun W (hW : Grew w1 W) => f2 W (hg1.trans hW)
            have e3 := fun W (hW : Grew w1 W) => f3 W (hg1.trans hW)
            have p0a := fun W (hW : Grew w1 W) => q0a W (g1.trans hW)
            have p0c := fun W (hW : Grew w1 W) => q0c W (g1.trans hW)
            have p1a := fun W (hW : Grew w1 W) => q1a W (g1.trans hW)
            have p1c := fun W (hW : Grew w1 W) => q1c W (g1.trans hW)
            clear f0 f2 f3 q0a q0c q1a q1c
            go_wp2_with fail
            have KT0 := Lib.hid (fun n => KS0.out (w1.drewN n) (g1.drewN n))
            have KT1 := Lib.hid (fun n => KS1.out (w1.drewN n) (g1.drewN n))
            go_quiet ((first | (go_at_call 100; exact Calls.quiet_of (KT0.out _)) | (go_at_call 100; exact Calls.quiet_of (KT1.out _))))
            go_wp2_with fail
            go_ret
            exact ⟨rfl, g1.drewN _⟩
        · rw [dcd_false (fun h => h3 (h.2.2.2.1))]
          have hb3 := bytes_ne h3
          replace KS0 := Lib.hid KS0
          replace KS1 := Lib.hid KS1
          clear h0 h1 h2 h3
          go_enter Tryz.func82, Tryz.ntmps82
          go_wp2_with fail
          refine (KP.out _).mono ?_
          rintro e w1 ⟨rfl, hg1⟩
          have g1 := hal.trans hg1
          have hm1 := hg1
          have r1 := Grew.refl w1
          have d1 := r1.drew
          have gd := g1.trans d1
          have e0 := fun W (hW : Grew w1 W) => f0 W (hg1.trans hW)
          have e2 := fun W (hW : Grew w1 W) => f2 W (hg1.trans hW)
          have e3 := fun W (hW : Grew w1 W) => f3 W (hg1.trans hW)
          have p0a := fun W (hW : Grew w1 W) => q0a W (g1.trans hW)
          have p0c := fun W (hW : Grew w1 W) => q0c W (g1.trans hW)
          have p1a := fun W (hW : Grew w1 W) => q1a W (g1.trans hW)
          have p1c := fun W (hW : Grew w1 W) => q1c W (g1.trans hW)
          clear f0 f2 f3 q0a q0c q1a q1c
          go_wp2_with fail
          have KT0 := Lib.hid (fun n => KS0.out (w1.drewN n) (g1.drewN n))
          have KT1 := Lib.hid (fun n => KS1.out (w1.drewN n) (g1.drewN n))
          go_quiet ((first | (go_at_call 100; exact Calls.quiet_of (KT0.out _)) | (go_at_call 100; exact Calls.quiet_of (KT1.out _))))
          go_wp2_with fail
          go_ret
          exact ⟨rfl, g1.drewN _⟩
      · rw [dcd_false (fun h => h2 (h.2.2.1))]
        rw [dcd_false h2] at KS1
        replace KS0 := Lib.hid KS0
        replace KS1 := Lib.hid KS1
        clear h0 h1 h2
        go_enter Tryz.func82, Tryz.ntmps82
        go_wp2_with fail
        refine (KP.out _).mono ?_
        rintro e w1 ⟨rfl, hg1⟩
        have g1 := hal.trans hg1
        have hm1 := hg1
        have r1 := Grew.refl w1
        have d1 := r1.drew
        have gd := g1.trans d1
        have e0 := fun W (hW : Grew w1 W) => f0 W (hg1.trans hW)
        have e2 := fun W (hW : Grew w1 W) => f2 W (hg1.trans hW)
        have e3 := fun W (hW : Grew w1 W) => f3 W (hg1.trans hW)
        have p0a := fun W (hW : Grew w1 W) => q0a W (g1.trans hW)
        have p0c := fun W (hW : Grew w1 W) => q0c W (g1.trans hW)
        have p1a := fun W (hW : Grew w1 W) => q1a W (g1.trans hW)
        have p1c := fun W (hW : Grew w1 W) => q1c W (g1.trans hW)
        clear f0 f2 f3 q0a q0c q1a q1c
        go_wp2_with fail
        have KT0 := Lib.hid (fun n => KS0.out (w1.drewN n) (g1.drewN n))
        have KT1 := Lib.hid (fun n => KS1.out (w1.drewN n) (g1.drewN n))
        go_quiet ((first | (go_at_call 100; exact Calls.quiet_of (KT0.out _)) | (go_at_call 100; exact Calls.quiet_of (KT1.out _))))
        go_wp2_with fail
        go_ret
        exact ⟨rfl, g1.drewN _⟩
    · rw [dcd_false (fun h => h1 (h.2.1))]
      rw [dcd_false h1] at KS0
      replace KS0 := Lib.hid KS0
      replace KS1 := Lib.hid KS1
      clear h0 h1
      go_enter Tryz.func82, Tryz.ntmps82
      go_wp2_with fail
      refine (KP.out _).mono ?_
      rintro e w1 ⟨rfl, hg1⟩
      have g1 := hal.trans hg1
      have hm1 := hg1
      have r1 := Grew.refl w1
      have d1 := r1.drew
      have gd := g1.trans d1
      have e0 := fun W (hW : Grew w1 W) => f0 W (hg1.trans hW)
      have e2 := fun W (hW : Grew w1 W) => f2 W (hg1.trans hW)
      have e3 := fun W (hW : Grew w1 W) => f3 W (hg1.trans hW)
      have p0a := fun W (hW : Grew w1 W) => q0a W (g1.trans hW)
      have p0c := fun W (hW : Grew w1 W) => q0c W (g1.trans hW)
      have p1a := fun W (hW : Grew w1 W) => q1a W (g1.trans hW)
      have p1c := fun W (hW : Grew w1 W) => q1c W (g1.trans hW)
      clear f0 f2 f3 q0a q0c q1a q1c
      go_wp2_with fail
      have KT0 := Lib.hid (fun n => KS0.out (w1.drewN n) (g1.drewN n))
      go_quiet ((first | (go_at_call 100; exact Calls.quiet_of (KT0.out _))))
      go_wp2_with fail
      go_ret
      exact ⟨rfl, g1.drewN _⟩
  · rw [dcd_false (fun h => h0 (h.1))]
    have KP := Lib.hid (fun W => lp_no 4 C0 W hg0 h0)
    replace KS0 := Lib.hid KS0
    replace KS1 := Lib.hid KS1
    clear h0
    go_enter Tryz.func82, Tryz.ntmps82
    go_wp2_with fail
    refine (KP.out _).mono ?_
    rintro e w1 ⟨rfl, hg1⟩
    have g1 := hal.trans hg1
    have hm1 := hg1
    have r1 := Grew.refl w1
    have d1 := r1.drew
    have gd := g1.trans d1
    have e0 := fun W (hW : Grew w1 W) => f0 W (hg1.trans hW)
    have e2 := fun W (hW : Grew w1 W) => f2 W (hg1.trans hW)
    have e3 := fun W (hW : Grew w1 W) => f3 W (hg1.trans hW)
    have p0a := fun W (hW : Grew w1 W) => q0a W (g1.trans hW)
    have p0c := fun W (hW : Grew w1 W) => q0c W (g1.trans hW)
    have p1a := fun W (hW : Grew w1 W) => q1a W (g1.trans hW)
    have p1c := fun W (hW : Grew w1 W) => q1c W (g1.trans hW)
    clear f0 f2 f3 q0a q0c q1a q1c
    go_wp2_with fail
    go_quiet (fail)
    go_wp2_with fail
    go_ret
    exact ⟨rfl, g1.drewN _⟩
end Go.Proofs.YtfpkfgimhanekaaGreatDoor

/- l25Rule of the reference at some rules. -/
namespace Go.Proofs.YtfpkfgimhanekaaGreatDoor
open Go.RowKit

set_option maxHeartbeats 8000000 in
set_option maxRecDepth 8192 in
theorem rule_6 (P : List Int) (A : List ByteArray) (C : ByteArray) (N : Int) : RuleC (6, P, A, C, N) 1 := by
  intro up ua vp p w hup hs hv hC hp hl hk
  simp only at hup hs hC hl hk ⊢
  obtain ⟨y0, rfl⟩ := lenL1 hk
  obtain ⟨r0, P0, A0, C0, N0⟩ := y0
  obtain ⟨pb, po, pc, rfl, hpc, hpm, hat⟩ := dds_at hv (by simp)
  have hiff : (introP (6, P, A, C, N) ([(r0, P0, A0, C0, N0)].map jd) ∨ elimP (6, P, A, C, N) ([(r0, P0, A0, C0, N0)].map jd)) ↔ (kT C = 3 ∧ A0 = A ∧ C0 = pl C) := by
    simp [introP, elimP, jd]
    try grind
  rw [dcd_congr hiff]
  clear hiff
  obtain ⟨ua0, q0a, q0c, hu0⟩ := hat 0 _ rfl
  have hg0 : gp C0 = true := hp (r0, P0, A0, C0, N0) (by simp)
  simp only [Nat.zero_mul, Nat.add_zero] at q0a q0c hu0
  have KS0 := fun W (hW : Grew w W) => same_c ua0 ua A0 A W (hu0.grew hW) (hs.grew hW)
  simp only [List.length_cons, List.length_nil] at hpc ⊢
  obtain ⟨VP, cp, rfl⟩ := ints_slice hup
  obtain ⟨UA, ca, rfl⟩ := strs_slice hs
  obtain ⟨U0, c0, rfl⟩ := strs_slice hu0
  have hal := (Grew.refl w).alloc (.cells #[.int .i64 6, .slice VP P.length cp, .slice UA A.length ca, .string C, .int .i64 N] 52)
  have f0 : ∀ W, Grew (w.alloc (.cells #[.int .i64 6, .slice VP P.length cp, .slice UA A.length ca, .string C, .int .i64 N] 52)) W → W.cell? ⟨w.heap.size, 0, none⟩ = some (.int .i64 6) := fun W hW => (hW.cell (p := ⟨w.heap.size, 0, none⟩) (by simp)).trans (by simp)
  have f2 : ∀ W, Grew (w.alloc (.cells #[.int .i64 6, .slice VP P.length cp, .slice UA A.length ca, .string C, .int .i64 N] 52)) W → W.cell? ⟨w.heap.size, 2, none⟩ = some (.slice UA A.length ca) := fun W hW => (hW.cell (p := ⟨w.heap.size, 2, none⟩) (by simp)).trans (by simp)
  have f3 : ∀ W, Grew (w.alloc (.cells #[.int .i64 6, .slice VP P.length cp, .slice UA A.length ca, .string C, .int .i64 N] 52)) W → W.cell? ⟨w.heap.size, 3, none⟩ = some (.string C) := fun W hW => (hW.cell (p := ⟨w.heap.size, 3, none⟩) (by simp)).trans (by simp)
  clear hup hs hv hat hp hl hk hu0
  generalize P.length = pln at *
  generalize A.length = al at *
  generalize A0.length = al0 at *
  by_cases h0 : kT C = 3
  · have hh : True := trivial
    have KP := Lib.hid (fun W => lp_yes 3 C W hC h0 (by decide))
    by_cases h1 : A0 = A
    · have hh : True := trivial
      rw [dcd_true h1] at KS0
      by_cases h2 : C0 = pl C
      · have hh : True := trivial
        have hb2 : (C0.toList == (pl C).toList) = true := by rw [h2]; simp
        rw [dcd_true ⟨h0, h1, h2⟩]
        replace KS0 := Lib.hid KS0
        clear h0 h1 h2
        go_enter Tryz.func82, Tryz.ntmps82
        go_wp2_with fail
        refine (KP.out _).mono ?_
        rintro e w1 ⟨rfl, hg1⟩
        have g1 := hal.trans hg1
        have hm1 := hg1
        have r1 := Grew.refl w1
        have d1 := r1.drew
        have gd := g1.trans d1
        have e0 := fun W (hW : Grew w1 W) => f0 W (hg1.trans hW)
        have e2 := fun W (hW : Grew w1 W) => f2 W (hg1.trans hW)
        have e3 := fun W (hW : Grew w1 W) => f3 W (hg1.trans hW)
        have p0a := fun W (hW : Grew w1 W) => q0a W (g1.trans hW)
        have p0c := fun W (hW : Grew w1 W) => q0c W (g1.trans hW)
        clear f0 f2 f3 q0a q0c
        go_wp2_with fail
        have KT0 := Lib.hid (fun n => KS0.out (w1.drewN n) (g1.drewN n))
        go_quiet ((first | (go_at_call 100; exact Calls.quiet_of (KT0.out _))))
        go_wp2_with fail
        go_ret
        exact ⟨rfl, g1.drewN _⟩
      · rw [dcd_false (fun h => h2 (h.2.2))]
        have hb2 := bytes_ne h2
        replace KS0 := Lib.hid KS0
        clear h0 h1 h2
        go_enter Tryz.func82, Tryz.ntmps82
        go_wp2_with fail
        refine (KP.out _).mono ?_
        rintro e w1 ⟨rfl, hg1⟩
        have g1 := hal.trans hg1
        have hm1 := hg1
        have r1 := Grew.refl w1
        have d1 := r1.drew
        have gd := g1.trans d1
        have e0 := fun W (hW : Grew w1 W) => f0 W (hg1.trans hW)
        have e2 := fun W (hW : Grew w1 W) => f2 W (hg1.trans hW)
        have e3 := fun W (hW : Grew w1 W) => f3 W (hg1.trans hW)
        have p0a := fun W (hW : Grew w1 W) => q0a W (g1.trans hW)
        have p0c := fun W (hW : Grew w1 W) => q0c W (g1.trans hW)
        clear f0 f2 f3 q0a q0c
        go_wp2_with fail
        have KT0 := Lib.hid (fun n => KS0.out (w1.drewN n) (g1.drewN n))
        go_quiet ((first | (go_at_call 100; exact Calls.quiet_of (KT0.out _))))
        go_wp2_with fail
        go_ret
        exact ⟨rfl, g1.drewN _⟩
    · rw [dcd_false (fun h => h1 (h.2.1))]
      rw [dcd_false h1] at KS0
      replace KS0 := Lib.hid KS0
      clear h0 h1
      go_enter Tryz.func82, Tryz.ntmps82
      go_wp2_with fail
      refine (KP.out _).mono ?_
      rintro e w1 ⟨rfl, hg1⟩
      have g1 := hal.trans hg1
      have hm1 := hg1
      have r1 := Grew.refl w1
      have d1 := r1.drew
      have gd := g1.trans d1
      have e0 := fun W (hW : Grew w1 W) => f0 W (hg1.trans hW)
      have e2 := fun W (hW : Grew w1 W) => f2 W (hg1.trans hW)
      have e3 := fun W (hW : Grew w1 W) => f3 W (hg1.trans hW)
      have p0a := fun W (hW : Grew w1 W) => q0a W (g1.trans hW)
      have p0c := fun W (hW : Grew w1 W) => q0c W (g1.trans hW)
      clear f0 f2 f3 q0a q0c
      go_wp2_with fail
      have KT0 := Lib.hid (fun n => KS0.out (w1.drewN n) (g1.drewN n))
      go_quiet ((first | (go_at_call 100; exact Calls.quiet_of (KT0.out _))))
      go_wp2_with fail
      go_ret
      exact ⟨rfl, g1.drewN _⟩
  · rw [dcd_false (fun h => h0 (h.1))]
    have KP := Lib.hid (fun W => lp_no 3 C W hC h0)
    replace KS0 := Lib.hid KS0
    clear h0
    go_enter Tryz.func82, Tryz.ntmps82
    go_wp2_with fail
    refine (KP.out _).mono ?_
    rintro e w1 ⟨rfl, hg1⟩
    have g1 := hal.trans hg1
    have hm1 := hg1
    have r1 := Grew.refl w1
    have d1 := r1.drew
    have gd := g1.trans d1
    have e0 := fun W (hW : Grew w1 W) => f0 W (hg1.trans hW)
    have e2 := fun W (hW : Grew w1 W) => f2 W (hg1.trans hW)
    have e3 := fun W (hW : Grew w1 W) => f3 W (hg1.trans hW)
    have p0a := fun W (hW : Grew w1 W) => q0a W (g1.trans hW)
    have p0c := fun W (hW : Grew w1 W) => q0c W (g1.trans hW)
    clear f0 f2 f3 q0a q0c
    go_wp2_with fail
    go_quiet (fail)
    go_wp2_with fail
    go_ret
    exact ⟨rfl, g1.drewN _⟩

set_option maxHeartbeats 8000000 in
set_option maxRecDepth 8192 in
theorem rule_7 (P : List Int) (A : List ByteArray) (C : ByteArray) (N : Int) : RuleC (7, P, A, C, N) 1 := by
  intro up ua vp p w hup hs hv hC hp hl hk
  simp only at hup hs hC hl hk ⊢
  obtain ⟨y0, rfl⟩ := lenL1 hk
  obtain ⟨r0, P0, A0, C0, N0⟩ := y0
  obtain ⟨pb, po, pc, rfl, hpc, hpm, hat⟩ := dds_at hv (by simp)
  have hiff : (introP (7, P, A, C, N) ([(r0, P0, A0, C0, N0)].map jd) ∨ elimP (7, P, A, C, N) ([(r0, P0, A0, C0, N0)].map jd)) ↔ (kT C = 3 ∧ A0 = A ∧ C0 = pr C) := by
    simp [introP, elimP, jd]
    try grind
  rw [dcd_congr hiff]
  clear hiff
  obtain ⟨ua0, q0a, q0c, hu0⟩ := hat 0 _ rfl
  have hg0 : gp C0 = true := hp (r0, P0, A0, C0, N0) (by simp)
  simp only [Nat.zero_mul, Nat.add_zero] at q0a q0c hu0
  have KS0 := fun W (hW : Grew w W) => same_c ua0 ua A0 A W (hu0.grew hW) (hs.grew hW)
  simp only [List.length_cons, List.length_nil] at hpc ⊢
  obtain ⟨VP, cp, rfl⟩ := ints_slice hup
  obtain ⟨UA, ca, rfl⟩ := strs_slice hs
  obtain ⟨U0, c0, rfl⟩ := strs_slice hu0
  have hal := (Grew.refl w).alloc (.cells #[.int .i64 7, .slice VP P.length cp, .slice UA A.length ca, .string C, .int .i64 N] 52)
  have f0 : ∀ W, Grew (w.alloc (.cells #[.int .i64 7, .slice VP P.length cp, .slice UA A.length ca, .string C, .int .i64 N] 52)) W → W.cell? ⟨w.heap.size, 0, none⟩ = some (.int .i64 7) := fun W hW => (hW.cell (p := ⟨w.heap.size, 0, none⟩) (by simp)).trans (by simp)
  have f2 : ∀ W, Grew (w.alloc (.cells #[.int .i64 7, .slice VP P.length cp, .slice UA A.length ca, .string C, .int .i64 N] 52)) W → W.cell? ⟨w.heap.size, 2, none⟩ = some (.slice UA A.length ca) := fun W hW => (hW.cell (p := ⟨w.heap.size, 2, none⟩) (by simp)).trans (by simp)
  have f3 : ∀ W, Grew (w.alloc (.cells #[.int .i64 7, .slice VP P.length cp, .slice UA A.length ca, .string C, .int .i64 N] 52)) W → W.cell? ⟨w.heap.size, 3, none⟩ = some (.string C) := fun W hW => (hW.cell (p := ⟨w.heap.size, 3, none⟩) (by simp)).trans (by simp)
  clear hup hs hv hat hp hl hk hu0
  generalize P.length = pln at *
  generalize A.length = al at *
  generalize A0.length = al0 at *
  by_cases h0 : kT C = 3
  · have hh : True := trivial
    have KP := Lib.hid (fun W => lp_yes 3 C W hC h0 (by decide))
    by_cases h1 : A0 = A
    · have hh : True := trivial
      rw [dcd_true h1] at KS0
      by_cases h2 : C0 = pr C
      · have hh : True := trivial
        have hb2 : (C0.toList == (pr C).toList) = true := by rw [h2]; simp
        rw [dcd_true ⟨h0, h1, h2⟩]
        replace KS0 := Lib.hid KS0
        clear h0 h1 h2
        go_enter Tryz.func82, Tryz.ntmps82
        go_wp2_with fail
        refine (KP.out _).mono ?_
        rintro e w1 ⟨rfl, hg1⟩
        have g1 := hal.trans hg1
        have hm1 := hg1
        have r1 := Grew.refl w1
        have d1 := r1.drew
        have gd := g1.trans d1
        have e0 := fun W (hW : Grew w1 W) => f0 W (hg1.trans hW)
        have e2 := fun W (hW : Grew w1 W) => f2 W (hg1.trans hW)
        have e3 := fun W (hW : Grew w1 W) => f3 W (hg1.trans hW)
        have p0a := fun W (hW : Grew w1 W) => q0a W (g1.trans hW)
        have p0c := fun W (hW : Grew w1 W) => q0c W (g1.trans hW)
        clear f0 f2 f3 q0a q0c
        go_wp2_with fail
        have KT0 := Lib.hid (fun n => KS0.out (w1.drewN n) (g1.drewN n))
        go_quiet ((first | (go_at_call 100; exact Calls.quiet_of (KT0.out _))))
        go_wp2_with fail
        go_ret
        exact ⟨rfl, g1.drewN _⟩
      · rw [dcd_false (fun h => h2 (h.2.2))]
        have hb2 := bytes_ne h2
        replace KS0 := Lib.hid KS0
        clear h0 h1 h2
        go_enter Tryz.func82, Tryz.ntmps82
        go_wp2_with fail
        refine (KP.out _).mono ?_
        rintro e w1 ⟨rfl, hg1⟩
        have g1 := hal.trans hg1
        have hm1 := hg1
        have r1 := Grew.refl w1
        have d1 := r1.drew
        have gd := g1.trans d1
        have e0 := fun W (hW : Grew w1 W) => f0 W (hg1.trans hW)
        have e2 := fun W (hW : Grew w1 W) => f2 W (hg1.trans hW)
        have e3 := fun W (hW : Grew w1 W) => f3 W (hg1.trans hW)
        have p0a := fun W (hW : Grew w1 W) => q0a W (g1.trans hW)
        have p0c := fun W (hW : Grew w1 W) => q0c W (g1.trans hW)
        clear f0 f2 f3 q0a q0c
        go_wp2_with fail
        have KT0 := Lib.hid (fun n => KS0.out (w1.drewN n) (g1.drewN n))
        go_quiet ((first | (go_at_call 100; exact Calls.quiet_of (KT0.out _))))
        go_wp2_with fail
        go_ret
        exact ⟨rfl, g1.drewN _⟩
    · rw [dcd_false (fun h => h1 (h.2.1))]
      rw [dcd_false h1] at KS0
      replace KS0 := Lib.hid KS0
      clear h0 h1
      go_enter Tryz.func82, Tryz.ntmps82
      go_wp2_with fail
      refine (KP.out _).mono ?_
      rintro e w1 ⟨rfl, hg1⟩
      have g1 := hal.trans hg1
      have hm1 := hg1
      have r1 := Grew.refl w1
      have d1 := r1.drew
      have gd := g1.trans d1
      have e0 := fun W (hW : Grew w1 W) => f0 W (hg1.trans hW)
      have e2 := fun W (hW : Grew w1 W) => f2 W (hg1.trans hW)
      have e3 := fun W (hW : Grew w1 W) => f3 W (hg1.trans hW)
      have p0a := fun W (hW : Grew w1 W) => q0a W (g1.trans hW)
      have p0c := fun W (hW : Grew w1 W) => q0c W (g1.trans hW)
      clear f0 f2 f3 q0a q0c
      go_wp2_with fail
      have KT0 := Lib.hid (fun n => KS0.out (w1.drewN n) (g1.drewN n))
      go_quiet ((first | (go_at_call 100; exact Calls.quiet_of (KT0.out _))))
      go_wp2_with fail
      go_ret
      exact ⟨rfl, g1.drewN _⟩
  · rw [dcd_false (fun h => h0 (h.1))]
    have KP := Lib.hid (fun W => lp_no 3 C W hC h0)
    replace KS0 := Lib.hid KS0
    clear h0
    go_enter Tryz.func82, Tryz.ntmps82
    go_wp2_with fail
    refine (KP.out _).mono ?_
    rintro e w1 ⟨rfl, hg1⟩
    have g1 := hal.trans hg1
    have hm1 := hg1
    have r1 := Grew.refl w1
    have d1 := r1.drew
    have gd := g1.trans d1
    have e0 := fun W (hW : Grew w1 W) => f0 W (hg1.trans hW)
    have e2 := fun W (hW : Grew w1 W) => f2 W (hg1.trans hW)
    have e3 := fun W (hW : Grew w1 W) => f3 W (hg1.trans hW)
    have p0a := fun W (hW : Grew w1 W) => q0a W (g1.trans hW)
    have p0c := fun W (hW : Grew w1 W) => q0c W (g1.trans hW)
    clear f0 f2 f3 q0a q0c
    go_wp2_with fail
    go_quiet (fail)
    go_wp2_with fail
    go_ret
    exact ⟨rfl, g1.drewN _⟩
end Go.Proofs.YtfpkfgimhanekaaGreatDoor

/- Judgements in memory: rows of them, comparing them. -/
namespace Go.Proofs.YtfpkfgimhanekaaGreatDoor
open Go.RowKit

/-- The value reads as the list of judgements. -/
def Jgs (w : World) (v : Value) (Js : List Jg) : Prop :=
  (v = .slice none 0 0 ∧ Js = []) ∨ ∃ b o c, v = .slice (some ⟨b, o, none⟩) Js.length c ∧ Js.length ≤ c ∧ c ≤ 9223372036854775807 ∧ b < w.heap.size ∧
    ∀ i x, Js[i]? = some x → ∃ u, w.cell? ⟨b, o + i * 2, none⟩ = some u ∧ w.cell? ⟨b, o + i * 2 + 1, none⟩ = some (.string x.2) ∧ Strs w u x.1
theorem Jgs.grew {w w' : World} {v : Value} {Js : List Jg} (h : Jgs w v Js) (hg : Grew w w') : Jgs w' v Js := by
  rcases h with h | ⟨b, o, c, h1, h2, h3, h4, h5⟩
  · exact .inl h
  · refine .inr ⟨b, o, c, h1, h2, h3, Nat.lt_of_lt_of_le h4 hg.size, fun i x hx => ?_⟩
    obtain ⟨u, k1, k2, k3⟩ := h5 i x hx
    exact ⟨u, (hg.cell (p := ⟨b, o + i * 2, none⟩) h4).trans k1, (hg.cell (p := ⟨b, o + i * 2 + 1, none⟩) h4).trans k2, k3.grew hg⟩
theorem Jgs.nil_ (w : World) : Jgs w (.slice none 0 0) [] := .inl ⟨rfl, rfl⟩
theorem jgs_slice {w : World} {v : Value} {Js : List Jg} (h : Jgs w v Js) : ∃ A c, v = .slice A Js.length c := by
  rcases h with ⟨rfl, rfl⟩ | ⟨b, o, c, rfl, _⟩
  · exact ⟨_, _, rfl⟩
  · exact ⟨_, _, rfl⟩
theorem Jgs.open_ {w : World} {v : Value} {Js : List Jg} (h : Jgs w v Js) : (v = .slice none 0 0 ∧ Js = []) ∨ ∃ b o c, v = .slice (some ⟨b, o, none⟩) Js.length c ∧ Js.length ≤ c ∧ c ≤ 9223372036854775807 ∧ b < w.heap.size ∧
    ∀ i x, Js[i]? = some x → ∃ u, (∀ W, Grew w W → W.cell? ⟨b, o + i * 2, none⟩ = some u ∧ W.cell? ⟨b, o + i * 2 + 1, none⟩ = some (.string x.2)) ∧ Strs w u x.1 := by
  rcases h with h | ⟨b, o, c, h1, h2, h3, h4, h5⟩
  · exact .inl h
  · refine .inr ⟨b, o, c, h1, h2, h3, h4, fun i x hx => ?_⟩
    obtain ⟨u, k1, k2, k3⟩ := h5 i x hx
    exact ⟨u, fun W hW => ⟨(hW.cell (p := ⟨b, o + i * 2, none⟩) h4).trans k1, (hW.cell (p := ⟨b, o + i * 2 + 1, none⟩) h4).trans k2⟩, k3⟩

/-- A row of judgements of the call's own; the lists of assumptions lie wherever. -/
def jcells (ps : List (Value × Jg)) : List Value := ps.flatMap fun p => [p.1, .string p.2.2]
theorem jcells_append (ps qs : List (Value × Jg)) : jcells (ps ++ qs) = jcells ps ++ jcells qs := by simp [jcells]
theorem jcells_length (ps : List (Value × Jg)) : (jcells ps).length = ps.length * 2 := by
  induction ps with
  | nil => rfl
  | cons p ps ih => show ([p.1, .string p.2.2] ++ jcells ps).length = _; simp [ih]; omega
theorem jcells_at (ps : List (Value × Jg)) : ∀ i p, ps[i]? = some p → (jcells ps)[i * 2]? = some p.1 ∧ (jcells ps)[i * 2 + 1]? = some (.string p.2.2) := by
  induction ps with
  | nil => intro i p hi; simp at hi
  | cons x ps ih =>
    intro i p hi
    match i with
    | 0 => simp at hi; subst hi; exact ⟨rfl, rfl⟩
    | i + 1 =>
      have h := ih i p (by simpa using hi)
      have e1 : (i + 1) * 2 = i * 2 + 1 + 1 := by omega
      rw [e1]
      show ([x.1, .string x.2.2] ++ jcells ps)[i * 2 + 1 + 1]? = _ ∧ ([x.1, .string x.2.2] ++ jcells ps)[i * 2 + 1 + 1 + 1]? = _
      simpa using h
def OwnJ (w0 w : World) (B : Nat) (v : Value) (Js : List Jg) : Prop := ∃ ps : List (Value × Jg), ps.map (·.2) = Js ∧ w.ownsRow B 105 2 v Js.length (jcells ps) ∧ ∀ p ∈ ps, Strs w0 p.1 p.2.1
theorem OwnJ.nil_ (w0 w : World) (B : Nat) : OwnJ w0 w B (.slice none 0 0) [] := ⟨[], rfl, World.ownsRow_nil w B _ 2, fun p hp => by cases hp⟩
theorem OwnJ.grew {w0 w w' : World} {B : Nat} {v : Value} {Js : List Jg} (h : OwnJ w0 w B v Js) (hg : Grew w w') : OwnJ w0 w' B v Js := by
  obtain ⟨ps, h1, h2, h3⟩ := h
  exact ⟨ps, h1, own_grew h2 hg, h3⟩
theorem OwnJ.jgs {w0 w : World} {B : Nat} {v : Value} {Js : List Jg} (h : OwnJ w0 w B v Js) (hg : Grew w0 w) : Jgs w v Js := by
  obtain ⟨ps, rfl, h2, h3⟩ := h
  obtain ⟨_, _, h4⟩ := Rd.of_own h2
  rcases h4 with ⟨h5, h6⟩ | ⟨b, o, c, h5, h6, h7, h8, h9⟩
  · exact .inl ⟨h5, List.eq_nil_of_length_eq_zero h6⟩
  · refine .inr ⟨b, o, c, h5, h6, h7, h8, fun i x hx => ?_⟩
    rw [List.getElem?_map] at hx
    cases hp : ps[i]? with
    | none => rw [hp] at hx; cases hx
    | some p =>
      rw [hp] at hx
      simp at hx
      obtain ⟨e1, e2⟩ := jcells_at ps i p hp
      refine ⟨p.1, h9 _ _ e1, ?_, ?_⟩
      · rw [← hx]; exact h9 _ _ e2
      · rw [← hx]; exact (h3 p (List.mem_of_getElem? hp)).grew hg
theorem infoJ : (Tryz.prog.info? 105).map (fun i => (i.zero, i.size, i.bytes)) = some (some (.agg #[.slice none 0 0, .string ByteArray.empty]), 2, 40) := by kernel_rfl
theorem rd_litJ (w : World) (u : Value) (s : ByteArray) (t : TypeId) : Rd (w.alloc (.cells #[u, .string s] t)) 2 (.slice (some ⟨w.heap.size, 0, none⟩) 1 1) 1 [u, .string s] := by
  refine ⟨rfl, by omega, .inr ⟨w.heap.size, 0, 1, rfl, by omega, by omega, by simp, fun j x hx => ?_⟩⟩
  have hj : j = 0 ∨ j = 1 := by
    have := (List.getElem?_eq_some_iff.1 hx).1
    simp at this
    omega
  rcases hj with rfl | rfl
  · simp at hx; subst hx; simp
  · simp at hx; subst hx; simp
/-- 'out = append(out, j)', out a row of judgements of the call's own. -/
theorem wpList_appJ {ops : Array Oper} {rest : List Oper} {o : Oper} {a : Act} {Q : Exit → Act → World → Prop} {w w0 : World} (s x : Operand) (hgd : o.guard = none)
    (ho : o.op = .call { callee := .builtin .append, args := #[s, x], argTypes := #[103, 103] })
    (v : Value) (Js : List Jg) (hs : a.eval s = v) (hown : OwnJ w0 w w0.heap.size v Js) (hg : Grew w0 w) (vx u : Value) (j : Jg) (hx : a.eval x = vx) (hr : Rd w 2 vx 1 [u, .string j.2]) (hu : Strs w0 u j.1) (hn : Js.length ≤ 1048576)
    (h : ∀ v' w', OwnJ w0 w' w0.heap.size v' (Js ++ [j]) → Grew w0 w' → w.grownBy w' v.ownBlock → wpList Tryz.prog ops Q rest (a.put o.dst v') w') : wpList Tryz.prog ops Q (o :: rest) a w := by
  obtain ⟨i0, hi0, hz0, hz1, hz2⟩ := info_parts infoJ
  obtain ⟨ps, h1, h2, h3⟩ := hown
  have hu1 : u.oneCell' = true := by
    obtain ⟨A, c, rfl⟩ := strs_slice hu
    rfl
  refine wpList_append_rd w hgd s x _ ho w0.heap.size 105 i0 _ 2 40 Tryz.underlying103 hi0 hz0 hz1 hz2 rfl (by omega) v Js.length (jcells ps) hs h2 vx 1 [u, .string j.2] hx hr (by intro y hy; simp at hy; rcases hy with rfl | rfl; exact hu1; rfl) (by unfold maxLen; omega) (by omega) hg.size ?_
  intro v' w' k1 k2 k3
  refine h v' w' ⟨ps ++ [(u, j)], by rw [List.map_append, h1]; rfl, ?_, fun p hp => ?_⟩ (hg.grown k2 fun k hk => (h2.lt k hk).1) k2
  · rw [List.length_append, jcells_append]
    exact k1
  · rw [List.mem_append] at hp
    rcases hp with hp | hp
    · exact h3 p hp
    · simp at hp; subst hp; exact hu

/-- A literal of one judgement, of two. -/
theorem jgs_lit1 (w : World) (u : Value) (L : List ByteArray) (s : ByteArray) (t : TypeId) (h : Strs w u L) : Jgs (w.alloc (.cells #[u, .string s] t)) (.slice (some ⟨w.heap.size, 0, none⟩) 1 1) [(L, s)] := by
  refine .inr ⟨w.heap.size, 0, 1, rfl, by simp, by omega, by simp, fun i x hx => ?_⟩
  have hi : i = 0 := by
    have := (List.getElem?_eq_some_iff.1 hx).1
    simp at this
    omega
  subst hi
  simp at hx
  subst hx
  exact ⟨u, by simp, by simp, h.grew ((Grew.refl w).alloc _)⟩
theorem jgs_lit2 (w : World) (u u2 : Value) (L L2 : List ByteArray) (s s2 : ByteArray) (t : TypeId) (h : Strs w u L) (h2 : Strs w u2 L2) : Jgs (w.alloc (.cells #[u, .string s, u2, .string s2] t)) (.slice (some ⟨w.heap.size, 0, none⟩) 2 2) [(L, s), (L2, s2)] := by
  refine .inr ⟨w.heap.size, 0, 2, rfl, by simp, by omega, by simp, fun i x hx => ?_⟩
  have hi : i = 0 ∨ i = 1 := by
    have := (List.getElem?_eq_some_iff.1 hx).1
    simp at this
    omega
  rcases hi with rfl | rfl
  · simp at hx
    subst hx
    exact ⟨u, by simp, by simp, h.grew ((Grew.refl w).alloc _)⟩
  · simp at hx
    subst hx
    exact ⟨u2, by simp, by simp, h2.grew ((Grew.refl w).alloc _)⟩

theorem sameJudgement_c (u v : Value) (j k : Jg) (w : World) (hu : Strs w u j.1) (hv : Strs w v k.1) :
    Calls Tryz.prog 109 #[.agg #[u, .string j.2], .agg #[v, .string k.2]] w fun e w' => e = .returned (.bool (dcd (j = k))) ∧ Grew w w' := by
  have KE := fun W (hW : Grew w W) => equalS_c u v j.1 k.1 W (hu.grew hW) (hv.grew hW)
  have hiff : (j = k) ↔ j.2 = k.2 ∧ j.1 = k.1 := ⟨fun h => ⟨by rw [h], by rw [h]⟩, fun h => Prod.ext h.2 h.1⟩
  rw [dcd_congr hiff]
  obtain ⟨A, c, rfl⟩ := strs_slice hu
  obtain ⟨B, d, rfl⟩ := strs_slice hv
  clear hu hv hiff
  have hal := ((Grew.refl w).alloc (.cells #[.slice A j.1.length c, .string j.2] 105)).alloc (.cells #[.slice B k.1.length d, .string k.2] 105)
  by_cases h2 : j.2 = k.2
  · have he : (j.2 = k.2 ∧ j.1 = k.1) ↔ j.1 = k.1 := ⟨fun h => h.2, fun h => ⟨h2, h⟩⟩
    rw [dcd_congr he]
    change ∀ W, Grew w W → Calls _ _ _ _ (fun e w' => e = .returned (.bool (dcd (j.1 = k.1))) ∧ Grew W w') at KE
    replace KE := Lib.hid KE
    rw [h2] at hal ⊢
    have hx : (k.2.toList == k.2.toList) = true := by simp
    clear h2 he
    generalize dcd (j.1 = k.1) = R at *
    generalize j.1.length = n at *
    generalize k.1.length = m at *
    generalize k.2 = s at *
    go_enter Tryz.func109, Tryz.ntmps109
    go_wp2_with fail
    refine (KE.out _ hal).mono ?_
    rintro e w1 ⟨rfl, hg1⟩
    go_wp2_with fail
    go_ret
    exact ⟨rfl, hal.trans hg1⟩
  · rw [dcd_false (fun h => h2 h.1)]
    have hb := bytes_ne h2
    clear KE h2
    generalize j.1.length = n at *
    generalize k.1.length = m at *
    generalize j.2 = s at *
    generalize k.2 = z at *
    go_enter Tryz.func109, Tryz.ntmps109
    go_wp2_with fail
    go_ret
    exact ⟨rfl, hal⟩

/-- The first k judgements are the same. -/
def AgreeJ (xs ys : List Jg) (k : Nat) : Prop := ∀ i, i < k → xs[i]? = ys[i]?
theorem AgreeJ.zero (xs ys : List Jg) : AgreeJ xs ys 0 := fun i hi => absurd hi (by omega)
theorem AgreeJ.succ {xs ys : List Jg} {k : Nat} (h : AgreeJ xs ys k) (h1 : xs[k]? = ys[k]?) : AgreeJ xs ys (k + 1) := by
  intro i hi
  rcases Nat.lt_or_ge i k with hk | hk
  · exact h i hk
  · obtain rfl : i = k := by omega
    exact h1
theorem agreeJ_all {xs ys : List Jg} (hl : xs.length = ys.length) (h : AgreeJ xs ys xs.length) : xs = ys := by
  apply List.ext_getElem?
  intro i
  rcases Nat.lt_or_ge i xs.length with hk | hk
  · exact h i hk
  · rw [List.getElem?_eq_none hk, List.getElem?_eq_none (by omega)]

theorem equalFuncJ_c (v1 v2 : Value) (xs ys : List Jg) (w : World) (h1 : Jgs w v1 xs) (h2 : Jgs w v2 ys) (eg : ∀ args w, (callFunc 109 args).run Tryz.prog w = .ok (.enter 109 args) w) :
    Calls Tryz.prog 108 #[v1, v2, .func (.func 109) #[] #[]] w fun e w' => e = .returned (.bool (dcd (xs = ys))) ∧ Grew w w' := by
  by_cases hl : xs.length = ys.length
  · rcases h1.open_ with ⟨rfl, rfl⟩ | ⟨b1, o1, c1, rfl, hc1, hm1, hb1, hf⟩
    · obtain rfl : ys = [] := List.eq_nil_of_length_eq_zero (by simpa using hl.symm)
      obtain ⟨A, c, rfl⟩ := jgs_slice h2
      simp only [List.length_nil]
      rw [dcd_true trivial]
      clear hl h1 h2
      go_enter Tryz.func108, Tryz.ntmps108
      go_wp2_with fail
      refine wp_loop_rounds 1 ?_; rw [rounds_succ]
      go_wp2_with fail
      go_ret
      exact ⟨rfl, Grew.refl _⟩
    · rcases h2.open_ with ⟨rfl, rfl⟩ | ⟨b2, o2, c2, rfl, hc2, hm2, hb2, hh⟩
      · obtain rfl : xs = [] := List.eq_nil_of_length_eq_zero (by simpa using hl)
        simp only [List.length_nil]
        rw [dcd_true trivial]
        clear hl hf h1 h2
        go_enter Tryz.func108, Tryz.ntmps108
        go_wp2_with fail
        refine wp_loop_rounds 1 ?_; rw [rounds_succ]
        go_wp2_with fail
        go_ret
        exact ⟨rfl, Grew.refl _⟩
      · clear h1 h2
        have HE := Lib.hid (fun h => agreeJ_all hl h)
        have HJ1 := Lib.hid (fun j (hj : j < xs.length) => (⟨xs[j], List.getElem?_eq_getElem hj⟩ : ∃ x, xs[j]? = some x))
        have HJ2 := Lib.hid (fun j (hj : j < ys.length) => (⟨ys[j], List.getElem?_eq_getElem hj⟩ : ∃ x, ys[j]? = some x))
        rw [← hl] at hc2 HJ2 ⊢
        have HF := Lib.hid hf
        have HH := Lib.hid hh
        have HX := Lib.hid (fun (h : xs = ys) (i : Nat) => (by rw [h] : xs[i]? = ys[i]?))
        obtain ⟨D, hD⟩ : ∃ D, D = dcd (xs = ys) := ⟨_, rfl⟩
        rw [← hD]
        have HD := Lib.hid hD
        clear hl hf hh hD
        generalize hN : xs.length = n at *
        clear hN
        go_enter Tryz.func108, Tryz.ntmps108
        go_wp2_with fail
        go_loopw [7, 8, 9, 17] (fun _ _ _ i wr => ∃ j : Nat, j ≤ n ∧ i = .int .i64 j ∧ Grew w wr ∧ Hid (AgreeJ xs ys j)) (fun _ _ _ i _ => n - (intOf i).toNat)
        case atStart => exact ⟨0, Nat.zero_le _, rfl, Grew.refl _, AgreeJ.zero _ _⟩
        case round =>
          obtain ⟨j, hj, rfl, hB, HA⟩ := hrel
          by_cases hlt : j < n
          · obtain ⟨x, hx⟩ := HJ1.out j hlt
            obtain ⟨y, hy⟩ := HJ2.out j hlt
            obtain ⟨u, hu, hus⟩ := HF.out j x hx
            obtain ⟨v, hv, hvs⟩ := HH.out j y hy
            have k1 := fun W (hW : Grew w W) => (hu W hW).1
            have k2 := fun W (hW : Grew w W) => (hu W hW).2
            have k3 := fun W (hW : Grew w W) => (hv W hW).1
            have k4 := fun W (hW : Grew w W) => (hv W hW).2
            obtain ⟨U, cu, rfl⟩ := strs_slice hus
            obtain ⟨V, cv, rfl⟩ := strs_slice hvs
            have KS := Lib.hid (fun W (hW : Grew w W) => sameJudgement_c _ _ x y W (hus.grew hW) (hvs.grew hW))
            have HSU := Lib.hid (fun (h : x = y) => HA.out.succ (k := j) (by rw [hx, hy, h]))
            have hvd : Hid (x ≠ y → D = false) := Lib.hid (fun hne => by rw [HD.out]; exact dcd_false fun h => hne (by have := HX.out h j; rw [hx, hy] at this; exact Option.some.inj this))
            clear hx hy hu hv hus hvs
            generalize x.1.length = xl at *
            generalize y.1.length = yl at *
            have hg1 := hB.alloc (.cells #[.slice U xl cu, .string x.2] 105)
            have hg2 := (hB.alloc (.cells #[.slice U xl cu, .string x.2] 105)).alloc (.cells #[.slice V yl cv, .string y.2] 105)
            cases hq : dcd (x = y) with
            | true =>
              have HB := Lib.hid (HSU.out (of_dcd hq))
              rw [hq] at KS
              clear hq HA HSU hvd
              generalize x.2 = xs2 at *
              generalize y.2 = ys2 at *
              go_wp2_with fail
              go_at_fn 109
              refine (KS.out _ hg2).mono ?_
              rintro e w1 ⟨rfl, hg1⟩
              go_wp2_with fail
              go_roundw
              case rel => exact ⟨j + 1, by omega, by go_num, hg2.trans hg1, HB⟩
              case measure => simp [intOf]; omega
            | false =>
              have HB := Lib.hid (hvd.out (not_dcd hq))
              rw [hq] at KS
              clear hq HA HSU hvd
              generalize x.2 = xs2 at *
              generalize y.2 = ys2 at *
              go_wp2_with fail
              go_at_fn 109
              refine (KS.out _ hg2).mono ?_
              rintro e w1 ⟨rfl, hg1⟩
              go_wp2_with fail
              go_ret
              exact ⟨by rw [HB.out]; rfl, hg2.trans hg1⟩
          · have hjn : j = n := by omega
            subst hjn
            have hv : Hid (D = true) := Lib.hid (by rw [HD.out]; exact dcd_true (HE.out HA.out))
            go_wp2_with fail
            go_ret
            exact ⟨by rw [hv.out]; rfl, hB⟩
  · have hne : xs ≠ ys := fun h => hl (by rw [h])
    rw [dcd_false hne]
    obtain ⟨A, c, rfl⟩ := jgs_slice h1
    obtain ⟨B, d, rfl⟩ := jgs_slice h2
    have hl' : (((xs.length : Nat) : Int) != ((ys.length : Nat) : Int)) = true := by simp; omega
    clear hl h1 h2 hne
    generalize xs.length = n at *
    generalize ys.length = m at *
    go_enter Tryz.func108, Tryz.ntmps108
    go_wp2_with fail
    go_ret
    exact ⟨rfl, Grew.refl _⟩
end Go.Proofs.YtfpkfgimhanekaaGreatDoor

/- How many premises a rule has; rows of steps that grow in the reference. -/
namespace Go.Proofs.YtfpkfgimhanekaaGreatDoor
open Go.RowKit

def cnt (r : Int) : Int := if r = 1 then 0 else if r = 2 ∨ r = 4 ∨ r = 5 ∨ r = 6 ∨ r = 7 ∨ r = 9 then 1 else if r = 3 ∨ r = 10 then 2 else if r = 8 then 3 else -1
theorem l25Count_c (r : Int) (w : World) : Calls Tryz.prog 81 #[.int .i64 r] w fun e w' => e = .returned (.int .i64 (cnt r)) ∧ w' = w := by
  by_cases h1 : r = 1
  · subst h1
    go_enter Tryz.func81, Tryz.ntmps81
    go_wp2_with fail
    go_ret
    exact ⟨rfl, rfl⟩
  by_cases h2 : r = 2
  · subst h2
    go_enter Tryz.func81, Tryz.ntmps81
    go_wp2_with fail
    go_ret
    exact ⟨rfl, rfl⟩
  by_cases h4 : r = 4
  · subst h4
    go_enter Tryz.func81, Tryz.ntmps81
    go_wp2_with fail
    go_ret
    exact ⟨rfl, rfl⟩
  by_cases h5 : r = 5
  · subst h5
    go_enter Tryz.func81, Tryz.ntmps81
    go_wp2_with fail
    go_ret
    exact ⟨rfl, rfl⟩
  by_cases h6 : r = 6
  · subst h6
    go_enter Tryz.func81, Tryz.ntmps81
    go_wp2_with fail
    go_ret
    exact ⟨rfl, rfl⟩
  by_cases h7 : r = 7
  · subst h7
    go_enter Tryz.func81, Tryz.ntmps81
    go_wp2_with fail
    go_ret
    exact ⟨rfl, rfl⟩
  by_cases h9 : r = 9
  · subst h9
    go_enter Tryz.func81, Tryz.ntmps81
    go_wp2_with fail
    go_ret
    exact ⟨rfl, rfl⟩
  by_cases h3 : r = 3
  · subst h3
    go_enter Tryz.func81, Tryz.ntmps81
    go_wp2_with fail
    go_ret
    exact ⟨rfl, rfl⟩
  by_cases h10 : r = 10
  · subst h10
    go_enter Tryz.func81, Tryz.ntmps81
    go_wp2_with fail
    go_ret
    exact ⟨rfl, rfl⟩
  by_cases h8 : r = 8
  · subst h8
    go_enter Tryz.func81, Tryz.ntmps81
    go_wp2_with fail
    go_ret
    exact ⟨rfl, rfl⟩
  have hc : cnt r = -1 := by unfold cnt; rw [if_neg h1, if_neg (by omega), if_neg (by omega), if_neg h8]
  rw [hc]
  have e1 : (r == 1) = false := by simpa using h1
  have e2 : (r == 2) = false := by simpa using h2
  have e4 : (r == 4) = false := by simpa using h4
  have e5 : (r == 5) = false := by simpa using h5
  have e6 : (r == 6) = false := by simpa using h6
  have e7 : (r == 7) = false := by simpa using h7
  have e9 : (r == 9) = false := by simpa using h9
  have e3 : (r == 3) = false := by simpa using h3
  have e10 : (r == 10) = false := by simpa using h10
  have e8 : (r == 8) = false := by simpa using h8
  clear h1 h2 h4 h5 h6 h7 h9 h3 h10 h8 hc
  go_enter Tryz.func81, Tryz.ntmps81
  go_wp2_with fail
  go_ret
  exact ⟨rfl, rfl⟩
theorem cnt_of {x : Dd} {J : List Jg} (h : introP x J ∨ elimP x J) : cnt x.1 = J.length := by
  unfold introP elimP at h
  rcases h with h | h
  · rcases h with ⟨h, _, _, rfl⟩ | ⟨h, rfl⟩ | ⟨h, _, rfl⟩ | ⟨h, _, rfl⟩ | ⟨h, _, rfl⟩ | ⟨h, _, rfl⟩ <;> rw [h] <;> rfl
  · rcases h with ⟨h, D, rfl, _⟩ | ⟨h, D, rfl, _⟩ | ⟨h, D, _, rfl⟩ | ⟨h, D, _, _, rfl⟩ <;> rw [h] <;> rfl

/-- A row of steps; the inner lists lie wherever. -/
def pcells (ps : List (Value × Value × Dd)) : List Value := ps.flatMap fun p => [.int .i64 p.2.2.1, p.1, p.2.1, .string p.2.2.2.2.2.1, .int .i64 p.2.2.2.2.2.2]
theorem pcells_append (ps qs : List (Value × Value × Dd)) : pcells (ps ++ qs) = pcells ps ++ pcells qs := by simp [pcells]
theorem pcells_at (ps : List (Value × Value × Dd)) : ∀ i p, ps[i]? = some p → (pcells ps)[i * 5]? = some (.int .i64 p.2.2.1) ∧ (pcells ps)[i * 5 + 1]? = some p.1 ∧ (pcells ps)[i * 5 + 2]? = some p.2.1 ∧ (pcells ps)[i * 5 + 3]? = some (.string p.2.2.2.2.2.1) ∧ (pcells ps)[i * 5 + 4]? = some (.int .i64 p.2.2.2.2.2.2) := by
  induction ps with
  | nil => intro i p hi; simp at hi
  | cons x ps ih =>
    intro i p hi
    match i with
    | 0 => simp at hi; subst hi; exact ⟨rfl, rfl, rfl, rfl, rfl⟩
    | i + 1 =>
      have h := ih i p (by simpa using hi)
      have e1 : (i + 1) * 5 = i * 5 + 5 := by omega
      rw [e1]
      have hc : pcells (x :: ps) = [.int .i64 x.2.2.1, x.1, x.2.1, .string x.2.2.2.2.2.1, .int .i64 x.2.2.2.2.2.2] ++ pcells ps := rfl
      rw [hc]
      have hd : ∀ k, ([Value.int .i64 x.2.2.1, x.1, x.2.1, .string x.2.2.2.2.2.1, .int .i64 x.2.2.2.2.2.2] ++ pcells ps)[k + 5]? = (pcells ps)[k]? := fun k => by rw [List.getElem?_append_right (by simp)]; simp
      refine ⟨(hd _).trans h.1, ?_, ?_, ?_, ?_⟩
      · rw [show i * 5 + 5 + 1 = i * 5 + 1 + 5 by omega]; exact (hd _).trans h.2.1
      · rw [show i * 5 + 5 + 2 = i * 5 + 2 + 5 by omega]; exact (hd _).trans h.2.2.1
      · rw [show i * 5 + 5 + 3 = i * 5 + 3 + 5 by omega]; exact (hd _).trans h.2.2.2.1
      · rw [show i * 5 + 5 + 4 = i * 5 + 4 + 5 by omega]; exact (hd _).trans h.2.2.2.2
def OwnP (w0 w : World) (B : Nat) (v : Value) (xs : List Dd) : Prop := ∃ ps : List (Value × Value × Dd), ps.map (·.2.2) = xs ∧ w.ownsRow B 52 5 v xs.length (pcells ps) ∧ ∀ p ∈ ps, Ints w0 p.1 p.2.2.2.1 ∧ Strs w0 p.2.1 p.2.2.2.2.1
theorem OwnP.grew {w0 w w' : World} {B : Nat} {v : Value} {xs : List Dd} (h : OwnP w0 w B v xs) (hg : Grew w w') : OwnP w0 w' B v xs := by
  obtain ⟨ps, h1, h2, h3⟩ := h
  exact ⟨ps, h1, own_grew h2 hg, h3⟩
theorem OwnP.dds {w0 w : World} {B : Nat} {v : Value} {xs : List Dd} (h : OwnP w0 w B v xs) (hg : Grew w0 w) : Dds w v xs := by
  obtain ⟨ps, rfl, h2, h3⟩ := h
  obtain ⟨_, _, h4⟩ := Rd.of_own h2
  rcases h4 with ⟨h5, h6⟩ | ⟨b, o, c, h5, h6, h7, h8, h9⟩
  · exact .inl ⟨h5, List.eq_nil_of_length_eq_zero h6⟩
  · refine .inr ⟨b, o, c, h5, h6, h7, h8, fun i x hx => ?_⟩
    rw [List.getElem?_map] at hx
    cases hp : ps[i]? with
    | none => rw [hp] at hx; cases hx
    | some p =>
      rw [hp] at hx
      simp at hx
      obtain ⟨e0, e1, e2, e3, e4⟩ := pcells_at ps i p hp
      rw [← hx]
      have hm := h3 p (List.mem_of_getElem? hp)
      exact ⟨p.1, p.2.1, ⟨h9 _ _ e0, h9 _ _ e1, h9 _ _ e2, h9 _ _ e3, h9 _ _ e4⟩, hm.1.grew hg, hm.2.grew hg⟩
theorem OwnP.nil_ (w0 : World) {w : World} {B g : Nat} (hB : B ≤ g) (hg : w.heap[g]? = some (.cells #[] 52 (0, 0))) : OwnP w0 w B (.slice (some ⟨g, 0, none⟩) 0 0) [] :=
  ⟨[], rfl, ⟨rfl, .inr ⟨g, 0, #[], rfl, hB, hg, by simp, by simp, by simp, rfl⟩⟩, fun p hp => by cases hp⟩
theorem rd_litD (w : World) (a b c d e : Value) (t : TypeId) : Rd (w.alloc (.cells #[a, b, c, d, e] t)) 5 (.slice (some ⟨w.heap.size, 0, none⟩) 1 1) 1 [a, b, c, d, e] := by
  refine ⟨rfl, by omega, .inr ⟨w.heap.size, 0, 1, rfl, by omega, by omega, by simp, fun j x hx => ?_⟩⟩
  have hj : j = 0 ∨ j = 1 ∨ j = 2 ∨ j = 3 ∨ j = 4 := by
    have := (List.getElem?_eq_some_iff.1 hx).1
    simp at this
    omega
  rcases hj with rfl | rfl | rfl | rfl | rfl <;> (simp at hx; subst hx; simp)
/-- 'out = append(out, x)', out a row of steps of the call's own. -/
theorem wpList_appD {ops : Array Oper} {rest : List Oper} {o : Oper} {a : Act} {Q : Exit → Act → World → Prop} {w w0 : World} (s x : Operand) (hgd : o.guard = none)
    (ho : o.op = .call { callee := .builtin .append, args := #[s, x], argTypes := #[33, 33] })
    (v : Value) (Js : List Dd) (hs : a.eval s = v) (hown : OwnP w0 w w0.heap.size v Js) (hg : Grew w0 w) (vx u1 u2 : Value) (j : Dd) (hx : a.eval x = vx) (hr : Rd w 5 vx 1 [.int .i64 j.1, u1, u2, .string j.2.2.2.1, .int .i64 j.2.2.2.2]) (hu : Ints w0 u1 j.2.1) (hv : Strs w0 u2 j.2.2.1) (hn : Js.length ≤ 1048576)
    (h : ∀ v' w', OwnP w0 w' w0.heap.size v' (Js ++ [j]) → Grew w0 w' → w.grownBy w' v.ownBlock → (v'.ownBlock = v.ownBlock ∨ v'.ownBlock = some w.heap.size) → wpList Tryz.prog ops Q rest (a.put o.dst v') w') : wpList Tryz.prog ops Q (o :: rest) a w := by
  obtain ⟨i0, hi0, hz0, hz1, hz2⟩ := info_parts infoDd
  obtain ⟨ps, h1, h2, h3⟩ := hown
  have hu1 : u1.oneCell' = true := by
    obtain ⟨A, c, rfl⟩ := ints_slice hu
    rfl
  have hu2 : u2.oneCell' = true := by
    obtain ⟨A, c, rfl⟩ := strs_slice hv
    rfl
  refine wpList_append_rd w hgd s x _ ho w0.heap.size 52 i0 _ 5 80 Tryz.underlying33 hi0 hz0 hz1 hz2 rfl (by omega) v Js.length (pcells ps) hs h2 vx 1 [.int .i64 j.1, u1, u2, .string j.2.2.2.1, .int .i64 j.2.2.2.2] hx hr (by intro y hy; simp at hy; rcases hy with rfl | rfl | rfl | rfl | rfl; rfl; exact hu1; exact hu2; rfl; rfl) (by unfold maxLen; omega) (by omega) hg.size ?_
  intro v' w' k1 k2 k3
  refine h v' w' ⟨ps ++ [(u1, u2, j)], by rw [List.map_append, h1]; rfl, ?_, fun p hp => ?_⟩ (hg.grown k2 fun k hk => (h2.lt k hk).1) k2 k3
  · rw [List.length_append, pcells_append]
    exact k1
  · rw [List.mem_append] at hp
    rcases hp with hp | hp
    · exact h3 p hp
    · simp at hp; subst hp; exact ⟨hu, hv⟩
end Go.Proofs.YtfpkfgimhanekaaGreatDoor

/- l25Rule of the reference at every rule. -/
namespace Go.Proofs.YtfpkfgimhanekaaGreatDoor
open Go.RowKit

set_option maxHeartbeats 1000000 in
set_option maxRecDepth 8192 in
theorem rule_1 (P : List Int) (A : List ByteArray) (C : ByteArray) (N : Int) : RuleC (1, P, A, C, N) 0 := by
  intro up ua vp p w hup hs hv hC hp hl hk
  simp only at hup hs hC hl hk ⊢
  obtain rfl := List.eq_nil_of_length_eq_zero hk
  have hiff : (introP (1, P, A, C, N) (([] : List Dd).map jd) ∨ elimP (1, P, A, C, N) (([] : List Dd).map jd)) ↔ ((0 ≤ N ∧ N ≤ (A.length : Int) - 1) ∧ st A N.toNat = C) := by
    simp [introP, elimP]
  rw [dcd_congr hiff]
  clear hiff hC hp hk
  obtain ⟨VP, cp, rfl⟩ := ints_slice hup
  obtain ⟨VV, cv, rfl⟩ := Dds_slice hv
  have KR := fun W => l01In_c N 0 ((A.length : Int) - 1) W
  clear hup hv
  simp only [List.length_nil]
  by_cases hr : 0 ≤ N ∧ N ≤ (A.length : Int) - 1
  · rw [decide_eq_true hr] at KR
    obtain ⟨m, rfl⟩ : ∃ m : Nat, N = m := ⟨N.toNat, by omega⟩
    have hm : m < A.length := by omega
    rw [Int.toNat_natCast]
    rcases hs.open_ with ⟨_, h0⟩ | ⟨ub, uo, ca, rfl, hc, hmx, hub, hf⟩
    · rw [h0] at hm; cases hm
    have f5 := hf m hm
    clear hf hs
    have hal := (Grew.refl w).alloc (.cells #[.int .i64 1, .slice VP P.length cp, .slice (some ⟨ub, uo, none⟩) A.length ca, .string C, .int .i64 m] 52)
    have F2 : ∀ W, Grew (w.alloc (.cells #[.int .i64 1, .slice VP P.length cp, .slice (some ⟨ub, uo, none⟩) A.length ca, .string C, .int .i64 m] 52)) W → W.cell? ⟨w.heap.size, 2, none⟩ = some (.slice (some ⟨ub, uo, none⟩) A.length ca) := fun W hW => (hW.cell (p := ⟨w.heap.size, 2, none⟩) (by simp)).trans (by simp)
    have F4 : ∀ W, Grew (w.alloc (.cells #[.int .i64 1, .slice VP P.length cp, .slice (some ⟨ub, uo, none⟩) A.length ca, .string C, .int .i64 m] 52)) W → W.cell? ⟨w.heap.size, 4, none⟩ = some (.int .i64 m) := fun W hW => (hW.cell (p := ⟨w.heap.size, 4, none⟩) (by simp)).trans (by simp)
    have hm1 : (m : Int) < (A.length : Int) := by omega
    by_cases hst : st A m = C
    · rw [dcd_true ⟨hr, hst⟩]
      rw [hst] at f5
      have hx : (C.toList == C.toList) = true := by simp
      clear hst hr
      replace KR := Lib.hid KR
      generalize P.length = pln at *
      generalize A.length = al at *
      go_enter Tryz.func82, Tryz.ntmps82
      go_wp2_with fail
      refine (KR.out _).mono ?_
      rintro e w1 ⟨rfl, hg1⟩
      have c2 := F2 _ hg1
      have c4 := F4 _ hg1
      have c5 := f5 _ (hal.trans hg1)
      go_wp2_with fail
      go_ret
      exact ⟨rfl, hal.trans hg1⟩
    · rw [dcd_false (fun h => hst h.2)]
      have hb1 := bytes_ne hst
      generalize st A m = z at *
      clear hst hr
      replace KR := Lib.hid KR
      generalize P.length = pln at *
      generalize A.length = al at *
      go_enter Tryz.func82, Tryz.ntmps82
      go_wp2_with fail
      refine (KR.out _).mono ?_
      rintro e w1 ⟨rfl, hg1⟩
      have c2 := F2 _ hg1
      have c4 := F4 _ hg1
      have c5 := f5 _ (hal.trans hg1)
      go_wp2_with fail
      go_ret
      exact ⟨rfl, hal.trans hg1⟩
  · rw [decide_eq_false hr] at KR
    rw [dcd_false (fun h => hr h.1)]
    obtain ⟨UA, ca, rfl⟩ := strs_slice hs
    have hal := (Grew.refl w).alloc (.cells #[.int .i64 1, .slice VP P.length cp, .slice UA A.length ca, .string C, .int .i64 N] 52)
    clear hs hr
    replace KR := Lib.hid KR
    generalize P.length = pln at *
    generalize A.length = al at *
    go_enter Tryz.func82, Tryz.ntmps82
    go_wp2_with fail
    refine (KR.out _).mono ?_
    rintro e w1 ⟨rfl, hg1⟩
    go_wp2_with fail
    go_ret
    exact ⟨rfl, hal.trans hg1⟩

theorem rule_all (x : Dd) (k : Nat) (h : cnt x.1 = k) : RuleC x k := by
  obtain ⟨R, P, A, C, N⟩ := x
  simp only at h
  have hk : ∀ m : Nat, (m : Int) = k → m = k := fun m h => by omega
  by_cases h1 : R = 1
  · subst h1; obtain rfl := hk 0 h; exact rule_1 P A C N
  by_cases h2 : R = 2
  · subst h2; obtain rfl := hk 1 h; exact rule_2 P A C N
  by_cases h3 : R = 3
  · subst h3; obtain rfl := hk 2 h; exact rule_3 P A C N
  by_cases h4 : R = 4
  · subst h4; obtain rfl := hk 1 h; exact rule_4 P A C N
  by_cases h5 : R = 5
  · subst h5; obtain rfl := hk 1 h; exact rule_5 P A C N
  by_cases h6 : R = 6
  · subst h6; obtain rfl := hk 1 h; exact rule_6 P A C N
  by_cases h7 : R = 7
  · subst h7; obtain rfl := hk 1 h; exact rule_7 P A C N
  by_cases h8 : R = 8
  · subst h8; obtain rfl := hk 3 h; exact rule_8 P A C N
  by_cases h9 : R = 9
  · subst h9; obtain rfl := hk 1 h; exact rule_9 P A C N
  by_cases h10 : R = 10
  · subst h10; obtain rfl := hk 2 h; exact rule_10 P A C N
  exfalso
  unfold cnt at h
  rw [if_neg h1, if_neg (by omega), if_neg (by omega), if_neg h8] at h
  omega
end Go.Proofs.YtfpkfgimhanekaaGreatDoor

/- isIntroduction of the program. -/
namespace Go.Proofs.YtfpkfgimhanekaaGreatDoor
open Go.RowKit

theorem sizeS_q (A : Option Addr) (n c : Nat) (_hm : n ≤ 9223372036854775807) (w : World) :
    Calls Tryz.prog 105 #[.slice A n c] w fun e w' => e = .returned (.int .i64 n) ∧ w' = w := by
  go_enter Tryz.func105, Tryz.ntmps105
  go_wp2_with fail
  go_ret
  exact ⟨rfl, rfl⟩
theorem inRange_q (k lo hi : Int) (w : World) : Calls Tryz.prog 63 #[.int .i64 k, .int .i64 lo, .int .i64 hi] w fun e w' => e = .returned (.bool (decide (lo ≤ k ∧ k ≤ hi))) ∧ w' = w := by
  by_cases h : lo ≤ k
  · have hd : decide (lo ≤ k ∧ k ≤ hi) = decide (k ≤ hi) := by simp [h]
    rw [hd]
    go_enter Tryz.func63, Tryz.ntmps63
    go_wp2_with fail
    go_ret
    exact ⟨rfl, rfl⟩
  · have hd : decide (lo ≤ k ∧ k ≤ hi) = false := by simp [h]
    rw [hd]
    go_enter Tryz.func63, Tryz.ntmps63
    go_wp2_with fail
    go_ret
    exact ⟨rfl, rfl⟩

/-- What isIntroduction gives at a step. -/
def IntroC (x : Dd) : Prop := ∀ (up ua vJ : Value) (Js : List Jg) (w : World), Ints w up x.2.1 → Strs w ua x.2.2.1 → Jgs w vJ Js → gp x.2.2.2.1 = true → x.2.2.1.length ≤ 12 →
    Calls Tryz.prog 85 #[.agg #[.int .i64 x.1, up, ua, .string x.2.2.2.1, .int .i64 x.2.2.2.2], vJ] w fun e w' => e = .returned (.bool (dcd (introP x Js))) ∧ Grew w w'

theorem intro_2 (P : List Int) (A : List ByteArray) (C : ByteArray) (N : Int) : IntroC (2, P, A, C, N) := by
  intro up ua vJ Js w hup hs hJ hC hl
  simp only at hup hs hC hl ⊢
  have hiff : introP (2, P, A, C, N) Js ↔ Js = [(A, txF)] := by
    unfold introP
    simp
  rw [dcd_congr hiff]
  clear hiff
  obtain ⟨VP, cp, rfl⟩ := ints_slice hup
  have HS := Lib.hid hs
  have HJ := Lib.hid hJ
  have KE := Lib.hid (fun u Ks W (hW : Grew w W) hu => equalFuncJ_c vJ u Js Ks W (hJ.grew hW) hu (enters_of Tryz.func109 (by kernel_rfl) rfl))
  have hal := (Grew.refl w).alloc (.cells #[.int .i64 2, .slice VP P.length cp, ua, .string C, .int .i64 N] 52)
  have r0 := Grew.refl w
  clear hup hJ
  obtain ⟨UA, ca, rfl⟩ := strs_slice hs
  obtain ⟨JA, jn, jc, rfl⟩ : ∃ JA jn jc, vJ = .slice JA jn jc := by obtain ⟨JA, jc, h⟩ := jgs_slice HJ.out; exact ⟨JA, _, jc, h⟩
  clear hs
  generalize P.length = pln at *
  generalize hal2 : A.length = al at *
  replace hal2 := Lib.hid hal2
  generalize hR : dcd (Js = [(A, txF)]) = R at *
  replace hR := Lib.hid hR
  have hlit := Lib.hid (fun W (hW : Grew w W) => jgs_lit1 W _ A txF 105 (HS.out.grew hW))
  have hl2 := hlit.out _ hal
  rw [show (w.alloc (.cells #[.int .i64 2, .slice VP pln cp, .slice UA al ca, .string C, .int .i64 N] 52)).heap.size = w.heap.size + 1 by simp] at hl2
  have HL2 := Lib.hid hl2
  clear hl2
  go_enter Tryz.func85, Tryz.ntmps85
  go_wp2_with fail
  refine (KE.out _ _ _ (hal.alloc _) HL2.out).mono ?_
  rintro e w1 ⟨rfl, hg1⟩
  go_wp2_with fail
  go_ret
  exact ⟨by rw [← hR.out]; rfl, (hal.alloc _).trans hg1⟩

theorem intro_3 (P : List Int) (A : List ByteArray) (C : ByteArray) (N : Int) : IntroC (3, P, A, C, N) := by
  intro up ua vJ Js w hup hs hJ hC hl
  simp only at hup hs hC hl ⊢
  have hiff : introP (3, P, A, C, N) Js ↔ (kT C = 2 ∧ Js = [(A, pl C), (A, pr C)]) := by
    unfold introP
    simp
  rw [dcd_congr hiff]
  clear hiff
  obtain ⟨VP, cp, rfl⟩ := ints_slice hup
  have HS := Lib.hid hs
  have HJ := Lib.hid hJ
  have KE := Lib.hid (fun u Ks W (hW : Grew w W) hu => equalFuncJ_c vJ u Js Ks W (hJ.grew hW) hu (enters_of Tryz.func109 (by kernel_rfl) rfl))
  have hal := (Grew.refl w).alloc (.cells #[.int .i64 3, .slice VP P.length cp, ua, .string C, .int .i64 N] 52)
  have r0 := Grew.refl w
  clear hup hJ
  by_cases hk : kT C = 2
  · have hiff2 : (kT C = 2 ∧ Js = [(A, pl C), (A, pr C)]) ↔ Js = [(A, pl C), (A, pr C)] := ⟨fun h => h.2, fun h => ⟨hk, h⟩⟩
    rw [dcd_congr hiff2]
    have KP := Lib.hid (fun w => pw_yes 2 C w hC hk (by decide))
    clear hk hC hiff2
    obtain ⟨UA, ca, rfl⟩ := strs_slice hs
    obtain ⟨JA, jn, jc, rfl⟩ : ∃ JA jn jc, vJ = .slice JA jn jc := by obtain ⟨JA, jc, h⟩ := jgs_slice HJ.out; exact ⟨JA, _, jc, h⟩
    clear hs
    generalize P.length = pln at *
    generalize hal2 : A.length = al at *
    replace hal2 := Lib.hid hal2
    have hlit := Lib.hid (fun W (hW : Grew w W) => jgs_lit2 W _ _ A A (pl C) (pr C) 105 (HS.out.grew hW) (HS.out.grew hW))
    generalize hR : dcd (Js = [(A, pl C), (A, pr C)]) = R at *
    replace hR := Lib.hid hR
    generalize hpl : pl C = tp at *
    generalize hpr : pr C = tq at *
    replace hpl := Lib.hid hpl
    replace hpr := Lib.hid hpr
    go_enter Tryz.func85, Tryz.ntmps85
    go_wp2_with fail
    refine (KP.out _).mono ?_
    rintro e w1 ⟨v1, rfl, ho1, hg1⟩
    obtain ⟨b1, o1, c1, rfl, hc1, hm1, hb1, hf1⟩ := strs_two ho1.strs
    clear ho1
    have k1 := fun W (hW : Grew w1 W) => (hf1 W hW).1
    have k2 := fun W (hW : Grew w1 W) => (hf1 W hW).2
    clear hf1
    have g1 := hal.trans hg1
    have r1 := Grew.refl w1
    have d1 := r1.drew
    have f2 : ∀ W, Grew w1 W → W.cell? ⟨w.heap.size, 2, none⟩ = some (.slice UA al ca) := fun W hW => ((hg1.trans hW).cell (p := ⟨w.heap.size, 2, none⟩) (by simp)).trans (by simp)
    have f0 : ∀ W, Grew w1 W → W.cell? ⟨w.heap.size, 0, none⟩ = some (.int .i64 3) := fun W hW => ((hg1.trans hW).cell (p := ⟨w.heap.size, 0, none⟩) (by simp)).trans (by simp)
    have gd := g1.trans d1
    have iw0 : IntKind.i64.wrap 0 = 0 := rfl
    have iw1 : IntKind.i64.wrap 1 = 1 := rfl
    go_wp2_with fail
    go_region_held3 (fun w' => Grew w1 w') (first | with_reducible assumption | exact Grew.alloc ‹_› _)
      (fail)
    go_wp2_with fail
    refine (KE.out _ _ _ ((g1.alloc _).drew) ((hlit.out _ g1).grew (Grew.refl _).drew)).mono ?_
    rintro e w2 ⟨rfl, hg2⟩
    go_wp2_with fail
    go_ret
    exact ⟨by rw [← hR.out]; rfl, ((g1.alloc _).drew).trans hg2⟩
  · rw [dcd_false (fun h => hk h.1)]
    have KP := Lib.hid (fun w => pw_no 2 C w hC hk)
    clear hk hC KE
    obtain ⟨UA, ca, rfl⟩ := strs_slice hs
    obtain ⟨JA, jn, jc, rfl⟩ : ∃ JA jn jc, vJ = .slice JA jn jc := by obtain ⟨JA, jc, h⟩ := jgs_slice HJ.out; exact ⟨JA, _, jc, h⟩
    clear hs
    generalize P.length = pln at *
    generalize hal2 : A.length = al at *
    replace hal2 := Lib.hid hal2
    go_enter Tryz.func85, Tryz.ntmps85
    go_wp2_with fail
    refine (KP.out _).mono ?_
    rintro e w1 ⟨v1, rfl, ⟨XA, xn, xc, rfl⟩, hg1⟩
    go_wp2_with fail
    go_ret
    exact ⟨rfl, hal.trans hg1⟩

theorem intro_6 (P : List Int) (A : List ByteArray) (C : ByteArray) (N : Int) : IntroC (6, P, A, C, N) := by
  intro up ua vJ Js w hup hs hJ hC hl
  simp only at hup hs hC hl ⊢
  have hiff : introP (6, P, A, C, N) Js ↔ (kT C = 3 ∧ Js = [(A, pl C)]) := by
    unfold introP
    simp
  rw [dcd_congr hiff]
  clear hiff
  obtain ⟨VP, cp, rfl⟩ := ints_slice hup
  have HS := Lib.hid hs
  have HJ := Lib.hid hJ
  have KE := Lib.hid (fun u Ks W (hW : Grew w W) hu => equalFuncJ_c vJ u Js Ks W (hJ.grew hW) hu (enters_of Tryz.func109 (by kernel_rfl) rfl))
  have hal := (Grew.refl w).alloc (.cells #[.int .i64 6, .slice VP P.length cp, ua, .string C, .int .i64 N] 52)
  have r0 := Grew.refl w
  clear hup hJ
  by_cases hk : kT C = 3
  · have hiff2 : (kT C = 3 ∧ Js = [(A, pl C)]) ↔ Js = [(A, pl C)] := ⟨fun h => h.2, fun h => ⟨hk, h⟩⟩
    rw [dcd_congr hiff2]
    have KP := Lib.hid (fun w => pw_yes 3 C w hC hk (by decide))
    clear hk hC hiff2
    obtain ⟨UA, ca, rfl⟩ := strs_slice hs
    obtain ⟨JA, jn, jc, rfl⟩ : ∃ JA jn jc, vJ = .slice JA jn jc := by obtain ⟨JA, jc, h⟩ := jgs_slice HJ.out; exact ⟨JA, _, jc, h⟩
    clear hs
    generalize P.length = pln at *
    generalize hal2 : A.length = al at *
    replace hal2 := Lib.hid hal2
    have hlit := Lib.hid (fun W (hW : Grew w W) => jgs_lit1 W _ A (pl C) 105 (HS.out.grew hW))
    generalize hR : dcd (Js = [(A, pl C)]) = R at *
    replace hR := Lib.hid hR
    generalize hpl : pl C = tp at *
    generalize hpr : pr C = tq at *
    replace hpl := Lib.hid hpl
    replace hpr := Lib.hid hpr
    go_enter Tryz.func85, Tryz.ntmps85
    go_wp2_with fail
    refine (KP.out _).mono ?_
    rintro e w1 ⟨v1, rfl, ho1, hg1⟩
    obtain ⟨b1, o1, c1, rfl, hc1, hm1, hb1, hf1⟩ := strs_two ho1.strs
    clear ho1
    have k1 := fun W (hW : Grew w1 W) => (hf1 W hW).1
    have k2 := fun W (hW : Grew w1 W) => (hf1 W hW).2
    clear hf1
    have g1 := hal.trans hg1
    have r1 := Grew.refl w1
    have d1 := r1.drew
    have f2 : ∀ W, Grew w1 W → W.cell? ⟨w.heap.size, 2, none⟩ = some (.slice UA al ca) := fun W hW => ((hg1.trans hW).cell (p := ⟨w.heap.size, 2, none⟩) (by simp)).trans (by simp)
    have f0 : ∀ W, Grew w1 W → W.cell? ⟨w.heap.size, 0, none⟩ = some (.int .i64 6) := fun W hW => ((hg1.trans hW).cell (p := ⟨w.heap.size, 0, none⟩) (by simp)).trans (by simp)
    have gd := g1.trans d1
    have iw0 : IntKind.i64.wrap 0 = 0 := rfl
    have iw1 : IntKind.i64.wrap 1 = 1 := rfl
    go_wp2_with fail
    go_region_held3 (fun w' => Grew w1 w') (first | with_reducible assumption | exact Grew.alloc ‹_› _)
      (fail)
    go_wp2_with fail
    refine (KE.out _ _ _ ((g1.alloc _).drew) ((hlit.out _ g1).grew (Grew.refl _).drew)).mono ?_
    rintro e w2 ⟨rfl, hg2⟩
    go_wp2_with fail
    go_ret
    exact ⟨by rw [← hR.out]; rfl, ((g1.alloc _).drew).trans hg2⟩
  · rw [dcd_false (fun h => hk h.1)]
    have KP := Lib.hid (fun w => pw_no 3 C w hC hk)
    clear hk hC KE
    obtain ⟨UA, ca, rfl⟩ := strs_slice hs
    obtain ⟨JA, jn, jc, rfl⟩ : ∃ JA jn jc, vJ = .slice JA jn jc := by obtain ⟨JA, jc, h⟩ := jgs_slice HJ.out; exact ⟨JA, _, jc, h⟩
    clear hs
    generalize P.length = pln at *
    generalize hal2 : A.length = al at *
    replace hal2 := Lib.hid hal2
    go_enter Tryz.func85, Tryz.ntmps85
    go_wp2_with fail
    refine (KP.out _).mono ?_
    rintro e w1 ⟨v1, rfl, ⟨XA, xn, xc, rfl⟩, hg1⟩
    go_wp2_with fail
    go_ret
    exact ⟨rfl, hal.trans hg1⟩

theorem intro_7 (P : List Int) (A : List ByteArray) (C : ByteArray) (N : Int) : IntroC (7, P, A, C, N) := by
  intro up ua vJ Js w hup hs hJ hC hl
  simp only at hup hs hC hl ⊢
  have hiff : introP (7, P, A, C, N) Js ↔ (kT C = 3 ∧ Js = [(A, pr C)]) := by
    unfold introP
    simp
  rw [dcd_congr hiff]
  clear hiff
  obtain ⟨VP, cp, rfl⟩ := ints_slice hup
  have HS := Lib.hid hs
  have HJ := Lib.hid hJ
  have KE := Lib.hid (fun u Ks W (hW : Grew w W) hu => equalFuncJ_c vJ u Js Ks W (hJ.grew hW) hu (enters_of Tryz.func109 (by kernel_rfl) rfl))
  have hal := (Grew.refl w).alloc (.cells #[.int .i64 7, .slice VP P.length cp, ua, .string C, .int .i64 N] 52)
  have r0 := Grew.refl w
  clear hup hJ
  by_cases hk : kT C = 3
  · have hiff2 : (kT C = 3 ∧ Js = [(A, pr C)]) ↔ Js = [(A, pr C)] := ⟨fun h => h.2, fun h => ⟨hk, h⟩⟩
    rw [dcd_congr hiff2]
    have KP := Lib.hid (fun w => pw_yes 3 C w hC hk (by decide))
    clear hk hC hiff2
    obtain ⟨UA, ca, rfl⟩ := strs_slice hs
    obtain ⟨JA, jn, jc, rfl⟩ : ∃ JA jn jc, vJ = .slice JA jn jc := by obtain ⟨JA, jc, h⟩ := jgs_slice HJ.out; exact ⟨JA, _, jc, h⟩
    clear hs
    generalize P.length = pln at *
    generalize hal2 : A.length = al at *
    replace hal2 := Lib.hid hal2
    have hlit := Lib.hid (fun W (hW : Grew w W) => jgs_lit1 W _ A (pr C) 105 (HS.out.grew hW))
    generalize hR : dcd (Js = [(A, pr C)]) = R at *
    replace hR := Lib.hid hR
    generalize hpl : pl C = tp at *
    generalize hpr : pr C = tq at *
    replace hpl := Lib.hid hpl
    replace hpr := Lib.hid hpr
    go_enter Tryz.func85, Tryz.ntmps85
    go_wp2_with fail
    refine (KP.out _).mono ?_
    rintro e w1 ⟨v1, rfl, ho1, hg1⟩
    obtain ⟨b1, o1, c1, rfl, hc1, hm1, hb1, hf1⟩ := strs_two ho1.strs
    clear ho1
    have k1 := fun W (hW : Grew w1 W) => (hf1 W hW).1
    have k2 := fun W (hW : Grew w1 W) => (hf1 W hW).2
    clear hf1
    have g1 := hal.trans hg1
    have r1 := Grew.refl w1
    have d1 := r1.drew
    have f2 : ∀ W, Grew w1 W → W.cell? ⟨w.heap.size, 2, none⟩ = some (.slice UA al ca) := fun W hW => ((hg1.trans hW).cell (p := ⟨w.heap.size, 2, none⟩) (by simp)).trans (by simp)
    have f0 : ∀ W, Grew w1 W → W.cell? ⟨w.heap.size, 0, none⟩ = some (.int .i64 7) := fun W hW => ((hg1.trans hW).cell (p := ⟨w.heap.size, 0, none⟩) (by simp)).trans (by simp)
    have gd := g1.trans d1
    have iw0 : IntKind.i64.wrap 0 = 0 := rfl
    have iw1 : IntKind.i64.wrap 1 = 1 := rfl
    go_wp2_with fail
    go_region_held3 (fun w' => Grew w1 w') (first | with_reducible assumption | exact Grew.alloc ‹_› _)
      (fail)
    go_wp2_with fail
    refine (KE.out _ _ _ ((g1.alloc _).drew) ((hlit.out _ g1).grew (Grew.refl _).drew)).mono ?_
    rintro e w2 ⟨rfl, hg2⟩
    go_wp2_with fail
    go_ret
    exact ⟨by rw [← hR.out]; rfl, ((g1.alloc _).drew).trans hg2⟩
  · rw [dcd_false (fun h => hk h.1)]
    have KP := Lib.hid (fun w => pw_no 3 C w hC hk)
    clear hk hC KE
    obtain ⟨UA, ca, rfl⟩ := strs_slice hs
    obtain ⟨JA, jn, jc, rfl⟩ : ∃ JA jn jc, vJ = .slice JA jn jc := by obtain ⟨JA, jc, h⟩ := jgs_slice HJ.out; exact ⟨JA, _, jc, h⟩
    clear hs
    generalize P.length = pln at *
    generalize hal2 : A.length = al at *
    replace hal2 := Lib.hid hal2
    go_enter Tryz.func85, Tryz.ntmps85
    go_wp2_with fail
    refine (KP.out _).mono ?_
    rintro e w1 ⟨v1, rfl, ⟨XA, xn, xc, rfl⟩, hg1⟩
    go_wp2_with fail
    go_ret
    exact ⟨rfl, hal.trans hg1⟩

theorem intro_9 (P : List Int) (A : List ByteArray) (C : ByteArray) (N : Int) : IntroC (9, P, A, C, N) := by
  intro up ua vJ Js w hup hs hJ hC hl
  simp only at hup hs hC hl ⊢
  have hiff : introP (9, P, A, C, N) Js ↔ (kT C = 4 ∧ Js = [(A ++ [pl C], pr C)]) := by
    unfold introP
    simp
  rw [dcd_congr hiff]
  clear hiff
  obtain ⟨VP, cp, rfl⟩ := ints_slice hup
  have HS := Lib.hid hs
  have HJ := Lib.hid hJ
  have KE := Lib.hid (fun u Ks W (hW : Grew w W) hu => equalFuncJ_c vJ u Js Ks W (hJ.grew hW) hu (enters_of Tryz.func109 (by kernel_rfl) rfl))
  have hal := (Grew.refl w).alloc (.cells #[.int .i64 9, .slice VP P.length cp, ua, .string C, .int .i64 N] 52)
  have r0 := Grew.refl w
  clear hup hJ
  by_cases hk : kT C = 4
  · have hiff2 : (kT C = 4 ∧ Js = [(A ++ [pl C], pr C)]) ↔ Js = [(A ++ [pl C], pr C)] := ⟨fun h => h.2, fun h => ⟨hk, h⟩⟩
    rw [dcd_congr hiff2]
    have KP := Lib.hid (fun w => pw_yes 4 C w hC hk (by decide))
    clear hk hC hiff2
    have KB := Lib.hid (fun s W (hW : Grew w W) => behind_c ua A s W (HS.out.grew hW) (by omega))
    have HLN : Hid ((A ++ [pl C]).length = A.length + 1) := Lib.hid (by simp)
    obtain ⟨UA, ca, rfl⟩ := strs_slice hs
    obtain ⟨JA, jn, jc, rfl⟩ : ∃ JA jn jc, vJ = .slice JA jn jc := by obtain ⟨JA, jc, h⟩ := jgs_slice HJ.out; exact ⟨JA, _, jc, h⟩
    clear hs
    generalize P.length = pln at *
    generalize hal2 : A.length = al at *
    replace hal2 := Lib.hid hal2
    have hlit := Lib.hid (fun u W (hu : Strs W u (A ++ [pl C])) => jgs_lit1 W u (A ++ [pl C]) (pr C) 105 hu)
    unfold GivesS at KB
    have KB1 := Lib.hid (KB.out (pl C))
    clear KB
    generalize hR : dcd (Js = [(A ++ [pl C], pr C)]) = R at *
    replace hR := Lib.hid hR
    generalize hAA : A ++ [pl C] = AA at *
    replace hAA := Lib.hid hAA
    generalize hpl : pl C = tp at *
    generalize hpr : pr C = tq at *
    replace hpl := Lib.hid hpl
    replace hpr := Lib.hid hpr
    go_enter Tryz.func85, Tryz.ntmps85
    go_wp2_with fail
    refine (KP.out _).mono ?_
    rintro e w1 ⟨v1, rfl, ho1, hg1⟩
    obtain ⟨b1, o1, c1, rfl, hc1, hm1, hb1, hf1⟩ := strs_two ho1.strs
    clear ho1
    have k1 := fun W (hW : Grew w1 W) => (hf1 W hW).1
    have k2 := fun W (hW : Grew w1 W) => (hf1 W hW).2
    clear hf1
    have g1 := hal.trans hg1
    have r1 := Grew.refl w1
    have d1 := r1.drew
    have f2 : ∀ W, Grew w1 W → W.cell? ⟨w.heap.size, 2, none⟩ = some (.slice UA al ca) := fun W hW => ((hg1.trans hW).cell (p := ⟨w.heap.size, 2, none⟩) (by simp)).trans (by simp)
    have f0 : ∀ W, Grew w1 W → W.cell? ⟨w.heap.size, 0, none⟩ = some (.int .i64 9) := fun W hW => ((hg1.trans hW).cell (p := ⟨w.heap.size, 0, none⟩) (by simp)).trans (by simp)
    have gd := g1.trans d1
    have iw0 : IntKind.i64.wrap 0 = 0 := rfl
    have iw1 : IntKind.i64.wrap 1 = 1 := rfl
    go_wp2_with fail
    go_region_held3 (fun w' => Grew w1 w') (first | with_reducible assumption | exact Grew.alloc ‹_› _)
      (first | (go_at_call 107; refine (KB1.out _ gd).mono ?_; rintro e w2 ⟨ub, rfl, hob, hg2⟩; have HB := Lib.hid hob.strs; obtain ⟨BA, bc, rfl⟩ := strs_slice hob.strs; rw [HLN.out] at HB ⊢; clear hob; have gk2 := gd.trans hg2; have hk2 := d1.trans hg2))
    go_wp2_with fail
    refine (KE.out _ _ _ (gk2.alloc _) (hlit.out _ _ HB.out)).mono ?_
    rintro e w3 ⟨rfl, hg3⟩
    go_wp2_with fail
    go_ret
    exact ⟨by rw [← hR.out]; rfl, (gk2.alloc _).trans hg3⟩
  · rw [dcd_false (fun h => hk h.1)]
    have KP := Lib.hid (fun w => pw_no 4 C w hC hk)
    clear hk hC KE
    obtain ⟨UA, ca, rfl⟩ := strs_slice hs
    obtain ⟨JA, jn, jc, rfl⟩ : ∃ JA jn jc, vJ = .slice JA jn jc := by obtain ⟨JA, jc, h⟩ := jgs_slice HJ.out; exact ⟨JA, _, jc, h⟩
    clear hs
    generalize P.length = pln at *
    generalize hal2 : A.length = al at *
    replace hal2 := Lib.hid hal2
    go_enter Tryz.func85, Tryz.ntmps85
    go_wp2_with fail
    refine (KP.out _).mono ?_
    rintro e w1 ⟨v1, rfl, ⟨XA, xn, xc, rfl⟩, hg1⟩
    go_wp2_with fail
    go_ret
    exact ⟨rfl, hal.trans hg1⟩

theorem intro_other (R : Int) (P : List Int) (A : List ByteArray) (C : ByteArray) (N : Int) (h1 : R ≠ 1) (h2 : R ≠ 2) (h3 : R ≠ 3) (h6 : R ≠ 6) (h7 : R ≠ 7) (h9 : R ≠ 9) : IntroC (R, P, A, C, N) := by
  intro up ua vJ Js w hup hs hJ hC hl
  simp only at hup hs hC hl ⊢
  rw [dcd_false (fun h => by unfold introP at h; simp [h1, h2, h3, h6, h7, h9] at h)]
  obtain ⟨VP, cp, rfl⟩ := ints_slice hup
  obtain ⟨UA, ca, rfl⟩ := strs_slice hs
  obtain ⟨JA, jc, rfl⟩ := jgs_slice hJ
  have hal := (Grew.refl w).alloc (.cells #[.int .i64 R, .slice VP P.length cp, .slice UA A.length ca, .string C, .int .i64 N] 52)
  have e1 : (R == 1) = false := by simpa using h1
  have e2 : (R == 2) = false := by simpa using h2
  have e3 : (R == 3) = false := by simpa using h3
  have e6 : (R == 6) = false := by simpa using h6
  have e7 : (R == 7) = false := by simpa using h7
  have e9 : (R == 9) = false := by simpa using h9
  clear hup hs hJ h1 h2 h3 h6 h7 h9 hC hl
  generalize P.length = pln at *
  generalize A.length = al at *
  generalize Js.length = jl at *
  go_enter Tryz.func85, Tryz.ntmps85
  go_wp2_with fail
  go_ret
  exact ⟨rfl, hal⟩

theorem intro_1 (P : List Int) (A : List ByteArray) (C : ByteArray) (N : Int) : IntroC (1, P, A, C, N) := by
  intro up ua vJ Js w hup hs hJ hC hl
  simp only at hup hs hC hl ⊢
  have hiff : introP (1, P, A, C, N) Js ↔ ((0 ≤ N ∧ N ≤ (A.length : Int) - 1) ∧ st A N.toNat = C ∧ Js = []) := by
    unfold introP
    simp
  rw [dcd_congr hiff]
  clear hiff hC
  obtain ⟨VP, cp, rfl⟩ := ints_slice hup
  have HJ := Lib.hid hJ
  have KE := Lib.hid (fun W (hW : Grew w W) => equalFuncJ_c vJ _ Js [] W (hJ.grew hW) (Jgs.nil_ W) (enters_of Tryz.func109 (by kernel_rfl) rfl))
  have KR := fun W => inRange_q N 0 ((A.length : Int) - 1) W
  have hmax := hs.2.1
  clear hup hJ
  by_cases hr : 0 ≤ N ∧ N ≤ (A.length : Int) - 1
  · rw [decide_eq_true hr] at KR
    obtain ⟨m, rfl⟩ : ∃ m : Nat, N = m := ⟨N.toNat, by omega⟩
    have hm : m < A.length := by omega
    rw [Int.toNat_natCast]
    rcases hs.open_ with ⟨_, h0⟩ | ⟨ub, uo, ca, rfl, hc, hmx, hub, hf⟩
    · rw [h0] at hm; cases hm
    have f5 := hf m hm
    clear hf hs
    have hal := (Grew.refl w).alloc (.cells #[.int .i64 1, .slice VP P.length cp, .slice (some ⟨ub, uo, none⟩) A.length ca, .string C, .int .i64 m] 52)
    obtain ⟨JA, jn, jc, rfl⟩ : ∃ JA jn jc, vJ = .slice JA jn jc := by obtain ⟨JA, jc, h⟩ := jgs_slice HJ.out; exact ⟨JA, _, jc, h⟩
    have hm1 : (m : Int) < (A.length : Int) := by omega
    have hm2 : (0 : Int) ≤ (A.length : Int) - 1 := by omega
    have iw : IntKind.i64.wrap ((A.length : Int) - 1) = (A.length : Int) - 1 := IntWalk.i64_in _ (by omega)
    by_cases hst : st A m = C
    · have hiff2 : ((0 ≤ (m : Int) ∧ (m : Int) ≤ (A.length : Int) - 1) ∧ st A m = C ∧ Js = []) ↔ Js = [] := ⟨fun h => h.2.2, fun h => ⟨hr, hst, h⟩⟩
      rw [dcd_congr hiff2]
      rw [hst] at f5
      clear hiff2 hst hr
      generalize hR : dcd (Js = []) = R at *
      replace hR := Lib.hid hR
      replace KR := Lib.hid KR
      generalize P.length = pln at *
      generalize A.length = al at *
      go_enter Tryz.func85, Tryz.ntmps85
      go_wp2_with fail
      go_quiet ((first | (go_at_call 105; exact Calls.quiet_of_same (sizeS_q _ _ _ hmax _)) | (go_at_call 63; exact Calls.quiet_of_same (KR.out _))))
      go_wp2_with fail
      refine (KE.out _ (hal.drewN _)).mono ?_
      rintro e w2 ⟨rfl, hg2⟩
      go_wp2_with fail
      go_ret
      exact ⟨by rw [← hR.out]; rfl, (hal.drewN _).trans hg2⟩
    · rw [dcd_false (fun h => hst h.2.1)]
      have hb1 := bytes_ne hst
      generalize st A m = z at *
      clear KE hst hr
      replace KR := Lib.hid KR
      generalize P.length = pln at *
      generalize A.length = al at *
      go_enter Tryz.func85, Tryz.ntmps85
      go_wp2_with fail
      go_quiet ((first | (go_at_call 105; exact Calls.quiet_of_same (sizeS_q _ _ _ hmax _)) | (go_at_call 63; exact Calls.quiet_of_same (KR.out _))))
      go_wp2_with fail
      go_ret
      exact ⟨rfl, hal.drewN _⟩
  · rw [decide_eq_false hr] at KR
    rw [dcd_false (fun h => hr h.1)]
    obtain ⟨UA, ca, rfl⟩ := strs_slice hs
    have hal := (Grew.refl w).alloc (.cells #[.int .i64 1, .slice VP P.length cp, .slice UA A.length ca, .string C, .int .i64 N] 52)
    obtain ⟨JA, jn, jc, rfl⟩ : ∃ JA jn jc, vJ = .slice JA jn jc := by obtain ⟨JA, jc, h⟩ := jgs_slice HJ.out; exact ⟨JA, _, jc, h⟩
    have iw : IntKind.i64.wrap ((A.length : Int) - 1) = (A.length : Int) - 1 := IntWalk.i64_in _ (by omega)
    clear hs KE hr
    replace KR := Lib.hid KR
    generalize P.length = pln at *
    generalize A.length = al at *
    go_enter Tryz.func85, Tryz.ntmps85
    go_wp2_with fail
    go_quiet ((first | (go_at_call 105; exact Calls.quiet_of_same (sizeS_q _ _ _ hmax _)) | (go_at_call 63; exact Calls.quiet_of_same (KR.out _))))
    go_wp2_with fail
    go_ret
    exact ⟨rfl, hal.drewN _⟩

theorem isIntroduction_c (x : Dd) : IntroC x := by
  obtain ⟨R, P, A, C, N⟩ := x
  by_cases h1 : R = 1
  · subst h1; exact intro_1 P A C N
  by_cases h2 : R = 2
  · subst h2; exact intro_2 P A C N
  by_cases h3 : R = 3
  · subst h3; exact intro_3 P A C N
  by_cases h6 : R = 6
  · subst h6; exact intro_6 P A C N
  by_cases h7 : R = 7
  · subst h7; exact intro_7 P A C N
  by_cases h9 : R = 9
  · subst h9; exact intro_9 P A C N
  exact intro_other R P A C N h1 h2 h3 h6 h7 h9
end Go.Proofs.YtfpkfgimhanekaaGreatDoor

/- fromWhole and isElimination of the program. -/
namespace Go.Proofs.YtfpkfgimhanekaaGreatDoor
open Go.RowKit

theorem Jgs.head {w : World} {v : Value} {j : Jg} {Jt : List Jg} (h : Jgs w v (j :: Jt)) : ∃ b o c u, v = .slice (some ⟨b, o, none⟩) (Jt.length + 1) c ∧ Jt.length + 1 ≤ c ∧ c ≤ 9223372036854775807 ∧ (∀ W, Grew w W → W.cell? ⟨b, o, none⟩ = some u) ∧ (∀ W, Grew w W → W.cell? ⟨b, o + 1, none⟩ = some (.string j.2)) ∧ Strs w u j.1 ∧
    Jgs w (.slice (some ⟨b, o + 2, none⟩) Jt.length (c - 1)) Jt := by
  rcases h with ⟨_, h⟩ | ⟨b, o, c, h1, h2, h3, h4, h5⟩
  · cases h
  · obtain ⟨u, k1, k2, k3⟩ := h5 0 j rfl
    rw [Nat.zero_mul, Nat.add_zero] at k1 k2
    refine ⟨b, o, c, u, h1, h2, h3, fun W hW => (hW.cell (p := ⟨b, o, none⟩) h4).trans k1, fun W hW => (hW.cell (p := ⟨b, o + 1, none⟩) h4).trans k2, k3, .inr ⟨b, o + 2, c - 1, rfl, ?_, by omega, h4, fun i x hx => ?_⟩⟩
    · simp only [List.length_cons] at h2; omega
    · have := h5 (i + 1) x (by simpa using hx)
      rw [show o + 2 + i * 2 = o + (i + 1) * 2 by omega]
      exact this

/-- One premise, from a part of whose formula the step takes its conclusion. -/
def wholeP (x : Dd) (J : List Jg) (kind : Int) (k : Nat) : Prop := ∃ D, J = [(x.2.2.1, D)] ∧ kT D = kind ∧ (if k = 0 then pl D else pr D) = x.2.2.2.1

theorem fromWhole_c (x : Dd) (kind : Int) (k : Nat) (hk : k ≤ 1) (h3 : kind = 2 ∨ kind = 3 ∨ kind = 4) (up ua vJ : Value) (Js : List Jg) (w : World) (hup : Ints w up x.2.1) (hs : Strs w ua x.2.2.1) (hJ : Jgs w vJ Js) (hJg : ∀ j ∈ Js, gp j.2 = true) :
    Calls Tryz.prog 110 #[.agg #[.int .i64 x.1, up, ua, .string x.2.2.2.1, .int .i64 x.2.2.2.2], vJ, .int .i64 kind, .int .i64 k] w fun e w' => e = .returned (.bool (dcd (wholeP x Js kind k))) ∧ Grew w w' := by
  obtain ⟨R, P, A, C, N⟩ := x
  simp only at hup hs ⊢
  obtain ⟨VP, cp, rfl⟩ := ints_slice hup
  have HS := Lib.hid hs
  obtain ⟨UA, ca, rfl⟩ := strs_slice hs
  have hal := (Grew.refl w).alloc (.cells #[.int .i64 R, .slice VP P.length cp, .slice UA A.length ca, .string C, .int .i64 N] 52)
  have r0 := Grew.refl (w.alloc (.cells #[.int .i64 R, .slice VP P.length cp, .slice UA A.length ca, .string C, .int .i64 N] 52))
  have d0 := r0.drew
  have gd0 := hal.trans d0
  have f2 : ∀ W, Grew (w.alloc (.cells #[.int .i64 R, .slice VP P.length cp, .slice UA A.length ca, .string C, .int .i64 N] 52)) W → W.cell? ⟨w.heap.size, 2, none⟩ = some (.slice UA A.length ca) := fun W hW => (hW.cell (p := ⟨w.heap.size, 2, none⟩) (by simp)).trans (by simp)
  have f3 : ∀ W, Grew (w.alloc (.cells #[.int .i64 R, .slice VP P.length cp, .slice UA A.length ca, .string C, .int .i64 N] 52)) W → W.cell? ⟨w.heap.size, 3, none⟩ = some (.string C) := fun W hW => (hW.cell (p := ⟨w.heap.size, 3, none⟩) (by simp)).trans (by simp)
  clear hup hs
  match Js, hJ, hJg with
  | [], hJ, hJg =>
    rw [dcd_false (fun h => by obtain ⟨D, h, _⟩ := h; cases h)]
    obtain ⟨JA, jc, rfl⟩ := jgs_slice hJ
    simp only [List.length_nil]
    clear hJ hJg HS
    generalize P.length = pln at *
    generalize A.length = al at *
    go_enter Tryz.func110, Tryz.ntmps110
    go_wp2_with fail
    go_quiet (fail)
    go_wp2_with fail
    go_ret
    exact ⟨rfl, hal.drewN _⟩
  | [j], hJ, hJg =>
    obtain ⟨jb, jo, jc, u, rfl, hjc, hjm, q1, q2, hu, _⟩ := hJ.head
    have hgj := hJg j (by simp)
    have HU := Lib.hid hu
    obtain ⟨U, cu, rfl⟩ := strs_slice hu
    have hga1 := fun W (hW : Grew (w.alloc (.cells #[.int .i64 R, .slice VP P.length cp, .slice UA A.length ca, .string C, .int .i64 N] 52)) W) => q1 W (hal.trans hW)
    have hga2 := fun W (hW : Grew (w.alloc (.cells #[.int .i64 R, .slice VP P.length cp, .slice UA A.length ca, .string C, .int .i64 N] 52)) W) => q2 W (hal.trans hW)
    have KE := fun W (hW : Grew w W) => equalS_c _ _ j.1 A W (HU.out.grew hW) (HS.out.grew hW)
    have hl1 : ([] : List Jg).length + 1 = 1 := rfl
    rw [hl1] at hjc ⊢
    clear hJ hJg hu q1 q2 hl1
    have hW1 : wholeP (R, P, A, C, N) [j] kind k ↔ (j.1 = A ∧ kT j.2 = kind ∧ (if k = 0 then pl j.2 else pr j.2) = C) := by
      constructor
      · rintro ⟨D, h, h1, h2⟩
        simp only [List.cons.injEq, and_true] at h
        subst h
        exact ⟨rfl, h1, h2⟩
      · rintro ⟨h, h1, h2⟩
        exact ⟨j.2, by rw [← h], h1, h2⟩
    rw [dcd_congr hW1]
    clear hW1
    by_cases hA : j.1 = A
    · rw [show @decide (j.1 = A) (Classical.propDecidable _) = true from @decide_eq_true _ (Classical.propDecidable _) hA] at KE
      replace KE := Lib.hid KE
      rw [dcd_congr (⟨fun h => h.2, fun h => ⟨hA, h⟩⟩ : (j.1 = A ∧ kT j.2 = kind ∧ (if k = 0 then pl j.2 else pr j.2) = C) ↔ (kT j.2 = kind ∧ (if k = 0 then pl j.2 else pr j.2) = C))]
      clear HU HS hA
      by_cases hkd : kT j.2 = kind
      · rw [dcd_congr (⟨fun h => h.2, fun h => ⟨hkd, h⟩⟩ : (kT j.2 = kind ∧ (if k = 0 then pl j.2 else pr j.2) = C) ↔ (if k = 0 then pl j.2 else pr j.2) = C)]
        have KP := Lib.hid (fun w => pw_yes kind j.2 w hgj hkd h3)
        clear hkd hgj h3
        have hk2 : k = 0 ∨ k = 1 := by omega
        generalize P.length = pln at *
        generalize A.length = al at *
        generalize j.1.length = jl at *
        generalize pl j.2 = tp at *
        generalize pr j.2 = tq at *
        generalize j.2 = js at *
        rcases hk2 with rfl | rfl
        · rw [if_pos rfl]
          by_cases hst : tp = C
          · rw [dcd_true hst]
            have hst2 := hst.symm
            subst hst2
            clear hst
            go_enter Tryz.func110, Tryz.ntmps110
            go_wp2_with fail
            go_region_held3 (fun w' => Grew (w.alloc (.cells #[.int .i64 R, .slice VP pln cp, .slice UA al ca, .string C, .int .i64 N] 52)) w') (with_reducible assumption)
              (first | (go_at_call 111; refine (KE.out _ gd0).mono ?_; rintro e w1 ⟨rfl, hg1⟩; have hk1 := d0.trans hg1))
            have g1 := hal.trans hk1
            go_wp2_with fail
            refine (KP.out _).mono ?_
            rintro e w2 ⟨v2, rfl, ho2, hg2⟩
            obtain ⟨b1, o1, c1, rfl, hc1, hm1, hb1, hf1⟩ := strs_two ho2.strs
            clear ho2
            have k1 := fun W (hW : Grew w2 W) => (hf1 W hW).1
            have k2 := fun W (hW : Grew w2 W) => (hf1 W hW).2
            clear hf1
            have g2 := g1.trans hg2
            have r2 := Grew.refl w2
            have f3b := fun W (hW : Grew w2 W) => f3 W ((hk1.trans hg2).trans hW)
            go_wp2_with fail
            go_quiet (fail)
            go_wp2_with fail
            go_ret
            exact ⟨rfl, g2.drewN _⟩
          · rw [dcd_false hst]
            have hb1 := bytes_ne hst
            clear hst
            go_enter Tryz.func110, Tryz.ntmps110
            go_wp2_with fail
            go_region_held3 (fun w' => Grew (w.alloc (.cells #[.int .i64 R, .slice VP pln cp, .slice UA al ca, .string C, .int .i64 N] 52)) w') (with_reducible assumption)
              (first | (go_at_call 111; refine (KE.out _ gd0).mono ?_; rintro e w1 ⟨rfl, hg1⟩; have hk1 := d0.trans hg1))
            have g1 := hal.trans hk1
            go_wp2_with fail
            refine (KP.out _).mono ?_
            rintro e w2 ⟨v2, rfl, ho2, hg2⟩
            obtain ⟨b1, o1, c1, rfl, hc1, hm1, hb1, hf1⟩ := strs_two ho2.strs
            clear ho2
            have k1 := fun W (hW : Grew w2 W) => (hf1 W hW).1
            have k2 := fun W (hW : Grew w2 W) => (hf1 W hW).2
            clear hf1
            have g2 := g1.trans hg2
            have r2 := Grew.refl w2
            have f3b := fun W (hW : Grew w2 W) => f3 W ((hk1.trans hg2).trans hW)
            go_wp2_with fail
            go_quiet (fail)
            go_wp2_with fail
            go_ret
            exact ⟨rfl, g2.drewN _⟩
        · rw [if_neg (by decide)]
          by_cases hst : tq = C
          · rw [dcd_true hst]
            have hst2 := hst.symm
            subst hst2
            clear hst
            go_enter Tryz.func110, Tryz.ntmps110
            go_wp2_with fail
            go_region_held3 (fun w' => Grew (w.alloc (.cells #[.int .i64 R, .slice VP pln cp, .slice UA al ca, .string C, .int .i64 N] 52)) w') (with_reducible assumption)
              (first | (go_at_call 111; refine (KE.out _ gd0).mono ?_; rintro e w1 ⟨rfl, hg1⟩; have hk1 := d0.trans hg1))
            have g1 := hal.trans hk1
            go_wp2_with fail
            refine (KP.out _).mono ?_
            rintro e w2 ⟨v2, rfl, ho2, hg2⟩
            obtain ⟨b1, o1, c1, rfl, hc1, hm1, hb1, hf1⟩ := strs_two ho2.strs
            clear ho2
            have k1 := fun W (hW : Grew w2 W) => (hf1 W hW).1
            have k2 := fun W (hW : Grew w2 W) => (hf1 W hW).2
            clear hf1
            have g2 := g1.trans hg2
            have r2 := Grew.refl w2
            have f3b := fun W (hW : Grew w2 W) => f3 W ((hk1.trans hg2).trans hW)
            go_wp2_with fail
            go_quiet (fail)
            go_wp2_with fail
            go_ret
            exact ⟨rfl, g2.drewN _⟩
          · rw [dcd_false hst]
            have hb1 := bytes_ne hst
            clear hst
            go_enter Tryz.func110, Tryz.ntmps110
            go_wp2_with fail
            go_region_held3 (fun w' => Grew (w.alloc (.cells #[.int .i64 R, .slice VP pln cp, .slice UA al ca, .string C, .int .i64 N] 52)) w') (with_reducible assumption)
              (first | (go_at_call 111; refine (KE.out _ gd0).mono ?_; rintro e w1 ⟨rfl, hg1⟩; have hk1 := d0.trans hg1))
            have g1 := hal.trans hk1
            go_wp2_with fail
            refine (KP.out _).mono ?_
            rintro e w2 ⟨v2, rfl, ho2, hg2⟩
            obtain ⟨b1, o1, c1, rfl, hc1, hm1, hb1, hf1⟩ := strs_two ho2.strs
            clear ho2
            have k1 := fun W (hW : Grew w2 W) => (hf1 W hW).1
            have k2 := fun W (hW : Grew w2 W) => (hf1 W hW).2
            clear hf1
            have g2 := g1.trans hg2
            have r2 := Grew.refl w2
            have f3b := fun W (hW : Grew w2 W) => f3 W ((hk1.trans hg2).trans hW)
            go_wp2_with fail
            go_quiet (fail)
            go_wp2_with fail
            go_ret
            exact ⟨rfl, g2.drewN _⟩
      · rw [dcd_false (fun h => hkd h.1)]
        have KP := Lib.hid (fun w => pw_no kind j.2 w hgj hkd)
        clear hkd hgj h3
        generalize P.length = pln at *
        generalize A.length = al at *
        generalize j.1.length = jl at *
        generalize j.2 = js at *
        go_enter Tryz.func110, Tryz.ntmps110
        go_wp2_with fail
        go_region_held3 (fun w' => Grew (w.alloc (.cells #[.int .i64 R, .slice VP pln cp, .slice UA al ca, .string C, .int .i64 N] 52)) w') (with_reducible assumption)
          (first | (go_at_call 111; refine (KE.out _ gd0).mono ?_; rintro e w1 ⟨rfl, hg1⟩; have hk1 := d0.trans hg1))
        have g1 := hal.trans hk1
        go_wp2_with fail
        refine (KP.out _).mono ?_
        rintro e w2 ⟨v2, rfl, ⟨XA, xn, xc, rfl⟩, hg2⟩
        go_wp2_with fail
        go_quiet (fail)
        go_wp2_with fail
        go_ret
        exact ⟨rfl, (g1.trans hg2).drewN _⟩
    · rw [show @decide (j.1 = A) (Classical.propDecidable _) = false from @decide_eq_false _ (Classical.propDecidable _) hA] at KE
      replace KE := Lib.hid KE
      rw [dcd_false (fun h => hA h.1)]
      clear HU HS hA hgj h3
      generalize P.length = pln at *
      generalize A.length = al at *
      generalize j.1.length = jl at *
      generalize j.2 = js at *
      go_enter Tryz.func110, Tryz.ntmps110
      go_wp2_with fail
      go_region_held3 (fun w' => Grew (w.alloc (.cells #[.int .i64 R, .slice VP pln cp, .slice UA al ca, .string C, .int .i64 N] 52)) w') (with_reducible assumption)
        (first | (go_at_call 111; refine (KE.out _ gd0).mono ?_; rintro e w1 ⟨rfl, hg1⟩; have hk1 := d0.trans hg1))
      have g1 := hal.trans hk1
      go_wp2_with fail
      go_ret
      exact ⟨rfl, g1⟩
  | j :: j2 :: Jt, hJ, hJg =>
    rw [dcd_false (fun h => by obtain ⟨D, h, _⟩ := h; simp at h)]
    obtain ⟨JA, jc, rfl⟩ := jgs_slice hJ
    have hl : (((j :: j2 :: Jt).length : Int) != 1) = true := by simp; omega
    clear hJ hJg HS
    generalize (j :: j2 :: Jt).length = jl at *
    generalize P.length = pln at *
    generalize A.length = al at *
    go_enter Tryz.func110, Tryz.ntmps110
    go_wp2_with fail
    go_quiet (fail)
    go_wp2_with fail
    go_ret
    exact ⟨rfl, hal.drewN _⟩

/-- What isElimination gives at a step. -/
def ElimC (x : Dd) : Prop := ∀ (up ua vJ : Value) (Js : List Jg) (w : World), Ints w up x.2.1 → Strs w ua x.2.2.1 → Jgs w vJ Js → (∀ j ∈ Js, gp j.2 = true) → x.2.2.1.length ≤ 12 →
    Calls Tryz.prog 86 #[.agg #[.int .i64 x.1, up, ua, .string x.2.2.2.1, .int .i64 x.2.2.2.2], vJ] w fun e w' => e = .returned (.bool (dcd (elimP x Js))) ∧ Grew w w'

theorem elim_4 (P : List Int) (A : List ByteArray) (C : ByteArray) (N : Int) : ElimC (4, P, A, C, N) := by
  intro up ua vJ Js w hup hs hJ hJg hl
  simp only at hup hs hl ⊢
  have hiff : elimP (4, P, A, C, N) Js ↔ wholeP (4, P, A, C, N) Js 2 0 := by
    unfold elimP wholeP
    simp
  rw [dcd_congr hiff]
  clear hiff
  have KF := Lib.hid (fun W (hW : Grew w W) => fromWhole_c (4, P, A, C, N) 2 0 (by decide) (by decide) up ua vJ Js W (hup.grew hW) (hs.grew hW) (hJ.grew hW) hJg)
  obtain ⟨VP, cp, rfl⟩ := ints_slice hup
  obtain ⟨UA, ca, rfl⟩ := strs_slice hs
  obtain ⟨JA, jc, rfl⟩ := jgs_slice hJ
  have hal := (Grew.refl w).alloc (.cells #[.int .i64 4, .slice VP P.length cp, .slice UA A.length ca, .string C, .int .i64 N] 52)
  clear hup hs hJ hJg hl
  simp only at KF
  generalize dcd (wholeP (4, P, A, C, N) Js 2 0) = R at *
  generalize P.length = pln at *
  generalize A.length = al at *
  generalize Js.length = jl at *
  go_enter Tryz.func86, Tryz.ntmps86
  go_wp2_with fail
  refine (KF.out _ hal).mono ?_
  rintro e w1 ⟨rfl, hg1⟩
  go_wp2_with fail
  go_ret
  exact ⟨rfl, hal.trans hg1⟩

theorem elim_5 (P : List Int) (A : List ByteArray) (C : ByteArray) (N : Int) : ElimC (5, P, A, C, N) := by
  intro up ua vJ Js w hup hs hJ hJg hl
  simp only at hup hs hl ⊢
  have hiff : elimP (5, P, A, C, N) Js ↔ wholeP (5, P, A, C, N) Js 2 1 := by
    unfold elimP wholeP
    simp
  rw [dcd_congr hiff]
  clear hiff
  have KF := Lib.hid (fun W (hW : Grew w W) => fromWhole_c (5, P, A, C, N) 2 1 (by decide) (by decide) up ua vJ Js W (hup.grew hW) (hs.grew hW) (hJ.grew hW) hJg)
  obtain ⟨VP, cp, rfl⟩ := ints_slice hup
  obtain ⟨UA, ca, rfl⟩ := strs_slice hs
  obtain ⟨JA, jc, rfl⟩ := jgs_slice hJ
  have hal := (Grew.refl w).alloc (.cells #[.int .i64 5, .slice VP P.length cp, .slice UA A.length ca, .string C, .int .i64 N] 52)
  clear hup hs hJ hJg hl
  simp only at KF
  generalize dcd (wholeP (5, P, A, C, N) Js 2 1) = R at *
  generalize P.length = pln at *
  generalize A.length = al at *
  generalize Js.length = jl at *
  go_enter Tryz.func86, Tryz.ntmps86
  go_wp2_with fail
  refine (KF.out _ hal).mono ?_
  rintro e w1 ⟨rfl, hg1⟩
  go_wp2_with fail
  go_ret
  exact ⟨rfl, hal.trans hg1⟩

theorem elim_other (R : Int) (P : List Int) (A : List ByteArray) (C : ByteArray) (N : Int) (h4 : R ≠ 4) (h5 : R ≠ 5) (h8 : R ≠ 8) (h10 : R ≠ 10) : ElimC (R, P, A, C, N) := by
  intro up ua vJ Js w hup hs hJ hJg hl
  simp only at hup hs hl ⊢
  obtain ⟨VP, cp, rfl⟩ := ints_slice hup
  have HS := Lib.hid hs
  obtain ⟨UA, ca, rfl⟩ := strs_slice hs
  have hal := (Grew.refl w).alloc (.cells #[.int .i64 R, .slice VP P.length cp, .slice UA A.length ca, .string C, .int .i64 N] 52)
  have r0 := Grew.refl (w.alloc (.cells #[.int .i64 R, .slice VP P.length cp, .slice UA A.length ca, .string C, .int .i64 N] 52))
  have d0 := r0.drew
  have gd0 := hal.trans d0
  have f0 : ∀ W, Grew (w.alloc (.cells #[.int .i64 R, .slice VP P.length cp, .slice UA A.length ca, .string C, .int .i64 N] 52)) W → W.cell? ⟨w.heap.size, 0, none⟩ = some (.int .i64 R) := fun W hW => (hW.cell (p := ⟨w.heap.size, 0, none⟩) (by simp)).trans (by simp)
  have f2 : ∀ W, Grew (w.alloc (.cells #[.int .i64 R, .slice VP P.length cp, .slice UA A.length ca, .string C, .int .i64 N] 52)) W → W.cell? ⟨w.heap.size, 2, none⟩ = some (.slice UA A.length ca) := fun W hW => (hW.cell (p := ⟨w.heap.size, 2, none⟩) (by simp)).trans (by simp)
  have f3 : ∀ W, Grew (w.alloc (.cells #[.int .i64 R, .slice VP P.length cp, .slice UA A.length ca, .string C, .int .i64 N] 52)) W → W.cell? ⟨w.heap.size, 3, none⟩ = some (.string C) := fun W hW => (hW.cell (p := ⟨w.heap.size, 3, none⟩) (by simp)).trans (by simp)
  clear hup hs
  rw [dcd_false (fun h => by unfold elimP at h; simp [h4, h5, h8, h10] at h)]
  have e4 : (R == 4) = false := by simpa using h4
  have e5 : (R == 5) = false := by simpa using h5
  have e8 : (R == 8) = false := by simpa using h8
  have e10 : (R == 10) = false := by simpa using h10
  clear h4 h5 h8 h10
  match Js, hJ, hJg with
  | [], hJ, hJg =>
    obtain ⟨JA, jc, rfl⟩ := jgs_slice hJ
    simp only [List.length_nil]
    clear hJ hJg HS
    generalize P.length = pln at *
    generalize A.length = al at *
    go_enter Tryz.func86, Tryz.ntmps86
    go_wp2_with fail
    go_quiet (fail)
    go_wp2_with fail
    go_ret
    exact ⟨rfl, hal.drewN _⟩
  | j :: Jt, hJ, hJg =>
    obtain ⟨jb, jo, jc, u, rfl, hjc, hjm, q1, q2, hu, hJt⟩ := hJ.head
    have hgj := hJg j (by simp)
    have HU := Lib.hid hu
    have HJT := Lib.hid hJt
    obtain ⟨U, cu, rfl⟩ := strs_slice hu
    have hga1 := fun W (hW : Grew (w.alloc (.cells #[.int .i64 R, .slice VP P.length cp, .slice UA A.length ca, .string C, .int .i64 N] 52)) W) => q1 W (hal.trans hW)
    have hga2 := fun W (hW : Grew (w.alloc (.cells #[.int .i64 R, .slice VP P.length cp, .slice UA A.length ca, .string C, .int .i64 N] 52)) W) => q2 W (hal.trans hW)
    have KE := fun W (hW : Grew w W) => equalS_c _ _ j.1 A W (HU.out.grew hW) (HS.out.grew hW)
    have hne0 : (((Jt.length + 1 : Nat) : Int) == 0) = false := by simp; omega
    have hz0 : (0 : Int) < ((Jt.length + 1 : Nat) : Int) := by omega
    clear hJ hu q1 q2 hJt
    clear hgj hJg HJT
    by_cases hA : j.1 = A
    · rw [show @decide (j.1 = A) (Classical.propDecidable _) = true from @decide_eq_true _ (Classical.propDecidable _) hA] at KE
      replace KE := Lib.hid KE
      clear hA HU HS
      generalize P.length = pln at *
      generalize A.length = al at *
      generalize j.1.length = jl at *
      generalize j.2 = js at *
      generalize Jt.length = jtl at *
      go_enter Tryz.func86, Tryz.ntmps86
      go_wp2_with fail
      go_region_held3 (fun w' => Grew (w.alloc (.cells #[.int .i64 R, .slice VP pln cp, .slice UA al ca, .string C, .int .i64 N] 52)) w') (with_reducible assumption)
        (first | (go_at_call 111; refine (KE.out _ gd0).mono ?_; rintro e w1 ⟨rfl, hg1⟩; have hk1 := d0.trans hg1))
      have g1 := hal.trans hk1
      go_wp2_with fail
      go_ret
      exact ⟨rfl, g1⟩
    · rw [show @decide (j.1 = A) (Classical.propDecidable _) = false from @decide_eq_false _ (Classical.propDecidable _) hA] at KE
      replace KE := Lib.hid KE
      clear hA HU HS
      generalize P.length = pln at *
      generalize A.length = al at *
      generalize j.1.length = jl at *
      generalize j.2 = js at *
      generalize Jt.length = jtl at *
      go_enter Tryz.func86, Tryz.ntmps86
      go_wp2_with fail
      go_region_held3 (fun w' => Grew (w.alloc (.cells #[.int .i64 R, .slice VP pln cp, .slice UA al ca, .string C, .int .i64 N] 52)) w') (with_reducible assumption)
        (first | (go_at_call 111; refine (KE.out _ gd0).mono ?_; rintro e w1 ⟨rfl, hg1⟩; have hk1 := d0.trans hg1))
      have g1 := hal.trans hk1
      go_wp2_with fail
      go_ret
      exact ⟨rfl, g1⟩

set_option maxHeartbeats 1000000 in
theorem elim_8 (P : List Int) (A : List ByteArray) (C : ByteArray) (N : Int) : ElimC (8, P, A, C, N) := by
  intro up ua vJ Js w hup hs hJ hJg hl
  simp only at hup hs hl ⊢
  obtain ⟨VP, cp, rfl⟩ := ints_slice hup
  have HS := Lib.hid hs
  obtain ⟨UA, ca, rfl⟩ := strs_slice hs
  have hal := (Grew.refl w).alloc (.cells #[.int .i64 8, .slice VP P.length cp, .slice UA A.length ca, .string C, .int .i64 N] 52)
  have r0 := Grew.refl (w.alloc (.cells #[.int .i64 8, .slice VP P.length cp, .slice UA A.length ca, .string C, .int .i64 N] 52))
  have d0 := r0.drew
  have gd0 := hal.trans d0
  have f0 : ∀ W, Grew (w.alloc (.cells #[.int .i64 8, .slice VP P.length cp, .slice UA A.length ca, .string C, .int .i64 N] 52)) W → W.cell? ⟨w.heap.size, 0, none⟩ = some (.int .i64 8) := fun W hW => (hW.cell (p := ⟨w.heap.size, 0, none⟩) (by simp)).trans (by simp)
  have f2 : ∀ W, Grew (w.alloc (.cells #[.int .i64 8, .slice VP P.length cp, .slice UA A.length ca, .string C, .int .i64 N] 52)) W → W.cell? ⟨w.heap.size, 2, none⟩ = some (.slice UA A.length ca) := fun W hW => (hW.cell (p := ⟨w.heap.size, 2, none⟩) (by simp)).trans (by simp)
  have f3 : ∀ W, Grew (w.alloc (.cells #[.int .i64 8, .slice VP P.length cp, .slice UA A.length ca, .string C, .int .i64 N] 52)) W → W.cell? ⟨w.heap.size, 3, none⟩ = some (.string C) := fun W hW => (hW.cell (p := ⟨w.heap.size, 3, none⟩) (by simp)).trans (by simp)
  clear hup hs
  match Js, hJ, hJg with
  | [], hJ, hJg =>
    rw [dcd_false (fun h => by unfold elimP at h; simp at h)]
    obtain ⟨JA, jc, rfl⟩ := jgs_slice hJ
    simp only [List.length_nil]
    clear hJ hJg HS
    generalize P.length = pln at *
    generalize A.length = al at *
    go_enter Tryz.func86, Tryz.ntmps86
    go_wp2_with fail
    go_quiet (fail)
    go_wp2_with fail
    go_ret
    exact ⟨rfl, hal.drewN _⟩
  | j :: Jt, hJ, hJg =>
    obtain ⟨jb, jo, jc, u, rfl, hjc, hjm, q1, q2, hu, hJt⟩ := hJ.head
    have hgj := hJg j (by simp)
    have HU := Lib.hid hu
    have HJT := Lib.hid hJt
    obtain ⟨U, cu, rfl⟩ := strs_slice hu
    have hga1 := fun W (hW : Grew (w.alloc (.cells #[.int .i64 8, .slice VP P.length cp, .slice UA A.length ca, .string C, .int .i64 N] 52)) W) => q1 W (hal.trans hW)
    have hga2 := fun W (hW : Grew (w.alloc (.cells #[.int .i64 8, .slice VP P.length cp, .slice UA A.length ca, .string C, .int .i64 N] 52)) W) => q2 W (hal.trans hW)
    have KE := fun W (hW : Grew w W) => equalS_c _ _ j.1 A W (HU.out.grew hW) (HS.out.grew hW)
    have hne0 : (((Jt.length + 1 : Nat) : Int) == 0) = false := by simp; omega
    have hz0 : (0 : Int) < ((Jt.length + 1 : Nat) : Int) := by omega
    clear hJ hu q1 q2 hJt
    have hiff : elimP (8, P, A, C, N) (j :: Jt) ↔ (j.1 = A ∧ (kT j.2 = 3 ∧ Jt = [(A ++ [pl j.2], C), (A ++ [pr j.2], C)])) := by
      unfold elimP
      obtain ⟨jA, jC⟩ := j
      constructor
      · intro h
        simp at h
        obtain ⟨D, hh⟩ := h
        simp_all
      · rintro ⟨h, h2⟩
        simp only at h h2
        subst h
        exact .inr (.inr (.inl ⟨rfl, jC, h2.1, by rw [h2.2]⟩))
    rw [dcd_congr hiff]
    clear hiff hJg
    by_cases hA : j.1 = A
    · rw [show @decide (j.1 = A) (Classical.propDecidable _) = true from @decide_eq_true _ (Classical.propDecidable _) hA] at KE
      replace KE := Lib.hid KE
      rw [dcd_congr (⟨fun h => h.2, fun h => ⟨hA, h⟩⟩ : (j.1 = A ∧ (kT j.2 = 3 ∧ Jt = [(A ++ [pl j.2], C), (A ++ [pr j.2], C)])) ↔ (kT j.2 = 3 ∧ Jt = [(A ++ [pl j.2], C), (A ++ [pr j.2], C)]))]
      clear hA HU
      by_cases hkd : kT j.2 = 3
      · have KP := Lib.hid (fun w => pw_yes 3 j.2 w hgj hkd (by decide))
        rw [dcd_congr (⟨fun h => h.2, fun h => ⟨hkd, h⟩⟩ : (kT j.2 = 3 ∧ Jt = [(A ++ [pl j.2], C), (A ++ [pr j.2], C)]) ↔ Jt = [(A ++ [pl j.2], C), (A ++ [pr j.2], C)])]
        clear hkd hgj
        have KQ := Lib.hid (fun (v1 v2 : Value) (Ks : List Jg) (W : World) (h1 : Jgs W v1 Jt) (h2 : Jgs W v2 Ks) => equalFuncJ_c v1 v2 Jt Ks W h1 h2 (enters_of Tryz.func109 (by kernel_rfl) rfl))
        have KB1 := Lib.hid (fun W (hW : Grew w W) => behind_c _ A (pl j.2) W (HS.out.grew hW) (by omega))
        have KB2 := Lib.hid (fun W (hW : Grew w W) => behind_c _ A (pr j.2) W (HS.out.grew hW) (by omega))
        unfold GivesS at KB1 KB2
        have HL1 : Hid ((A ++ [pl j.2]).length = A.length + 1) := Lib.hid (by simp)
        have HL2 : Hid ((A ++ [pr j.2]).length = A.length + 1) := Lib.hid (by simp)
        have hlit := Lib.hid (fun W u1 u2 (h1 : Strs W u1 (A ++ [pl j.2])) (h2 : Strs W u2 (A ++ [pr j.2])) => jgs_lit2 W u1 u2 (A ++ [pl j.2]) (A ++ [pr j.2]) C C 105 h1 h2)
        generalize hR : dcd (Jt = [(A ++ [pl j.2], C), (A ++ [pr j.2], C)]) = RR at *
        replace hR := Lib.hid hR
        clear HS
        generalize A ++ [pl j.2] = AP at *
        generalize A ++ [pr j.2] = AQ at *
        generalize pl j.2 = tp at *
        generalize pr j.2 = tq at *
        generalize j.2 = js at *
        generalize P.length = pln at *
        generalize hal2 : A.length = al at *
        replace hal2 := Lib.hid hal2
        generalize j.1.length = jl at *
        generalize hjt : Jt.length = jtl at *
        replace hjt := Lib.hid hjt
        have i1 : (1 : Int) ≤ (jtl : Int) + 1 := by omega
        have i2 : (jtl : Int) + 1 ≤ (jc : Int) := by omega
        have i3 : (0 : Int) ≤ (jtl : Int) := by omega
        by_cases hc1 : jc = 1
        · obtain rfl : jtl = 0 := by omega
          subst hc1
          have hJ0 : Hid (Jgs w (.slice (some ⟨jb, jo, none⟩) 0 0) Jt) := Lib.hid (by
            have h0 : Jt = [] := List.eq_nil_of_length_eq_zero hjt.out
            rw [h0]
            rcases HJT.out with ⟨h, _⟩ | ⟨b, o, c, h1, _, _, h4, _⟩
            · cases h
            · simp only [Value.slice.injEq, Option.some.injEq, Addr.mk.injEq] at h1
              exact .inr ⟨jb, jo, 0, rfl, by simp, by omega, by rw [h1.1.1]; exact h4, fun i x hx => by cases hx⟩)
          go_enter Tryz.func86, Tryz.ntmps86
          go_wp2_with fail
          go_region_held3 (fun w' => Grew (w.alloc (.cells #[.int .i64 8, .slice VP pln cp, .slice UA al ca, .string C, .int .i64 N] 52)) w') (with_reducible assumption)
            (first | (go_at_call 111; refine (KE.out _ gd0).mono ?_; rintro e w1 ⟨rfl, hg1⟩; have hk1 := d0.trans hg1))
          have g1 := hal.trans hk1
          go_wp2_with fail
          have q3 := fun W (hW : Grew w1 W) => hga2 W (hk1.trans hW)
          have r1 := Grew.refl w1
          refine (KP.out _).mono ?_
          rintro e w2 ⟨v2, rfl, ho2, hg2⟩
          obtain ⟨b1, o1, c1, rfl, hc1, hm1, hb1, hf1⟩ := strs_two ho2.strs
          clear ho2
          have k1 := fun W (hW : Grew w2 W) => (hf1 W hW).1
          have k2 := fun W (hW : Grew w2 W) => (hf1 W hW).2
          clear hf1
          have g2 := g1.trans hg2
          have r2 := Grew.refl w2
          have d2 := r2.drew
          have gd2 := g2.trans d2
          have f2b := fun W (hW : Grew w2 W) => f2 W ((hk1.trans hg2).trans hW)
          have f3b := fun W (hW : Grew w2 W) => f3 W ((hk1.trans hg2).trans hW)
          go_wp2_with fail
          go_region_held3 (fun w' => Grew w2 w') (first | with_reducible assumption | exact Grew.alloc ‹_› _)
            (first
              | (go_at_call 108; refine (KQ.out _ _ _ _ (hJ0.out.grew (gk4.alloc _)) (hlit.out _ _ _ (HB1.out.grew hg4) HB2.out)).mono ?_; rintro e w5 ⟨rfl, hg5⟩; have gk5 := (gk4.alloc _).trans hg5; have hk5 := (hk4.alloc _).trans hg5)
              | (go_at_call 107; refine (KB2.out _ gk3).mono ?_; rintro e w4 ⟨ub2, rfl, hob2, hg4⟩; have HB2 := Lib.hid hob2.strs; obtain ⟨B2, bc2, rfl⟩ := strs_slice hob2.strs; rw [HL2.out] at HB2 ⊢; clear hob2; have gk4 := gk3.trans hg4; have hk4 := hk3.trans hg4)
              | (go_at_call 107; refine (KB1.out _ gd2).mono ?_; rintro e w3 ⟨ub1, rfl, hob1, hg3⟩; have HB1 := Lib.hid hob1.strs; obtain ⟨B1, bc1, rfl⟩ := strs_slice hob1.strs; rw [HL1.out] at HB1 ⊢; clear hob1; have gk3 := gd2.trans hg3; have hk3 := d2.trans hg3))
          go_wp2_with fail
          go_ret
          exact ⟨by rw [← hR.out]; rfl, gk5⟩
        · go_enter Tryz.func86, Tryz.ntmps86
          go_wp2_with fail
          go_region_held3 (fun w' => Grew (w.alloc (.cells #[.int .i64 8, .slice VP pln cp, .slice UA al ca, .string C, .int .i64 N] 52)) w') (with_reducible assumption)
            (first | (go_at_call 111; refine (KE.out _ gd0).mono ?_; rintro e w1 ⟨rfl, hg1⟩; have hk1 := d0.trans hg1))
          have g1 := hal.trans hk1
          go_wp2_with fail
          have q3 := fun W (hW : Grew w1 W) => hga2 W (hk1.trans hW)
          have r1 := Grew.refl w1
          refine (KP.out _).mono ?_
          rintro e w2 ⟨v2, rfl, ho2, hg2⟩
          obtain ⟨b1, o1, c1, rfl, hc1, hm1, hb1, hf1⟩ := strs_two ho2.strs
          clear ho2
          have k1 := fun W (hW : Grew w2 W) => (hf1 W hW).1
          have k2 := fun W (hW : Grew w2 W) => (hf1 W hW).2
          clear hf1
          have g2 := g1.trans hg2
          have r2 := Grew.refl w2
          have d2 := r2.drew
          have gd2 := g2.trans d2
          have f2b := fun W (hW : Grew w2 W) => f2 W ((hk1.trans hg2).trans hW)
          have f3b := fun W (hW : Grew w2 W) => f3 W ((hk1.trans hg2).trans hW)
          go_wp2_with fail
          go_region_held3 (fun w' => Grew w2 w') (first | with_reducible assumption | exact Grew.alloc ‹_› _)
            (first
              | (go_at_call 108; refine (KQ.out _ _ _ _ (HJT.out.grew (gk4.alloc _)) (hlit.out _ _ _ (HB1.out.grew hg4) HB2.out)).mono ?_; rintro e w5 ⟨rfl, hg5⟩; have gk5 := (gk4.alloc _).trans hg5; have hk5 := (hk4.alloc _).trans hg5)
              | (go_at_call 107; refine (KB2.out _ gk3).mono ?_; rintro e w4 ⟨ub2, rfl, hob2, hg4⟩; have HB2 := Lib.hid hob2.strs; obtain ⟨B2, bc2, rfl⟩ := strs_slice hob2.strs; rw [HL2.out] at HB2 ⊢; clear hob2; have gk4 := gk3.trans hg4; have hk4 := hk3.trans hg4)
              | (go_at_call 107; refine (KB1.out _ gd2).mono ?_; rintro e w3 ⟨ub1, rfl, hob1, hg3⟩; have HB1 := Lib.hid hob1.strs; obtain ⟨B1, bc1, rfl⟩ := strs_slice hob1.strs; rw [HL1.out] at HB1 ⊢; clear hob1; have gk3 := gd2.trans hg3; have hk3 := d2.trans hg3))
          go_wp2_with fail
          go_ret
          exact ⟨by rw [← hR.out]; rfl, gk5⟩
      · rw [dcd_false (fun h => hkd h.1)]
        have KP := Lib.hid (fun w => pw_no 3 j.2 w hgj hkd)
        clear hkd hgj HS HJT
        generalize P.length = pln at *
        generalize A.length = al at *
        generalize j.1.length = jl at *
        generalize j.2 = js at *
        generalize Jt.length = jtl at *
        go_enter Tryz.func86, Tryz.ntmps86
        go_wp2_with fail
        go_region_held3 (fun w' => Grew (w.alloc (.cells #[.int .i64 8, .slice VP pln cp, .slice UA al ca, .string C, .int .i64 N] 52)) w') (with_reducible assumption)
          (first | (go_at_call 111; refine (KE.out _ gd0).mono ?_; rintro e w1 ⟨rfl, hg1⟩; have hk1 := d0.trans hg1))
        have g1 := hal.trans hk1
        go_wp2_with fail
        have q3 := fun W (hW : Grew w1 W) => hga2 W (hk1.trans hW)
        have r1 := Grew.refl w1
        refine (KP.out _).mono ?_
        rintro e w2 ⟨v2, rfl, ⟨XA, xn, xc, rfl⟩, hg2⟩
        go_wp2_with fail
        go_quiet (fail)
        go_wp2_with fail
        go_ret
        exact ⟨rfl, (g1.trans hg2).drewN _⟩
    · rw [show @decide (j.1 = A) (Classical.propDecidable _) = false from @decide_eq_false _ (Classical.propDecidable _) hA] at KE
      replace KE := Lib.hid KE
      rw [dcd_false (fun h => hA h.1)]
      clear hA HU HS hgj HJT
      generalize P.length = pln at *
      generalize A.length = al at *
      generalize j.1.length = jl at *
      generalize j.2 = js at *
      generalize Jt.length = jtl at *
      go_enter Tryz.func86, Tryz.ntmps86
      go_wp2_with fail
      go_region_held3 (fun w' => Grew (w.alloc (.cells #[.int .i64 8, .slice VP pln cp, .slice UA al ca, .string C, .int .i64 N] 52)) w') (with_reducible assumption)
        (first | (go_at_call 111; refine (KE.out _ gd0).mono ?_; rintro e w1 ⟨rfl, hg1⟩; have hk1 := d0.trans hg1))
      have g1 := hal.trans hk1
      go_wp2_with fail
      go_ret
      exact ⟨rfl, g1⟩

set_option maxHeartbeats 1000000 in
theorem elim_10 (P : List Int) (A : List ByteArray) (C : ByteArray) (N : Int) : ElimC (10, P, A, C, N) := by
  intro up ua vJ Js w hup hs hJ hJg hl
  simp only at hup hs hl ⊢
  obtain ⟨VP, cp, rfl⟩ := ints_slice hup
  have HS := Lib.hid hs
  obtain ⟨UA, ca, rfl⟩ := strs_slice hs
  have hal := (Grew.refl w).alloc (.cells #[.int .i64 10, .slice VP P.length cp, .slice UA A.length ca, .string C, .int .i64 N] 52)
  have r0 := Grew.refl (w.alloc (.cells #[.int .i64 10, .slice VP P.length cp, .slice UA A.length ca, .string C, .int .i64 N] 52))
  have d0 := r0.drew
  have gd0 := hal.trans d0
  have f0 : ∀ W, Grew (w.alloc (.cells #[.int .i64 10, .slice VP P.length cp, .slice UA A.length ca, .string C, .int .i64 N] 52)) W → W.cell? ⟨w.heap.size, 0, none⟩ = some (.int .i64 10) := fun W hW => (hW.cell (p := ⟨w.heap.size, 0, none⟩) (by simp)).trans (by simp)
  have f2 : ∀ W, Grew (w.alloc (.cells #[.int .i64 10, .slice VP P.length cp, .slice UA A.length ca, .string C, .int .i64 N] 52)) W → W.cell? ⟨w.heap.size, 2, none⟩ = some (.slice UA A.length ca) := fun W hW => (hW.cell (p := ⟨w.heap.size, 2, none⟩) (by simp)).trans (by simp)
  have f3 : ∀ W, Grew (w.alloc (.cells #[.int .i64 10, .slice VP P.length cp, .slice UA A.length ca, .string C, .int .i64 N] 52)) W → W.cell? ⟨w.heap.size, 3, none⟩ = some (.string C) := fun W hW => (hW.cell (p := ⟨w.heap.size, 3, none⟩) (by simp)).trans (by simp)
  clear hup hs
  match Js, hJ, hJg with
  | [], hJ, hJg =>
    rw [dcd_false (fun h => by unfold elimP at h; simp at h)]
    obtain ⟨JA, jc, rfl⟩ := jgs_slice hJ
    simp only [List.length_nil]
    clear hJ hJg HS
    generalize P.length = pln at *
    generalize A.length = al at *
    go_enter Tryz.func86, Tryz.ntmps86
    go_wp2_with fail
    go_quiet (fail)
    go_wp2_with fail
    go_ret
    exact ⟨rfl, hal.drewN _⟩
  | j :: Jt, hJ, hJg =>
    obtain ⟨jb, jo, jc, u, rfl, hjc, hjm, q1, q2, hu, hJt⟩ := hJ.head
    have hgj := hJg j (by simp)
    have HU := Lib.hid hu
    have HJT := Lib.hid hJt
    obtain ⟨U, cu, rfl⟩ := strs_slice hu
    have hga1 := fun W (hW : Grew (w.alloc (.cells #[.int .i64 10, .slice VP P.length cp, .slice UA A.length ca, .string C, .int .i64 N] 52)) W) => q1 W (hal.trans hW)
    have hga2 := fun W (hW : Grew (w.alloc (.cells #[.int .i64 10, .slice VP P.length cp, .slice UA A.length ca, .string C, .int .i64 N] 52)) W) => q2 W (hal.trans hW)
    have KE := fun W (hW : Grew w W) => equalS_c _ _ j.1 A W (HU.out.grew hW) (HS.out.grew hW)
    have hne0 : (((Jt.length + 1 : Nat) : Int) == 0) = false := by simp; omega
    have hz0 : (0 : Int) < ((Jt.length + 1 : Nat) : Int) := by omega
    clear hJ hu q1 q2 hJt
    have hiff : elimP (10, P, A, C, N) (j :: Jt) ↔ (j.1 = A ∧ (kT j.2 = 4 ∧ pr j.2 = C ∧ Jt = [(A, pl j.2)])) := by
      unfold elimP
      obtain ⟨jA, jC⟩ := j
      constructor
      · intro h
        simp at h
        obtain ⟨D, hh⟩ := h
        simp_all
      · rintro ⟨h, h2⟩
        simp only at h h2
        subst h
        exact .inr (.inr (.inr ⟨rfl, jC, h2.1, h2.2.1, by rw [h2.2.2]⟩))
    rw [dcd_congr hiff]
    clear hiff hJg
    by_cases hA : j.1 = A
    · rw [show @decide (j.1 = A) (Classical.propDecidable _) = true from @decide_eq_true _ (Classical.propDecidable _) hA] at KE
      replace KE := Lib.hid KE
      rw [dcd_congr (⟨fun h => h.2, fun h => ⟨hA, h⟩⟩ : (j.1 = A ∧ (kT j.2 = 4 ∧ pr j.2 = C ∧ Jt = [(A, pl j.2)])) ↔ (kT j.2 = 4 ∧ pr j.2 = C ∧ Jt = [(A, pl j.2)]))]
      clear hA HU
      by_cases hkd : kT j.2 = 4
      · have KP := Lib.hid (fun w => pw_yes 4 j.2 w hgj hkd (by decide))
        rw [dcd_congr (⟨fun h => h.2, fun h => ⟨hkd, h⟩⟩ : (kT j.2 = 4 ∧ pr j.2 = C ∧ Jt = [(A, pl j.2)]) ↔ (pr j.2 = C ∧ Jt = [(A, pl j.2)]))]
        clear hkd hgj
        by_cases hst : pr j.2 = C
        · rw [dcd_congr (⟨fun h => h.2, fun h => ⟨hst, h⟩⟩ : (pr j.2 = C ∧ Jt = [(A, pl j.2)]) ↔ Jt = [(A, pl j.2)])]
          have KQ := Lib.hid (fun (v1 v2 : Value) (Ks : List Jg) (W : World) (h1 : Jgs W v1 Jt) (h2 : Jgs W v2 Ks) => equalFuncJ_c v1 v2 Jt Ks W h1 h2 (enters_of Tryz.func109 (by kernel_rfl) rfl))
          rw [hst] at KP
          clear hst
          have hlit := Lib.hid (fun W (hW : Grew w W) => jgs_lit1 W _ A (pl j.2) 105 (HS.out.grew hW))
          generalize hR : dcd (Jt = [(A, pl j.2)]) = RR at *
          replace hR := Lib.hid hR
          clear HS
          generalize pl j.2 = tp at *
          generalize j.2 = js at *
          generalize P.length = pln at *
          generalize hal2 : A.length = al at *
          replace hal2 := Lib.hid hal2
          generalize j.1.length = jl at *
          generalize hjt : Jt.length = jtl at *
          replace hjt := Lib.hid hjt
          have i1 : (1 : Int) ≤ (jtl : Int) + 1 := by omega
          have i2 : (jtl : Int) + 1 ≤ (jc : Int) := by omega
          have i3 : (0 : Int) ≤ (jtl : Int) := by omega
          by_cases hc1 : jc = 1
          · obtain rfl : jtl = 0 := by omega
            subst hc1
            have hJ0 : Hid (Jgs w (.slice (some ⟨jb, jo, none⟩) 0 0) Jt) := Lib.hid (by
              have h0 : Jt = [] := List.eq_nil_of_length_eq_zero hjt.out
              rw [h0]
              rcases HJT.out with ⟨h, _⟩ | ⟨b, o, c, h1, _, _, h4, _⟩
              · cases h
              · simp only [Value.slice.injEq, Option.some.injEq, Addr.mk.injEq] at h1
                exact .inr ⟨jb, jo, 0, rfl, by simp, by omega, by rw [h1.1.1]; exact h4, fun i x hx => by cases hx⟩)
            go_enter Tryz.func86, Tryz.ntmps86
            go_wp2_with fail
            go_region_held3 (fun w' => Grew (w.alloc (.cells #[.int .i64 10, .slice VP pln cp, .slice UA al ca, .string C, .int .i64 N] 52)) w') (with_reducible assumption)
              (first | (go_at_call 111; refine (KE.out _ gd0).mono ?_; rintro e w1 ⟨rfl, hg1⟩; have hk1 := d0.trans hg1))
            have g1 := hal.trans hk1
            go_wp2_with fail
            have q3 := fun W (hW : Grew w1 W) => hga2 W (hk1.trans hW)
            have r1 := Grew.refl w1
            refine (KP.out _).mono ?_
            rintro e w2 ⟨v2, rfl, ho2, hg2⟩
            obtain ⟨b1, o1, c1, rfl, hc1, hm1, hb1, hf1⟩ := strs_two ho2.strs
            clear ho2
            have k1 := fun W (hW : Grew w2 W) => (hf1 W hW).1
            have k2 := fun W (hW : Grew w2 W) => (hf1 W hW).2
            clear hf1
            have g2 := g1.trans hg2
            have r2 := Grew.refl w2
            have d2 := r2.drew
            have gd2 := g2.trans d2
            have f2b := fun W (hW : Grew w2 W) => f2 W ((hk1.trans hg2).trans hW)
            have f3b := fun W (hW : Grew w2 W) => f3 W ((hk1.trans hg2).trans hW)
            go_wp2_with fail
            go_region_held3 (fun w' => Grew w2 w') (first | with_reducible assumption | exact Grew.alloc ‹_› _)
              (first | (go_at_call 108; refine (KQ.out _ _ _ _ (hJ0.out.grew ((g2.alloc _).drew)) ((hlit.out _ g2).grew (Grew.refl _).drew)).mono ?_; rintro e w5 ⟨rfl, hg5⟩; have gk5 := ((g2.alloc _).drew).trans hg5; have hk5 := ((r2.alloc _).drew).trans hg5))
            go_wp2_with fail
            go_ret
            exact ⟨by rw [← hR.out]; rfl, gk5⟩
          · go_enter Tryz.func86, Tryz.ntmps86
            go_wp2_with fail
            go_region_held3 (fun w' => Grew (w.alloc (.cells #[.int .i64 10, .slice VP pln cp, .slice UA al ca, .string C, .int .i64 N] 52)) w') (with_reducible assumption)
              (first | (go_at_call 111; refine (KE.out _ gd0).mono ?_; rintro e w1 ⟨rfl, hg1⟩; have hk1 := d0.trans hg1))
            have g1 := hal.trans hk1
            go_wp2_with fail
            have q3 := fun W (hW : Grew w1 W) => hga2 W (hk1.trans hW)
            have r1 := Grew.refl w1
            refine (KP.out _).mono ?_
            rintro e w2 ⟨v2, rfl, ho2, hg2⟩
            obtain ⟨b1, o1, c1, rfl, hc1, hm1, hb1, hf1⟩ := strs_two ho2.strs
            clear ho2
            have k1 := fun W (hW : Grew w2 W) => (hf1 W hW).1
            have k2 := fun W (hW : Grew w2 W) => (hf1 W hW).2
            clear hf1
            have g2 := g1.trans hg2
            have r2 := Grew.refl w2
            have d2 := r2.drew
            have gd2 := g2.trans d2
            have f2b := fun W (hW : Grew w2 W) => f2 W ((hk1.trans hg2).trans hW)
            have f3b := fun W (hW : Grew w2 W) => f3 W ((hk1.trans hg2).trans hW)
            go_wp2_with fail
            go_region_held3 (fun w' => Grew w2 w') (first | with_reducible assumption | exact Grew.alloc ‹_› _)
              (first | (go_at_call 108; refine (KQ.out _ _ _ _ (HJT.out.grew ((g2.alloc _).drew)) ((hlit.out _ g2).grew (Grew.refl _).drew)).mono ?_; rintro e w5 ⟨rfl, hg5⟩; have gk5 := ((g2.alloc _).drew).trans hg5; have hk5 := ((r2.alloc _).drew).trans hg5))
            go_wp2_with fail
            go_ret
            exact ⟨by rw [← hR.out]; rfl, gk5⟩
        · rw [dcd_false (fun h => hst h.1)]
          have hb1 := bytes_ne hst
          clear hst HS HJT
          generalize pl j.2 = tp at *
          generalize pr j.2 = tq at *
          generalize j.2 = js at *
          generalize P.length = pln at *
          generalize hal2 : A.length = al at *
          replace hal2 := Lib.hid hal2
          generalize j.1.length = jl at *
          generalize hjt : Jt.length = jtl at *
          replace hjt := Lib.hid hjt
          go_enter Tryz.func86, Tryz.ntmps86
          go_wp2_with fail
          go_region_held3 (fun w' => Grew (w.alloc (.cells #[.int .i64 10, .slice VP pln cp, .slice UA al ca, .string C, .int .i64 N] 52)) w') (with_reducible assumption)
            (first | (go_at_call 111; refine (KE.out _ gd0).mono ?_; rintro e w1 ⟨rfl, hg1⟩; have hk1 := d0.trans hg1))
          have g1 := hal.trans hk1
          go_wp2_with fail
          have q3 := fun W (hW : Grew w1 W) => hga2 W (hk1.trans hW)
          have r1 := Grew.refl w1
          refine (KP.out _).mono ?_
          rintro e w2 ⟨v2, rfl, ho2, hg2⟩
          obtain ⟨b1, o1, c1, rfl, hc1, hm1, hb1, hf1⟩ := strs_two ho2.strs
          clear ho2
          have k1 := fun W (hW : Grew w2 W) => (hf1 W hW).1
          have k2 := fun W (hW : Grew w2 W) => (hf1 W hW).2
          clear hf1
          have g2 := g1.trans hg2
          have r2 := Grew.refl w2
          have d2 := r2.drew
          have gd2 := g2.trans d2
          have f2b := fun W (hW : Grew w2 W) => f2 W ((hk1.trans hg2).trans hW)
          have f3b := fun W (hW : Grew w2 W) => f3 W ((hk1.trans hg2).trans hW)
          go_wp2_with fail
          go_quiet (fail)
          go_wp2_with fail
          go_ret
          exact ⟨rfl, g2.drewN _⟩
      · rw [dcd_false (fun h => hkd h.1)]
        have KP := Lib.hid (fun w => pw_no 4 j.2 w hgj hkd)
        clear hkd hgj HS HJT
        generalize P.length = pln at *
        generalize A.length = al at *
        generalize j.1.length = jl at *
        generalize j.2 = js at *
        generalize Jt.length = jtl at *
        go_enter Tryz.func86, Tryz.ntmps86
        go_wp2_with fail
        go_region_held3 (fun w' => Grew (w.alloc (.cells #[.int .i64 10, .slice VP pln cp, .slice UA al ca, .string C, .int .i64 N] 52)) w') (with_reducible assumption)
          (first | (go_at_call 111; refine (KE.out _ gd0).mono ?_; rintro e w1 ⟨rfl, hg1⟩; have hk1 := d0.trans hg1))
        have g1 := hal.trans hk1
        go_wp2_with fail
        have q3 := fun W (hW : Grew w1 W) => hga2 W (hk1.trans hW)
        have r1 := Grew.refl w1
        refine (KP.out _).mono ?_
        rintro e w2 ⟨v2, rfl, ⟨XA, xn, xc, rfl⟩, hg2⟩
        go_wp2_with fail
        go_quiet (fail)
        go_wp2_with fail
        go_ret
        exact ⟨rfl, (g1.trans hg2).drewN _⟩
    · rw [show @decide (j.1 = A) (Classical.propDecidable _) = false from @decide_eq_false _ (Classical.propDecidable _) hA] at KE
      replace KE := Lib.hid KE
      rw [dcd_false (fun h => hA h.1)]
      clear hA HU HS hgj HJT
      generalize P.length = pln at *
      generalize A.length = al at *
      generalize j.1.length = jl at *
      generalize j.2 = js at *
      generalize Jt.length = jtl at *
      go_enter Tryz.func86, Tryz.ntmps86
      go_wp2_with fail
      go_region_held3 (fun w' => Grew (w.alloc (.cells #[.int .i64 10, .slice VP pln cp, .slice UA al ca, .string C, .int .i64 N] 52)) w') (with_reducible assumption)
        (first | (go_at_call 111; refine (KE.out _ gd0).mono ?_; rintro e w1 ⟨rfl, hg1⟩; have hk1 := d0.trans hg1))
      have g1 := hal.trans hk1
      go_wp2_with fail
      go_ret
      exact ⟨rfl, g1⟩

theorem isElimination_c (x : Dd) : ElimC x := by
  obtain ⟨R, P, A, C, N⟩ := x
  by_cases h4 : R = 4
  · subst h4; exact elim_4 P A C N
  by_cases h5 : R = 5
  · subst h5; exact elim_5 P A C N
  by_cases h8 : R = 8
  · subst h8; exact elim_8 P A C N
  by_cases h10 : R = 10
  · subst h10; exact elim_10 P A C N
  exact elim_other R P A C N h4 h5 h8 h10
end Go.Proofs.YtfpkfgimhanekaaGreatDoor

/- isGoodDeduction, firstBadDeduction of the program. -/
namespace Go.Proofs.YtfpkfgimhanekaaGreatDoor
open Go.RowKit

theorem judgement_c (x : Dd) (up ua : Value) (w : World) (hup : Ints w up x.2.1) (hs : Strs w ua x.2.2.1) :
    Calls Tryz.prog 84 #[.agg #[.int .i64 x.1, up, ua, .string x.2.2.2.1, .int .i64 x.2.2.2.2]] w fun e w' => e = .returned (.agg #[ua, .string x.2.2.2.1]) ∧ Grew w w' := by
  obtain ⟨A, c, rfl⟩ := ints_slice hup
  obtain ⟨B, d, rfl⟩ := strs_slice hs
  clear hup hs
  generalize x.1 = xr at *
  generalize x.2.1.length = l1 at *
  generalize x.2.2.1.length = l2 at *
  generalize x.2.2.2.1 = xc at *
  generalize x.2.2.2.2 = xn at *
  go_enter Tryz.func84, Tryz.ntmps84
  go_wp2_with fail
  (try simp only [Exit.inBlock, Exit.then])
  have hinfo : (Tryz.prog.info? 105).map (·.size) = some 2 := by kernel_rfl
  have hb : ∀ o1 o2, ((w.alloc o1).alloc o2).heap[w.heap.size + 1]? = some o2 := fun o1 o2 => by
    have h := blk_new (w.alloc o1) o2
    have e : (w.alloc o1).heap.size = w.heap.size + 1 := by simp
    rwa [e] at h
  refine bodyPost_ret (results_cell_row rfl _ _ (w.heap.size + 1) _ _ _ _ rfl (hb _ _) Tryz.underlying105 rfl hinfo) rfl ?_
  exact ⟨rfl, ((Grew.refl w).alloc _).alloc _⟩

/-- What the premises conclude, up to one. -/
def givenN (bef : List Dd) (P : List Int) (n : Nat) : List Jg := given bef (P.take n)
theorem givenN_succ {bef : List Dd} {P : List Int} {n m : Nat} {y : Dd} (hn : n < P.length) (hm : it P n = (m : Int)) (hy : bef[m]? = some y) : givenN bef P (n + 1) = givenN bef P n ++ [jd y] := by
  unfold givenN given
  rw [List.take_succ_eq_append_getElem hn, List.map_append, List.map_singleton, it_get hn, hm, Int.toNat_natCast]
  simp [List.getD, hy]
theorem givenN_all (bef : List Dd) (P : List Int) : givenN bef P P.length = given bef P := by unfold givenN; rw [List.take_length]
theorem givenN_len (bef : List Dd) (P : List Int) (n : Nat) : (givenN bef P n).length ≤ P.length := by unfold givenN given; simp; omega
/-- The first n premises are there. -/
def Prem (bef : List Dd) (P : List Int) (n : Nat) : Prop := ∀ i, i < n → 0 ≤ it P i ∧ it P i ≤ (bef.length : Int) - 1
theorem prem_all {bef : List Dd} {P : List Int} : Prem bef P P.length ↔ ∀ k ∈ P, 0 ≤ k ∧ k ≤ (bef.length : Int) - 1 := by
  constructor
  · intro h k hk
    obtain ⟨i, hi, rfl⟩ := List.getElem_of_mem hk
    rw [it_get hi]
    exact h i hi
  · intro h i hi
    have := h _ (List.getElem_mem hi)
    rwa [it_get hi] at this
theorem given_gp {bef : List Dd} {P : List Int} (hb : ∀ y ∈ bef, gp y.2.2.2.1 = true) (hP : ∀ k ∈ P, 0 ≤ k ∧ k ≤ (bef.length : Int) - 1) : ∀ j ∈ given bef P, gp j.2 = true := by
  intro j hj
  unfold given at hj
  rw [List.mem_map] at hj
  obtain ⟨k, hk, rfl⟩ := hj
  have h1 := hP k hk
  have hlt : k.toNat < bef.length := by omega
  have := hb _ (List.getElem_mem hlt)
  simpa [List.getD, hlt, jd] using this

set_option maxHeartbeats 2000000 in
theorem isGoodDeduction_c (bef : List Dd) (vb : Value) (x : Dd) (up ua : Value) (w : World) (hb : Dds w vb bef) (hup : Ints w up x.2.1) (hs : Strs w ua x.2.2.1) (hfx : FitDd x) (hgb : ∀ y ∈ bef, gp y.2.2.2.1 = true) (hbl : bef.length ≤ 1000) :
    Calls Tryz.prog 71 #[vb, .agg #[.int .i64 x.1, up, ua, .string x.2.2.2.1, .int .i64 x.2.2.2.2]] w fun e w' => e = .returned (.bool (dcd (goodP bef x))) ∧ Grew w w' := by
  have KA := fun W (hW : Grew w W) => isAssumptionList_c ua x.2.2.1 W (hs.grew hW) hfx.2.2.1
  have KC := fun W => isPlainText_c x.2.2.2.1 W (by have := hfx.2.2.2; omega)
  have HI := fun (ha : asl x.2.2.1 = true) (hc : gp x.2.2.2.1 = true) vJ Js W (hW : Grew w W) hJ => isIntroduction_c x up ua vJ Js W (hup.grew hW) (hs.grew hW) hJ hc (asl_map ha).1
  have HE := fun (ha : asl x.2.2.1 = true) vJ Js W (hW : Grew w W) hJ hg => isElimination_c x up ua vJ Js W (hup.grew hW) (hs.grew hW) hJ hg (asl_map ha).1
  obtain ⟨UA, ca, rfl⟩ := strs_slice hs
  have hpl := hfx.1
  have hal := (Grew.refl w).alloc (.cells #[.int .i64 x.1, up, .slice UA x.2.2.1.length ca, .string x.2.2.2.1, .int .i64 x.2.2.2.2] 52)
  have f : ∀ W, Grew (w.alloc (.cells #[.int .i64 x.1, up, .slice UA x.2.2.1.length ca, .string x.2.2.2.1, .int .i64 x.2.2.2.2] 52)) W → W.cell? ⟨w.heap.size, 0, none⟩ = some (.int .i64 x.1) ∧ W.cell? ⟨w.heap.size, 1, none⟩ = some up ∧ W.cell? ⟨w.heap.size, 2, none⟩ = some (.slice UA x.2.2.1.length ca) ∧ W.cell? ⟨w.heap.size, 3, none⟩ = some (.string x.2.2.2.1) ∧ W.cell? ⟨w.heap.size, 4, none⟩ = some (.int .i64 x.2.2.2.2) := fun W hW =>
    ⟨(hW.cell (p := ⟨w.heap.size, 0, none⟩) (by simp)).trans (by simp), (hW.cell (p := ⟨w.heap.size, 1, none⟩) (by simp)).trans (by simp), (hW.cell (p := ⟨w.heap.size, 2, none⟩) (by simp)).trans (by simp), (hW.cell (p := ⟨w.heap.size, 3, none⟩) (by simp)).trans (by simp), (hW.cell (p := ⟨w.heap.size, 4, none⟩) (by simp)).trans (by simp)⟩
  have ra := Grew.refl (w.alloc (.cells #[.int .i64 x.1, up, .slice UA x.2.2.1.length ca, .string x.2.2.2.1, .int .i64 x.2.2.2.2] 52))
  have HF := Lib.hid f
  have F0 := fun W hW => (f W hW).1
  have F1 := fun W hW => (f W hW).2.1
  have F2 := fun W hW => (f W hW).2.2.1
  have F3 := fun W hW => (f W hW).2.2.2.1
  have F4 := fun W hW => (f W hW).2.2.2.2
  clear f
  obtain ⟨VB, vc, hvb⟩ := Dds_slice hb
  by_cases ha : asl x.2.2.1 = true
  · rw [ha] at KA
    by_cases hc : gp x.2.2.2.1 = true
    · rw [hc] at KC
      by_cases hn : x.1 = 1 ∨ x.2.2.2.2 = 0
      · -- the loop
        have HI2 := Lib.hid (HI ha hc)
        have HE2 := Lib.hid (HE ha)
        have hgoal : goodP bef x ↔ (Prem bef x.2.1 x.2.1.length ∧ (introP x (given bef x.2.1) ∨ elimP x (given bef x.2.1))) := by
          unfold goodP
          rw [prem_all]
          exact ⟨fun h => ⟨h.2.1, h.2.2⟩, fun h => ⟨⟨ha, hc, hn⟩, h.1, h.2⟩⟩
        rw [dcd_congr hgoal]
        clear hgoal HI HE ha hc
        have hnn : (x.1 != 1) = false ∨ ((x.1 != 1) = true ∧ (x.2.2.2.2 != 0) = false) := by
          by_cases h1 : x.1 = 1
          · exact .inl (by simpa using h1)
          · exact .inr ⟨by simpa using h1, by simpa using hn.resolve_left h1⟩
        obtain ⟨A, cP, rfl⟩ := ints_slice hup
        subst hvb
        have HUP := Lib.hid hup
        have HBD := Lib.hid hb
        have HGB := Lib.hid hgb
        obtain ⟨w0, hw0⟩ : ∃ w0, w0 = w.alloc (.cells #[.int .i64 x.1, .slice A x.2.1.length cP, .slice UA x.2.2.1.length ca, .string x.2.2.2.1, .int .i64 x.2.2.2.2] 52) := ⟨_, rfl⟩
        have hal0 : Grew w w0 := by rw [hw0]; exact hal
        have F00 : ∀ W, Grew w0 W → W.cell? ⟨w.heap.size, 0, none⟩ = some (.int .i64 x.1) := by rw [hw0]; exact F0
        have F10 : ∀ W, Grew w0 W → W.cell? ⟨w.heap.size, 1, none⟩ = some (.slice A x.2.1.length cP) := by rw [hw0]; exact F1
        have F20 : ∀ W, Grew w0 W → W.cell? ⟨w.heap.size, 2, none⟩ = some (.slice UA x.2.2.1.length ca) := by rw [hw0]; exact F2
        have F30 : ∀ W, Grew w0 W → W.cell? ⟨w.heap.size, 3, none⟩ = some (.string x.2.2.2.1) := by rw [hw0]; exact F3
        have F40 : ∀ W, Grew w0 W → W.cell? ⟨w.heap.size, 4, none⟩ = some (.int .i64 x.2.2.2.2) := by rw [hw0]; exact F4
        replace hw0 := Lib.hid hw0
        replace KA := Lib.hid KA
        replace KC := Lib.hid KC
        replace F00 := Lib.hid F00
        replace F10 := Lib.hid F10
        replace F20 := Lib.hid F20
        replace F30 := Lib.hid F30
        replace F40 := Lib.hid F40
        clear hup hb hs hfx hn hgb
        go_enter Tryz.func71, Tryz.ntmps71
        go_wp2_with fail
        refine (KA.out _ hal).mono ?_
        rintro e w1 ⟨rfl, hg1⟩
        have G3 := F3 _ hg1
        have G0 := F0 _ hg1
        go_wp2_with fail
        refine (KC.out _).mono ?_
        rintro e w2 ⟨rfl, hg2⟩
        have g2 : Grew w0 w2 := by rw [hw0.out]; exact hg1.trans hg2
        have K0 := F00.out _ g2
        have K1 := F10.out _ g2
        have K4 := F40.out _ g2
        clear F0 F1 F2 F3 F4 HF G3 G0
        rcases hnn with e1 | ⟨e1, e2⟩
        all_goals
          go_wp2_with fail
          go_loopw [5, 7, 31] (fun v5 _ i wr => ∃ j : Nat, j ≤ x.2.1.length ∧ i = .int .i64 j ∧ OwnJ w0 wr w0.heap.size v5 (givenN bef x.2.1 j) ∧ Grew w0 wr ∧ Hid (Prem bef x.2.1 j)) (fun _ _ i _ => x.2.1.length - (intOf i).toNat)
          case atStart => exact ⟨0, Nat.zero_le _, rfl, OwnJ.nil_ _ _ _, g2, Lib.hid (fun i hi => absurd hi (by omega))⟩
          case round =>
            obtain ⟨j, hj, rfl, hO, hB, HP⟩ := hrel
            have hB0 := hal0.trans hB
            have hJl := givenN_len bef x.2.1 j
            by_cases hlt : j < x.2.1.length
            · rcases HUP.out.open_ with ⟨_, h0⟩ | ⟨b1, o1, c1, hv1, _, hm1, hb1, hc1⟩
              · rw [h0] at hlt; simp at hlt
              obtain ⟨rfl, rfl⟩ : A = some ⟨b1, o1, none⟩ ∧ cP = c1 := by simpa using hv1
              have q1 := hc1 j hlt _ hB0
              clear hv1 hc1
              have KR := fun W => inRange_c (it x.2.1 j) 0 ((bef.length : Int) - 1) W
              by_cases hr : 0 ≤ it x.2.1 j ∧ it x.2.1 j ≤ (bef.length : Int) - 1
              · rw [decide_eq_true hr] at KR
                replace KR := Lib.hid KR
                obtain ⟨m, hm⟩ : ∃ m : Nat, it x.2.1 j = m := ⟨(it x.2.1 j).toNat, by omega⟩
                have hmb : m < bef.length := by omega
                rcases HBD.out with ⟨_, h0⟩ | ⟨b2, o2, c2, hv2, _, hm2, hb2, hc2⟩
                · rw [h0] at hmb; simp at hmb
                obtain ⟨rfl, rfl⟩ : VB = some ⟨b2, o2, none⟩ ∧ vc = c2 := by simpa using hv2
                have hy : bef[m]? = some bef[m] := List.getElem?_eq_getElem hmb
                generalize bef[m] = y at hy
                obtain ⟨yp, ya, hcy, hyp, hys⟩ := hc2 m y hy
                clear hv2 hc2
                have HST := Lib.hid (givenN_succ hlt hm hy)
                have HCY := Lib.hid hcy
                have HPN : Hid (Prem bef x.2.1 (j + 1)) := Lib.hid (fun i hi => by
                  rcases Nat.lt_or_ge i j with hk | hk
                  · exact HP.out i hk
                  · obtain rfl : i = j := by omega
                    exact hr)
                rw [hm] at q1 KR
                have KJ := Lib.hid (fun W (hW : Grew wr W) => judgement_c y yp ya W (hyp.grew (hB0.trans hW)) (hys.grew (hB0.trans hW)))
                have HYS := Lib.hid (hys.grew hal0)
                clear hcy hr hm hy hyp hys
                generalize givenN bef x.2.1 j = X at *
                go_wp2_with fail
                refine (KR.out _).mono ?_
                rintro e w3 ⟨rfl, hg3⟩
                obtain ⟨r0, r1, r2, r3, r4⟩ := HCY.out.grew hb2 (hB0.trans hg3)
                go_wp2_with fail
                refine (KJ.out _ hg3).mono ?_
                rintro e w4 ⟨rfl, hg4⟩
                have hO1 := hO.grew ((hg3.trans hg4).trans ((Grew.refl w4).alloc (.cells #[ya, .string y.2.2.2.1] 105)))
                have hB1 := (hB.trans (hg3.trans hg4)).alloc (.cells #[ya, .string y.2.2.2.1] 105)
                go_wp2_with (first | (at_builtin; refine wpList_appJ (w0 := w0) _ _ rfl rfl _ X rfl hO1 hB1 _ _ (jd y) rfl (rd_litJ _ _ _ _) HYS.out (by omega) ?_; intro v2 w5 hown2 hg5 hgr5))
                go_roundw
                case rel => exact ⟨j + 1, by omega, by go_num, by rw [HST.out]; exact hown2, hg5, HPN⟩
                case measure => simp [intOf]; omega
              · rw [decide_eq_false hr] at KR
                replace KR := Lib.hid KR
                have HNO := Lib.hid (dcd_false (p := Prem bef x.2.1 x.2.1.length ∧ (introP x (given bef x.2.1) ∨ elimP x (given bef x.2.1))) (fun h => hr (h.1 j hlt)))
                clear hr
                generalize it x.2.1 j = k at *
                go_wp2_with fail
                refine (KR.out _).mono ?_
                rintro e w3 ⟨rfl, hg3⟩
                go_wp2_with fail
                go_ret
                exact ⟨congrArg (fun b => Ending.returned (Value.bool b)) HNO.out.symm, hB0.trans hg3⟩
            · obtain rfl : j = x.2.1.length := by omega
              rw [givenN_all] at hO
              have p0 := F00.out _ hB
              have p1 := F10.out _ hB
              have p2 := F20.out _ hB
              have p3 := F30.out _ hB
              have p4 := F40.out _ hB
              have KI := HI2.out u5 (given bef x.2.1) wr hB0 (hO.jgs hB)
              have KE := Lib.hid (fun W (hW : Grew wr W) => HE2.out u5 (given bef x.2.1) W (hB0.trans hW) ((hO.grew hW).jgs (hB.trans hW)) (given_gp HGB.out (prem_all.1 HP.out)))
              by_cases hi : introP x (given bef x.2.1)
              · rw [dcd_true hi] at KI
                replace KI := Lib.hid KI
                have HFIN := Lib.hid ((dcd_true (p := Prem bef x.2.1 x.2.1.length ∧ (introP x (given bef x.2.1) ∨ elimP x (given bef x.2.1))) ⟨HP.out, .inl hi⟩).symm)
                clear hi
                go_wp2_with fail
                refine (KI.out).mono ?_
                rintro e w3 ⟨rfl, hg3⟩
                go_wp2_with fail
                go_ret
                exact ⟨congrArg (fun b => Ending.returned (Value.bool b)) HFIN.out, hB0.trans hg3⟩
              · rw [dcd_false hi] at KI
                replace KI := Lib.hid KI
                have hfin : (Prem bef x.2.1 x.2.1.length ∧ (introP x (given bef x.2.1) ∨ elimP x (given bef x.2.1))) ↔ elimP x (given bef x.2.1) := ⟨fun h => h.2.resolve_left hi, fun h => ⟨HP.out, .inr h⟩⟩
                have HFIN := Lib.hid (dcd_congr hfin).symm
                clear hfin hi
                generalize dcd (elimP x (given bef x.2.1)) = R at *
                go_wp2_with fail
                refine (KI.out).mono ?_
                rintro e w3 ⟨rfl, hg3⟩
                have u0 := F00.out _ (hB.trans hg3)
                have u1 := F10.out _ (hB.trans hg3)
                have u2 := F20.out _ (hB.trans hg3)
                have u3 := F30.out _ (hB.trans hg3)
                have u4 := F40.out _ (hB.trans hg3)
                go_wp2_with fail
                refine (KE.out _ hg3).mono ?_
                rintro e w4 ⟨rfl, hg4⟩
                go_wp2_with fail
                go_ret
                exact ⟨congrArg (fun b => Ending.returned (Value.bool b)) HFIN.out, (hB0.trans hg3).trans hg4⟩
      · rw [dcd_false (fun h => hn h.1.2.2)]
        rw [not_or] at hn
        have e1 : (x.1 != 1) = true := by simpa using hn.1
        have e2 : (x.2.2.2.2 != 0) = true := by simpa using hn.2
        subst hvb
        clear hb hs hup hn hfx HI HE
        replace KA := Lib.hid KA
        replace KC := Lib.hid KC
        go_enter Tryz.func71, Tryz.ntmps71
        go_wp2_with fail
        refine (KA.out _ hal).mono ?_
        rintro e w1 ⟨rfl, hg1⟩
        have G3 := F3 _ hg1
        have G0 := F0 _ hg1
        go_wp2_with fail
        refine (KC.out _).mono ?_
        rintro e w2 ⟨rfl, hg2⟩
        have K0 := F0 _ (hg1.trans hg2)
        have K4 := F4 _ (hg1.trans hg2)
        go_wp2_with fail
        go_ret
        exact ⟨rfl, (hal.trans hg1).trans hg2⟩
    · rw [dcd_false (fun h => hc h.1.2.1)]
      have hc2 : gp x.2.2.2.1 = false := by simpa using hc
      rw [hc2] at KC
      subst hvb
      clear hb hs hup hc hc2 hfx HI HE
      replace KA := Lib.hid KA
      replace KC := Lib.hid KC
      go_enter Tryz.func71, Tryz.ntmps71
      go_wp2_with fail
      refine (KA.out _ hal).mono ?_
      rintro e w1 ⟨rfl, hg1⟩
      have G3 := F3 _ hg1
      go_wp2_with fail
      refine (KC.out _).mono ?_
      rintro e w2 ⟨rfl, hg2⟩
      go_wp2_with fail
      go_ret
      exact ⟨rfl, (hal.trans hg1).trans hg2⟩
  · rw [dcd_false (fun h => ha h.1.1)]
    have ha2 : asl x.2.2.1 = false := by simpa using ha
    rw [ha2] at KA
    subst hvb
    clear hb hs hup ha ha2 hfx HI HE
    replace KA := Lib.hid KA
    go_enter Tryz.func71, Tryz.ntmps71
    go_wp2_with fail
    refine (KA.out _ hal).mono ?_
    rintro e w1 ⟨rfl, hg1⟩
    go_wp2_with fail
    go_ret
    exact ⟨rfl, hal.trans hg1⟩
end Go.Proofs.YtfpkfgimhanekaaGreatDoor

/- firstBadDeduction of the program. -/
namespace Go.Proofs.YtfpkfgimhanekaaGreatDoor
open Go.RowKit

theorem Dds.take {w : World} {A : Option Addr} {n c : Nat} {xs : List Dd} (h : Dds w (.slice A n c) xs) (i : Nat) (hi : i ≤ xs.length) : Dds w (.slice A i c) (xs.take i) := by
  rcases h with ⟨h1, h2⟩ | ⟨b, o, c', h1, h2, h3, h4, h5⟩
  · subst h2
    obtain rfl : i = 0 := by simpa using hi
    cases h1
    exact .inl ⟨rfl, rfl⟩
  · obtain ⟨rfl, rfl, rfl⟩ : A = some ⟨b, o, none⟩ ∧ n = xs.length ∧ c = c' := by simpa using h1
    refine .inr ⟨b, o, c, by simp [Nat.min_eq_left hi], by simp; omega, h3, h4, fun j x hx => ?_⟩
    rw [List.getElem?_take] at hx
    split at hx
    · exact h5 j x hx
    · cases hx

set_option maxHeartbeats 2000000 in
theorem firstBadDeduction_c (v : Value) (xs : List Dd) (w : World) (hv : Dds w v xs) (hf : FitsDd xs) (hl : xs.length ≤ 1000) :
    Calls Tryz.prog 52 #[v] w fun e w' => e = .returned (.int .i64 (fbd xs xs.length)) ∧ Grew w w' := by
  obtain ⟨A, c, rfl⟩ := Dds_slice hv
  have HV := Lib.hid hv
  have HF := Lib.hid hf
  clear hv hf
  go_enter Tryz.func52, Tryz.ntmps52
  go_wp2_with fail
  go_loopw [7] (fun i wr => ∃ j : Nat, j ≤ xs.length ∧ i = .int .i64 j ∧ Grew w wr ∧ Hid (fbd xs j = -1)) (fun i _ => xs.length - (intOf i).toNat)
  case atStart => exact ⟨0, Nat.zero_le _, rfl, Grew.refl _, Lib.hid rfl⟩
  case round =>
    obtain ⟨j, hj, rfl, hB, HJ⟩ := hrel
    by_cases hlt : j < xs.length
    · have hd := Dds.take HV.out j (by omega)
      rcases HV.out with ⟨_, h0⟩ | ⟨b, o, c', hv, hc, hm, hb, hcell⟩
      · rw [h0] at hlt; simp at hlt
      obtain ⟨rfl, rfl⟩ : A = some ⟨b, o, none⟩ ∧ c = c' := by simpa using hv
      have hx : xs[j]? = some xs[j] := List.getElem?_eq_getElem hlt
      have hfx := HF.out _ (List.getElem_mem hlt)
      generalize xs[j] = x at hx hfx
      obtain ⟨up, ua, hcl, hup, hus⟩ := hcell j x hx
      obtain ⟨k0, k1, k2, k3, k4⟩ := hcl.grew hb hB
      have KG := fun W (hW : Grew w W) => isGoodDeduction_c (xs.take j) _ x up ua W (hd.grew hW) (hup.grew hW) (hus.grew hW) hfx (fbd_plain HJ.out) (by simp; omega)
      obtain ⟨A1, ca1, rfl⟩ := ints_slice hup
      obtain ⟨A2, ca2, rfl⟩ := strs_slice hus
      clear hd hv hcell hcl hup hus
      have hjc : (j : Int) ≤ c := by omega
      have hcm : (c : Int) ≤ 9223372036854775807 := by omega
      by_cases hg : goodP (xs.take j) x
      · rw [dcd_true hg] at KG
        replace KG := Lib.hid KG
        have HN : Hid (fbd xs (j + 1) = -1) := Lib.hid (fbd_good HJ.out hx hg)
        clear hg hx
        go_wp2_with fail
        generalize hw1 : wr.alloc (.cells #[.int .i64 x.1, .slice A1 x.2.1.length ca1, .slice A2 x.2.2.1.length ca2, .string x.2.2.2.1, .int .i64 x.2.2.2.2] 52) = w1 at *
        have g1 : Grew w w1 := by rw [← hw1]; exact hB.alloc _
        have e0 : w1.cell? ⟨wr.heap.size, 0, none⟩ = some (.int .i64 x.1) ∧ w1.cell? ⟨wr.heap.size, 1, none⟩ = some (.slice A1 x.2.1.length ca1) ∧ w1.cell? ⟨wr.heap.size, 2, none⟩ = some (.slice A2 x.2.2.1.length ca2) ∧ w1.cell? ⟨wr.heap.size, 3, none⟩ = some (.string x.2.2.2.1) ∧ w1.cell? ⟨wr.heap.size, 4, none⟩ = some (.int .i64 x.2.2.2.2) := by
          rw [← hw1]
          exact ⟨by simp, by simp, by simp, by simp, by simp⟩
        have hbk : wr.heap.size < w1.heap.size := by rw [← hw1]; simp
        clear hw1 k0 k1 k2 k3 k4
        obtain ⟨q0, q1, q2, q3, q4⟩ := e0
        have f0 : ∀ W, Grew w1 W → W.cell? ⟨wr.heap.size, 0, none⟩ = some (.int .i64 x.1) := fun W hW => (hW.cell (p := ⟨wr.heap.size, 0, none⟩) hbk).trans q0
        have f1 : ∀ W, Grew w1 W → W.cell? ⟨wr.heap.size, 1, none⟩ = some (.slice A1 x.2.1.length ca1) := fun W hW => (hW.cell (p := ⟨wr.heap.size, 1, none⟩) hbk).trans q1
        have f2 : ∀ W, Grew w1 W → W.cell? ⟨wr.heap.size, 2, none⟩ = some (.slice A2 x.2.2.1.length ca2) := fun W hW => (hW.cell (p := ⟨wr.heap.size, 2, none⟩) hbk).trans q2
        have f3 : ∀ W, Grew w1 W → W.cell? ⟨wr.heap.size, 3, none⟩ = some (.string x.2.2.2.1) := fun W hW => (hW.cell (p := ⟨wr.heap.size, 3, none⟩) hbk).trans q3
        have f4 : ∀ W, Grew w1 W → W.cell? ⟨wr.heap.size, 4, none⟩ = some (.int .i64 x.2.2.2.2) := fun W hW => (hW.cell (p := ⟨wr.heap.size, 4, none⟩) hbk).trans q4
        clear q0 q1 q2 q3 q4
        have r1 := Grew.refl w1
        have d1 := r1.drew
        have gd := g1.trans d1
        go_region_held3 (fun w' => Grew w1 w') (with_reducible assumption)
          (first | (go_at_call 71; refine (KG.out _ gd).mono ?_; rintro e w2 ⟨rfl, hg2⟩; have hk := gd.trans hg2; have hk1 := d1.trans hg2))
        go_wp2_with fail
        go_roundw
        case rel => exact ⟨j + 1, by omega, by go_num, hk, HN⟩
        case measure => simp [intOf]; omega
      · rw [dcd_false hg] at KG
        replace KG := Lib.hid KG
        have HN : Hid (fbd xs xs.length = j) := Lib.hid (fbd_bad HJ.out (fun ⟨y, hy, hgy⟩ => hg (by rw [hx] at hy; cases hy; exact hgy)) hlt)
        clear hg hx
        go_wp2_with fail
        generalize hw1 : wr.alloc (.cells #[.int .i64 x.1, .slice A1 x.2.1.length ca1, .slice A2 x.2.2.1.length ca2, .string x.2.2.2.1, .int .i64 x.2.2.2.2] 52) = w1 at *
        have g1 : Grew w w1 := by rw [← hw1]; exact hB.alloc _
        have e0 : w1.cell? ⟨wr.heap.size, 0, none⟩ = some (.int .i64 x.1) ∧ w1.cell? ⟨wr.heap.size, 1, none⟩ = some (.slice A1 x.2.1.length ca1) ∧ w1.cell? ⟨wr.heap.size, 2, none⟩ = some (.slice A2 x.2.2.1.length ca2) ∧ w1.cell? ⟨wr.heap.size, 3, none⟩ = some (.string x.2.2.2.1) ∧ w1.cell? ⟨wr.heap.size, 4, none⟩ = some (.int .i64 x.2.2.2.2) := by
          rw [← hw1]
          exact ⟨by simp, by simp, by simp, by simp, by simp⟩
        have hbk : wr.heap.size < w1.heap.size := by rw [← hw1]; simp
        clear hw1 k0 k1 k2 k3 k4
        obtain ⟨q0, q1, q2, q3, q4⟩ := e0
        have f0 : ∀ W, Grew w1 W → W.cell? ⟨wr.heap.size, 0, none⟩ = some (.int .i64 x.1) := fun W hW => (hW.cell (p := ⟨wr.heap.size, 0, none⟩) hbk).trans q0
        have f1 : ∀ W, Grew w1 W → W.cell? ⟨wr.heap.size, 1, none⟩ = some (.slice A1 x.2.1.length ca1) := fun W hW => (hW.cell (p := ⟨wr.heap.size, 1, none⟩) hbk).trans q1
        have f2 : ∀ W, Grew w1 W → W.cell? ⟨wr.heap.size, 2, none⟩ = some (.slice A2 x.2.2.1.length ca2) := fun W hW => (hW.cell (p := ⟨wr.heap.size, 2, none⟩) hbk).trans q2
        have f3 : ∀ W, Grew w1 W → W.cell? ⟨wr.heap.size, 3, none⟩ = some (.string x.2.2.2.1) := fun W hW => (hW.cell (p := ⟨wr.heap.size, 3, none⟩) hbk).trans q3
        have f4 : ∀ W, Grew w1 W → W.cell? ⟨wr.heap.size, 4, none⟩ = some (.int .i64 x.2.2.2.2) := fun W hW => (hW.cell (p := ⟨wr.heap.size, 4, none⟩) hbk).trans q4
        clear q0 q1 q2 q3 q4
        have r1 := Grew.refl w1
        have d1 := r1.drew
        have gd := g1.trans d1
        go_region_held3 (fun w' => Grew w1 w') (with_reducible assumption)
          (first | (go_at_call 71; refine (KG.out _ gd).mono ?_; rintro e w2 ⟨rfl, hg2⟩; have hk := gd.trans hg2; have hk1 := d1.trans hg2))
        go_wp2_with fail
        go_ret
        exact ⟨congrArg (fun k => Ending.returned (Value.int .i64 k)) HN.out.symm, hk⟩
    · obtain rfl : j = xs.length := by omega
      go_wp2_with fail
      go_ret
      exact ⟨congrArg (fun k => Ending.returned (Value.int .i64 k)) HJ.out.symm, hB⟩
end Go.Proofs.YtfpkfgimhanekaaGreatDoor

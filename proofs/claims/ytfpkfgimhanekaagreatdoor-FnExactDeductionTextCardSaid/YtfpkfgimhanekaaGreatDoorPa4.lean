/- Texts in one file: DdRc. -/
import Derived.Test.YtfpkfgimhanekaaGreatDoorPa1
import Derived.Test.YtfpkfgimhanekaaGreatDoorPa2
import Derived.Test.YtfpkfgimhanekaaGreatDoorPa3
set_option linter.all false

/- l25Rule of the reference at some rules. -/
namespace Go.Proofs.YtfpkfgimhanekaaGreatDoor
open Go.RowKit

set_option maxHeartbeats 8000000 in
set_option maxRecDepth 8192 in
theorem rule_8 (P : List Int) (A : List ByteArray) (C : ByteArray) (N : Int) : RuleC (8, P, A, C, N) 3 := by
  intro up ua vp p w hup hs hv hC hp hl hk
  simp only at hup hs hC hl hk ⊢
  obtain ⟨y0, y1, y2, rfl⟩ := lenL3 hk
  obtain ⟨r0, P0, A0, C0, N0⟩ := y0
  obtain ⟨r1, P1, A1, C1, N1⟩ := y1
  obtain ⟨r2, P2, A2, C2, N2⟩ := y2
  obtain ⟨pb, po, pc, rfl, hpc, hpm, hat⟩ := dds_at hv (by simp)
  have hiff : (introP (8, P, A, C, N) ([(r0, P0, A0, C0, N0), (r1, P1, A1, C1, N1), (r2, P2, A2, C2, N2)].map jd) ∨ elimP (8, P, A, C, N) ([(r0, P0, A0, C0, N0), (r1, P1, A1, C1, N1), (r2, P2, A2, C2, N2)].map jd)) ↔ (kT C0 = 3 ∧ A0 = A ∧ A1 = A ++ [pl C0] ∧ A2 = A ++ [pr C0] ∧ C1 = C ∧ C2 = C) := by
    simp [introP, elimP, jd]
    try grind
  rw [dcd_congr hiff]
  clear hiff
  obtain ⟨ua0, q0a, q0c, hu0⟩ := hat 0 _ rfl
  have hg0 : gp C0 = true := hp (r0, P0, A0, C0, N0) (by simp)
  simp only [Nat.zero_mul, Nat.add_zero] at q0a q0c hu0
  obtain ⟨ua1, q1a, q1c, hu1⟩ := hat 1 _ rfl
  have hg1 : gp C1 = true := hp (r1, P1, A1, C1, N1) (by simp)
  simp only [Nat.one_mul] at q1a q1c hu1
  obtain ⟨ua2, q2a, q2c, hu2⟩ := hat 2 _ rfl
  have hg2 : gp C2 = true := hp (r2, P2, A2, C2, N2) (by simp)
  simp only [Nat.reduceMul] at q2a q2c hu2
  have KS0 := fun W (hW : Grew w W) => same_c ua0 ua A0 A W (hu0.grew hW) (hs.grew hW)
  have KS1 := fun W (hW : Grew w W) v (hv : Strs W v (A ++ [pl C0])) => same_c ua1 v A1 (A ++ [pl C0]) W (hu1.grew hW) hv
  have KS2 := fun W (hW : Grew w W) v (hv : Strs W v (A ++ [pr C0])) => same_c ua2 v A2 (A ++ [pr C0]) W (hu2.grew hW) hv
  simp only [List.length_cons, List.length_nil] at hpc ⊢
  have KW := Lib.hid (fun a W (hW : Grew w W) u (hu : Strs W u [a]) => l25With_c ua u A [a] W (hs.grew hW) hu (by omega) (by simp))
  obtain ⟨VP, cp, rfl⟩ := ints_slice hup
  obtain ⟨UA, ca, rfl⟩ := strs_slice hs
  obtain ⟨U0, c0, rfl⟩ := strs_slice hu0
  obtain ⟨U1, c1, rfl⟩ := strs_slice hu1
  obtain ⟨U2, c2, rfl⟩ := strs_slice hu2
  have hal := (Grew.refl w).alloc (.cells #[.int .i64 8, .slice VP P.length cp, .slice UA A.length ca, .string C, .int .i64 N] 52)
  have f0 : ∀ W, Grew (w.alloc (.cells #[.int .i64 8, .slice VP P.length cp, .slice UA A.length ca, .string C, .int .i64 N] 52)) W → W.cell? ⟨w.heap.size, 0, none⟩ = some (.int .i64 8) := fun W hW => (hW.cell (p := ⟨w.heap.size, 0, none⟩) (by simp)).trans (by simp)
  have f2 : ∀ W, Grew (w.alloc (.cells #[.int .i64 8, .slice VP P.length cp, .slice UA A.length ca, .string C, .int .i64 N] 52)) W → W.cell? ⟨w.heap.size, 2, none⟩ = some (.slice UA A.length ca) := fun W hW => (hW.cell (p := ⟨w.heap.size, 2, none⟩) (by simp)).trans (by simp)
  have f3 : ∀ W, Grew (w.alloc (.cells #[.int .i64 8, .slice VP P.length cp, .slice UA A.length ca, .string C, .int .i64 N] 52)) W → W.cell? ⟨w.heap.size, 3, none⟩ = some (.string C) := fun W hW => (hW.cell (p := ⟨w.heap.size, 3, none⟩) (by simp)).trans (by simp)
  clear hup hs hv hat hp hl hk hu0 hu1 hu2
  generalize P.length = pln at *
  generalize A.length = al at *
  generalize A0.length = al0 at *
  generalize A1.length = al1 at *
  generalize A2.length = al2 at *
  by_cases h0 : kT C0 = 3
  · have hh : True := trivial
    have KP := Lib.hid (fun W => lp_yes 3 C0 W hg0 h0 (by decide))
    by_cases h1 : A0 = A
    · have hh : True := trivial
      rw [dcd_true h1] at KS0
      by_cases h2 : A1 = A ++ [pl C0]
      · have hh : True := trivial
        rw [dcd_true h2] at KS1
        by_cases h3 : A2 = A ++ [pr C0]
        · have hh : True := trivial
          rw [dcd_true h3] at KS2
          by_cases h4 : C1 = C
          · have hh : True := trivial
            have hb4 : (C1.toList == (C).toList) = true := by rw [h4]; simp
            by_cases h5 : C2 = C
            · have hh : True := trivial
              have hb5 : (C2.toList == (C).toList) = true := by rw [h5]; simp
              rw [dcd_true ⟨h0, h1, h2, h3, h4, h5⟩]
              replace KS0 := Lib.hid KS0
              replace KS1 := Lib.hid KS1
              replace KS2 := Lib.hid KS2
              clear h0 h1 h2 h3 h4 h5
              go_enter Tryz.func82, Tryz.ntmps82
              go_wp2_with fail
              refine (KP.out _).mono ?_
              rintro e w1 ⟨rfl, hg1⟩
              have g1 := hal.trans hg1
              have hm1 := hg1
              have r1 := Grew.refl w1
              have d1 := r1.drew
              have gd := g1.trans d1
              have e0 := fun W (hW : Grew w1 W) => f0 W (hg1.trans hW)
              have e2 := fun W (hW : Grew w1 W) => f2 W (hg1.trans hW)
              have e3 := fun W (hW : Grew w1 W) => f3 W (hg1.trans hW)
              have p0a := fun W (hW : Grew w1 W) => q0a W (g1.trans hW)
              have p0c := fun W (hW : Grew w1 W) => q0c W (g1.trans hW)
              have p1a := fun W (hW : Grew w1 W) => q1a W (g1.trans hW)
              have p1c := fun W (hW : Grew w1 W) => q1c W (g1.trans hW)
              have p2a := fun W (hW : Grew w1 W) => q2a W (g1.trans hW)
              have p2c := fun W (hW : Grew w1 W) => q2c W (g1.trans hW)
              clear f0 f2 f3 q0a q0c q1a q1c q2a q2c
              go_wp2_with fail
              refine wp_region_held_drew (S := fun w' => Grew w1 w') (by kernel_rfl) d1 (fun hHeld => ?_)
              refine wpAnyH_take (i := 0) (oi := ?on1) (v := ?vn1) ?hin1 ?an1 ?bn1 ?cn1 ?qn1 (Or.inl ⟨?dn1, ?hyn1⟩) hHeld ?restn1
              case hin1 => (simp only [List.getElem?_toArray, List.getElem?_cons_succ, List.getElem?_cons_zero]; exact rfl)
              case an1 => kernel_rfl
              case bn1 => kernel_rfl
              case cn1 => kernel_rfl
              case qn1 => exact fun _ _ _ h => h
              case dn1 => rfl
              case hyn1 => (intro z hSw; (try dsimp only at hSw); go_simp; (try with_reducible rfl))
              try simp only [Act.put, List.setIfInBounds_toArray, List.set_cons_zero, List.set_cons_succ]
              refine wpAnyH_take (i := 1) (oi := ?on2) (v := ?vn2) ?hin2 ?an2 ?bn2 ?cn2 ?qn2 (Or.inl ⟨?dn2, ?hyn2⟩) hHeld ?restn2
              case hin2 => (simp only [List.getElem?_toArray, List.getElem?_cons_succ, List.getElem?_cons_zero]; exact rfl)
              case an2 => kernel_rfl
              case bn2 => kernel_rfl
              case cn2 => kernel_rfl
              case qn2 => exact fun _ _ _ h => h
              case dn2 => rfl
              case hyn2 => (intro z hSw; (try dsimp only at hSw); go_simp; (try with_reducible rfl))
              try simp only [Act.put, List.setIfInBounds_toArray, List.set_cons_zero, List.set_cons_succ]
              refine wpAnyH_take (i := 2) (oi := ?on3) (v := ?vn3) ?hin3 ?an3 ?bn3 ?cn3 ?qn3 (Or.inl ⟨?dn3, ?hyn3⟩) hHeld ?restn3
              case hin3 => (simp only [List.getElem?_toArray, List.getElem?_cons_succ, List.getElem?_cons_zero]; exact rfl)
              case an3 => kernel_rfl
              case bn3 => kernel_rfl
              case cn3 => kernel_rfl
              case qn3 => exact fun _ _ _ h => h
              case dn3 => rfl
              case hyn3 => (intro z hSw; (try dsimp only at hSw); go_simp; (try with_reducible rfl))
              try simp only [Act.put, List.setIfInBounds_toArray, List.set_cons_zero, List.set_cons_succ]
              refine wpAnyH_take (i := 3) (oi := ?on4) (v := ?vn4) ?hin4 ?an4 ?bn4 ?cn4 ?qn4 (Or.inl ⟨?dn4, ?hyn4⟩) hHeld ?restn4
              case hin4 => (simp only [List.getElem?_toArray, List.getElem?_cons_succ, List.getElem?_cons_zero]; exact rfl)
              case an4 => kernel_rfl
              case bn4 => kernel_rfl
              case cn4 => kernel_rfl
              case qn4 => exact fun _ _ _ h => h
              case dn4 => rfl
              case hyn4 => (intro z hSw; (try dsimp only at hSw); go_simp; (try with_reducible rfl))
              try simp only [Act.put, List.setIfInBounds_toArray, List.set_cons_zero, List.set_cons_succ]
              refine wpAnyH_take (i := 4) (oi := ?on5) (v := ?vn5) ?hin5 ?an5 ?bn5 ?cn5 ?qn5 (Or.inl ⟨?dn5, ?hyn5⟩) hHeld ?restn5
              case hin5 => (simp only [List.getElem?_toArray, List.getElem?_cons_succ, List.getElem?_cons_zero]; exact rfl)
              case an5 => kernel_rfl
              case bn5 => kernel_rfl
              case cn5 => kernel_rfl
              case qn5 => exact fun _ _ _ h => h
              case dn5 => rfl
              case hyn5 => (intro z hSw; (try dsimp only at hSw); go_simp; (try with_reducible rfl))
              try simp only [Act.put, List.setIfInBounds_toArray, List.set_cons_zero, List.set_cons_succ]
              refine wpAnyH_take (i := 5) (oi := ?on6) (v := ?vn6) ?hin6 ?an6 ?bn6 ?cn6 ?qn6 (Or.inl ⟨?dn6, ?hyn6⟩) hHeld ?restn6
              case hin6 => (simp only [List.getElem?_toArray, List.getElem?_cons_succ, List.getElem?_cons_zero]; exact rfl)
              case an6 => kernel_rfl
              case bn6 => kernel_rfl
              case cn6 => kernel_rfl
              case qn6 => exact fun _ _ _ h => h
              case dn6 => rfl
              case hyn6 => (intro z hSw; (try dsimp only at hSw); go_simp; (try with_reducible rfl))
              try simp only [Act.put, List.setIfInBounds_toArray, List.set_cons_zero, List.set_cons_succ]
              refine wpAnyH_take (i := 6) (oi := ?on7) (v := ?vn7) ?hin7 ?an7 ?bn7 ?cn7 ?qn7 (Or.inl ⟨?dn7, ?hyn7⟩) hHeld ?restn7
              case hin7 => (simp only [List.getElem?_toArray, List.getElem?_cons_succ, List.getElem?_cons_zero]; exact rfl)
              case an7 => kernel_rfl
              case bn7 => kernel_rfl
              case cn7 => kernel_rfl
              case qn7 => exact fun _ _ _ h => h
              case dn7 => rfl
              case hyn7 => (intro z hSw; (try dsimp only at hSw); go_simp; (try with_reducible rfl))
              try simp only [Act.put, List.setIfInBounds_toArray, List.set_cons_zero, List.set_cons_succ]
              refine wpAnyH_take (i := 7) (oi := ?on8) (v := ?vn8) ?hin8 ?an8 ?bn8 ?cn8 ?qn8 (Or.inl ⟨?dn8, ?hyn8⟩) hHeld ?restn8
              case hin8 => (simp only [List.getElem?_toArray, List.getElem?_cons_succ, List.getElem?_cons_zero]; exact rfl)
              case an8 => kernel_rfl
              case bn8 => kernel_rfl
              case cn8 => kernel_rfl
              case qn8 => exact fun _ _ _ h => h
              case dn8 => rfl
              case hyn8 => (intro z hSw; (try dsimp only at hSw); go_simp; (try with_reducible rfl))
              try simp only [Act.put, List.setIfInBounds_toArray, List.set_cons_zero, List.set_cons_succ]
              refine wpAnyH_ready (rs := [8]) (by kernel_rfl) (by simp) ?_
              refine AllReadyH.cons (o := ?on9) ?hin9 ?restn9 AllReadyH.nil
              case hin9 => (simp only [List.getElem?_toArray, List.getElem?_cons_succ, List.getElem?_cons_zero]; exact rfl)
              intro K hK
              go_simp
              go_at_call 100
              refine (KS0.out _ (by first | with_reducible assumption | exact Grew.alloc (by with_reducible assumption) _ | exact Grew.drew (Grew.alloc (by with_reducible assumption) _))).mono ?_
              rintro e w3 ⟨rfl, hq3⟩
              have hh3 := hq3.grew
              have gk3 : Grew w w3 := Grew.trans (by first | with_reducible assumption | exact Grew.alloc (by with_reducible assumption) _ | exact Grew.drew (Grew.alloc (by with_reducible assumption) _)) hh3
              have mk3 : Grew w1 w3 := Grew.trans (by first | with_reducible assumption | exact Grew.alloc (by with_reducible assumption) _ | exact Grew.drew (Grew.alloc (by with_reducible assumption) _)) hh3
              refine hK.out _ _ ?_ (fun hHeld => ?_)
              · (try dsimp only); first | with_reducible assumption | exact Grew.alloc ‹_› _
              clear hK K
              try simp only [Act.put, List.setIfInBounds_toArray, List.set_cons_zero, List.set_cons_succ]
              refine wpAnyH_take (i := 9) (oi := ?on10) (v := ?vn10) ?hin10 ?an10 ?bn10 ?cn10 ?qn10 (Or.inl ⟨?dn10, ?hyn10⟩) hHeld ?restn10
              case hin10 => (simp only [List.getElem?_toArray, List.getElem?_cons_succ, List.getElem?_cons_zero]; exact rfl)
              case an10 => kernel_rfl
              case bn10 => kernel_rfl
              case cn10 => kernel_rfl
              case qn10 => exact fun _ _ _ h => h
              case dn10 => rfl
              case hyn10 => (intro z hSw; (try dsimp only at hSw); go_simp; (try with_reducible rfl))
              try simp only [Act.put, List.setIfInBounds_toArray, List.set_cons_zero, List.set_cons_succ]
              refine wpAnyH_take (i := 10) (oi := ?on11) (v := ?vn11) ?hin11 ?an11 ?bn11 ?cn11 ?qn11 (Or.inl ⟨?dn11, ?hyn11⟩) hHeld ?restn11
              case hin11 => (simp only [List.getElem?_toArray, List.getElem?_cons_succ, List.getElem?_cons_zero]; exact rfl)
              case an11 => kernel_rfl
              case bn11 => kernel_rfl
              case cn11 => kernel_rfl
              case qn11 => exact fun _ _ _ h => h
              case dn11 => rfl
              case hyn11 => (intro z hSw; (try dsimp only at hSw); go_simp; (try with_reducible rfl))
              try simp only [Act.put, List.setIfInBounds_toArray, List.set_cons_zero, List.set_cons_succ]
              refine wpAnyH_take (i := 11) (oi := ?on12) (v := ?vn12) ?hin12 ?an12 ?bn12 ?cn12 ?qn12 (Or.inl ⟨?dn12, ?hyn12⟩) hHeld ?restn12
              case hin12 => (simp only [List.getElem?_toArray, List.getElem?_cons_succ, List.getElem?_cons_zero]; exact rfl)
              case an12 => kernel_rfl
              case bn12 => kernel_rfl
              case cn12 => kernel_rfl
              case qn12 => exact fun _ _ _ h => h
              case dn12 => rfl
              case hyn12 => (intro z hSw; (try dsimp only at hSw); go_simp; (try with_reducible rfl))
              try simp only [Act.put, List.setIfInBounds_toArray, List.set_cons_zero, List.set_cons_succ]
              refine wpAnyH_take (i := 12) (oi := ?on13) (v := ?vn13) ?hin13 ?an13 ?bn13 ?cn13 ?qn13 (Or.inl ⟨?dn13, ?hyn13⟩) hHeld ?restn13
              case hin13 => (simp only [List.getElem?_toArray, List.getElem?_cons_succ, List.getElem?_cons_zero]; exact rfl)
              case an13 => kernel_rfl
              case bn13 => kernel_rfl
              case cn13 => kernel_rfl
              case qn13 => exact fun _ _ _ h => h
              case dn13 => rfl
              case hyn13 => (intro z hSw; (try dsimp only at hSw); go_simp; (try with_reducible rfl))
              try simp only [Act.put, List.setIfInBounds_toArray, List.set_cons_zero, List.set_cons_succ]
              refine wpAnyH_take (i := 13) (oi := ?on14) (v := ?vn14) ?hin14 ?an14 ?bn14 ?cn14 ?qn14 (Or.inl ⟨?dn14, ?hyn14⟩) hHeld ?restn14
              case hin14 => (simp only [List.getElem?_toArray, List.getElem?_cons_succ, List.getElem?_cons_zero]; exact rfl)
              case an14 => kernel_rfl
              case bn14 => kernel_rfl
              case cn14 => kernel_rfl
              case qn14 => exact fun _ _ _ h => h
              case dn14 => rfl
              case hyn14 => (intro z hSw; (try dsimp only at hSw); go_simp; (try with_reducible rfl))
              try simp only [Act.put, List.setIfInBounds_toArray, List.set_cons_zero, List.set_cons_succ]
              refine wpAnyH_take (i := 14) (oi := ?on15) (v := ?vn15) ?hin15 ?an15 ?bn15 ?cn15 ?qn15 (Or.inl ⟨?dn15, ?hyn15⟩) hHeld ?restn15
              case hin15 => (simp only [List.getElem?_toArray, List.getElem?_cons_succ, List.getElem?_cons_zero]; exact rfl)
              case an15 => kernel_rfl
              case bn15 => kernel_rfl
              case cn15 => kernel_rfl
              case qn15 => exact fun _ _ _ h => h
              case dn15 => rfl
              case hyn15 => (intro z hSw; (try dsimp only at hSw); go_simp; (try with_reducible rfl))
              try simp only [Act.put, List.setIfInBounds_toArray, List.set_cons_zero, List.set_cons_succ]
              refine wpAnyH_take (i := 15) (oi := ?on16) (v := ?vn16) ?hin16 ?an16 ?bn16 ?cn16 ?qn16 (Or.inl ⟨?dn16, ?hyn16⟩) hHeld ?restn16
              case hin16 => (simp only [List.getElem?_toArray, List.getElem?_cons_succ, List.getElem?_cons_zero]; exact rfl)
              case an16 => kernel_rfl
              case bn16 => kernel_rfl
              case cn16 => kernel_rfl
              case qn16 => exact fun _ _ _ h => h
              case dn16 => rfl
              case hyn16 => (intro z hSw; (try dsimp only at hSw); go_simp; (try with_reducible rfl))
              try simp only [Act.put, List.setIfInBounds_toArray, List.set_cons_zero, List.set_cons_succ]
              refine wpAnyH_take (i := 16) (oi := ?on17) (v := ?vn17) ?hin17 ?an17 ?bn17 ?cn17 ?qn17 (Or.inl ⟨?dn17, ?hyn17⟩) hHeld ?restn17
              case hin17 => (simp only [List.getElem?_toArray, List.getElem?_cons_succ, List.getElem?_cons_zero]; exact rfl)
              case an17 => kernel_rfl
              case bn17 => kernel_rfl
              case cn17 => kernel_rfl
              case qn17 => exact fun _ _ _ h => h
              case dn17 => rfl
              case hyn17 => (intro z hSw; (try dsimp only at hSw); go_simp; (try with_reducible rfl))
              try simp only [Act.put, List.setIfInBounds_toArray, List.set_cons_zero, List.set_cons_succ]
              refine wpAnyH_take (i := 17) (oi := ?on18) (v := ?vn18) ?hin18 ?an18 ?bn18 ?cn18 ?qn18 (Or.inl ⟨?dn18, ?hyn18⟩) hHeld ?restn18
              case hin18 => (simp only [List.getElem?_toArray, List.getElem?_cons_succ, List.getElem?_cons_zero]; exact rfl)
              case an18 => kernel_rfl
              case bn18 => kernel_rfl
              case cn18 => kernel_rfl
              case qn18 => exact fun _ _ _ h => h
              case dn18 => rfl
              case hyn18 => (intro z hSw; (try dsimp only at hSw); go_simp; (try with_reducible rfl))
              try simp only [Act.put, List.setIfInBounds_toArray, List.set_cons_zero, List.set_cons_succ]
              refine wpAnyH_ready (rs := [18]) (by kernel_rfl) (by simp) ?_
              refine AllReadyH.cons (o := ?on19) ?hin19 ?restn19 AllReadyH.nil
              case hin19 => (simp only [List.getElem?_toArray, List.getElem?_cons_succ, List.getElem?_cons_zero]; exact rfl)
              intro K hK
              go_simp
              refine hK.out _ _ ?_ (fun hHeld => ?_)
              · (try dsimp only); first | with_reducible assumption | exact Grew.alloc ‹_› _
              clear hK K
              try simp only [Act.put, List.setIfInBounds_toArray, List.set_cons_zero, List.set_cons_succ]
              refine wpAnyH_ready (rs := [19]) (by kernel_rfl) (by simp) ?_
              refine AllReadyH.cons (o := ?on20) ?hin20 ?restn20 AllReadyH.nil
              case hin20 => (simp only [List.getElem?_toArray, List.getElem?_cons_succ, List.getElem?_cons_zero]; exact rfl)
              intro K hK
              go_simp
              go_at_call 102
              refine (KW.out (pl C0) _ (by first | with_reducible assumption | exact Grew.alloc (by with_reducible assumption) _ | exact Grew.drew (Grew.alloc (by with_reducible assumption) _)) _ (by first | exact strs_lit1 _ _ | exact (strs_lit1 _ _).grew (Grew.refl _).drew)).mono ?_
              rintro e z1 ⟨zu1, rfl, zo1, zg1⟩
              have gz1 : Grew w z1 := Grew.trans (by first | with_reducible assumption | exact Grew.alloc (by with_reducible assumption) _ | exact Grew.drew (Grew.alloc (by with_reducible assumption) _)) zg1
              have mz1 : Grew w1 z1 := Grew.trans (by first | with_reducible assumption | exact Grew.alloc (by with_reducible assumption) _ | exact Grew.drew (Grew.alloc (by with_reducible assumption) _)) zg1
              have zs1 := Lib.hid zo1.strs
              clear zo1
              refine hK.out _ _ ?_ (fun hHeld => ?_)
              · (try dsimp only); first | with_reducible assumption | exact Grew.alloc ‹_› _
              clear hK K
              try simp only [Act.put, List.setIfInBounds_toArray, List.set_cons_zero, List.set_cons_succ]
              refine wpAnyH_ready (rs := [20]) (by kernel_rfl) (by simp) ?_
              refine AllReadyH.cons (o := ?on21) ?hin21 ?restn21 AllReadyH.nil
              case hin21 => (simp only [List.getElem?_toArray, List.getElem?_cons_succ, List.getElem?_cons_zero]; exact rfl)
              intro K hK
              go_simp
              go_at_call 100
              refine (KS1.out _ gz1 _ zs1.out).mono ?_
              rintro e w4 ⟨rfl, hq4⟩
              have hh4 := hq4.grew
              have gk4 : Grew w w4 := Grew.trans (by first | with_reducible assumption | exact Grew.alloc (by with_reducible assumption) _ | exact Grew.drew (Grew.alloc (by with_reducible assumption) _)) hh4
              have mk4 : Grew w1 w4 := Grew.trans (by first | with_reducible assumption | exact Grew.alloc (by with_reducible assumption) _ | exact Grew.drew (Grew.alloc (by with_reducible assumption) _)) hh4
              refine hK.out _ _ ?_ (fun hHeld => ?_)
              · (try dsimp only); first | with_reducible assumption | exact Grew.alloc ‹_› _
              clear hK K
              try simp only [Act.put, List.setIfInBounds_toArray, List.set_cons_zero, List.set_cons_succ]
              refine wpAnyH_take (i := 21) (oi := ?on22) (v := ?vn22) ?hin22 ?an22 ?bn22 ?cn22 ?qn22 (Or.inl ⟨?dn22, ?hyn22⟩) hHeld ?restn22
              case hin22 => (simp only [List.getElem?_toArray, List.getElem?_cons_succ, List.getElem?_cons_zero]; exact rfl)
              case an22 => kernel_rfl
              case bn22 => kernel_rfl
              case cn22 => kernel_rfl
              case qn22 => exact fun _ _ _ h => h
              case dn22 => rfl
              case hyn22 => (intro z hSw; (try dsimp only at hSw); go_simp; (try with_reducible rfl))
              try simp only [Act.put, List.setIfInBounds_toArray, List.set_cons_zero, List.set_cons_succ]
              refine wpAnyH_take (i := 22) (oi := ?on23) (v := ?vn23) ?hin23 ?an23 ?bn23 ?cn23 ?qn23 (Or.inl ⟨?dn23, ?hyn23⟩) hHeld ?restn23
              case hin23 => (simp only [List.getElem?_toArray, List.getElem?_cons_succ, List.getElem?_cons_zero]; exact rfl)
              case an23 => kernel_rfl
              case bn23 => kernel_rfl
              case cn23 => kernel_rfl
              case qn23 => exact fun _ _ _ h => h
              case dn23 => rfl
              case hyn23 => (intro z hSw; (try dsimp only at hSw); go_simp; (try with_reducible rfl))
              try simp only [Act.put, List.setIfInBounds_toArray, List.set_cons_zero, List.set_cons_succ]
              refine wpAnyH_take (i := 23) (oi := ?on24) (v := ?vn24) ?hin24 ?an24 ?bn24 ?cn24 ?qn24 (Or.inl ⟨?dn24, ?hyn24⟩) hHeld ?restn24
              case hin24 => (simp only [List.getElem?_toArray, List.getElem?_cons_succ, List.getElem?_cons_zero]; exact rfl)
              case an24 => kernel_rfl
              case bn24 => kernel_rfl
              case cn24 => kernel_rfl
              case qn24 => exact fun _ _ _ h => h
              case dn24 => rfl
              case hyn24 => (intro z hSw; (try dsimp only at hSw); go_simp; (try with_reducible rfl))
              try simp only [Act.put, List.setIfInBounds_toArray, List.set_cons_zero, List.set_cons_succ]
              refine wpAnyH_take (i := 24) (oi := ?on25) (v := ?vn25) ?hin25 ?an25 ?bn25 ?cn25 ?qn25 (Or.inl ⟨?dn25, ?hyn25⟩) hHeld ?restn25
              case hin25 => (simp only [List.getElem?_toArray, List.getElem?_cons_succ, List.getElem?_cons_zero]; exact rfl)
              case an25 => kernel_rfl
              case bn25 => kernel_rfl
              case cn25 => kernel_rfl
              case qn25 => exact fun _ _ _ h => h
              case dn25 => rfl
              case hyn25 => (intro z hSw; (try dsimp only at hSw); go_simp; (try with_reducible rfl))
              try simp only [Act.put, List.setIfInBounds_toArray, List.set_cons_zero, List.set_cons_succ]
              refine wpAnyH_take (i := 25) (oi := ?on26) (v := ?vn26) ?hin26 ?an26 ?bn26 ?cn26 ?qn26 (Or.inl ⟨?dn26, ?hyn26⟩) hHeld ?restn26
              case hin26 => (simp only [List.getElem?_toArray, List.getElem?_cons_succ, List.getElem?_cons_zero]; exact rfl)
              case an26 => kernel_rfl
              case bn26 => kernel_rfl
              case cn26 => kernel_rfl
              case qn26 => exact fun _ _ _ h => h
              case dn26 => rfl
              case hyn26 => (intro z hSw; (try dsimp only at hSw); go_simp; (try with_reducible rfl))
              try simp only [Act.put, List.setIfInBounds_toArray, List.set_cons_zero, List.set_cons_succ]
              refine wpAnyH_take (i := 26) (oi := ?on27) (v := ?vn27) ?hin27 ?an27 ?bn27 ?cn27 ?qn27 (Or.inl ⟨?dn27, ?hyn27⟩) hHeld ?restn27
              case hin27 => (simp only [List.getElem?_toArray, List.getElem?_cons_succ, List.getElem?_cons_zero]; exact rfl)
              case an27 => kernel_rfl
              case bn27 => kernel_rfl
              case cn27 => kernel_rfl
              case qn27 => exact fun _ _ _ h => h
              case dn27 => rfl
              case hyn27 => (intro z hSw; (try dsimp only at hSw); go_simp; (try with_reducible rfl))
              try simp only [Act.put, List.setIfInBounds_toArray, List.set_cons_zero, List.set_cons_succ]
              refine wpAnyH_take (i := 27) (oi := ?on28) (v := ?vn28) ?hin28 ?an28 ?bn28 ?cn28 ?qn28 (Or.inl ⟨?dn28, ?hyn28⟩) hHeld ?restn28
              case hin28 => (simp only [List.getElem?_toArray, List.getElem?_cons_succ, List.getElem?_cons_zero]; exact rfl)
              case an28 => kernel_rfl
              case bn28 => kernel_rfl
              case cn28 => kernel_rfl
              case qn28 => exact fun _ _ _ h => h
              case dn28 => rfl
              case hyn28 => (intro z hSw; (try dsimp only at hSw); go_simp; (try with_reducible rfl))
              try simp only [Act.put, List.setIfInBounds_toArray, List.set_cons_zero, List.set_cons_succ]
              refine wpAnyH_take (i := 28) (oi := ?on29) (v := ?vn29) ?hin29 ?an29 ?bn29 ?cn29 ?qn29 (Or.inl ⟨?dn29, ?hyn29⟩) hHeld ?restn29
              case hin29 => (simp only [List.getElem?_toArray, List.getElem?_cons_succ, List.getElem?_cons_zero]; exact rfl)
              case an29 => kernel_rfl
              case bn29 => kernel_rfl
              case cn29 => kernel_rfl
              case qn29 => exact fun _ _ _ h => h
              case dn29 => rfl
              case hyn29 => (intro z hSw; (try dsimp only at hSw); go_simp; (try with_reducible rfl))
              try simp only [Act.put, List.setIfInBounds_toArray, List.set_cons_zero, List.set_cons_succ]
              refine wpAnyH_take (i := 29) (oi := ?on30) (v := ?vn30) ?hin30 ?an30 ?bn30 ?cn30 ?qn30 (Or.inl ⟨?dn30, ?hyn30⟩) hHeld ?restn30
              case hin30 => (simp only [List.getElem?_toArray, List.getElem?_cons_succ, List.getElem?_cons_zero]; exact rfl)
              case an30 => kernel_rfl
              case bn30 => kernel_rfl
              case cn30 => kernel_rfl
              case qn30 => exact fun _ _ _ h => h
              case dn30 => rfl
              case hyn30 => (intro z hSw; (try dsimp only at hSw); go_simp; (try with_reducible rfl))
              try simp only [Act.put, List.setIfInBounds_toArray, List.set_cons_zero, List.set_cons_succ]
              refine wpAnyH_ready (rs := [30]) (by kernel_rfl) (by simp) ?_
              refine AllReadyH.cons (o := ?on31) ?hin31 ?restn31 AllReadyH.nil
              case hin31 => (simp only [List.getElem?_toArray, List.getElem?_cons_succ, List.getElem?_cons_zero]; exact rfl)
              intro K hK
              go_simp
              refine hK.out _ _ ?_ (fun hHeld => ?_)
              · (try dsimp only); first | with_reducible assumption | exact Grew.alloc ‹_› _
              clear hK K
              try simp only [Act.put, List.setIfInBounds_toArray, List.set_cons_zero, List.set_cons_succ]
              refine wpAnyH_ready (rs := [31]) (by kernel_rfl) (by simp) ?_
              refine AllReadyH.cons (o := ?on32) ?hin32 ?restn32 AllReadyH.nil
              case hin32 => (simp only [List.getElem?_toArray, List.getElem?_cons_succ, List.getElem?_cons_zero]; exact rfl)
              intro K hK
              go_simp
              go_at_call 102
              refine (KW.out (pr C0) _ (by first | with_reducible assumption | exact Grew.alloc (by with_reducible assumption) _ | exact Grew.drew (Grew.alloc (by with_reducible assumption) _)) _ (by first | exact strs_lit1 _ _ | exact (strs_lit1 _ _).grew (Grew.refl _).drew)).mono ?_
              rintro e z2 ⟨zu2, rfl, zo2, zg2⟩
              have gz2 : Grew w z2 := Grew.trans (by first | with_reducible assumption | exact Grew.alloc (by with_reducible assumption) _ | exact Grew.drew (Grew.alloc (by with_reducible assumption) _)) zg2
              have mz2 : Grew w1 z2 := Grew.trans (by first | with_reducible assumption | exact Grew.alloc (by with_reducible assumption) _ | exact Grew.drew (Grew.alloc (by with_reducible assumption) _)) zg2
              have zs2 := Lib.hid zo2.strs
              clear zo2
              refine hK.out _ _ ?_ (fun hHeld => ?_)
              · (try dsimp only); first | with_reducible assumption | exact Grew.alloc ‹_› _
              clear hK K
              try simp only [Act.put, List.setIfInBounds_toArray, List.set_cons_zero, List.set_cons_succ]
              refine wpAnyH_ready (rs := [32]) (by kernel_rfl) (by simp) ?_
              refine AllReadyH.cons (o := ?on33) ?hin33 ?restn33 AllReadyH.nil
              case hin33 => (simp only [List.getElem?_toArray, List.getElem?_cons_succ, List.getElem?_cons_zero]; exact rfl)
              intro K hK
              go_simp
              go_at_call 100
              refine (KS2.out _ gz2 _ zs2.out).mono ?_
              rintro e w5 ⟨rfl, hq5⟩
              have hh5 := hq5.grew
              have gk5 : Grew w w5 := Grew.trans (by first | with_reducible assumption | exact Grew.alloc (by with_reducible assumption) _ | exact Grew.drew (Grew.alloc (by with_reducible assumption) _)) hh5
              have mk5 : Grew w1 w5 := Grew.trans (by first | with_reducible assumption | exact Grew.alloc (by with_reducible assumption) _ | exact Grew.drew (Grew.alloc (by with_reducible assumption) _)) hh5
              refine hK.out _ _ ?_ (fun hHeld => ?_)
              · (try dsimp only); first | with_reducible assumption | exact Grew.alloc ‹_› _
              clear hK K
              try simp only [Act.put, List.setIfInBounds_toArray, List.set_cons_zero, List.set_cons_succ]
              refine wpAnyH_take (i := 33) (oi := ?on34) (v := ?vn34) ?hin34 ?an34 ?bn34 ?cn34 ?qn34 (Or.inl ⟨?dn34, ?hyn34⟩) hHeld ?restn34
              case hin34 => (simp only [List.getElem?_toArray, List.getElem?_cons_succ, List.getElem?_cons_zero]; exact rfl)
              case an34 => kernel_rfl
              case bn34 => kernel_rfl
              case cn34 => kernel_rfl
              case qn34 => exact fun _ _ _ h => h
              case dn34 => rfl
              case hyn34 => (intro z hSw; (try dsimp only at hSw); go_simp; (try with_reducible rfl))
              try simp only [Act.put, List.setIfInBounds_toArray, List.set_cons_zero, List.set_cons_succ]
              refine wpAnyH_take (i := 34) (oi := ?on35) (v := ?vn35) ?hin35 ?an35 ?bn35 ?cn35 ?qn35 (Or.inl ⟨?dn35, ?hyn35⟩) hHeld ?restn35
              case hin35 => (simp only [List.getElem?_toArray, List.getElem?_cons_succ, List.getElem?_cons_zero]; exact rfl)
              case an35 => kernel_rfl
              case bn35 => kernel_rfl
              case cn35 => kernel_rfl
              case qn35 => exact fun _ _ _ h => h
              case dn35 => rfl
              case hyn35 => (intro z hSw; (try dsimp only at hSw); go_simp; (try with_reducible rfl))
              try simp only [Act.put, List.setIfInBounds_toArray, List.set_cons_zero, List.set_cons_succ]
              refine wpAnyH_take (i := 35) (oi := ?on36) (v := ?vn36) ?hin36 ?an36 ?bn36 ?cn36 ?qn36 (Or.inl ⟨?dn36, ?hyn36⟩) hHeld ?restn36
              case hin36 => (simp only [List.getElem?_toArray, List.getElem?_cons_succ, List.getElem?_cons_zero]; exact rfl)
              case an36 => kernel_rfl
              case bn36 => kernel_rfl
              case cn36 => kernel_rfl
              case qn36 => exact fun _ _ _ h => h
              case dn36 => rfl
              case hyn36 => (intro z hSw; (try dsimp only at hSw); go_simp; (try with_reducible rfl))
              try simp only [Act.put, List.setIfInBounds_toArray, List.set_cons_zero, List.set_cons_succ]
              refine wpAnyH_take (i := 36) (oi := ?on37) (v := ?vn37) ?hin37 ?an37 ?bn37 ?cn37 ?qn37 (Or.inl ⟨?dn37, ?hyn37⟩) hHeld ?restn37
              case hin37 => (simp only [List.getElem?_toArray, List.getElem?_cons_succ, List.getElem?_cons_zero]; exact rfl)
              case an37 => kernel_rfl
              case bn37 => kernel_rfl
              case cn37 => kernel_rfl
              case qn37 => exact fun _ _ _ h => h
              case dn37 => rfl
              case hyn37 => (intro z hSw; (try dsimp only at hSw); go_simp; (try with_reducible rfl))
              try simp only [Act.put, List.setIfInBounds_toArray, List.set_cons_zero, List.set_cons_succ]
              refine wpAnyH_take (i := 37) (oi := ?on38) (v := ?vn38) ?hin38 ?an38 ?bn38 ?cn38 ?qn38 (Or.inl ⟨?dn38, ?hyn38⟩) hHeld ?restn38
              case hin38 => (simp only [List.getElem?_toArray, List.getElem?_cons_succ, List.getElem?_cons_zero]; exact rfl)
              case an38 => kernel_rfl
              case bn38 => kernel_rfl
              case cn38 => kernel_rfl
              case qn38 => exact fun _ _ _ h => h
              case dn38 => rfl
              case hyn38 => (intro z hSw; (try dsimp only at hSw); go_simp; (try with_reducible rfl))
              try simp only [Act.put, List.setIfInBounds_toArray, List.set_cons_zero, List.set_cons_succ]
              refine wpAnyH_take (i := 38) (oi := ?on39) (v := ?vn39) ?hin39 ?an39 ?bn39 ?cn39 ?qn39 (Or.inl ⟨?dn39, ?hyn39⟩) hHeld ?restn39
              case hin39 => (simp only [List.getElem?_toArray, List.getElem?_cons_succ, List.getElem?_cons_zero]; exact rfl)
              case an39 => kernel_rfl
              case bn39 => kernel_rfl
              case cn39 => kernel_rfl
              case qn39 => exact fun _ _ _ h => h
              case dn39 => rfl
              case hyn39 => (intro z hSw; (try dsimp only at hSw); go_simp; (try with_reducible rfl))
              try simp only [Act.put, List.setIfInBounds_toArray, List.set_cons_zero, List.set_cons_succ]
              refine wpAnyH_take (i := 39) (oi := ?on40) (v := ?vn40) ?hin40 ?an40 ?bn40 ?cn40 ?qn40 (Or.inl ⟨?dn40, ?hyn40⟩) hHeld ?restn40
              case hin40 => (simp only [List.getElem?_toArray, List.getElem?_cons_succ, List.getElem?_cons_zero]; exact rfl)
              case an40 => kernel_rfl
              case bn40 => kernel_rfl
              case cn40 => kernel_rfl
              case qn40 => exact fun _ _ _ h => h
              case dn40 => rfl
              case hyn40 => (intro z hSw; (try dsimp only at hSw); go_simp; (try with_reducible rfl))
              try simp only [Act.put, List.setIfInBounds_toArray, List.set_cons_zero, List.set_cons_succ]
              refine wpAnyH_take (i := 40) (oi := ?on41) (v := ?vn41) ?hin41 ?an41 ?bn41 ?cn41 ?qn41 (Or.inl ⟨?dn41, ?hyn41⟩) hHeld ?restn41
              case hin41 => (simp only [List.getElem?_toArray, List.getElem?_cons_succ, List.getElem?_cons_zero]; exact rfl)
              case an41 => kernel_rfl
              case bn41 => kernel_rfl
              case cn41 => kernel_rfl
              case qn41 => exact fun _ _ _ h => h
              case dn41 => rfl
              case hyn41 => (intro z hSw; (try dsimp only at hSw); go_simp; (try with_reducible rfl))
              try simp only [Act.put, List.setIfInBounds_toArray, List.set_cons_zero, List.set_cons_succ]
              refine wpAnyH_take (i := 41) (oi := ?on42) (v := ?vn42) ?hin42 ?an42 ?bn42 ?cn42 ?qn42 (Or.inl ⟨?dn42, ?hyn42⟩) hHeld ?restn42
              case hin42 => (simp only [List.getElem?_toArray, List.getElem?_cons_succ, List.getElem?_cons_zero]; exact rfl)
              case an42 => kernel_rfl
              case bn42 => kernel_rfl
              case cn42 => kernel_rfl
              case qn42 => exact fun _ _ _ h => h
              case dn42 => rfl
              case hyn42 => (intro z hSw; (try dsimp only at hSw); go_simp; (try with_reducible rfl))
              try simp only [Act.put, List.setIfInBounds_toArray, List.set_cons_zero, List.set_cons_succ]
              refine wpAnyH_take (i := 42) (oi := ?on43) (v := ?vn43) ?hin43 ?an43 ?bn43 ?cn43 ?qn43 (Or.inl ⟨?dn43, ?hyn43⟩) hHeld ?restn43
              case hin43 => (simp only [List.getElem?_toArray, List.getElem?_cons_succ, List.getElem?_cons_zero]; exact rfl)
              case an43 => kernel_rfl
              case bn43 => kernel_rfl
              case cn43 => kernel_rfl
              case qn43 => exact fun _ _ _ h => h
              case dn43 => rfl
              case hyn43 => (intro z hSw; (try dsimp only at hSw); go_simp; (try with_reducible rfl))
              try simp only [Act.put, List.setIfInBounds_toArray, List.set_cons_zero, List.set_cons_succ]
              refine wpAnyH_take (i := 43) (oi := ?on44) (v := ?vn44) ?hin44 ?an44 ?bn44 ?cn44 ?qn44 (Or.inl ⟨?dn44, ?hyn44⟩) hHeld ?restn44
              case hin44 => (simp only [List.getElem?_toArray, List.getElem?_cons_succ, List.getElem?_cons_zero]; exact rfl)
              case an44 => kernel_rfl
              case bn44 => kernel_rfl
              case cn44 => kernel_rfl
              case qn44 => exact fun _ _ _ h => h
              case dn44 => rfl
              case hyn44 => (intro z hSw; (try dsimp only at hSw); go_simp; (try with_reducible rfl))
              try simp only [Act.put, List.setIfInBounds_toArray, List.set_cons_zero, List.set_cons_succ]
              refine wpAnyH_take (i := 44) (oi := ?on45) (v := ?vn45) ?hin45 ?an45 ?bn45 ?cn45 ?qn45 (Or.inl ⟨?dn45, ?hyn45⟩) hHeld ?restn45
              case hin45 => (simp only [List.getElem?_toArray, List.getElem?_cons_succ, List.getElem?_cons_zero]; exact rfl)
              case an45 => kernel_rfl
              case bn45 => kernel_rfl
              case cn45 => kernel_rfl
              case qn45 => exact fun _ _ _ h => h
              case dn45 => rfl
              case hyn45 => (intro z hSw; (try dsimp only at hSw); go_simp; (try with_reducible rfl))
              try simp only [Act.put, List.setIfInBounds_toArray, List.set_cons_zero, List.set_cons_succ]
              refine wpAnyH_take (i := 45) (oi := ?on46) (v := ?vn46) ?hin46 ?an46 ?bn46 ?cn46 ?qn46 (Or.inl ⟨?dn46, ?hyn46⟩) hHeld ?restn46
              case hin46 => (simp only [List.getElem?_toArray, List.getElem?_cons_succ, List.getElem?_cons_zero]; exact rfl)
              case an46 => kernel_rfl
              case bn46 => kernel_rfl
              case cn46 => kernel_rfl
              case qn46 => exact fun _ _ _ h => h
              case dn46 => rfl
              case hyn46 => (intro z hSw; (try dsimp only at hSw); go_simp; (try with_reducible rfl))
              try simp only [Act.put, List.setIfInBounds_toArray, List.set_cons_zero, List.set_cons_succ]
              refine wpAnyH_take (i := 46) (oi := ?on47) (v := ?vn47) ?hin47 ?an47 ?bn47 ?cn47 ?qn47 (Or.inl ⟨?dn47, ?hyn47⟩) hHeld ?restn47
              case hin47 => (simp only [List.getElem?_toArray, List.getElem?_cons_succ, List.getElem?_cons_zero]; exact rfl)
              case an47 => kernel_rfl
              case bn47 => kernel_rfl
              case cn47 => kernel_rfl
              case qn47 => exact fun _ _ _ h => h
              case dn47 => rfl
              case hyn47 => (intro z hSw; (try dsimp only at hSw); go_simp; (try with_reducible rfl))
              try simp only [Act.put, List.setIfInBounds_toArray, List.set_cons_zero, List.set_cons_succ]
              refine wpAnyH_take (i := 47) (oi := ?on48) (v := ?vn48) ?hin48 ?an48 ?bn48 ?cn48 ?qn48 (Or.inl ⟨?dn48, ?hyn48⟩) hHeld ?restn48
              case hin48 => (simp only [List.getElem?_toArray, List.getElem?_cons_succ, List.getElem?_cons_zero]; exact rfl)
              case an48 => kernel_rfl
              case bn48 => kernel_rfl
              case cn48 => kernel_rfl
              case qn48 => exact fun _ _ _ h => h
              case dn48 => rfl
              case hyn48 => (intro z hSw; (try dsimp only at hSw); go_simp; (try with_reducible rfl))
              try simp only [Act.put, List.setIfInBounds_toArray, List.set_cons_zero, List.set_cons_succ]
              refine wpAnyH_take (i := 48) (oi := ?on49) (v := ?vn49) ?hin49 ?an49 ?bn49 ?cn49 ?qn49 (Or.inl ⟨?dn49, ?hyn49⟩) hHeld ?restn49
              case hin49 => (simp only [List.getElem?_toArray, List.getElem?_cons_succ, List.getElem?_cons_zero]; exact rfl)
              case an49 => kernel_rfl
              case bn49 => kernel_rfl
              case cn49 => kernel_rfl
              case qn49 => exact fun _ _ _ h => h
              case dn49 => rfl
              case hyn49 => (intro z hSw; (try dsimp only at hSw); go_simp; (try with_reducible rfl))
              try simp only [Act.put, List.setIfInBounds_toArray, List.set_cons_zero, List.set_cons_succ]
              refine wpAnyH_take (i := 49) (oi := ?on50) (v := ?vn50) ?hin50 ?an50 ?bn50 ?cn50 ?qn50 (Or.inl ⟨?dn50, ?hyn50⟩) hHeld ?restn50
              case hin50 => (simp only [List.getElem?_toArray, List.getElem?_cons_succ, List.getElem?_cons_zero]; exact rfl)
              case an50 => kernel_rfl
              case bn50 => kernel_rfl
              case cn50 => kernel_rfl
              case qn50 => exact fun _ _ _ h => h
              case dn50 => rfl
              case hyn50 => (intro z hSw; (try dsimp only at hSw); go_simp; (try with_reducible rfl))
              try simp only [Act.put, List.setIfInBounds_toArray, List.set_cons_zero, List.set_cons_succ]
              refine wpAnyH_take (i := 50) (oi := ?on51) (v := ?vn51) ?hin51 ?an51 ?bn51 ?cn51 ?qn51 (Or.inl ⟨?dn51, ?hyn51⟩) hHeld ?restn51
              case hin51 => (simp only [List.getElem?_toArray, List.getElem?_cons_succ, List.getElem?_cons_zero]; exact rfl)
              case an51 => kernel_rfl
              case bn51 => kernel_rfl
              case cn51 => kernel_rfl
              case qn51 => exact fun _ _ _ h => h
              case dn51 => rfl
              case hyn51 => (intro z hSw; (try dsimp only at hSw); go_simp; (try with_reducible rfl))
              try simp only [Act.put, List.setIfInBounds_toArray, List.set_cons_zero, List.set_cons_succ]
              refine wpAnyH_done (by kernel_rfl) ?_ _
              go_wp2_with fail
              go_ret
              exact ⟨rfl, gk5⟩
            · rw [dcd_false (fun h => h5 (h.2.2.2.2.2))]
              have hb5 := bytes_ne h5
              replace KS0 := Lib.hid KS0
              replace KS1 := Lib.hid KS1
              replace KS2 := Lib.hid KS2
              clear h0 h1 h2 h3 h4 h5
              go_enter Tryz.func82, Tryz.ntmps82
              go_wp2_with fail
              refine (KP.out _).mono ?_
              rintro e w1 ⟨rfl, hg1⟩
              have g1 := hal.trans hg1
              have hm1 := hg1
              have r1 := Grew.refl w1
              have d1 := r1.drew
              have gd := g1.trans d1
              have e0 := fun W (hW : Grew w1 W) => f0 W (hg1.trans hW)
              have e2 := fun W (hW : Grew w1 W) => f2 W (hg1.trans hW)
              have e3 := fun W (hW : Grew w1 W) => f3 W (hg1.trans hW)
              have p0a := fun W (hW : Grew w1 W) => q0a W (g1.trans hW)
              have p0c := fun W (hW : Grew w1 W) => q0c W (g1.trans hW)
              have p1a := fun W (hW : Grew w1 W) => q1a W (g1.trans hW)
              have p1c := fun W (hW : Grew w1 W) => q1c W (g1.trans hW)
              have p2a := fun W (hW : Grew w1 W) => q2a W (g1.trans hW)
              have p2c := fun W (hW : Grew w1 W) => q2c W (g1.trans hW)
              clear f0 f2 f3 q0a q0c q1a q1c q2a q2c
              go_wp2_with fail
              refine wp_region_held_drew (S := fun w' => Grew w1 w') (by kernel_rfl) d1 (fun hHeld => ?_)
              refine wpAnyH_take (i := 0) (oi := ?on52) (v := ?vn52) ?hin52 ?an52 ?bn52 ?cn52 ?qn52 (Or.inl ⟨?dn52, ?hyn52⟩) hHeld ?restn52
              case hin52 => (simp only [List.getElem?_toArray, List.getElem?_cons_succ, List.getElem?_cons_zero]; exact rfl)
              case an52 => kernel_rfl
              case bn52 => kernel_rfl
              case cn52 => kernel_rfl
              case qn52 => exact fun _ _ _ h => h
              case dn52 => rfl
              case hyn52 => (intro z hSw; (try dsimp only at hSw); go_simp; (try with_reducible rfl))
              try simp only [Act.put, List.setIfInBounds_toArray, List.set_cons_zero, List.set_cons_succ]
              refine wpAnyH_take (i := 1) (oi := ?on53) (v := ?vn53) ?hin53 ?an53 ?bn53 ?cn53 ?qn53 (Or.inl ⟨?dn53, ?hyn53⟩) hHeld ?restn53
              case hin53 => (simp only [List.getElem?_toArray, List.getElem?_cons_succ, List.getElem?_cons_zero]; exact rfl)
              case an53 => kernel_rfl
              case bn53 => kernel_rfl
              case cn53 => kernel_rfl
              case qn53 => exact fun _ _ _ h => h
              case dn53 => rfl
              case hyn53 => (intro z hSw; (try dsimp only at hSw); go_simp; (try with_reducible rfl))
              try simp only [Act.put, List.setIfInBounds_toArray, List.set_cons_zero, List.set_cons_succ]
              refine wpAnyH_take (i := 2) (oi := ?on54) (v := ?vn54) ?hin54 ?an54 ?bn54 ?cn54 ?qn54 (Or.inl ⟨?dn54, ?hyn54⟩) hHeld ?restn54
              case hin54 => (simp only [List.getElem?_toArray, List.getElem?_cons_succ, List.getElem?_cons_zero]; exact rfl)
              case an54 => kernel_rfl
              case bn54 => kernel_rfl
              case cn54 => kernel_rfl
              case qn54 => exact fun _ _ _ h => h
              case dn54 => rfl
              case hyn54 => (intro z hSw; (try dsimp only at hSw); go_simp; (try with_reducible rfl))
              try simp only [Act.put, List.setIfInBounds_toArray, List.set_cons_zero, List.set_cons_succ]
              refine wpAnyH_take (i := 3) (oi := ?on55) (v := ?vn55) ?hin55 ?an55 ?bn55 ?cn55 ?qn55 (Or.inl ⟨?dn55, ?hyn55⟩) hHeld ?restn55
              case hin55 => (simp only [List.getElem?_toArray, List.getElem?_cons_succ, List.getElem?_cons_zero]; exact rfl)
              case an55 => kernel_rfl
              case bn55 => kernel_rfl
              case cn55 => kernel_rfl
              case qn55 => exact fun _ _ _ h => h
              case dn55 => rfl
              case hyn55 => (intro z hSw; (try dsimp only at hSw); go_simp; (try with_reducible rfl))
              try simp only [Act.put, List.setIfInBounds_toArray, List.set_cons_zero, List.set_cons_succ]
              refine wpAnyH_take (i := 4) (oi := ?on56) (v := ?vn56) ?hin56 ?an56 ?bn56 ?cn56 ?qn56 (Or.inl ⟨?dn56, ?hyn56⟩) hHeld ?restn56
              case hin56 => (simp only [List.getElem?_toArray, List.getElem?_cons_succ, List.getElem?_cons_zero]; exact rfl)
              case an56 => kernel_rfl
              case bn56 => kernel_rfl
              case cn56 => kernel_rfl
              case qn56 => exact fun _ _ _ h => h
              case dn56 => rfl
              case hyn56 => (intro z hSw; (try dsimp only at hSw); go_simp; (try with_reducible rfl))
              try simp only [Act.put, List.setIfInBounds_toArray, List.set_cons_zero, List.set_cons_succ]
              refine wpAnyH_take (i := 5) (oi := ?on57) (v := ?vn57) ?hin57 ?an57 ?bn57 ?cn57 ?qn57 (Or.inl ⟨?dn57, ?hyn57⟩) hHeld ?restn57
              case hin57 => (simp only [List.getElem?_toArray, List.getElem?_cons_succ, List.getElem?_cons_zero]; exact rfl)
              case an57 => kernel_rfl
              case bn57 => kernel_rfl
              case cn57 => kernel_rfl
              case qn57 => exact fun _ _ _ h => h
              case dn57 => rfl
              case hyn57 => (intro z hSw; (try dsimp only at hSw); go_simp; (try with_reducible rfl))
              try simp only [Act.put, List.setIfInBounds_toArray, List.set_cons_zero, List.set_cons_succ]
              refine wpAnyH_take (i := 6) (oi := ?on58) (v := ?vn58) ?hin58 ?an58 ?bn58 ?cn58 ?qn58 (Or.inl ⟨?dn58, ?hyn58⟩) hHeld ?restn58
              case hin58 => (simp only [List.getElem?_toArray, List.getElem?_cons_succ, List.getElem?_cons_zero]; exact rfl)
              case an58 => kernel_rfl
              case bn58 => kernel_rfl
              case cn58 => kernel_rfl
              case qn58 => exact fun _ _ _ h => h
              case dn58 => rfl
              case hyn58 => (intro z hSw; (try dsimp only at hSw); go_simp; (try with_reducible rfl))
              try simp only [Act.put, List.setIfInBounds_toArray, List.set_cons_zero, List.set_cons_succ]
              refine wpAnyH_take (i := 7) (oi := ?on59) (v := ?vn59) ?hin59 ?an59 ?bn59 ?cn59 ?qn59 (Or.inl ⟨?dn59, ?hyn59⟩) hHeld ?restn59
              case hin59 => (simp only [List.getElem?_toArray, List.getElem?_cons_succ, List.getElem?_cons_zero]; exact rfl)
              case an59 => kernel_rfl
              case bn59 => kernel_rfl
              case cn59 => kernel_rfl
              case qn59 => exact fun _ _ _ h => h
              case dn59 => rfl
              case hyn59 => (intro z hSw; (try dsimp only at hSw); go_simp; (try with_reducible rfl))
              try simp only [Act.put, List.setIfInBounds_toArray, List.set_cons_zero, List.set_cons_succ]
              refine wpAnyH_ready (rs := [8]) (by kernel_rfl) (by simp) ?_
              refine AllReadyH.cons (o := ?on60) ?hin60 ?restn60 AllReadyH.nil
              case hin60 => (simp only [List.getElem?_toArray, List.getElem?_cons_succ, List.getElem?_cons_zero]; exact rfl)
              intro K hK
              go_simp
              go_at_call 100
              refine (KS0.out _ (by first | with_reducible assumption | exact Grew.alloc (by with_reducible assumption) _ | exact Grew.drew (Grew.alloc (by with_reducible assumption) _))).mono ?_
              rintro e w3 ⟨rfl, hq3⟩
              have hh3 := hq3.grew
              have gk3 : Grew w w3 := Grew.trans (by first | with_reducible assumption | exact Grew.alloc (by with_reducible assumption) _ | exact Grew.drew (Grew.alloc (by with_reducible assumption) _)) hh3
              have mk3 : Grew w1 w3 := Grew.trans (by first | with_reducible assumption | exact Grew.alloc (by with_reducible assumption) _ | exact Grew.drew (Grew.alloc (by with_reducible assumption) _)) hh3
              refine hK.out _ _ ?_ (fun hHeld => ?_)
              · (try dsimp only); first | with_reducible assumption | exact Grew.alloc ‹_› _
              clear hK K
              try simp only [Act.put, List.setIfInBounds_toArray, List.set_cons_zero, List.set_cons_succ]
              refine wpAnyH_take (i := 9) (oi := ?on61) (v := ?vn61) ?hin61 ?an61 ?bn61 ?cn61 ?qn61 (Or.inl ⟨?dn61, ?hyn61⟩) hHeld ?restn61
              case hin61 => (simp only [List.getElem?_toArray, List.getElem?_cons_succ, List.getElem?_cons_zero]; exact rfl)
              case an61 => kernel_rfl
              case bn61 => kernel_rfl
              case cn61 => kernel_rfl
              case qn61 => exact fun _ _ _ h => h
              case dn61 => rfl
              case hyn61 => (intro z hSw; (try dsimp only at hSw); go_simp; (try with_reducible rfl))
              try simp only [Act.put, List.setIfInBounds_toArray, List.set_cons_zero, List.set_cons_succ]
              refine wpAnyH_take (i := 10) (oi := ?on62) (v := ?vn62) ?hin62 ?an62 ?bn62 ?cn62 ?qn62 (Or.inl ⟨?dn62, ?hyn62⟩) hHeld ?restn62
              case hin62 => (simp only [List.getElem?_toArray, List.getElem?_cons_succ, List.getElem?_cons_zero]; exact rfl)
              case an62 => kernel_rfl
              case bn62 => kernel_rfl
              case cn62 => kernel_rfl
              case qn62 => exact fun _ _ _ h => h
              case dn62 => rfl
              case hyn62 => (intro z hSw; (try dsimp only at hSw); go_simp; (try with_reducible rfl))
              try simp only [Act.put, List.setIfInBounds_toArray, List.set_cons_zero, List.set_cons_succ]
              refine wpAnyH_take (i := 11) (oi := ?on63) (v := ?vn63) ?hin63 ?an63 ?bn63 ?cn63 ?qn63 (Or.inl ⟨?dn63, ?hyn63⟩) hHeld ?restn63
              case hin63 => (simp only [List.getElem?_toArray, List.getElem?_cons_succ, List.getElem?_cons_zero]; exact rfl)
              case an63 => kernel_rfl
              case bn63 => kernel_rfl
              case cn63 => kernel_rfl
              case qn63 => exact fun _ _ _ h => h
              case dn63 => rfl
              case hyn63 => (intro z hSw; (try dsimp only at hSw); go_simp; (try with_reducible rfl))
              try simp only [Act.put, List.setIfInBounds_toArray, List.set_cons_zero, List.set_cons_succ]
              refine wpAnyH_take (i := 12) (oi := ?on64) (v := ?vn64) ?hin64 ?an64 ?bn64 ?cn64 ?qn64 (Or.inl ⟨?dn64, ?hyn64⟩) hHeld ?restn64
              case hin64 => (simp only [List.getElem?_toArray, List.getElem?_cons_succ, List.getElem?_cons_zero]; exact rfl)
              case an64 => kernel_rfl
              case bn64 => kernel_rfl
              case cn64 => kernel_rfl
              case qn64 => exact fun _ _ _ h => h
              case dn64 => rfl
              case hyn64 => (intro z hSw; (try dsimp only at hSw); go_simp; (try with_reducible rfl))
              try simp only [Act.put, List.setIfInBounds_toArray, List.set_cons_zero, List.set_cons_succ]
              refine wpAnyH_take (i := 13) (oi := ?on65) (v := ?vn65) ?hin65 ?an65 ?bn65 ?cn65 ?qn65 (Or.inl ⟨?dn65, ?hyn65⟩) hHeld ?restn65
              case hin65 => (simp only [List.getElem?_toArray, List.getElem?_cons_succ, List.getElem?_cons_zero]; exact rfl)
              case an65 => kernel_rfl
              case bn65 => kernel_rfl
              case cn65 => kernel_rfl
              case qn65 => exact fun _ _ _ h => h
              case dn65 => rfl
              case hyn65 => (intro z hSw; (try dsimp only at hSw); go_simp; (try with_reducible rfl))
              try simp only [Act.put, List.setIfInBounds_toArray, List.set_cons_zero, List.set_cons_succ]
              refine wpAnyH_take (i := 14) (oi := ?on66) (v := ?vn66) ?hin66 ?an66 ?bn66 ?cn66 ?qn66 (Or.inl ⟨?dn66, ?hyn66⟩) hHeld ?restn66
              case hin66 => (simp only [List.getElem?_toArray, List.getElem?_cons_succ, List.getElem?_cons_zero]; exact rfl)
              case an66 => kernel_rfl
              case bn66 => kernel_rfl
              case cn66 => kernel_rfl
              case qn66 => exact fun _ _ _ h => h
              case dn66 => rfl
              case hyn66 => (intro z hSw; (try dsimp only at hSw); go_simp; (try with_reducible rfl))
              try simp only [Act.put, List.setIfInBounds_toArray, List.set_cons_zero, List.set_cons_succ]
              refine wpAnyH_take (i := 15) (oi := ?on67) (v := ?vn67) ?hin67 ?an67 ?bn67 ?cn67 ?qn67 (Or.inl ⟨?dn67, ?hyn67⟩) hHeld ?restn67
              case hin67 => (simp only [List.getElem?_toArray, List.getElem?_cons_succ, List.getElem?_cons_zero]; exact rfl)
              case an67 => kernel_rfl
              case bn67 => kernel_rfl
              case cn67 => kernel_rfl
              case qn67 => exact fun _ _ _ h => h
              case dn67 => rfl
              case hyn67 => (intro z hSw; (try dsimp only at hSw); go_simp; (try with_reducible rfl))
              try simp only [Act.put, List.setIfInBounds_toArray, List.set_cons_zero, List.set_cons_succ]
              refine wpAnyH_take (i := 16) (oi := ?on68) (v := ?vn68) ?hin68 ?an68 ?bn68 ?cn68 ?qn68 (Or.inl ⟨?dn68, ?hyn68⟩) hHeld ?restn68
              case hin68 => (simp only [List.getElem?_toArray, List.getElem?_cons_succ, List.getElem?_cons_zero]; exact rfl)
              case an68 => kernel_rfl
              case bn68 => kernel_rfl
              case cn68 => kernel_rfl
              case qn68 => exact fun _ _ _ h => h
              case dn68 => rfl
              case hyn68 => (intro z hSw; (try dsimp only at hSw); go_simp; (try with_reducible rfl))
              try simp only [Act.put, List.setIfInBounds_toArray, List.set_cons_zero, List.set_cons_succ]
              refine wpAnyH_take (i := 17) (oi := ?on69) (v := ?vn69) ?hin69 ?an69 ?bn69 ?cn69 ?qn69 (Or.inl ⟨?dn69, ?hyn69⟩) hHeld ?restn69
              case hin69 => (simp only [List.getElem?_toArray, List.getElem?_cons_succ, List.getElem?_cons_zero]; exact rfl)
              case an69 => kernel_rfl
              case bn69 => kernel_rfl
              case cn69 => kernel_rfl
              case qn69 => exact fun _ _ _ h => h
              case dn69 => rfl
              case hyn69 => (intro z hSw; (try dsimp only at hSw); go_simp; (try with_reducible rfl))
              try simp only [Act.put, List.setIfInBounds_toArray, List.set_cons_zero, List.set_cons_succ]
              refine wpAnyH_ready (rs := [18]) (by kernel_rfl) (by simp) ?_
              refine AllReadyH.cons (o := ?on70) ?hin70 ?restn70 AllReadyH.nil
              case hin70 => (simp only [List.getElem?_toArray, List.getElem?_cons_succ, List.getElem?_cons_zero]; exact rfl)
              intro K hK
              go_simp
              refine hK.out _ _ ?_ (fun hHeld => ?_)
              · (try dsimp only); first | with_reducible assumption | exact Grew.alloc ‹_› _
              clear hK K
              try simp only [Act.put, List.setIfInBounds_toArray, List.set_cons_zero, List.set_cons_succ]
              refine wpAnyH_ready (rs := [19]) (by kernel_rfl) (by simp) ?_
              refine AllReadyH.cons (o := ?on71) ?hin71 ?restn71 AllReadyH.nil
              case hin71 => (simp only [List.getElem?_toArray, List.getElem?_cons_succ, List.getElem?_cons_zero]; exact rfl)
              intro K hK
              go_simp
              go_at_call 102
              refine (KW.out (pl C0) _ (by first | with_reducible assumption | exact Grew.alloc (by with_reducible assumption) _ | exact Grew.drew (Grew.alloc (by with_reducible assumption) _)) _ (by first | exact strs_lit1 _ _ | exact (strs_lit1 _ _).grew (Grew.refl _).drew)).mono ?_
              rintro e z1 ⟨zu1, rfl, zo1, zg1⟩
              have gz1 : Grew w z1 := Grew.trans (by first | with_reducible assumption | exact Grew.alloc (by with_reducible assumption) _ | exact Grew.drew (Grew.alloc (by with_reducible assumption) _)) zg1
              have mz1 : Grew w1 z1 := Grew.trans (by first | with_reducible assumption | exact Grew.alloc (by with_reducible assumption) _ | exact Grew.drew (Grew.alloc (by with_reducible assumption) _)) zg1
              have zs1 := Lib.hid zo1.strs
              clear zo1
              refine hK.out _ _ ?_ (fun hHeld => ?_)
              · (try dsimp only); first | with_reducible assumption | exact Grew.alloc ‹_› _
              clear hK K
              try simp only [Act.put, List.setIfInBounds_toArray, List.set_cons_zero, List.set_cons_succ]
              refine wpAnyH_ready (rs := [20]) (by kernel_rfl) (by simp) ?_
              refine AllReadyH.cons (o := ?on72) ?hin72 ?restn72 AllReadyH.nil
              case hin72 => (simp only [List.getElem?_toArray, List.getElem?_cons_succ, List.getElem?_cons_zero]; exact rfl)
              intro K hK
              go_simp
              go_at_call 100
              refine (KS1.out _ gz1 _ zs1.out).mono ?_
              rintro e w4 ⟨rfl, hq4⟩
              have hh4 := hq4.grew
              have gk4 : Grew w w4 := Grew.trans (by first | with_reducible assumption | exact Grew.alloc (by with_reducible assumption) _ | exact Grew.drew (Grew.alloc (by with_reducible assumption) _)) hh4
              have mk4 : Grew w1 w4 := Grew.trans (by first | with_reducible assumption | exact Grew.alloc (by with_reducible assumption) _ | exact Grew.drew (Grew.alloc (by with_reducible assumption) _)) hh4
              refine hK.out _ _ ?_ (fun hHeld => ?_)
              · (try dsimp only); first | with_reducible assumption | exact Grew.alloc ‹_› _
              clear hK K
              try simp only [Act.put, List.setIfInBounds_toArray, List.set_cons_zero, List.set_cons_succ]
              refine wpAnyH_take (i := 21) (oi := ?on73) (v := ?vn73) ?hin73 ?an73 ?bn73 ?cn73 ?qn73 (Or.inl ⟨?dn73, ?hyn73⟩) hHeld ?restn73
              case hin73 => (simp only [List.getElem?_toArray, List.getElem?_cons_succ, List.getElem?_cons_zero]; exact rfl)
              case an73 => kernel_rfl
              case bn73 => kernel_rfl
              case cn73 => kernel_rfl
              case qn73 => exact fun _ _ _ h => h
              case dn73 => rfl
              case hyn73 => (intro z hSw; (try dsimp only at hSw); go_simp; (try with_reducible rfl))
              try simp only [Act.put, List.setIfInBounds_toArray, List.set_cons_zero, List.set_cons_succ]
              refine wpAnyH_take (i := 22) (oi := ?on74) (v := ?vn74) ?hin74 ?an74 ?bn74 ?cn74 ?qn74 (Or.inl ⟨?dn74, ?hyn74⟩) hHeld ?restn74
              case hin74 => (simp only [List.getElem?_toArray, List.getElem?_cons_succ, List.getElem?_cons_zero]; exact rfl)
              case an74 => kernel_rfl
              case bn74 => kernel_rfl
              case cn74 => kernel_rfl
              case qn74 => exact fun _ _ _ h => h
              case dn74 => rfl
              case hyn74 => (intro z hSw; (try dsimp only at hSw); go_simp; (try with_reducible rfl))
              try simp only [Act.put, List.setIfInBounds_toArray, List.set_cons_zero, List.set_cons_succ]
              refine wpAnyH_take (i := 23) (oi := ?on75) (v := ?vn75) ?hin75 ?an75 ?bn75 ?cn75 ?qn75 (Or.inl ⟨?dn75, ?hyn75⟩) hHeld ?restn75
              case hin75 => (simp only [List.getElem?_toArray, List.getElem?_cons_succ, List.getElem?_cons_zero]; exact rfl)
              case an75 => kernel_rfl
              case bn75 => kernel_rfl
              case cn75 => kernel_rfl
              case qn75 => exact fun _ _ _ h => h
              case dn75 => rfl
              case hyn75 => (intro z hSw; (try dsimp only at hSw); go_simp; (try with_reducible rfl))
              try simp only [Act.put, List.setIfInBounds_toArray, List.set_cons_zero, List.set_cons_succ]
              refine wpAnyH_take (i := 24) (oi := ?on76) (v := ?vn76) ?hin76 ?an76 ?bn76 ?cn76 ?qn76 (Or.inl ⟨?dn76, ?hyn76⟩) hHeld ?restn76
              case hin76 => (simp only [List.getElem?_toArray, List.getElem?_cons_succ, List.getElem?_cons_zero]; exact rfl)
              case an76 => kernel_rfl
              case bn76 => kernel_rfl
              case cn76 => kernel_rfl
              case qn76 => exact fun _ _ _ h => h
              case dn76 => rfl
              case hyn76 => (intro z hSw; (try dsimp only at hSw); go_simp; (try with_reducible rfl))
              try simp only [Act.put, List.setIfInBounds_toArray, List.set_cons_zero, List.set_cons_succ]
              refine wpAnyH_take (i := 25) (oi := ?on77) (v := ?vn77) ?hin77 ?an77 ?bn77 ?cn77 ?qn77 (Or.inl ⟨?dn77, ?hyn77⟩) hHeld ?restn77
              case hin77 => (simp only [List.getElem?_toArray, List.getElem?_cons_succ, List.getElem?_cons_zero]; exact rfl)
              case an77 => kernel_rfl
              case bn77 => kernel_rfl
              case cn77 => kernel_rfl
              case qn77 => exact fun _ _ _ h => h
              case dn77 => rfl
              case hyn77 => (intro z hSw; (try dsimp only at hSw); go_simp; (try with_reducible rfl))
              try simp only [Act.put, List.setIfInBounds_toArray, List.set_cons_zero, List.set_cons_succ]
              refine wpAnyH_take (i := 26) (oi := ?on78) (v := ?vn78) ?hin78 ?an78 ?bn78 ?cn78 ?qn78 (Or.inl ⟨?dn78, ?hyn78⟩) hHeld ?restn78
              case hin78 => (simp only [List.getElem?_toArray, List.getElem?_cons_succ, List.getElem?_cons_zero]; exact rfl)
              case an78 => kernel_rfl
              case bn78 => kernel_rfl
              case cn78 => kernel_rfl
              case qn78 => exact fun _ _ _ h => h
              case dn78 => rfl
              case hyn78 => (intro z hSw; (try dsimp only at hSw); go_simp; (try with_reducible rfl))
              try simp only [Act.put, List.setIfInBounds_toArray, List.set_cons_zero, List.set_cons_succ]
              refine wpAnyH_take (i := 27) (oi := ?on79) (v := ?vn79) ?hin79 ?an79 ?bn79 ?cn79 ?qn79 (Or.inl ⟨?dn79, ?hyn79⟩) hHeld ?restn79
              case hin79 => (simp only [List.getElem?_toArray, List.getElem?_cons_succ, List.getElem?_cons_zero]; exact rfl)
              case an79 => kernel_rfl
              case bn79 => kernel_rfl
              case cn79 => kernel_rfl
              case qn79 => exact fun _ _ _ h => h
              case dn79 => rfl
              case hyn79 => (intro z hSw; (try dsimp only at hSw); go_simp; (try with_reducible rfl))
              try simp only [Act.put, List.setIfInBounds_toArray, List.set_cons_zero, List.set_cons_succ]
              refine wpAnyH_take (i := 28) (oi := ?on80) (v := ?vn80) ?hin80 ?an80 ?bn80 ?cn80 ?qn80 (Or.inl ⟨?dn80, ?hyn80⟩) hHeld ?restn80
              case hin80 => (simp only [List.getElem?_toArray, List.getElem?_cons_succ, List.getElem?_cons_zero]; exact rfl)
              case an80 => kernel_rfl
              case bn80 => kernel_rfl
              case cn80 => kernel_rfl
              case qn80 => exact fun _ _ _ h => h
              case dn80 => rfl
              case hyn80 => (intro z hSw; (try dsimp only at hSw); go_simp; (try with_reducible rfl))
              try simp only [Act.put, List.setIfInBounds_toArray, List.set_cons_zero, List.set_cons_succ]
              refine wpAnyH_take (i := 29) (oi := ?on81) (v := ?vn81) ?hin81 ?an81 ?bn81 ?cn81 ?qn81 (Or.inl ⟨?dn81, ?hyn81⟩) hHeld ?restn81
              case hin81 => (simp only [List.getElem?_toArray, List.getElem?_cons_succ, List.getElem?_cons_zero]; exact rfl)
              case an81 => kernel_rfl
              case bn81 => kernel_rfl
              case cn81 => kernel_rfl
              case qn81 => exact fun _ _ _ h => h
              case dn81 => rfl
              case hyn81 => (intro z hSw; (try dsimp only at hSw); go_simp; (try with_reducible rfl))
              try simp only [Act.put, List.setIfInBounds_toArray, List.set_cons_zero, List.set_cons_succ]
              refine wpAnyH_ready (rs := [30]) (by kernel_rfl) (by simp) ?_
              refine AllReadyH.cons (o := ?on82) ?hin82 ?restn82 AllReadyH.nil
              case hin82 => (simp only [List.getElem?_toArray, List.getElem?_cons_succ, List.getElem?_cons_zero]; exact rfl)
              intro K hK
              go_simp
              refine hK.out _ _ ?_ (fun hHeld => ?_)
              · (try dsimp only); first | with_reducible assumption | exact Grew.alloc ‹_› _
              clear hK K
              try simp only [Act.put, List.setIfInBounds_toArray, List.set_cons_zero, List.set_cons_succ]
              refine wpAnyH_ready (rs := [31]) (by kernel_rfl) (by simp) ?_
              refine AllReadyH.cons (o := ?on83) ?hin83 ?restn83 AllReadyH.nil
              case hin83 => (simp only [List.getElem?_toArray, List.getElem?_cons_succ, List.getElem?_cons_zero]; exact rfl)
              intro K hK
              go_simp
              go_at_call 102
              refine (KW.out (pr C0) _ (by first | with_reducible assumption | exact Grew.alloc (by with_reducible assumption) _ | exact Grew.drew (Grew.alloc (by with_reducible assumption) _)) _ (by first | exact strs_lit1 _ _ | exact (strs_lit1 _ _).grew (Grew.refl _).drew)).mono ?_
              rintro e z2 ⟨zu2, rfl, zo2, zg2⟩
              have gz2 : Grew w z2 := Grew.trans (by first | with_reducible assumption | exact Grew.alloc (by with_reducible assumption) _ | exact Grew.drew (Grew.alloc (by with_reducible assumption) _)) zg2
              have mz2 : Grew w1 z2 := Grew.trans (by first | with_reducible assumption | exact Grew.alloc (by with_reducible assumption) _ | exact Grew.drew (Grew.alloc (by with_reducible assumption) _)) zg2
              have zs2 := Lib.hid zo2.strs
              clear zo2
              refine hK.out _ _ ?_ (fun hHeld => ?_)
              · (try dsimp only); first | with_reducible assumption | exact Grew.alloc ‹_› _
              clear hK K
              try simp only [Act.put, List.setIfInBounds_toArray, List.set_cons_zero, List.set_cons_succ]
              refine wpAnyH_ready (rs := [32]) (by kernel_rfl) (by simp) ?_
              refine AllReadyH.cons (o := ?on84) ?hin84 ?restn84 AllReadyH.nil
              case hin84 => (simp only [List.getElem?_toArray, List.getElem?_cons_succ, List.getElem?_cons_zero]; exact rfl)
              intro K hK
              go_simp
              go_at_call 100
              refine (KS2.out _ gz2 _ zs2.out).mono ?_
              rintro e w5 ⟨rfl, hq5⟩
              have hh5 := hq5.grew
              have gk5 : Grew w w5 := Grew.trans (by first | with_reducible assumption | exact Grew.alloc (by with_reducible assumption) _ | exact Grew.drew (Grew.alloc (by with_reducible assumption) _)) hh5
              have mk5 : Grew w1 w5 := Grew.trans (by first | with_reducible assumption | exact Grew.alloc (by with_reducible assumption) _ | exact Grew.drew (Grew.alloc (by with_reducible assumption) _)) hh5
              refine hK.out _ _ ?_ (fun hHeld => ?_)
              · (try dsimp only); first | with_reducible assumption | exact Grew.alloc ‹_› _
              clear hK K
              try simp only [Act.put, List.setIfInBounds_toArray, List.set_cons_zero, List.set_cons_succ]
              refine wpAnyH_take (i := 33) (oi := ?on85) (v := ?vn85) ?hin85 ?an85 ?bn85 ?cn85 ?qn85 (Or.inl ⟨?dn85, ?hyn85⟩) hHeld ?restn85
              case hin85 => (simp only [List.getElem?_toArray, List.getElem?_cons_succ, List.getElem?_cons_zero]; exact rfl)
              case an85 => kernel_rfl
              case bn85 => kernel_rfl
              case cn85 => kernel_rfl
              case qn85 => exact fun _ _ _ h => h
              case dn85 => rfl
              case hyn85 => (intro z hSw; (try dsimp only at hSw); go_simp; (try with_reducible rfl))
              try simp only [Act.put, List.setIfInBounds_toArray, List.set_cons_zero, List.set_cons_succ]
              refine wpAnyH_take (i := 34) (oi := ?on86) (v := ?vn86) ?hin86 ?an86 ?bn86 ?cn86 ?qn86 (Or.inl ⟨?dn86, ?hyn86⟩) hHeld ?restn86
              case hin86 => (simp only [List.getElem?_toArray, List.getElem?_cons_succ, List.getElem?_cons_zero]; exact rfl)
              case an86 => kernel_rfl
              case bn86 => kernel_rfl
              case cn86 => kernel_rfl
              case qn86 => exact fun _ _ _ h => h
              case dn86 => rfl
              case hyn86 => (intro z hSw; (try dsimp only at hSw); go_simp; (try with_reducible rfl))
              try simp only [Act.put, List.setIfInBounds_toArray, List.set_cons_zero, List.set_cons_succ]
              refine wpAnyH_take (i := 35) (oi := ?on87) (v := ?vn87) ?hin87 ?an87 ?bn87 ?cn87 ?qn87 (Or.inl ⟨?dn87, ?hyn87⟩) hHeld ?restn87
              case hin87 => (simp only [List.getElem?_toArray, List.getElem?_cons_succ, List.getElem?_cons_zero]; exact rfl)
              case an87 => kernel_rfl
              case bn87 => kernel_rfl
              case cn87 => kernel_rfl
              case qn87 => exact fun _ _ _ h => h
              case dn87 => rfl
              case hyn87 => (intro z hSw; (try dsimp only at hSw); go_simp; (try with_reducible rfl))
              try simp only [Act.put, List.setIfInBounds_toArray, List.set_cons_zero, List.set_cons_succ]
              refine wpAnyH_take (i := 36) (oi := ?on88) (v := ?vn88) ?hin88 ?an88 ?bn88 ?cn88 ?qn88 (Or.inl ⟨?dn88, ?hyn88⟩) hHeld ?restn88
              case hin88 => (simp only [List.getElem?_toArray, List.getElem?_cons_succ, List.getElem?_cons_zero]; exact rfl)
              case an88 => kernel_rfl
              case bn88 => kernel_rfl
              case cn88 => kernel_rfl
              case qn88 => exact fun _ _ _ h => h
              case dn88 => rfl
              case hyn88 => (intro z hSw; (try dsimp only at hSw); go_simp; (try with_reducible rfl))
              try simp only [Act.put, List.setIfInBounds_toArray, List.set_cons_zero, List.set_cons_succ]
              refine wpAnyH_take (i := 37) (oi := ?on89) (v := ?vn89) ?hin89 ?an89 ?bn89 ?cn89 ?qn89 (Or.inl ⟨?dn89, ?hyn89⟩) hHeld ?restn89
              case hin89 => (simp only [List.getElem?_toArray, List.getElem?_cons_succ, List.getElem?_cons_zero]; exact rfl)
              case an89 => kernel_rfl
              case bn89 => kernel_rfl
              case cn89 => kernel_rfl
              case qn89 => exact fun _ _ _ h => h
              case dn89 => rfl
              case hyn89 => (intro z hSw; (try dsimp only at hSw); go_simp; (try with_reducible rfl))
              try simp only [Act.put, List.setIfInBounds_toArray, List.set_cons_zero, List.set_cons_succ]
              refine wpAnyH_take (i := 38) (oi := ?on90) (v := ?vn90) ?hin90 ?an90 ?bn90 ?cn90 ?qn90 (Or.inl ⟨?dn90, ?hyn90⟩) hHeld ?restn90
              case hin90 => (simp only [List.getElem?_toArray, List.getElem?_cons_succ, List.getElem?_cons_zero]; exact rfl)
              case an90 => kernel_rfl
              case bn90 => kernel_rfl
              case cn90 => kernel_rfl
              case qn90 => exact fun _ _ _ h => h
              case dn90 => rfl
              case hyn90 => (intro z hSw; (try dsimp only at hSw); go_simp; (try with_reducible rfl))
              try simp only [Act.put, List.setIfInBounds_toArray, List.set_cons_zero, List.set_cons_succ]
              refine wpAnyH_take (i := 39) (oi := ?on91) (v := ?vn91) ?hin91 ?an91 ?bn91 ?cn91 ?qn91 (Or.inl ⟨?dn91, ?hyn91⟩) hHeld ?restn91
              case hin91 => (simp only [List.getElem?_toArray, List.getElem?_cons_succ, List.getElem?_cons_zero]; exact rfl)
              case an91 => kernel_rfl
              case bn91 => kernel_rfl
              case cn91 => kernel_rfl
              case qn91 => exact fun _ _ _ h => h
              case dn91 => rfl
              case hyn91 => (intro z hSw; (try dsimp only at hSw); go_simp; (try with_reducible rfl))
              try simp only [Act.put, List.setIfInBounds_toArray, List.set_cons_zero, List.set_cons_succ]
              refine wpAnyH_take (i := 40) (oi := ?on92) (v := ?vn92) ?hin92 ?an92 ?bn92 ?cn92 ?qn92 (Or.inl ⟨?dn92, ?hyn92⟩) hHeld ?restn92
              case hin92 => (simp only [List.getElem?_toArray, List.getElem?_cons_succ, List.getElem?_cons_zero]; exact rfl)
              case an92 => kernel_rfl
              case bn92 => kernel_rfl
              case cn92 => kernel_rfl
              case qn92 => exact fun _ _ _ h => h
              case dn92 => rfl
              case hyn92 => (intro z hSw; (try dsimp only at hSw); go_simp; (try with_reducible rfl))
              try simp only [Act.put, List.setIfInBounds_toArray, List.set_cons_zero, List.set_cons_succ]
              refine wpAnyH_take (i := 41) (oi := ?on93) (v := ?vn93) ?hin93 ?an93 ?bn93 ?cn93 ?qn93 (Or.inl ⟨?dn93, ?hyn93⟩) hHeld ?restn93
              case hin93 => (simp only [List.getElem?_toArray, List.getElem?_cons_succ, List.getElem?_cons_zero]; exact rfl)
              case an93 => kernel_rfl
              case bn93 => kernel_rfl
              case cn93 => kernel_rfl
              case qn93 => exact fun _ _ _ h => h
              case dn93 => rfl
              case hyn93 => (intro z hSw; (try dsimp only at hSw); go_simp; (try with_reducible rfl))
              try simp only [Act.put, List.setIfInBounds_toArray, List.set_cons_zero, List.set_cons_succ]
              refine wpAnyH_take (i := 42) (oi := ?on94) (v := ?vn94) ?hin94 ?an94 ?bn94 ?cn94 ?qn94 (Or.inl ⟨?dn94, ?hyn94⟩) hHeld ?restn94
              case hin94 => (simp only [List.getElem?_toArray, List.getElem?_cons_succ, List.getElem?_cons_zero]; exact rfl)
              case an94 => kernel_rfl
              case bn94 => kernel_rfl
              case cn94 => kernel_rfl
              case qn94 => exact fun _ _ _ h => h
              case dn94 => rfl
              case hyn94 => (intro z hSw; (try dsimp only at hSw); go_simp; (try with_reducible rfl))
              try simp only [Act.put, List.setIfInBounds_toArray, List.set_cons_zero, List.set_cons_succ]
              refine wpAnyH_take (i := 43) (oi := ?on95) (v := ?vn95) ?hin95 ?an95 ?bn95 ?cn95 ?qn95 (Or.inl ⟨?dn95, ?hyn95⟩) hHeld ?restn95
              case hin95 => (simp only [List.getElem?_toArray, List.getElem?_cons_succ, List.getElem?_cons_zero]; exact rfl)
              case an95 => kernel_rfl
              case bn95 => kernel_rfl
              case cn95 => kernel_rfl
              case qn95 => exact fun _ _ _ h => h
              case dn95 => rfl
              case hyn95 => (intro z hSw; (try dsimp only at hSw); go_simp; (try with_reducible rfl))
              try simp only [Act.put, List.setIfInBounds_toArray, List.set_cons_zero, List.set_cons_succ]
              refine wpAnyH_take (i := 44) (oi := ?on96) (v := ?vn96) ?hin96 ?an96 ?bn96 ?cn96 ?qn96 (Or.inl ⟨?dn96, ?hyn96⟩) hHeld ?restn96
              case hin96 => (simp only [List.getElem?_toArray, List.getElem?_cons_succ, List.getElem?_cons_zero]; exact rfl)
              case an96 => kernel_rfl
              case bn96 => kernel_rfl
              case cn96 => kernel_rfl
              case qn96 => exact fun _ _ _ h => h
              case dn96 => rfl
              case hyn96 => (intro z hSw; (try dsimp only at hSw); go_simp; (try with_reducible rfl))
              try simp only [Act.put, List.setIfInBounds_toArray, List.set_cons_zero, List.set_cons_succ]
              refine wpAnyH_take (i := 45) (oi := ?on97) (v := ?vn97) ?hin97 ?an97 ?bn97 ?cn97 ?qn97 (Or.inl ⟨?dn97, ?hyn97⟩) hHeld ?restn97
              case hin97 => (simp only [List.getElem?_toArray, List.getElem?_cons_succ, List.getElem?_cons_zero]; exact rfl)
              case an97 => kernel_rfl
              case bn97 => kernel_rfl
              case cn97 => kernel_rfl
              case qn97 => exact fun _ _ _ h => h
              case dn97 => rfl
              case hyn97 => (intro z hSw; (try dsimp only at hSw); go_simp; (try with_reducible rfl))
              try simp only [Act.put, List.setIfInBounds_toArray, List.set_cons_zero, List.set_cons_succ]
              refine wpAnyH_take (i := 46) (oi := ?on98) (v := ?vn98) ?hin98 ?an98 ?bn98 ?cn98 ?qn98 (Or.inl ⟨?dn98, ?hyn98⟩) hHeld ?restn98
              case hin98 => (simp only [List.getElem?_toArray, List.getElem?_cons_succ, List.getElem?_cons_zero]; exact rfl)
              case an98 => kernel_rfl
              case bn98 => kernel_rfl
              case cn98 => kernel_rfl
              case qn98 => exact fun _ _ _ h => h
              case dn98 => rfl
              case hyn98 => (intro z hSw; (try dsimp only at hSw); go_simp; (try with_reducible rfl))
              try simp only [Act.put, List.setIfInBounds_toArray, List.set_cons_zero, List.set_cons_succ]
              refine wpAnyH_take (i := 47) (oi := ?on99) (v := ?vn99) ?hin99 ?an99 ?bn99 ?cn99 ?qn99 (Or.inl ⟨?dn99, ?hyn99⟩) hHeld ?restn99
              case hin99 => (simp only [List.getElem?_toArray, List.getElem?_cons_succ, List.getElem?_cons_zero]; exact rfl)
              case an99 => kernel_rfl
              case bn99 => kernel_rfl
              case cn99 => kernel_rfl
              case qn99 => exact fun _ _ _ h => h
              case dn99 => rfl
              case hyn99 => (intro z hSw; (try dsimp only at hSw); go_simp; (try with_reducible rfl))
              try simp only [Act.put, List.setIfInBounds_toArray, List.set_cons_zero, List.set_cons_succ]
              refine wpAnyH_take (i := 48) (oi := ?on100) (v := ?vn100) ?hin100 ?an100 ?bn100 ?cn100 ?qn100 (Or.inl ⟨?dn100, ?hyn100⟩) hHeld ?restn100
              case hin100 => (simp only [List.getElem?_toArray, List.getElem?_cons_succ, List.getElem?_cons_zero]; exact rfl)
              case an100 => kernel_rfl
              case bn100 => kernel_rfl
              case cn100 => kernel_rfl
              case qn100 => exact fun _ _ _ h => h
              case dn100 => rfl
              case hyn100 => (intro z hSw; (try dsimp only at hSw); go_simp; (try with_reducible rfl))
              try simp only [Act.put, List.setIfInBounds_toArray, List.set_cons_zero, List.set_cons_succ]
              refine wpAnyH_take (i := 49) (oi := ?on101) (v := ?vn101) ?hin101 ?an101 ?bn101 ?cn101 ?qn101 (Or.inl ⟨?dn101, ?hyn101⟩) hHeld ?restn101
              case hin101 => (simp only [List.getElem?_toArray, List.getElem?_cons_succ, List.getElem?_cons_zero]; exact rfl)
              case an101 => kernel_rfl
              case bn101 => kernel_rfl
              case cn101 => kernel_rfl
              case qn101 => exact fun _ _ _ h => h
              case dn101 => rfl
              case hyn101 => (intro z hSw; (try dsimp only at hSw); go_simp; (try with_reducible rfl))
              try simp only [Act.put, List.setIfInBounds_toArray, List.set_cons_zero, List.set_cons_succ]
              refine wpAnyH_take (i := 50) (oi := ?on102) (v := ?vn102) ?hin102 ?an102 ?bn102 ?cn102 ?qn102 (Or.inl ⟨?dn102, ?hyn102⟩) hHeld ?restn102
              case hin102 => (simp only [List.getElem?_toArray, List.getElem?_cons_succ, List.getElem?_cons_zero]; exact rfl)
              case an102 => kernel_rfl
              case bn102 => kernel_rfl
              case cn102 => kernel_rfl
              case qn102 => exact fun _ _ _ h => h
              case dn102 => rfl
              case hyn102 => (intro z hSw; (try dsimp only at hSw); go_simp; (try with_reducible rfl))
              try simp only [Act.put, List.setIfInBounds_toArray, List.set_cons_zero, List.set_cons_succ]
              refine wpAnyH_done (by kernel_rfl) ?_ _
              go_wp2_with fail
              go_ret
              exact ⟨rfl, gk5⟩
          · rw [dcd_false (fun h => h4 (h.2.2.2.2.1))]
            have hb4 := bytes_ne h4
            replace KS0 := Lib.hid KS0
            replace KS1 := Lib.hid KS1
            replace KS2 := Lib.hid KS2
            clear h0 h1 h2 h3 h4
            go_enter Tryz.func82, Tryz.ntmps82
            go_wp2_with fail
            refine (KP.out _).mono ?_
            rintro e w1 ⟨rfl, hg1⟩
            have g1 := hal.trans hg1
            have hm1 := hg1
            have r1 := Grew.refl w1
            have d1 := r1.drew
            have gd := g1.trans d1
            have e0 := fun W (hW : Grew w1 W) => f0 W (hg1.trans hW)
            have e2 := fun W (hW : Grew w1 W) => f2 W (hg1.trans hW)
            have e3 := fun W (hW : Grew w1 W) => f3 W (hg1.trans hW)
            have p0a := fun W (hW : Grew w1 W) => q0a W (g1.trans hW)
            have p0c := fun W (hW : Grew w1 W) => q0c W (g1.trans hW)
            have p1a := fun W (hW : Grew w1 W) => q1a W (g1.trans hW)
            have p1c := fun W (hW : Grew w1 W) => q1c W (g1.trans hW)
            have p2a := fun W (hW : Grew w1 W) => q2a W (g1.trans hW)
            have p2c := fun W (hW : Grew w1 W) => q2c W (g1.trans hW)
            clear f0 f2 f3 q0a q0c q1a q1c q2a q2c
            go_wp2_with fail
            refine wp_region_held_drew (S := fun w' => Grew w1 w') (by kernel_rfl) d1 (fun hHeld => ?_)
            refine wpAnyH_take (i := 0) (oi := ?on103) (v := ?vn103) ?hin103 ?an103 ?bn103 ?cn103 ?qn103 (Or.inl ⟨?dn103, ?hyn103⟩) hHeld ?restn103
            case hin103 => (simp only [List.getElem?_toArray, List.getElem?_cons_succ, List.getElem?_cons_zero]; exact rfl)
            case an103 => kernel_rfl
            case bn103 => kernel_rfl
            case cn103 => kernel_rfl
            case qn103 => exact fun _ _ _ h => h
            case dn103 => rfl
            case hyn103 => (intro z hSw; (try dsimp only at hSw); go_simp; (try with_reducible rfl))
            try simp only [Act.put, List.setIfInBounds_toArray, List.set_cons_zero, List.set_cons_succ]
            refine wpAnyH_take (i := 1) (oi := ?on104) (v := ?vn104) ?hin104 ?an104 ?bn104 ?cn104 ?qn104 (Or.inl ⟨?dn104, ?hyn104⟩) hHeld ?restn104
            case hin104 => (simp only [List.getElem?_toArray, List.getElem?_cons_succ, List.getElem?_cons_zero]; exact rfl)
            case an104 => kernel_rfl
            case bn104 => kernel_rfl
            case cn104 => kernel_rfl
            case qn104 => exact fun _ _ _ h => h
            case dn104 => rfl
            case hyn104 => (intro z hSw; (try dsimp only at hSw); go_simp; (try with_reducible rfl))
            try simp only [Act.put, List.setIfInBounds_toArray, List.set_cons_zero, List.set_cons_succ]
            refine wpAnyH_take (i := 2) (oi := ?on105) (v := ?vn105) ?hin105 ?an105 ?bn105 ?cn105 ?qn105 (Or.inl ⟨?dn105, ?hyn105⟩) hHeld ?restn105
            case hin105 => (simp only [List.getElem?_toArray, List.getElem?_cons_succ, List.getElem?_cons_zero]; exact rfl)
            case an105 => kernel_rfl
            case bn105 => kernel_rfl
            case cn105 => kernel_rfl
            case qn105 => exact fun _ _ _ h => h
            case dn105 => rfl
            case hyn105 => (intro z hSw; (try dsimp only at hSw); go_simp; (try with_reducible rfl))
            try simp only [Act.put, List.setIfInBounds_toArray, List.set_cons_zero, List.set_cons_succ]
            refine wpAnyH_take (i := 3) (oi := ?on106) (v := ?vn106) ?hin106 ?an106 ?bn106 ?cn106 ?qn106 (Or.inl ⟨?dn106, ?hyn106⟩) hHeld ?restn106
            case hin106 => (simp only [List.getElem?_toArray, List.getElem?_cons_succ, List.getElem?_cons_zero]; exact rfl)
            case an106 => kernel_rfl
            case bn106 => kernel_rfl
            case cn106 => kernel_rfl
            case qn106 => exact fun _ _ _ h => h
            case dn106 => rfl
            case hyn106 => (intro z hSw; (try dsimp only at hSw); go_simp; (try with_reducible rfl))
            try simp only [Act.put, List.setIfInBounds_toArray, List.set_cons_zero, List.set_cons_succ]
            refine wpAnyH_take (i := 4) (oi := ?on107) (v := ?vn107) ?hin107 ?an107 ?bn107 ?cn107 ?qn107 (Or.inl ⟨?dn107, ?hyn107⟩) hHeld ?restn107
            case hin107 => (simp only [List.getElem?_toArray, List.getElem?_cons_succ, List.getElem?_cons_zero]; exact rfl)
            case an107 => kernel_rfl
            case bn107 => kernel_rfl
            case cn107 => kernel_rfl
            case qn107 => exact fun _ _ _ h => h
            case dn107 => rfl
            case hyn107 => (intro z hSw; (try dsimp only at hSw); go_simp; (try with_reducible rfl))
            try simp only [Act.put, List.setIfInBounds_toArray, List.set_cons_zero, List.set_cons_succ]
            refine wpAnyH_take (i := 5) (oi := ?on108) (v := ?vn108) ?hin108 ?an108 ?bn108 ?cn108 ?qn108 (Or.inl ⟨?dn108, ?hyn108⟩) hHeld ?restn108
            case hin108 => (simp only [List.getElem?_toArray, List.getElem?_cons_succ, List.getElem?_cons_zero]; exact rfl)
            case an108 => kernel_rfl
            case bn108 => kernel_rfl
            case cn108 => kernel_rfl
            case qn108 => exact fun _ _ _ h => h
            case dn108 => rfl
            case hyn108 => (intro z hSw; (try dsimp only at hSw); go_simp; (try with_reducible rfl))
            try simp only [Act.put, List.setIfInBounds_toArray, List.set_cons_zero, List.set_cons_succ]
            refine wpAnyH_take (i := 6) (oi := ?on109) (v := ?vn109) ?hin109 ?an109 ?bn109 ?cn109 ?qn109 (Or.inl ⟨?dn109, ?hyn109⟩) hHeld ?restn109
            case hin109 => (simp only [List.getElem?_toArray, List.getElem?_cons_succ, List.getElem?_cons_zero]; exact rfl)
            case an109 => kernel_rfl
            case bn109 => kernel_rfl
            case cn109 => kernel_rfl
            case qn109 => exact fun _ _ _ h => h
            case dn109 => rfl
            case hyn109 => (intro z hSw; (try dsimp only at hSw); go_simp; (try with_reducible rfl))
            try simp only [Act.put, List.setIfInBounds_toArray, List.set_cons_zero, List.set_cons_succ]
            refine wpAnyH_take (i := 7) (oi := ?on110) (v := ?vn110) ?hin110 ?an110 ?bn110 ?cn110 ?qn110 (Or.inl ⟨?dn110, ?hyn110⟩) hHeld ?restn110
            case hin110 => (simp only [List.getElem?_toArray, List.getElem?_cons_succ, List.getElem?_cons_zero]; exact rfl)
            case an110 => kernel_rfl
            case bn110 => kernel_rfl
            case cn110 => kernel_rfl
            case qn110 => exact fun _ _ _ h => h
            case dn110 => rfl
            case hyn110 => (intro z hSw; (try dsimp only at hSw); go_simp; (try with_reducible rfl))
            try simp only [Act.put, List.setIfInBounds_toArray, List.set_cons_zero, List.set_cons_succ]
            refine wpAnyH_ready (rs := [8]) (by kernel_rfl) (by simp) ?_
            refine AllReadyH.cons (o := ?on111) ?hin111 ?restn111 AllReadyH.nil
            case hin111 => (simp only [List.getElem?_toArray, List.getElem?_cons_succ, List.getElem?_cons_zero]; exact rfl)
            intro K hK
            go_simp
            go_at_call 100
            refine (KS0.out _ (by first | with_reducible assumption | exact Grew.alloc (by with_reducible assumption) _ | exact Grew.drew (Grew.alloc (by with_reducible assumption) _))).mono ?_
            rintro e w3 ⟨rfl, hq3⟩
            have hh3 := hq3.grew
            have gk3 : Grew w w3 := Grew.trans (by first | with_reducible assumption | exact Grew.alloc (by with_reducible assumption) _ | exact Grew.drew (Grew.alloc (by with_reducible assumption) _)) hh3
            have mk3 : Grew w1 w3 := Grew.trans (by first | with_reducible assumption | exact Grew.alloc (by with_reducible assumption) _ | exact Grew.drew (Grew.alloc (by with_reducible assumption) _)) hh3
            refine hK.out _ _ ?_ (fun hHeld => ?_)
            · (try dsimp only); first | with_reducible assumption | exact Grew.alloc ‹_› _
            clear hK K
            try simp only [Act.put, List.setIfInBounds_toArray, List.set_cons_zero, List.set_cons_succ]
            refine wpAnyH_take (i := 9) (oi := ?on112) (v := ?vn112) ?hin112 ?an112 ?bn112 ?cn112 ?qn112 (Or.inl ⟨?dn112, ?hyn112⟩) hHeld ?restn112
            case hin112 => (simp only [List.getElem?_toArray, List.getElem?_cons_succ, List.getElem?_cons_zero]; exact rfl)
            case an112 => kernel_rfl
            case bn112 => kernel_rfl
            case cn112 => kernel_rfl
            case qn112 => exact fun _ _ _ h => h
            case dn112 => rfl
            case hyn112 => (intro z hSw; (try dsimp only at hSw); go_simp; (try with_reducible rfl))
            try simp only [Act.put, List.setIfInBounds_toArray, List.set_cons_zero, List.set_cons_succ]
            refine wpAnyH_take (i := 10) (oi := ?on113) (v := ?vn113) ?hin113 ?an113 ?bn113 ?cn113 ?qn113 (Or.inl ⟨?dn113, ?hyn113⟩) hHeld ?restn113
            case hin113 => (simp only [List.getElem?_toArray, List.getElem?_cons_succ, List.getElem?_cons_zero]; exact rfl)
            case an113 => kernel_rfl
            case bn113 => kernel_rfl
            case cn113 => kernel_rfl
            case qn113 => exact fun _ _ _ h => h
            case dn113 => rfl
            case hyn113 => (intro z hSw; (try dsimp only at hSw); go_simp; (try with_reducible rfl))
            try simp only [Act.put, List.setIfInBounds_toArray, List.set_cons_zero, List.set_cons_succ]
            refine wpAnyH_take (i := 11) (oi := ?on114) (v := ?vn114) ?hin114 ?an114 ?bn114 ?cn114 ?qn114 (Or.inl ⟨?dn114, ?hyn114⟩) hHeld ?restn114
            case hin114 => (simp only [List.getElem?_toArray, List.getElem?_cons_succ, List.getElem?_cons_zero]; exact rfl)
            case an114 => kernel_rfl
            case bn114 => kernel_rfl
            case cn114 => kernel_rfl
            case qn114 => exact fun _ _ _ h => h
            case dn114 => rfl
            case hyn114 => (intro z hSw; (try dsimp only at hSw); go_simp; (try with_reducible rfl))
            try simp only [Act.put, List.setIfInBounds_toArray, List.set_cons_zero, List.set_cons_succ]
            refine wpAnyH_take (i := 12) (oi := ?on115) (v := ?vn115) ?hin115 ?an115 ?bn115 ?cn115 ?qn115 (Or.inl ⟨?dn115, ?hyn115⟩) hHeld ?restn115
            case hin115 => (simp only [List.getElem?_toArray, List.getElem?_cons_succ, List.getElem?_cons_zero]; exact rfl)
            case an115 => kernel_rfl
            case bn115 => kernel_rfl
            case cn115 => kernel_rfl
            case qn115 => exact fun _ _ _ h => h
            case dn115 => rfl
            case hyn115 => (intro z hSw; (try dsimp only at hSw); go_simp; (try with_reducible rfl))
            try simp only [Act.put, List.setIfInBounds_toArray, List.set_cons_zero, List.set_cons_succ]
            refine wpAnyH_take (i := 13) (oi := ?on116) (v := ?vn116) ?hin116 ?an116 ?bn116 ?cn116 ?qn116 (Or.inl ⟨?dn116, ?hyn116⟩) hHeld ?restn116
            case hin116 => (simp only [List.getElem?_toArray, List.getElem?_cons_succ, List.getElem?_cons_zero]; exact rfl)
            case an116 => kernel_rfl
            case bn116 => kernel_rfl
            case cn116 => kernel_rfl
            case qn116 => exact fun _ _ _ h => h
            case dn116 => rfl
            case hyn116 => (intro z hSw; (try dsimp only at hSw); go_simp; (try with_reducible rfl))
            try simp only [Act.put, List.setIfInBounds_toArray, List.set_cons_zero, List.set_cons_succ]
            refine wpAnyH_take (i := 14) (oi := ?on117) (v := ?vn117) ?hin117 ?an117 ?bn117 ?cn117 ?qn117 (Or.inl ⟨?dn117, ?hyn117⟩) hHeld ?restn117
            case hin117 => (simp only [List.getElem?_toArray, List.getElem?_cons_succ, List.getElem?_cons_zero]; exact rfl)
            case an117 => kernel_rfl
            case bn117 => kernel_rfl
            case cn117 => kernel_rfl
            case qn117 => exact fun _ _ _ h => h
            case dn117 => rfl
            case hyn117 => (intro z hSw; (try dsimp only at hSw); go_simp; (try with_reducible rfl))
            try simp only [Act.put, List.setIfInBounds_toArray, List.set_cons_zero, List.set_cons_succ]
            refine wpAnyH_take (i := 15) (oi := ?on118) (v := ?vn118) ?hin118 ?an118 ?bn118 ?cn118 ?qn118 (Or.inl ⟨?dn118, ?hyn118⟩) hHeld ?restn118
            case hin118 => (simp only [List.getElem?_toArray, List.getElem?_cons_succ, List.getElem?_cons_zero]; exact rfl)
            case an118 => kernel_rfl
            case bn118 => kernel_rfl
            case cn118 => kernel_rfl
            case qn118 => exact fun _ _ _ h => h
            case dn118 => rfl
            case hyn118 => (intro z hSw; (try dsimp only at hSw); go_simp; (try with_reducible rfl))
            try simp only [Act.put, List.setIfInBounds_toArray, List.set_cons_zero, List.set_cons_succ]
            refine wpAnyH_take (i := 16) (oi := ?on119) (v := ?vn119) ?hin119 ?an119 ?bn119 ?cn119 ?qn119 (Or.inl ⟨?dn119, ?hyn119⟩) hHeld ?restn119
            case hin119 => (simp only [List.getElem?_toArray, List.getElem?_cons_succ, List.getElem?_cons_zero]; exact rfl)
            case an119 => kernel_rfl
            case bn119 => kernel_rfl
            case cn119 => kernel_rfl
            case qn119 => exact fun _ _ _ h => h
            case dn119 => rfl
            case hyn119 => (intro z hSw; (try dsimp only at hSw); go_simp; (try with_reducible rfl))
            try simp only [Act.put, List.setIfInBounds_toArray, List.set_cons_zero, List.set_cons_succ]
            refine wpAnyH_take (i := 17) (oi := ?on120) (v := ?vn120) ?hin120 ?an120 ?bn120 ?cn120 ?qn120 (Or.inl ⟨?dn120, ?hyn120⟩) hHeld ?restn120
            case hin120 => (simp only [List.getElem?_toArray, List.getElem?_cons_succ, List.getElem?_cons_zero]; exact rfl)
            case an120 => kernel_rfl
            case bn120 => kernel_rfl
            case cn120 => kernel_rfl
            case qn120 => exact fun _ _ _ h => h
            case dn120 => rfl
            case hyn120 => (intro z hSw; (try dsimp only at hSw); go_simp; (try with_reducible rfl))
            try simp only [Act.put, List.setIfInBounds_toArray, List.set_cons_zero, List.set_cons_succ]
            refine wpAnyH_ready (rs := [18]) (by kernel_rfl) (by simp) ?_
            refine AllReadyH.cons (o := ?on121) ?hin121 ?restn121 AllReadyH.nil
            case hin121 => (simp only [List.getElem?_toArray, List.getElem?_cons_succ, List.getElem?_cons_zero]; exact rfl)
            intro K hK
            go_simp
            refine hK.out _ _ ?_ (fun hHeld => ?_)
            · (try dsimp only); first | with_reducible assumption | exact Grew.alloc ‹_› _
            clear hK K
            try simp only [Act.put, List.setIfInBounds_toArray, List.set_cons_zero, List.set_cons_succ]
            refine wpAnyH_ready (rs := [19]) (by kernel_rfl) (by simp) ?_
            refine AllReadyH.cons (o := ?on122) ?hin122 ?restn122 AllReadyH.nil
            case hin122 => (simp only [List.getElem?_toArray, List.getElem?_cons_succ, List.getElem?_cons_zero]; exact rfl)
            intro K hK
            go_simp
            go_at_call 102
            refine (KW.out (pl C0) _ (by first | with_reducible assumption | exact Grew.alloc (by with_reducible assumption) _ | exact Grew.drew (Grew.alloc (by with_reducible assumption) _)) _ (by first | exact strs_lit1 _ _ | exact (strs_lit1 _ _).grew (Grew.refl _).drew)).mono ?_
            rintro e z1 ⟨zu1, rfl, zo1, zg1⟩
            have gz1 : Grew w z1 := Grew.trans (by first | with_reducible assumption | exact Grew.alloc (by with_reducible assumption) _ | exact Grew.drew (Grew.alloc (by with_reducible assumption) _)) zg1
            have mz1 : Grew w1 z1 := Grew.trans (by first | with_reducible assumption | exact Grew.alloc (by with_reducible assumption) _ | exact Grew.drew (Grew.alloc (by with_reducible assumption) _)) zg1
            have zs1 := Lib.hid zo1.strs
            clear zo1
            refine hK.out _ _ ?_ (fun hHeld => ?_)
            · (try dsimp only); first | with_reducible assumption | exact Grew.alloc ‹_› _
            clear hK K
            try simp only [Act.put, List.setIfInBounds_toArray, List.set_cons_zero, List.set_cons_succ]
            refine wpAnyH_ready (rs := [20]) (by kernel_rfl) (by simp) ?_
            refine AllReadyH.cons (o := ?on123) ?hin123 ?restn123 AllReadyH.nil
            case hin123 => (simp only [List.getElem?_toArray, List.getElem?_cons_succ, List.getElem?_cons_zero]; exact rfl)
            intro K hK
            go_simp
            go_at_call 100
            refine (KS1.out _ gz1 _ zs1.out).mono ?_
            rintro e w4 ⟨rfl, hq4⟩
            have hh4 := hq4.grew
            have gk4 : Grew w w4 := Grew.trans (by first | with_reducible assumption | exact Grew.alloc (by with_reducible assumption) _ | exact Grew.drew (Grew.alloc (by with_reducible assumption) _)) hh4
            have mk4 : Grew w1 w4 := Grew.trans (by first | with_reducible assumption | exact Grew.alloc (by with_reducible assumption) _ | exact Grew.drew (Grew.alloc (by with_reducible assumption) _)) hh4
            refine hK.out _ _ ?_ (fun hHeld => ?_)
            · (try dsimp only); first | with_reducible assumption | exact Grew.alloc ‹_› _
            clear hK K
            try simp only [Act.put, List.setIfInBounds_toArray, List.set_cons_zero, List.set_cons_succ]
            refine wpAnyH_take (i := 21) (oi := ?on124) (v := ?vn124) ?hin124 ?an124 ?bn124 ?cn124 ?qn124 (Or.inl ⟨?dn124, ?hyn124⟩) hHeld ?restn124
            case hin124 => (simp only [List.getElem?_toArray, List.getElem?_cons_succ, List.getElem?_cons_zero]; exact rfl)
            case an124 => kernel_rfl
            case bn124 => kernel_rfl
            case cn124 => kernel_rfl
            case qn124 => exact fun _ _ _ h => h
            case dn124 => rfl
            case hyn124 => (intro z hSw; (try dsimp only at hSw); go_simp; (try with_reducible rfl))
            try simp only [Act.put, List.setIfInBounds_toArray, List.set_cons_zero, List.set_cons_succ]
            refine wpAnyH_take (i := 22) (oi := ?on125) (v := ?vn125) ?hin125 ?an125 ?bn125 ?cn125 ?qn125 (Or.inl ⟨?dn125, ?hyn125⟩) hHeld ?restn125
            case hin125 => (simp only [List.getElem?_toArray, List.getElem?_cons_succ, List.getElem?_cons_zero]; exact rfl)
            case an125 => kernel_rfl
            case bn125 => kernel_rfl
            case cn125 => kernel_rfl
            case qn125 => exact fun _ _ _ h => h
            case dn125 => rfl
            case hyn125 => (intro z hSw; (try dsimp only at hSw); go_simp; (try with_reducible rfl))
            try simp only [Act.put, List.setIfInBounds_toArray, List.set_cons_zero, List.set_cons_succ]
            refine wpAnyH_take (i := 23) (oi := ?on126) (v := ?vn126) ?hin126 ?an126 ?bn126 ?cn126 ?qn126 (Or.inl ⟨?dn126, ?hyn126⟩) hHeld ?restn126
            case hin126 => (simp only [List.getElem?_toArray, List.getElem?_cons_succ, List.getElem?_cons_zero]; exact rfl)
            case an126 => kernel_rfl
            case bn126 => kernel_rfl
            case cn126 => kernel_rfl
            case qn126 => exact fun _ _ _ h => h
            case dn126 => rfl
            case hyn126 => (intro z hSw; (try dsimp only at hSw); go_simp; (try with_reducible rfl))
            try simp only [Act.put, List.setIfInBounds_toArray, List.set_cons_zero, List.set_cons_succ]
            refine wpAnyH_take (i := 24) (oi := ?on127) (v := ?vn127) ?hin127 ?an127 ?bn127 ?cn127 ?qn127 (Or.inl ⟨?dn127, ?hyn127⟩) hHeld ?restn127
            case hin127 => (simp only [List.getElem?_toArray, List.getElem?_cons_succ, List.getElem?_cons_zero]; exact rfl)
            case an127 => kernel_rfl
            case bn127 => kernel_rfl
            case cn127 => kernel_rfl
            case qn127 => exact fun _ _ _ h => h
            case dn127 => rfl
            case hyn127 => (intro z hSw; (try dsimp only at hSw); go_simp; (try with_reducible rfl))
            try simp only [Act.put, List.setIfInBounds_toArray, List.set_cons_zero, List.set_cons_succ]
            refine wpAnyH_take (i := 25) (oi := ?on128) (v := ?vn128) ?hin128 ?an128 ?bn128 ?cn128 ?qn128 (Or.inl ⟨?dn128, ?hyn128⟩) hHeld ?restn128
            case hin128 => (simp only [List.getElem?_toArray, List.getElem?_cons_succ, List.getElem?_cons_zero]; exact rfl)
            case an128 => kernel_rfl
            case bn128 => kernel_rfl
            case cn128 => kernel_rfl
            case qn128 => exact fun _ _ _ h => h
            case dn128 => rfl
            case hyn128 => (intro z hSw; (try dsimp only at hSw); go_simp; (try with_reducible rfl))
            try simp only [Act.put, List.setIfInBounds_toArray, List.set_cons_zero, List.set_cons_succ]
            refine wpAnyH_take (i := 26) (oi := ?on129) (v := ?vn129) ?hin129 ?an129 ?bn129 ?cn129 ?qn129 (Or.inl ⟨?dn129, ?hyn129⟩) hHeld ?restn129
            case hin129 => (simp only [List.getElem?_toArray, List.getElem?_cons_succ, List.getElem?_cons_zero]; exact rfl)
            case an129 => kernel_rfl
            case bn129 => kernel_rfl
            case cn129 => kernel_rfl
            case qn129 => exact fun _ _ _ h => h
            case dn129 => rfl
            case hyn129 => (intro z hSw; (try dsimp only at hSw); go_simp; (try with_reducible rfl))
            try simp only [Act.put, List.setIfInBounds_toArray, List.set_cons_zero, List.set_cons_succ]
            refine wpAnyH_take (i := 27) (oi := ?on130) (v := ?vn130) ?hin130 ?an130 ?bn130 ?cn130 ?qn130 (Or.inl ⟨?dn130, ?hyn130⟩) hHeld ?restn130
            case hin130 => (simp only [List.getElem?_toArray, List.getElem?_cons_succ, List.getElem?_cons_zero]; exact rfl)
            case an130 => kernel_rfl
            case bn130 => kernel_rfl
            case cn130 => kernel_rfl
            case qn130 => exact fun _ _ _ h => h
            case dn130 => rfl
            case hyn130 => (intro z hSw; (try dsimp only at hSw); go_simp; (try with_reducible rfl))
            try simp only [Act.put, List.setIfInBounds_toArray, List.set_cons_zero, List.set_cons_succ]
            refine wpAnyH_take (i := 28) (oi := ?on131) (v := ?vn131) ?hin131 ?an131 ?bn131 ?cn131 ?qn131 (Or.inl ⟨?dn131, ?hyn131⟩) hHeld ?restn131
            case hin131 => (simp only [List.getElem?_toArray, List.getElem?_cons_succ, List.getElem?_cons_zero]; exact rfl)
            case an131 => kernel_rfl
            case bn131 => kernel_rfl
            case cn131 => kernel_rfl
            case qn131 => exact fun _ _ _ h => h
            case dn131 => rfl
            case hyn131 => (intro z hSw; (try dsimp only at hSw); go_simp; (try with_reducible rfl))
            try simp only [Act.put, List.setIfInBounds_toArray, List.set_cons_zero, List.set_cons_succ]
            refine wpAnyH_take (i := 29) (oi := ?on132) (v := ?vn132) ?hin132 ?an132 ?bn132 ?cn132 ?qn132 (Or.inl ⟨?dn132, ?hyn132⟩) hHeld ?restn132
            case hin132 => (simp only [List.getElem?_toArray, List.getElem?_cons_succ, List.getElem?_cons_zero]; exact rfl)
            case an132 => kernel_rfl
            case bn132 => kernel_rfl
            case cn132 => kernel_rfl
            case qn132 => exact fun _ _ _ h => h
            case dn132 => rfl
            case hyn132 => (intro z hSw; (try dsimp only at hSw); go_simp; (try with_reducible rfl))
            try simp only [Act.put, List.setIfInBounds_toArray, List.set_cons_zero, List.set_cons_succ]
            refine wpAnyH_ready (rs := [30]) (by kernel_rfl) (by simp) ?_
            refine AllReadyH.cons (o := ?on133) ?hin133 ?restn133 AllReadyH.nil
            case hin133 => (simp only [List.getElem?_toArray, List.getElem?_cons_succ, List.getElem?_cons_zero]; exact rfl)
            intro K hK
            go_simp
            refine hK.out _ _ ?_ (fun hHeld => ?_)
            · (try dsimp only); first | with_reducible assumption | exact Grew.alloc ‹_› _
            clear hK K
            try simp only [Act.put, List.setIfInBounds_toArray, List.set_cons_zero, List.set_cons_succ]
            refine wpAnyH_ready (rs := [31]) (by kernel_rfl) (by simp) ?_
            refine AllReadyH.cons (o := ?on134) ?hin134 ?restn134 AllReadyH.nil
            case hin134 => (simp only [List.getElem?_toArray, List.getElem?_cons_succ, List.getElem?_cons_zero]; exact rfl)
            intro K hK
            go_simp
            go_at_call 102
            refine (KW.out (pr C0) _ (by first | with_reducible assumption | exact Grew.alloc (by with_reducible assumption) _ | exact Grew.drew (Grew.alloc (by with_reducible assumption) _)) _ (by first | exact strs_lit1 _ _ | exact (strs_lit1 _ _).grew (Grew.refl _).drew)).mono ?_
            rintro e z2 ⟨zu2, rfl, zo2, zg2⟩
            have gz2 : Grew w z2 := Grew.trans (by first | with_reducible assumption | exact Grew.alloc (by with_reducible assumption) _ | exact Grew.drew (Grew.alloc (by with_reducible assumption) _)) zg2
            have mz2 : Grew w1 z2 := Grew.trans (by first | with_reducible assumption | exact Grew.alloc (by with_reducible assumption) _ | exact Grew.drew (Grew.alloc (by with_reducible assumption) _)) zg2
            have zs2 := Lib.hid zo2.strs
            clear zo2
            refine hK.out _ _ ?_ (fun hHeld => ?_)
            · (try dsimp only); first | with_reducible assumption | exact Grew.alloc ‹_› _
            clear hK K
            try simp only [Act.put, List.setIfInBounds_toArray, List.set_cons_zero, List.set_cons_succ]
            refine wpAnyH_ready (rs := [32]) (by kernel_rfl) (by simp) ?_
            refine AllReadyH.cons (o := ?on135) ?hin135 ?restn135 AllReadyH.nil
            case hin135 => (simp only [List.getElem?_toArray, List.getElem?_cons_succ, List.getElem?_cons_zero]; exact rfl)
            intro K hK
            go_simp
            go_at_call 100
            refine (KS2.out _ gz2 _ zs2.out).mono ?_
            rintro e w5 ⟨rfl, hq5⟩
            have hh5 := hq5.grew
            have gk5 : Grew w w5 := Grew.trans (by first | with_reducible assumption | exact Grew.alloc (by with_reducible assumption) _ | exact Grew.drew (Grew.alloc (by with_reducible assumption) _)) hh5
            have mk5 : Grew w1 w5 := Grew.trans (by first | with_reducible assumption | exact Grew.alloc (by with_reducible assumption) _ | exact Grew.drew (Grew.alloc (by with_reducible assumption) _)) hh5
            refine hK.out _ _ ?_ (fun hHeld => ?_)
            · (try dsimp only); first | with_reducible assumption | exact Grew.alloc ‹_› _
            clear hK K
            try simp only [Act.put, List.setIfInBounds_toArray, List.set_cons_zero, List.set_cons_succ]
            refine wpAnyH_take (i := 33) (oi := ?on136) (v := ?vn136) ?hin136 ?an136 ?bn136 ?cn136 ?qn136 (Or.inl ⟨?dn136, ?hyn136⟩) hHeld ?restn136
            case hin136 => (simp only [List.getElem?_toArray, List.getElem?_cons_succ, List.getElem?_cons_zero]; exact rfl)
            case an136 => kernel_rfl
            case bn136 => kernel_rfl
            case cn136 => kernel_rfl
            case qn136 => exact fun _ _ _ h => h
            case dn136 => rfl
            case hyn136 => (intro z hSw; (try dsimp only at hSw); go_simp; (try with_reducible rfl))
            try simp only [Act.put, List.setIfInBounds_toArray, List.set_cons_zero, List.set_cons_succ]
            refine wpAnyH_take (i := 34) (oi := ?on137) (v := ?vn137) ?hin137 ?an137 ?bn137 ?cn137 ?qn137 (Or.inl ⟨?dn137, ?hyn137⟩) hHeld ?restn137
            case hin137 => (simp only [List.getElem?_toArray, List.getElem?_cons_succ, List.getElem?_cons_zero]; exact rfl)
            case an137 => kernel_rfl
            case bn137 => kernel_rfl
            case cn137 => kernel_rfl
            case qn137 => exact fun _ _ _ h => h
            case dn137 => rfl
            case hyn137 => (intro z hSw; (try dsimp only at hSw); go_simp; (try with_reducible rfl))
            try simp only [Act.put, List.setIfInBounds_toArray, List.set_cons_zero, List.set_cons_succ]
            refine wpAnyH_take (i := 35) (oi := ?on138) (v := ?vn138) ?hin138 ?an138 ?bn138 ?cn138 ?qn138 (Or.inl ⟨?dn138, ?hyn138⟩) hHeld ?restn138
            case hin138 => (simp only [List.getElem?_toArray, List.getElem?_cons_succ, List.getElem?_cons_zero]; exact rfl)
            case an138 => kernel_rfl
            case bn138 => kernel_rfl
            case cn138 => kernel_rfl
            case qn138 => exact fun _ _ _ h => h
            case dn138 => rfl
            case hyn138 => (intro z hSw; (try dsimp only at hSw); go_simp; (try with_reducible rfl))
            try simp only [Act.put, List.setIfInBounds_toArray, List.set_cons_zero, List.set_cons_succ]
            refine wpAnyH_take (i := 36) (oi := ?on139) (v := ?vn139) ?hin139 ?an139 ?bn139 ?cn139 ?qn139 (Or.inl ⟨?dn139, ?hyn139⟩) hHeld ?restn139
            case hin139 => (simp only [List.getElem?_toArray, List.getElem?_cons_succ, List.getElem?_cons_zero]; exact rfl)
            case an139 => kernel_rfl
            case bn139 => kernel_rfl
            case cn139 => kernel_rfl
            case qn139 => exact fun _ _ _ h => h
            case dn139 => rfl
            case hyn139 => (intro z hSw; (try dsimp only at hSw); go_simp; (try with_reducible rfl))
            try simp only [Act.put, List.setIfInBounds_toArray, List.set_cons_zero, List.set_cons_succ]
            refine wpAnyH_take (i := 37) (oi := ?on140) (v := ?vn140) ?hin140 ?an140 ?bn140 ?cn140 ?qn140 (Or.inl ⟨?dn140, ?hyn140⟩) hHeld ?restn140
            case hin140 => (simp only [List.getElem?_toArray, List.getElem?_cons_succ, List.getElem?_cons_zero]; exact rfl)
            case an140 => kernel_rfl
            case bn140 => kernel_rfl
            case cn140 => kernel_rfl
            case qn140 => exact fun _ _ _ h => h
            case dn140 => rfl
            case hyn140 => (intro z hSw; (try dsimp only at hSw); go_simp; (try with_reducible rfl))
            try simp only [Act.put, List.setIfInBounds_toArray, List.set_cons_zero, List.set_cons_succ]
            refine wpAnyH_take (i := 38) (oi := ?on141) (v := ?vn141) ?hin141 ?an141 ?bn141 ?cn141 ?qn141 (Or.inl ⟨?dn141, ?hyn141⟩) hHeld ?restn141
            case hin141 => (simp only [List.getElem?_toArray, List.getElem?_cons_succ, List.getElem?_cons_zero]; exact rfl)
            case an141 => kernel_rfl
            case bn141 => kernel_rfl
            case cn141 => kernel_rfl
            case qn141 => exact fun _ _ _ h => h
            case dn141 => rfl
            case hyn141 => (intro z hSw; (try dsimp only at hSw); go_simp; (try with_reducible rfl))
            try simp only [Act.put, List.setIfInBounds_toArray, List.set_cons_zero, List.set_cons_succ]
            refine wpAnyH_take (i := 39) (oi := ?on142) (v := ?vn142) ?hin142 ?an142 ?bn142 ?cn142 ?qn142 (Or.inl ⟨?dn142, ?hyn142⟩) hHeld ?restn142
            case hin142 => (simp only [List.getElem?_toArray, List.getElem?_cons_succ, List.getElem?_cons_zero]; exact rfl)
            case an142 => kernel_rfl
            case bn142 => kernel_rfl
            case cn142 => kernel_rfl
            case qn142 => exact fun _ _ _ h => h
            case dn142 => rfl
            case hyn142 => (intro z hSw; (try dsimp only at hSw); go_simp; (try with_reducible rfl))
            try simp only [Act.put, List.setIfInBounds_toArray, List.set_cons_zero, List.set_cons_succ]
            refine wpAnyH_take (i := 40) (oi := ?on143) (v := ?vn143) ?hin143 ?an143 ?bn143 ?cn143 ?qn143 (Or.inl ⟨?dn143, ?hyn143⟩) hHeld ?restn143
            case hin143 => (simp only [List.getElem?_toArray, List.getElem?_cons_succ, List.getElem?_cons_zero]; exact rfl)
            case an143 => kernel_rfl
            case bn143 => kernel_rfl
            case cn143 => kernel_rfl
            case qn143 => exact fun _ _ _ h => h
            case dn143 => rfl
            case hyn143 => (intro z hSw; (try dsimp only at hSw); go_simp; (try with_reducible rfl))
            try simp only [Act.put, List.setIfInBounds_toArray, List.set_cons_zero, List.set_cons_succ]
            refine wpAnyH_take (i := 41) (oi := ?on144) (v := ?vn144) ?hin144 ?an144 ?bn144 ?cn144 ?qn144 (Or.inl ⟨?dn144, ?hyn144⟩) hHeld ?restn144
            case hin144 => (simp only [List.getElem?_toArray, List.getElem?_cons_succ, List.getElem?_cons_zero]; exact rfl)
            case an144 => kernel_rfl
            case bn144 => kernel_rfl
            case cn144 => kernel_rfl
            case qn144 => exact fun _ _ _ h => h
            case dn144 => rfl
            case hyn144 => (intro z hSw; (try dsimp only at hSw); go_simp; (try with_reducible rfl))
            try simp only [Act.put, List.setIfInBounds_toArray, List.set_cons_zero, List.set_cons_succ]
            refine wpAnyH_take (i := 42) (oi := ?on145) (v := ?vn145) ?hin145 ?an145 ?bn145 ?cn145 ?qn145 (Or.inl ⟨?dn145, ?hyn145⟩) hHeld ?restn145
            case hin145 => (simp only [List.getElem?_toArray, List.getElem?_cons_succ, List.getElem?_cons_zero]; exact rfl)
            case an145 => kernel_rfl
            case bn145 => kernel_rfl
            case cn145 => kernel_rfl
            case qn145 => exact fun _ _ _ h => h
            case dn145 => rfl
            case hyn145 => (intro z hSw; (try dsimp only at hSw); go_simp; (try with_reducible rfl))
            try simp only [Act.put, List.setIfInBounds_toArray, List.set_cons_zero, List.set_cons_succ]
            refine wpAnyH_take (i := 43) (oi := ?on146) ?hin146 ?an146 ?bn146 ?cn146 ?qn146 (Or.inr ⟨?dn146, rfl⟩) hHeld ?restn146
            case hin146 => (simp only [List.getElem?_toArray, List.getElem?_cons_succ, List.getElem?_cons_zero]; exact rfl)
            case an146 => kernel_rfl
            case bn146 => kernel_rfl
            case cn146 => kernel_rfl
            case qn146 => exact fun _ _ _ h => h
            case dn146 => rfl
            try simp only [Act.put, List.setIfInBounds_toArray, List.set_cons_zero, List.set_cons_succ]
            refine wpAnyH_take (i := 44) (oi := ?on147) ?hin147 ?an147 ?bn147 ?cn147 ?qn147 (Or.inr ⟨?dn147, rfl⟩) hHeld ?restn147
            case hin147 => (simp only [List.getElem?_toArray, List.getElem?_cons_succ, List.getElem?_cons_zero]; exact rfl)
            case an147 => kernel_rfl
            case bn147 => kernel_rfl
            case cn147 => kernel_rfl
            case qn147 => exact fun _ _ _ h => h
            case dn147 => rfl
            try simp only [Act.put, List.setIfInBounds_toArray, List.set_cons_zero, List.set_cons_succ]
            refine wpAnyH_take (i := 45) (oi := ?on148) ?hin148 ?an148 ?bn148 ?cn148 ?qn148 (Or.inr ⟨?dn148, rfl⟩) hHeld ?restn148
            case hin148 => (simp only [List.getElem?_toArray, List.getElem?_cons_succ, List.getElem?_cons_zero]; exact rfl)
            case an148 => kernel_rfl
            case bn148 => kernel_rfl
            case cn148 => kernel_rfl
            case qn148 => exact fun _ _ _ h => h
            case dn148 => rfl
            try simp only [Act.put, List.setIfInBounds_toArray, List.set_cons_zero, List.set_cons_succ]
            refine wpAnyH_take (i := 46) (oi := ?on149) ?hin149 ?an149 ?bn149 ?cn149 ?qn149 (Or.inr ⟨?dn149, rfl⟩) hHeld ?restn149
            case hin149 => (simp only [List.getElem?_toArray, List.getElem?_cons_succ, List.getElem?_cons_zero]; exact rfl)
            case an149 => kernel_rfl
            case bn149 => kernel_rfl
            case cn149 => kernel_rfl
            case qn149 => exact fun _ _ _ h => h
            case dn149 => rfl
            try simp only [Act.put, List.setIfInBounds_toArray, List.set_cons_zero, List.set_cons_succ]
            refine wpAnyH_take (i := 47) (oi := ?on150) ?hin150 ?an150 ?bn150 ?cn150 ?qn150 (Or.inr ⟨?dn150, rfl⟩) hHeld ?restn150
            case hin150 => (simp only [List.getElem?_toArray, List.getElem?_cons_succ, List.getElem?_cons_zero]; exact rfl)
            case an150 => kernel_rfl
            case bn150 => kernel_rfl
            case cn150 => kernel_rfl
            case qn150 => exact fun _ _ _ h => h
            case dn150 => rfl
            try simp only [Act.put, List.setIfInBounds_toArray, List.set_cons_zero, List.set_cons_succ]
            refine wpAnyH_take (i := 48) (oi := ?on151) ?hin151 ?an151 ?bn151 ?cn151 ?qn151 (Or.inr ⟨?dn151, rfl⟩) hHeld ?restn151
            case hin151 => (simp only [List.getElem?_toArray, List.getElem?_cons_succ, List.getElem?_cons_zero]; exact rfl)
            case an151 => kernel_rfl
            case bn151 => kernel_rfl
            case cn151 => kernel_rfl
            case qn151 => exact fun _ _ _ h => h
            case dn151 => rfl
            try simp only [Act.put, List.setIfInBounds_toArray, List.set_cons_zero, List.set_cons_succ]
            refine wpAnyH_take (i := 49) (oi := ?on152) (v := ?vn152) ?hin152 ?an152 ?bn152 ?cn152 ?qn152 (Or.inl ⟨?dn152, ?hyn152⟩) hHeld ?restn152
            case hin152 => (simp only [List.getElem?_toArray, List.getElem?_cons_succ, List.getElem?_cons_zero]; exact rfl)
            case an152 => kernel_rfl
            case bn152 => kernel_rfl
            case cn152 => kernel_rfl
            case qn152 => exact fun _ _ _ h => h
            case dn152 => rfl
            case hyn152 => (intro z hSw; (try dsimp only at hSw); go_simp; (try with_reducible rfl))
            try simp only [Act.put, List.setIfInBounds_toArray, List.set_cons_zero, List.set_cons_succ]
            refine wpAnyH_take (i := 50) (oi := ?on153) (v := ?vn153) ?hin153 ?an153 ?bn153 ?cn153 ?qn153 (Or.inl ⟨?dn153, ?hyn153⟩) hHeld ?restn153
            case hin153 => (simp only [List.getElem?_toArray, List.getElem?_cons_succ, List.getElem?_cons_zero]; exact rfl)
            case an153 => kernel_rfl
            case bn153 => kernel_rfl
            case cn153 => kernel_rfl
            case qn153 => exact fun _ _ _ h => h
            case dn153 => rfl
            case hyn153 => (intro z hSw; (try dsimp only at hSw); go_simp; (try with_reducible rfl))
            try simp only [Act.put, List.setIfInBounds_toArray, List.set_cons_zero, List.set_cons_succ]
            refine wpAnyH_done (by kernel_rfl) ?_ _
            go_wp2_with fail
            go_ret
            exact ⟨rfl, gk5⟩
        · rw [dcd_false (fun h => h3 (h.2.2.2.1))]
          rw [dcd_false h3] at KS2
          replace KS0 := Lib.hid KS0
          replace KS1 := Lib.hid KS1
          replace KS2 := Lib.hid KS2
          clear h0 h1 h2 h3
          go_enter Tryz.func82, Tryz.ntmps82
          go_wp2_with fail
          refine (KP.out _).mono ?_
          rintro e w1 ⟨rfl, hg1⟩
          have g1 := hal.trans hg1
          have hm1 := hg1
          have r1 := Grew.refl w1
          have d1 := r1.drew
          have gd := g1.trans d1
          have e0 := fun W (hW : Grew w1 W) => f0 W (hg1.trans hW)
          have e2 := fun W (hW : Grew w1 W) => f2 W (hg1.trans hW)
          have e3 := fun W (hW : Grew w1 W) => f3 W (hg1.trans hW)
          have p0a := fun W (hW : Grew w1 W) => q0a W (g1.trans hW)
          have p0c := fun W (hW : Grew w1 W) => q0c W (g1.trans hW)
          have p1a := fun W (hW : Grew w1 W) => q1a W (g1.trans hW)
          have p1c := fun W (hW : Grew w1 W) => q1c W (g1.trans hW)
          have p2a := fun W (hW : Grew w1 W) => q2a W (g1.trans hW)
          have p2c := fun W (hW : Grew w1 W) => q2c W (g1.trans hW)
          clear f0 f2 f3 q0a q0c q1a q1c q2a q2c
          go_wp2_with fail
          refine wp_region_held_drew (S := fun w' => Grew w1 w') (by kernel_rfl) d1 (fun hHeld => ?_)
          refine wpAnyH_take (i := 0) (oi := ?on154) (v := ?vn154) ?hin154 ?an154 ?bn154 ?cn154 ?qn154 (Or.inl ⟨?dn154, ?hyn154⟩) hHeld ?restn154
          case hin154 => (simp only [List.getElem?_toArray, List.getElem?_cons_succ, List.getElem?_cons_zero]; exact rfl)
          case an154 => kernel_rfl
          case bn154 => kernel_rfl
          case cn154 => kernel_rfl
          case qn154 => exact fun _ _ _ h => h
          case dn154 => rfl
          case hyn154 => (intro z hSw; (try dsimp only at hSw); go_simp; (try with_reducible rfl))
          try simp only [Act.put, List.setIfInBounds_toArray, List.set_cons_zero, List.set_cons_succ]
          refine wpAnyH_take (i := 1) (oi := ?on155) (v := ?vn155) ?hin155 ?an155 ?bn155 ?cn155 ?qn155 (Or.inl ⟨?dn155, ?hyn155⟩) hHeld ?restn155
          case hin155 => (simp only [List.getElem?_toArray, List.getElem?_cons_succ, List.getElem?_cons_zero]; exact rfl)
          case an155 => kernel_rfl
          case bn155 => kernel_rfl
          case cn155 => kernel_rfl
          case qn155 => exact fun _ _ _ h => h
          case dn155 => rfl
          case hyn155 => (intro z hSw; (try dsimp only at hSw); go_simp; (try with_reducible rfl))
          try simp only [Act.put, List.setIfInBounds_toArray, List.set_cons_zero, List.set_cons_succ]
          refine wpAnyH_take (i := 2) (oi := ?on156) (v := ?vn156) ?hin156 ?an156 ?bn156 ?cn156 ?qn156 (Or.inl ⟨?dn156, ?hyn156⟩) hHeld ?restn156
          case hin156 => (simp only [List.getElem?_toArray, List.getElem?_cons_succ, List.getElem?_cons_zero]; exact rfl)
          case an156 => kernel_rfl
          case bn156 => kernel_rfl
          case cn156 => kernel_rfl
          case qn156 => exact fun _ _ _ h => h
          case dn156 => rfl
          case hyn156 => (intro z hSw; (try dsimp only at hSw); go_simp; (try with_reducible rfl))
          try simp only [Act.put, List.setIfInBounds_toArray, List.set_cons_zero, List.set_cons_succ]
          refine wpAnyH_take (i := 3) (oi := ?on157) (v := ?vn157) ?hin157 ?an157 ?bn157 ?cn157 ?qn157 (Or.inl ⟨?dn157, ?hyn157⟩) hHeld ?restn157
          case hin157 => (simp only [List.getElem?_toArray, List.getElem?_cons_succ, List.getElem?_cons_zero]; exact rfl)
          case an157 => kernel_rfl
          case bn157 => kernel_rfl
          case cn157 => kernel_rfl
          case qn157 => exact fun _ _ _ h => h
          case dn157 => rfl
          case hyn157 => (intro z hSw; (try dsimp only at hSw); go_simp; (try with_reducible rfl))
          try simp only [Act.put, List.setIfInBounds_toArray, List.set_cons_zero, List.set_cons_succ]
          refine wpAnyH_take (i := 4) (oi := ?on158) (v := ?vn158) ?hin158 ?an158 ?bn158 ?cn158 ?qn158 (Or.inl ⟨?dn158, ?hyn158⟩) hHeld ?restn158
          case hin158 => (simp only [List.getElem?_toArray, List.getElem?_cons_succ, List.getElem?_cons_zero]; exact rfl)
          case an158 => kernel_rfl
          case bn158 => kernel_rfl
          case cn158 => kernel_rfl
          case qn158 => exact fun _ _ _ h => h
          case dn158 => rfl
          case hyn158 => (intro z hSw; (try dsimp only at hSw); go_simp; (try with_reducible rfl))
          try simp only [Act.put, List.setIfInBounds_toArray, List.set_cons_zero, List.set_cons_succ]
          refine wpAnyH_take (i := 5) (oi := ?on159) (v := ?vn159) ?hin159 ?an159 ?bn159 ?cn159 ?qn159 (Or.inl ⟨?dn159, ?hyn159⟩) hHeld ?restn159
          case hin159 => (simp only [List.getElem?_toArray, List.getElem?_cons_succ, List.getElem?_cons_zero]; exact rfl)
          case an159 => kernel_rfl
          case bn159 => kernel_rfl
          case cn159 => kernel_rfl
          case qn159 => exact fun _ _ _ h => h
          case dn159 => rfl
          case hyn159 => (intro z hSw; (try dsimp only at hSw); go_simp; (try with_reducible rfl))
          try simp only [Act.put, List.setIfInBounds_toArray, List.set_cons_zero, List.set_cons_succ]
          refine wpAnyH_take (i := 6) (oi := ?on160) (v := ?vn160) ?hin160 ?an160 ?bn160 ?cn160 ?qn160 (Or.inl ⟨?dn160, ?hyn160⟩) hHeld ?restn160
          case hin160 => (simp only [List.getElem?_toArray, List.getElem?_cons_succ, List.getElem?_cons_zero]; exact rfl)
          case an160 => kernel_rfl
          case bn160 => kernel_rfl
          case cn160 => kernel_rfl
          case qn160 => exact fun _ _ _ h => h
          case dn160 => rfl
          case hyn160 => (intro z hSw; (try dsimp only at hSw); go_simp; (try with_reducible rfl))
          try simp only [Act.put, List.setIfInBounds_toArray, List.set_cons_zero, List.set_cons_succ]
          refine wpAnyH_take (i := 7) (oi := ?on161) (v := ?vn161) ?hin161 ?an161 ?bn161 ?cn161 ?qn161 (Or.inl ⟨?dn161, ?hyn161⟩) hHeld ?restn161
          case hin161 => (simp only [List.getElem?_toArray, List.getElem?_cons_succ, List.getElem?_cons_zero]; exact rfl)
          case an161 => kernel_rfl
          case bn161 => kernel_rfl
          case cn161 => kernel_rfl
          case qn161 => exact fun _ _ _ h => h
          case dn161 => rfl
          case hyn161 => (intro z hSw; (try dsimp only at hSw); go_simp; (try with_reducible rfl))
          try simp only [Act.put, List.setIfInBounds_toArray, List.set_cons_zero, List.set_cons_succ]
          refine wpAnyH_ready (rs := [8]) (by kernel_rfl) (by simp) ?_
          refine AllReadyH.cons (o := ?on162) ?hin162 ?restn162 AllReadyH.nil
          case hin162 => (simp only [List.getElem?_toArray, List.getElem?_cons_succ, List.getElem?_cons_zero]; exact rfl)
          intro K hK
          go_simp
          go_at_call 100
          refine (KS0.out _ (by first | with_reducible assumption | exact Grew.alloc (by with_reducible assumption) _ | exact Grew.drew (Grew.alloc (by with_reducible assumption) _))).mono ?_
          rintro e w3 ⟨rfl, hq3⟩
          have hh3 := hq3.grew
          have gk3 : Grew w w3 := Grew.trans (by first | with_reducible assumption | exact Grew.alloc (by with_reducible assumption) _ | exact Grew.drew (Grew.alloc (by with_reducible assumption) _)) hh3
          have mk3 : Grew w1 w3 := Grew.trans (by first | with_reducible assumption | exact Grew.alloc (by with_reducible assumption) _ | exact Grew.drew (Grew.alloc (by with_reducible assumption) _)) hh3
          refine hK.out _ _ ?_ (fun hHeld => ?_)
          · (try dsimp only); first | with_reducible assumption | exact Grew.alloc ‹_› _
          clear hK K
          try simp only [Act.put, List.setIfInBounds_toArray, List.set_cons_zero, List.set_cons_succ]
          refine wpAnyH_take (i := 9) (oi := ?on163) (v := ?vn163) ?hin163 ?an163 ?bn163 ?cn163 ?qn163 (Or.inl ⟨?dn163, ?hyn163⟩) hHeld ?restn163
          case hin163 => (simp only [List.getElem?_toArray, List.getElem?_cons_succ, List.getElem?_cons_zero]; exact rfl)
          case an163 => kernel_rfl
          case bn163 => kernel_rfl
          case cn163 => kernel_rfl
          case qn163 => exact fun _ _ _ h => h
          case dn163 => rfl
          case hyn163 => (intro z hSw; (try dsimp only at hSw); go_simp; (try with_reducible rfl))
          try simp only [Act.put, List.setIfInBounds_toArray, List.set_cons_zero, List.set_cons_succ]
          refine wpAnyH_take (i := 10) (oi := ?on164) (v := ?vn164) ?hin164 ?an164 ?bn164 ?cn164 ?qn164 (Or.inl ⟨?dn164, ?hyn164⟩) hHeld ?restn164
          case hin164 => (simp only [List.getElem?_toArray, List.getElem?_cons_succ, List.getElem?_cons_zero]; exact rfl)
          case an164 => kernel_rfl
          case bn164 => kernel_rfl
          case cn164 => kernel_rfl
          case qn164 => exact fun _ _ _ h => h
          case dn164 => rfl
          case hyn164 => (intro z hSw; (try dsimp only at hSw); go_simp; (try with_reducible rfl))
          try simp only [Act.put, List.setIfInBounds_toArray, List.set_cons_zero, List.set_cons_succ]
          refine wpAnyH_take (i := 11) (oi := ?on165) (v := ?vn165) ?hin165 ?an165 ?bn165 ?cn165 ?qn165 (Or.inl ⟨?dn165, ?hyn165⟩) hHeld ?restn165
          case hin165 => (simp only [List.getElem?_toArray, List.getElem?_cons_succ, List.getElem?_cons_zero]; exact rfl)
          case an165 => kernel_rfl
          case bn165 => kernel_rfl
          case cn165 => kernel_rfl
          case qn165 => exact fun _ _ _ h => h
          case dn165 => rfl
          case hyn165 => (intro z hSw; (try dsimp only at hSw); go_simp; (try with_reducible rfl))
          try simp only [Act.put, List.setIfInBounds_toArray, List.set_cons_zero, List.set_cons_succ]
          refine wpAnyH_take (i := 12) (oi := ?on166) (v := ?vn166) ?hin166 ?an166 ?bn166 ?cn166 ?qn166 (Or.inl ⟨?dn166, ?hyn166⟩) hHeld ?restn166
          case hin166 => (simp only [List.getElem?_toArray, List.getElem?_cons_succ, List.getElem?_cons_zero]; exact rfl)
          case an166 => kernel_rfl
          case bn166 => kernel_rfl
          case cn166 => kernel_rfl
          case qn166 => exact fun _ _ _ h => h
          case dn166 => rfl
          case hyn166 => (intro z hSw; (try dsimp only at hSw); go_simp; (try with_reducible rfl))
          try simp only [Act.put, List.setIfInBounds_toArray, List.set_cons_zero, List.set_cons_succ]
          refine wpAnyH_take (i := 13) (oi := ?on167) (v := ?vn167) ?hin167 ?an167 ?bn167 ?cn167 ?qn167 (Or.inl ⟨?dn167, ?hyn167⟩) hHeld ?restn167
          case hin167 => (simp only [List.getElem?_toArray, List.getElem?_cons_succ, List.getElem?_cons_zero]; exact rfl)
          case an167 => kernel_rfl
          case bn167 => kernel_rfl
          case cn167 => kernel_rfl
          case qn167 => exact fun _ _ _ h => h
          case dn167 => rfl
          case hyn167 => (intro z hSw; (try dsimp only at hSw); go_simp; (try with_reducible rfl))
          try simp only [Act.put, List.setIfInBounds_toArray, List.set_cons_zero, List.set_cons_succ]
          refine wpAnyH_take (i := 14) (oi := ?on168) (v := ?vn168) ?hin168 ?an168 ?bn168 ?cn168 ?qn168 (Or.inl ⟨?dn168, ?hyn168⟩) hHeld ?restn168
          case hin168 => (simp only [List.getElem?_toArray, List.getElem?_cons_succ, List.getElem?_cons_zero]; exact rfl)
          case an168 => kernel_rfl
          case bn168 => kernel_rfl
          case cn168 => kernel_rfl
          case qn168 => exact fun _ _ _ h => h
          case dn168 => rfl
          case hyn168 => (intro z hSw; (try dsimp only at hSw); go_simp; (try with_reducible rfl))
          try simp only [Act.put, List.setIfInBounds_toArray, List.set_cons_zero, List.set_cons_succ]
          refine wpAnyH_take (i := 15) (oi := ?on169) (v := ?vn169) ?hin169 ?an169 ?bn169 ?cn169 ?qn169 (Or.inl ⟨?dn169, ?hyn169⟩) hHeld ?restn169
          case hin169 => (simp only [List.getElem?_toArray, List.getElem?_cons_succ, List.getElem?_cons_zero]; exact rfl)
          case an169 => kernel_rfl
          case bn169 => kernel_rfl
          case cn169 => kernel_rfl
          case qn169 => exact fun _ _ _ h => h
          case dn169 => rfl
          case hyn169 => (intro z hSw; (try dsimp only at hSw); go_simp; (try with_reducible rfl))
          try simp only [Act.put, List.setIfInBounds_toArray, List.set_cons_zero, List.set_cons_succ]
          refine wpAnyH_take (i := 16) (oi := ?on170) (v := ?vn170) ?hin170 ?an170 ?bn170 ?cn170 ?qn170 (Or.inl ⟨?dn170, ?hyn170⟩) hHeld ?restn170
          case hin170 => (simp only [List.getElem?_toArray, List.getElem?_cons_succ, List.getElem?_cons_zero]; exact rfl)
          case an170 => kernel_rfl
          case bn170 => kernel_rfl
          case cn170 => kernel_rfl
          case qn170 => exact fun _ _ _ h => h
          case dn170 => rfl
          case hyn170 => (intro z hSw; (try dsimp only at hSw); go_simp; (try with_reducible rfl))
          try simp only [Act.put, List.setIfInBounds_toArray, List.set_cons_zero, List.set_cons_succ]
          refine wpAnyH_take (i := 17) (oi := ?on171) (v := ?vn171) ?hin171 ?an171 ?bn171 ?cn171 ?qn171 (Or.inl ⟨?dn171, ?hyn171⟩) hHeld ?restn171
          case hin171 => (simp only [List.getElem?_toArray, List.getElem?_cons_succ, List.getElem?_cons_zero]; exact rfl)
          case an171 => kernel_rfl
          case bn171 => kernel_rfl
          case cn171 => kernel_rfl
          case qn171 => exact fun _ _ _ h => h
          case dn171 => rfl
          case hyn171 => (intro z hSw; (try dsimp only at hSw); go_simp; (try with_reducible rfl))
          try simp only [Act.put, List.setIfInBounds_toArray, List.set_cons_zero, List.set_cons_succ]
          refine wpAnyH_ready (rs := [18]) (by kernel_rfl) (by simp) ?_
          refine AllReadyH.cons (o := ?on172) ?hin172 ?restn172 AllReadyH.nil
          case hin172 => (simp only [List.getElem?_toArray, List.getElem?_cons_succ, List.getElem?_cons_zero]; exact rfl)
          intro K hK
          go_simp
          refine hK.out _ _ ?_ (fun hHeld => ?_)
          · (try dsimp only); first | with_reducible assumption | exact Grew.alloc ‹_› _
          clear hK K
          try simp only [Act.put, List.setIfInBounds_toArray, List.set_cons_zero, List.set_cons_succ]
          refine wpAnyH_ready (rs := [19]) (by kernel_rfl) (by simp) ?_
          refine AllReadyH.cons (o := ?on173) ?hin173 ?restn173 AllReadyH.nil
          case hin173 => (simp only [List.getElem?_toArray, List.getElem?_cons_succ, List.getElem?_cons_zero]; exact rfl)
          intro K hK
          go_simp
          go_at_call 102
          refine (KW.out (pl C0) _ (by first | with_reducible assumption | exact Grew.alloc (by with_reducible assumption) _ | exact Grew.drew (Grew.alloc (by with_reducible assumption) _)) _ (by first | exact strs_lit1 _ _ | exact (strs_lit1 _ _).grew (Grew.refl _).drew)).mono ?_
          rintro e z1 ⟨zu1, rfl, zo1, zg1⟩
          have gz1 : Grew w z1 := Grew.trans (by first | with_reducible assumption | exact Grew.alloc (by with_reducible assumption) _ | exact Grew.drew (Grew.alloc (by with_reducible assumption) _)) zg1
          have mz1 : Grew w1 z1 := Grew.trans (by first | with_reducible assumption | exact Grew.alloc (by with_reducible assumption) _ | exact Grew.drew (Grew.alloc (by with_reducible assumption) _)) zg1
          have zs1 := Lib.hid zo1.strs
          clear zo1
          refine hK.out _ _ ?_ (fun hHeld => ?_)
          · (try dsimp only); first | with_reducible assumption | exact Grew.alloc ‹_› _
          clear hK K
          try simp only [Act.put, List.setIfInBounds_toArray, List.set_cons_zero, List.set_cons_succ]
          refine wpAnyH_ready (rs := [20]) (by kernel_rfl) (by simp) ?_
          refine AllReadyH.cons (o := ?on174) ?hin174 ?restn174 AllReadyH.nil
          case hin174 => (simp only [List.getElem?_toArray, List.getElem?_cons_succ, List.getElem?_cons_zero]; exact rfl)
          intro K hK
          go_simp
          go_at_call 100
          refine (KS1.out _ gz1 _ zs1.out).mono ?_
          rintro e w4 ⟨rfl, hq4⟩
          have hh4 := hq4.grew
          have gk4 : Grew w w4 := Grew.trans (by first | with_reducible assumption | exact Grew.alloc (by with_reducible assumption) _ | exact Grew.drew (Grew.alloc (by with_reducible assumption) _)) hh4
          have mk4 : Grew w1 w4 := Grew.trans (by first | with_reducible assumption | exact Grew.alloc (by with_reducible assumption) _ | exact Grew.drew (Grew.alloc (by with_reducible assumption) _)) hh4
          refine hK.out _ _ ?_ (fun hHeld => ?_)
          · (try dsimp only); first | with_reducible assumption | exact Grew.alloc ‹_› _
          clear hK K
          try simp only [Act.put, List.setIfInBounds_toArray, List.set_cons_zero, List.set_cons_succ]
          refine wpAnyH_take (i := 21) (oi := ?on175) (v := ?vn175) ?hin175 ?an175 ?bn175 ?cn175 ?qn175 (Or.inl ⟨?dn175, ?hyn175⟩) hHeld ?restn175
          case hin175 => (simp only [List.getElem?_toArray, List.getElem?_cons_succ, List.getElem?_cons_zero]; exact rfl)
          case an175 => kernel_rfl
          case bn175 => kernel_rfl
          case cn175 => kernel_rfl
          case qn175 => exact fun _ _ _ h => h
          case dn175 => rfl
          case hyn175 => (intro z hSw; (try dsimp only at hSw); go_simp; (try with_reducible rfl))
          try simp only [Act.put, List.setIfInBounds_toArray, List.set_cons_zero, List.set_cons_succ]
          refine wpAnyH_take (i := 22) (oi := ?on176) (v := ?vn176) ?hin176 ?an176 ?bn176 ?cn176 ?qn176 (Or.inl ⟨?dn176, ?hyn176⟩) hHeld ?restn176
          case hin176 => (simp only [List.getElem?_toArray, List.getElem?_cons_succ, List.getElem?_cons_zero]; exact rfl)
          case an176 => kernel_rfl
          case bn176 => kernel_rfl
          case cn176 => kernel_rfl
          case qn176 => exact fun _ _ _ h => h
          case dn176 => rfl
          case hyn176 => (intro z hSw; (try dsimp only at hSw); go_simp; (try with_reducible rfl))
          try simp only [Act.put, List.setIfInBounds_toArray, List.set_cons_zero, List.set_cons_succ]
          refine wpAnyH_take (i := 23) (oi := ?on177) (v := ?vn177) ?hin177 ?an177 ?bn177 ?cn177 ?qn177 (Or.inl ⟨?dn177, ?hyn177⟩) hHeld ?restn177
          case hin177 => (simp only [List.getElem?_toArray, List.getElem?_cons_succ, List.getElem?_cons_zero]; exact rfl)
          case an177 => kernel_rfl
          case bn177 => kernel_rfl
          case cn177 => kernel_rfl
          case qn177 => exact fun _ _ _ h => h
          case dn177 => rfl
          case hyn177 => (intro z hSw; (try dsimp only at hSw); go_simp; (try with_reducible rfl))
          try simp only [Act.put, List.setIfInBounds_toArray, List.set_cons_zero, List.set_cons_succ]
          refine wpAnyH_take (i := 24) (oi := ?on178) (v := ?vn178) ?hin178 ?an178 ?bn178 ?cn178 ?qn178 (Or.inl ⟨?dn178, ?hyn178⟩) hHeld ?restn178
          case hin178 => (simp only [List.getElem?_toArray, List.getElem?_cons_succ, List.getElem?_cons_zero]; exact rfl)
          case an178 => kernel_rfl
          case bn178 => kernel_rfl
          case cn178 => kernel_rfl
          case qn178 => exact fun _ _ _ h => h
          case dn178 => rfl
          case hyn178 => (intro z hSw; (try dsimp only at hSw); go_simp; (try with_reducible rfl))
          try simp only [Act.put, List.setIfInBounds_toArray, List.set_cons_zero, List.set_cons_succ]
          refine wpAnyH_take (i := 25) (oi := ?on179) (v := ?vn179) ?hin179 ?an179 ?bn179 ?cn179 ?qn179 (Or.inl ⟨?dn179, ?hyn179⟩) hHeld ?restn179
          case hin179 => (simp only [List.getElem?_toArray, List.getElem?_cons_succ, List.getElem?_cons_zero]; exact rfl)
          case an179 => kernel_rfl
          case bn179 => kernel_rfl
          case cn179 => kernel_rfl
          case qn179 => exact fun _ _ _ h => h
          case dn179 => rfl
          case hyn179 => (intro z hSw; (try dsimp only at hSw); go_simp; (try with_reducible rfl))
          try simp only [Act.put, List.setIfInBounds_toArray, List.set_cons_zero, List.set_cons_succ]
          refine wpAnyH_take (i := 26) (oi := ?on180) (v := ?vn180) ?hin180 ?an180 ?bn180 ?cn180 ?qn180 (Or.inl ⟨?dn180, ?hyn180⟩) hHeld ?restn180
          case hin180 => (simp only [List.getElem?_toArray, List.getElem?_cons_succ, List.getElem?_cons_zero]; exact rfl)
          case an180 => kernel_rfl
          case bn180 => kernel_rfl
          case cn180 => kernel_rfl
          case qn180 => exact fun _ _ _ h => h
          case dn180 => rfl
          case hyn180 => (intro z hSw; (try dsimp only at hSw); go_simp; (try with_reducible rfl))
          try simp only [Act.put, List.setIfInBounds_toArray, List.set_cons_zero, List.set_cons_succ]
          refine wpAnyH_take (i := 27) (oi := ?on181) (v := ?vn181) ?hin181 ?an181 ?bn181 ?cn181 ?qn181 (Or.inl ⟨?dn181, ?hyn181⟩) hHeld ?restn181
          case hin181 => (simp only [List.getElem?_toArray, List.getElem?_cons_succ, List.getElem?_cons_zero]; exact rfl)
          case an181 => kernel_rfl
          case bn181 => kernel_rfl
          case cn181 => kernel_rfl
          case qn181 => exact fun _ _ _ h => h
          case dn181 => rfl
          case hyn181 => (intro z hSw; (try dsimp only at hSw); go_simp; (try with_reducible rfl))
          try simp only [Act.put, List.setIfInBounds_toArray, List.set_cons_zero, List.set_cons_succ]
          refine wpAnyH_take (i := 28) (oi := ?on182) (v := ?vn182) ?hin182 ?an182 ?bn182 ?cn182 ?qn182 (Or.inl ⟨?dn182, ?hyn182⟩) hHeld ?restn182
          case hin182 => (simp only [List.getElem?_toArray, List.getElem?_cons_succ, List.getElem?_cons_zero]; exact rfl)
          case an182 => kernel_rfl
          case bn182 => kernel_rfl
          case cn182 => kernel_rfl
          case qn182 => exact fun _ _ _ h => h
          case dn182 => rfl
          case hyn182 => (intro z hSw; (try dsimp only at hSw); go_simp; (try with_reducible rfl))
          try simp only [Act.put, List.setIfInBounds_toArray, List.set_cons_zero, List.set_cons_succ]
          refine wpAnyH_take (i := 29) (oi := ?on183) (v := ?vn183) ?hin183 ?an183 ?bn183 ?cn183 ?qn183 (Or.inl ⟨?dn183, ?hyn183⟩) hHeld ?restn183
          case hin183 => (simp only [List.getElem?_toArray, List.getElem?_cons_succ, List.getElem?_cons_zero]; exact rfl)
          case an183 => kernel_rfl
          case bn183 => kernel_rfl
          case cn183 => kernel_rfl
          case qn183 => exact fun _ _ _ h => h
          case dn183 => rfl
          case hyn183 => (intro z hSw; (try dsimp only at hSw); go_simp; (try with_reducible rfl))
          try simp only [Act.put, List.setIfInBounds_toArray, List.set_cons_zero, List.set_cons_succ]
          refine wpAnyH_ready (rs := [30]) (by kernel_rfl) (by simp) ?_
          refine AllReadyH.cons (o := ?on184) ?hin184 ?restn184 AllReadyH.nil
          case hin184 => (simp only [List.getElem?_toArray, List.getElem?_cons_succ, List.getElem?_cons_zero]; exact rfl)
          intro K hK
          go_simp
          refine hK.out _ _ ?_ (fun hHeld => ?_)
          · (try dsimp only); first | with_reducible assumption | exact Grew.alloc ‹_› _
          clear hK K
          try simp only [Act.put, List.setIfInBounds_toArray, List.set_cons_zero, List.set_cons_succ]
          refine wpAnyH_ready (rs := [31]) (by kernel_rfl) (by simp) ?_
          refine AllReadyH.cons (o := ?on185) ?hin185 ?restn185 AllReadyH.nil
          case hin185 => (simp only [List.getElem?_toArray, List.getElem?_cons_succ, List.getElem?_cons_zero]; exact rfl)
          intro K hK
          go_simp
          go_at_call 102
          refine (KW.out (pr C0) _ (by first | with_reducible assumption | exact Grew.alloc (by with_reducible assumption) _ | exact Grew.drew (Grew.alloc (by with_reducible assumption) _)) _ (by first | exact strs_lit1 _ _ | exact (strs_lit1 _ _).grew (Grew.refl _).drew)).mono ?_
          rintro e z2 ⟨zu2, rfl, zo2, zg2⟩
          have gz2 : Grew w z2 := Grew.trans (by first | with_reducible assumption | exact Grew.alloc (by with_reducible assumption) _ | exact Grew.drew (Grew.alloc (by with_reducible assumption) _)) zg2
          have mz2 : Grew w1 z2 := Grew.trans (by first | with_reducible assumption | exact Grew.alloc (by with_reducible assumption) _ | exact Grew.drew (Grew.alloc (by with_reducible assumption) _)) zg2
          have zs2 := Lib.hid zo2.strs
          clear zo2
          refine hK.out _ _ ?_ (fun hHeld => ?_)
          · (try dsimp only); first | with_reducible assumption | exact Grew.alloc ‹_› _
          clear hK K
          try simp only [Act.put, List.setIfInBounds_toArray, List.set_cons_zero, List.set_cons_succ]
          refine wpAnyH_ready (rs := [32]) (by kernel_rfl) (by simp) ?_
          refine AllReadyH.cons (o := ?on186) ?hin186 ?restn186 AllReadyH.nil
          case hin186 => (simp only [List.getElem?_toArray, List.getElem?_cons_succ, List.getElem?_cons_zero]; exact rfl)
          intro K hK
          go_simp
          go_at_call 100
          refine (KS2.out _ gz2 _ zs2.out).mono ?_
          rintro e w5 ⟨rfl, hq5⟩
          have hh5 := hq5.grew
          have gk5 : Grew w w5 := Grew.trans (by first | with_reducible assumption | exact Grew.alloc (by with_reducible assumption) _ | exact Grew.drew (Grew.alloc (by with_reducible assumption) _)) hh5
          have mk5 : Grew w1 w5 := Grew.trans (by first | with_reducible assumption | exact Grew.alloc (by with_reducible assumption) _ | exact Grew.drew (Grew.alloc (by with_reducible assumption) _)) hh5
          refine hK.out _ _ ?_ (fun hHeld => ?_)
          · (try dsimp only); first | with_reducible assumption | exact Grew.alloc ‹_› _
          clear hK K
          try simp only [Act.put, List.setIfInBounds_toArray, List.set_cons_zero, List.set_cons_succ]
          refine wpAnyH_take (i := 33) (oi := ?on187) (v := ?vn187) ?hin187 ?an187 ?bn187 ?cn187 ?qn187 (Or.inl ⟨?dn187, ?hyn187⟩) hHeld ?restn187
          case hin187 => (simp only [List.getElem?_toArray, List.getElem?_cons_succ, List.getElem?_cons_zero]; exact rfl)
          case an187 => kernel_rfl
          case bn187 => kernel_rfl
          case cn187 => kernel_rfl
          case qn187 => exact fun _ _ _ h => h
          case dn187 => rfl
          case hyn187 => (intro z hSw; (try dsimp only at hSw); go_simp; (try with_reducible rfl))
          try simp only [Act.put, List.setIfInBounds_toArray, List.set_cons_zero, List.set_cons_succ]
          refine wpAnyH_take (i := 34) (oi := ?on188) (v := ?vn188) ?hin188 ?an188 ?bn188 ?cn188 ?qn188 (Or.inl ⟨?dn188, ?hyn188⟩) hHeld ?restn188
          case hin188 => (simp only [List.getElem?_toArray, List.getElem?_cons_succ, List.getElem?_cons_zero]; exact rfl)
          case an188 => kernel_rfl
          case bn188 => kernel_rfl
          case cn188 => kernel_rfl
          case qn188 => exact fun _ _ _ h => h
          case dn188 => rfl
          case hyn188 => (intro z hSw; (try dsimp only at hSw); go_simp; (try with_reducible rfl))
          try simp only [Act.put, List.setIfInBounds_toArray, List.set_cons_zero, List.set_cons_succ]
          refine wpAnyH_take (i := 35) (oi := ?on189) ?hin189 ?an189 ?bn189 ?cn189 ?qn189 (Or.inr ⟨?dn189, rfl⟩) hHeld ?restn189
          case hin189 => (simp only [List.getElem?_toArray, List.getElem?_cons_succ, List.getElem?_cons_zero]; exact rfl)
          case an189 => kernel_rfl
          case bn189 => kernel_rfl
          case cn189 => kernel_rfl
          case qn189 => exact fun _ _ _ h => h
          case dn189 => rfl
          try simp only [Act.put, List.setIfInBounds_toArray, List.set_cons_zero, List.set_cons_succ]
          refine wpAnyH_take (i := 36) (oi := ?on190) ?hin190 ?an190 ?bn190 ?cn190 ?qn190 (Or.inr ⟨?dn190, rfl⟩) hHeld ?restn190
          case hin190 => (simp only [List.getElem?_toArray, List.getElem?_cons_succ, List.getElem?_cons_zero]; exact rfl)
          case an190 => kernel_rfl
          case bn190 => kernel_rfl
          case cn190 => kernel_rfl
          case qn190 => exact fun _ _ _ h => h
          case dn190 => rfl
          try simp only [Act.put, List.setIfInBounds_toArray, List.set_cons_zero, List.set_cons_succ]
          refine wpAnyH_take (i := 37) (oi := ?on191) ?hin191 ?an191 ?bn191 ?cn191 ?qn191 (Or.inr ⟨?dn191, rfl⟩) hHeld ?restn191
          case hin191 => (simp only [List.getElem?_toArray, List.getElem?_cons_succ, List.getElem?_cons_zero]; exact rfl)
          case an191 => kernel_rfl
          case bn191 => kernel_rfl
          case cn191 => kernel_rfl
          case qn191 => exact fun _ _ _ h => h
          case dn191 => rfl
          try simp only [Act.put, List.setIfInBounds_toArray, List.set_cons_zero, List.set_cons_succ]
          refine wpAnyH_take (i := 38) (oi := ?on192) ?hin192 ?an192 ?bn192 ?cn192 ?qn192 (Or.inr ⟨?dn192, rfl⟩) hHeld ?restn192
          case hin192 => (simp only [List.getElem?_toArray, List.getElem?_cons_succ, List.getElem?_cons_zero]; exact rfl)
          case an192 => kernel_rfl
          case bn192 => kernel_rfl
          case cn192 => kernel_rfl
          case qn192 => exact fun _ _ _ h => h
          case dn192 => rfl
          try simp only [Act.put, List.setIfInBounds_toArray, List.set_cons_zero, List.set_cons_succ]
          refine wpAnyH_take (i := 39) (oi := ?on193) ?hin193 ?an193 ?bn193 ?cn193 ?qn193 (Or.inr ⟨?dn193, rfl⟩) hHeld ?restn193
          case hin193 => (simp only [List.getElem?_toArray, List.getElem?_cons_succ, List.getElem?_cons_zero]; exact rfl)
          case an193 => kernel_rfl
          case bn193 => kernel_rfl
          case cn193 => kernel_rfl
          case qn193 => exact fun _ _ _ h => h
          case dn193 => rfl
          try simp only [Act.put, List.setIfInBounds_toArray, List.set_cons_zero, List.set_cons_succ]
          refine wpAnyH_take (i := 40) (oi := ?on194) ?hin194 ?an194 ?bn194 ?cn194 ?qn194 (Or.inr ⟨?dn194, rfl⟩) hHeld ?restn194
          case hin194 => (simp only [List.getElem?_toArray, List.getElem?_cons_succ, List.getElem?_cons_zero]; exact rfl)
          case an194 => kernel_rfl
          case bn194 => kernel_rfl
          case cn194 => kernel_rfl
          case qn194 => exact fun _ _ _ h => h
          case dn194 => rfl
          try simp only [Act.put, List.setIfInBounds_toArray, List.set_cons_zero, List.set_cons_succ]
          refine wpAnyH_take (i := 41) (oi := ?on195) (v := ?vn195) ?hin195 ?an195 ?bn195 ?cn195 ?qn195 (Or.inl ⟨?dn195, ?hyn195⟩) hHeld ?restn195
          case hin195 => (simp only [List.getElem?_toArray, List.getElem?_cons_succ, List.getElem?_cons_zero]; exact rfl)
          case an195 => kernel_rfl
          case bn195 => kernel_rfl
          case cn195 => kernel_rfl
          case qn195 => exact fun _ _ _ h => h
          case dn195 => rfl
          case hyn195 => (intro z hSw; (try dsimp only at hSw); go_simp; (try with_reducible rfl))
          try simp only [Act.put, List.setIfInBounds_toArray, List.set_cons_zero, List.set_cons_succ]
          refine wpAnyH_take (i := 42) (oi := ?on196) (v := ?vn196) ?hin196 ?an196 ?bn196 ?cn196 ?qn196 (Or.inl ⟨?dn196, ?hyn196⟩) hHeld ?restn196
          case hin196 => (simp only [List.getElem?_toArray, List.getElem?_cons_succ, List.getElem?_cons_zero]; exact rfl)
          case an196 => kernel_rfl
          case bn196 => kernel_rfl
          case cn196 => kernel_rfl
          case qn196 => exact fun _ _ _ h => h
          case dn196 => rfl
          case hyn196 => (intro z hSw; (try dsimp only at hSw); go_simp; (try with_reducible rfl))
          try simp only [Act.put, List.setIfInBounds_toArray, List.set_cons_zero, List.set_cons_succ]
          refine wpAnyH_take (i := 43) (oi := ?on197) ?hin197 ?an197 ?bn197 ?cn197 ?qn197 (Or.inr ⟨?dn197, rfl⟩) hHeld ?restn197
          case hin197 => (simp only [List.getElem?_toArray, List.getElem?_cons_succ, List.getElem?_cons_zero]; exact rfl)
          case an197 => kernel_rfl
          case bn197 => kernel_rfl
          case cn197 => kernel_rfl
          case qn197 => exact fun _ _ _ h => h
          case dn197 => rfl
          try simp only [Act.put, List.setIfInBounds_toArray, List.set_cons_zero, List.set_cons_succ]
          refine wpAnyH_take (i := 44) (oi := ?on198) ?hin198 ?an198 ?bn198 ?cn198 ?qn198 (Or.inr ⟨?dn198, rfl⟩) hHeld ?restn198
          case hin198 => (simp only [List.getElem?_toArray, List.getElem?_cons_succ, List.getElem?_cons_zero]; exact rfl)
          case an198 => kernel_rfl
          case bn198 => kernel_rfl
          case cn198 => kernel_rfl
          case qn198 => exact fun _ _ _ h => h
          case dn198 => rfl
          try simp only [Act.put, List.setIfInBounds_toArray, List.set_cons_zero, List.set_cons_succ]
          refine wpAnyH_take (i := 45) (oi := ?on199) ?hin199 ?an199 ?bn199 ?cn199 ?qn199 (Or.inr ⟨?dn199, rfl⟩) hHeld ?restn199
          case hin199 => (simp only [List.getElem?_toArray, List.getElem?_cons_succ, List.getElem?_cons_zero]; exact rfl)
          case an199 => kernel_rfl
          case bn199 => kernel_rfl
          case cn199 => kernel_rfl
          case qn199 => exact fun _ _ _ h => h
          case dn199 => rfl
          try simp only [Act.put, List.setIfInBounds_toArray, List.set_cons_zero, List.set_cons_succ]
          refine wpAnyH_take (i := 46) (oi := ?on200) ?hin200 ?an200 ?bn200 ?cn200 ?qn200 (Or.inr ⟨?dn200, rfl⟩) hHeld ?restn200
          case hin200 => (simp only [List.getElem?_toArray, List.getElem?_cons_succ, List.getElem?_cons_zero]; exact rfl)
          case an200 => kernel_rfl
          case bn200 => kernel_rfl
          case cn200 => kernel_rfl
          case qn200 => exact fun _ _ _ h => h
          case dn200 => rfl
          try simp only [Act.put, List.setIfInBounds_toArray, List.set_cons_zero, List.set_cons_succ]
          refine wpAnyH_take (i := 47) (oi := ?on201) ?hin201 ?an201 ?bn201 ?cn201 ?qn201 (Or.inr ⟨?dn201, rfl⟩) hHeld ?restn201
          case hin201 => (simp only [List.getElem?_toArray, List.getElem?_cons_succ, List.getElem?_cons_zero]; exact rfl)
          case an201 => kernel_rfl
          case bn201 => kernel_rfl
          case cn201 => kernel_rfl
          case qn201 => exact fun _ _ _ h => h
          case dn201 => rfl
          try simp only [Act.put, List.setIfInBounds_toArray, List.set_cons_zero, List.set_cons_succ]
          refine wpAnyH_take (i := 48) (oi := ?on202) ?hin202 ?an202 ?bn202 ?cn202 ?qn202 (Or.inr ⟨?dn202, rfl⟩) hHeld ?restn202
          case hin202 => (simp only [List.getElem?_toArray, List.getElem?_cons_succ, List.getElem?_cons_zero]; exact rfl)
          case an202 => kernel_rfl
          case bn202 => kernel_rfl
          case cn202 => kernel_rfl
          case qn202 => exact fun _ _ _ h => h
          case dn202 => rfl
          try simp only [Act.put, List.setIfInBounds_toArray, List.set_cons_zero, List.set_cons_succ]
          refine wpAnyH_take (i := 49) (oi := ?on203) (v := ?vn203) ?hin203 ?an203 ?bn203 ?cn203 ?qn203 (Or.inl ⟨?dn203, ?hyn203⟩) hHeld ?restn203
          case hin203 => (simp only [List.getElem?_toArray, List.getElem?_cons_succ, List.getElem?_cons_zero]; exact rfl)
          case an203 => kernel_rfl
          case bn203 => kernel_rfl
          case cn203 => kernel_rfl
          case qn203 => exact fun _ _ _ h => h
          case dn203 => rfl
          case hyn203 => (intro z hSw; (try dsimp only at hSw); go_simp; (try with_reducible rfl))
          try simp only [Act.put, List.setIfInBounds_toArray, List.set_cons_zero, List.set_cons_succ]
          refine wpAnyH_take (i := 50) (oi := ?on204) (v := ?vn204) ?hin204 ?an204 ?bn204 ?cn204 ?qn204 (Or.inl ⟨?dn204, ?hyn204⟩) hHeld ?restn204
          case hin204 => (simp only [List.getElem?_toArray, List.getElem?_cons_succ, List.getElem?_cons_zero]; exact rfl)
          case an204 => kernel_rfl
          case bn204 => kernel_rfl
          case cn204 => kernel_rfl
          case qn204 => exact fun _ _ _ h => h
          case dn204 => rfl
          case hyn204 => (intro z hSw; (try dsimp only at hSw); go_simp; (try with_reducible rfl))
          try simp only [Act.put, List.setIfInBounds_toArray, List.set_cons_zero, List.set_cons_succ]
          refine wpAnyH_done (by kernel_rfl) ?_ _
          go_wp2_with fail
          go_ret
          exact ⟨rfl, gk5⟩
      · rw [dcd_false (fun h => h2 (h.2.2.1))]
        rw [dcd_false h2] at KS1
        replace KS0 := Lib.hid KS0
        replace KS1 := Lib.hid KS1
        replace KS2 := Lib.hid KS2
        clear h0 h1 h2
        go_enter Tryz.func82, Tryz.ntmps82
        go_wp2_with fail
        refine (KP.out _).mono ?_
        rintro e w1 ⟨rfl, hg1⟩
        have g1 := hal.trans hg1
        have hm1 := hg1
        have r1 := Grew.refl w1
        have d1 := r1.drew
        have gd := g1.trans d1
        have e0 := fun W (hW : Grew w1 W) => f0 W (hg1.trans hW)
        have e2 := fun W (hW : Grew w1 W) => f2 W (hg1.trans hW)
        have e3 := fun W (hW : Grew w1 W) => f3 W (hg1.trans hW)
        have p0a := fun W (hW : Grew w1 W) => q0a W (g1.trans hW)
        have p0c := fun W (hW : Grew w1 W) => q0c W (g1.trans hW)
        have p1a := fun W (hW : Grew w1 W) => q1a W (g1.trans hW)
        have p1c := fun W (hW : Grew w1 W) => q1c W (g1.trans hW)
        have p2a := fun W (hW : Grew w1 W) => q2a W (g1.trans hW)
        have p2c := fun W (hW : Grew w1 W) => q2c W (g1.trans hW)
        clear f0 f2 f3 q0a q0c q1a q1c q2a q2c
        go_wp2_with fail
        refine wp_region_held_drew (S := fun w' => Grew w1 w') (by kernel_rfl) d1 (fun hHeld => ?_)
        refine wpAnyH_take (i := 0) (oi := ?on205) (v := ?vn205) ?hin205 ?an205 ?bn205 ?cn205 ?qn205 (Or.inl ⟨?dn205, ?hyn205⟩) hHeld ?restn205
        case hin205 => (simp only [List.getElem?_toArray, List.getElem?_cons_succ, List.getElem?_cons_zero]; exact rfl)
        case an205 => kernel_rfl
        case bn205 => kernel_rfl
        case cn205 => kernel_rfl
        case qn205 => exact fun _ _ _ h => h
        case dn205 => rfl
        case hyn205 => (intro z hSw; (try dsimp only at hSw); go_simp; (try with_reducible rfl))
        try simp only [Act.put, List.setIfInBounds_toArray, List.set_cons_zero, List.set_cons_succ]
        refine wpAnyH_take (i := 1) (oi := ?on206) (v := ?vn206) ?hin206 ?an206 ?bn206 ?cn206 ?qn206 (Or.inl ⟨?dn206, ?hyn206⟩) hHeld ?restn206
        case hin206 => (simp only [List.getElem?_toArray, List.getElem?_cons_succ, List.getElem?_cons_zero]; exact rfl)
        case an206 => kernel_rfl
        case bn206 => kernel_rfl
        case cn206 => kernel_rfl
        case qn206 => exact fun _ _ _ h => h
        case dn206 => rfl
        case hyn206 => (intro z hSw; (try dsimp only at hSw); go_simp; (try with_reducible rfl))
        try simp only [Act.put, List.setIfInBounds_toArray, List.set_cons_zero, List.set_cons_succ]
        refine wpAnyH_take (i := 2) (oi := ?on207) (v := ?vn207) ?hin207 ?an207 ?bn207 ?cn207 ?qn207 (Or.inl ⟨?dn207, ?hyn207⟩) hHeld ?restn207
        case hin207 => (simp only [List.getElem?_toArray, List.getElem?_cons_succ, List.getElem?_cons_zero]; exact rfl)
        case an207 => kernel_rfl
        case bn207 => kernel_rfl
        case cn207 => kernel_rfl
        case qn207 => exact fun _ _ _ h => h
        case dn207 => rfl
        case hyn207 => (intro z hSw; (try dsimp only at hSw); go_simp; (try with_reducible rfl))
        try simp only [Act.put, List.setIfInBounds_toArray, List.set_cons_zero, List.set_cons_succ]
        refine wpAnyH_take (i := 3) (oi := ?on208) (v := ?vn208) ?hin208 ?an208 ?bn208 ?cn208 ?qn208 (Or.inl ⟨?dn208, ?hyn208⟩) hHeld ?restn208
        case hin208 => (simp only [List.getElem?_toArray, List.getElem?_cons_succ, List.getElem?_cons_zero]; exact rfl)
        case an208 => kernel_rfl
        case bn208 => kernel_rfl
        case cn208 => kernel_rfl
        case qn208 => exact fun _ _ _ h => h
        case dn208 => rfl
        case hyn208 => (intro z hSw; (try dsimp only at hSw); go_simp; (try with_reducible rfl))
        try simp only [Act.put, List.setIfInBounds_toArray, List.set_cons_zero, List.set_cons_succ]
        refine wpAnyH_take (i := 4) (oi := ?on209) (v := ?vn209) ?hin209 ?an209 ?bn209 ?cn209 ?qn209 (Or.inl ⟨?dn209, ?hyn209⟩) hHeld ?restn209
        case hin209 => (simp only [List.getElem?_toArray, List.getElem?_cons_succ, List.getElem?_cons_zero]; exact rfl)
        case an209 => kernel_rfl
        case bn209 => kernel_rfl
        case cn209 => kernel_rfl
        case qn209 => exact fun _ _ _ h => h
        case dn209 => rfl
        case hyn209 => (intro z hSw; (try dsimp only at hSw); go_simp; (try with_reducible rfl))
        try simp only [Act.put, List.setIfInBounds_toArray, List.set_cons_zero, List.set_cons_succ]
        refine wpAnyH_take (i := 5) (oi := ?on210) (v := ?vn210) ?hin210 ?an210 ?bn210 ?cn210 ?qn210 (Or.inl ⟨?dn210, ?hyn210⟩) hHeld ?restn210
        case hin210 => (simp only [List.getElem?_toArray, List.getElem?_cons_succ, List.getElem?_cons_zero]; exact rfl)
        case an210 => kernel_rfl
        case bn210 => kernel_rfl
        case cn210 => kernel_rfl
        case qn210 => exact fun _ _ _ h => h
        case dn210 => rfl
        case hyn210 => (intro z hSw; (try dsimp only at hSw); go_simp; (try with_reducible rfl))
        try simp only [Act.put, List.setIfInBounds_toArray, List.set_cons_zero, List.set_cons_succ]
        refine wpAnyH_take (i := 6) (oi := ?on211) (v := ?vn211) ?hin211 ?an211 ?bn211 ?cn211 ?qn211 (Or.inl ⟨?dn211, ?hyn211⟩) hHeld ?restn211
        case hin211 => (simp only [List.getElem?_toArray, List.getElem?_cons_succ, List.getElem?_cons_zero]; exact rfl)
        case an211 => kernel_rfl
        case bn211 => kernel_rfl
        case cn211 => kernel_rfl
        case qn211 => exact fun _ _ _ h => h
        case dn211 => rfl
        case hyn211 => (intro z hSw; (try dsimp only at hSw); go_simp; (try with_reducible rfl))
        try simp only [Act.put, List.setIfInBounds_toArray, List.set_cons_zero, List.set_cons_succ]
        refine wpAnyH_take (i := 7) (oi := ?on212) (v := ?vn212) ?hin212 ?an212 ?bn212 ?cn212 ?qn212 (Or.inl ⟨?dn212, ?hyn212⟩) hHeld ?restn212
        case hin212 => (simp only [List.getElem?_toArray, List.getElem?_cons_succ, List.getElem?_cons_zero]; exact rfl)
        case an212 => kernel_rfl
        case bn212 => kernel_rfl
        case cn212 => kernel_rfl
        case qn212 => exact fun _ _ _ h => h
        case dn212 => rfl
        case hyn212 => (intro z hSw; (try dsimp only at hSw); go_simp; (try with_reducible rfl))
        try simp only [Act.put, List.setIfInBounds_toArray, List.set_cons_zero, List.set_cons_succ]
        refine wpAnyH_ready (rs := [8]) (by kernel_rfl) (by simp) ?_
        refine AllReadyH.cons (o := ?on213) ?hin213 ?restn213 AllReadyH.nil
        case hin213 => (simp only [List.getElem?_toArray, List.getElem?_cons_succ, List.getElem?_cons_zero]; exact rfl)
        intro K hK
        go_simp
        go_at_call 100
        refine (KS0.out _ (by first | with_reducible assumption | exact Grew.alloc (by with_reducible assumption) _ | exact Grew.drew (Grew.alloc (by with_reducible assumption) _))).mono ?_
        rintro e w3 ⟨rfl, hq3⟩
        have hh3 := hq3.grew
        have gk3 : Grew w w3 := Grew.trans (by first | with_reducible assumption | exact Grew.alloc (by with_reducible assumption) _ | exact Grew.drew (Grew.alloc (by with_reducible assumption) _)) hh3
        have mk3 : Grew w1 w3 := Grew.trans (by first | with_reducible assumption | exact Grew.alloc (by with_reducible assumption) _ | exact Grew.drew (Grew.alloc (by with_reducible assumption) _)) hh3
        refine hK.out _ _ ?_ (fun hHeld => ?_)
        · (try dsimp only); first | with_reducible assumption | exact Grew.alloc ‹_› _
        clear hK K
        try simp only [Act.put, List.setIfInBounds_toArray, List.set_cons_zero, List.set_cons_succ]
        refine wpAnyH_take (i := 9) (oi := ?on214) (v := ?vn214) ?hin214 ?an214 ?bn214 ?cn214 ?qn214 (Or.inl ⟨?dn214, ?hyn214⟩) hHeld ?restn214
        case hin214 => (simp only [List.getElem?_toArray, List.getElem?_cons_succ, List.getElem?_cons_zero]; exact rfl)
        case an214 => kernel_rfl
        case bn214 => kernel_rfl
        case cn214 => kernel_rfl
        case qn214 => exact fun _ _ _ h => h
        case dn214 => rfl
        case hyn214 => (intro z hSw; (try dsimp only at hSw); go_simp; (try with_reducible rfl))
        try simp only [Act.put, List.setIfInBounds_toArray, List.set_cons_zero, List.set_cons_succ]
        refine wpAnyH_take (i := 10) (oi := ?on215) (v := ?vn215) ?hin215 ?an215 ?bn215 ?cn215 ?qn215 (Or.inl ⟨?dn215, ?hyn215⟩) hHeld ?restn215
        case hin215 => (simp only [List.getElem?_toArray, List.getElem?_cons_succ, List.getElem?_cons_zero]; exact rfl)
        case an215 => kernel_rfl
        case bn215 => kernel_rfl
        case cn215 => kernel_rfl
        case qn215 => exact fun _ _ _ h => h
        case dn215 => rfl
        case hyn215 => (intro z hSw; (try dsimp only at hSw); go_simp; (try with_reducible rfl))
        try simp only [Act.put, List.setIfInBounds_toArray, List.set_cons_zero, List.set_cons_succ]
        refine wpAnyH_take (i := 11) (oi := ?on216) (v := ?vn216) ?hin216 ?an216 ?bn216 ?cn216 ?qn216 (Or.inl ⟨?dn216, ?hyn216⟩) hHeld ?restn216
        case hin216 => (simp only [List.getElem?_toArray, List.getElem?_cons_succ, List.getElem?_cons_zero]; exact rfl)
        case an216 => kernel_rfl
        case bn216 => kernel_rfl
        case cn216 => kernel_rfl
        case qn216 => exact fun _ _ _ h => h
        case dn216 => rfl
        case hyn216 => (intro z hSw; (try dsimp only at hSw); go_simp; (try with_reducible rfl))
        try simp only [Act.put, List.setIfInBounds_toArray, List.set_cons_zero, List.set_cons_succ]
        refine wpAnyH_take (i := 12) (oi := ?on217) (v := ?vn217) ?hin217 ?an217 ?bn217 ?cn217 ?qn217 (Or.inl ⟨?dn217, ?hyn217⟩) hHeld ?restn217
        case hin217 => (simp only [List.getElem?_toArray, List.getElem?_cons_succ, List.getElem?_cons_zero]; exact rfl)
        case an217 => kernel_rfl
        case bn217 => kernel_rfl
        case cn217 => kernel_rfl
        case qn217 => exact fun _ _ _ h => h
        case dn217 => rfl
        case hyn217 => (intro z hSw; (try dsimp only at hSw); go_simp; (try with_reducible rfl))
        try simp only [Act.put, List.setIfInBounds_toArray, List.set_cons_zero, List.set_cons_succ]
        refine wpAnyH_take (i := 13) (oi := ?on218) (v := ?vn218) ?hin218 ?an218 ?bn218 ?cn218 ?qn218 (Or.inl ⟨?dn218, ?hyn218⟩) hHeld ?restn218
        case hin218 => (simp only [List.getElem?_toArray, List.getElem?_cons_succ, List.getElem?_cons_zero]; exact rfl)
        case an218 => kernel_rfl
        case bn218 => kernel_rfl
        case cn218 => kernel_rfl
        case qn218 => exact fun _ _ _ h => h
        case dn218 => rfl
        case hyn218 => (intro z hSw; (try dsimp only at hSw); go_simp; (try with_reducible rfl))
        try simp only [Act.put, List.setIfInBounds_toArray, List.set_cons_zero, List.set_cons_succ]
        refine wpAnyH_take (i := 14) (oi := ?on219) (v := ?vn219) ?hin219 ?an219 ?bn219 ?cn219 ?qn219 (Or.inl ⟨?dn219, ?hyn219⟩) hHeld ?restn219
        case hin219 => (simp only [List.getElem?_toArray, List.getElem?_cons_succ, List.getElem?_cons_zero]; exact rfl)
        case an219 => kernel_rfl
        case bn219 => kernel_rfl
        case cn219 => kernel_rfl
        case qn219 => exact fun _ _ _ h => h
        case dn219 => rfl
        case hyn219 => (intro z hSw; (try dsimp only at hSw); go_simp; (try with_reducible rfl))
        try simp only [Act.put, List.setIfInBounds_toArray, List.set_cons_zero, List.set_cons_succ]
        refine wpAnyH_take (i := 15) (oi := ?on220) (v := ?vn220) ?hin220 ?an220 ?bn220 ?cn220 ?qn220 (Or.inl ⟨?dn220, ?hyn220⟩) hHeld ?restn220
        case hin220 => (simp only [List.getElem?_toArray, List.getElem?_cons_succ, List.getElem?_cons_zero]; exact rfl)
        case an220 => kernel_rfl
        case bn220 => kernel_rfl
        case cn220 => kernel_rfl
        case qn220 => exact fun _ _ _ h => h
        case dn220 => rfl
        case hyn220 => (intro z hSw; (try dsimp only at hSw); go_simp; (try with_reducible rfl))
        try simp only [Act.put, List.setIfInBounds_toArray, List.set_cons_zero, List.set_cons_succ]
        refine wpAnyH_take (i := 16) (oi := ?on221) (v := ?vn221) ?hin221 ?an221 ?bn221 ?cn221 ?qn221 (Or.inl ⟨?dn221, ?hyn221⟩) hHeld ?restn221
        case hin221 => (simp only [List.getElem?_toArray, List.getElem?_cons_succ, List.getElem?_cons_zero]; exact rfl)
        case an221 => kernel_rfl
        case bn221 => kernel_rfl
        case cn221 => kernel_rfl
        case qn221 => exact fun _ _ _ h => h
        case dn221 => rfl
        case hyn221 => (intro z hSw; (try dsimp only at hSw); go_simp; (try with_reducible rfl))
        try simp only [Act.put, List.setIfInBounds_toArray, List.set_cons_zero, List.set_cons_succ]
        refine wpAnyH_take (i := 17) (oi := ?on222) (v := ?vn222) ?hin222 ?an222 ?bn222 ?cn222 ?qn222 (Or.inl ⟨?dn222, ?hyn222⟩) hHeld ?restn222
        case hin222 => (simp only [List.getElem?_toArray, List.getElem?_cons_succ, List.getElem?_cons_zero]; exact rfl)
        case an222 => kernel_rfl
        case bn222 => kernel_rfl
        case cn222 => kernel_rfl
        case qn222 => exact fun _ _ _ h => h
        case dn222 => rfl
        case hyn222 => (intro z hSw; (try dsimp only at hSw); go_simp; (try with_reducible rfl))
        try simp only [Act.put, List.setIfInBounds_toArray, List.set_cons_zero, List.set_cons_succ]
        refine wpAnyH_ready (rs := [18]) (by kernel_rfl) (by simp) ?_
        refine AllReadyH.cons (o := ?on223) ?hin223 ?restn223 AllReadyH.nil
        case hin223 => (simp only [List.getElem?_toArray, List.getElem?_cons_succ, List.getElem?_cons_zero]; exact rfl)
        intro K hK
        go_simp
        refine hK.out _ _ ?_ (fun hHeld => ?_)
        · (try dsimp only); first | with_reducible assumption | exact Grew.alloc ‹_› _
        clear hK K
        try simp only [Act.put, List.setIfInBounds_toArray, List.set_cons_zero, List.set_cons_succ]
        refine wpAnyH_ready (rs := [19]) (by kernel_rfl) (by simp) ?_
        refine AllReadyH.cons (o := ?on224) ?hin224 ?restn224 AllReadyH.nil
        case hin224 => (simp only [List.getElem?_toArray, List.getElem?_cons_succ, List.getElem?_cons_zero]; exact rfl)
        intro K hK
        go_simp
        go_at_call 102
        refine (KW.out (pl C0) _ (by first | with_reducible assumption | exact Grew.alloc (by with_reducible assumption) _ | exact Grew.drew (Grew.alloc (by with_reducible assumption) _)) _ (by first | exact strs_lit1 _ _ | exact (strs_lit1 _ _).grew (Grew.refl _).drew)).mono ?_
        rintro e z1 ⟨zu1, rfl, zo1, zg1⟩
        have gz1 : Grew w z1 := Grew.trans (by first | with_reducible assumption | exact Grew.alloc (by with_reducible assumption) _ | exact Grew.drew (Grew.alloc (by with_reducible assumption) _)) zg1
        have mz1 : Grew w1 z1 := Grew.trans (by first | with_reducible assumption | exact Grew.alloc (by with_reducible assumption) _ | exact Grew.drew (Grew.alloc (by with_reducible assumption) _)) zg1
        have zs1 := Lib.hid zo1.strs
        clear zo1
        refine hK.out _ _ ?_ (fun hHeld => ?_)
        · (try dsimp only); first | with_reducible assumption | exact Grew.alloc ‹_› _
        clear hK K
        try simp only [Act.put, List.setIfInBounds_toArray, List.set_cons_zero, List.set_cons_succ]
        refine wpAnyH_ready (rs := [20]) (by kernel_rfl) (by simp) ?_
        refine AllReadyH.cons (o := ?on225) ?hin225 ?restn225 AllReadyH.nil
        case hin225 => (simp only [List.getElem?_toArray, List.getElem?_cons_succ, List.getElem?_cons_zero]; exact rfl)
        intro K hK
        go_simp
        go_at_call 100
        refine (KS1.out _ gz1 _ zs1.out).mono ?_
        rintro e w4 ⟨rfl, hq4⟩
        have hh4 := hq4.grew
        have gk4 : Grew w w4 := Grew.trans (by first | with_reducible assumption | exact Grew.alloc (by with_reducible assumption) _ | exact Grew.drew (Grew.alloc (by with_reducible assumption) _)) hh4
        have mk4 : Grew w1 w4 := Grew.trans (by first | with_reducible assumption | exact Grew.alloc (by with_reducible assumption) _ | exact Grew.drew (Grew.alloc (by with_reducible assumption) _)) hh4
        refine hK.out _ _ ?_ (fun hHeld => ?_)
        · (try dsimp only); first | with_reducible assumption | exact Grew.alloc ‹_› _
        clear hK K
        try simp only [Act.put, List.setIfInBounds_toArray, List.set_cons_zero, List.set_cons_succ]
        refine wpAnyH_take (i := 21) (oi := ?on226) (v := ?vn226) ?hin226 ?an226 ?bn226 ?cn226 ?qn226 (Or.inl ⟨?dn226, ?hyn226⟩) hHeld ?restn226
        case hin226 => (simp only [List.getElem?_toArray, List.getElem?_cons_succ, List.getElem?_cons_zero]; exact rfl)
        case an226 => kernel_rfl
        case bn226 => kernel_rfl
        case cn226 => kernel_rfl
        case qn226 => exact fun _ _ _ h => h
        case dn226 => rfl
        case hyn226 => (intro z hSw; (try dsimp only at hSw); go_simp; (try with_reducible rfl))
        try simp only [Act.put, List.setIfInBounds_toArray, List.set_cons_zero, List.set_cons_succ]
        refine wpAnyH_take (i := 22) (oi := ?on227) (v := ?vn227) ?hin227 ?an227 ?bn227 ?cn227 ?qn227 (Or.inl ⟨?dn227, ?hyn227⟩) hHeld ?restn227
        case hin227 => (simp only [List.getElem?_toArray, List.getElem?_cons_succ, List.getElem?_cons_zero]; exact rfl)
        case an227 => kernel_rfl
        case bn227 => kernel_rfl
        case cn227 => kernel_rfl
        case qn227 => exact fun _ _ _ h => h
        case dn227 => rfl
        case hyn227 => (intro z hSw; (try dsimp only at hSw); go_simp; (try with_reducible rfl))
        try simp only [Act.put, List.setIfInBounds_toArray, List.set_cons_zero, List.set_cons_succ]
        refine wpAnyH_take (i := 23) (oi := ?on228) ?hin228 ?an228 ?bn228 ?cn228 ?qn228 (Or.inr ⟨?dn228, rfl⟩) hHeld ?restn228
        case hin228 => (simp only [List.getElem?_toArray, List.getElem?_cons_succ, List.getElem?_cons_zero]; exact rfl)
        case an228 => kernel_rfl
        case bn228 => kernel_rfl
        case cn228 => kernel_rfl
        case qn228 => exact fun _ _ _ h => h
        case dn228 => rfl
        try simp only [Act.put, List.setIfInBounds_toArray, List.set_cons_zero, List.set_cons_succ]
        refine wpAnyH_take (i := 24) (oi := ?on229) ?hin229 ?an229 ?bn229 ?cn229 ?qn229 (Or.inr ⟨?dn229, rfl⟩) hHeld ?restn229
        case hin229 => (simp only [List.getElem?_toArray, List.getElem?_cons_succ, List.getElem?_cons_zero]; exact rfl)
        case an229 => kernel_rfl
        case bn229 => kernel_rfl
        case cn229 => kernel_rfl
        case qn229 => exact fun _ _ _ h => h
        case dn229 => rfl
        try simp only [Act.put, List.setIfInBounds_toArray, List.set_cons_zero, List.set_cons_succ]
        refine wpAnyH_take (i := 25) (oi := ?on230) ?hin230 ?an230 ?bn230 ?cn230 ?qn230 (Or.inr ⟨?dn230, rfl⟩) hHeld ?restn230
        case hin230 => (simp only [List.getElem?_toArray, List.getElem?_cons_succ, List.getElem?_cons_zero]; exact rfl)
        case an230 => kernel_rfl
        case bn230 => kernel_rfl
        case cn230 => kernel_rfl
        case qn230 => exact fun _ _ _ h => h
        case dn230 => rfl
        try simp only [Act.put, List.setIfInBounds_toArray, List.set_cons_zero, List.set_cons_succ]
        refine wpAnyH_take (i := 26) (oi := ?on231) ?hin231 ?an231 ?bn231 ?cn231 ?qn231 (Or.inr ⟨?dn231, rfl⟩) hHeld ?restn231
        case hin231 => (simp only [List.getElem?_toArray, List.getElem?_cons_succ, List.getElem?_cons_zero]; exact rfl)
        case an231 => kernel_rfl
        case bn231 => kernel_rfl
        case cn231 => kernel_rfl
        case qn231 => exact fun _ _ _ h => h
        case dn231 => rfl
        try simp only [Act.put, List.setIfInBounds_toArray, List.set_cons_zero, List.set_cons_succ]
        refine wpAnyH_take (i := 27) (oi := ?on232) ?hin232 ?an232 ?bn232 ?cn232 ?qn232 (Or.inr ⟨?dn232, rfl⟩) hHeld ?restn232
        case hin232 => (simp only [List.getElem?_toArray, List.getElem?_cons_succ, List.getElem?_cons_zero]; exact rfl)
        case an232 => kernel_rfl
        case bn232 => kernel_rfl
        case cn232 => kernel_rfl
        case qn232 => exact fun _ _ _ h => h
        case dn232 => rfl
        try simp only [Act.put, List.setIfInBounds_toArray, List.set_cons_zero, List.set_cons_succ]
        refine wpAnyH_take (i := 28) (oi := ?on233) ?hin233 ?an233 ?bn233 ?cn233 ?qn233 (Or.inr ⟨?dn233, rfl⟩) hHeld ?restn233
        case hin233 => (simp only [List.getElem?_toArray, List.getElem?_cons_succ, List.getElem?_cons_zero]; exact rfl)
        case an233 => kernel_rfl
        case bn233 => kernel_rfl
        case cn233 => kernel_rfl
        case qn233 => exact fun _ _ _ h => h
        case dn233 => rfl
        try simp only [Act.put, List.setIfInBounds_toArray, List.set_cons_zero, List.set_cons_succ]
        refine wpAnyH_take (i := 29) (oi := ?on234) ?hin234 ?an234 ?bn234 ?cn234 ?qn234 (Or.inr ⟨?dn234, rfl⟩) hHeld ?restn234
        case hin234 => (simp only [List.getElem?_toArray, List.getElem?_cons_succ, List.getElem?_cons_zero]; exact rfl)
        case an234 => kernel_rfl
        case bn234 => kernel_rfl
        case cn234 => kernel_rfl
        case qn234 => exact fun _ _ _ h => h
        case dn234 => rfl
        try simp only [Act.put, List.setIfInBounds_toArray, List.set_cons_zero, List.set_cons_succ]
        refine wpAnyH_take (i := 30) (oi := ?on235) ?hin235 ?an235 ?bn235 ?cn235 ?qn235 (Or.inr ⟨?dn235, rfl⟩) hHeld ?restn235
        case hin235 => (simp only [List.getElem?_toArray, List.getElem?_cons_succ, List.getElem?_cons_zero]; exact rfl)
        case an235 => kernel_rfl
        case bn235 => kernel_rfl
        case cn235 => kernel_rfl
        case qn235 => exact fun _ _ _ h => h
        case dn235 => rfl
        try simp only [Act.put, List.setIfInBounds_toArray, List.set_cons_zero, List.set_cons_succ]
        refine wpAnyH_take (i := 31) (oi := ?on236) ?hin236 ?an236 ?bn236 ?cn236 ?qn236 (Or.inr ⟨?dn236, rfl⟩) hHeld ?restn236
        case hin236 => (simp only [List.getElem?_toArray, List.getElem?_cons_succ, List.getElem?_cons_zero]; exact rfl)
        case an236 => kernel_rfl
        case bn236 => kernel_rfl
        case cn236 => kernel_rfl
        case qn236 => exact fun _ _ _ h => h
        case dn236 => rfl
        try simp only [Act.put, List.setIfInBounds_toArray, List.set_cons_zero, List.set_cons_succ]
        refine wpAnyH_take (i := 32) (oi := ?on237) ?hin237 ?an237 ?bn237 ?cn237 ?qn237 (Or.inr ⟨?dn237, rfl⟩) hHeld ?restn237
        case hin237 => (simp only [List.getElem?_toArray, List.getElem?_cons_succ, List.getElem?_cons_zero]; exact rfl)
        case an237 => kernel_rfl
        case bn237 => kernel_rfl
        case cn237 => kernel_rfl
        case qn237 => exact fun _ _ _ h => h
        case dn237 => rfl
        try simp only [Act.put, List.setIfInBounds_toArray, List.set_cons_zero, List.set_cons_succ]
        refine wpAnyH_take (i := 33) (oi := ?on238) (v := ?vn238) ?hin238 ?an238 ?bn238 ?cn238 ?qn238 (Or.inl ⟨?dn238, ?hyn238⟩) hHeld ?restn238
        case hin238 => (simp only [List.getElem?_toArray, List.getElem?_cons_succ, List.getElem?_cons_zero]; exact rfl)
        case an238 => kernel_rfl
        case bn238 => kernel_rfl
        case cn238 => kernel_rfl
        case qn238 => exact fun _ _ _ h => h
        case dn238 => rfl
        case hyn238 => (intro z hSw; (try dsimp only at hSw); go_simp; (try with_reducible rfl))
        try simp only [Act.put, List.setIfInBounds_toArray, List.set_cons_zero, List.set_cons_succ]
        refine wpAnyH_take (i := 34) (oi := ?on239) (v := ?vn239) ?hin239 ?an239 ?bn239 ?cn239 ?qn239 (Or.inl ⟨?dn239, ?hyn239⟩) hHeld ?restn239
        case hin239 => (simp only [List.getElem?_toArray, List.getElem?_cons_succ, List.getElem?_cons_zero]; exact rfl)
        case an239 => kernel_rfl
        case bn239 => kernel_rfl
        case cn239 => kernel_rfl
        case qn239 => exact fun _ _ _ h => h
        case dn239 => rfl
        case hyn239 => (intro z hSw; (try dsimp only at hSw); go_simp; (try with_reducible rfl))
        try simp only [Act.put, List.setIfInBounds_toArray, List.set_cons_zero, List.set_cons_succ]
        refine wpAnyH_take (i := 35) (oi := ?on240) ?hin240 ?an240 ?bn240 ?cn240 ?qn240 (Or.inr ⟨?dn240, rfl⟩) hHeld ?restn240
        case hin240 => (simp only [List.getElem?_toArray, List.getElem?_cons_succ, List.getElem?_cons_zero]; exact rfl)
        case an240 => kernel_rfl
        case bn240 => kernel_rfl
        case cn240 => kernel_rfl
        case qn240 => exact fun _ _ _ h => h
        case dn240 => rfl
        try simp only [Act.put, List.setIfInBounds_toArray, List.set_cons_zero, List.set_cons_succ]
        refine wpAnyH_take (i := 36) (oi := ?on241) ?hin241 ?an241 ?bn241 ?cn241 ?qn241 (Or.inr ⟨?dn241, rfl⟩) hHeld ?restn241
        case hin241 => (simp only [List.getElem?_toArray, List.getElem?_cons_succ, List.getElem?_cons_zero]; exact rfl)
        case an241 => kernel_rfl
        case bn241 => kernel_rfl
        case cn241 => kernel_rfl
        case qn241 => exact fun _ _ _ h => h
        case dn241 => rfl
        try simp only [Act.put, List.setIfInBounds_toArray, List.set_cons_zero, List.set_cons_succ]
        refine wpAnyH_take (i := 37) (oi := ?on242) ?hin242 ?an242 ?bn242 ?cn242 ?qn242 (Or.inr ⟨?dn242, rfl⟩) hHeld ?restn242
        case hin242 => (simp only [List.getElem?_toArray, List.getElem?_cons_succ, List.getElem?_cons_zero]; exact rfl)
        case an242 => kernel_rfl
        case bn242 => kernel_rfl
        case cn242 => kernel_rfl
        case qn242 => exact fun _ _ _ h => h
        case dn242 => rfl
        try simp only [Act.put, List.setIfInBounds_toArray, List.set_cons_zero, List.set_cons_succ]
        refine wpAnyH_take (i := 38) (oi := ?on243) ?hin243 ?an243 ?bn243 ?cn243 ?qn243 (Or.inr ⟨?dn243, rfl⟩) hHeld ?restn243
        case hin243 => (simp only [List.getElem?_toArray, List.getElem?_cons_succ, List.getElem?_cons_zero]; exact rfl)
        case an243 => kernel_rfl
        case bn243 => kernel_rfl
        case cn243 => kernel_rfl
        case qn243 => exact fun _ _ _ h => h
        case dn243 => rfl
        try simp only [Act.put, List.setIfInBounds_toArray, List.set_cons_zero, List.set_cons_succ]
        refine wpAnyH_take (i := 39) (oi := ?on244) ?hin244 ?an244 ?bn244 ?cn244 ?qn244 (Or.inr ⟨?dn244, rfl⟩) hHeld ?restn244
        case hin244 => (simp only [List.getElem?_toArray, List.getElem?_cons_succ, List.getElem?_cons_zero]; exact rfl)
        case an244 => kernel_rfl
        case bn244 => kernel_rfl
        case cn244 => kernel_rfl
        case qn244 => exact fun _ _ _ h => h
        case dn244 => rfl
        try simp only [Act.put, List.setIfInBounds_toArray, List.set_cons_zero, List.set_cons_succ]
        refine wpAnyH_take (i := 40) (oi := ?on245) ?hin245 ?an245 ?bn245 ?cn245 ?qn245 (Or.inr ⟨?dn245, rfl⟩) hHeld ?restn245
        case hin245 => (simp only [List.getElem?_toArray, List.getElem?_cons_succ, List.getElem?_cons_zero]; exact rfl)
        case an245 => kernel_rfl
        case bn245 => kernel_rfl
        case cn245 => kernel_rfl
        case qn245 => exact fun _ _ _ h => h
        case dn245 => rfl
        try simp only [Act.put, List.setIfInBounds_toArray, List.set_cons_zero, List.set_cons_succ]
        refine wpAnyH_take (i := 41) (oi := ?on246) (v := ?vn246) ?hin246 ?an246 ?bn246 ?cn246 ?qn246 (Or.inl ⟨?dn246, ?hyn246⟩) hHeld ?restn246
        case hin246 => (simp only [List.getElem?_toArray, List.getElem?_cons_succ, List.getElem?_cons_zero]; exact rfl)
        case an246 => kernel_rfl
        case bn246 => kernel_rfl
        case cn246 => kernel_rfl
        case qn246 => exact fun _ _ _ h => h
        case dn246 => rfl
        case hyn246 => (intro z hSw; (try dsimp only at hSw); go_simp; (try with_reducible rfl))
        try simp only [Act.put, List.setIfInBounds_toArray, List.set_cons_zero, List.set_cons_succ]
        refine wpAnyH_take (i := 42) (oi := ?on247) (v := ?vn247) ?hin247 ?an247 ?bn247 ?cn247 ?qn247 (Or.inl ⟨?dn247, ?hyn247⟩) hHeld ?restn247
        case hin247 => (simp only [List.getElem?_toArray, List.getElem?_cons_succ, List.getElem?_cons_zero]; exact rfl)
        case an247 => kernel_rfl
        case bn247 => kernel_rfl
        case cn247 => kernel_rfl
        case qn247 => exact fun _ _ _ h => h
        case dn247 => rfl
        case hyn247 => (intro z hSw; (try dsimp only at hSw); go_simp; (try with_reducible rfl))
        try simp only [Act.put, List.setIfInBounds_toArray, List.set_cons_zero, List.set_cons_succ]
        refine wpAnyH_take (i := 43) (oi := ?on248) ?hin248 ?an248 ?bn248 ?cn248 ?qn248 (Or.inr ⟨?dn248, rfl⟩) hHeld ?restn248
        case hin248 => (simp only [List.getElem?_toArray, List.getElem?_cons_succ, List.getElem?_cons_zero]; exact rfl)
        case an248 => kernel_rfl
        case bn248 => kernel_rfl
        case cn248 => kernel_rfl
        case qn248 => exact fun _ _ _ h => h
        case dn248 => rfl
        try simp only [Act.put, List.setIfInBounds_toArray, List.set_cons_zero, List.set_cons_succ]
        refine wpAnyH_take (i := 44) (oi := ?on249) ?hin249 ?an249 ?bn249 ?cn249 ?qn249 (Or.inr ⟨?dn249, rfl⟩) hHeld ?restn249
        case hin249 => (simp only [List.getElem?_toArray, List.getElem?_cons_succ, List.getElem?_cons_zero]; exact rfl)
        case an249 => kernel_rfl
        case bn249 => kernel_rfl
        case cn249 => kernel_rfl
        case qn249 => exact fun _ _ _ h => h
        case dn249 => rfl
        try simp only [Act.put, List.setIfInBounds_toArray, List.set_cons_zero, List.set_cons_succ]
        refine wpAnyH_take (i := 45) (oi := ?on250) ?hin250 ?an250 ?bn250 ?cn250 ?qn250 (Or.inr ⟨?dn250, rfl⟩) hHeld ?restn250
        case hin250 => (simp only [List.getElem?_toArray, List.getElem?_cons_succ, List.getElem?_cons_zero]; exact rfl)
        case an250 => kernel_rfl
        case bn250 => kernel_rfl
        case cn250 => kernel_rfl
        case qn250 => exact fun _ _ _ h => h
        case dn250 => rfl
        try simp only [Act.put, List.setIfInBounds_toArray, List.set_cons_zero, List.set_cons_succ]
        refine wpAnyH_take (i := 46) (oi := ?on251) ?hin251 ?an251 ?bn251 ?cn251 ?qn251 (Or.inr ⟨?dn251, rfl⟩) hHeld ?restn251
        case hin251 => (simp only [List.getElem?_toArray, List.getElem?_cons_succ, List.getElem?_cons_zero]; exact rfl)
        case an251 => kernel_rfl
        case bn251 => kernel_rfl
        case cn251 => kernel_rfl
        case qn251 => exact fun _ _ _ h => h
        case dn251 => rfl
        try simp only [Act.put, List.setIfInBounds_toArray, List.set_cons_zero, List.set_cons_succ]
        refine wpAnyH_take (i := 47) (oi := ?on252) ?hin252 ?an252 ?bn252 ?cn252 ?qn252 (Or.inr ⟨?dn252, rfl⟩) hHeld ?restn252
        case hin252 => (simp only [List.getElem?_toArray, List.getElem?_cons_succ, List.getElem?_cons_zero]; exact rfl)
        case an252 => kernel_rfl
        case bn252 => kernel_rfl
        case cn252 => kernel_rfl
        case qn252 => exact fun _ _ _ h => h
        case dn252 => rfl
        try simp only [Act.put, List.setIfInBounds_toArray, List.set_cons_zero, List.set_cons_succ]
        refine wpAnyH_take (i := 48) (oi := ?on253) ?hin253 ?an253 ?bn253 ?cn253 ?qn253 (Or.inr ⟨?dn253, rfl⟩) hHeld ?restn253
        case hin253 => (simp only [List.getElem?_toArray, List.getElem?_cons_succ, List.getElem?_cons_zero]; exact rfl)
        case an253 => kernel_rfl
        case bn253 => kernel_rfl
        case cn253 => kernel_rfl
        case qn253 => exact fun _ _ _ h => h
        case dn253 => rfl
        try simp only [Act.put, List.setIfInBounds_toArray, List.set_cons_zero, List.set_cons_succ]
        refine wpAnyH_take (i := 49) (oi := ?on254) (v := ?vn254) ?hin254 ?an254 ?bn254 ?cn254 ?qn254 (Or.inl ⟨?dn254, ?hyn254⟩) hHeld ?restn254
        case hin254 => (simp only [List.getElem?_toArray, List.getElem?_cons_succ, List.getElem?_cons_zero]; exact rfl)
        case an254 => kernel_rfl
        case bn254 => kernel_rfl
        case cn254 => kernel_rfl
        case qn254 => exact fun _ _ _ h => h
        case dn254 => rfl
        case hyn254 => (intro z hSw; (try dsimp only at hSw); go_simp; (try with_reducible rfl))
        try simp only [Act.put, List.setIfInBounds_toArray, List.set_cons_zero, List.set_cons_succ]
        refine wpAnyH_take (i := 50) (oi := ?on255) (v := ?vn255) ?hin255 ?an255 ?bn255 ?cn255 ?qn255 (Or.inl ⟨?dn255, ?hyn255⟩) hHeld ?restn255
        case hin255 => (simp only [List.getElem?_toArray, List.getElem?_cons_succ, List.getElem?_cons_zero]; exact rfl)
        case an255 => kernel_rfl
        case bn255 => kernel_rfl
        case cn255 => kernel_rfl
        case qn255 => exact fun _ _ _ h => h
        case dn255 => rfl
        case hyn255 => (intro z hSw; (try dsimp only at hSw); go_simp; (try with_reducible rfl))
        try simp only [Act.put, List.setIfInBounds_toArray, List.set_cons_zero, List.set_cons_succ]
        refine wpAnyH_done (by kernel_rfl) ?_ _
        go_wp2_with fail
        go_ret
        exact ⟨rfl, gk4⟩
    · rw [dcd_false (fun h => h1 (h.2.1))]
      rw [dcd_false h1] at KS0
      replace KS0 := Lib.hid KS0
      replace KS1 := Lib.hid KS1
      replace KS2 := Lib.hid KS2
      clear h0 h1
      go_enter Tryz.func82, Tryz.ntmps82
      go_wp2_with fail
      refine (KP.out _).mono ?_
      rintro e w1 ⟨rfl, hg1⟩
      have g1 := hal.trans hg1
      have hm1 := hg1
      have r1 := Grew.refl w1
      have d1 := r1.drew
      have gd := g1.trans d1
      have e0 := fun W (hW : Grew w1 W) => f0 W (hg1.trans hW)
      have e2 := fun W (hW : Grew w1 W) => f2 W (hg1.trans hW)
      have e3 := fun W (hW : Grew w1 W) => f3 W (hg1.trans hW)
      have p0a := fun W (hW : Grew w1 W) => q0a W (g1.trans hW)
      have p0c := fun W (hW : Grew w1 W) => q0c W (g1.trans hW)
      have p1a := fun W (hW : Grew w1 W) => q1a W (g1.trans hW)
      have p1c := fun W (hW : Grew w1 W) => q1c W (g1.trans hW)
      have p2a := fun W (hW : Grew w1 W) => q2a W (g1.trans hW)
      have p2c := fun W (hW : Grew w1 W) => q2c W (g1.trans hW)
      clear f0 f2 f3 q0a q0c q1a q1c q2a q2c
      go_wp2_with fail
      refine wp_region_held_drew (S := fun w' => Grew w1 w') (by kernel_rfl) d1 (fun hHeld => ?_)
      refine wpAnyH_take (i := 0) (oi := ?on256) (v := ?vn256) ?hin256 ?an256 ?bn256 ?cn256 ?qn256 (Or.inl ⟨?dn256, ?hyn256⟩) hHeld ?restn256
      case hin256 => (simp only [List.getElem?_toArray, List.getElem?_cons_succ, List.getElem?_cons_zero]; exact rfl)
      case an256 => kernel_rfl
      case bn256 => kernel_rfl
      case cn256 => kernel_rfl
      case qn256 => exact fun _ _ _ h => h
      case dn256 => rfl
      case hyn256 => (intro z hSw; (try dsimp only at hSw); go_simp; (try with_reducible rfl))
      try simp only [Act.put, List.setIfInBounds_toArray, List.set_cons_zero, List.set_cons_succ]
      refine wpAnyH_take (i := 1) (oi := ?on257) (v := ?vn257) ?hin257 ?an257 ?bn257 ?cn257 ?qn257 (Or.inl ⟨?dn257, ?hyn257⟩) hHeld ?restn257
      case hin257 => (simp only [List.getElem?_toArray, List.getElem?_cons_succ, List.getElem?_cons_zero]; exact rfl)
      case an257 => kernel_rfl
      case bn257 => kernel_rfl
      case cn257 => kernel_rfl
      case qn257 => exact fun _ _ _ h => h
      case dn257 => rfl
      case hyn257 => (intro z hSw; (try dsimp only at hSw); go_simp; (try with_reducible rfl))
      try simp only [Act.put, List.setIfInBounds_toArray, List.set_cons_zero, List.set_cons_succ]
      refine wpAnyH_take (i := 2) (oi := ?on258) (v := ?vn258) ?hin258 ?an258 ?bn258 ?cn258 ?qn258 (Or.inl ⟨?dn258, ?hyn258⟩) hHeld ?restn258
      case hin258 => (simp only [List.getElem?_toArray, List.getElem?_cons_succ, List.getElem?_cons_zero]; exact rfl)
      case an258 => kernel_rfl
      case bn258 => kernel_rfl
      case cn258 => kernel_rfl
      case qn258 => exact fun _ _ _ h => h
      case dn258 => rfl
      case hyn258 => (intro z hSw; (try dsimp only at hSw); go_simp; (try with_reducible rfl))
      try simp only [Act.put, List.setIfInBounds_toArray, List.set_cons_zero, List.set_cons_succ]
      refine wpAnyH_take (i := 3) (oi := ?on259) (v := ?vn259) ?hin259 ?an259 ?bn259 ?cn259 ?qn259 (Or.inl ⟨?dn259, ?hyn259⟩) hHeld ?restn259
      case hin259 => (simp only [List.getElem?_toArray, List.getElem?_cons_succ, List.getElem?_cons_zero]; exact rfl)
      case an259 => kernel_rfl
      case bn259 => kernel_rfl
      case cn259 => kernel_rfl
      case qn259 => exact fun _ _ _ h => h
      case dn259 => rfl
      case hyn259 => (intro z hSw; (try dsimp only at hSw); go_simp; (try with_reducible rfl))
      try simp only [Act.put, List.setIfInBounds_toArray, List.set_cons_zero, List.set_cons_succ]
      refine wpAnyH_take (i := 4) (oi := ?on260) (v := ?vn260) ?hin260 ?an260 ?bn260 ?cn260 ?qn260 (Or.inl ⟨?dn260, ?hyn260⟩) hHeld ?restn260
      case hin260 => (simp only [List.getElem?_toArray, List.getElem?_cons_succ, List.getElem?_cons_zero]; exact rfl)
      case an260 => kernel_rfl
      case bn260 => kernel_rfl
      case cn260 => kernel_rfl
      case qn260 => exact fun _ _ _ h => h
      case dn260 => rfl
      case hyn260 => (intro z hSw; (try dsimp only at hSw); go_simp; (try with_reducible rfl))
      try simp only [Act.put, List.setIfInBounds_toArray, List.set_cons_zero, List.set_cons_succ]
      refine wpAnyH_take (i := 5) (oi := ?on261) (v := ?vn261) ?hin261 ?an261 ?bn261 ?cn261 ?qn261 (Or.inl ⟨?dn261, ?hyn261⟩) hHeld ?restn261
      case hin261 => (simp only [List.getElem?_toArray, List.getElem?_cons_succ, List.getElem?_cons_zero]; exact rfl)
      case an261 => kernel_rfl
      case bn261 => kernel_rfl
      case cn261 => kernel_rfl
      case qn261 => exact fun _ _ _ h => h
      case dn261 => rfl
      case hyn261 => (intro z hSw; (try dsimp only at hSw); go_simp; (try with_reducible rfl))
      try simp only [Act.put, List.setIfInBounds_toArray, List.set_cons_zero, List.set_cons_succ]
      refine wpAnyH_take (i := 6) (oi := ?on262) (v := ?vn262) ?hin262 ?an262 ?bn262 ?cn262 ?qn262 (Or.inl ⟨?dn262, ?hyn262⟩) hHeld ?restn262
      case hin262 => (simp only [List.getElem?_toArray, List.getElem?_cons_succ, List.getElem?_cons_zero]; exact rfl)
      case an262 => kernel_rfl
      case bn262 => kernel_rfl
      case cn262 => kernel_rfl
      case qn262 => exact fun _ _ _ h => h
      case dn262 => rfl
      case hyn262 => (intro z hSw; (try dsimp only at hSw); go_simp; (try with_reducible rfl))
      try simp only [Act.put, List.setIfInBounds_toArray, List.set_cons_zero, List.set_cons_succ]
      refine wpAnyH_take (i := 7) (oi := ?on263) (v := ?vn263) ?hin263 ?an263 ?bn263 ?cn263 ?qn263 (Or.inl ⟨?dn263, ?hyn263⟩) hHeld ?restn263
      case hin263 => (simp only [List.getElem?_toArray, List.getElem?_cons_succ, List.getElem?_cons_zero]; exact rfl)
      case an263 => kernel_rfl
      case bn263 => kernel_rfl
      case cn263 => kernel_rfl
      case qn263 => exact fun _ _ _ h => h
      case dn263 => rfl
      case hyn263 => (intro z hSw; (try dsimp only at hSw); go_simp; (try with_reducible rfl))
      try simp only [Act.put, List.setIfInBounds_toArray, List.set_cons_zero, List.set_cons_succ]
      refine wpAnyH_ready (rs := [8]) (by kernel_rfl) (by simp) ?_
      refine AllReadyH.cons (o := ?on264) ?hin264 ?restn264 AllReadyH.nil
      case hin264 => (simp only [List.getElem?_toArray, List.getElem?_cons_succ, List.getElem?_cons_zero]; exact rfl)
      intro K hK
      go_simp
      go_at_call 100
      refine (KS0.out _ (by first | with_reducible assumption | exact Grew.alloc (by with_reducible assumption) _ | exact Grew.drew (Grew.alloc (by with_reducible assumption) _))).mono ?_
      rintro e w3 ⟨rfl, hq3⟩
      have hh3 := hq3.grew
      have gk3 : Grew w w3 := Grew.trans (by first | with_reducible assumption | exact Grew.alloc (by with_reducible assumption) _ | exact Grew.drew (Grew.alloc (by with_reducible assumption) _)) hh3
      have mk3 : Grew w1 w3 := Grew.trans (by first | with_reducible assumption | exact Grew.alloc (by with_reducible assumption) _ | exact Grew.drew (Grew.alloc (by with_reducible assumption) _)) hh3
      refine hK.out _ _ ?_ (fun hHeld => ?_)
      · (try dsimp only); first | with_reducible assumption | exact Grew.alloc ‹_› _
      clear hK K
      try simp only [Act.put, List.setIfInBounds_toArray, List.set_cons_zero, List.set_cons_succ]
      refine wpAnyH_take (i := 9) (oi := ?on265) (v := ?vn265) ?hin265 ?an265 ?bn265 ?cn265 ?qn265 (Or.inl ⟨?dn265, ?hyn265⟩) hHeld ?restn265
      case hin265 => (simp only [List.getElem?_toArray, List.getElem?_cons_succ, List.getElem?_cons_zero]; exact rfl)
      case an265 => kernel_rfl
      case bn265 => kernel_rfl
      case cn265 => kernel_rfl
      case qn265 => exact fun _ _ _ h => h
      case dn265 => rfl
      case hyn265 => (intro z hSw; (try dsimp only at hSw); go_simp; (try with_reducible rfl))
      try simp only [Act.put, List.setIfInBounds_toArray, List.set_cons_zero, List.set_cons_succ]
      refine wpAnyH_take (i := 10) (oi := ?on266) (v := ?vn266) ?hin266 ?an266 ?bn266 ?cn266 ?qn266 (Or.inl ⟨?dn266, ?hyn266⟩) hHeld ?restn266
      case hin266 => (simp only [List.getElem?_toArray, List.getElem?_cons_succ, List.getElem?_cons_zero]; exact rfl)
      case an266 => kernel_rfl
      case bn266 => kernel_rfl
      case cn266 => kernel_rfl
      case qn266 => exact fun _ _ _ h => h
      case dn266 => rfl
      case hyn266 => (intro z hSw; (try dsimp only at hSw); go_simp; (try with_reducible rfl))
      try simp only [Act.put, List.setIfInBounds_toArray, List.set_cons_zero, List.set_cons_succ]
      refine wpAnyH_take (i := 11) (oi := ?on267) ?hin267 ?an267 ?bn267 ?cn267 ?qn267 (Or.inr ⟨?dn267, rfl⟩) hHeld ?restn267
      case hin267 => (simp only [List.getElem?_toArray, List.getElem?_cons_succ, List.getElem?_cons_zero]; exact rfl)
      case an267 => kernel_rfl
      case bn267 => kernel_rfl
      case cn267 => kernel_rfl
      case qn267 => exact fun _ _ _ h => h
      case dn267 => rfl
      try simp only [Act.put, List.setIfInBounds_toArray, List.set_cons_zero, List.set_cons_succ]
      refine wpAnyH_take (i := 12) (oi := ?on268) ?hin268 ?an268 ?bn268 ?cn268 ?qn268 (Or.inr ⟨?dn268, rfl⟩) hHeld ?restn268
      case hin268 => (simp only [List.getElem?_toArray, List.getElem?_cons_succ, List.getElem?_cons_zero]; exact rfl)
      case an268 => kernel_rfl
      case bn268 => kernel_rfl
      case cn268 => kernel_rfl
      case qn268 => exact fun _ _ _ h => h
      case dn268 => rfl
      try simp only [Act.put, List.setIfInBounds_toArray, List.set_cons_zero, List.set_cons_succ]
      refine wpAnyH_take (i := 13) (oi := ?on269) ?hin269 ?an269 ?bn269 ?cn269 ?qn269 (Or.inr ⟨?dn269, rfl⟩) hHeld ?restn269
      case hin269 => (simp only [List.getElem?_toArray, List.getElem?_cons_succ, List.getElem?_cons_zero]; exact rfl)
      case an269 => kernel_rfl
      case bn269 => kernel_rfl
      case cn269 => kernel_rfl
      case qn269 => exact fun _ _ _ h => h
      case dn269 => rfl
      try simp only [Act.put, List.setIfInBounds_toArray, List.set_cons_zero, List.set_cons_succ]
      refine wpAnyH_take (i := 14) (oi := ?on270) ?hin270 ?an270 ?bn270 ?cn270 ?qn270 (Or.inr ⟨?dn270, rfl⟩) hHeld ?restn270
      case hin270 => (simp only [List.getElem?_toArray, List.getElem?_cons_succ, List.getElem?_cons_zero]; exact rfl)
      case an270 => kernel_rfl
      case bn270 => kernel_rfl
      case cn270 => kernel_rfl
      case qn270 => exact fun _ _ _ h => h
      case dn270 => rfl
      try simp only [Act.put, List.setIfInBounds_toArray, List.set_cons_zero, List.set_cons_succ]
      refine wpAnyH_take (i := 15) (oi := ?on271) ?hin271 ?an271 ?bn271 ?cn271 ?qn271 (Or.inr ⟨?dn271, rfl⟩) hHeld ?restn271
      case hin271 => (simp only [List.getElem?_toArray, List.getElem?_cons_succ, List.getElem?_cons_zero]; exact rfl)
      case an271 => kernel_rfl
      case bn271 => kernel_rfl
      case cn271 => kernel_rfl
      case qn271 => exact fun _ _ _ h => h
      case dn271 => rfl
      try simp only [Act.put, List.setIfInBounds_toArray, List.set_cons_zero, List.set_cons_succ]
      refine wpAnyH_take (i := 16) (oi := ?on272) ?hin272 ?an272 ?bn272 ?cn272 ?qn272 (Or.inr ⟨?dn272, rfl⟩) hHeld ?restn272
      case hin272 => (simp only [List.getElem?_toArray, List.getElem?_cons_succ, List.getElem?_cons_zero]; exact rfl)
      case an272 => kernel_rfl
      case bn272 => kernel_rfl
      case cn272 => kernel_rfl
      case qn272 => exact fun _ _ _ h => h
      case dn272 => rfl
      try simp only [Act.put, List.setIfInBounds_toArray, List.set_cons_zero, List.set_cons_succ]
      refine wpAnyH_take (i := 17) (oi := ?on273) ?hin273 ?an273 ?bn273 ?cn273 ?qn273 (Or.inr ⟨?dn273, rfl⟩) hHeld ?restn273
      case hin273 => (simp only [List.getElem?_toArray, List.getElem?_cons_succ, List.getElem?_cons_zero]; exact rfl)
      case an273 => kernel_rfl
      case bn273 => kernel_rfl
      case cn273 => kernel_rfl
      case qn273 => exact fun _ _ _ h => h
      case dn273 => rfl
      try simp only [Act.put, List.setIfInBounds_toArray, List.set_cons_zero, List.set_cons_succ]
      refine wpAnyH_take (i := 18) (oi := ?on274) ?hin274 ?an274 ?bn274 ?cn274 ?qn274 (Or.inr ⟨?dn274, rfl⟩) hHeld ?restn274
      case hin274 => (simp only [List.getElem?_toArray, List.getElem?_cons_succ, List.getElem?_cons_zero]; exact rfl)
      case an274 => kernel_rfl
      case bn274 => kernel_rfl
      case cn274 => kernel_rfl
      case qn274 => exact fun _ _ _ h => h
      case dn274 => rfl
      try simp only [Act.put, List.setIfInBounds_toArray, List.set_cons_zero, List.set_cons_succ]
      refine wpAnyH_take (i := 19) (oi := ?on275) ?hin275 ?an275 ?bn275 ?cn275 ?qn275 (Or.inr ⟨?dn275, rfl⟩) hHeld ?restn275
      case hin275 => (simp only [List.getElem?_toArray, List.getElem?_cons_succ, List.getElem?_cons_zero]; exact rfl)
      case an275 => kernel_rfl
      case bn275 => kernel_rfl
      case cn275 => kernel_rfl
      case qn275 => exact fun _ _ _ h => h
      case dn275 => rfl
      try simp only [Act.put, List.setIfInBounds_toArray, List.set_cons_zero, List.set_cons_succ]
      refine wpAnyH_take (i := 20) (oi := ?on276) ?hin276 ?an276 ?bn276 ?cn276 ?qn276 (Or.inr ⟨?dn276, rfl⟩) hHeld ?restn276
      case hin276 => (simp only [List.getElem?_toArray, List.getElem?_cons_succ, List.getElem?_cons_zero]; exact rfl)
      case an276 => kernel_rfl
      case bn276 => kernel_rfl
      case cn276 => kernel_rfl
      case qn276 => exact fun _ _ _ h => h
      case dn276 => rfl
      try simp only [Act.put, List.setIfInBounds_toArray, List.set_cons_zero, List.set_cons_succ]
      refine wpAnyH_take (i := 21) (oi := ?on277) (v := ?vn277) ?hin277 ?an277 ?bn277 ?cn277 ?qn277 (Or.inl ⟨?dn277, ?hyn277⟩) hHeld ?restn277
      case hin277 => (simp only [List.getElem?_toArray, List.getElem?_cons_succ, List.getElem?_cons_zero]; exact rfl)
      case an277 => kernel_rfl
      case bn277 => kernel_rfl
      case cn277 => kernel_rfl
      case qn277 => exact fun _ _ _ h => h
      case dn277 => rfl
      case hyn277 => (intro z hSw; (try dsimp only at hSw); go_simp; (try with_reducible rfl))
      try simp only [Act.put, List.setIfInBounds_toArray, List.set_cons_zero, List.set_cons_succ]
      refine wpAnyH_take (i := 22) (oi := ?on278) (v := ?vn278) ?hin278 ?an278 ?bn278 ?cn278 ?qn278 (Or.inl ⟨?dn278, ?hyn278⟩) hHeld ?restn278
      case hin278 => (simp only [List.getElem?_toArray, List.getElem?_cons_succ, List.getElem?_cons_zero]; exact rfl)
      case an278 => kernel_rfl
      case bn278 => kernel_rfl
      case cn278 => kernel_rfl
      case qn278 => exact fun _ _ _ h => h
      case dn278 => rfl
      case hyn278 => (intro z hSw; (try dsimp only at hSw); go_simp; (try with_reducible rfl))
      try simp only [Act.put, List.setIfInBounds_toArray, List.set_cons_zero, List.set_cons_succ]
      refine wpAnyH_take (i := 23) (oi := ?on279) ?hin279 ?an279 ?bn279 ?cn279 ?qn279 (Or.inr ⟨?dn279, rfl⟩) hHeld ?restn279
      case hin279 => (simp only [List.getElem?_toArray, List.getElem?_cons_succ, List.getElem?_cons_zero]; exact rfl)
      case an279 => kernel_rfl
      case bn279 => kernel_rfl
      case cn279 => kernel_rfl
      case qn279 => exact fun _ _ _ h => h
      case dn279 => rfl
      try simp only [Act.put, List.setIfInBounds_toArray, List.set_cons_zero, List.set_cons_succ]
      refine wpAnyH_take (i := 24) (oi := ?on280) ?hin280 ?an280 ?bn280 ?cn280 ?qn280 (Or.inr ⟨?dn280, rfl⟩) hHeld ?restn280
      case hin280 => (simp only [List.getElem?_toArray, List.getElem?_cons_succ, List.getElem?_cons_zero]; exact rfl)
      case an280 => kernel_rfl
      case bn280 => kernel_rfl
      case cn280 => kernel_rfl
      case qn280 => exact fun _ _ _ h => h
      case dn280 => rfl
      try simp only [Act.put, List.setIfInBounds_toArray, List.set_cons_zero, List.set_cons_succ]
      refine wpAnyH_take (i := 25) (oi := ?on281) ?hin281 ?an281 ?bn281 ?cn281 ?qn281 (Or.inr ⟨?dn281, rfl⟩) hHeld ?restn281
      case hin281 => (simp only [List.getElem?_toArray, List.getElem?_cons_succ, List.getElem?_cons_zero]; exact rfl)
      case an281 => kernel_rfl
      case bn281 => kernel_rfl
      case cn281 => kernel_rfl
      case qn281 => exact fun _ _ _ h => h
      case dn281 => rfl
      try simp only [Act.put, List.setIfInBounds_toArray, List.set_cons_zero, List.set_cons_succ]
      refine wpAnyH_take (i := 26) (oi := ?on282) ?hin282 ?an282 ?bn282 ?cn282 ?qn282 (Or.inr ⟨?dn282, rfl⟩) hHeld ?restn282
      case hin282 => (simp only [List.getElem?_toArray, List.getElem?_cons_succ, List.getElem?_cons_zero]; exact rfl)
      case an282 => kernel_rfl
      case bn282 => kernel_rfl
      case cn282 => kernel_rfl
      case qn282 => exact fun _ _ _ h => h
      case dn282 => rfl
      try simp only [Act.put, List.setIfInBounds_toArray, List.set_cons_zero, List.set_cons_succ]
      refine wpAnyH_take (i := 27) (oi := ?on283) ?hin283 ?an283 ?bn283 ?cn283 ?qn283 (Or.inr ⟨?dn283, rfl⟩) hHeld ?restn283
      case hin283 => (simp only [List.getElem?_toArray, List.getElem?_cons_succ, List.getElem?_cons_zero]; exact rfl)
      case an283 => kernel_rfl
      case bn283 => kernel_rfl
      case cn283 => kernel_rfl
      case qn283 => exact fun _ _ _ h => h
      case dn283 => rfl
      try simp only [Act.put, List.setIfInBounds_toArray, List.set_cons_zero, List.set_cons_succ]
      refine wpAnyH_take (i := 28) (oi := ?on284) ?hin284 ?an284 ?bn284 ?cn284 ?qn284 (Or.inr ⟨?dn284, rfl⟩) hHeld ?restn284
      case hin284 => (simp only [List.getElem?_toArray, List.getElem?_cons_succ, List.getElem?_cons_zero]; exact rfl)
      case an284 => kernel_rfl
      case bn284 => kernel_rfl
      case cn284 => kernel_rfl
      case qn284 => exact fun _ _ _ h => h
      case dn284 => rfl
      try simp only [Act.put, List.setIfInBounds_toArray, List.set_cons_zero, List.set_cons_succ]
      refine wpAnyH_take (i := 29) (oi := ?on285) ?hin285 ?an285 ?bn285 ?cn285 ?qn285 (Or.inr ⟨?dn285, rfl⟩) hHeld ?restn285
      case hin285 => (simp only [List.getElem?_toArray, List.getElem?_cons_succ, List.getElem?_cons_zero]; exact rfl)
      case an285 => kernel_rfl
      case bn285 => kernel_rfl
      case cn285 => kernel_rfl
      case qn285 => exact fun _ _ _ h => h
      case dn285 => rfl
      try simp only [Act.put, List.setIfInBounds_toArray, List.set_cons_zero, List.set_cons_succ]
      refine wpAnyH_take (i := 30) (oi := ?on286) ?hin286 ?an286 ?bn286 ?cn286 ?qn286 (Or.inr ⟨?dn286, rfl⟩) hHeld ?restn286
      case hin286 => (simp only [List.getElem?_toArray, List.getElem?_cons_succ, List.getElem?_cons_zero]; exact rfl)
      case an286 => kernel_rfl
      case bn286 => kernel_rfl
      case cn286 => kernel_rfl
      case qn286 => exact fun _ _ _ h => h
      case dn286 => rfl
      try simp only [Act.put, List.setIfInBounds_toArray, List.set_cons_zero, List.set_cons_succ]
      refine wpAnyH_take (i := 31) (oi := ?on287) ?hin287 ?an287 ?bn287 ?cn287 ?qn287 (Or.inr ⟨?dn287, rfl⟩) hHeld ?restn287
      case hin287 => (simp only [List.getElem?_toArray, List.getElem?_cons_succ, List.getElem?_cons_zero]; exact rfl)
      case an287 => kernel_rfl
      case bn287 => kernel_rfl
      case cn287 => kernel_rfl
      case qn287 => exact fun _ _ _ h => h
      case dn287 => rfl
      try simp only [Act.put, List.setIfInBounds_toArray, List.set_cons_zero, List.set_cons_succ]
      refine wpAnyH_take (i := 32) (oi := ?on288) ?hin288 ?an288 ?bn288 ?cn288 ?qn288 (Or.inr ⟨?dn288, rfl⟩) hHeld ?restn288
      case hin288 => (simp only [List.getElem?_toArray, List.getElem?_cons_succ, List.getElem?_cons_zero]; exact rfl)
      case an288 => kernel_rfl
      case bn288 => kernel_rfl
      case cn288 => kernel_rfl
      case qn288 => exact fun _ _ _ h => h
      case dn288 => rfl
      try simp only [Act.put, List.setIfInBounds_toArray, List.set_cons_zero, List.set_cons_succ]
      refine wpAnyH_take (i := 33) (oi := ?on289) (v := ?vn289) ?hin289 ?an289 ?bn289 ?cn289 ?qn289 (Or.inl ⟨?dn289, ?hyn289⟩) hHeld ?restn289
      case hin289 => (simp only [List.getElem?_toArray, List.getElem?_cons_succ, List.getElem?_cons_zero]; exact rfl)
      case an289 => kernel_rfl
      case bn289 => kernel_rfl
      case cn289 => kernel_rfl
      case qn289 => exact fun _ _ _ h => h
      case dn289 => rfl
      case hyn289 => (intro z hSw; (try dsimp only at hSw); go_simp; (try with_reducible rfl))
      try simp only [Act.put, List.setIfInBounds_toArray, List.set_cons_zero, List.set_cons_succ]
      refine wpAnyH_take (i := 34) (oi := ?on290) (v := ?vn290) ?hin290 ?an290 ?bn290 ?cn290 ?qn290 (Or.inl ⟨?dn290, ?hyn290⟩) hHeld ?restn290
      case hin290 => (simp only [List.getElem?_toArray, List.getElem?_cons_succ, List.getElem?_cons_zero]; exact rfl)
      case an290 => kernel_rfl
      case bn290 => kernel_rfl
      case cn290 => kernel_rfl
      case qn290 => exact fun _ _ _ h => h
      case dn290 => rfl
      case hyn290 => (intro z hSw; (try dsimp only at hSw); go_simp; (try with_reducible rfl))
      try simp only [Act.put, List.setIfInBounds_toArray, List.set_cons_zero, List.set_cons_succ]
      refine wpAnyH_take (i := 35) (oi := ?on291) ?hin291 ?an291 ?bn291 ?cn291 ?qn291 (Or.inr ⟨?dn291, rfl⟩) hHeld ?restn291
      case hin291 => (simp only [List.getElem?_toArray, List.getElem?_cons_succ, List.getElem?_cons_zero]; exact rfl)
      case an291 => kernel_rfl
      case bn291 => kernel_rfl
      case cn291 => kernel_rfl
      case qn291 => exact fun _ _ _ h => h
      case dn291 => rfl
      try simp only [Act.put, List.setIfInBounds_toArray, List.set_cons_zero, List.set_cons_succ]
      refine wpAnyH_take (i := 36) (oi := ?on292) ?hin292 ?an292 ?bn292 ?cn292 ?qn292 (Or.inr ⟨?dn292, rfl⟩) hHeld ?restn292
      case hin292 => (simp only [List.getElem?_toArray, List.getElem?_cons_succ, List.getElem?_cons_zero]; exact rfl)
      case an292 => kernel_rfl
      case bn292 => kernel_rfl
      case cn292 => kernel_rfl
      case qn292 => exact fun _ _ _ h => h
      case dn292 => rfl
      try simp only [Act.put, List.setIfInBounds_toArray, List.set_cons_zero, List.set_cons_succ]
      refine wpAnyH_take (i := 37) (oi := ?on293) ?hin293 ?an293 ?bn293 ?cn293 ?qn293 (Or.inr ⟨?dn293, rfl⟩) hHeld ?restn293
      case hin293 => (simp only [List.getElem?_toArray, List.getElem?_cons_succ, List.getElem?_cons_zero]; exact rfl)
      case an293 => kernel_rfl
      case bn293 => kernel_rfl
      case cn293 => kernel_rfl
      case qn293 => exact fun _ _ _ h => h
      case dn293 => rfl
      try simp only [Act.put, List.setIfInBounds_toArray, List.set_cons_zero, List.set_cons_succ]
      refine wpAnyH_take (i := 38) (oi := ?on294) ?hin294 ?an294 ?bn294 ?cn294 ?qn294 (Or.inr ⟨?dn294, rfl⟩) hHeld ?restn294
      case hin294 => (simp only [List.getElem?_toArray, List.getElem?_cons_succ, List.getElem?_cons_zero]; exact rfl)
      case an294 => kernel_rfl
      case bn294 => kernel_rfl
      case cn294 => kernel_rfl
      case qn294 => exact fun _ _ _ h => h
      case dn294 => rfl
      try simp only [Act.put, List.setIfInBounds_toArray, List.set_cons_zero, List.set_cons_succ]
      refine wpAnyH_take (i := 39) (oi := ?on295) ?hin295 ?an295 ?bn295 ?cn295 ?qn295 (Or.inr ⟨?dn295, rfl⟩) hHeld ?restn295
      case hin295 => (simp only [List.getElem?_toArray, List.getElem?_cons_succ, List.getElem?_cons_zero]; exact rfl)
      case an295 => kernel_rfl
      case bn295 => kernel_rfl
      case cn295 => kernel_rfl
      case qn295 => exact fun _ _ _ h => h
      case dn295 => rfl
      try simp only [Act.put, List.setIfInBounds_toArray, List.set_cons_zero, List.set_cons_succ]
      refine wpAnyH_take (i := 40) (oi := ?on296) ?hin296 ?an296 ?bn296 ?cn296 ?qn296 (Or.inr ⟨?dn296, rfl⟩) hHeld ?restn296
      case hin296 => (simp only [List.getElem?_toArray, List.getElem?_cons_succ, List.getElem?_cons_zero]; exact rfl)
      case an296 => kernel_rfl
      case bn296 => kernel_rfl
      case cn296 => kernel_rfl
      case qn296 => exact fun _ _ _ h => h
      case dn296 => rfl
      try simp only [Act.put, List.setIfInBounds_toArray, List.set_cons_zero, List.set_cons_succ]
      refine wpAnyH_take (i := 41) (oi := ?on297) (v := ?vn297) ?hin297 ?an297 ?bn297 ?cn297 ?qn297 (Or.inl ⟨?dn297, ?hyn297⟩) hHeld ?restn297
      case hin297 => (simp only [List.getElem?_toArray, List.getElem?_cons_succ, List.getElem?_cons_zero]; exact rfl)
      case an297 => kernel_rfl
      case bn297 => kernel_rfl
      case cn297 => kernel_rfl
      case qn297 => exact fun _ _ _ h => h
      case dn297 => rfl
      case hyn297 => (intro z hSw; (try dsimp only at hSw); go_simp; (try with_reducible rfl))
      try simp only [Act.put, List.setIfInBounds_toArray, List.set_cons_zero, List.set_cons_succ]
      refine wpAnyH_take (i := 42) (oi := ?on298) (v := ?vn298) ?hin298 ?an298 ?bn298 ?cn298 ?qn298 (Or.inl ⟨?dn298, ?hyn298⟩) hHeld ?restn298
      case hin298 => (simp only [List.getElem?_toArray, List.getElem?_cons_succ, List.getElem?_cons_zero]; exact rfl)
      case an298 => kernel_rfl
      case bn298 => kernel_rfl
      case cn298 => kernel_rfl
      case qn298 => exact fun _ _ _ h => h
      case dn298 => rfl
      case hyn298 => (intro z hSw; (try dsimp only at hSw); go_simp; (try with_reducible rfl))
      try simp only [Act.put, List.setIfInBounds_toArray, List.set_cons_zero, List.set_cons_succ]
      refine wpAnyH_take (i := 43) (oi := ?on299) ?hin299 ?an299 ?bn299 ?cn299 ?qn299 (Or.inr ⟨?dn299, rfl⟩) hHeld ?restn299
      case hin299 => (simp only [List.getElem?_toArray, List.getElem?_cons_succ, List.getElem?_cons_zero]; exact rfl)
      case an299 => kernel_rfl
      case bn299 => kernel_rfl
      case cn299 => kernel_rfl
      case qn299 => exact fun _ _ _ h => h
      case dn299 => rfl
      try simp only [Act.put, List.setIfInBounds_toArray, List.set_cons_zero, List.set_cons_succ]
      refine wpAnyH_take (i := 44) (oi := ?on300) ?hin300 ?an300 ?bn300 ?cn300 ?qn300 (Or.inr ⟨?dn300, rfl⟩) hHeld ?restn300
      case hin300 => (simp only [List.getElem?_toArray, List.getElem?_cons_succ, List.getElem?_cons_zero]; exact rfl)
      case an300 => kernel_rfl
      case bn300 => kernel_rfl
      case cn300 => kernel_rfl
      case qn300 => exact fun _ _ _ h => h
      case dn300 => rfl
      try simp only [Act.put, List.setIfInBounds_toArray, List.set_cons_zero, List.set_cons_succ]
      refine wpAnyH_take (i := 45) (oi := ?on301) ?hin301 ?an301 ?bn301 ?cn301 ?qn301 (Or.inr ⟨?dn301, rfl⟩) hHeld ?restn301
      case hin301 => (simp only [List.getElem?_toArray, List.getElem?_cons_succ, List.getElem?_cons_zero]; exact rfl)
      case an301 => kernel_rfl
      case bn301 => kernel_rfl
      case cn301 => kernel_rfl
      case qn301 => exact fun _ _ _ h => h
      case dn301 => rfl
      try simp only [Act.put, List.setIfInBounds_toArray, List.set_cons_zero, List.set_cons_succ]
      refine wpAnyH_take (i := 46) (oi := ?on302) ?hin302 ?an302 ?bn302 ?cn302 ?qn302 (Or.inr ⟨?dn302, rfl⟩) hHeld ?restn302
      case hin302 => (simp only [List.getElem?_toArray, List.getElem?_cons_succ, List.getElem?_cons_zero]; exact rfl)
      case an302 => kernel_rfl
      case bn302 => kernel_rfl
      case cn302 => kernel_rfl
      case qn302 => exact fun _ _ _ h => h
      case dn302 => rfl
      try simp only [Act.put, List.setIfInBounds_toArray, List.set_cons_zero, List.set_cons_succ]
      refine wpAnyH_take (i := 47) (oi := ?on303) ?hin303 ?an303 ?bn303 ?cn303 ?qn303 (Or.inr ⟨?dn303, rfl⟩) hHeld ?restn303
      case hin303 => (simp only [List.getElem?_toArray, List.getElem?_cons_succ, List.getElem?_cons_zero]; exact rfl)
      case an303 => kernel_rfl
      case bn303 => kernel_rfl
      case cn303 => kernel_rfl
      case qn303 => exact fun _ _ _ h => h
      case dn303 => rfl
      try simp only [Act.put, List.setIfInBounds_toArray, List.set_cons_zero, List.set_cons_succ]
      refine wpAnyH_take (i := 48) (oi := ?on304) ?hin304 ?an304 ?bn304 ?cn304 ?qn304 (Or.inr ⟨?dn304, rfl⟩) hHeld ?restn304
      case hin304 => (simp only [List.getElem?_toArray, List.getElem?_cons_succ, List.getElem?_cons_zero]; exact rfl)
      case an304 => kernel_rfl
      case bn304 => kernel_rfl
      case cn304 => kernel_rfl
      case qn304 => exact fun _ _ _ h => h
      case dn304 => rfl
      try simp only [Act.put, List.setIfInBounds_toArray, List.set_cons_zero, List.set_cons_succ]
      refine wpAnyH_take (i := 49) (oi := ?on305) (v := ?vn305) ?hin305 ?an305 ?bn305 ?cn305 ?qn305 (Or.inl ⟨?dn305, ?hyn305⟩) hHeld ?restn305
      case hin305 => (simp only [List.getElem?_toArray, List.getElem?_cons_succ, List.getElem?_cons_zero]; exact rfl)
      case an305 => kernel_rfl
      case bn305 => kernel_rfl
      case cn305 => kernel_rfl
      case qn305 => exact fun _ _ _ h => h
      case dn305 => rfl
      case hyn305 => (intro z hSw; (try dsimp only at hSw); go_simp; (try with_reducible rfl))
      try simp only [Act.put, List.setIfInBounds_toArray, List.set_cons_zero, List.set_cons_succ]
      refine wpAnyH_take (i := 50) (oi := ?on306) (v := ?vn306) ?hin306 ?an306 ?bn306 ?cn306 ?qn306 (Or.inl ⟨?dn306, ?hyn306⟩) hHeld ?restn306
      case hin306 => (simp only [List.getElem?_toArray, List.getElem?_cons_succ, List.getElem?_cons_zero]; exact rfl)
      case an306 => kernel_rfl
      case bn306 => kernel_rfl
      case cn306 => kernel_rfl
      case qn306 => exact fun _ _ _ h => h
      case dn306 => rfl
      case hyn306 => (intro z hSw; (try dsimp only at hSw); go_simp; (try with_reducible rfl))
      try simp only [Act.put, List.setIfInBounds_toArray, List.set_cons_zero, List.set_cons_succ]
      refine wpAnyH_done (by kernel_rfl) ?_ _
      go_wp2_with fail
      go_ret
      exact ⟨rfl, gk3⟩
  · rw [dcd_false (fun h => h0 (h.1))]
    have KP := Lib.hid (fun W => lp_no 3 C0 W hg0 h0)
    replace KS0 := Lib.hid KS0
    replace KS1 := Lib.hid KS1
    replace KS2 := Lib.hid KS2
    clear h0
    go_enter Tryz.func82, Tryz.ntmps82
    go_wp2_with fail
    refine (KP.out _).mono ?_
    rintro e w1 ⟨rfl, hg1⟩
    have g1 := hal.trans hg1
    have hm1 := hg1
    have r1 := Grew.refl w1
    have d1 := r1.drew
    have gd := g1.trans d1
    have e0 := fun W (hW : Grew w1 W) => f0 W (hg1.trans hW)
    have e2 := fun W (hW : Grew w1 W) => f2 W (hg1.trans hW)
    have e3 := fun W (hW : Grew w1 W) => f3 W (hg1.trans hW)
    have p0a := fun W (hW : Grew w1 W) => q0a W (g1.trans hW)
    have p0c := fun W (hW : Grew w1 W) => q0c W (g1.trans hW)
    have p1a := fun W (hW : Grew w1 W) => q1a W (g1.trans hW)
    have p1c := fun W (hW : Grew w1 W) => q1c W (g1.trans hW)
    have p2a := fun W (hW : Grew w1 W) => q2a W (g1.trans hW)
    have p2c := fun W (hW : Grew w1 W) => q2c W (g1.trans hW)
    clear f0 f2 f3 q0a q0c q1a q1c q2a q2c
    go_wp2_with fail
    go_quiet (fail)
    go_wp2_with fail
    go_ret
    exact ⟨rfl, g1.drewN _⟩
end Go.Proofs.YtfpkfgimhanekaaGreatDoor

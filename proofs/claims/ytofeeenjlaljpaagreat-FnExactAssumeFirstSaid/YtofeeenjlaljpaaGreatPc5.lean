/- Texts in one file: DdK DdBb DdCo DdPl DdSh AppI DdIm DdY CpS DdMp StepA AppDs DdMv DdBe Dr Dl DlFit DtP. -/
import Derived.Lib.SliceRun
import Derived.Outline
import Derived.Deep.RegionWith
import Derived.Deep.RegionHeld3
import Derived.Test.YtofeeenjlaljpaaGreatPc1
import Derived.Test.YtofeeenjlaljpaaGreatPc2
import Derived.Test.YtofeeenjlaljpaaGreatPc3
import Derived.Test.YtofeeenjlaljpaaGreatPc4
set_option linter.all false

/- l25Correct, l25Bad of the reference. -/
namespace Go.Proofs.YtofeeenjlaljpaaGreat
open Go.RowKit

def pre (bef : List Dd) (P : List Int) (n : Nat) : List Dd := (P.take n).map fun k => bef.getD k.toNat (0, [], [], ByteArray.empty, 0)
theorem pre_map (bef : List Dd) (P : List Int) (n : Nat) : (pre bef P n).map jd = givenN bef P n := by unfold pre givenN given; rw [List.map_map]; rfl
theorem pre_succ {bef : List Dd} {P : List Int} {n m : Nat} {y : Dd} (hn : n < P.length) (hm : it P n = (m : Int)) (hy : bef[m]? = some y) : pre bef P (n + 1) = pre bef P n ++ [y] := by
  unfold pre
  rw [List.take_succ_eq_append_getElem hn, List.map_append, List.map_singleton, it_get hn, hm, Int.toNat_natCast]
  simp [List.getD, hy]
theorem pre_len (bef : List Dd) (P : List Int) (n : Nat) : (pre bef P n).length ≤ P.length := by unfold pre; simp; omega
theorem pre_all (bef : List Dd) (P : List Int) : (pre bef P P.length).length = P.length := by unfold pre; simp
theorem pre_gp {bef : List Dd} {P : List Int} (hb : ∀ y ∈ bef, gp y.2.2.2.1 = true) (hP : Prem bef P P.length) : ∀ y ∈ pre bef P P.length, gp y.2.2.2.1 = true := by
  intro y hy
  unfold pre at hy
  rw [List.take_length, List.mem_map] at hy
  obtain ⟨k, hk, rfl⟩ := hy
  have h1 := prem_all.1 hP k hk
  have hlt : k.toNat < bef.length := by omega
  have := hb _ (List.getElem_mem hlt)
  simpa [List.getD, hlt] using this

/-- The cells of a step that lies alone. -/
def BoxD (W : World) (g : Nat) (x : Dd) (up ua : Value) : Prop :=
  W.cell? ⟨g, 0, none⟩ = some (.int .i64 x.1) ∧ W.cell? ⟨g, 1, none⟩ = some up ∧ W.cell? ⟨g, 2, none⟩ = some ua ∧ W.cell? ⟨g, 3, none⟩ = some (.string x.2.2.2.1) ∧ W.cell? ⟨g, 4, none⟩ = some (.int .i64 x.2.2.2.2)
theorem BoxD.grew {W W' : World} {g : Nat} {x : Dd} {up ua : Value} (h : BoxD W g x up ua) (hb : g < W.heap.size) (hg : Grew W W') : BoxD W' g x up ua :=
  ⟨(hg.cell (p := ⟨g, 0, none⟩) hb).trans h.1, (hg.cell (p := ⟨g, 1, none⟩) hb).trans h.2.1, (hg.cell (p := ⟨g, 2, none⟩) hb).trans h.2.2.1, (hg.cell (p := ⟨g, 3, none⟩) hb).trans h.2.2.2.1, (hg.cell (p := ⟨g, 4, none⟩) hb).trans h.2.2.2.2⟩
theorem BoxD.far {W W' : World} {g : Nat} {x : Dd} {up ua : Value} {row : Option Nat} (h : BoxD W g x up ua) (hb : g < W.heap.size) (hg : W.grownBy W' row) (hne : some g ≠ row) : BoxD W' g x up ua :=
  ⟨(hg.cell_far ⟨g, 0, none⟩ hb hne).trans h.1, (hg.cell_far ⟨g, 1, none⟩ hb hne).trans h.2.1, (hg.cell_far ⟨g, 2, none⟩ hb hne).trans h.2.2.1, (hg.cell_far ⟨g, 3, none⟩ hb hne).trans h.2.2.2.1, (hg.cell_far ⟨g, 4, none⟩ hb hne).trans h.2.2.2.2⟩

set_option maxHeartbeats 4000000 in
theorem l25Correct_c (v : Value) (xs : List Dd) (k : Nat) (x : Dd) (w : World) (hv : Dds w v xs) (hx : xs[k]? = some x) (hfx : FitDd x) (hgb : ∀ y ∈ xs.take k, gp y.2.2.2.1 = true) (hl : xs.length ≤ 1000) :
    Calls Tryz.prog 102 #[v, .int .i64 k] w fun e w' => e = .returned (.bool (dcd (goodP (xs.take k) x))) ∧ Grew w w' := by
  have hlt := (List.getElem?_eq_some_iff.1 hx).1
  obtain ⟨b, o, c, rfl, hc, hm, hcell⟩ : ∃ b o c, v = .slice (some ⟨b, o, none⟩) xs.length c ∧ xs.length ≤ c ∧ c ≤ 9223372036854775807 ∧ (b < w.heap.size ∧ ∀ i x, xs[i]? = some x → ∃ up ua, DdCells w b (o + i * 5) x up ua ∧ Ints w up x.2.1 ∧ Strs w ua x.2.2.1) := by
    rcases hv with ⟨_, h0⟩ | ⟨b, o, c, hv, hc, hm, hb, hcell⟩
    · rw [h0] at hlt; simp at hlt
    · exact ⟨b, o, c, hv, hc, hm, hb, hcell⟩
  obtain ⟨hbb, hcell⟩ := hcell
  obtain ⟨up, ua, hcl, hup, hs⟩ := hcell k x hx
  obtain ⟨k0, k1, k2, k3, k4⟩ := hcl
  have hbl : (xs.take k).length = k := by simp; omega
  have HC := Lib.hid hcell
  have HGB := Lib.hid hgb
  have HBL := Lib.hid hbl
  have HS := Lib.hid hs
  have HUP := Lib.hid hup
  have HTK : Hid (∀ (m : Nat) (y : Dd), m < k → xs[m]? = some y → (xs.take k)[m]? = some y) := Lib.hid (fun m y h1 h2 => by rw [List.getElem?_take, if_pos h1]; exact h2)
  generalize xs.take k = bef at *
  have KF := fun W => l25Formula_c x.2.2.2.1 W (by have := hfx.2.2.2; omega)
  unfold GivesP at KF
  have KL := fun W (hW : Grew w W) => l25List_c ua x.2.2.1 W (hs.grew hW) hfx.2.2.1
  have KN := Lib.hid (fun W => l25Count_c x.1 W)
  have hpl := hfx.1
  obtain ⟨A, cP, rfl⟩ := ints_slice hup
  obtain ⟨UA, ca, rfl⟩ := strs_slice hs
  have hal1 := (Grew.refl w).alloc (.cells #[] 50)
  have hal := hal1.alloc (.cells #[.int .i64 x.1, .slice A x.2.1.length cP, .slice UA x.2.2.1.length ca, .string x.2.2.2.1, .int .i64 x.2.2.2.2] 50)
  have HBX : Hid (∀ W, Grew ((w.alloc (.cells #[] 50)).alloc (.cells #[.int .i64 x.1, .slice A x.2.1.length cP, .slice UA x.2.2.1.length ca, .string x.2.2.2.1, .int .i64 x.2.2.2.2] 50)) W → BoxD W (w.heap.size + 1) x (.slice A x.2.1.length cP) (.slice UA x.2.2.1.length ca) ∧ W.heap[w.heap.size]? = some (.cells #[] 50 (0, 0)) ∧ w.heap.size + 1 < W.heap.size) := Lib.hid (fun W hW => by
    have hz : (w.alloc (.cells #[] 50)).heap.size = w.heap.size + 1 := by simp
    have hz2 : ((w.alloc (.cells #[] 50)).alloc (.cells #[.int .i64 x.1, .slice A x.2.1.length cP, .slice UA x.2.2.1.length ca, .string x.2.2.2.1, .int .i64 x.2.2.2.2] 50)).heap.size = w.heap.size + 2 := by simp
    have hb2 := blk_new (w.alloc (.cells #[] 50)) (.cells #[.int .i64 x.1, .slice A x.2.1.length cP, .slice UA x.2.2.1.length ca, .string x.2.2.2.1, .int .i64 x.2.2.2.2] 50)
    rw [hz] at hb2
    refine ⟨BoxD.grew ⟨(blk_cell hb2 0).trans rfl, (blk_cell hb2 1).trans rfl, (blk_cell hb2 2).trans rfl, (blk_cell hb2 3).trans rfl, (blk_cell hb2 4).trans rfl⟩ (by omega) hW, ?_, by have := hW.size; omega⟩
    rw [hW.block (by omega), ((Grew.refl (w.alloc (.cells #[] 50))).alloc _).block (by omega)]
    exact blk_new w _)
  clear hv hcell hup hs hbl hgb hx
  by_cases hg : gp x.2.2.2.1 = true
  · rw [hg] at KF
    by_cases ha : asl x.2.2.1 = true
    · rw [ha] at KL
      have ha12 := (asl_map ha).1
      by_cases hn : cnt x.1 = (x.2.1.length : Int)
      · have en : (cnt x.1 != (x.2.1.length : Int)) = false := by rw [hn]; simp
        by_cases hnn : x.1 = 1 ∨ x.2.2.2.2 = 0
        · have hq : (x.1 != 1) = false ∨ ((x.1 != 1) = true ∧ (x.2.2.2.2 != 0) = false) := by
            by_cases h1 : x.1 = 1
            · exact .inl (by simpa using h1)
            · exact .inr ⟨by simpa using h1, by simpa using hnn.resolve_left h1⟩
          replace hnn := Lib.hid hnn
          replace hn := Lib.hid hn
          replace hg := Lib.hid hg
          replace ha := Lib.hid ha
          rcases hq with e1 | ⟨e1, e2⟩
          · replace KF := Lib.hid KF
            replace KL := Lib.hid KL
            go_enter Tryz.func102, Tryz.ntmps102
            go_wp2_with fail
            refine (KF.out _).mono ?_
            rintro e w1 ⟨uf, rfl, hof, hg1⟩
            clear hof
            have g1 := hal.trans hg1
            obtain ⟨hbx, hblk, hsz⟩ := HBX.out _ hg1
            have f0 := fun W (hW : Grew w1 W) => (hbx.grew hsz hW).1
            have f1 := fun W (hW : Grew w1 W) => (hbx.grew hsz hW).2.1
            have f2 := fun W (hW : Grew w1 W) => (hbx.grew hsz hW).2.2.1
            have f4 := fun W (hW : Grew w1 W) => (hbx.grew hsz hW).2.2.2.2
            have HBX1 := Lib.hid hbx
            have HBK := Lib.hid hblk
            have r1 := Grew.refl w1
            have d1 := r1.drew
            have gd := g1.trans d1
            clear hbx hblk k0 k1 k2 k3 k4
            go_wp2_with fail
            refine wp_region_held_drew (S := fun w' => Grew w1 w') (by kernel_rfl) d1 (fun hHeld => ?_)
            refine wpAnyH_take (i := 0) (oi := ?on1) (v := ?vn1) ?hin1 ?an1 ?bn1 ?cn1 ?qn1 (Or.inl ⟨?dn1, ?hyn1⟩) hHeld ?restn1
            case hin1 => (simp only [List.getElem?_toArray, List.getElem?_cons_succ, List.getElem?_cons_zero]; exact rfl)
            case an1 => kernel_rfl
            case bn1 => kernel_rfl
            case cn1 => kernel_rfl
            case qn1 => exact fun _ _ _ h => h
            case dn1 => rfl
            case hyn1 => (intro z hSw; (try dsimp only at hSw); go_simp; (try with_reducible rfl))
            try simp only [Act.put, List.setIfInBounds_toArray, List.set_cons_zero, List.set_cons_succ]
            refine wpAnyH_take (i := 1) (oi := ?on2) (v := ?vn2) ?hin2 ?an2 ?bn2 ?cn2 ?qn2 (Or.inl ⟨?dn2, ?hyn2⟩) hHeld ?restn2
            case hin2 => (simp only [List.getElem?_toArray, List.getElem?_cons_succ, List.getElem?_cons_zero]; exact rfl)
            case an2 => kernel_rfl
            case bn2 => kernel_rfl
            case cn2 => kernel_rfl
            case qn2 => exact fun _ _ _ h => h
            case dn2 => rfl
            case hyn2 => (intro z hSw; (try dsimp only at hSw); go_simp; (try with_reducible rfl))
            try simp only [Act.put, List.setIfInBounds_toArray, List.set_cons_zero, List.set_cons_succ]
            refine wpAnyH_take (i := 2) (oi := ?on3) (v := ?vn3) ?hin3 ?an3 ?bn3 ?cn3 ?qn3 (Or.inl ⟨?dn3, ?hyn3⟩) hHeld ?restn3
            case hin3 => (simp only [List.getElem?_toArray, List.getElem?_cons_succ, List.getElem?_cons_zero]; exact rfl)
            case an3 => kernel_rfl
            case bn3 => kernel_rfl
            case cn3 => kernel_rfl
            case qn3 => exact fun _ _ _ h => h
            case dn3 => rfl
            case hyn3 => (intro z hSw; (try dsimp only at hSw); go_simp; (try with_reducible rfl))
            try simp only [Act.put, List.setIfInBounds_toArray, List.set_cons_zero, List.set_cons_succ]
            refine wpAnyH_take (i := 3) (oi := ?on4) (v := ?vn4) ?hin4 ?an4 ?bn4 ?cn4 ?qn4 (Or.inl ⟨?dn4, ?hyn4⟩) hHeld ?restn4
            case hin4 => (simp only [List.getElem?_toArray, List.getElem?_cons_succ, List.getElem?_cons_zero]; exact rfl)
            case an4 => kernel_rfl
            case bn4 => kernel_rfl
            case cn4 => kernel_rfl
            case qn4 => exact fun _ _ _ h => h
            case dn4 => rfl
            case hyn4 => (intro z hSw; (try dsimp only at hSw); go_simp; (try with_reducible rfl))
            try simp only [Act.put, List.setIfInBounds_toArray, List.set_cons_zero, List.set_cons_succ]
            refine wpAnyH_take (i := 4) (oi := ?on5) (v := ?vn5) ?hin5 ?an5 ?bn5 ?cn5 ?qn5 (Or.inl ⟨?dn5, ?hyn5⟩) hHeld ?restn5
            case hin5 => (simp only [List.getElem?_toArray, List.getElem?_cons_succ, List.getElem?_cons_zero]; exact rfl)
            case an5 => kernel_rfl
            case bn5 => kernel_rfl
            case cn5 => kernel_rfl
            case qn5 => exact fun _ _ _ h => h
            case dn5 => rfl
            case hyn5 => (intro z hSw; (try dsimp only at hSw); go_simp; (try with_reducible rfl))
            try simp only [Act.put, List.setIfInBounds_toArray, List.set_cons_zero, List.set_cons_succ]
            refine wpAnyH_ready (rs := [5]) (by kernel_rfl) (by simp) ?_
            refine AllReadyH.cons (o := ?on6) ?hin6 ?restn6 AllReadyH.nil
            case hin6 => (simp only [List.getElem?_toArray, List.getElem?_cons_succ, List.getElem?_cons_zero]; exact rfl)
            intro K hK
            go_simp
            go_at_call 132
            refine (KL.out _ gd).mono ?_
            rintro e w3 ⟨rfl, hg3⟩
            have gk3 := gd.trans hg3
            have mk3 := d1.trans hg3
            refine hK.out _ _ ?_ (fun hHeld => ?_)
            · (try dsimp only); first | with_reducible assumption | exact Grew.alloc ‹_› _
            clear hK K
            try simp only [Act.put, List.setIfInBounds_toArray, List.set_cons_zero, List.set_cons_succ]
            refine wpAnyH_take (i := 6) (oi := ?on7) (v := ?vn7) ?hin7 ?an7 ?bn7 ?cn7 ?qn7 (Or.inl ⟨?dn7, ?hyn7⟩) hHeld ?restn7
            case hin7 => (simp only [List.getElem?_toArray, List.getElem?_cons_succ, List.getElem?_cons_zero]; exact rfl)
            case an7 => kernel_rfl
            case bn7 => kernel_rfl
            case cn7 => kernel_rfl
            case qn7 => exact fun _ _ _ h => h
            case dn7 => rfl
            case hyn7 => (intro z hSw; (try dsimp only at hSw); go_simp; (try with_reducible rfl))
            try simp only [Act.put, List.setIfInBounds_toArray, List.set_cons_zero, List.set_cons_succ]
            refine wpAnyH_take (i := 7) (oi := ?on8) (v := ?vn8) ?hin8 ?an8 ?bn8 ?cn8 ?qn8 (Or.inl ⟨?dn8, ?hyn8⟩) hHeld ?restn8
            case hin8 => (simp only [List.getElem?_toArray, List.getElem?_cons_succ, List.getElem?_cons_zero]; exact rfl)
            case an8 => kernel_rfl
            case bn8 => kernel_rfl
            case cn8 => kernel_rfl
            case qn8 => exact fun _ _ _ h => h
            case dn8 => rfl
            case hyn8 => (intro z hSw; (try dsimp only at hSw); go_simp; (try with_reducible rfl))
            try simp only [Act.put, List.setIfInBounds_toArray, List.set_cons_zero, List.set_cons_succ]
            refine wpAnyH_take (i := 8) (oi := ?on9) (v := ?vn9) ?hin9 ?an9 ?bn9 ?cn9 ?qn9 (Or.inl ⟨?dn9, ?hyn9⟩) hHeld ?restn9
            case hin9 => (simp only [List.getElem?_toArray, List.getElem?_cons_succ, List.getElem?_cons_zero]; exact rfl)
            case an9 => kernel_rfl
            case bn9 => kernel_rfl
            case cn9 => kernel_rfl
            case qn9 => exact fun _ _ _ h => h
            case dn9 => rfl
            case hyn9 => (intro z hSw; (try dsimp only at hSw); go_simp; (try with_reducible rfl))
            try simp only [Act.put, List.setIfInBounds_toArray, List.set_cons_zero, List.set_cons_succ]
            refine wpAnyH_take (i := 9) (oi := ?on10) (v := ?vn10) ?hin10 ?an10 ?bn10 ?cn10 ?qn10 (Or.inl ⟨?dn10, ?hyn10⟩) hHeld ?restn10
            case hin10 => (simp only [List.getElem?_toArray, List.getElem?_cons_succ, List.getElem?_cons_zero]; exact rfl)
            case an10 => kernel_rfl
            case bn10 => kernel_rfl
            case cn10 => kernel_rfl
            case qn10 => exact fun _ _ _ h => h
            case dn10 => rfl
            case hyn10 => (intro z hSw; (try dsimp only at hSw); go_simp; (try with_reducible rfl))
            try simp only [Act.put, List.setIfInBounds_toArray, List.set_cons_zero, List.set_cons_succ]
            refine wpAnyH_take (i := 10) (oi := ?on11) (v := ?vn11) ?hin11 ?an11 ?bn11 ?cn11 ?qn11 (Or.inl ⟨?dn11, ?hyn11⟩) hHeld ?restn11
            case hin11 => (simp only [List.getElem?_toArray, List.getElem?_cons_succ, List.getElem?_cons_zero]; exact rfl)
            case an11 => kernel_rfl
            case bn11 => kernel_rfl
            case cn11 => kernel_rfl
            case qn11 => exact fun _ _ _ h => h
            case dn11 => rfl
            case hyn11 => (intro z hSw; (try dsimp only at hSw); go_simp; (try with_reducible rfl))
            try simp only [Act.put, List.setIfInBounds_toArray, List.set_cons_zero, List.set_cons_succ]
            refine wpAnyH_take (i := 12) (oi := ?on12) (v := ?vn12) ?hin12 ?an12 ?bn12 ?cn12 ?qn12 (Or.inl ⟨?dn12, ?hyn12⟩) hHeld ?restn12
            case hin12 => (simp only [List.getElem?_toArray, List.getElem?_cons_succ, List.getElem?_cons_zero]; exact rfl)
            case an12 => kernel_rfl
            case bn12 => kernel_rfl
            case cn12 => kernel_rfl
            case qn12 => exact fun _ _ _ h => h
            case dn12 => rfl
            case hyn12 => (intro z hSw; (try dsimp only at hSw); go_simp; (try with_reducible rfl))
            try simp only [Act.put, List.setIfInBounds_toArray, List.set_cons_zero, List.set_cons_succ]
            refine wpAnyH_take (i := 13) (oi := ?on13) (v := ?vn13) ?hin13 ?an13 ?bn13 ?cn13 ?qn13 (Or.inl ⟨?dn13, ?hyn13⟩) hHeld ?restn13
            case hin13 => (simp only [List.getElem?_toArray, List.getElem?_cons_succ, List.getElem?_cons_zero]; exact rfl)
            case an13 => kernel_rfl
            case bn13 => kernel_rfl
            case cn13 => kernel_rfl
            case qn13 => exact fun _ _ _ h => h
            case dn13 => rfl
            case hyn13 => (intro z hSw; (try dsimp only at hSw); go_simp; (try with_reducible rfl))
            try simp only [Act.put, List.setIfInBounds_toArray, List.set_cons_zero, List.set_cons_succ]
            refine wpAnyH_take (i := 14) (oi := ?on14) (v := ?vn14) ?hin14 ?an14 ?bn14 ?cn14 ?qn14 (Or.inl ⟨?dn14, ?hyn14⟩) hHeld ?restn14
            case hin14 => (simp only [List.getElem?_toArray, List.getElem?_cons_succ, List.getElem?_cons_zero]; exact rfl)
            case an14 => kernel_rfl
            case bn14 => kernel_rfl
            case cn14 => kernel_rfl
            case qn14 => exact fun _ _ _ h => h
            case dn14 => rfl
            case hyn14 => (intro z hSw; (try dsimp only at hSw); go_simp; (try with_reducible rfl))
            try simp only [Act.put, List.setIfInBounds_toArray, List.set_cons_zero, List.set_cons_succ]
            refine wpAnyH_ready (rs := [11]) (by kernel_rfl) (by simp) ?_
            refine AllReadyH.cons (o := ?on15) ?hin15 ?restn15 AllReadyH.nil
            case hin15 => (simp only [List.getElem?_toArray, List.getElem?_cons_succ, List.getElem?_cons_zero]; exact rfl)
            intro K hK
            go_simp
            go_at_call 133
            refine (KN.out _).mono ?_
            rintro e w4 ⟨rfl, rfl⟩
            refine hK.out _ _ ?_ (fun hHeld => ?_)
            · (try dsimp only); first | with_reducible assumption | exact Grew.alloc ‹_› _
            clear hK K
            try simp only [Act.put, List.setIfInBounds_toArray, List.set_cons_zero, List.set_cons_succ]
            refine wpAnyH_take (i := 15) (oi := ?on16) (v := ?vn16) ?hin16 ?an16 ?bn16 ?cn16 ?qn16 (Or.inl ⟨?dn16, ?hyn16⟩) hHeld ?restn16
            case hin16 => (simp only [List.getElem?_toArray, List.getElem?_cons_succ, List.getElem?_cons_zero]; exact rfl)
            case an16 => kernel_rfl
            case bn16 => kernel_rfl
            case cn16 => kernel_rfl
            case qn16 => exact fun _ _ _ h => h
            case dn16 => rfl
            case hyn16 => (intro z hSw; (try dsimp only at hSw); go_simp; (try with_reducible rfl))
            try simp only [Act.put, List.setIfInBounds_toArray, List.set_cons_zero, List.set_cons_succ]
            refine wpAnyH_take (i := 16) (oi := ?on17) (v := ?vn17) ?hin17 ?an17 ?bn17 ?cn17 ?qn17 (Or.inl ⟨?dn17, ?hyn17⟩) hHeld ?restn17
            case hin17 => (simp only [List.getElem?_toArray, List.getElem?_cons_succ, List.getElem?_cons_zero]; exact rfl)
            case an17 => kernel_rfl
            case bn17 => kernel_rfl
            case cn17 => kernel_rfl
            case qn17 => exact fun _ _ _ h => h
            case dn17 => rfl
            case hyn17 => (intro z hSw; (try dsimp only at hSw); go_simp; (try with_reducible rfl))
            try simp only [Act.put, List.setIfInBounds_toArray, List.set_cons_zero, List.set_cons_succ]
            refine wpAnyH_take (i := 17) (oi := ?on18) (v := ?vn18) ?hin18 ?an18 ?bn18 ?cn18 ?qn18 (Or.inl ⟨?dn18, ?hyn18⟩) hHeld ?restn18
            case hin18 => (simp only [List.getElem?_toArray, List.getElem?_cons_succ, List.getElem?_cons_zero]; exact rfl)
            case an18 => kernel_rfl
            case bn18 => kernel_rfl
            case cn18 => kernel_rfl
            case qn18 => exact fun _ _ _ h => h
            case dn18 => rfl
            case hyn18 => (intro z hSw; (try dsimp only at hSw); go_simp; (try with_reducible rfl))
            try simp only [Act.put, List.setIfInBounds_toArray, List.set_cons_zero, List.set_cons_succ]
            refine wpAnyH_take (i := 18) (oi := ?on19) (v := ?vn19) ?hin19 ?an19 ?bn19 ?cn19 ?qn19 (Or.inl ⟨?dn19, ?hyn19⟩) hHeld ?restn19
            case hin19 => (simp only [List.getElem?_toArray, List.getElem?_cons_succ, List.getElem?_cons_zero]; exact rfl)
            case an19 => kernel_rfl
            case bn19 => kernel_rfl
            case cn19 => kernel_rfl
            case qn19 => exact fun _ _ _ h => h
            case dn19 => rfl
            case hyn19 => (intro z hSw; (try dsimp only at hSw); go_simp; (try with_reducible rfl))
            try simp only [Act.put, List.setIfInBounds_toArray, List.set_cons_zero, List.set_cons_succ]
            refine wpAnyH_take (i := 19) (oi := ?on20) (v := ?vn20) ?hin20 ?an20 ?bn20 ?cn20 ?qn20 (Or.inl ⟨?dn20, ?hyn20⟩) hHeld ?restn20
            case hin20 => (simp only [List.getElem?_toArray, List.getElem?_cons_succ, List.getElem?_cons_zero]; exact rfl)
            case an20 => kernel_rfl
            case bn20 => kernel_rfl
            case cn20 => kernel_rfl
            case qn20 => exact fun _ _ _ h => h
            case dn20 => rfl
            case hyn20 => (intro z hSw; (try dsimp only at hSw); go_simp; (try with_reducible rfl))
            try simp only [Act.put, List.setIfInBounds_toArray, List.set_cons_zero, List.set_cons_succ]
            refine wpAnyH_take (i := 20) (oi := ?on21) (v := ?vn21) ?hin21 ?an21 ?bn21 ?cn21 ?qn21 (Or.inl ⟨?dn21, ?hyn21⟩) hHeld ?restn21
            case hin21 => (simp only [List.getElem?_toArray, List.getElem?_cons_succ, List.getElem?_cons_zero]; exact rfl)
            case an21 => kernel_rfl
            case bn21 => kernel_rfl
            case cn21 => kernel_rfl
            case qn21 => exact fun _ _ _ h => h
            case dn21 => rfl
            case hyn21 => (intro z hSw; (try dsimp only at hSw); go_simp; (try with_reducible rfl))
            try simp only [Act.put, List.setIfInBounds_toArray, List.set_cons_zero, List.set_cons_succ]
            refine wpAnyH_take (i := 21) (oi := ?on22) (v := ?vn22) ?hin22 ?an22 ?bn22 ?cn22 ?qn22 (Or.inl ⟨?dn22, ?hyn22⟩) hHeld ?restn22
            case hin22 => (simp only [List.getElem?_toArray, List.getElem?_cons_succ, List.getElem?_cons_zero]; exact rfl)
            case an22 => kernel_rfl
            case bn22 => kernel_rfl
            case cn22 => kernel_rfl
            case qn22 => exact fun _ _ _ h => h
            case dn22 => rfl
            case hyn22 => (intro z hSw; (try dsimp only at hSw); go_simp; (try with_reducible rfl))
            try simp only [Act.put, List.setIfInBounds_toArray, List.set_cons_zero, List.set_cons_succ]
            refine wpAnyH_take (i := 22) (oi := ?on23) ?hin23 ?an23 ?bn23 ?cn23 ?qn23 (Or.inr ⟨?dn23, rfl⟩) hHeld ?restn23
            case hin23 => (simp only [List.getElem?_toArray, List.getElem?_cons_succ, List.getElem?_cons_zero]; exact rfl)
            case an23 => kernel_rfl
            case bn23 => kernel_rfl
            case cn23 => kernel_rfl
            case qn23 => exact fun _ _ _ h => h
            case dn23 => rfl
            try simp only [Act.put, List.setIfInBounds_toArray, List.set_cons_zero, List.set_cons_succ]
            refine wpAnyH_take (i := 23) (oi := ?on24) ?hin24 ?an24 ?bn24 ?cn24 ?qn24 (Or.inr ⟨?dn24, rfl⟩) hHeld ?restn24
            case hin24 => (simp only [List.getElem?_toArray, List.getElem?_cons_succ, List.getElem?_cons_zero]; exact rfl)
            case an24 => kernel_rfl
            case bn24 => kernel_rfl
            case cn24 => kernel_rfl
            case qn24 => exact fun _ _ _ h => h
            case dn24 => rfl
            try simp only [Act.put, List.setIfInBounds_toArray, List.set_cons_zero, List.set_cons_succ]
            refine wpAnyH_take (i := 24) (oi := ?on25) ?hin25 ?an25 ?bn25 ?cn25 ?qn25 (Or.inr ⟨?dn25, rfl⟩) hHeld ?restn25
            case hin25 => (simp only [List.getElem?_toArray, List.getElem?_cons_succ, List.getElem?_cons_zero]; exact rfl)
            case an25 => kernel_rfl
            case bn25 => kernel_rfl
            case cn25 => kernel_rfl
            case qn25 => exact fun _ _ _ h => h
            case dn25 => rfl
            try simp only [Act.put, List.setIfInBounds_toArray, List.set_cons_zero, List.set_cons_succ]
            refine wpAnyH_take (i := 25) (oi := ?on26) (v := ?vn26) ?hin26 ?an26 ?bn26 ?cn26 ?qn26 (Or.inl ⟨?dn26, ?hyn26⟩) hHeld ?restn26
            case hin26 => (simp only [List.getElem?_toArray, List.getElem?_cons_succ, List.getElem?_cons_zero]; exact rfl)
            case an26 => kernel_rfl
            case bn26 => kernel_rfl
            case cn26 => kernel_rfl
            case qn26 => exact fun _ _ _ h => h
            case dn26 => rfl
            case hyn26 => (intro z hSw; (try dsimp only at hSw); go_simp; (try with_reducible rfl))
            try simp only [Act.put, List.setIfInBounds_toArray, List.set_cons_zero, List.set_cons_succ]
            refine wpAnyH_take (i := 26) (oi := ?on27) (v := ?vn27) ?hin27 ?an27 ?bn27 ?cn27 ?qn27 (Or.inl ⟨?dn27, ?hyn27⟩) hHeld ?restn27
            case hin27 => (simp only [List.getElem?_toArray, List.getElem?_cons_succ, List.getElem?_cons_zero]; exact rfl)
            case an27 => kernel_rfl
            case bn27 => kernel_rfl
            case cn27 => kernel_rfl
            case qn27 => exact fun _ _ _ h => h
            case dn27 => rfl
            case hyn27 => (intro z hSw; (try dsimp only at hSw); go_simp; (try with_reducible rfl))
            try simp only [Act.put, List.setIfInBounds_toArray, List.set_cons_zero, List.set_cons_succ]
            refine wpAnyH_done (by kernel_rfl) ?_ _

            go_wp2_with fail
            go_loopw [6, 9] (fun v6 i wr => ∃ j : Nat, j ≤ x.2.1.length ∧ i = .int .i64 j ∧ OwnP w wr w.heap.size v6 (pre bef x.2.1 j) ∧ Grew w wr ∧ Hid (BoxD wr (w.heap.size + 1) x (.slice A x.2.1.length cP) (.slice UA x.2.2.1.length ca)) ∧ w.heap.size + 1 < wr.heap.size ∧ v6.ownBlock ≠ some (w.heap.size + 1) ∧ Hid (Prem bef x.2.1 j)) (fun _ i _ => x.2.1.length - (intOf i).toNat)
            case atStart => exact ⟨0, Nat.zero_le _, rfl, OwnP.nil_ w (Nat.le_refl _) ((mk3.block (by omega)).trans HBK.out), gk3, Lib.hid (HBX1.out.grew hsz mk3), by have := mk3.size; omega, by simp [Value.ownBlock], Lib.hid (fun i hi => absurd hi (by omega))⟩
            case round =>
              obtain ⟨j, hj, rfl, hO, hB, HX, hsw, hnb, HP⟩ := hrel
              have hJl := pre_len bef x.2.1 j
              obtain ⟨b0, b1, b2, b3, b4⟩ := HX.out
              by_cases hlt2 : j < x.2.1.length
              · rcases HUP.out.open_ with ⟨_, h0⟩ | ⟨pb, po, pc, hv1, _, hm1, hb1, hc1⟩
                · rw [h0] at hlt2; simp at hlt2
                obtain ⟨rfl, rfl⟩ : A = some ⟨pb, po, none⟩ ∧ cP = pc := by simpa using hv1
                have KR := fun W => l01In_c (it x.2.1 j) 0 ((k : Int) - 1) W
                have q1 := hc1 j hlt2 _ hB
                by_cases hr : 0 ≤ it x.2.1 j ∧ it x.2.1 j ≤ (k : Int) - 1
                · rw [decide_eq_true hr] at KR
                  replace KR := Lib.hid KR
                  obtain ⟨m, hmi⟩ : ∃ m : Nat, it x.2.1 j = m := ⟨(it x.2.1 j).toNat, by omega⟩
                  have hmk : m < k := by omega
                  have hmx : m < xs.length := by omega
                  have hy : xs[m]? = some xs[m] := List.getElem?_eq_getElem hmx
                  generalize xs[m] = y at hy
                  obtain ⟨yp, ya, hcy, hyp, hys⟩ := HC.out m y hy
                  have HST := Lib.hid (pre_succ hlt2 hmi (HTK.out m y hmk hy))
                  have HCY := Lib.hid hcy
                  have HPN : Hid (Prem bef x.2.1 (j + 1)) := Lib.hid (fun i hi => by
                    rcases Nat.lt_or_ge i j with hk | hk
                    · exact HP.out i hk
                    · obtain rfl : i = j := by omega
                      rw [HBL.out]
                      exact hr)
                  rw [hmi] at q1 KR
                  have q1' := fun W (hW : Grew w W) => (hc1 j hlt2 W hW).trans (by rw [hmi])
                  have HYP := Lib.hid hyp
                  have HYS := Lib.hid hys
                  obtain ⟨YA, yc, rfl⟩ := ints_slice hyp
                  obtain ⟨YS, sc, rfl⟩ := strs_slice hys
                  clear hcy hr hmi hy hyp hys hv1 hc1
                  generalize pre bef x.2.1 j = X at *
                  go_wp2_with fail
                  refine (KR.out _).mono ?_
                  rintro e w4 ⟨rfl, hg4⟩
                  have hB4 := hB.trans hg4
                  obtain ⟨c0, c1, c2, c3, c4⟩ := HX.out.grew hsw hg4
                  have q2 := q1' _ hB4
                  obtain ⟨r0, r1, r2, r3, r4⟩ := HCY.out.grew hbb hB4
                  have hO1 := hO.grew (hg4.trans ((Grew.refl w4).alloc (.cells #[.int .i64 y.1, .slice YA y.2.1.length yc, .slice YS y.2.2.1.length sc, .string y.2.2.2.1, .int .i64 y.2.2.2.2] 50)))
                  have hB1 := hB4.alloc (.cells #[.int .i64 y.1, .slice YA y.2.1.length yc, .slice YS y.2.2.1.length sc, .string y.2.2.2.1, .int .i64 y.2.2.2.2] 50)
                  have HX1 := Lib.hid (HX.out.grew hsw (hg4.trans ((Grew.refl w4).alloc (.cells #[.int .i64 y.1, .slice YA y.2.1.length yc, .slice YS y.2.2.1.length sc, .string y.2.2.2.1, .int .i64 y.2.2.2.2] 50))))
                  have hs4 : w.heap.size + 1 < (w4.alloc (.cells #[.int .i64 y.1, .slice YA y.2.1.length yc, .slice YS y.2.2.1.length sc, .string y.2.2.2.1, .int .i64 y.2.2.2.2] 50)).heap.size := by have := hg4.size; simp; omega
                  go_wp2_with (first | (at_builtin; refine wpList_appD (w0 := w) _ _ rfl rfl _ X rfl hO1 hB1 _ _ _ y rfl (rd_litD _ _ _ _ _ _ _) HYP.out HYS.out (by omega) ?_; intro v2 w5 hown2 hg5 hgr5 hob5))
                  go_roundw
                  case rel =>
                    refine ⟨j + 1, by omega, by go_num, by rw [HST.out]; exact hown2, hg5, Lib.hid (HX1.out.far hs4 hgr5 (fun h => hnb h.symm)), by have := hgr5.size; omega, ?_, HPN⟩
                    rcases hob5 with h | h
                    · rw [h]; exact hnb
                    · rw [h]; simp only [ne_eq, Option.some.injEq]; omega
                  case measure => simp [intOf]; omega
                · rw [decide_eq_false hr] at KR
                  replace KR := Lib.hid KR
                  have HNO := Lib.hid (dcd_false (p := goodP bef x) (fun h => hr (by have := prem_all.2 h.2.1 j hlt2; rw [HBL.out] at this; exact this)))
                  clear hr hc1 hv1
                  generalize it x.2.1 j = q at *
                  go_wp2_with fail
                  refine (KR.out _).mono ?_
                  rintro e w4 ⟨rfl, hg4⟩
                  go_wp2_with fail
                  go_ret
                  exact ⟨congrArg (fun b => Ending.returned (Value.bool b)) HNO.out.symm, hB.trans hg4⟩
              · obtain rfl : j = x.2.1.length := by omega
                have KT := rule_all x x.2.1.length hn.out _ _ u6 (pre bef x.2.1 x.2.1.length) wr (HUP.out.grew hB) (HS.out.grew hB) (hO.dds hB) hg.out (pre_gp HGB.out HP.out) ha12 (pre_all _ _)
                rw [pre_map, givenN_all] at KT
                have hfin : goodP bef x ↔ (introP x (given bef x.2.1) ∨ elimP x (given bef x.2.1)) := ⟨fun h => h.2.2, fun h => ⟨⟨ha.out, hg.out, hnn.out⟩, prem_all.1 HP.out, h⟩⟩
                have HFIN := Lib.hid (dcd_congr hfin).symm
                clear hfin
                generalize dcd (introP x (given bef x.2.1) ∨ elimP x (given bef x.2.1)) = R at *
                replace KT := Lib.hid KT
                go_wp2_with fail
                refine (KT.out).mono ?_
                rintro e w4 ⟨rfl, hg4⟩
                go_wp2_with fail
                go_ret
                exact ⟨congrArg (fun b => Ending.returned (Value.bool b)) HFIN.out, hB.trans hg4⟩
          · replace KF := Lib.hid KF
            replace KL := Lib.hid KL
            go_enter Tryz.func102, Tryz.ntmps102
            go_wp2_with fail
            refine (KF.out _).mono ?_
            rintro e w1 ⟨uf, rfl, hof, hg1⟩
            clear hof
            have g1 := hal.trans hg1
            obtain ⟨hbx, hblk, hsz⟩ := HBX.out _ hg1
            have f0 := fun W (hW : Grew w1 W) => (hbx.grew hsz hW).1
            have f1 := fun W (hW : Grew w1 W) => (hbx.grew hsz hW).2.1
            have f2 := fun W (hW : Grew w1 W) => (hbx.grew hsz hW).2.2.1
            have f4 := fun W (hW : Grew w1 W) => (hbx.grew hsz hW).2.2.2.2
            have HBX1 := Lib.hid hbx
            have HBK := Lib.hid hblk
            have r1 := Grew.refl w1
            have d1 := r1.drew
            have gd := g1.trans d1
            clear hbx hblk k0 k1 k2 k3 k4
            go_wp2_with fail
            refine wp_region_held_drew (S := fun w' => Grew w1 w') (by kernel_rfl) d1 (fun hHeld => ?_)
            refine wpAnyH_take (i := 0) (oi := ?on28) (v := ?vn28) ?hin28 ?an28 ?bn28 ?cn28 ?qn28 (Or.inl ⟨?dn28, ?hyn28⟩) hHeld ?restn28
            case hin28 => (simp only [List.getElem?_toArray, List.getElem?_cons_succ, List.getElem?_cons_zero]; exact rfl)
            case an28 => kernel_rfl
            case bn28 => kernel_rfl
            case cn28 => kernel_rfl
            case qn28 => exact fun _ _ _ h => h
            case dn28 => rfl
            case hyn28 => (intro z hSw; (try dsimp only at hSw); go_simp; (try with_reducible rfl))
            try simp only [Act.put, List.setIfInBounds_toArray, List.set_cons_zero, List.set_cons_succ]
            refine wpAnyH_take (i := 1) (oi := ?on29) (v := ?vn29) ?hin29 ?an29 ?bn29 ?cn29 ?qn29 (Or.inl ⟨?dn29, ?hyn29⟩) hHeld ?restn29
            case hin29 => (simp only [List.getElem?_toArray, List.getElem?_cons_succ, List.getElem?_cons_zero]; exact rfl)
            case an29 => kernel_rfl
            case bn29 => kernel_rfl
            case cn29 => kernel_rfl
            case qn29 => exact fun _ _ _ h => h
            case dn29 => rfl
            case hyn29 => (intro z hSw; (try dsimp only at hSw); go_simp; (try with_reducible rfl))
            try simp only [Act.put, List.setIfInBounds_toArray, List.set_cons_zero, List.set_cons_succ]
            refine wpAnyH_take (i := 2) (oi := ?on30) (v := ?vn30) ?hin30 ?an30 ?bn30 ?cn30 ?qn30 (Or.inl ⟨?dn30, ?hyn30⟩) hHeld ?restn30
            case hin30 => (simp only [List.getElem?_toArray, List.getElem?_cons_succ, List.getElem?_cons_zero]; exact rfl)
            case an30 => kernel_rfl
            case bn30 => kernel_rfl
            case cn30 => kernel_rfl
            case qn30 => exact fun _ _ _ h => h
            case dn30 => rfl
            case hyn30 => (intro z hSw; (try dsimp only at hSw); go_simp; (try with_reducible rfl))
            try simp only [Act.put, List.setIfInBounds_toArray, List.set_cons_zero, List.set_cons_succ]
            refine wpAnyH_take (i := 3) (oi := ?on31) (v := ?vn31) ?hin31 ?an31 ?bn31 ?cn31 ?qn31 (Or.inl ⟨?dn31, ?hyn31⟩) hHeld ?restn31
            case hin31 => (simp only [List.getElem?_toArray, List.getElem?_cons_succ, List.getElem?_cons_zero]; exact rfl)
            case an31 => kernel_rfl
            case bn31 => kernel_rfl
            case cn31 => kernel_rfl
            case qn31 => exact fun _ _ _ h => h
            case dn31 => rfl
            case hyn31 => (intro z hSw; (try dsimp only at hSw); go_simp; (try with_reducible rfl))
            try simp only [Act.put, List.setIfInBounds_toArray, List.set_cons_zero, List.set_cons_succ]
            refine wpAnyH_take (i := 4) (oi := ?on32) (v := ?vn32) ?hin32 ?an32 ?bn32 ?cn32 ?qn32 (Or.inl ⟨?dn32, ?hyn32⟩) hHeld ?restn32
            case hin32 => (simp only [List.getElem?_toArray, List.getElem?_cons_succ, List.getElem?_cons_zero]; exact rfl)
            case an32 => kernel_rfl
            case bn32 => kernel_rfl
            case cn32 => kernel_rfl
            case qn32 => exact fun _ _ _ h => h
            case dn32 => rfl
            case hyn32 => (intro z hSw; (try dsimp only at hSw); go_simp; (try with_reducible rfl))
            try simp only [Act.put, List.setIfInBounds_toArray, List.set_cons_zero, List.set_cons_succ]
            refine wpAnyH_ready (rs := [5]) (by kernel_rfl) (by simp) ?_
            refine AllReadyH.cons (o := ?on33) ?hin33 ?restn33 AllReadyH.nil
            case hin33 => (simp only [List.getElem?_toArray, List.getElem?_cons_succ, List.getElem?_cons_zero]; exact rfl)
            intro K hK
            go_simp
            go_at_call 132
            refine (KL.out _ gd).mono ?_
            rintro e w3 ⟨rfl, hg3⟩
            have gk3 := gd.trans hg3
            have mk3 := d1.trans hg3
            refine hK.out _ _ ?_ (fun hHeld => ?_)
            · (try dsimp only); first | with_reducible assumption | exact Grew.alloc ‹_› _
            clear hK K
            try simp only [Act.put, List.setIfInBounds_toArray, List.set_cons_zero, List.set_cons_succ]
            refine wpAnyH_take (i := 6) (oi := ?on34) (v := ?vn34) ?hin34 ?an34 ?bn34 ?cn34 ?qn34 (Or.inl ⟨?dn34, ?hyn34⟩) hHeld ?restn34
            case hin34 => (simp only [List.getElem?_toArray, List.getElem?_cons_succ, List.getElem?_cons_zero]; exact rfl)
            case an34 => kernel_rfl
            case bn34 => kernel_rfl
            case cn34 => kernel_rfl
            case qn34 => exact fun _ _ _ h => h
            case dn34 => rfl
            case hyn34 => (intro z hSw; (try dsimp only at hSw); go_simp; (try with_reducible rfl))
            try simp only [Act.put, List.setIfInBounds_toArray, List.set_cons_zero, List.set_cons_succ]
            refine wpAnyH_take (i := 7) (oi := ?on35) (v := ?vn35) ?hin35 ?an35 ?bn35 ?cn35 ?qn35 (Or.inl ⟨?dn35, ?hyn35⟩) hHeld ?restn35
            case hin35 => (simp only [List.getElem?_toArray, List.getElem?_cons_succ, List.getElem?_cons_zero]; exact rfl)
            case an35 => kernel_rfl
            case bn35 => kernel_rfl
            case cn35 => kernel_rfl
            case qn35 => exact fun _ _ _ h => h
            case dn35 => rfl
            case hyn35 => (intro z hSw; (try dsimp only at hSw); go_simp; (try with_reducible rfl))
            try simp only [Act.put, List.setIfInBounds_toArray, List.set_cons_zero, List.set_cons_succ]
            refine wpAnyH_take (i := 8) (oi := ?on36) (v := ?vn36) ?hin36 ?an36 ?bn36 ?cn36 ?qn36 (Or.inl ⟨?dn36, ?hyn36⟩) hHeld ?restn36
            case hin36 => (simp only [List.getElem?_toArray, List.getElem?_cons_succ, List.getElem?_cons_zero]; exact rfl)
            case an36 => kernel_rfl
            case bn36 => kernel_rfl
            case cn36 => kernel_rfl
            case qn36 => exact fun _ _ _ h => h
            case dn36 => rfl
            case hyn36 => (intro z hSw; (try dsimp only at hSw); go_simp; (try with_reducible rfl))
            try simp only [Act.put, List.setIfInBounds_toArray, List.set_cons_zero, List.set_cons_succ]
            refine wpAnyH_take (i := 9) (oi := ?on37) (v := ?vn37) ?hin37 ?an37 ?bn37 ?cn37 ?qn37 (Or.inl ⟨?dn37, ?hyn37⟩) hHeld ?restn37
            case hin37 => (simp only [List.getElem?_toArray, List.getElem?_cons_succ, List.getElem?_cons_zero]; exact rfl)
            case an37 => kernel_rfl
            case bn37 => kernel_rfl
            case cn37 => kernel_rfl
            case qn37 => exact fun _ _ _ h => h
            case dn37 => rfl
            case hyn37 => (intro z hSw; (try dsimp only at hSw); go_simp; (try with_reducible rfl))
            try simp only [Act.put, List.setIfInBounds_toArray, List.set_cons_zero, List.set_cons_succ]
            refine wpAnyH_take (i := 10) (oi := ?on38) (v := ?vn38) ?hin38 ?an38 ?bn38 ?cn38 ?qn38 (Or.inl ⟨?dn38, ?hyn38⟩) hHeld ?restn38
            case hin38 => (simp only [List.getElem?_toArray, List.getElem?_cons_succ, List.getElem?_cons_zero]; exact rfl)
            case an38 => kernel_rfl
            case bn38 => kernel_rfl
            case cn38 => kernel_rfl
            case qn38 => exact fun _ _ _ h => h
            case dn38 => rfl
            case hyn38 => (intro z hSw; (try dsimp only at hSw); go_simp; (try with_reducible rfl))
            try simp only [Act.put, List.setIfInBounds_toArray, List.set_cons_zero, List.set_cons_succ]
            refine wpAnyH_take (i := 12) (oi := ?on39) (v := ?vn39) ?hin39 ?an39 ?bn39 ?cn39 ?qn39 (Or.inl ⟨?dn39, ?hyn39⟩) hHeld ?restn39
            case hin39 => (simp only [List.getElem?_toArray, List.getElem?_cons_succ, List.getElem?_cons_zero]; exact rfl)
            case an39 => kernel_rfl
            case bn39 => kernel_rfl
            case cn39 => kernel_rfl
            case qn39 => exact fun _ _ _ h => h
            case dn39 => rfl
            case hyn39 => (intro z hSw; (try dsimp only at hSw); go_simp; (try with_reducible rfl))
            try simp only [Act.put, List.setIfInBounds_toArray, List.set_cons_zero, List.set_cons_succ]
            refine wpAnyH_take (i := 13) (oi := ?on40) (v := ?vn40) ?hin40 ?an40 ?bn40 ?cn40 ?qn40 (Or.inl ⟨?dn40, ?hyn40⟩) hHeld ?restn40
            case hin40 => (simp only [List.getElem?_toArray, List.getElem?_cons_succ, List.getElem?_cons_zero]; exact rfl)
            case an40 => kernel_rfl
            case bn40 => kernel_rfl
            case cn40 => kernel_rfl
            case qn40 => exact fun _ _ _ h => h
            case dn40 => rfl
            case hyn40 => (intro z hSw; (try dsimp only at hSw); go_simp; (try with_reducible rfl))
            try simp only [Act.put, List.setIfInBounds_toArray, List.set_cons_zero, List.set_cons_succ]
            refine wpAnyH_take (i := 14) (oi := ?on41) (v := ?vn41) ?hin41 ?an41 ?bn41 ?cn41 ?qn41 (Or.inl ⟨?dn41, ?hyn41⟩) hHeld ?restn41
            case hin41 => (simp only [List.getElem?_toArray, List.getElem?_cons_succ, List.getElem?_cons_zero]; exact rfl)
            case an41 => kernel_rfl
            case bn41 => kernel_rfl
            case cn41 => kernel_rfl
            case qn41 => exact fun _ _ _ h => h
            case dn41 => rfl
            case hyn41 => (intro z hSw; (try dsimp only at hSw); go_simp; (try with_reducible rfl))
            try simp only [Act.put, List.setIfInBounds_toArray, List.set_cons_zero, List.set_cons_succ]
            refine wpAnyH_ready (rs := [11]) (by kernel_rfl) (by simp) ?_
            refine AllReadyH.cons (o := ?on42) ?hin42 ?restn42 AllReadyH.nil
            case hin42 => (simp only [List.getElem?_toArray, List.getElem?_cons_succ, List.getElem?_cons_zero]; exact rfl)
            intro K hK
            go_simp
            go_at_call 133
            refine (KN.out _).mono ?_
            rintro e w4 ⟨rfl, rfl⟩
            refine hK.out _ _ ?_ (fun hHeld => ?_)
            · (try dsimp only); first | with_reducible assumption | exact Grew.alloc ‹_› _
            clear hK K
            try simp only [Act.put, List.setIfInBounds_toArray, List.set_cons_zero, List.set_cons_succ]
            refine wpAnyH_take (i := 15) (oi := ?on43) (v := ?vn43) ?hin43 ?an43 ?bn43 ?cn43 ?qn43 (Or.inl ⟨?dn43, ?hyn43⟩) hHeld ?restn43
            case hin43 => (simp only [List.getElem?_toArray, List.getElem?_cons_succ, List.getElem?_cons_zero]; exact rfl)
            case an43 => kernel_rfl
            case bn43 => kernel_rfl
            case cn43 => kernel_rfl
            case qn43 => exact fun _ _ _ h => h
            case dn43 => rfl
            case hyn43 => (intro z hSw; (try dsimp only at hSw); go_simp; (try with_reducible rfl))
            try simp only [Act.put, List.setIfInBounds_toArray, List.set_cons_zero, List.set_cons_succ]
            refine wpAnyH_take (i := 16) (oi := ?on44) (v := ?vn44) ?hin44 ?an44 ?bn44 ?cn44 ?qn44 (Or.inl ⟨?dn44, ?hyn44⟩) hHeld ?restn44
            case hin44 => (simp only [List.getElem?_toArray, List.getElem?_cons_succ, List.getElem?_cons_zero]; exact rfl)
            case an44 => kernel_rfl
            case bn44 => kernel_rfl
            case cn44 => kernel_rfl
            case qn44 => exact fun _ _ _ h => h
            case dn44 => rfl
            case hyn44 => (intro z hSw; (try dsimp only at hSw); go_simp; (try with_reducible rfl))
            try simp only [Act.put, List.setIfInBounds_toArray, List.set_cons_zero, List.set_cons_succ]
            refine wpAnyH_take (i := 17) (oi := ?on45) (v := ?vn45) ?hin45 ?an45 ?bn45 ?cn45 ?qn45 (Or.inl ⟨?dn45, ?hyn45⟩) hHeld ?restn45
            case hin45 => (simp only [List.getElem?_toArray, List.getElem?_cons_succ, List.getElem?_cons_zero]; exact rfl)
            case an45 => kernel_rfl
            case bn45 => kernel_rfl
            case cn45 => kernel_rfl
            case qn45 => exact fun _ _ _ h => h
            case dn45 => rfl
            case hyn45 => (intro z hSw; (try dsimp only at hSw); go_simp; (try with_reducible rfl))
            try simp only [Act.put, List.setIfInBounds_toArray, List.set_cons_zero, List.set_cons_succ]
            refine wpAnyH_take (i := 18) (oi := ?on46) (v := ?vn46) ?hin46 ?an46 ?bn46 ?cn46 ?qn46 (Or.inl ⟨?dn46, ?hyn46⟩) hHeld ?restn46
            case hin46 => (simp only [List.getElem?_toArray, List.getElem?_cons_succ, List.getElem?_cons_zero]; exact rfl)
            case an46 => kernel_rfl
            case bn46 => kernel_rfl
            case cn46 => kernel_rfl
            case qn46 => exact fun _ _ _ h => h
            case dn46 => rfl
            case hyn46 => (intro z hSw; (try dsimp only at hSw); go_simp; (try with_reducible rfl))
            try simp only [Act.put, List.setIfInBounds_toArray, List.set_cons_zero, List.set_cons_succ]
            refine wpAnyH_take (i := 19) (oi := ?on47) (v := ?vn47) ?hin47 ?an47 ?bn47 ?cn47 ?qn47 (Or.inl ⟨?dn47, ?hyn47⟩) hHeld ?restn47
            case hin47 => (simp only [List.getElem?_toArray, List.getElem?_cons_succ, List.getElem?_cons_zero]; exact rfl)
            case an47 => kernel_rfl
            case bn47 => kernel_rfl
            case cn47 => kernel_rfl
            case qn47 => exact fun _ _ _ h => h
            case dn47 => rfl
            case hyn47 => (intro z hSw; (try dsimp only at hSw); go_simp; (try with_reducible rfl))
            try simp only [Act.put, List.setIfInBounds_toArray, List.set_cons_zero, List.set_cons_succ]
            refine wpAnyH_take (i := 20) (oi := ?on48) (v := ?vn48) ?hin48 ?an48 ?bn48 ?cn48 ?qn48 (Or.inl ⟨?dn48, ?hyn48⟩) hHeld ?restn48
            case hin48 => (simp only [List.getElem?_toArray, List.getElem?_cons_succ, List.getElem?_cons_zero]; exact rfl)
            case an48 => kernel_rfl
            case bn48 => kernel_rfl
            case cn48 => kernel_rfl
            case qn48 => exact fun _ _ _ h => h
            case dn48 => rfl
            case hyn48 => (intro z hSw; (try dsimp only at hSw); go_simp; (try with_reducible rfl))
            try simp only [Act.put, List.setIfInBounds_toArray, List.set_cons_zero, List.set_cons_succ]
            refine wpAnyH_take (i := 21) (oi := ?on49) (v := ?vn49) ?hin49 ?an49 ?bn49 ?cn49 ?qn49 (Or.inl ⟨?dn49, ?hyn49⟩) hHeld ?restn49
            case hin49 => (simp only [List.getElem?_toArray, List.getElem?_cons_succ, List.getElem?_cons_zero]; exact rfl)
            case an49 => kernel_rfl
            case bn49 => kernel_rfl
            case cn49 => kernel_rfl
            case qn49 => exact fun _ _ _ h => h
            case dn49 => rfl
            case hyn49 => (intro z hSw; (try dsimp only at hSw); go_simp; (try with_reducible rfl))
            try simp only [Act.put, List.setIfInBounds_toArray, List.set_cons_zero, List.set_cons_succ]
            refine wpAnyH_take (i := 22) (oi := ?on50) (v := ?vn50) ?hin50 ?an50 ?bn50 ?cn50 ?qn50 (Or.inl ⟨?dn50, ?hyn50⟩) hHeld ?restn50
            case hin50 => (simp only [List.getElem?_toArray, List.getElem?_cons_succ, List.getElem?_cons_zero]; exact rfl)
            case an50 => kernel_rfl
            case bn50 => kernel_rfl
            case cn50 => kernel_rfl
            case qn50 => exact fun _ _ _ h => h
            case dn50 => rfl
            case hyn50 => (intro z hSw; (try dsimp only at hSw); go_simp; (try with_reducible rfl))
            try simp only [Act.put, List.setIfInBounds_toArray, List.set_cons_zero, List.set_cons_succ]
            refine wpAnyH_take (i := 23) (oi := ?on51) (v := ?vn51) ?hin51 ?an51 ?bn51 ?cn51 ?qn51 (Or.inl ⟨?dn51, ?hyn51⟩) hHeld ?restn51
            case hin51 => (simp only [List.getElem?_toArray, List.getElem?_cons_succ, List.getElem?_cons_zero]; exact rfl)
            case an51 => kernel_rfl
            case bn51 => kernel_rfl
            case cn51 => kernel_rfl
            case qn51 => exact fun _ _ _ h => h
            case dn51 => rfl
            case hyn51 => (intro z hSw; (try dsimp only at hSw); go_simp; (try with_reducible rfl))
            try simp only [Act.put, List.setIfInBounds_toArray, List.set_cons_zero, List.set_cons_succ]
            refine wpAnyH_take (i := 24) (oi := ?on52) (v := ?vn52) ?hin52 ?an52 ?bn52 ?cn52 ?qn52 (Or.inl ⟨?dn52, ?hyn52⟩) hHeld ?restn52
            case hin52 => (simp only [List.getElem?_toArray, List.getElem?_cons_succ, List.getElem?_cons_zero]; exact rfl)
            case an52 => kernel_rfl
            case bn52 => kernel_rfl
            case cn52 => kernel_rfl
            case qn52 => exact fun _ _ _ h => h
            case dn52 => rfl
            case hyn52 => (intro z hSw; (try dsimp only at hSw); go_simp; (try with_reducible rfl))
            try simp only [Act.put, List.setIfInBounds_toArray, List.set_cons_zero, List.set_cons_succ]
            refine wpAnyH_take (i := 25) (oi := ?on53) (v := ?vn53) ?hin53 ?an53 ?bn53 ?cn53 ?qn53 (Or.inl ⟨?dn53, ?hyn53⟩) hHeld ?restn53
            case hin53 => (simp only [List.getElem?_toArray, List.getElem?_cons_succ, List.getElem?_cons_zero]; exact rfl)
            case an53 => kernel_rfl
            case bn53 => kernel_rfl
            case cn53 => kernel_rfl
            case qn53 => exact fun _ _ _ h => h
            case dn53 => rfl
            case hyn53 => (intro z hSw; (try dsimp only at hSw); go_simp; (try with_reducible rfl))
            try simp only [Act.put, List.setIfInBounds_toArray, List.set_cons_zero, List.set_cons_succ]
            refine wpAnyH_take (i := 26) (oi := ?on54) (v := ?vn54) ?hin54 ?an54 ?bn54 ?cn54 ?qn54 (Or.inl ⟨?dn54, ?hyn54⟩) hHeld ?restn54
            case hin54 => (simp only [List.getElem?_toArray, List.getElem?_cons_succ, List.getElem?_cons_zero]; exact rfl)
            case an54 => kernel_rfl
            case bn54 => kernel_rfl
            case cn54 => kernel_rfl
            case qn54 => exact fun _ _ _ h => h
            case dn54 => rfl
            case hyn54 => (intro z hSw; (try dsimp only at hSw); go_simp; (try with_reducible rfl))
            try simp only [Act.put, List.setIfInBounds_toArray, List.set_cons_zero, List.set_cons_succ]
            refine wpAnyH_done (by kernel_rfl) ?_ _

            go_wp2_with fail
            go_loopw [6, 9] (fun v6 i wr => ∃ j : Nat, j ≤ x.2.1.length ∧ i = .int .i64 j ∧ OwnP w wr w.heap.size v6 (pre bef x.2.1 j) ∧ Grew w wr ∧ Hid (BoxD wr (w.heap.size + 1) x (.slice A x.2.1.length cP) (.slice UA x.2.2.1.length ca)) ∧ w.heap.size + 1 < wr.heap.size ∧ v6.ownBlock ≠ some (w.heap.size + 1) ∧ Hid (Prem bef x.2.1 j)) (fun _ i _ => x.2.1.length - (intOf i).toNat)
            case atStart => exact ⟨0, Nat.zero_le _, rfl, OwnP.nil_ w (Nat.le_refl _) ((mk3.block (by omega)).trans HBK.out), gk3, Lib.hid (HBX1.out.grew hsz mk3), by have := mk3.size; omega, by simp [Value.ownBlock], Lib.hid (fun i hi => absurd hi (by omega))⟩
            case round =>
              obtain ⟨j, hj, rfl, hO, hB, HX, hsw, hnb, HP⟩ := hrel
              have hJl := pre_len bef x.2.1 j
              obtain ⟨b0, b1, b2, b3, b4⟩ := HX.out
              by_cases hlt2 : j < x.2.1.length
              · rcases HUP.out.open_ with ⟨_, h0⟩ | ⟨pb, po, pc, hv1, _, hm1, hb1, hc1⟩
                · rw [h0] at hlt2; simp at hlt2
                obtain ⟨rfl, rfl⟩ : A = some ⟨pb, po, none⟩ ∧ cP = pc := by simpa using hv1
                have KR := fun W => l01In_c (it x.2.1 j) 0 ((k : Int) - 1) W
                have q1 := hc1 j hlt2 _ hB
                by_cases hr : 0 ≤ it x.2.1 j ∧ it x.2.1 j ≤ (k : Int) - 1
                · rw [decide_eq_true hr] at KR
                  replace KR := Lib.hid KR
                  obtain ⟨m, hmi⟩ : ∃ m : Nat, it x.2.1 j = m := ⟨(it x.2.1 j).toNat, by omega⟩
                  have hmk : m < k := by omega
                  have hmx : m < xs.length := by omega
                  have hy : xs[m]? = some xs[m] := List.getElem?_eq_getElem hmx
                  generalize xs[m] = y at hy
                  obtain ⟨yp, ya, hcy, hyp, hys⟩ := HC.out m y hy
                  have HST := Lib.hid (pre_succ hlt2 hmi (HTK.out m y hmk hy))
                  have HCY := Lib.hid hcy
                  have HPN : Hid (Prem bef x.2.1 (j + 1)) := Lib.hid (fun i hi => by
                    rcases Nat.lt_or_ge i j with hk | hk
                    · exact HP.out i hk
                    · obtain rfl : i = j := by omega
                      rw [HBL.out]
                      exact hr)
                  rw [hmi] at q1 KR
                  have q1' := fun W (hW : Grew w W) => (hc1 j hlt2 W hW).trans (by rw [hmi])
                  have HYP := Lib.hid hyp
                  have HYS := Lib.hid hys
                  obtain ⟨YA, yc, rfl⟩ := ints_slice hyp
                  obtain ⟨YS, sc, rfl⟩ := strs_slice hys
                  clear hcy hr hmi hy hyp hys hv1 hc1
                  generalize pre bef x.2.1 j = X at *
                  go_wp2_with fail
                  refine (KR.out _).mono ?_
                  rintro e w4 ⟨rfl, hg4⟩
                  have hB4 := hB.trans hg4
                  obtain ⟨c0, c1, c2, c3, c4⟩ := HX.out.grew hsw hg4
                  have q2 := q1' _ hB4
                  obtain ⟨r0, r1, r2, r3, r4⟩ := HCY.out.grew hbb hB4
                  have hO1 := hO.grew (hg4.trans ((Grew.refl w4).alloc (.cells #[.int .i64 y.1, .slice YA y.2.1.length yc, .slice YS y.2.2.1.length sc, .string y.2.2.2.1, .int .i64 y.2.2.2.2] 50)))
                  have hB1 := hB4.alloc (.cells #[.int .i64 y.1, .slice YA y.2.1.length yc, .slice YS y.2.2.1.length sc, .string y.2.2.2.1, .int .i64 y.2.2.2.2] 50)
                  have HX1 := Lib.hid (HX.out.grew hsw (hg4.trans ((Grew.refl w4).alloc (.cells #[.int .i64 y.1, .slice YA y.2.1.length yc, .slice YS y.2.2.1.length sc, .string y.2.2.2.1, .int .i64 y.2.2.2.2] 50))))
                  have hs4 : w.heap.size + 1 < (w4.alloc (.cells #[.int .i64 y.1, .slice YA y.2.1.length yc, .slice YS y.2.2.1.length sc, .string y.2.2.2.1, .int .i64 y.2.2.2.2] 50)).heap.size := by have := hg4.size; simp; omega
                  go_wp2_with (first | (at_builtin; refine wpList_appD (w0 := w) _ _ rfl rfl _ X rfl hO1 hB1 _ _ _ y rfl (rd_litD _ _ _ _ _ _ _) HYP.out HYS.out (by omega) ?_; intro v2 w5 hown2 hg5 hgr5 hob5))
                  go_roundw
                  case rel =>
                    refine ⟨j + 1, by omega, by go_num, by rw [HST.out]; exact hown2, hg5, Lib.hid (HX1.out.far hs4 hgr5 (fun h => hnb h.symm)), by have := hgr5.size; omega, ?_, HPN⟩
                    rcases hob5 with h | h
                    · rw [h]; exact hnb
                    · rw [h]; simp only [ne_eq, Option.some.injEq]; omega
                  case measure => simp [intOf]; omega
                · rw [decide_eq_false hr] at KR
                  replace KR := Lib.hid KR
                  have HNO := Lib.hid (dcd_false (p := goodP bef x) (fun h => hr (by have := prem_all.2 h.2.1 j hlt2; rw [HBL.out] at this; exact this)))
                  clear hr hc1 hv1
                  generalize it x.2.1 j = q at *
                  go_wp2_with fail
                  refine (KR.out _).mono ?_
                  rintro e w4 ⟨rfl, hg4⟩
                  go_wp2_with fail
                  go_ret
                  exact ⟨congrArg (fun b => Ending.returned (Value.bool b)) HNO.out.symm, hB.trans hg4⟩
              · obtain rfl : j = x.2.1.length := by omega
                have KT := rule_all x x.2.1.length hn.out _ _ u6 (pre bef x.2.1 x.2.1.length) wr (HUP.out.grew hB) (HS.out.grew hB) (hO.dds hB) hg.out (pre_gp HGB.out HP.out) ha12 (pre_all _ _)
                rw [pre_map, givenN_all] at KT
                have hfin : goodP bef x ↔ (introP x (given bef x.2.1) ∨ elimP x (given bef x.2.1)) := ⟨fun h => h.2.2, fun h => ⟨⟨ha.out, hg.out, hnn.out⟩, prem_all.1 HP.out, h⟩⟩
                have HFIN := Lib.hid (dcd_congr hfin).symm
                clear hfin
                generalize dcd (introP x (given bef x.2.1) ∨ elimP x (given bef x.2.1)) = R at *
                replace KT := Lib.hid KT
                go_wp2_with fail
                refine (KT.out).mono ?_
                rintro e w4 ⟨rfl, hg4⟩
                go_wp2_with fail
                go_ret
                exact ⟨congrArg (fun b => Ending.returned (Value.bool b)) HFIN.out, hB.trans hg4⟩
        · rw [dcd_false (fun h => hnn h.1.2.2)]
          rw [not_or] at hnn
          have e1 : (x.1 != 1) = true := by simpa using hnn.1
          have e2 : (x.2.2.2.2 != 0) = true := by simpa using hnn.2
          clear hnn hn hg ha
          replace KF := Lib.hid KF
          replace KL := Lib.hid KL
          go_enter Tryz.func102, Tryz.ntmps102
          go_wp2_with fail
          refine (KF.out _).mono ?_
          rintro e w1 ⟨uf, rfl, hof, hg1⟩
          clear hof
          have g1 := hal.trans hg1
          obtain ⟨hbx, hblk, hsz⟩ := HBX.out _ hg1
          have f0 := fun W (hW : Grew w1 W) => (hbx.grew hsz hW).1
          have f1 := fun W (hW : Grew w1 W) => (hbx.grew hsz hW).2.1
          have f2 := fun W (hW : Grew w1 W) => (hbx.grew hsz hW).2.2.1
          have f4 := fun W (hW : Grew w1 W) => (hbx.grew hsz hW).2.2.2.2
          have HBX1 := Lib.hid hbx
          have HBK := Lib.hid hblk
          have r1 := Grew.refl w1
          have d1 := r1.drew
          have gd := g1.trans d1
          clear hbx hblk k0 k1 k2 k3 k4
          go_wp2_with fail
          refine wp_region_held_drew (S := fun w' => Grew w1 w') (by kernel_rfl) d1 (fun hHeld => ?_)
          refine wpAnyH_take (i := 0) (oi := ?on55) (v := ?vn55) ?hin55 ?an55 ?bn55 ?cn55 ?qn55 (Or.inl ⟨?dn55, ?hyn55⟩) hHeld ?restn55
          case hin55 => (simp only [List.getElem?_toArray, List.getElem?_cons_succ, List.getElem?_cons_zero]; exact rfl)
          case an55 => kernel_rfl
          case bn55 => kernel_rfl
          case cn55 => kernel_rfl
          case qn55 => exact fun _ _ _ h => h
          case dn55 => rfl
          case hyn55 => (intro z hSw; (try dsimp only at hSw); go_simp; (try with_reducible rfl))
          try simp only [Act.put, List.setIfInBounds_toArray, List.set_cons_zero, List.set_cons_succ]
          refine wpAnyH_take (i := 1) (oi := ?on56) (v := ?vn56) ?hin56 ?an56 ?bn56 ?cn56 ?qn56 (Or.inl ⟨?dn56, ?hyn56⟩) hHeld ?restn56
          case hin56 => (simp only [List.getElem?_toArray, List.getElem?_cons_succ, List.getElem?_cons_zero]; exact rfl)
          case an56 => kernel_rfl
          case bn56 => kernel_rfl
          case cn56 => kernel_rfl
          case qn56 => exact fun _ _ _ h => h
          case dn56 => rfl
          case hyn56 => (intro z hSw; (try dsimp only at hSw); go_simp; (try with_reducible rfl))
          try simp only [Act.put, List.setIfInBounds_toArray, List.set_cons_zero, List.set_cons_succ]
          refine wpAnyH_take (i := 2) (oi := ?on57) (v := ?vn57) ?hin57 ?an57 ?bn57 ?cn57 ?qn57 (Or.inl ⟨?dn57, ?hyn57⟩) hHeld ?restn57
          case hin57 => (simp only [List.getElem?_toArray, List.getElem?_cons_succ, List.getElem?_cons_zero]; exact rfl)
          case an57 => kernel_rfl
          case bn57 => kernel_rfl
          case cn57 => kernel_rfl
          case qn57 => exact fun _ _ _ h => h
          case dn57 => rfl
          case hyn57 => (intro z hSw; (try dsimp only at hSw); go_simp; (try with_reducible rfl))
          try simp only [Act.put, List.setIfInBounds_toArray, List.set_cons_zero, List.set_cons_succ]
          refine wpAnyH_take (i := 3) (oi := ?on58) (v := ?vn58) ?hin58 ?an58 ?bn58 ?cn58 ?qn58 (Or.inl ⟨?dn58, ?hyn58⟩) hHeld ?restn58
          case hin58 => (simp only [List.getElem?_toArray, List.getElem?_cons_succ, List.getElem?_cons_zero]; exact rfl)
          case an58 => kernel_rfl
          case bn58 => kernel_rfl
          case cn58 => kernel_rfl
          case qn58 => exact fun _ _ _ h => h
          case dn58 => rfl
          case hyn58 => (intro z hSw; (try dsimp only at hSw); go_simp; (try with_reducible rfl))
          try simp only [Act.put, List.setIfInBounds_toArray, List.set_cons_zero, List.set_cons_succ]
          refine wpAnyH_take (i := 4) (oi := ?on59) (v := ?vn59) ?hin59 ?an59 ?bn59 ?cn59 ?qn59 (Or.inl ⟨?dn59, ?hyn59⟩) hHeld ?restn59
          case hin59 => (simp only [List.getElem?_toArray, List.getElem?_cons_succ, List.getElem?_cons_zero]; exact rfl)
          case an59 => kernel_rfl
          case bn59 => kernel_rfl
          case cn59 => kernel_rfl
          case qn59 => exact fun _ _ _ h => h
          case dn59 => rfl
          case hyn59 => (intro z hSw; (try dsimp only at hSw); go_simp; (try with_reducible rfl))
          try simp only [Act.put, List.setIfInBounds_toArray, List.set_cons_zero, List.set_cons_succ]
          refine wpAnyH_ready (rs := [5]) (by kernel_rfl) (by simp) ?_
          refine AllReadyH.cons (o := ?on60) ?hin60 ?restn60 AllReadyH.nil
          case hin60 => (simp only [List.getElem?_toArray, List.getElem?_cons_succ, List.getElem?_cons_zero]; exact rfl)
          intro K hK
          go_simp
          go_at_call 132
          refine (KL.out _ gd).mono ?_
          rintro e w3 ⟨rfl, hg3⟩
          have gk3 := gd.trans hg3
          have mk3 := d1.trans hg3
          refine hK.out _ _ ?_ (fun hHeld => ?_)
          · (try dsimp only); first | with_reducible assumption | exact Grew.alloc ‹_› _
          clear hK K
          try simp only [Act.put, List.setIfInBounds_toArray, List.set_cons_zero, List.set_cons_succ]
          refine wpAnyH_take (i := 6) (oi := ?on61) (v := ?vn61) ?hin61 ?an61 ?bn61 ?cn61 ?qn61 (Or.inl ⟨?dn61, ?hyn61⟩) hHeld ?restn61
          case hin61 => (simp only [List.getElem?_toArray, List.getElem?_cons_succ, List.getElem?_cons_zero]; exact rfl)
          case an61 => kernel_rfl
          case bn61 => kernel_rfl
          case cn61 => kernel_rfl
          case qn61 => exact fun _ _ _ h => h
          case dn61 => rfl
          case hyn61 => (intro z hSw; (try dsimp only at hSw); go_simp; (try with_reducible rfl))
          try simp only [Act.put, List.setIfInBounds_toArray, List.set_cons_zero, List.set_cons_succ]
          refine wpAnyH_take (i := 7) (oi := ?on62) (v := ?vn62) ?hin62 ?an62 ?bn62 ?cn62 ?qn62 (Or.inl ⟨?dn62, ?hyn62⟩) hHeld ?restn62
          case hin62 => (simp only [List.getElem?_toArray, List.getElem?_cons_succ, List.getElem?_cons_zero]; exact rfl)
          case an62 => kernel_rfl
          case bn62 => kernel_rfl
          case cn62 => kernel_rfl
          case qn62 => exact fun _ _ _ h => h
          case dn62 => rfl
          case hyn62 => (intro z hSw; (try dsimp only at hSw); go_simp; (try with_reducible rfl))
          try simp only [Act.put, List.setIfInBounds_toArray, List.set_cons_zero, List.set_cons_succ]
          refine wpAnyH_take (i := 8) (oi := ?on63) (v := ?vn63) ?hin63 ?an63 ?bn63 ?cn63 ?qn63 (Or.inl ⟨?dn63, ?hyn63⟩) hHeld ?restn63
          case hin63 => (simp only [List.getElem?_toArray, List.getElem?_cons_succ, List.getElem?_cons_zero]; exact rfl)
          case an63 => kernel_rfl
          case bn63 => kernel_rfl
          case cn63 => kernel_rfl
          case qn63 => exact fun _ _ _ h => h
          case dn63 => rfl
          case hyn63 => (intro z hSw; (try dsimp only at hSw); go_simp; (try with_reducible rfl))
          try simp only [Act.put, List.setIfInBounds_toArray, List.set_cons_zero, List.set_cons_succ]
          refine wpAnyH_take (i := 9) (oi := ?on64) (v := ?vn64) ?hin64 ?an64 ?bn64 ?cn64 ?qn64 (Or.inl ⟨?dn64, ?hyn64⟩) hHeld ?restn64
          case hin64 => (simp only [List.getElem?_toArray, List.getElem?_cons_succ, List.getElem?_cons_zero]; exact rfl)
          case an64 => kernel_rfl
          case bn64 => kernel_rfl
          case cn64 => kernel_rfl
          case qn64 => exact fun _ _ _ h => h
          case dn64 => rfl
          case hyn64 => (intro z hSw; (try dsimp only at hSw); go_simp; (try with_reducible rfl))
          try simp only [Act.put, List.setIfInBounds_toArray, List.set_cons_zero, List.set_cons_succ]
          refine wpAnyH_take (i := 10) (oi := ?on65) (v := ?vn65) ?hin65 ?an65 ?bn65 ?cn65 ?qn65 (Or.inl ⟨?dn65, ?hyn65⟩) hHeld ?restn65
          case hin65 => (simp only [List.getElem?_toArray, List.getElem?_cons_succ, List.getElem?_cons_zero]; exact rfl)
          case an65 => kernel_rfl
          case bn65 => kernel_rfl
          case cn65 => kernel_rfl
          case qn65 => exact fun _ _ _ h => h
          case dn65 => rfl
          case hyn65 => (intro z hSw; (try dsimp only at hSw); go_simp; (try with_reducible rfl))
          try simp only [Act.put, List.setIfInBounds_toArray, List.set_cons_zero, List.set_cons_succ]
          refine wpAnyH_take (i := 12) (oi := ?on66) (v := ?vn66) ?hin66 ?an66 ?bn66 ?cn66 ?qn66 (Or.inl ⟨?dn66, ?hyn66⟩) hHeld ?restn66
          case hin66 => (simp only [List.getElem?_toArray, List.getElem?_cons_succ, List.getElem?_cons_zero]; exact rfl)
          case an66 => kernel_rfl
          case bn66 => kernel_rfl
          case cn66 => kernel_rfl
          case qn66 => exact fun _ _ _ h => h
          case dn66 => rfl
          case hyn66 => (intro z hSw; (try dsimp only at hSw); go_simp; (try with_reducible rfl))
          try simp only [Act.put, List.setIfInBounds_toArray, List.set_cons_zero, List.set_cons_succ]
          refine wpAnyH_take (i := 13) (oi := ?on67) (v := ?vn67) ?hin67 ?an67 ?bn67 ?cn67 ?qn67 (Or.inl ⟨?dn67, ?hyn67⟩) hHeld ?restn67
          case hin67 => (simp only [List.getElem?_toArray, List.getElem?_cons_succ, List.getElem?_cons_zero]; exact rfl)
          case an67 => kernel_rfl
          case bn67 => kernel_rfl
          case cn67 => kernel_rfl
          case qn67 => exact fun _ _ _ h => h
          case dn67 => rfl
          case hyn67 => (intro z hSw; (try dsimp only at hSw); go_simp; (try with_reducible rfl))
          try simp only [Act.put, List.setIfInBounds_toArray, List.set_cons_zero, List.set_cons_succ]
          refine wpAnyH_take (i := 14) (oi := ?on68) (v := ?vn68) ?hin68 ?an68 ?bn68 ?cn68 ?qn68 (Or.inl ⟨?dn68, ?hyn68⟩) hHeld ?restn68
          case hin68 => (simp only [List.getElem?_toArray, List.getElem?_cons_succ, List.getElem?_cons_zero]; exact rfl)
          case an68 => kernel_rfl
          case bn68 => kernel_rfl
          case cn68 => kernel_rfl
          case qn68 => exact fun _ _ _ h => h
          case dn68 => rfl
          case hyn68 => (intro z hSw; (try dsimp only at hSw); go_simp; (try with_reducible rfl))
          try simp only [Act.put, List.setIfInBounds_toArray, List.set_cons_zero, List.set_cons_succ]
          refine wpAnyH_ready (rs := [11]) (by kernel_rfl) (by simp) ?_
          refine AllReadyH.cons (o := ?on69) ?hin69 ?restn69 AllReadyH.nil
          case hin69 => (simp only [List.getElem?_toArray, List.getElem?_cons_succ, List.getElem?_cons_zero]; exact rfl)
          intro K hK
          go_simp
          go_at_call 133
          refine (KN.out _).mono ?_
          rintro e w4 ⟨rfl, rfl⟩
          refine hK.out _ _ ?_ (fun hHeld => ?_)
          · (try dsimp only); first | with_reducible assumption | exact Grew.alloc ‹_› _
          clear hK K
          try simp only [Act.put, List.setIfInBounds_toArray, List.set_cons_zero, List.set_cons_succ]
          refine wpAnyH_take (i := 15) (oi := ?on70) (v := ?vn70) ?hin70 ?an70 ?bn70 ?cn70 ?qn70 (Or.inl ⟨?dn70, ?hyn70⟩) hHeld ?restn70
          case hin70 => (simp only [List.getElem?_toArray, List.getElem?_cons_succ, List.getElem?_cons_zero]; exact rfl)
          case an70 => kernel_rfl
          case bn70 => kernel_rfl
          case cn70 => kernel_rfl
          case qn70 => exact fun _ _ _ h => h
          case dn70 => rfl
          case hyn70 => (intro z hSw; (try dsimp only at hSw); go_simp; (try with_reducible rfl))
          try simp only [Act.put, List.setIfInBounds_toArray, List.set_cons_zero, List.set_cons_succ]
          refine wpAnyH_take (i := 16) (oi := ?on71) (v := ?vn71) ?hin71 ?an71 ?bn71 ?cn71 ?qn71 (Or.inl ⟨?dn71, ?hyn71⟩) hHeld ?restn71
          case hin71 => (simp only [List.getElem?_toArray, List.getElem?_cons_succ, List.getElem?_cons_zero]; exact rfl)
          case an71 => kernel_rfl
          case bn71 => kernel_rfl
          case cn71 => kernel_rfl
          case qn71 => exact fun _ _ _ h => h
          case dn71 => rfl
          case hyn71 => (intro z hSw; (try dsimp only at hSw); go_simp; (try with_reducible rfl))
          try simp only [Act.put, List.setIfInBounds_toArray, List.set_cons_zero, List.set_cons_succ]
          refine wpAnyH_take (i := 17) (oi := ?on72) (v := ?vn72) ?hin72 ?an72 ?bn72 ?cn72 ?qn72 (Or.inl ⟨?dn72, ?hyn72⟩) hHeld ?restn72
          case hin72 => (simp only [List.getElem?_toArray, List.getElem?_cons_succ, List.getElem?_cons_zero]; exact rfl)
          case an72 => kernel_rfl
          case bn72 => kernel_rfl
          case cn72 => kernel_rfl
          case qn72 => exact fun _ _ _ h => h
          case dn72 => rfl
          case hyn72 => (intro z hSw; (try dsimp only at hSw); go_simp; (try with_reducible rfl))
          try simp only [Act.put, List.setIfInBounds_toArray, List.set_cons_zero, List.set_cons_succ]
          refine wpAnyH_take (i := 18) (oi := ?on73) (v := ?vn73) ?hin73 ?an73 ?bn73 ?cn73 ?qn73 (Or.inl ⟨?dn73, ?hyn73⟩) hHeld ?restn73
          case hin73 => (simp only [List.getElem?_toArray, List.getElem?_cons_succ, List.getElem?_cons_zero]; exact rfl)
          case an73 => kernel_rfl
          case bn73 => kernel_rfl
          case cn73 => kernel_rfl
          case qn73 => exact fun _ _ _ h => h
          case dn73 => rfl
          case hyn73 => (intro z hSw; (try dsimp only at hSw); go_simp; (try with_reducible rfl))
          try simp only [Act.put, List.setIfInBounds_toArray, List.set_cons_zero, List.set_cons_succ]
          refine wpAnyH_take (i := 19) (oi := ?on74) (v := ?vn74) ?hin74 ?an74 ?bn74 ?cn74 ?qn74 (Or.inl ⟨?dn74, ?hyn74⟩) hHeld ?restn74
          case hin74 => (simp only [List.getElem?_toArray, List.getElem?_cons_succ, List.getElem?_cons_zero]; exact rfl)
          case an74 => kernel_rfl
          case bn74 => kernel_rfl
          case cn74 => kernel_rfl
          case qn74 => exact fun _ _ _ h => h
          case dn74 => rfl
          case hyn74 => (intro z hSw; (try dsimp only at hSw); go_simp; (try with_reducible rfl))
          try simp only [Act.put, List.setIfInBounds_toArray, List.set_cons_zero, List.set_cons_succ]
          refine wpAnyH_take (i := 20) (oi := ?on75) (v := ?vn75) ?hin75 ?an75 ?bn75 ?cn75 ?qn75 (Or.inl ⟨?dn75, ?hyn75⟩) hHeld ?restn75
          case hin75 => (simp only [List.getElem?_toArray, List.getElem?_cons_succ, List.getElem?_cons_zero]; exact rfl)
          case an75 => kernel_rfl
          case bn75 => kernel_rfl
          case cn75 => kernel_rfl
          case qn75 => exact fun _ _ _ h => h
          case dn75 => rfl
          case hyn75 => (intro z hSw; (try dsimp only at hSw); go_simp; (try with_reducible rfl))
          try simp only [Act.put, List.setIfInBounds_toArray, List.set_cons_zero, List.set_cons_succ]
          refine wpAnyH_take (i := 21) (oi := ?on76) (v := ?vn76) ?hin76 ?an76 ?bn76 ?cn76 ?qn76 (Or.inl ⟨?dn76, ?hyn76⟩) hHeld ?restn76
          case hin76 => (simp only [List.getElem?_toArray, List.getElem?_cons_succ, List.getElem?_cons_zero]; exact rfl)
          case an76 => kernel_rfl
          case bn76 => kernel_rfl
          case cn76 => kernel_rfl
          case qn76 => exact fun _ _ _ h => h
          case dn76 => rfl
          case hyn76 => (intro z hSw; (try dsimp only at hSw); go_simp; (try with_reducible rfl))
          try simp only [Act.put, List.setIfInBounds_toArray, List.set_cons_zero, List.set_cons_succ]
          refine wpAnyH_take (i := 22) (oi := ?on77) (v := ?vn77) ?hin77 ?an77 ?bn77 ?cn77 ?qn77 (Or.inl ⟨?dn77, ?hyn77⟩) hHeld ?restn77
          case hin77 => (simp only [List.getElem?_toArray, List.getElem?_cons_succ, List.getElem?_cons_zero]; exact rfl)
          case an77 => kernel_rfl
          case bn77 => kernel_rfl
          case cn77 => kernel_rfl
          case qn77 => exact fun _ _ _ h => h
          case dn77 => rfl
          case hyn77 => (intro z hSw; (try dsimp only at hSw); go_simp; (try with_reducible rfl))
          try simp only [Act.put, List.setIfInBounds_toArray, List.set_cons_zero, List.set_cons_succ]
          refine wpAnyH_take (i := 23) (oi := ?on78) (v := ?vn78) ?hin78 ?an78 ?bn78 ?cn78 ?qn78 (Or.inl ⟨?dn78, ?hyn78⟩) hHeld ?restn78
          case hin78 => (simp only [List.getElem?_toArray, List.getElem?_cons_succ, List.getElem?_cons_zero]; exact rfl)
          case an78 => kernel_rfl
          case bn78 => kernel_rfl
          case cn78 => kernel_rfl
          case qn78 => exact fun _ _ _ h => h
          case dn78 => rfl
          case hyn78 => (intro z hSw; (try dsimp only at hSw); go_simp; (try with_reducible rfl))
          try simp only [Act.put, List.setIfInBounds_toArray, List.set_cons_zero, List.set_cons_succ]
          refine wpAnyH_take (i := 24) (oi := ?on79) (v := ?vn79) ?hin79 ?an79 ?bn79 ?cn79 ?qn79 (Or.inl ⟨?dn79, ?hyn79⟩) hHeld ?restn79
          case hin79 => (simp only [List.getElem?_toArray, List.getElem?_cons_succ, List.getElem?_cons_zero]; exact rfl)
          case an79 => kernel_rfl
          case bn79 => kernel_rfl
          case cn79 => kernel_rfl
          case qn79 => exact fun _ _ _ h => h
          case dn79 => rfl
          case hyn79 => (intro z hSw; (try dsimp only at hSw); go_simp; (try with_reducible rfl))
          try simp only [Act.put, List.setIfInBounds_toArray, List.set_cons_zero, List.set_cons_succ]
          refine wpAnyH_take (i := 25) (oi := ?on80) (v := ?vn80) ?hin80 ?an80 ?bn80 ?cn80 ?qn80 (Or.inl ⟨?dn80, ?hyn80⟩) hHeld ?restn80
          case hin80 => (simp only [List.getElem?_toArray, List.getElem?_cons_succ, List.getElem?_cons_zero]; exact rfl)
          case an80 => kernel_rfl
          case bn80 => kernel_rfl
          case cn80 => kernel_rfl
          case qn80 => exact fun _ _ _ h => h
          case dn80 => rfl
          case hyn80 => (intro z hSw; (try dsimp only at hSw); go_simp; (try with_reducible rfl))
          try simp only [Act.put, List.setIfInBounds_toArray, List.set_cons_zero, List.set_cons_succ]
          refine wpAnyH_take (i := 26) (oi := ?on81) (v := ?vn81) ?hin81 ?an81 ?bn81 ?cn81 ?qn81 (Or.inl ⟨?dn81, ?hyn81⟩) hHeld ?restn81
          case hin81 => (simp only [List.getElem?_toArray, List.getElem?_cons_succ, List.getElem?_cons_zero]; exact rfl)
          case an81 => kernel_rfl
          case bn81 => kernel_rfl
          case cn81 => kernel_rfl
          case qn81 => exact fun _ _ _ h => h
          case dn81 => rfl
          case hyn81 => (intro z hSw; (try dsimp only at hSw); go_simp; (try with_reducible rfl))
          try simp only [Act.put, List.setIfInBounds_toArray, List.set_cons_zero, List.set_cons_succ]
          refine wpAnyH_done (by kernel_rfl) ?_ _

          go_wp2_with fail
          go_ret
          exact ⟨rfl, gk3⟩
      · rw [dcd_false (fun h => hn (by have := cnt_of h.2.2; rw [this]; unfold given; simp))]
        have en : (cnt x.1 != (x.2.1.length : Int)) = true := by simpa using hn
        clear hn hg ha
        replace KF := Lib.hid KF
        replace KL := Lib.hid KL
        go_enter Tryz.func102, Tryz.ntmps102
        go_wp2_with fail
        refine (KF.out _).mono ?_
        rintro e w1 ⟨uf, rfl, hof, hg1⟩
        clear hof
        have g1 := hal.trans hg1
        obtain ⟨hbx, hblk, hsz⟩ := HBX.out _ hg1
        have f0 := fun W (hW : Grew w1 W) => (hbx.grew hsz hW).1
        have f1 := fun W (hW : Grew w1 W) => (hbx.grew hsz hW).2.1
        have f2 := fun W (hW : Grew w1 W) => (hbx.grew hsz hW).2.2.1
        have f4 := fun W (hW : Grew w1 W) => (hbx.grew hsz hW).2.2.2.2
        have HBX1 := Lib.hid hbx
        have HBK := Lib.hid hblk
        have r1 := Grew.refl w1
        have d1 := r1.drew
        have gd := g1.trans d1
        clear hbx hblk k0 k1 k2 k3 k4
        go_wp2_with fail
        refine wp_region_held_drew (S := fun w' => Grew w1 w') (by kernel_rfl) d1 (fun hHeld => ?_)
        refine wpAnyH_take (i := 0) (oi := ?on82) (v := ?vn82) ?hin82 ?an82 ?bn82 ?cn82 ?qn82 (Or.inl ⟨?dn82, ?hyn82⟩) hHeld ?restn82
        case hin82 => (simp only [List.getElem?_toArray, List.getElem?_cons_succ, List.getElem?_cons_zero]; exact rfl)
        case an82 => kernel_rfl
        case bn82 => kernel_rfl
        case cn82 => kernel_rfl
        case qn82 => exact fun _ _ _ h => h
        case dn82 => rfl
        case hyn82 => (intro z hSw; (try dsimp only at hSw); go_simp; (try with_reducible rfl))
        try simp only [Act.put, List.setIfInBounds_toArray, List.set_cons_zero, List.set_cons_succ]
        refine wpAnyH_take (i := 1) (oi := ?on83) (v := ?vn83) ?hin83 ?an83 ?bn83 ?cn83 ?qn83 (Or.inl ⟨?dn83, ?hyn83⟩) hHeld ?restn83
        case hin83 => (simp only [List.getElem?_toArray, List.getElem?_cons_succ, List.getElem?_cons_zero]; exact rfl)
        case an83 => kernel_rfl
        case bn83 => kernel_rfl
        case cn83 => kernel_rfl
        case qn83 => exact fun _ _ _ h => h
        case dn83 => rfl
        case hyn83 => (intro z hSw; (try dsimp only at hSw); go_simp; (try with_reducible rfl))
        try simp only [Act.put, List.setIfInBounds_toArray, List.set_cons_zero, List.set_cons_succ]
        refine wpAnyH_take (i := 2) (oi := ?on84) (v := ?vn84) ?hin84 ?an84 ?bn84 ?cn84 ?qn84 (Or.inl ⟨?dn84, ?hyn84⟩) hHeld ?restn84
        case hin84 => (simp only [List.getElem?_toArray, List.getElem?_cons_succ, List.getElem?_cons_zero]; exact rfl)
        case an84 => kernel_rfl
        case bn84 => kernel_rfl
        case cn84 => kernel_rfl
        case qn84 => exact fun _ _ _ h => h
        case dn84 => rfl
        case hyn84 => (intro z hSw; (try dsimp only at hSw); go_simp; (try with_reducible rfl))
        try simp only [Act.put, List.setIfInBounds_toArray, List.set_cons_zero, List.set_cons_succ]
        refine wpAnyH_take (i := 3) (oi := ?on85) (v := ?vn85) ?hin85 ?an85 ?bn85 ?cn85 ?qn85 (Or.inl ⟨?dn85, ?hyn85⟩) hHeld ?restn85
        case hin85 => (simp only [List.getElem?_toArray, List.getElem?_cons_succ, List.getElem?_cons_zero]; exact rfl)
        case an85 => kernel_rfl
        case bn85 => kernel_rfl
        case cn85 => kernel_rfl
        case qn85 => exact fun _ _ _ h => h
        case dn85 => rfl
        case hyn85 => (intro z hSw; (try dsimp only at hSw); go_simp; (try with_reducible rfl))
        try simp only [Act.put, List.setIfInBounds_toArray, List.set_cons_zero, List.set_cons_succ]
        refine wpAnyH_take (i := 4) (oi := ?on86) (v := ?vn86) ?hin86 ?an86 ?bn86 ?cn86 ?qn86 (Or.inl ⟨?dn86, ?hyn86⟩) hHeld ?restn86
        case hin86 => (simp only [List.getElem?_toArray, List.getElem?_cons_succ, List.getElem?_cons_zero]; exact rfl)
        case an86 => kernel_rfl
        case bn86 => kernel_rfl
        case cn86 => kernel_rfl
        case qn86 => exact fun _ _ _ h => h
        case dn86 => rfl
        case hyn86 => (intro z hSw; (try dsimp only at hSw); go_simp; (try with_reducible rfl))
        try simp only [Act.put, List.setIfInBounds_toArray, List.set_cons_zero, List.set_cons_succ]
        refine wpAnyH_ready (rs := [5]) (by kernel_rfl) (by simp) ?_
        refine AllReadyH.cons (o := ?on87) ?hin87 ?restn87 AllReadyH.nil
        case hin87 => (simp only [List.getElem?_toArray, List.getElem?_cons_succ, List.getElem?_cons_zero]; exact rfl)
        intro K hK
        go_simp
        go_at_call 132
        refine (KL.out _ gd).mono ?_
        rintro e w3 ⟨rfl, hg3⟩
        have gk3 := gd.trans hg3
        have mk3 := d1.trans hg3
        refine hK.out _ _ ?_ (fun hHeld => ?_)
        · (try dsimp only); first | with_reducible assumption | exact Grew.alloc ‹_› _
        clear hK K
        try simp only [Act.put, List.setIfInBounds_toArray, List.set_cons_zero, List.set_cons_succ]
        refine wpAnyH_take (i := 6) (oi := ?on88) (v := ?vn88) ?hin88 ?an88 ?bn88 ?cn88 ?qn88 (Or.inl ⟨?dn88, ?hyn88⟩) hHeld ?restn88
        case hin88 => (simp only [List.getElem?_toArray, List.getElem?_cons_succ, List.getElem?_cons_zero]; exact rfl)
        case an88 => kernel_rfl
        case bn88 => kernel_rfl
        case cn88 => kernel_rfl
        case qn88 => exact fun _ _ _ h => h
        case dn88 => rfl
        case hyn88 => (intro z hSw; (try dsimp only at hSw); go_simp; (try with_reducible rfl))
        try simp only [Act.put, List.setIfInBounds_toArray, List.set_cons_zero, List.set_cons_succ]
        refine wpAnyH_take (i := 7) (oi := ?on89) (v := ?vn89) ?hin89 ?an89 ?bn89 ?cn89 ?qn89 (Or.inl ⟨?dn89, ?hyn89⟩) hHeld ?restn89
        case hin89 => (simp only [List.getElem?_toArray, List.getElem?_cons_succ, List.getElem?_cons_zero]; exact rfl)
        case an89 => kernel_rfl
        case bn89 => kernel_rfl
        case cn89 => kernel_rfl
        case qn89 => exact fun _ _ _ h => h
        case dn89 => rfl
        case hyn89 => (intro z hSw; (try dsimp only at hSw); go_simp; (try with_reducible rfl))
        try simp only [Act.put, List.setIfInBounds_toArray, List.set_cons_zero, List.set_cons_succ]
        refine wpAnyH_take (i := 8) (oi := ?on90) (v := ?vn90) ?hin90 ?an90 ?bn90 ?cn90 ?qn90 (Or.inl ⟨?dn90, ?hyn90⟩) hHeld ?restn90
        case hin90 => (simp only [List.getElem?_toArray, List.getElem?_cons_succ, List.getElem?_cons_zero]; exact rfl)
        case an90 => kernel_rfl
        case bn90 => kernel_rfl
        case cn90 => kernel_rfl
        case qn90 => exact fun _ _ _ h => h
        case dn90 => rfl
        case hyn90 => (intro z hSw; (try dsimp only at hSw); go_simp; (try with_reducible rfl))
        try simp only [Act.put, List.setIfInBounds_toArray, List.set_cons_zero, List.set_cons_succ]
        refine wpAnyH_take (i := 9) (oi := ?on91) (v := ?vn91) ?hin91 ?an91 ?bn91 ?cn91 ?qn91 (Or.inl ⟨?dn91, ?hyn91⟩) hHeld ?restn91
        case hin91 => (simp only [List.getElem?_toArray, List.getElem?_cons_succ, List.getElem?_cons_zero]; exact rfl)
        case an91 => kernel_rfl
        case bn91 => kernel_rfl
        case cn91 => kernel_rfl
        case qn91 => exact fun _ _ _ h => h
        case dn91 => rfl
        case hyn91 => (intro z hSw; (try dsimp only at hSw); go_simp; (try with_reducible rfl))
        try simp only [Act.put, List.setIfInBounds_toArray, List.set_cons_zero, List.set_cons_succ]
        refine wpAnyH_take (i := 10) (oi := ?on92) (v := ?vn92) ?hin92 ?an92 ?bn92 ?cn92 ?qn92 (Or.inl ⟨?dn92, ?hyn92⟩) hHeld ?restn92
        case hin92 => (simp only [List.getElem?_toArray, List.getElem?_cons_succ, List.getElem?_cons_zero]; exact rfl)
        case an92 => kernel_rfl
        case bn92 => kernel_rfl
        case cn92 => kernel_rfl
        case qn92 => exact fun _ _ _ h => h
        case dn92 => rfl
        case hyn92 => (intro z hSw; (try dsimp only at hSw); go_simp; (try with_reducible rfl))
        try simp only [Act.put, List.setIfInBounds_toArray, List.set_cons_zero, List.set_cons_succ]
        refine wpAnyH_take (i := 12) (oi := ?on93) (v := ?vn93) ?hin93 ?an93 ?bn93 ?cn93 ?qn93 (Or.inl ⟨?dn93, ?hyn93⟩) hHeld ?restn93
        case hin93 => (simp only [List.getElem?_toArray, List.getElem?_cons_succ, List.getElem?_cons_zero]; exact rfl)
        case an93 => kernel_rfl
        case bn93 => kernel_rfl
        case cn93 => kernel_rfl
        case qn93 => exact fun _ _ _ h => h
        case dn93 => rfl
        case hyn93 => (intro z hSw; (try dsimp only at hSw); go_simp; (try with_reducible rfl))
        try simp only [Act.put, List.setIfInBounds_toArray, List.set_cons_zero, List.set_cons_succ]
        refine wpAnyH_take (i := 13) (oi := ?on94) (v := ?vn94) ?hin94 ?an94 ?bn94 ?cn94 ?qn94 (Or.inl ⟨?dn94, ?hyn94⟩) hHeld ?restn94
        case hin94 => (simp only [List.getElem?_toArray, List.getElem?_cons_succ, List.getElem?_cons_zero]; exact rfl)
        case an94 => kernel_rfl
        case bn94 => kernel_rfl
        case cn94 => kernel_rfl
        case qn94 => exact fun _ _ _ h => h
        case dn94 => rfl
        case hyn94 => (intro z hSw; (try dsimp only at hSw); go_simp; (try with_reducible rfl))
        try simp only [Act.put, List.setIfInBounds_toArray, List.set_cons_zero, List.set_cons_succ]
        refine wpAnyH_take (i := 14) (oi := ?on95) (v := ?vn95) ?hin95 ?an95 ?bn95 ?cn95 ?qn95 (Or.inl ⟨?dn95, ?hyn95⟩) hHeld ?restn95
        case hin95 => (simp only [List.getElem?_toArray, List.getElem?_cons_succ, List.getElem?_cons_zero]; exact rfl)
        case an95 => kernel_rfl
        case bn95 => kernel_rfl
        case cn95 => kernel_rfl
        case qn95 => exact fun _ _ _ h => h
        case dn95 => rfl
        case hyn95 => (intro z hSw; (try dsimp only at hSw); go_simp; (try with_reducible rfl))
        try simp only [Act.put, List.setIfInBounds_toArray, List.set_cons_zero, List.set_cons_succ]
        refine wpAnyH_ready (rs := [11]) (by kernel_rfl) (by simp) ?_
        refine AllReadyH.cons (o := ?on96) ?hin96 ?restn96 AllReadyH.nil
        case hin96 => (simp only [List.getElem?_toArray, List.getElem?_cons_succ, List.getElem?_cons_zero]; exact rfl)
        intro K hK
        go_simp
        go_at_call 133
        refine (KN.out _).mono ?_
        rintro e w4 ⟨rfl, rfl⟩
        refine hK.out _ _ ?_ (fun hHeld => ?_)
        · (try dsimp only); first | with_reducible assumption | exact Grew.alloc ‹_› _
        clear hK K
        try simp only [Act.put, List.setIfInBounds_toArray, List.set_cons_zero, List.set_cons_succ]
        refine wpAnyH_take (i := 15) (oi := ?on97) (v := ?vn97) ?hin97 ?an97 ?bn97 ?cn97 ?qn97 (Or.inl ⟨?dn97, ?hyn97⟩) hHeld ?restn97
        case hin97 => (simp only [List.getElem?_toArray, List.getElem?_cons_succ, List.getElem?_cons_zero]; exact rfl)
        case an97 => kernel_rfl
        case bn97 => kernel_rfl
        case cn97 => kernel_rfl
        case qn97 => exact fun _ _ _ h => h
        case dn97 => rfl
        case hyn97 => (intro z hSw; (try dsimp only at hSw); go_simp; (try with_reducible rfl))
        try simp only [Act.put, List.setIfInBounds_toArray, List.set_cons_zero, List.set_cons_succ]
        refine wpAnyH_take (i := 16) (oi := ?on98) (v := ?vn98) ?hin98 ?an98 ?bn98 ?cn98 ?qn98 (Or.inl ⟨?dn98, ?hyn98⟩) hHeld ?restn98
        case hin98 => (simp only [List.getElem?_toArray, List.getElem?_cons_succ, List.getElem?_cons_zero]; exact rfl)
        case an98 => kernel_rfl
        case bn98 => kernel_rfl
        case cn98 => kernel_rfl
        case qn98 => exact fun _ _ _ h => h
        case dn98 => rfl
        case hyn98 => (intro z hSw; (try dsimp only at hSw); go_simp; (try with_reducible rfl))
        try simp only [Act.put, List.setIfInBounds_toArray, List.set_cons_zero, List.set_cons_succ]
        refine wpAnyH_take (i := 17) (oi := ?on99) (v := ?vn99) ?hin99 ?an99 ?bn99 ?cn99 ?qn99 (Or.inl ⟨?dn99, ?hyn99⟩) hHeld ?restn99
        case hin99 => (simp only [List.getElem?_toArray, List.getElem?_cons_succ, List.getElem?_cons_zero]; exact rfl)
        case an99 => kernel_rfl
        case bn99 => kernel_rfl
        case cn99 => kernel_rfl
        case qn99 => exact fun _ _ _ h => h
        case dn99 => rfl
        case hyn99 => (intro z hSw; (try dsimp only at hSw); go_simp; (try with_reducible rfl))
        try simp only [Act.put, List.setIfInBounds_toArray, List.set_cons_zero, List.set_cons_succ]
        refine wpAnyH_take (i := 18) (oi := ?on100) ?hin100 ?an100 ?bn100 ?cn100 ?qn100 (Or.inr ⟨?dn100, rfl⟩) hHeld ?restn100
        case hin100 => (simp only [List.getElem?_toArray, List.getElem?_cons_succ, List.getElem?_cons_zero]; exact rfl)
        case an100 => kernel_rfl
        case bn100 => kernel_rfl
        case cn100 => kernel_rfl
        case qn100 => exact fun _ _ _ h => h
        case dn100 => rfl
        try simp only [Act.put, List.setIfInBounds_toArray, List.set_cons_zero, List.set_cons_succ]
        refine wpAnyH_take (i := 19) (oi := ?on101) ?hin101 ?an101 ?bn101 ?cn101 ?qn101 (Or.inr ⟨?dn101, rfl⟩) hHeld ?restn101
        case hin101 => (simp only [List.getElem?_toArray, List.getElem?_cons_succ, List.getElem?_cons_zero]; exact rfl)
        case an101 => kernel_rfl
        case bn101 => kernel_rfl
        case cn101 => kernel_rfl
        case qn101 => exact fun _ _ _ h => h
        case dn101 => rfl
        try simp only [Act.put, List.setIfInBounds_toArray, List.set_cons_zero, List.set_cons_succ]
        refine wpAnyH_take (i := 20) (oi := ?on102) ?hin102 ?an102 ?bn102 ?cn102 ?qn102 (Or.inr ⟨?dn102, rfl⟩) hHeld ?restn102
        case hin102 => (simp only [List.getElem?_toArray, List.getElem?_cons_succ, List.getElem?_cons_zero]; exact rfl)
        case an102 => kernel_rfl
        case bn102 => kernel_rfl
        case cn102 => kernel_rfl
        case qn102 => exact fun _ _ _ h => h
        case dn102 => rfl
        try simp only [Act.put, List.setIfInBounds_toArray, List.set_cons_zero, List.set_cons_succ]
        refine wpAnyH_take (i := 21) (oi := ?on103) ?hin103 ?an103 ?bn103 ?cn103 ?qn103 (Or.inr ⟨?dn103, rfl⟩) hHeld ?restn103
        case hin103 => (simp only [List.getElem?_toArray, List.getElem?_cons_succ, List.getElem?_cons_zero]; exact rfl)
        case an103 => kernel_rfl
        case bn103 => kernel_rfl
        case cn103 => kernel_rfl
        case qn103 => exact fun _ _ _ h => h
        case dn103 => rfl
        try simp only [Act.put, List.setIfInBounds_toArray, List.set_cons_zero, List.set_cons_succ]
        refine wpAnyH_take (i := 22) (oi := ?on104) ?hin104 ?an104 ?bn104 ?cn104 ?qn104 (Or.inr ⟨?dn104, rfl⟩) hHeld ?restn104
        case hin104 => (simp only [List.getElem?_toArray, List.getElem?_cons_succ, List.getElem?_cons_zero]; exact rfl)
        case an104 => kernel_rfl
        case bn104 => kernel_rfl
        case cn104 => kernel_rfl
        case qn104 => exact fun _ _ _ h => h
        case dn104 => rfl
        try simp only [Act.put, List.setIfInBounds_toArray, List.set_cons_zero, List.set_cons_succ]
        refine wpAnyH_take (i := 23) (oi := ?on105) ?hin105 ?an105 ?bn105 ?cn105 ?qn105 (Or.inr ⟨?dn105, rfl⟩) hHeld ?restn105
        case hin105 => (simp only [List.getElem?_toArray, List.getElem?_cons_succ, List.getElem?_cons_zero]; exact rfl)
        case an105 => kernel_rfl
        case bn105 => kernel_rfl
        case cn105 => kernel_rfl
        case qn105 => exact fun _ _ _ h => h
        case dn105 => rfl
        try simp only [Act.put, List.setIfInBounds_toArray, List.set_cons_zero, List.set_cons_succ]
        refine wpAnyH_take (i := 24) (oi := ?on106) ?hin106 ?an106 ?bn106 ?cn106 ?qn106 (Or.inr ⟨?dn106, rfl⟩) hHeld ?restn106
        case hin106 => (simp only [List.getElem?_toArray, List.getElem?_cons_succ, List.getElem?_cons_zero]; exact rfl)
        case an106 => kernel_rfl
        case bn106 => kernel_rfl
        case cn106 => kernel_rfl
        case qn106 => exact fun _ _ _ h => h
        case dn106 => rfl
        try simp only [Act.put, List.setIfInBounds_toArray, List.set_cons_zero, List.set_cons_succ]
        refine wpAnyH_take (i := 25) (oi := ?on107) ?hin107 ?an107 ?bn107 ?cn107 ?qn107 (Or.inr ⟨?dn107, rfl⟩) hHeld ?restn107
        case hin107 => (simp only [List.getElem?_toArray, List.getElem?_cons_succ, List.getElem?_cons_zero]; exact rfl)
        case an107 => kernel_rfl
        case bn107 => kernel_rfl
        case cn107 => kernel_rfl
        case qn107 => exact fun _ _ _ h => h
        case dn107 => rfl
        try simp only [Act.put, List.setIfInBounds_toArray, List.set_cons_zero, List.set_cons_succ]
        refine wpAnyH_take (i := 26) (oi := ?on108) (v := ?vn108) ?hin108 ?an108 ?bn108 ?cn108 ?qn108 (Or.inl ⟨?dn108, ?hyn108⟩) hHeld ?restn108
        case hin108 => (simp only [List.getElem?_toArray, List.getElem?_cons_succ, List.getElem?_cons_zero]; exact rfl)
        case an108 => kernel_rfl
        case bn108 => kernel_rfl
        case cn108 => kernel_rfl
        case qn108 => exact fun _ _ _ h => h
        case dn108 => rfl
        case hyn108 => (intro z hSw; (try dsimp only at hSw); go_simp; (try with_reducible rfl))
        try simp only [Act.put, List.setIfInBounds_toArray, List.set_cons_zero, List.set_cons_succ]
        refine wpAnyH_done (by kernel_rfl) ?_ _

        go_wp2_with fail
        go_ret
        exact ⟨rfl, gk3⟩
    · rw [dcd_false (fun h => ha h.1.1)]
      have ha2 : asl x.2.2.1 = false := by simpa using ha
      rw [ha2] at KL
      clear hg ha ha2
      replace KF := Lib.hid KF
      replace KL := Lib.hid KL
      go_enter Tryz.func102, Tryz.ntmps102
      go_wp2_with fail
      refine (KF.out _).mono ?_
      rintro e w1 ⟨uf, rfl, hof, hg1⟩
      clear hof
      have g1 := hal.trans hg1
      obtain ⟨hbx, hblk, hsz⟩ := HBX.out _ hg1
      have f0 := fun W (hW : Grew w1 W) => (hbx.grew hsz hW).1
      have f1 := fun W (hW : Grew w1 W) => (hbx.grew hsz hW).2.1
      have f2 := fun W (hW : Grew w1 W) => (hbx.grew hsz hW).2.2.1
      have f4 := fun W (hW : Grew w1 W) => (hbx.grew hsz hW).2.2.2.2
      have HBX1 := Lib.hid hbx
      have HBK := Lib.hid hblk
      have r1 := Grew.refl w1
      have d1 := r1.drew
      have gd := g1.trans d1
      clear hbx hblk k0 k1 k2 k3 k4
      go_wp2_with fail
      refine wp_region_held_drew (S := fun w' => Grew w1 w') (by kernel_rfl) d1 (fun hHeld => ?_)
      refine wpAnyH_take (i := 0) (oi := ?on109) (v := ?vn109) ?hin109 ?an109 ?bn109 ?cn109 ?qn109 (Or.inl ⟨?dn109, ?hyn109⟩) hHeld ?restn109
      case hin109 => (simp only [List.getElem?_toArray, List.getElem?_cons_succ, List.getElem?_cons_zero]; exact rfl)
      case an109 => kernel_rfl
      case bn109 => kernel_rfl
      case cn109 => kernel_rfl
      case qn109 => exact fun _ _ _ h => h
      case dn109 => rfl
      case hyn109 => (intro z hSw; (try dsimp only at hSw); go_simp; (try with_reducible rfl))
      try simp only [Act.put, List.setIfInBounds_toArray, List.set_cons_zero, List.set_cons_succ]
      refine wpAnyH_take (i := 1) (oi := ?on110) (v := ?vn110) ?hin110 ?an110 ?bn110 ?cn110 ?qn110 (Or.inl ⟨?dn110, ?hyn110⟩) hHeld ?restn110
      case hin110 => (simp only [List.getElem?_toArray, List.getElem?_cons_succ, List.getElem?_cons_zero]; exact rfl)
      case an110 => kernel_rfl
      case bn110 => kernel_rfl
      case cn110 => kernel_rfl
      case qn110 => exact fun _ _ _ h => h
      case dn110 => rfl
      case hyn110 => (intro z hSw; (try dsimp only at hSw); go_simp; (try with_reducible rfl))
      try simp only [Act.put, List.setIfInBounds_toArray, List.set_cons_zero, List.set_cons_succ]
      refine wpAnyH_take (i := 2) (oi := ?on111) (v := ?vn111) ?hin111 ?an111 ?bn111 ?cn111 ?qn111 (Or.inl ⟨?dn111, ?hyn111⟩) hHeld ?restn111
      case hin111 => (simp only [List.getElem?_toArray, List.getElem?_cons_succ, List.getElem?_cons_zero]; exact rfl)
      case an111 => kernel_rfl
      case bn111 => kernel_rfl
      case cn111 => kernel_rfl
      case qn111 => exact fun _ _ _ h => h
      case dn111 => rfl
      case hyn111 => (intro z hSw; (try dsimp only at hSw); go_simp; (try with_reducible rfl))
      try simp only [Act.put, List.setIfInBounds_toArray, List.set_cons_zero, List.set_cons_succ]
      refine wpAnyH_take (i := 3) (oi := ?on112) (v := ?vn112) ?hin112 ?an112 ?bn112 ?cn112 ?qn112 (Or.inl ⟨?dn112, ?hyn112⟩) hHeld ?restn112
      case hin112 => (simp only [List.getElem?_toArray, List.getElem?_cons_succ, List.getElem?_cons_zero]; exact rfl)
      case an112 => kernel_rfl
      case bn112 => kernel_rfl
      case cn112 => kernel_rfl
      case qn112 => exact fun _ _ _ h => h
      case dn112 => rfl
      case hyn112 => (intro z hSw; (try dsimp only at hSw); go_simp; (try with_reducible rfl))
      try simp only [Act.put, List.setIfInBounds_toArray, List.set_cons_zero, List.set_cons_succ]
      refine wpAnyH_take (i := 4) (oi := ?on113) (v := ?vn113) ?hin113 ?an113 ?bn113 ?cn113 ?qn113 (Or.inl ⟨?dn113, ?hyn113⟩) hHeld ?restn113
      case hin113 => (simp only [List.getElem?_toArray, List.getElem?_cons_succ, List.getElem?_cons_zero]; exact rfl)
      case an113 => kernel_rfl
      case bn113 => kernel_rfl
      case cn113 => kernel_rfl
      case qn113 => exact fun _ _ _ h => h
      case dn113 => rfl
      case hyn113 => (intro z hSw; (try dsimp only at hSw); go_simp; (try with_reducible rfl))
      try simp only [Act.put, List.setIfInBounds_toArray, List.set_cons_zero, List.set_cons_succ]
      refine wpAnyH_ready (rs := [5]) (by kernel_rfl) (by simp) ?_
      refine AllReadyH.cons (o := ?on114) ?hin114 ?restn114 AllReadyH.nil
      case hin114 => (simp only [List.getElem?_toArray, List.getElem?_cons_succ, List.getElem?_cons_zero]; exact rfl)
      intro K hK
      go_simp
      go_at_call 132
      refine (KL.out _ gd).mono ?_
      rintro e w3 ⟨rfl, hg3⟩
      have gk3 := gd.trans hg3
      have mk3 := d1.trans hg3
      refine hK.out _ _ ?_ (fun hHeld => ?_)
      · (try dsimp only); first | with_reducible assumption | exact Grew.alloc ‹_› _
      clear hK K
      try simp only [Act.put, List.setIfInBounds_toArray, List.set_cons_zero, List.set_cons_succ]
      refine wpAnyH_take (i := 6) (oi := ?on115) (v := ?vn115) ?hin115 ?an115 ?bn115 ?cn115 ?qn115 (Or.inl ⟨?dn115, ?hyn115⟩) hHeld ?restn115
      case hin115 => (simp only [List.getElem?_toArray, List.getElem?_cons_succ, List.getElem?_cons_zero]; exact rfl)
      case an115 => kernel_rfl
      case bn115 => kernel_rfl
      case cn115 => kernel_rfl
      case qn115 => exact fun _ _ _ h => h
      case dn115 => rfl
      case hyn115 => (intro z hSw; (try dsimp only at hSw); go_simp; (try with_reducible rfl))
      try simp only [Act.put, List.setIfInBounds_toArray, List.set_cons_zero, List.set_cons_succ]
      refine wpAnyH_take (i := 7) (oi := ?on116) (v := ?vn116) ?hin116 ?an116 ?bn116 ?cn116 ?qn116 (Or.inl ⟨?dn116, ?hyn116⟩) hHeld ?restn116
      case hin116 => (simp only [List.getElem?_toArray, List.getElem?_cons_succ, List.getElem?_cons_zero]; exact rfl)
      case an116 => kernel_rfl
      case bn116 => kernel_rfl
      case cn116 => kernel_rfl
      case qn116 => exact fun _ _ _ h => h
      case dn116 => rfl
      case hyn116 => (intro z hSw; (try dsimp only at hSw); go_simp; (try with_reducible rfl))
      try simp only [Act.put, List.setIfInBounds_toArray, List.set_cons_zero, List.set_cons_succ]
      refine wpAnyH_take (i := 8) (oi := ?on117) (v := ?vn117) ?hin117 ?an117 ?bn117 ?cn117 ?qn117 (Or.inl ⟨?dn117, ?hyn117⟩) hHeld ?restn117
      case hin117 => (simp only [List.getElem?_toArray, List.getElem?_cons_succ, List.getElem?_cons_zero]; exact rfl)
      case an117 => kernel_rfl
      case bn117 => kernel_rfl
      case cn117 => kernel_rfl
      case qn117 => exact fun _ _ _ h => h
      case dn117 => rfl
      case hyn117 => (intro z hSw; (try dsimp only at hSw); go_simp; (try with_reducible rfl))
      try simp only [Act.put, List.setIfInBounds_toArray, List.set_cons_zero, List.set_cons_succ]
      refine wpAnyH_take (i := 9) (oi := ?on118) ?hin118 ?an118 ?bn118 ?cn118 ?qn118 (Or.inr ⟨?dn118, rfl⟩) hHeld ?restn118
      case hin118 => (simp only [List.getElem?_toArray, List.getElem?_cons_succ, List.getElem?_cons_zero]; exact rfl)
      case an118 => kernel_rfl
      case bn118 => kernel_rfl
      case cn118 => kernel_rfl
      case qn118 => exact fun _ _ _ h => h
      case dn118 => rfl
      try simp only [Act.put, List.setIfInBounds_toArray, List.set_cons_zero, List.set_cons_succ]
      refine wpAnyH_take (i := 10) (oi := ?on119) ?hin119 ?an119 ?bn119 ?cn119 ?qn119 (Or.inr ⟨?dn119, rfl⟩) hHeld ?restn119
      case hin119 => (simp only [List.getElem?_toArray, List.getElem?_cons_succ, List.getElem?_cons_zero]; exact rfl)
      case an119 => kernel_rfl
      case bn119 => kernel_rfl
      case cn119 => kernel_rfl
      case qn119 => exact fun _ _ _ h => h
      case dn119 => rfl
      try simp only [Act.put, List.setIfInBounds_toArray, List.set_cons_zero, List.set_cons_succ]
      refine wpAnyH_take (i := 12) (oi := ?on120) ?hin120 ?an120 ?bn120 ?cn120 ?qn120 (Or.inr ⟨?dn120, rfl⟩) hHeld ?restn120
      case hin120 => (simp only [List.getElem?_toArray, List.getElem?_cons_succ, List.getElem?_cons_zero]; exact rfl)
      case an120 => kernel_rfl
      case bn120 => kernel_rfl
      case cn120 => kernel_rfl
      case qn120 => exact fun _ _ _ h => h
      case dn120 => rfl
      try simp only [Act.put, List.setIfInBounds_toArray, List.set_cons_zero, List.set_cons_succ]
      refine wpAnyH_take (i := 13) (oi := ?on121) ?hin121 ?an121 ?bn121 ?cn121 ?qn121 (Or.inr ⟨?dn121, rfl⟩) hHeld ?restn121
      case hin121 => (simp only [List.getElem?_toArray, List.getElem?_cons_succ, List.getElem?_cons_zero]; exact rfl)
      case an121 => kernel_rfl
      case bn121 => kernel_rfl
      case cn121 => kernel_rfl
      case qn121 => exact fun _ _ _ h => h
      case dn121 => rfl
      try simp only [Act.put, List.setIfInBounds_toArray, List.set_cons_zero, List.set_cons_succ]
      refine wpAnyH_take (i := 14) (oi := ?on122) ?hin122 ?an122 ?bn122 ?cn122 ?qn122 (Or.inr ⟨?dn122, rfl⟩) hHeld ?restn122
      case hin122 => (simp only [List.getElem?_toArray, List.getElem?_cons_succ, List.getElem?_cons_zero]; exact rfl)
      case an122 => kernel_rfl
      case bn122 => kernel_rfl
      case cn122 => kernel_rfl
      case qn122 => exact fun _ _ _ h => h
      case dn122 => rfl
      try simp only [Act.put, List.setIfInBounds_toArray, List.set_cons_zero, List.set_cons_succ]
      refine wpAnyH_take (i := 11) (oi := ?on123) ?hin123 ?an123 ?bn123 ?cn123 ?qn123 (Or.inr ⟨?dn123, rfl⟩) hHeld ?restn123
      case hin123 => (simp only [List.getElem?_toArray, List.getElem?_cons_succ, List.getElem?_cons_zero]; exact rfl)
      case an123 => kernel_rfl
      case bn123 => kernel_rfl
      case cn123 => kernel_rfl
      case qn123 => exact fun _ _ _ h => h
      case dn123 => rfl
      try simp only [Act.put, List.setIfInBounds_toArray, List.set_cons_zero, List.set_cons_succ]
      refine wpAnyH_take (i := 15) (oi := ?on124) ?hin124 ?an124 ?bn124 ?cn124 ?qn124 (Or.inr ⟨?dn124, rfl⟩) hHeld ?restn124
      case hin124 => (simp only [List.getElem?_toArray, List.getElem?_cons_succ, List.getElem?_cons_zero]; exact rfl)
      case an124 => kernel_rfl
      case bn124 => kernel_rfl
      case cn124 => kernel_rfl
      case qn124 => exact fun _ _ _ h => h
      case dn124 => rfl
      try simp only [Act.put, List.setIfInBounds_toArray, List.set_cons_zero, List.set_cons_succ]
      refine wpAnyH_take (i := 16) (oi := ?on125) (v := ?vn125) ?hin125 ?an125 ?bn125 ?cn125 ?qn125 (Or.inl ⟨?dn125, ?hyn125⟩) hHeld ?restn125
      case hin125 => (simp only [List.getElem?_toArray, List.getElem?_cons_succ, List.getElem?_cons_zero]; exact rfl)
      case an125 => kernel_rfl
      case bn125 => kernel_rfl
      case cn125 => kernel_rfl
      case qn125 => exact fun _ _ _ h => h
      case dn125 => rfl
      case hyn125 => (intro z hSw; (try dsimp only at hSw); go_simp; (try with_reducible rfl))
      try simp only [Act.put, List.setIfInBounds_toArray, List.set_cons_zero, List.set_cons_succ]
      refine wpAnyH_take (i := 17) (oi := ?on126) (v := ?vn126) ?hin126 ?an126 ?bn126 ?cn126 ?qn126 (Or.inl ⟨?dn126, ?hyn126⟩) hHeld ?restn126
      case hin126 => (simp only [List.getElem?_toArray, List.getElem?_cons_succ, List.getElem?_cons_zero]; exact rfl)
      case an126 => kernel_rfl
      case bn126 => kernel_rfl
      case cn126 => kernel_rfl
      case qn126 => exact fun _ _ _ h => h
      case dn126 => rfl
      case hyn126 => (intro z hSw; (try dsimp only at hSw); go_simp; (try with_reducible rfl))
      try simp only [Act.put, List.setIfInBounds_toArray, List.set_cons_zero, List.set_cons_succ]
      refine wpAnyH_take (i := 18) (oi := ?on127) ?hin127 ?an127 ?bn127 ?cn127 ?qn127 (Or.inr ⟨?dn127, rfl⟩) hHeld ?restn127
      case hin127 => (simp only [List.getElem?_toArray, List.getElem?_cons_succ, List.getElem?_cons_zero]; exact rfl)
      case an127 => kernel_rfl
      case bn127 => kernel_rfl
      case cn127 => kernel_rfl
      case qn127 => exact fun _ _ _ h => h
      case dn127 => rfl
      try simp only [Act.put, List.setIfInBounds_toArray, List.set_cons_zero, List.set_cons_succ]
      refine wpAnyH_take (i := 19) (oi := ?on128) ?hin128 ?an128 ?bn128 ?cn128 ?qn128 (Or.inr ⟨?dn128, rfl⟩) hHeld ?restn128
      case hin128 => (simp only [List.getElem?_toArray, List.getElem?_cons_succ, List.getElem?_cons_zero]; exact rfl)
      case an128 => kernel_rfl
      case bn128 => kernel_rfl
      case cn128 => kernel_rfl
      case qn128 => exact fun _ _ _ h => h
      case dn128 => rfl
      try simp only [Act.put, List.setIfInBounds_toArray, List.set_cons_zero, List.set_cons_succ]
      refine wpAnyH_take (i := 20) (oi := ?on129) ?hin129 ?an129 ?bn129 ?cn129 ?qn129 (Or.inr ⟨?dn129, rfl⟩) hHeld ?restn129
      case hin129 => (simp only [List.getElem?_toArray, List.getElem?_cons_succ, List.getElem?_cons_zero]; exact rfl)
      case an129 => kernel_rfl
      case bn129 => kernel_rfl
      case cn129 => kernel_rfl
      case qn129 => exact fun _ _ _ h => h
      case dn129 => rfl
      try simp only [Act.put, List.setIfInBounds_toArray, List.set_cons_zero, List.set_cons_succ]
      refine wpAnyH_take (i := 21) (oi := ?on130) ?hin130 ?an130 ?bn130 ?cn130 ?qn130 (Or.inr ⟨?dn130, rfl⟩) hHeld ?restn130
      case hin130 => (simp only [List.getElem?_toArray, List.getElem?_cons_succ, List.getElem?_cons_zero]; exact rfl)
      case an130 => kernel_rfl
      case bn130 => kernel_rfl
      case cn130 => kernel_rfl
      case qn130 => exact fun _ _ _ h => h
      case dn130 => rfl
      try simp only [Act.put, List.setIfInBounds_toArray, List.set_cons_zero, List.set_cons_succ]
      refine wpAnyH_take (i := 22) (oi := ?on131) ?hin131 ?an131 ?bn131 ?cn131 ?qn131 (Or.inr ⟨?dn131, rfl⟩) hHeld ?restn131
      case hin131 => (simp only [List.getElem?_toArray, List.getElem?_cons_succ, List.getElem?_cons_zero]; exact rfl)
      case an131 => kernel_rfl
      case bn131 => kernel_rfl
      case cn131 => kernel_rfl
      case qn131 => exact fun _ _ _ h => h
      case dn131 => rfl
      try simp only [Act.put, List.setIfInBounds_toArray, List.set_cons_zero, List.set_cons_succ]
      refine wpAnyH_take (i := 23) (oi := ?on132) ?hin132 ?an132 ?bn132 ?cn132 ?qn132 (Or.inr ⟨?dn132, rfl⟩) hHeld ?restn132
      case hin132 => (simp only [List.getElem?_toArray, List.getElem?_cons_succ, List.getElem?_cons_zero]; exact rfl)
      case an132 => kernel_rfl
      case bn132 => kernel_rfl
      case cn132 => kernel_rfl
      case qn132 => exact fun _ _ _ h => h
      case dn132 => rfl
      try simp only [Act.put, List.setIfInBounds_toArray, List.set_cons_zero, List.set_cons_succ]
      refine wpAnyH_take (i := 24) (oi := ?on133) ?hin133 ?an133 ?bn133 ?cn133 ?qn133 (Or.inr ⟨?dn133, rfl⟩) hHeld ?restn133
      case hin133 => (simp only [List.getElem?_toArray, List.getElem?_cons_succ, List.getElem?_cons_zero]; exact rfl)
      case an133 => kernel_rfl
      case bn133 => kernel_rfl
      case cn133 => kernel_rfl
      case qn133 => exact fun _ _ _ h => h
      case dn133 => rfl
      try simp only [Act.put, List.setIfInBounds_toArray, List.set_cons_zero, List.set_cons_succ]
      refine wpAnyH_take (i := 25) (oi := ?on134) ?hin134 ?an134 ?bn134 ?cn134 ?qn134 (Or.inr ⟨?dn134, rfl⟩) hHeld ?restn134
      case hin134 => (simp only [List.getElem?_toArray, List.getElem?_cons_succ, List.getElem?_cons_zero]; exact rfl)
      case an134 => kernel_rfl
      case bn134 => kernel_rfl
      case cn134 => kernel_rfl
      case qn134 => exact fun _ _ _ h => h
      case dn134 => rfl
      try simp only [Act.put, List.setIfInBounds_toArray, List.set_cons_zero, List.set_cons_succ]
      refine wpAnyH_take (i := 26) (oi := ?on135) (v := ?vn135) ?hin135 ?an135 ?bn135 ?cn135 ?qn135 (Or.inl ⟨?dn135, ?hyn135⟩) hHeld ?restn135
      case hin135 => (simp only [List.getElem?_toArray, List.getElem?_cons_succ, List.getElem?_cons_zero]; exact rfl)
      case an135 => kernel_rfl
      case bn135 => kernel_rfl
      case cn135 => kernel_rfl
      case qn135 => exact fun _ _ _ h => h
      case dn135 => rfl
      case hyn135 => (intro z hSw; (try dsimp only at hSw); go_simp; (try with_reducible rfl))
      try simp only [Act.put, List.setIfInBounds_toArray, List.set_cons_zero, List.set_cons_succ]
      refine wpAnyH_done (by kernel_rfl) ?_ _

      go_wp2_with fail
      go_ret
      exact ⟨rfl, gk3⟩
  · rw [dcd_false (fun h => hg h.1.2.1)]
    have hg2 : gp x.2.2.2.1 = false := by simpa using hg
    rw [hg2] at KF
    clear hg hg2 KL KN HGB HC HS HUP HTK
    replace KF := Lib.hid KF
    generalize xs.length = xl at *
    generalize x.2.1.length = pln at *
    generalize x.2.2.1.length = al at *
    go_enter Tryz.func102, Tryz.ntmps102
    go_wp2_with fail
    refine (KF.out _).mono ?_
    rintro e w1 ⟨uf, rfl, hof, hg1⟩
    clear hof
    go_wp2_with fail
    go_quiet (fail)
    go_wp2_with fail
    go_ret
    exact ⟨rfl, (hal.trans hg1).drewN _⟩
end Go.Proofs.YtofeeenjlaljpaaGreat

/- l25Bad of the reference; isDeductionCount of the program. -/
namespace Go.Proofs.YtofeeenjlaljpaaGreat
open Go.RowKit

theorem l25Bad_c (v : Value) (xs : List Dd) (w : World) (hv : Dds w v xs) (hf : FitsDd xs) (hl : xs.length ≤ 1000) :
    Calls Tryz.prog 73 #[v] w fun e w' => e = .returned (.int .i64 (fbd xs xs.length)) ∧ Grew w w' := by
  obtain ⟨A, c, rfl⟩ := Dds_slice hv
  have HV := Lib.hid hv
  have HF := Lib.hid hf
  clear hv hf
  go_enter Tryz.func73, Tryz.ntmps73
  go_wp2_with fail
  go_loopw [3] (fun i wr => ∃ j : Nat, j ≤ xs.length ∧ i = .int .i64 j ∧ Grew w wr ∧ Hid (fbd xs j = -1)) (fun i _ => xs.length - (intOf i).toNat)
  case atStart => exact ⟨0, Nat.zero_le _, rfl, Grew.refl _, Lib.hid rfl⟩
  case round =>
    obtain ⟨j, hj, rfl, hB, HJ⟩ := hrel
    by_cases hlt : j < xs.length
    · have hx : xs[j]? = some xs[j] := List.getElem?_eq_getElem hlt
      have hfx := HF.out _ (List.getElem_mem hlt)
      generalize xs[j] = x at hx hfx
      have KC := l25Correct_c (.slice A xs.length c) xs j x wr (HV.out.grew hB) hx hfx (fbd_plain HJ.out) hl
      by_cases hg : goodP (xs.take j) x
      · rw [dcd_true hg] at KC
        replace KC := Lib.hid KC
        have HN : Hid (fbd xs (j + 1) = -1) := Lib.hid (fbd_good HJ.out hx hg)
        clear hg hx
        go_wp2_with fail
        refine (KC.out).mono ?_
        rintro e w2 ⟨rfl, hg2⟩
        go_wp2_with fail
        go_roundw
        case rel => exact ⟨j + 1, by omega, by go_num, hB.trans hg2, HN⟩
        case measure => simp [intOf]; omega
      · rw [dcd_false hg] at KC
        replace KC := Lib.hid KC
        have HN : Hid (fbd xs xs.length = j) := Lib.hid (fbd_bad HJ.out (fun ⟨y, hy, hgy⟩ => hg (by rw [hx] at hy; cases hy; exact hgy)) hlt)
        clear hg hx
        go_wp2_with fail
        refine (KC.out).mono ?_
        rintro e w2 ⟨rfl, hg2⟩
        go_wp2_with fail
        go_ret
        exact ⟨congrArg (fun k => Ending.returned (Value.int .i64 k)) HN.out.symm, hB.trans hg2⟩
    · obtain rfl : j = xs.length := by omega
      go_wp2_with fail
      go_ret
      exact ⟨congrArg (fun k => Ending.returned (Value.int .i64 k)) HJ.out.symm, hB⟩

/-- What FirstBadDeduction answers. -/
noncomputable def fbF (xs : List Dd) : Int × Int := if xs.length = 0 ∨ 120 < xs.length then (0, 3) else (fbd xs xs.length, 0)
def GivesFb (w : World) (r : Int × Int) (e : Ending) (w' : World) : Prop := e = .returned (.tuple #[.int .i64 r.1, .int .i64 r.2]) ∧ Grew w w'
theorem isDeductionCount_c (A : Option Addr) (n c : Nat) (w : World) :
    Calls Tryz.prog 78 #[.slice A n c] w fun e w' => e = .returned (.bool (decide (n ≠ 0 ∧ n ≤ 120))) ∧ Grew w w' := by
  by_cases h0 : n = 0
  · subst h0
    go_enter Tryz.func78, Tryz.ntmps78
    go_wp2_with fail
    go_ret
    exact ⟨rfl, Grew.refl _⟩
  · have h1 : (1 : Int) ≤ (n : Int) := by omega
    by_cases h2 : n ≤ 120
    · rw [decide_eq_true ⟨h0, h2⟩]
      have h3 : (n : Int) ≤ 120 := by omega
      clear h0 h2
      go_enter Tryz.func78, Tryz.ntmps78
      go_wp2_with fail
      go_ret
      exact ⟨rfl, Grew.refl _⟩
    · rw [decide_eq_false (fun h => h2 h.2)]
      have h3 : ¬ (n : Int) ≤ 120 := by omega
      clear h0 h2
      go_enter Tryz.func78, Tryz.ntmps78
      go_wp2_with fail
      go_ret
      exact ⟨rfl, Grew.refl _⟩
end Go.Proofs.YtofeeenjlaljpaaGreat

/- deductionCode of the program, l25Code of the reference. -/
namespace Go.Proofs.YtofeeenjlaljpaaGreat
open Go.RowKit

/-- A list of lists of steps. -/
def ld (Ls : List (List Dd)) (i : Nat) : List Dd := Ls.getD i []
/-- The value reads as the list of lists. -/
def DdL (w : World) (v : Value) (Ls : List (List Dd)) : Prop :=
  ∃ b o c, v = .slice (some ⟨b, o, none⟩) Ls.length c ∧ Ls.length ≤ c ∧ c ≤ 9223372036854775807 ∧
    ∀ i, i < Ls.length → ∃ u, (∀ W, Grew w W → W.cell? ⟨b, o + i, none⟩ = some u) ∧ Dds w u (ld Ls i)
theorem DdL.grew {w w' : World} {v : Value} {Ls : List (List Dd)} (h : DdL w v Ls) (hg : Grew w w') : DdL w' v Ls := by
  obtain ⟨b, o, c, h1, h2, h3, h4⟩ := h
  refine ⟨b, o, c, h1, h2, h3, fun i hi => ?_⟩
  obtain ⟨u, k1, k2⟩ := h4 i hi
  exact ⟨u, fun W hW => k1 W (hg.trans hW), k2.grew hg⟩
theorem DdL.one {w : World} {T : TypeId} {u : Value} {xs : List Dd} (h : Dds w u xs) : DdL (w.alloc (.cells #[u] T)) (.slice (some ⟨w.heap.size, 0, none⟩) 1 1) [xs] := by
  refine ⟨w.heap.size, 0, 1, rfl, Nat.le_refl _, by omega, fun i hi => ?_⟩
  obtain rfl : i = 0 := by simpa using hi
  exact ⟨u, fun W hW => (hW.cell (p := ⟨w.heap.size, 0 + 0, none⟩) (by simp)).trans (by simp), h.grew ((Grew.refl w).alloc _)⟩
theorem DdL.two {w : World} {T : TypeId} {u u2 : Value} {xs ys : List Dd} (h : Dds w u xs) (h2 : Dds w u2 ys) : DdL (w.alloc (.cells #[u, u2] T)) (.slice (some ⟨w.heap.size, 0, none⟩) 2 2) [xs, ys] := by
  refine ⟨w.heap.size, 0, 2, rfl, Nat.le_refl _, by omega, fun i hi => ?_⟩
  have hi2 : i < 2 := by simpa using hi
  match i, hi2 with
  | 0, _ => exact ⟨u, fun W hW => (hW.cell (p := ⟨w.heap.size, 0 + 0, none⟩) (by simp)).trans (by simp), h.grew ((Grew.refl w).alloc _)⟩
  | 1, _ => exact ⟨u2, fun W hW => (hW.cell (p := ⟨w.heap.size, 0 + 1, none⟩) (by simp)).trans (by simp), h2.grew ((Grew.refl w).alloc _)⟩

/-- None of the first k lists meets the predicate. -/
def NoneL (p : List Dd → Bool) (Ls : List (List Dd)) (k : Nat) : Prop := ∀ i, i < k → p (ld Ls i) = false
theorem NoneL.zero (p : List Dd → Bool) (Ls : List (List Dd)) : NoneL p Ls 0 := fun i hi => absurd hi (by omega)
theorem NoneL.succ {p : List Dd → Bool} {Ls : List (List Dd)} {k : Nat} (h : NoneL p Ls k) (h1 : p (ld Ls k) = false) : NoneL p Ls (k + 1) := by
  intro i hi
  rcases Nat.lt_or_ge i k with hk | hk
  · exact h i hk
  · obtain rfl : i = k := by omega
    exact h1
theorem ld_get {Ls : List (List Dd)} {i : Nat} (h : i < Ls.length) : Ls[i] = ld Ls i := by simp [ld, List.getD, h]
theorem noneL_any {p : List Dd → Bool} {Ls : List (List Dd)} (h : NoneL p Ls Ls.length) : Ls.any p = false := by
  rw [List.any_eq_false]
  intro x hx
  obtain ⟨i, hi, rfl⟩ := List.getElem_of_mem hx
  rw [ld_get hi, h i hi]
  simp
theorem anyL_at {p : List Dd → Bool} {Ls : List (List Dd)} {k : Nat} (hk : k < Ls.length) (h : p (ld Ls k) = true) : Ls.any p = true := by
  rw [List.any_eq_true]
  exact ⟨Ls[k], List.getElem_mem hk, by rw [ld_get hk]; exact h⟩
theorem noneL_of {p : List Dd → Bool} {Ls : List (List Dd)} (h : Ls.any p = false) {i : Nat} (hi : i < Ls.length) : p (ld Ls i) = false := by
  rw [List.any_eq_false] at h
  have := h _ (List.getElem_mem hi)
  rw [ld_get hi] at this
  simpa using this

/-- Too short or too long. -/
def badCnt (xs : List Dd) : Bool := !decide (xs.length ≠ 0 ∧ xs.length ≤ 120)
/-- With a step that is not correct. -/
noncomputable def badStep (xs : List Dd) : Bool := decide (0 ≤ fbd xs xs.length)

theorem indexFuncL_c (v : Value) (Ls : List (List Dd)) (f : Nat) (p : List Dd → Bool) (w : World) (h : DdL w v Ls)
    (hf : ∀ i, i < Ls.length → ∀ u W, Dds W u (ld Ls i) → Calls Tryz.prog f #[u] W fun e W' => e = .returned (.bool (p (ld Ls i))) ∧ Grew W W') (eg : ∀ args w, (callFunc f args).run Tryz.prog w = .ok (.enter f args) w) :
    Calls Tryz.prog 103 #[v, .func (.func f) #[] #[]] w fun e w' => ∃ r : Int, e = .returned (.int .i64 r) ∧ Grew w w' ∧ decide (0 ≤ r) = Ls.any p := by
  obtain ⟨b, o, c, rfl, hc, hm, hcell⟩ := h
  obtain ⟨R, hR⟩ : ∃ R, R = Ls.any p := ⟨_, rfl⟩
  rw [← hR]
  have HA := Lib.hid (fun k hk h => hR.trans (@anyL_at p Ls k hk h))
  have HZ := Lib.hid (fun h => hR.trans (@noneL_any p Ls h))
  have HC := Lib.hid hcell
  have HF := Lib.hid hf
  clear hcell hf hR
  generalize hN : Ls.length = n at *
  clear hN
  go_enter Tryz.func103, Tryz.ntmps103
  go_wp2_with fail
  go_loopw [5, 8] (fun _ i wr => ∃ j : Nat, j ≤ n ∧ i = .int .i64 j ∧ Grew w wr ∧ Hid (NoneL p Ls j)) (fun _ i _ => n - (intOf i).toNat)
  case atStart => exact ⟨0, Nat.zero_le _, rfl, Grew.refl _, NoneL.zero _ _⟩
  case round =>
    obtain ⟨j, hj, rfl, hB, HJ⟩ := hrel
    by_cases hlt : j < n
    · obtain ⟨u, k0, hd⟩ := HC.out j hlt
      have k1 := k0 _ hB
      have hz := Lib.hid (fun W (hW : Grew w W) => HF.out j hlt u W (hd.grew hW))
      have hA := Lib.hid (HA.out j hlt)
      have hS := Lib.hid (fun h => HJ.out.succ (k := j) h)
      obtain ⟨A, c', rfl⟩ := Dds_slice hd
      clear k0 hd
      generalize ld Ls j = x at *
      go_wp2_with fail
      go_at_fn f
      refine (hz.out _ hB).mono ?_
      rintro e w1 ⟨rfl, hg1⟩
      have hB1 := hB.trans hg1
      cases hp : p x with
      | true =>
        have hv := hA.out hp
        go_wp2_with fail
        go_ret
        exact ⟨_, rfl, hB1, by rw [hv]; simp⟩
      | false =>
        have hs := Lib.hid (hS.out hp)
        go_wp2_with fail
        go_roundw
        case rel => exact ⟨j + 1, by omega, by go_num, hB1, hs⟩
        case measure => simp [intOf]; omega
    · obtain rfl : j = n := by omega
      have hv := Lib.hid (HZ.out HJ.out)
      go_wp2_with fail
      go_ret
      exact ⟨_, rfl, hB, by rw [hv.out]; rfl⟩

theorem containsFuncL_c (v : Value) (Ls : List (List Dd)) (f : Nat) (p : List Dd → Bool) (w : World) (h : DdL w v Ls)
    (hf : ∀ i, i < Ls.length → ∀ u W, Dds W u (ld Ls i) → Calls Tryz.prog f #[u] W fun e W' => e = .returned (.bool (p (ld Ls i))) ∧ Grew W W') (eg : ∀ args w, (callFunc f args).run Tryz.prog w = .ok (.enter f args) w) :
    Calls Tryz.prog 76 #[v, .func (.func f) #[] #[]] w fun e w' => e = .returned (.bool (Ls.any p)) ∧ Grew w w' := by
  have HI := Lib.hid (indexFuncL_c v Ls f p w h hf eg)
  clear h hf eg
  generalize Ls.any p = R at *
  go_enter Tryz.func76, Tryz.ntmps76
  go_wp2_with fail
  refine HI.out.mono ?_
  rintro e w1 ⟨r, rfl, hg1, hr⟩
  go_wp2_with fail
  go_ret
  exact ⟨by rw [← hr]; rfl, hg1⟩

theorem dcode1_c (u : Value) (xs : List Dd) (W : World) (h : Dds W u xs) : Calls Tryz.prog 77 #[u] W fun e W' => e = .returned (.bool (badCnt xs)) ∧ Grew W W' := by
  obtain ⟨A, c, rfl⟩ := Dds_slice h
  have K := Lib.hid (isDeductionCount_c A xs.length c W)
  unfold badCnt
  clear h
  generalize decide (xs.length ≠ 0 ∧ xs.length ≤ 120) = d at *
  go_enter Tryz.func77, Tryz.ntmps77
  go_wp2_with fail
  refine (K.out).mono ?_
  rintro e w1 ⟨rfl, hg1⟩
  go_wp2_with fail
  go_ret
  exact ⟨rfl, hg1⟩

theorem dcode2_c (u : Value) (xs : List Dd) (W : World) (h : Dds W u xs) (hf : FitsDd xs) (hl : xs.length ≤ 1000) : Calls Tryz.prog 79 #[u] W fun e W' => e = .returned (.bool (badStep xs)) ∧ Grew W W' := by
  have K := Lib.hid (firstBadDeduction_c u xs W h hf hl)
  obtain ⟨A, c, rfl⟩ := Dds_slice h
  unfold badStep
  clear h hf
  generalize fbd xs xs.length = d at *
  go_enter Tryz.func79, Tryz.ntmps79
  go_wp2_with fail
  refine (K.out).mono ?_
  rintro e w1 ⟨rfl, hg1⟩
  go_wp2_with fail
  go_ret
  exact ⟨rfl, hg1⟩

/-- The code of lists of steps. -/
noncomputable def dcode (Ls : List (List Dd)) : Int := if Ls.any badCnt then 3 else if Ls.any badStep then 5 else 0
theorem badCnt_le {xs : List Dd} (h : badCnt xs = false) : xs.length ≠ 0 ∧ xs.length ≤ 120 := by
  unfold badCnt at h
  simpa using h

theorem deductionCode_c (v : Value) (Ls : List (List Dd)) (w : World) (h : DdL w v Ls) (hf : ∀ i, i < Ls.length → FitsDd (ld Ls i)) :
    Calls Tryz.prog 40 #[v] w fun e w' => e = .returned (.int .i64 (dcode Ls)) ∧ Grew w w' := by
  unfold dcode
  have e1 : ∀ args w, (callFunc 77 args).run Tryz.prog w = .ok (.enter 77 args) w := enters_of Tryz.func77 (by kernel_rfl) rfl
  have e2 : ∀ args w, (callFunc 79 args).run Tryz.prog w = .ok (.enter 79 args) w := enters_of Tryz.func79 (by kernel_rfl) rfl
  have K1 := Lib.hid (containsFuncL_c v Ls 77 badCnt w h (fun i _ u W hu => dcode1_c u _ W hu) e1)
  cases hb : Ls.any badCnt with
  | true =>
    rw [if_pos rfl]
    rw [hb] at K1
    obtain ⟨b, o, c, rfl, _⟩ := h
    clear hf hb e2
    go_enter Tryz.func40, Tryz.ntmps40
    go_wp2_with fail
    refine (K1.out).mono ?_
    rintro e w1 ⟨rfl, hg1⟩
    go_wp2_with fail
    go_ret
    exact ⟨rfl, hg1⟩
  | false =>
    rw [if_neg (by simp)]
    have K2 := Lib.hid (fun W (hW : Grew w W) => containsFuncL_c v Ls 79 badStep W (h.grew hW) (fun i hi u W hu => dcode2_c u _ W hu (hf i hi) (by have := badCnt_le (noneL_of hb hi); omega)) e2)
    rw [hb] at K1
    obtain ⟨b, o, c, rfl, _⟩ := h
    clear hf hb e1 e2
    cases hs : Ls.any badStep with
    | true =>
      rw [hs] at K2
      rw [if_pos rfl]
      clear hs
      go_enter Tryz.func40, Tryz.ntmps40
      go_wp2_with fail
      refine (K1.out).mono ?_
      rintro e w1 ⟨rfl, hg1⟩
      go_wp2_with fail
      refine (K2.out _ hg1).mono ?_
      rintro e w2 ⟨rfl, hg2⟩
      go_wp2_with fail
      go_ret
      exact ⟨rfl, hg1.trans hg2⟩
    | false =>
      rw [hs] at K2
      rw [if_neg (by simp)]
      clear hs
      go_enter Tryz.func40, Tryz.ntmps40
      go_wp2_with fail
      refine (K1.out).mono ?_
      rintro e w1 ⟨rfl, hg1⟩
      go_wp2_with fail
      refine (K2.out _ hg1).mono ?_
      rintro e w2 ⟨rfl, hg2⟩
      go_wp2_with fail
      go_ret
      exact ⟨rfl, hg1.trans hg2⟩

theorem badCnt_zero {xs : List Dd} (h : xs.length = 0) : badCnt xs = true := by simp [badCnt, h]
theorem badCnt_big {xs : List Dd} (h : 120 < xs.length) : badCnt xs = true := by
  unfold badCnt
  rw [decide_eq_false (fun k => by omega)]
  rfl
theorem badCnt_ok {xs : List Dd} (h0 : xs.length ≠ 0) (h : xs.length ≤ 120) : badCnt xs = false := by
  unfold badCnt
  rw [decide_eq_true ⟨h0, h⟩]
  rfl

theorem l25Code_c (v : Value) (Ls : List (List Dd)) (w : World) (h : DdL w v Ls) (hf : ∀ i, i < Ls.length → FitsDd (ld Ls i)) (hN9 : Ls.length ≤ 1048576) :
    Calls Tryz.prog 36 #[v] w fun e w' => e = .returned (.int .i64 (dcode Ls)) ∧ Grew w w' := by
  obtain ⟨R, hR⟩ : ∃ R, R = dcode Ls := ⟨_, rfl⟩
  rw [← hR]
  obtain ⟨b, o, c, rfl, hc, hm, hcell⟩ := h
  have HA := Lib.hid (fun k (hk : k < Ls.length) (h : badCnt (ld Ls k) = true) => hR.trans (show dcode Ls = 3 by unfold dcode; rw [if_pos (anyL_at hk h)]))
  have HG := Lib.hid (fun (h : NoneL badCnt Ls Ls.length) i (hi : i < Ls.length) => (badCnt_le (h i hi)).2)
  have HS := Lib.hid (fun (h : NoneL badCnt Ls Ls.length) k (hk : k < Ls.length) (hb : badStep (ld Ls k) = true) => hR.trans (show dcode Ls = 5 by unfold dcode; rw [if_neg (by rw [noneL_any h]; simp), if_pos (anyL_at hk hb)]))
  have HZ := Lib.hid (fun (h : NoneL badCnt Ls Ls.length) (hb : NoneL badStep Ls Ls.length) => hR.trans (show dcode Ls = 0 by unfold dcode; rw [if_neg (by rw [noneL_any h]; simp), if_neg (by rw [noneL_any hb]; simp)]))
  have HC := Lib.hid hcell
  have HF := Lib.hid hf
  clear hcell hf hR
  generalize hN : Ls.length = n at *
  clear hN
  go_enter Tryz.func36, Tryz.ntmps36
  go_wp2_with fail
  go_loopw [3] (fun i wr => ∃ j : Nat, j ≤ n ∧ i = .int .i64 j ∧ Grew w wr ∧ Hid (NoneL badCnt Ls j)) (fun i _ => n - (intOf i).toNat)
  case atStart => exact ⟨0, Nat.zero_le _, rfl, Grew.refl _, NoneL.zero _ _⟩
  case round =>
    obtain ⟨j, hj, rfl, hB, HJ⟩ := hrel
    by_cases hlt : j < n
    · obtain ⟨u, k0, hd⟩ := HC.out j hlt
      have k1 := k0 _ hB
      have hA := Lib.hid (HA.out j hlt)
      have hS := Lib.hid (fun h => HJ.out.succ (k := j) h)
      obtain ⟨A, c', rfl⟩ := Dds_slice hd
      clear k0 hd
      by_cases h0 : (ld Ls j).length = 0
      · have hv := Lib.hid (hA.out (badCnt_zero h0))
        rw [h0] at k1
        go_wp2_with fail
        go_ret
        exact ⟨congrArg (fun k => Ending.returned (Value.int .i64 k)) hv.out.symm, hB⟩
      · have e0 : (((ld Ls j).length : Int) == 0) = false := by simpa using h0
        by_cases h1 : 120 < (ld Ls j).length
        · have hv := Lib.hid (hA.out (badCnt_big h1))
          have h2 : (120 : Int) < ((ld Ls j).length : Int) := by omega
          clear h0 h1
          generalize (ld Ls j).length = m at *
          go_wp2_with fail
          go_ret
          exact ⟨congrArg (fun k => Ending.returned (Value.int .i64 k)) hv.out.symm, hB⟩
        · have hs := Lib.hid (hS.out (badCnt_ok h0 (by omega)))
          have h2 : ¬ (120 : Int) < ((ld Ls j).length : Int) := by omega
          clear h0 h1
          generalize (ld Ls j).length = m at *
          go_wp2_with fail
          go_roundw
          case rel => exact ⟨j + 1, by omega, by go_num, hB, hs⟩
          case measure => simp [intOf]; omega
    · obtain rfl : j = n := by omega
      have HG2 := Lib.hid (HG.out HJ.out)
      have HS2 := Lib.hid (HS.out HJ.out)
      have HZ2 := Lib.hid (HZ.out HJ.out)
      clear HJ HA HG HS HZ hj hlt
      go_wp2_with fail
      go_loopw [4] (fun i wr2 => ∃ i' : Nat, i' ≤ j ∧ i = .int .i64 i' ∧ Grew w wr2 ∧ Hid (NoneL badStep Ls i')) (fun i _ => j - (intOf i).toNat)
      case atStart => exact ⟨0, Nat.zero_le _, rfl, hB, NoneL.zero _ _⟩
      case round =>
        obtain ⟨i', hi, rfl, hB2, HI⟩ := hrel
        by_cases hlt : i' < j
        · obtain ⟨u, k0, hd⟩ := HC.out i' hlt
          have k1 := k0 _ hB2
          have KB := Lib.hid (fun W (hW : Grew w W) => l25Bad_c u (ld Ls i') W (hd.grew hW) (HF.out i' hlt) (by have := HG2.out i' hlt; omega))
          have hA := Lib.hid (HS2.out i' hlt)
          have hS := Lib.hid (fun h => HI.out.succ (k := i') h)
          unfold badStep at hA hS
          obtain ⟨A, c', rfl⟩ := Dds_slice hd
          clear k0 hd
          generalize fbd (ld Ls i') (ld Ls i').length = d at *
          by_cases hd0 : 0 ≤ d
          · have hv := Lib.hid (hA.out (decide_eq_true hd0))
            go_wp2_with fail
            refine (KB.out _ hB2).mono ?_
            rintro e w2 ⟨rfl, hg2⟩
            go_wp2_with fail
            go_ret
            exact ⟨congrArg (fun k => Ending.returned (Value.int .i64 k)) hv.out.symm, hB2.trans hg2⟩
          · have hs := Lib.hid (hS.out (decide_eq_false hd0))
            go_wp2_with fail
            refine (KB.out _ hB2).mono ?_
            rintro e w2 ⟨rfl, hg2⟩
            go_wp2_with fail
            go_roundw
            case rel => exact ⟨i' + 1, by omega, by go_num, hB2.trans hg2, by unfold badStep; exact hs⟩
            case measure => simp [intOf]; omega
        · obtain rfl : i' = j := by omega
          have hv := Lib.hid (HZ2.out HI.out)
          go_wp2_with fail
          go_ret
          exact ⟨congrArg (fun k => Ending.returned (Value.int .i64 k)) hv.out.symm, hB2⟩
end Go.Proofs.YtofeeenjlaljpaaGreat

/- What holds of the steps of a deduction, plain. -/
namespace Go.Proofs.YtofeeenjlaljpaaGreat
open Go.RowKit

theorem fbd_cases (xs : List Dd) (m : Nat) : fbd xs m = -1 ∨ 0 ≤ fbd xs m := by
  induction m with
  | zero => exact .inl rfl
  | succ m ihm =>
    rw [fbd]
    split
    · exact .inr ‹_›
    · split
      · exact .inl rfl
      · exact .inr (by omega)
theorem dcode_zero {xs : List Dd} (h : dcode [xs] = 0) : xs.length ≠ 0 ∧ xs.length ≤ 120 ∧ fbd xs xs.length = -1 := by
  unfold dcode at h
  simp only [List.any_cons, List.any_nil, Bool.or_false] at h
  split at h
  · omega
  · rename_i h1
    split at h
    · omega
    · rename_i h2
      obtain ⟨h3, h4⟩ := badCnt_le (by simpa using h1)
      refine ⟨h3, h4, ?_⟩
      have h5 : ¬ (0 ≤ fbd xs xs.length) := by simpa [badStep] using h2
      rcases fbd_cases xs xs.length with h6 | h6
      · exact h6
      · omega
/-- What holds of the steps of a deduction. -/
theorem steps_prem {xs : List Dd} (h : fbd xs xs.length = -1) {i : Nat} {x : Dd} (hx : xs[i]? = some x) {q : Nat} (hq : q < x.2.1.length) : 0 ≤ it x.2.1 q ∧ it x.2.1 q < i := by
  have hi : i < xs.length := by
    rcases Nat.lt_or_ge i xs.length with hk | hk
    · exact hk
    · rw [List.getElem?_eq_none hk] at hx; cases hx
  obtain ⟨y, hy, hg⟩ := fbd_all h i hi
  rw [hx] at hy
  cases hy
  have h2 := hg.2.1 x.2.1[q] (List.getElem_mem hq)
  rw [it_get hq, List.length_take] at h2
  omega
end Go.Proofs.YtofeeenjlaljpaaGreat

/- Steps with premises moved along, plain. No program is in sight. -/
namespace Go.Proofs.YtofeeenjlaljpaaGreat
open Go.RowKit

/-- The numbers of a list, taken from another. -/
def imgs (L T : List Int) : List Int := L.map fun k => it T k.toNat
/-- b, b + 1, .. -/
def shf (n : Nat) (b : Int) : List Int := (List.range n).map fun i : Nat => b + (i : Int)
theorem shf_len (n : Nat) (b : Int) : (shf n b).length = n := by simp [shf]
theorem shf_at {n i : Nat} {b : Int} (h : i < n) : it (shf n b) i = b + i := by simp [shf, it, List.getD, h]
theorem shf_succ (n : Nat) (b : Int) : shf (n + 1) b = shf n b ++ [b + (n : Int)] := by simp [shf, List.range_succ]
theorem imgs_shf {L : List Int} {n : Nat} {b : Int} (h : ∀ k ∈ L, 0 ≤ k ∧ k < (n : Int)) : imgs L (shf n b) = L.map fun k => b + k := by
  unfold imgs
  apply List.map_congr_left
  intro k hk
  obtain ⟨h1, h2⟩ := h k hk
  show it (shf n b) k.toNat = b + k
  rw [shf_at (by omega)]
  omega
/-- A step with its premises moved by b. -/
def mvD (b : Int) (x : Dd) : Dd := (x.1, x.2.1.map (fun k => b + k), x.2.2.1, x.2.2.2.1, x.2.2.2.2)
theorem mvD_zero (x : Dd) : mvD 0 x = x := by
  have : x.2.1.map (fun k => (0 : Int) + k) = x.2.1 := by
    have e : ∀ k ∈ x.2.1, (fun k => (0 : Int) + k) k = id k := fun k _ => by show 0 + k = k; omega
    rw [List.map_congr_left e, List.map_id]
  unfold mvD
  rw [this]
theorem map_mvD_zero (xs : List Dd) : xs.map (mvD 0) = xs := by
  have e : ∀ x ∈ xs, mvD 0 x = id x := fun x _ => mvD_zero x
  rw [List.map_congr_left e, List.map_id]
/-- A step with its premises taken from a list. -/
def toD (T : List Int) (x : Dd) : Dd := (x.1, imgs x.2.1 T, x.2.2.1, x.2.2.2.1, x.2.2.2.2)
theorem toD_shf {n : Nat} {b : Int} {x : Dd} (h : ∀ k ∈ x.2.1, 0 ≤ k ∧ k < (n : Int)) : toD (shf n b) x = mvD b x := by unfold toD mvD; rw [imgs_shf h]
/-- The premises of the steps of a deduction are numbers of earlier ones. -/
theorem prem_lt {xs : List Dd} (h : fbd xs xs.length = -1) {i : Nat} {x : Dd} (hx : xs[i]? = some x) : ∀ k ∈ x.2.1, 0 ≤ k ∧ k < (i : Int) := by
  intro k hk
  obtain ⟨q, hq, rfl⟩ := List.getElem_of_mem hk
  have := steps_prem h hx hq
  rw [it_get hq]
  exact this
theorem map_toD_shf {xs : List Dd} {b : Int} (h : fbd xs xs.length = -1) : xs.map (toD (shf xs.length b)) = xs.map (mvD b) := by
  apply List.map_congr_left
  intro x hx
  obtain ⟨i, hi, rfl⟩ := List.getElem_of_mem hx
  exact toD_shf fun k hk => by have := prem_lt h (List.getElem?_eq_getElem hi) k hk; omega
theorem FitDd.mv {x : Dd} (b : Int) (h : FitDd x) : FitDd (mvD b x) := ⟨by unfold mvD; rw [List.length_map]; exact h.1, h.2.1, h.2.2.1, h.2.2.2⟩
theorem FitsDd.mv {xs : List Dd} (b : Int) (h : FitsDd xs) : FitsDd (xs.map (mvD b)) := by
  intro y hy
  obtain ⟨x, hx, rfl⟩ := List.mem_map.1 hy
  exact (h x hx).mv b
theorem FitsDd.app {xs ys : List Dd} (h : FitsDd xs) (k : FitsDd ys) : FitsDd (xs ++ ys) := by
  intro y hy
  rcases List.mem_append.1 hy with hy | hy
  · exact h y hy
  · exact k y hy
theorem FitsDd.one {x : Dd} (h : FitDd x) : FitsDd [x] := by
  intro y hy
  obtain rfl : y = x := by simpa using hy
  exact h
/-- What the steps of a deduction are. -/
theorem step_good {xs : List Dd} (h : fbd xs xs.length = -1) {i : Nat} {x : Dd} (hx : xs[i]? = some x) : x.2.2.1.length ≤ 12 ∧ (∀ t ∈ x.2.2.1, gp t = true) ∧ gp x.2.2.2.1 = true := by
  have hi := (List.getElem?_eq_some_iff.1 hx).1
  obtain ⟨y, hy, hg⟩ := fbd_all h i hi
  rw [hx] at hy
  cases hy
  obtain ⟨h1, h2⟩ := asl_map hg.1.1
  exact ⟨h1, h2, hg.1.2.1⟩
end Go.Proofs.YtofeeenjlaljpaaGreat

/- Appends of numbers. -/
namespace Go.Proofs.YtofeeenjlaljpaaGreat
open Go.RowKit

/-- 'out = append(out, x)' onto a row of numbers of the call's own. -/
theorem wpList_appI {ops : Array Oper} {rest : List Oper} {o : Oper} {a : Act} {Q : Exit → Act → World → Prop} {w w0 : World} (s x : Operand) (hgd : o.guard = none)
    (ho : o.op = .call { callee := .builtin .append, args := #[s, x], argTypes := #[34, 34] })
    (v : Value) (L : List Int) (hs : a.eval s = v) (hown : OwnI w w0.heap.size v L) (hg : Grew w0 w) (vx : Value) (k : Int) (hx : a.eval x = vx) (hr : Rd w 1 vx 1 [.int .i64 k]) (hn : L.length ≤ 1048576)
    (h : ∀ v' w', OwnI w' w0.heap.size v' (L ++ [k]) → Grew w0 w' → w.grownBy w' v.ownBlock → wpList Tryz.prog ops Q rest (a.put o.dst v') w') : wpList Tryz.prog ops Q (o :: rest) a w := by
  obtain ⟨i0, hi0, hz0, hz1, hz2⟩ := info_parts Tryz.infoI
  refine wpList_append_rd w hgd s x _ ho w0.heap.size 2 i0 _ 1 8 Tryz.underlying34 hi0 hz0 hz1 hz2 rfl (by omega) v L.length (icells L) hs hown vx 1 [.int .i64 k] hx hr (by simp [Value.oneCell']) (by unfold maxLen; omega) (by omega) hg.size ?_
  intro v' w' h1 h2 h3
  refine h v' w' ?_ (hg.grown h2 fun k hk => (hown.lt k hk).1) h2
  unfold OwnI
  rw [List.length_append, icells_append]
  exact h1
theorem rd_litI (w : World) (k : Int) (t : TypeId) : Rd (w.alloc (.cells #[.int .i64 k] t)) 1 (.slice (some ⟨w.heap.size, 0, none⟩) 1 1) 1 [.int .i64 k] := by
  refine ⟨rfl, by omega, .inr ⟨w.heap.size, 0, 1, rfl, by omega, by omega, by simp, fun j x hx => ?_⟩⟩
  have hj : j = 0 := by
    have := (List.getElem?_eq_some_iff.1 hx).1
    simp at this
    omega
  subst hj
  simp at hx
  subst hx
  simp
theorem own_emptyI (w : World) : OwnI (w.alloc (.cells #[] 2)) w.heap.size (.slice (some ⟨w.heap.size, 0, none⟩) 0 0) [] :=
  World.ownsRow_lit (e := 2) (size := 1) w #[] 0 (Nat.le_refl _) (by omega) rfl
end Go.Proofs.YtofeeenjlaljpaaGreat

/- Lists of numbers: images and shifted numbers. -/
namespace Go.Proofs.YtofeeenjlaljpaaGreat
open Go.RowKit

theorem imgs_take {L T : List Int} {j : Nat} (h : j < L.length) : imgs (L.take (j + 1)) T = imgs (L.take j) T ++ [it T (it L j).toNat] := by
  unfold imgs
  rw [List.take_add_one, List.map_append]
  have e : L[j]? = some (it L j) := by rw [List.getElem?_eq_getElem h]; exact congrArg some (by simp [it, List.getD, h])
  rw [e]
  rfl
theorem imgs_len (L T : List Int) : (imgs L T).length = L.length := by simp [imgs]
def GivesI1 (w : World) (r : List Int) (e : Ending) (w' : World) : Prop := ∃ v, e = .returned v ∧ OwnI w' w.heap.size v r ∧ Grew w w'
set_option maxHeartbeats 1000000 in
theorem imagesOf_c (v vt : Value) (L T : List Int) (w : World) (h : Ints w v L) (ht : Ints w vt T) (hk : ∀ i, i < L.length → 0 ≤ it L i ∧ it L i < (T.length : Int)) (hn : L.length ≤ 1048576) :
    Calls Tryz.prog 86 #[v, vt] w (GivesI1 w (imgs L T)) := by
  unfold GivesI1
  have HV := Lib.hid h
  have HT := Lib.hid ht
  obtain ⟨A, c, rfl⟩ := ints_slice h
  obtain ⟨At, ct, rfl⟩ := ints_slice ht
  have HZ : Hid (imgs (L.take 0) T = []) := Lib.hid rfl
  have HS := Lib.hid (fun j (hj : j < L.length) => @imgs_take L T j hj)
  have HE : Hid (imgs (L.take L.length) T = imgs L T) := Lib.hid (by rw [List.take_length])
  have HLn : Hid (∀ j, (imgs (L.take j) T).length ≤ L.length) := Lib.hid (fun j => by rw [imgs_len, List.length_take]; omega)
  have HK := Lib.hid hk
  clear h ht hk
  generalize hN : L.length = n at *
  generalize hM : T.length = m at *
  go_enter Tryz.func86, Tryz.ntmps86
  go_wp2_with fail
  go_loopw [5, 10] (fun vv i wr => ∃ (j : Nat), j ≤ n ∧ i = .int .i64 j ∧ Hid (OwnI wr w.heap.size vv (imgs (L.take j) T)) ∧ Grew w wr) (fun _ i _ => n - (intOf i).toNat)
  case atStart => exact ⟨0, Nat.zero_le _, rfl, by rw [HZ.out]; exact Lib.hid (OwnI.nil_ _ _), Grew.refl _⟩
  case round =>
    obtain ⟨j, hj, rfl, hO, hB⟩ := hrel
    obtain ⟨Ah, ch, rfl⟩ := ints_slice hO.out.ints
    by_cases hlt : j < n
    · obtain ⟨hk0, hk1⟩ := HK.out j hlt
      obtain ⟨p, hpe⟩ : ∃ p : Nat, it L j = p := ⟨(it L j).toNat, by omega⟩
      rcases HV.out.open_ with ⟨_, h2⟩ | ⟨b1, o1, c1, hv1, hc1, hm1, hb1, hcl1⟩
      · rw [h2] at hN; simp at hN; omega
      obtain ⟨rfl, rfl⟩ : A = some ⟨b1, o1, none⟩ ∧ c = c1 := by simpa [hN] using hv1
      rcases HT.out.open_ with ⟨_, h2⟩ | ⟨b2, o2, c2, hv2, hc2, hm2, hb2, hcl2⟩
      · rw [h2] at hM; simp at hM; omega
      obtain ⟨rfl, rfl⟩ : At = some ⟨b2, o2, none⟩ ∧ ct = c2 := by simpa [hM] using hv2
      have z1 := hcl1 j (by omega) _ hB
      rw [hpe] at z1
      have z2 := hcl2 p (by omega) _ hB
      have hs := Lib.hid (HS.out j hlt)
      rw [hpe, Int.toNat_natCast] at hs
      have hl := HLn.out j
      clear hcl1 hcl2 hv1 hv2
      have i0 : (0 : Int) ≤ (p : Int) := by omega
      have i1 : (p : Int) < (m : Int) := by omega
      clear hk0 hk1 hpe
      generalize imgs (L.take j) T = Lj at *
      generalize it T p = q at *
      have hO1 := hO.out.grew ((Grew.refl wr).alloc (.cells #[.int .i64 q] 2))
      have hlj := Lib.hid (show Lj.length ≤ 1048576 by omega)
      go_wp2_with (first | (at_builtin; refine wpList_appI (w0 := w) _ _ rfl rfl _ Lj rfl hO1 (hB.alloc _) _ q rfl (rd_litI _ _ _) hlj.out ?_; intro v2 w2 hown2 hg2 _))
      go_roundw
      case rel => exact ⟨j + 1, by omega, by go_num, by rw [hs.out]; exact Lib.hid hown2, hg2⟩
      case measure => simp [intOf]; omega
    · obtain rfl : j = n := by omega
      go_wp2_with fail
      go_ret
      exact ⟨_, rfl, by rw [← HE.out]; exact hO.out, hB⟩
set_option maxHeartbeats 1000000 in
theorem shifted_c (n : Nat) (b : Int) (w : World) (hn : n ≤ 1048576) (hb0 : 0 ≤ b) (hb1 : b ≤ 1048576) :
    Calls Tryz.prog 53 #[.int .i64 n, .int .i64 b] w (GivesI1 w (shf n b)) := by
  unfold GivesI1
  have HZ : Hid (shf 0 b = []) := Lib.hid rfl
  have HS := Lib.hid (fun j => shf_succ j b)
  have HLn := Lib.hid (fun j => shf_len j b)
  go_enter Tryz.func53, Tryz.ntmps53
  go_wp2_with fail
  go_loopw [5, 8] (fun vv i wr => ∃ (j : Nat), j ≤ n ∧ i = .int .i64 j ∧ Hid (OwnI wr w.heap.size vv (shf j b)) ∧ Grew w wr) (fun _ i _ => n - (intOf i).toNat)
  case atStart => exact ⟨0, Nat.zero_le _, rfl, by rw [HZ.out]; exact Lib.hid (OwnI.nil_ _ _), Grew.refl _⟩
  case round =>
    obtain ⟨j, hj, rfl, hO, hB⟩ := hrel
    obtain ⟨Ah, ch, rfl⟩ := ints_slice hO.out.ints
    by_cases hlt : j < n
    · have hs := Lib.hid (HS.out j)
      have hl := HLn.out j
      generalize shf j b = Lj at *
      obtain ⟨q, hq⟩ : ∃ q, q = b + (j : Int) := ⟨_, rfl⟩
      have eW : IntKind.i64.wrap (b + (j : Int)) = q := by rw [IntKind.wrap_i64] <;> omega
      rw [← hq] at hs
      have hO1 := hO.out.grew ((Grew.refl wr).alloc (.cells #[.int .i64 q] 2))
      have hlj := Lib.hid (show Lj.length ≤ 1048576 by omega)
      clear hq
      go_wp2_with (first | (at_builtin; refine wpList_appI (w0 := w) _ _ rfl rfl _ Lj rfl hO1 (hB.alloc _) _ q rfl (rd_litI _ _ _) hlj.out ?_; intro v2 w2 hown2 hg2 _))
      go_roundw
      case rel => exact ⟨j + 1, by omega, by go_num, by rw [hs.out]; exact Lib.hid hown2, hg2⟩
      case measure => simp [intOf]; omega
    · obtain rfl : j = n := by omega
      go_wp2_with fail
      go_ret
      exact ⟨_, rfl, hO.out, hB⟩
end Go.Proofs.YtofeeenjlaljpaaGreat

/- Rows of steps that grow by append, with fresh inner rows. -/
namespace Go.Proofs.YtofeeenjlaljpaaGreat
open Go.RowKit

/-- A row of steps of the call's own, with own inner rows that lie apart from each other. -/
structure OwnDp (w : World) (B : Nat) (v : Value) (xs : List Dd) (ps : List (Value × Value × Dd)) : Prop where
  map : ps.map (·.2.2) = xs
  row : w.ownsRow B 50 5 v xs.length (pcells ps)
  inn : ∀ p ∈ ps, OwnI w B p.1 p.2.2.2.1 ∧ OwnS w B p.2.1 p.2.2.2.2.1
  apP : ps.Pairwise (fun p q => Apart p.1 q.1 ∧ Apart p.2.1 q.2.1)
theorem OwnDp.grew {w w' : World} {B : Nat} {v : Value} {xs : List Dd} {ps : List (Value × Value × Dd)} (h : OwnDp w B v xs ps) (hg : Grew w w') : OwnDp w' B v xs ps :=
  ⟨h.map, own_grew h.row hg, fun p hp => ⟨(h.inn p hp).1.grew hg, (h.inn p hp).2.grew hg⟩, h.apP⟩
theorem OwnDp.nil_ (w : World) (B : Nat) : OwnDp w B (.slice none 0 0) [] [] := ⟨rfl, World.ownsRow_nil w B _ 5, (fun p hp => by cases hp), List.Pairwise.nil⟩
theorem OwnDp.slice {w : World} {B : Nat} {v : Value} {xs : List Dd} {ps : List (Value × Value × Dd)} (h : OwnDp w B v xs ps) : ∃ A c, v = .slice A xs.length c := by
  rcases h.row.2 with ⟨h1, h2⟩ | ⟨g, c, cur, h1, _⟩
  · rw [h1, h2]; exact ⟨_, _, rfl⟩
  · exact ⟨_, _, h1⟩
theorem OwnDp.ownDx {w : World} {B : Nat} {v : Value} {xs : List Dd} {ps : List (Value × Value × Dd)} (h : OwnDp w B v xs ps) : OwnDx w B w.heap.size v xs := by
  have hl : ps.length = xs.length := by rw [← h.map]; simp
  rcases h.row.2 with ⟨h1, h2⟩ | ⟨g, c, cur, h1, hB, hh, hnc, hcm, hcs, ht⟩
  · exact .inl ⟨h1, List.eq_nil_of_length_eq_zero h2⟩
  · have hat : ∀ (i : Nat) (p : Value × Value × Dd), ps[i]? = some p → ∀ (k : Nat) (u : Value), (pcells ps)[i * 5 + k]? = some u → cur[i * 5 + k]? = some u := fun i p hp k u hu => by
      rw [← ht, List.getElem?_take] at hu
      split at hu
      · simpa using hu
      · cases hu
    have hps : ∀ (i : Nat) (x : Dd), xs[i]? = some x → ∃ p : Value × Value × Dd, ps[i]? = some p ∧ p.2.2 = x := fun i x hx => by
      rw [← h.map, List.getElem?_map] at hx
      cases hp : ps[i]? with
      | none => rw [hp] at hx; cases hx
      | some p => rw [hp] at hx; exact ⟨p, rfl, by simpa using hx⟩
    have hget : ∀ i : Nat, i < xs.length → ∃ p : Value × Value × Dd, ps[i]? = some p ∧ p ∈ ps := fun i hi => ⟨ps[i], List.getElem?_eq_getElem (by omega), List.getElem_mem (by omega)⟩
    let F : Nat → Value := fun i => ((ps[i]?).map (·.1)).getD undef
    let G : Nat → Value := fun i => ((ps[i]?).map (·.2.1)).getD undef
    have hF : ∀ (i : Nat) (p : Value × Value × Dd), ps[i]? = some p → F i = p.1 ∧ G i = p.2.1 := fun i p hp => by
      constructor
      · show ((ps[i]?).map (·.1)).getD undef = p.1
        rw [hp]; rfl
      · show ((ps[i]?).map (·.2.1)).getD undef = p.2.1
        rw [hp]; rfl
    have hpw := List.pairwise_iff_getElem.1 h.apP
    refine .inr ⟨g, c, cur, F, G, h1, hB, blk_lt hh, hh, hnc, hcm, hcs, ⟨fun i x hi hx => ?_, fun i b hi hb => ?_, fun i b hi hb => ?_, fun i k hik hk => ?_, fun i k hik hk => ?_⟩⟩
    · obtain ⟨p, hp, e⟩ := hps i x hx
      obtain ⟨e0, e1, e2, e3, e4⟩ := pcells_at ps i p hp
      obtain ⟨f1, f2⟩ := hF i p hp
      rw [f1, f2, ← e]
      obtain ⟨m1, m2⟩ := h.inn p (List.mem_of_getElem? hp)
      exact ⟨⟨hat i p hp 0 _ e0, hat i p hp 1 _ e1, hat i p hp 2 _ e2, hat i p hp 3 _ e3, hat i p hp 4 _ e4⟩, m1, m2⟩
    · obtain ⟨p, hp, hm⟩ := hget i hi
      rw [(hF i p hp).1] at hb
      exact ((h.inn p hm).1.lt b hb).2
    · obtain ⟨p, hp, hm⟩ := hget i hi
      rw [(hF i p hp).2] at hb
      exact ((h.inn p hm).2.lt b hb).2
    · have h2 := hpw i k (by omega) (by omega) hik
      rw [(hF i _ (List.getElem?_eq_getElem (by omega))).1, (hF k _ (List.getElem?_eq_getElem (by omega))).1]
      exact h2.1
    · have h2 := hpw i k (by omega) (by omega) hik
      rw [(hF i _ (List.getElem?_eq_getElem (by omega))).2, (hF k _ (List.getElem?_eq_getElem (by omega))).2]
      exact h2.2

/-- 'out = append(out, x)', out a row of steps, x with fresh inner rows. -/
theorem wpList_appDp {ops : Array Oper} {rest : List Oper} {o : Oper} {a : Act} {Q : Exit → Act → World → Prop} {w : World} (B H : Nat) (s x : Operand) (hgd : o.guard = none)
    (ho : o.op = .call { callee := .builtin .append, args := #[s, x], argTypes := #[27, 27] })
    (v : Value) (xs : List Dd) (ps : List (Value × Value × Dd)) (hs : a.eval s = v) (hown : OwnDp w B v xs ps) (hB : B ≤ w.heap.size) (vx u1 u2 : Value) (j : Dd) (hx : a.eval x = vx) (hr : Rd w 5 vx 1 [.int .i64 j.1, u1, u2, .string j.2.2.2.1, .int .i64 j.2.2.2.2])
    (hu : OwnI w H u1 j.2.1) (hv : OwnS w H u2 j.2.2.1) (hBH : B ≤ H) (hH : ∀ p ∈ ps, ∀ b, (p.1.ownBlock = some b ∨ p.2.1.ownBlock = some b) → b < H) (hn : xs.length ≤ 1048576)
    (h : ∀ v' w', OwnDp w' B v' (xs ++ [j]) (ps ++ [(u1, u2, j)]) → w.grownBy w' v.ownBlock → wpList Tryz.prog ops Q rest (a.put o.dst v') w') : wpList Tryz.prog ops Q (o :: rest) a w := by
  obtain ⟨i0, hi0, hz0, hz1, hz2⟩ := info_parts infoDd
  have hu1 : u1.oneCell' = true := by
    obtain ⟨A, c, rfl⟩ := ints_slice hu.ints
    rfl
  have hu2 : u2.oneCell' = true := by
    obtain ⟨A, c, rfl⟩ := strs_slice hv.strs
    rfl
  refine wpList_append_rd w hgd s x _ ho B 50 i0 _ 5 80 Tryz.underlying27 hi0 hz0 hz1 hz2 rfl (by omega) v xs.length (pcells ps) hs hown.row vx 1 [.int .i64 j.1, u1, u2, .string j.2.2.2.1, .int .i64 j.2.2.2.2] hx hr (by intro y hy; simp at hy; rcases hy with rfl | rfl | rfl | rfl | rfl; rfl; exact hu1; exact hu2; rfl; rfl) (by unfold maxLen; omega) (by omega) hB ?_
  intro v' w' k1 k2 k3
  refine h v' w' ⟨by rw [List.map_append, hown.map]; rfl, ?_, fun p hp => ?_, ?_⟩ k2
  · rw [List.length_append, pcells_append]
    exact k1
  · rw [List.mem_append] at hp
    rcases hp with hp | hp
    · obtain ⟨m1, m2⟩ := hown.inn p hp
      exact ⟨own_apart m1 k2 (own_types m1 hown.row tI_D).symm, own_apart m2 k2 (own_types m2 hown.row tS_D).symm⟩
    · simp at hp; subst hp
      exact ⟨own_base (own_apart hu k2 (own_types hu hown.row tI_D).symm) hBH, own_base (own_apart hv k2 (own_types hv hown.row tS_D).symm) hBH⟩
  · rw [List.pairwise_append]
    refine ⟨hown.apP, List.pairwise_singleton _ _, fun p hp q hq => ?_⟩
    simp at hq; subst hq
    refine ⟨fun b hb hb2 => ?_, fun b hb hb2 => ?_⟩
    · have h1 := hH p hp b (.inl hb)
      have h2 := own_of_ge hu hb2
      omega
    · have h1 := hH p hp b (.inr hb)
      have h2 := own_of_ge hv hb2
      omega
theorem OwnDp.below {w : World} {B : Nat} {v : Value} {xs : List Dd} {ps : List (Value × Value × Dd)} (h : OwnDp w B v xs ps) : ∀ p ∈ ps, ∀ b, (p.1.ownBlock = some b ∨ p.2.1.ownBlock = some b) → b < w.heap.size := fun p hp b hb => by
  obtain ⟨m1, m2⟩ := h.inn p hp
  rcases hb with hb | hb
  · exact (m1.lt b hb).2
  · exact (m2.lt b hb).2
end Go.Proofs.YtofeeenjlaljpaaGreat

/- Copies of lists of texts: slices.Clone of the program, l11Copy of the reference. -/
namespace Go.Proofs.YtofeeenjlaljpaaGreat
open Go.RowKit

/-- 'out = append(out, list...)', out a row of texts of the call's own. -/
theorem wpList_appL {ops : Array Oper} {rest : List Oper} {o : Oper} {a : Act} {Q : Exit → Act → World → Prop} {w w0 : World} (s x : Operand) (hgd : o.guard = none)
    (ho : o.op = .call { callee := .builtin .append, args := #[s, x], argTypes := #[24, 24] })
    (v : Value) (L : List ByteArray) (hs : a.eval s = v) (hown : OwnS w w0.heap.size v L) (hg : Grew w0 w) (vx : Value) (K : List ByteArray) (hx : a.eval x = vx) (hr : Strs w vx K) (hn : L.length + K.length ≤ 1099511627776)
    (h : ∀ v' w', OwnS w' w0.heap.size v' (L ++ K) → Grew w0 w' → w.grownBy w' v.ownBlock → wpList Tryz.prog ops Q rest (a.put o.dst v') w') : wpList Tryz.prog ops Q (o :: rest) a w := by
  obtain ⟨i0, hi0, hz0, hz1, hz2⟩ := info_parts Tryz.infoStr
  refine wpList_append_rd w hgd s x _ ho w0.heap.size 9 i0 _ 1 16 Tryz.underlying24 hi0 hz0 hz1 hz2 rfl (by omega) v L.length (scells L) hs hown vx K.length (scells K) hx hr (scells_one K) (by unfold maxLen; omega) (by omega) hg.size ?_
  intro v' w' h1 h2 h3
  refine h v' w' ?_ (hg.grown h2 fun k hk => (hown.lt k hk).1) h2
  unfold OwnS
  rw [List.length_append, scells_append]
  exact h1
theorem own_emptyL (w : World) : OwnS (w.alloc (.cells #[] 9)) w.heap.size (.slice (some ⟨w.heap.size, 0, none⟩) 0 0) [] :=
  World.ownsRow_lit (e := 9) (size := 1) w #[] 0 (Nat.le_refl _) (by omega) rfl
theorem cloneL_c (v : Value) (L : List ByteArray) (w : World) (h : Strs w v L) (hn : L.length ≤ 1099511627776) :
    Calls Tryz.prog 41 #[v] w (GivesS w L) := by
  have q : ∀ (w : World) (a : Option Addr) (n c n' c' : Nat), (binOp .eql 24 (.slice a n c) (.slice none n' c')).run Tryz.prog w = .ok (.bool a.isNone) w := fun w a n c n' c' => Lib.run_eql_slice_nil w _ _ a n c n' c' Tryz.underlying24
  have he := own_emptyL w
  rcases h.open_ with ⟨rfl, rfl⟩ | ⟨b, o, c, rfl, hc, hm, hb, hf⟩
  · clear he h
    go_enter Tryz.func41, Tryz.ntmps41
    go_wp2_with fail
    go_ret
    exact ⟨_, rfl, OwnS.nil_ _ _, Grew.refl _⟩
  · clear hf
    go_enter Tryz.func41, Tryz.ntmps41
    go_wp2_with (first
      | (at_builtin; refine wpList_appL (w0 := w) _ _ rfl rfl _ [] rfl he ((Grew.refl w).alloc _) _ L rfl (h.grew ((Grew.refl w).alloc _)) (by simp; omega) ?_; intro v1 w1 hown1 hg1 _))
    go_ret
    exact ⟨_, rfl, by simpa using hown1, hg1⟩
theorem copyL_c (v : Value) (L : List ByteArray) (w : World) (h : Strs w v L) (hn : L.length ≤ 1099511627776) :
    Calls Tryz.prog 37 #[v] w (GivesS w L) := by
  have he := own_emptyL w
  obtain ⟨A, c, rfl⟩ := strs_slice h
  go_enter Tryz.func37, Tryz.ntmps37
  go_wp2_with (first
    | (at_builtin; refine wpList_appL (w0 := w) _ _ rfl rfl _ [] rfl he ((Grew.refl w).alloc _) _ L rfl (h.grew ((Grew.refl w).alloc _)) (by simp; omega) ?_; intro v1 w1 hown1 hg1 _))
  go_ret
  exact ⟨_, rfl, by simpa using hown1, hg1⟩
end Go.Proofs.YtofeeenjlaljpaaGreat

/- mapDeductions: copies of steps with other premises. -/
namespace Go.Proofs.YtofeeenjlaljpaaGreat
open Go.RowKit

theorem own_box {a b : World} {g B H : Nat} {e : TypeId} {k n : Nat} {v : Value} {xs : List Value} (ho : a.ownsRow B e k v n xs) (hg : Span g (g + 1) a b) (hB : g < B) (hH : H ≤ B) : b.ownsRow H e k v n xs :=
  own_base (hg.own ho (fun c hc => .inr (by have := own_of_ge ho hc; omega))) hH
theorem rd_litDb (w : World) {g : Nat} (hg : g = w.heap.size) (a b c d e : Value) (t : TypeId) : Rd (w.alloc (.cells #[a, b, c, d, e] t)) 5 (.slice (some ⟨g, 0, none⟩) 1 1) 1 [a, b, c, d, e] := by
  subst hg
  exact rd_litD w a b c d e t
/-- The call returns own steps, their inner rows apart. -/
def GivesDp (w : World) (ys : List Dd) (e : Ending) (w' : World) : Prop := ∃ v ps, e = .returned v ∧ OwnDp w' w.heap.size v ys ps ∧ Grew w w'
theorem toD_take {xs : List Dd} {T : List Int} {j : Nat} {x : Dd} (hx : xs[j]? = some x) : (xs.take (j + 1)).map (toD T) = (xs.take j).map (toD T) ++ [toD T x] := by
  rw [List.take_add_one, List.map_append, hx]
  rfl
set_option maxHeartbeats 4000000 in
theorem mapDeductions_c (v vt : Value) (xs : List Dd) (T : List Int) (w : World) (h : Dds w v xs) (ht : Ints w vt T) (hf : FitsDd xs)
    (hk : ∀ (i : Nat) (x : Dd), xs[i]? = some x → ∀ q, q < x.2.1.length → 0 ≤ it x.2.1 q ∧ it x.2.1 q < (T.length : Int)) (hn : xs.length ≤ 1048576) :
    Calls Tryz.prog 52 #[v, vt] w (GivesDp w (xs.map (toD T))) := by
  unfold GivesDp
  have HV := Lib.hid h
  have HT := Lib.hid ht
  obtain ⟨A, c, rfl⟩ := Dds_slice h
  obtain ⟨At, ct, rfl⟩ := ints_slice ht
  have HX := Lib.hid (fun j (hj : j < xs.length) => (⟨xs[j], List.getElem?_eq_getElem hj, hf _ (List.getElem_mem hj)⟩ : ∃ x, xs[j]? = some x ∧ FitDd x))
  have HZ : Hid ((xs.take 0).map (toD T) = []) := Lib.hid rfl
  have HS := Lib.hid (fun j x (hx : xs[j]? = some x) => toD_take (T := T) hx)
  have HE : Hid ((xs.take xs.length).map (toD T) = xs.map (toD T)) := Lib.hid (by rw [List.take_length])
  have HLn : Hid (∀ j, ((xs.take j).map (toD T)).length ≤ xs.length) := Lib.hid (fun j => by rw [List.length_map, List.length_take]; omega)
  have HK := Lib.hid hk
  clear h ht hk hf
  generalize hN : xs.length = n at *
  generalize hM : T.length = m at *
  go_enter Tryz.func52, Tryz.ntmps52
  go_wp2_with fail
  go_loopw [5, 10] (fun vv i wr => ∃ (j : Nat) (ps : List (Value × Value × Dd)), j ≤ n ∧ i = .int .i64 j ∧ Hid (OwnDp wr w.heap.size vv ((xs.take j).map (toD T)) ps) ∧ Grew w wr) (fun _ i _ => n - (intOf i).toNat)
  case atStart => exact ⟨0, [], Nat.zero_le _, rfl, by rw [HZ.out]; exact Lib.hid (OwnDp.nil_ _ _), Grew.refl _⟩
  case round =>
    obtain ⟨j, ps, hj, rfl, hO, hB⟩ := hrel
    obtain ⟨Ah, ch, rfl⟩ := hO.out.slice
    by_cases hlt : j < n
    · obtain ⟨x, hx, hfx⟩ := HX.out j hlt
      rcases HV.out with ⟨_, h2⟩ | ⟨b, o, c1, hv1, hc1, hm1, hb1, hcl1⟩
      · rw [h2] at hN; simp at hN; omega
      obtain ⟨rfl, rfl⟩ : A = some ⟨b, o, none⟩ ∧ c = c1 := by simpa [hN] using hv1
      obtain ⟨up, ua, hcl, hup, hus⟩ := hcl1 j x hx
      obtain ⟨k0, k1, k2, k3, k4⟩ := hcl.grew hb1 hB
      obtain ⟨A1, ca1, rfl⟩ := ints_slice hup
      obtain ⟨A2, ca2, rfl⟩ := strs_slice hus
      have hs0 := HS.out j x hx
      have hkx := HK.out j x hx
      have hl := HLn.out j
      have HHb := Lib.hid hO.out.below
      clear hcl1 hv1 hcl hx
      obtain ⟨r0, rA, rs, rc, rn⟩ := x
      have hs : Hid ((xs.take (j + 1)).map (toD T) = (xs.take j).map (toD T) ++ [(r0, imgs rA T, rs, rc, rn)]) := Lib.hid hs0
      have hfp : rA.length ≤ 1048576 := hfx.1
      have hfa : rs.length ≤ 1048576 := hfx.2.1
      have KI := Lib.hid (fun W (hW : Grew wr W) => imagesOf_c _ _ rA T W (hup.grew (hB.trans hW)) (HT.out.grew (hB.trans hW)) (fun i hi => by rw [hM]; exact hkx i hi) hfp)
      have KC := Lib.hid (fun W (hW : Grew wr W) => cloneL_c _ rs W (hus.grew (hB.trans hW)) (by omega))
      clear hfx hup hus hkx hs0
      simp only at *
      generalize (xs.take j).map (toD T) = Lj at *
      generalize imgs rA T = IM at *
      have hd0 := Lib.hid (((Grew.refl wr).alloc (.cells #[.int .i64 r0, .slice A1 rA.length ca1, .slice A2 rs.length ca2, .string rc, .int .i64 rn] 50)).drew)
      have hDs : Hid (wr.heap.size < (wr.alloc (.cells #[.int .i64 r0, .slice A1 rA.length ca1, .slice A2 rs.length ca2, .string rc, .int .i64 rn] 50)).drew.heap.size) := Lib.hid (by simp)
      have HW : Hid (∀ W, Grew (wr.alloc (.cells #[.int .i64 r0, .slice A1 rA.length ca1, .slice A2 rs.length ca2, .string rc, .int .i64 rn] 50)).drew W → W.heap[wr.heap.size]? = some (.cells #[.int .i64 r0, .slice A1 rA.length ca1, .slice A2 rs.length ca2, .string rc, .int .i64 rn] 50)) := Lib.hid (fun W hW => (hW.block hDs.out).trans (blk_new wr (.cells #[.int .i64 r0, .slice A1 rA.length ca1, .slice A2 rs.length ca2, .string rc, .int .i64 rn] 50)))
      have c0 : ∀ W, Grew (wr.alloc (.cells #[.int .i64 r0, .slice A1 rA.length ca1, .slice A2 rs.length ca2, .string rc, .int .i64 rn] 50)).drew W → W.cell? ⟨wr.heap.size, 0, none⟩ = some (.int .i64 r0) := fun W hW => by rw [blk_cell (HW.out W hW)]; rfl
      have c1 : ∀ W, Grew (wr.alloc (.cells #[.int .i64 r0, .slice A1 rA.length ca1, .slice A2 rs.length ca2, .string rc, .int .i64 rn] 50)).drew W → W.cell? ⟨wr.heap.size, 1, none⟩ = some (.slice A1 rA.length ca1) := fun W hW => by rw [blk_cell (HW.out W hW)]; rfl
      have c2 : ∀ W, Grew (wr.alloc (.cells #[.int .i64 r0, .slice A1 rA.length ca1, .slice A2 rs.length ca2, .string rc, .int .i64 rn] 50)).drew W → W.cell? ⟨wr.heap.size, 2, none⟩ = some (.slice A2 rs.length ca2) := fun W hW => by rw [blk_cell (HW.out W hW)]; rfl
      have c3 : ∀ W, Grew (wr.alloc (.cells #[.int .i64 r0, .slice A1 rA.length ca1, .slice A2 rs.length ca2, .string rc, .int .i64 rn] 50)).drew W → W.cell? ⟨wr.heap.size, 3, none⟩ = some (.string rc) := fun W hW => by rw [blk_cell (HW.out W hW)]; rfl
      have c4 : ∀ W, Grew (wr.alloc (.cells #[.int .i64 r0, .slice A1 rA.length ca1, .slice A2 rs.length ca2, .string rc, .int .i64 rn] 50)).drew W → W.cell? ⟨wr.heap.size, 4, none⟩ = some (.int .i64 rn) := fun W hW => by rw [blk_cell (HW.out W hW)]; rfl
      have f1 : ∀ W, Grew (wr.alloc (.cells #[.int .i64 r0, .slice A1 rA.length ca1, .slice A2 rs.length ca2, .string rc, .int .i64 rn] 50)).drew W → W.frozen? ⟨wr.heap.size, 1, none⟩ = false := fun W hW => blk_frozen (HW.out W hW) 1
      have f2 : ∀ W, Grew (wr.alloc (.cells #[.int .i64 r0, .slice A1 rA.length ca1, .slice A2 rs.length ca2, .string rc, .int .i64 rn] 50)).drew W → W.frozen? ⟨wr.heap.size, 2, none⟩ = false := fun W hW => blk_frozen (HW.out W hW) 2
      have hlj := Lib.hid (show Lj.length ≤ 1048576 by omega)
      go_wp2_with fail
      go_region_with (first
        | (go_at_call 86; refine (KI.out _ hd0.out).mono ?_; rintro e wI ⟨vI, rfl, hoI, hgI⟩; have hkI := hd0.out.trans hgI; obtain ⟨VA, vc, rfl⟩ := ints_slice hoI.ints)
        | (go_at_call 41; refine (KC.out _ hkI).mono ?_; rintro e wC ⟨vC, rfl, hoC, hgC⟩; have hkC := hgI.trans hgC; obtain ⟨WA, wc, rfl⟩ := strs_slice hoC.strs))
      all_goals go_wp2_with (first
        | (at_builtin; refine wpList_appDp w.heap.size wr.heap.size _ _ rfl rfl _ Lj ps rfl (hO.out.grew ((((hkI.trans hgC).setCell (Nat.le_refl _) _).setCell (Nat.le_refl _) _).alloc _)) (hB.trans ((((hkI.trans hgC).setCell (Nat.le_refl _) _).setCell (Nat.le_refl _) _).alloc _)).size _ _ _ (r0, IM, rs, rc, rn) rfl (rd_litDb _ (by simp) _ _ _ _ _ _) (own_grew (own_box (own_grew hoI hgC) (Span.of_only (((Only.refl _ _).setCell _).setCell _) (Nat.le_refl _) (Nat.lt_succ_self _)) hDs.out (Nat.le_of_lt hDs.out)) ((Grew.refl _).alloc _)) (own_grew (own_box hoC (Span.of_only (((Only.refl _ _).setCell _).setCell _) (Nat.le_refl _) (Nat.lt_succ_self _)) (Nat.lt_of_lt_of_le hDs.out hgI.size) (Nat.le_of_lt (Nat.lt_of_lt_of_le hDs.out hgI.size))) ((Grew.refl _).alloc _)) hB.size HHb.out hlj.out ?_; intro v2 w2 hown2 hg2))
      all_goals go_roundw
      all_goals first
        | exact ⟨j + 1, _, by omega, by go_num, by rw [hs.out]; exact Lib.hid hown2, (hB.trans ((((hkI.trans hgC).setCell (Nat.le_refl _) _).setCell (Nat.le_refl _) _).alloc _)).grown hg2 (fun k hk => own_of_ge hO.out.row hk)⟩
        | (simp [intOf]; omega)
    · obtain rfl : j = n := by omega
      go_wp2_with fail
      go_ret
      exact ⟨_, _, rfl, by rw [← HE.out]; exact hO.out, hB⟩
end Go.Proofs.YtofeeenjlaljpaaGreat

/- An append as one step of a region that draws its order; a row's first part; literals. -/
namespace Go.Proofs.YtofeeenjlaljpaaGreat
open Go.RowKit

theorem step_apprd {P : Program} (w : World) {ops : Array Oper} {o : Oper} {a : Act} {K : Act → World → Prop} {Q : Exit → Act → World → Prop} {E : Prop} (hgd : o.guard = none) (s x : Operand) (t : TypeId)
    (ho : o.op = .call { callee := .builtin .append, args := #[s, x], argTypes := #[t, t] })
    (base : Nat) (e : TypeId) (i : TypeInfo) (z : Value) (size bytes : Nat) (ht : P.underlying t = some (.slice e)) (hi : P.info? e = some i) (hz : i.zero = some z)
    (hsize : i.size = size) (hby : i.bytes = bytes) (hzs : z.cells.size = size) (hsz : 0 < size)
    (v : Value) (n : Nat) (xs : List Value) (hs : a.eval s = v) (hown : w.ownsRow base e size v n xs)
    (vx : Value) (m : Nat) (news : List Value) (hx : a.eval x = vx) (hr : Rd w size vx m news) (h1 : ∀ u ∈ news, u.oneCell' = true)
    (h63 : n + m ≤ maxLen) (hbytes : (n + m) * bytes ≤ 140737488355328) (hbase : base ≤ w.heap.size)
    (h : ∀ v' w', w'.ownsRow base e size v' (n + m) (xs ++ news) → w.grownBy w' v.ownBlock → K (a.put o.dst v') w') :
    if Region.wanted o (yielded ops a.tmps) = true then Oper.wp P o a w K Q else E := by
  have hw : Region.wanted o (yielded ops a.tmps) = true := by simp [Region.wanted, hgd]
  rw [if_pos hw]
  obtain ⟨hl, _, hr⟩ := hr
  rcases hr with ⟨rfl, rfl⟩ | ⟨b, of, c, rfl, _, _, _, hc⟩
  · have hnews : news = [] := List.eq_nil_of_length_eq_zero (by simpa using hl)
    subst hnews
    have hrun := run_append_owned_none (P := P) w base t o.type e i size ht hi v n xs hown
    unfold Oper.wp execOp
    simp only [ho, resolve, invoke, builtin, Sem.run_bind, Sem.run_pure, Result.andThen_ok, List.map_toArray, List.map_cons, List.map_nil, hs, hx, hrun]
    exact h v w (by simpa using hown) (World.grownBy.refl _ _)
  · obtain ⟨v', w', hrun, h2, h3, _, _⟩ := run_append_own_at (P := P) w base t o.type e i z size bytes ht hi hz hsize hby hzs hsz v n xs hown ⟨b, of, none⟩ m c news hl (fun j u hu => by rw [Addr.add_lit]; exact hc j u hu) h1 h63 hbytes hbase
    unfold Oper.wp execOp
    simp only [ho, resolve, invoke, builtin, Sem.run_bind, Sem.run_pure, Result.andThen_ok, List.map_toArray, List.map_cons, List.map_nil, hs, hx, hrun]
    exact h v' w' h2 h3

theorem OwnDp.base {w : World} {B B' : Nat} {v : Value} {xs : List Dd} {ps : List (Value × Value × Dd)} (h : OwnDp w B v xs ps) (hb : B' ≤ B) : OwnDp w B' v xs ps :=
  ⟨h.map, own_base h.row hb, fun p hp => ⟨own_base (h.inn p hp).1 hb, own_base (h.inn p hp).2 hb⟩, h.apP⟩
/-- 'append(out, x)' as one step of a region, out a row of steps, x with fresh inner rows. -/
theorem step_appDp {ops : Array Oper} {o : Oper} {a : Act} {K : Act → World → Prop} {Q : Exit → Act → World → Prop} {E : Prop} {w : World} (B H : Nat) (hgd : o.guard = none) (s x : Operand)
    (ho : o.op = .call { callee := .builtin .append, args := #[s, x], argTypes := #[27, 27] })
    (v : Value) (xs : List Dd) (ps : List (Value × Value × Dd)) (hs : a.eval s = v) (hown : OwnDp w B v xs ps) (hB : B ≤ w.heap.size) (vx u1 u2 : Value) (j : Dd) (hx : a.eval x = vx) (hr : Rd w 5 vx 1 [.int .i64 j.1, u1, u2, .string j.2.2.2.1, .int .i64 j.2.2.2.2])
    (hu : OwnI w H u1 j.2.1) (hv : OwnS w H u2 j.2.2.1) (hBH : B ≤ H) (hH : ∀ p ∈ ps, ∀ b, (p.1.ownBlock = some b ∨ p.2.1.ownBlock = some b) → b < H) (hn : xs.length ≤ 1048576)
    (h : ∀ v' w', OwnDp w' B v' (xs ++ [j]) (ps ++ [(u1, u2, j)]) → w.grownBy w' v.ownBlock → K (a.put o.dst v') w') : if Region.wanted o (yielded ops a.tmps) = true then Oper.wp Tryz.prog o a w K Q else E := by
  obtain ⟨i0, hi0, hz0, hz1, hz2⟩ := info_parts infoDd
  have hu1 : u1.oneCell' = true := by
    obtain ⟨A, c, rfl⟩ := ints_slice hu.ints
    rfl
  have hu2 : u2.oneCell' = true := by
    obtain ⟨A, c, rfl⟩ := strs_slice hv.strs
    rfl
  refine step_apprd w hgd s x _ ho B 50 i0 _ 5 80 Tryz.underlying27 hi0 hz0 hz1 hz2 rfl (by omega) v xs.length (pcells ps) hs hown.row vx 1 [.int .i64 j.1, u1, u2, .string j.2.2.2.1, .int .i64 j.2.2.2.2] hx hr (by intro y hy; simp at hy; rcases hy with rfl | rfl | rfl | rfl | rfl; rfl; exact hu1; exact hu2; rfl; rfl) (by unfold maxLen; omega) (by omega) hB ?_
  intro v' w' k1 k2
  refine h v' w' ⟨by rw [List.map_append, hown.map]; rfl, ?_, fun p hp => ?_, ?_⟩ k2
  · rw [List.length_append, pcells_append]
    exact k1
  · rw [List.mem_append] at hp
    rcases hp with hp | hp
    · obtain ⟨m1, m2⟩ := hown.inn p hp
      exact ⟨own_apart m1 k2 (own_types m1 hown.row tI_D).symm, own_apart m2 k2 (own_types m2 hown.row tS_D).symm⟩
    · simp at hp; subst hp
      exact ⟨own_base (own_apart hu k2 (own_types hu hown.row tI_D).symm) hBH, own_base (own_apart hv k2 (own_types hv hown.row tS_D).symm) hBH⟩
  · rw [List.pairwise_append]
    refine ⟨hown.apP, List.pairwise_singleton _ _, fun p hp q hq => ?_⟩
    simp at hq; subst hq
    refine ⟨fun b hb hb2 => ?_, fun b hb hb2 => ?_⟩
    · have h1 := hH p hp b (.inl hb)
      have h2 := own_of_ge hu hb2
      omega
    · have h1 := hH p hp b (.inr hb)
      have h2 := own_of_ge hv hb2
      omega
theorem own_litI (w : World) (k : Int) : OwnI (w.alloc (.cells #[.int .i64 k] 2)) w.heap.size (.slice (some ⟨w.heap.size, 0, none⟩) 1 1) [k] :=
  World.ownsRow_lit (e := 2) (size := 1) w #[.int .i64 k] 1 (Nat.le_refl _) (by first | omega | decide | simp) rfl
theorem Strs.pre {w : World} {A : Option Addr} {c : Nat} {L : List ByteArray} (h : Strs w (.slice A L.length c) L) {m : Nat} (hm : m < L.length) : m ≤ c ∧ L.length ≤ c ∧ Strs w (.slice A m c) (L.take m) := by
  obtain ⟨_, _, h3⟩ := h
  rcases h3 with ⟨_, h5⟩ | ⟨b, o, c', h4, h5, h6, h7, h8⟩
  · omega
  · obtain ⟨rfl, rfl⟩ : A = some ⟨b, o, none⟩ ∧ c = c' := by simpa using h4
    have hl : (L.take m).length = m := by rw [List.length_take]; omega
    unfold Strs
    rw [hl]
    refine ⟨by omega, h5, by rw [scells_length, hl], by omega, .inr ⟨b, o, c, rfl, by omega, h6, h7, fun j x hx => ?_⟩⟩
    apply h8 j x
    have e : scells (L.take m) = (scells L).take m := by simp [scells, List.map_take]
    rw [e, List.getElem?_take] at hx
    split at hx
    · exact hx
    · cases hx
end Go.Proofs.YtofeeenjlaljpaaGreat

/- An append of a row of steps to a row of steps, both with fresh inner rows. -/
namespace Go.Proofs.YtofeeenjlaljpaaGreat
open Go.RowKit

theorem pcells_one {w : World} {B : Nat} : ∀ (ps : List (Value × Value × Dd)), (∀ p ∈ ps, OwnI w B p.1 p.2.2.2.1 ∧ OwnS w B p.2.1 p.2.2.2.2.1) → ∀ u ∈ pcells ps, u.oneCell' = true
  | [], _, u, hu => by cases hu
  | p :: ps, h, u, hu => by
    have hc : pcells (p :: ps) = [.int .i64 p.2.2.1, p.1, p.2.1, .string p.2.2.2.2.2.1, .int .i64 p.2.2.2.2.2.2] ++ pcells ps := rfl
    rw [hc] at hu
    obtain ⟨m1, m2⟩ := h p (List.mem_cons_self ..)
    rcases List.mem_append.1 hu with hu | hu
    · obtain ⟨A, c, hA⟩ := ints_slice m1.ints
      obtain ⟨A', c', hA'⟩ := strs_slice m2.strs
      simp only [List.mem_cons, List.not_mem_nil, or_false] at hu
      rcases hu with rfl | rfl | rfl | rfl | rfl
      · rfl
      · rw [hA]; rfl
      · rw [hA']; rfl
      · rfl
      · rfl
    · exact pcells_one ps (fun q hq => h q (List.mem_cons_of_mem _ hq)) u hu
/-- 'out = append(out, xs...)', both rows of steps. -/
theorem wpList_appDps {ops : Array Oper} {rest : List Oper} {o : Oper} {a : Act} {Q : Exit → Act → World → Prop} {w : World} (B H : Nat) (s x : Operand) (hgd : o.guard = none)
    (ho : o.op = .call { callee := .builtin .append, args := #[s, x], argTypes := #[27, 27] })
    (v : Value) (xs : List Dd) (ps : List (Value × Value × Dd)) (hs : a.eval s = v) (hown : OwnDp w B v xs ps) (hB : B ≤ w.heap.size) (vx : Value) (ys : List Dd) (qs : List (Value × Value × Dd)) (hx : a.eval x = vx) (hq : OwnDp w H vx ys qs)
    (hBH : B ≤ H) (hH : ∀ p ∈ ps, ∀ b, (p.1.ownBlock = some b ∨ p.2.1.ownBlock = some b) → b < H) (hn : xs.length + ys.length ≤ 1048576)
    (h : ∀ v' w', OwnDp w' B v' (xs ++ ys) (ps ++ qs) → w.grownBy w' v.ownBlock → wpList Tryz.prog ops Q rest (a.put o.dst v') w') : wpList Tryz.prog ops Q (o :: rest) a w := by
  obtain ⟨i0, hi0, hz0, hz1, hz2⟩ := info_parts infoDd
  refine wpList_append_rd w hgd s x _ ho B 50 i0 _ 5 80 Tryz.underlying27 hi0 hz0 hz1 hz2 rfl (by omega) v xs.length (pcells ps) hs hown.row vx ys.length (pcells qs) hx (Rd.of_own hq.row) (pcells_one qs hq.inn) (by unfold maxLen; omega) (by omega) hB ?_
  intro v' w' k1 k2 k3
  refine h v' w' ⟨by rw [List.map_append, hown.map, hq.map], ?_, fun p hp => ?_, ?_⟩ k2
  · rw [List.length_append, pcells_append]
    exact k1
  · rw [List.mem_append] at hp
    rcases hp with hp | hp
    · obtain ⟨m1, m2⟩ := hown.inn p hp
      exact ⟨own_apart m1 k2 (own_types m1 hown.row tI_D).symm, own_apart m2 k2 (own_types m2 hown.row tS_D).symm⟩
    · obtain ⟨m1, m2⟩ := hq.inn p hp
      exact ⟨own_base (own_apart m1 k2 (own_types m1 hown.row tI_D).symm) hBH, own_base (own_apart m2 k2 (own_types m2 hown.row tS_D).symm) hBH⟩
  · rw [List.pairwise_append]
    refine ⟨hown.apP, hq.apP, fun p hp q hq2 => ?_⟩
    obtain ⟨m1, m2⟩ := hq.inn q hq2
    refine ⟨fun b hb hb2 => ?_, fun b hb hb2 => ?_⟩
    · have h1 := hH p hp b (.inl hb)
      have h2 := own_of_ge m1 hb2
      omega
    · have h1 := hH p hp b (.inr hb)
      have h2 := own_of_ge m2 hb2
      omega
end Go.Proofs.YtofeeenjlaljpaaGreat

/- l25Move: a copy of a step with premises taken from a list. -/
namespace Go.Proofs.YtofeeenjlaljpaaGreat
open Go.RowKit

/-- The call returns a step with own rows. -/
def GivesOd (w : World) (x : Dd) (e : Ending) (w' : World) : Prop := ∃ u1 u2, e = .returned (.agg #[.int .i64 x.1, u1, u2, .string x.2.2.2.1, .int .i64 x.2.2.2.2]) ∧ OwnI w' w.heap.size u1 x.2.1 ∧ OwnS w' w.heap.size u2 x.2.2.1 ∧ Grew w w'
set_option maxHeartbeats 4000000 in
theorem l25Move_c (x : Dd) (up ua vt : Value) (T : List Int) (w : World) (hup : Ints w up x.2.1) (hus : Strs w ua x.2.2.1) (ht : Ints w vt T)
    (hk : ∀ i, i < x.2.1.length → 0 ≤ it x.2.1 i ∧ it x.2.1 i < (T.length : Int)) (hfp : x.2.1.length ≤ 1048576) (hfa : x.2.2.1.length ≤ 1048576) (hT : T.length ≤ 1048576) :
    Calls Tryz.prog 61 #[.agg #[.int .i64 x.1, up, ua, .string x.2.2.2.1, .int .i64 x.2.2.2.2], vt] w (GivesOd w (toD T x)) := by
  obtain ⟨r0, rA, rs, rc, rn⟩ := x
  simp only at hup hus hk hfp hfa ⊢
  have hR : GivesOd w (toD T (r0, rA, rs, rc, rn)) = fun e w' => ∃ u1 u2, e = .returned (.agg #[.int .i64 r0, u1, u2, .string rc, .int .i64 rn]) ∧ OwnI w' w.heap.size u1 (imgs rA T) ∧ OwnS w' w.heap.size u2 rs ∧ Grew w w' := rfl
  rw [hR]
  clear hR
  have HV := Lib.hid hup
  have HT := Lib.hid ht
  have KC := Lib.hid (fun W (hW : Grew w W) => copyL_c _ rs W (hus.grew hW) (by omega))
  obtain ⟨A, c, rfl⟩ := ints_slice hup
  obtain ⟨A2, c2, rfl⟩ := strs_slice hus
  obtain ⟨At, ct, rfl⟩ := ints_slice ht
  have HZ : Hid (imgs (rA.take 0) T = []) := Lib.hid rfl
  have HS := Lib.hid (fun j (hj : j < rA.length) => @imgs_take rA T j hj)
  have HE : Hid (imgs (rA.take rA.length) T = imgs rA T) := Lib.hid (by rw [List.take_length])
  have HLn : Hid (∀ j, (imgs (rA.take j) T).length ≤ rA.length) := Lib.hid (fun j => by rw [imgs_len, List.length_take]; omega)
  have HK := Lib.hid hk
  clear hup hus ht hk
  generalize hN : rA.length = n at *
  generalize hM : T.length = m at *
  generalize hL : rs.length = l2 at *
  obtain ⟨W1, hW1⟩ : ∃ W1, W1 = w.alloc (.cells #[.int .i64 r0, .slice A n c, .slice A2 l2 c2, .string rc, .int .i64 rn] 50) := ⟨_, rfl⟩
  obtain ⟨W0, hW0⟩ : ∃ W0, W0 = W1.alloc (.cells #[.int .i64 0, .slice none 0 0, .slice none 0 0, .string ByteArray.empty, .int .i64 0] 50) := ⟨_, rfl⟩
  have hs1 : W1.heap.size = w.heap.size + 1 := by rw [hW1]; exact World.size_alloc _ _
  have hs0 : W0.heap.size = w.heap.size + 2 := by rw [hW0, World.size_alloc, hs1]
  have gw1 : Grew w W1 := by rw [hW1]; exact (Grew.refl w).alloc _
  have g10 : Grew W1 W0 := by rw [hW0]; exact (Grew.refl W1).alloc _
  have b1 : W1.heap[w.heap.size]? = some (.cells #[.int .i64 r0, .slice A n c, .slice A2 l2 c2, .string rc, .int .i64 rn] 50) := by rw [hW1]; exact blk_new w _
  have b0 : W0.heap[w.heap.size + 1]? = some (.cells #[.int .i64 0, .slice none 0 0, .slice none 0 0, .string ByteArray.empty, .int .i64 0] 50) := by rw [hW0, ← hs1]; exact blk_new W1 _
  have HW : Hid (∀ W, Grew W1 W → W.heap[w.heap.size]? = some (.cells #[.int .i64 r0, .slice A n c, .slice A2 l2 c2, .string rc, .int .i64 rn] 50)) := Lib.hid (fun W hW => (hW.block (by omega)).trans b1)
  have HW0 : Hid (∀ W, Grew W0 W → W.heap[w.heap.size + 1]? = some (.cells #[.int .i64 0, .slice none 0 0, .slice none 0 0, .string ByteArray.empty, .int .i64 0] 50)) := Lib.hid (fun W hW => (hW.block (by omega)).trans b0)
  have q0 : ∀ W, Grew W1 W → W.cell? ⟨w.heap.size, 0, none⟩ = some (.int .i64 r0) := fun W hW => by rw [blk_cell (HW.out W hW)]; rfl
  have q1 : ∀ W, Grew W1 W → W.cell? ⟨w.heap.size, 1, none⟩ = some (.slice A n c) := fun W hW => by rw [blk_cell (HW.out W hW)]; rfl
  have q2 : ∀ W, Grew W1 W → W.cell? ⟨w.heap.size, 2, none⟩ = some (.slice A2 l2 c2) := fun W hW => by rw [blk_cell (HW.out W hW)]; rfl
  have q3 : ∀ W, Grew W1 W → W.cell? ⟨w.heap.size, 3, none⟩ = some (.string rc) := fun W hW => by rw [blk_cell (HW.out W hW)]; rfl
  have q4 : ∀ W, Grew W1 W → W.cell? ⟨w.heap.size, 4, none⟩ = some (.int .i64 rn) := fun W hW => by rw [blk_cell (HW.out W hW)]; rfl
  have z0 : Hid (∀ W, Grew W0 W → W.cell? ⟨w.heap.size + 1, 0, none⟩ = some (.int .i64 0)) := Lib.hid (fun W hW => by rw [blk_cell (HW0.out W hW)]; rfl)
  have z1 : Hid (∀ W, Grew W0 W → W.cell? ⟨w.heap.size + 1, 1, none⟩ = some (.slice none 0 0)) := Lib.hid (fun W hW => by rw [blk_cell (HW0.out W hW)]; rfl)
  have z2 : Hid (∀ W, Grew W0 W → W.cell? ⟨w.heap.size + 1, 2, none⟩ = some (.slice none 0 0)) := Lib.hid (fun W hW => by rw [blk_cell (HW0.out W hW)]; rfl)
  have z3 : Hid (∀ W, Grew W0 W → W.cell? ⟨w.heap.size + 1, 3, none⟩ = some (.string ByteArray.empty)) := Lib.hid (fun W hW => by rw [blk_cell (HW0.out W hW)]; rfl)
  have z4 : Hid (∀ W, Grew W0 W → W.cell? ⟨w.heap.size + 1, 4, none⟩ = some (.int .i64 0)) := Lib.hid (fun W hW => by rw [blk_cell (HW0.out W hW)]; rfl)
  have zf : Hid (∀ W, Grew W0 W → ∀ i, W.frozen? ⟨w.heap.size + 1, i, none⟩ = false) := Lib.hid (fun W hW i => blk_frozen (HW0.out W hW) i)
  have HG := Lib.hid gw1
  have HG0 := Lib.hid g10
  have HH := Lib.hid hW0
  have HH1 := Lib.hid hW1
  clear gw1 g10 b1 b0 hW0 hW1
  go_enter Tryz.func61, Tryz.ntmps61
  go_wp2_with fail
  go_loopw [5, 6] (fun vv i wr => ∃ (j : Nat), j ≤ n ∧ i = .int .i64 j ∧ Hid (OwnI wr W0.heap.size vv (imgs (rA.take j) T)) ∧ Grew W0 wr) (fun _ i _ => n - (intOf i).toNat)
  case atStart =>
    refine ⟨0, Nat.zero_le _, rfl, ?_, ?_⟩
    · rw [HZ.out]
      have h := own_emptyI W0
      rw [HH.out, HH1.out] at h ⊢
      simp only [World.size_alloc] at h ⊢
      exact Lib.hid h
    · rw [HH.out, HH1.out]
      exact (Grew.refl _).alloc _
  case round =>
    obtain ⟨j, hj, rfl, hO, hB⟩ := hrel
    obtain ⟨Ah, ch, rfl⟩ := ints_slice hO.out.ints
    have hB1 := HG0.out.trans hB
    have hBw := HG.out.trans hB1
    by_cases hlt : j < n
    · obtain ⟨hk0, hk1⟩ := HK.out j hlt
      obtain ⟨p, hpe⟩ : ∃ p : Nat, it rA j = p := ⟨(it rA j).toNat, by omega⟩
      rcases HV.out.open_ with ⟨_, h2⟩ | ⟨b1, o1, c1, hv1, hc1, hm1, hb1, hcl1⟩
      · rw [h2] at hN; simp at hN; omega
      obtain ⟨rfl, rfl⟩ : A = some ⟨b1, o1, none⟩ ∧ c = c1 := by simpa [hN] using hv1
      rcases HT.out.open_ with ⟨_, h2⟩ | ⟨b2, o2, c2', hv2, hc2, hm2, hb2, hcl2⟩
      · rw [h2] at hM; simp at hM; omega
      obtain ⟨rfl, rfl⟩ : At = some ⟨b2, o2, none⟩ ∧ ct = c2' := by simpa [hM] using hv2
      have y1 : ∀ W, Grew w W → W.cell? ⟨b1, o1 + j, none⟩ = some (.int .i64 p) := fun W hW => by rw [← hpe]; exact hcl1 j (by omega) _ hW
      have y2 : ∀ W, Grew w W → W.cell? ⟨b2, o2 + p, none⟩ = some (.int .i64 (it T p)) := fun W hW => hcl2 p (by omega) _ hW
      have hs := Lib.hid (HS.out j hlt)
      rw [hpe, Int.toNat_natCast] at hs
      have hl := HLn.out j
      clear hcl1 hcl2 hv1 hv2
      have i0 : (0 : Int) ≤ (p : Int) := by omega
      have i1 : (p : Int) < (m : Int) := by omega
      have hin : decide ((0 : Int) ≤ (p : Int) ∧ (p : Int) ≤ (m : Int) - 1) = true := by simp; omega
      have HIN := Lib.hid hin
      clear hk0 hk1 hpe hin
      generalize imgs (rA.take j) T = Lj at *
      generalize it T p = q at *
      have hlj := Lib.hid (show Lj.length ≤ 1048576 by omega)
      go_wp2_with fail
      refine (l01In_c _ _ _ _).mono ?_
      rintro e w1 ⟨rfl, hg1⟩
      rw [HIN.out]
      have hC := hB.trans hg1
      have hC1 := hB1.trans hg1
      have hCw := hBw.trans hg1
      have hO1 := Lib.hid ((hO.out.grew hg1).grew ((Grew.refl w1).alloc (.cells #[.int .i64 q] 2)))
      go_wp2_with (first | (at_builtin; refine wpList_appI (w0 := W0) _ _ rfl rfl _ Lj rfl hO1.out (hC.alloc _) _ q rfl (rd_litI _ _ _) hlj.out ?_; intro v2 w2 hown2 hg2 _))
      go_roundw
      case rel => exact ⟨j + 1, by omega, by go_num, by rw [hs.out]; exact Lib.hid hown2, hg2⟩
      case measure => simp [intOf]; omega
    · obtain rfl : j = n := by omega
      have hd := hB.drew
      have hd1 := hB1.drew
      have hdw := hBw.drew
      have hq : W1.heap.size ≤ w.heap.size + 1 := by omega
      generalize imgs (rA.take j) T = Lj at *
      go_wp2_with fail
      go_region_held3 (fun W' => Grew W1 W') (first | with_reducible assumption | exact (((((hkC.setCell hq _).setCell hq _).setCell hq _).setCell hq _).setCell hq _))
        (first | (go_at_call 37; refine (KC.out _ hdw).mono ?_; rintro e wC ⟨vC, rfl, hoC, hgC⟩; obtain ⟨WA, wc, rfl⟩ := strs_slice hoC.strs; have hkC := hd1.trans hgC; have hk0 := hd.trans hgC; have zz0 := z0.out wC hk0; have zz1 := z1.out wC hk0; have zz2 := z2.out wC hk0; have zz3 := z3.out wC hk0; have zz4 := z4.out wC hk0; have zzf := zf.out wC hk0))
      go_wp2_with fail
      rw [hL] at hoC
      have hinfo : (Tryz.prog.info? 50).map (·.size) = some 5 := by kernel_rfl
      refine bodyPost_ret (results_cell_row rfl _ _ (w.heap.size + 1) 50 #[.int .i64 r0, .slice Ah Lj.length ch, .slice WA l2 wc, .string rc, .int .i64 rn] (0, 0) _ rfl (blk_set (blk_set (blk_set (blk_set (blk_set (HW0.out wC hk0) 0 _) 1 _) 2 _) 3 _) 4 _) Tryz.underlying50 rfl hinfo) rfl ?_
      have hg := Lib.hid ((Grew.refl wr).drew.trans hgC)
      have hz := Nat.lt_of_lt_of_le (show w.heap.size + 1 < W0.heap.size by omega) hd.size
      have hx := Nat.le_succ w.heap.size
      refine ⟨_, _, rfl, ?_, ?_, (((((hdw.trans hgC).setCell hx _).setCell hx _).setCell hx _).setCell hx _).setCell hx _⟩
      · rw [← HE.out]
        exact own_box (own_grew hO.out hg.out) (Span.of_only ((((((Only.refl _ _).setCell _).setCell _).setCell _).setCell _).setCell _) (Nat.le_refl _) (Nat.lt_succ_self _)) (by omega) (by omega)
      · exact own_box hoC (Span.of_only ((((((Only.refl _ _).setCell _).setCell _).setCell _).setCell _).setCell _) (Nat.le_refl _) (Nat.lt_succ_self _)) hz (by omega)
end Go.Proofs.YtofeeenjlaljpaaGreat

/- l25Behind: the steps of a deduction behind others. -/
namespace Go.Proofs.YtofeeenjlaljpaaGreat
open Go.RowKit

theorem wpList_appIat {ops : Array Oper} {rest : List Oper} {o : Oper} {a : Act} {Q : Exit → Act → World → Prop} {w w0 : World} (s x : Operand) (hgd : o.guard = none)
    (ho : o.op = .call { callee := .builtin .append, args := #[s, x], argTypes := #[34, 34] })
    (v : Value) (L : List Int) (hs : a.eval s = v) (hown : OwnI w w0.heap.size v L) (hg : Grew w0 w) (vx : Value) (k : Int) (hx : a.eval x = vx) (hr : Rd w 1 vx 1 [.int .i64 k]) (hn : L.length ≤ 1048576)
    (h : ∀ v' w', OwnI w' w0.heap.size v' (L ++ [k]) → Grew w0 w' → w.grownBy w' v.ownBlock → (v'.ownBlock = v.ownBlock ∨ v'.ownBlock = some w.heap.size) → wpList Tryz.prog ops Q rest (a.put o.dst v') w') : wpList Tryz.prog ops Q (o :: rest) a w := by
  obtain ⟨i0, hi0, hz0, hz1, hz2⟩ := info_parts Tryz.infoI
  refine wpList_append_rd w hgd s x _ ho w0.heap.size 2 i0 _ 1 8 Tryz.underlying34 hi0 hz0 hz1 hz2 rfl (by omega) v L.length (icells L) hs hown vx 1 [.int .i64 k] hx hr (by simp [Value.oneCell']) (by unfold maxLen; omega) (by omega) hg.size ?_
  intro v' w' h1 h2 h3
  refine h v' w' ?_ (hg.grown h2 fun k hk => (hown.lt k hk).1) h2 h3
  unfold OwnI
  rw [List.length_append, icells_append]
  exact h1
theorem Apart.loc {p v v' : Value} {n : Nat} (h : Apart p v) (hl : v'.ownBlock = v.ownBlock ∨ v'.ownBlock = some n) (hp : ∀ g, p.ownBlock = some g → g < n) : Apart p v' := fun g hg hb => by
  rcases hl with hl | hl
  · rw [hl] at hb; exact h g hg hb
  · rw [hl] at hb
    have h1 := hp g hg
    injection hb with hb
    omega
theorem OwnDp.apart {w w' : World} {B : Nat} {v r : Value} {xs : List Dd} {ps : List (Value × Value × Dd)} (h : OwnDp w B v xs ps) (hg : w.grownBy w' r.ownBlock) (hr : Apart r v) (hp : ∀ p ∈ ps, Apart r p.1 ∧ Apart r p.2.1) : OwnDp w' B v xs ps :=
  ⟨h.map, own_apart h.row hg hr, fun p hm => ⟨own_apart (h.inn p hm).1 hg (hp p hm).1, own_apart (h.inn p hm).2 hg (hp p hm).2⟩, h.apP⟩
theorem mvD_take {xs : List Dd} {b : Int} {j : Nat} {x : Dd} (hx : xs[j]? = some x) : (xs.take (j + 1)).map (mvD b) = (xs.take j).map (mvD b) ++ [mvD b x] := by
  rw [List.take_add_one, List.map_append, hx]
  rfl
set_option maxHeartbeats 4000000 in
theorem l25Behind_c (v0 v : Value) (ys xs : List Dd) (ps : List (Value × Value × Dd)) (w0 w : World) (hown : OwnDp w w0.heap.size v0 ys ps) (hg : Grew w0 w) (h : Dds w0 v xs) (hf : FitsDd xs)
    (hfb : fbd xs xs.length = -1) (hn : xs.length ≤ 1024) (hy : ys.length ≤ 1024) :
    Calls Tryz.prog 48 #[v0, v] w fun e w' => ∃ v' ps', e = .returned v' ∧ OwnDp w' w0.heap.size v' (ys ++ xs.map (mvD ys.length)) ps' ∧ Grew w0 w' := by
  obtain ⟨b, hb⟩ : ∃ b : Int, b = (ys.length : Int) := ⟨_, rfl⟩
  rw [← hb]
  have HV := Lib.hid h
  obtain ⟨A, c, rfl⟩ := Dds_slice h
  obtain ⟨A0, c0, rfl⟩ := hown.slice
  have HX := Lib.hid (fun j (hj : j < xs.length) => (⟨xs[j], List.getElem?_eq_getElem hj, hf _ (List.getElem_mem hj)⟩ : ∃ x, xs[j]? = some x ∧ FitDd x))
  have HZ : Hid (ys ++ (xs.take 0).map (mvD b) = ys) := Lib.hid (by simp)
  have HS := Lib.hid (fun j x (hx : xs[j]? = some x) => congrArg (fun l => ys ++ l) (mvD_take (b := b) hx))
  have HE : Hid (ys ++ (xs.take xs.length).map (mvD b) = ys ++ xs.map (mvD b)) := Lib.hid (by rw [List.take_length])
  have HLn : Hid (∀ j, j ≤ xs.length → (ys ++ (xs.take j).map (mvD b)).length = ys.length + j) := Lib.hid (fun j hj => by rw [List.length_append, List.length_map, List.length_take]; omega)
  have HP := Lib.hid (fun j x (hx : xs[j]? = some x) => prem_lt hfb hx)
  have HSF := Lib.hid (fun j => shf_succ j b)
  have HD := Lib.hid hown
  have HG := Lib.hid hg
  have HYL := Lib.hid hb
  clear h hf hfb hown hg
  generalize hN : xs.length = n at *
  generalize hM : ys.length = m at *
  go_enter Tryz.func48, Tryz.ntmps48
  go_wp2_with fail
  go_loopw [0, 5, 6] (fun vo vn i wr => ∃ (j : Nat) (qs : List (Value × Value × Dd)), j ≤ n ∧ i = .int .i64 j ∧ Hid (OwnDp wr w0.heap.size vo (ys ++ (xs.take j).map (mvD b)) qs) ∧ Hid (OwnI wr w0.heap.size vn (shf j b)) ∧ Hid (∀ p ∈ qs, Apart p.1 vn) ∧ Grew w0 wr) (fun _ _ i _ => n - (intOf i).toNat)
  case atStart =>
    refine ⟨0, ps, Nat.zero_le _, rfl, ?_, ?_, ?_, HG.out.alloc _⟩
    · rw [HZ.out]
      have h := HD.out.grew ((Grew.refl w).alloc (.cells #[] 2))
      rw [← hM]
      exact Lib.hid (by rw [hM]; exact h)
    · exact Lib.hid ((own_emptyI w).base HG.out.size)
    · exact Lib.hid (fun p hp g hg hb2 => by
        have h1 := HD.out.below p hp g (.inl hg)
        have h2 : w.heap.size = g := by simpa [Value.ownBlock] using hb2
        omega)
  case round =>
    obtain ⟨j, qs, hj, rfl, hO, hI, hA, hB⟩ := hrel
    obtain ⟨Ah, ch, rfl⟩ := hO.out.slice
    obtain ⟨An, cn, rfl⟩ := ints_slice hI.out.ints
    by_cases hlt : j < n
    · obtain ⟨x, hx, hfx⟩ := HX.out j hlt
      rcases HV.out with ⟨_, h2⟩ | ⟨b1, o, c1, hv1, hc1, hm1, hb1, hcl1⟩
      · rw [h2] at hN; simp at hN; omega
      obtain ⟨rfl, rfl⟩ : A = some ⟨b1, o, none⟩ ∧ c = c1 := by simpa [hN] using hv1
      obtain ⟨up, ua, hcl, hup, hus⟩ := hcl1 j x hx
      have hs := Lib.hid (HS.out j x hx)
      have hl := HLn.out j hj
      have hpl := HP.out j x hx
      have hsf := HSF.out j
      have hsl : (shf j b).length = j := shf_len j b
      have k0 := fun W (hW : Grew w0 W) => (hcl.grew hb1 hW).1
      have k1 := fun W (hW : Grew w0 W) => (hcl.grew hb1 hW).2.1
      have k2 := fun W (hW : Grew w0 W) => (hcl.grew hb1 hW).2.2.1
      have k3 := fun W (hW : Grew w0 W) => (hcl.grew hb1 hW).2.2.2.1
      have k4 := fun W (hW : Grew w0 W) => (hcl.grew hb1 hW).2.2.2.2
      have KM := Lib.hid (fun W vt (hW : Grew w0 W) (hvt : OwnI W w0.heap.size vt (shf j b ++ [b + (j : Int)])) => by
        have h := l25Move_c x up ua vt (shf (j + 1) b) W (hup.grew hW) (hus.grew hW) (by rw [hsf]; exact hvt.ints) (fun i hi => by
          have h1 := hpl (it x.2.1 i) (by rw [← it_get hi]; exact List.getElem_mem hi)
          rw [shf_len]
          omega) hfx.1 hfx.2.1 (by rw [shf_len]; omega)
        rwa [toD_shf (fun k hk => by have := hpl k hk; omega)] at h)
      clear hcl1 hv1 hcl hpl
      obtain ⟨r0, rA, rs, rc, rn⟩ := x
      obtain ⟨A1, ca1, rfl⟩ := ints_slice hup
      obtain ⟨A2, ca2, rfl⟩ := strs_slice hus
      have hs2 : Hid (ys ++ (xs.take (j + 1)).map (mvD b) = (ys ++ (xs.take j).map (mvD b)) ++ [(r0, rA.map (fun k => b + k), rs, rc, rn)]) := Lib.hid (by rw [hs.out, ← List.append_assoc]; rfl)
      have hM2 : mvD b (r0, rA, rs, rc, rn) = (r0, rA.map (fun k => b + k), rs, rc, rn) := rfl
      rw [hM2] at KM
      clear hup hus hs hfx hx hM2
      unfold GivesOd at KM
      simp only at *
      generalize ys ++ (xs.take j).map (mvD b) = Lj at *
      generalize rA.map (fun k => b + k) = IM at *
      have hsz := Lib.hid (show Lj.length ≤ 1048576 by omega)
      have hn1 := Lib.hid (show (shf j b).length ≤ 1048576 by omega)
      have hq := Lib.hid (show ((Lj.length : Nat) : Int) = b + (j : Int) by rw [hl, hb]; omega)
      have hsf2 := Lib.hid hsf
      clear hsf
      generalize hgl : shf j b = Nj at *
      replace hl := Lib.hid hl
      replace hsl := Lib.hid hsl
      have hO1 := Lib.hid (hO.out.grew ((Grew.refl wr).alloc (.cells #[.int .i64 (Lj.length : Int)] 2)))
      have hI1 := Lib.hid (hI.out.grew ((Grew.refl wr).alloc (.cells #[.int .i64 (Lj.length : Int)] 2)))
      go_wp2_with (first
        | (at_builtin; refine wpList_appIat (w0 := w0) _ _ rfl rfl (.slice An Nj.length cn) Nj rfl hI1.out (hB.alloc _) _ _ rfl (rd_litI _ _ _) hn1.out ?_; intro v2 w2 hown2 hg2 hrow2 hloc2))
      rw [hq.out] at hown2
      have HD2 : Hid (OwnDp w2 w0.heap.size (.slice Ah Lj.length ch) Lj qs) := Lib.hid (hO1.out.apart hrow2 (own_types hI1.out hO1.out.row tI_D) (fun p hp => ⟨(hA.out p hp).symm, own_types hI1.out (hO1.out.inn p hp).2 tI_S⟩))
      have HA2 : Hid (∀ p ∈ qs, Apart p.1 v2) := Lib.hid (fun p hp => (hA.out p hp).loc hloc2 (fun g hg => hO1.out.below p hp g (.inl hg)))
      have HO2 := Lib.hid hown2
      clear hrow2 hloc2 hown2 hO1 hI1
      refine (KM.out _ _ hg2 HO2.out).mono ?_
      rintro e w3 ⟨u1, u2, rfl, ho1, ho2, hg3⟩
      have HU1 := Lib.hid ho1
      have HU2 := Lib.hid ho2
      obtain ⟨V1, e1, rfl⟩ := ints_slice ho1.ints
      obtain ⟨V2, e2, rfl⟩ := strs_slice ho2.strs
      clear ho1 ho2
      have g3 := hg2.trans hg3
      go_wp2_with (first
        | (at_builtin; refine wpList_appDp w0.heap.size w2.heap.size _ _ rfl rfl (.slice Ah Lj.length ch) Lj qs rfl (HD2.out.grew (hg3.alloc _)) (g3.alloc _).size _ _ _ (r0, IM, rs, rc, rn) rfl (rd_litD _ _ _ _ _ _ _) (own_grew HU1.out ((Grew.refl _).alloc _)) (own_grew HU2.out ((Grew.refl _).alloc _)) hg2.size HD2.out.below hsz.out ?_; intro v4 w4 hown4 hg4))
      go_roundw
      case rel =>
        have hN4 := own_apart (own_grew HO2.out (hg3.alloc _)) hg4 ((own_types HO2.out HD2.out.row tI_D).symm)
        refine ⟨j + 1, _, by omega, by go_num, by rw [hs2.out]; exact Lib.hid hown4, by rw [hsf2.out]; exact Lib.hid hN4, Lib.hid (fun p hp => ?_), (g3.alloc _).grown hg4 (fun k hk => own_of_ge HD2.out.row hk)⟩
        rcases List.mem_append.1 hp with hp | hp
        · exact HA2.out p hp
        · simp only [List.mem_singleton] at hp
          subst hp
          intro g hg hb2
          have h1 := own_of_ge HU1.out hg
          have h2 := (HO2.out.lt g hb2).2
          omega
      case measure => simp [intOf]; omega
    · obtain rfl : j = n := by omega
      go_wp2_with fail
      go_ret
      exact ⟨_, _, rfl, by rw [← HE.out]; exact hO.out, hB⟩
end Go.Proofs.YtofeeenjlaljpaaGreat

/- DeductionResult of both sides; the last step. -/
namespace Go.Proofs.YtofeeenjlaljpaaGreat
open Go.RowKit

/-- The call returns a step. -/
def GivesD1 (w : World) (x : Dd) (e : Ending) (w' : World) : Prop := ∃ up ua, e = .returned (.agg #[.int .i64 x.1, up, ua, .string x.2.2.2.1, .int .i64 x.2.2.2.2]) ∧ Ints w' up x.2.1 ∧ Strs w' ua x.2.2.1 ∧ Grew w w'
theorem result_c (v : Value) (xs : List Dd) (x : Dd) (w : World) (h : Dds w v xs) (hn : xs.length ≠ 0) (hx : xs[xs.length - 1]? = some x) :
    Calls Tryz.prog 42 #[v] w (GivesD1 w x) := by
  rcases h with ⟨_, h0⟩ | ⟨b, o, c, rfl, hc, hm, hb, hcell⟩
  · rw [h0] at hn; exact absurd rfl hn
  obtain ⟨up, ua, hcl, hup, hus⟩ := hcell _ x hx
  have hal : ∀ ob, Grew w (w.alloc ob) := fun ob => (Grew.refl w).alloc ob
  have hcl2 : ∀ ob, DdCells (w.alloc ob) b (o + (xs.length - 1) * 5) x up ua := fun ob => hcl.grew hb (hal ob)
  have k0 := fun ob => (hcl2 ob).1
  have k1 := fun ob => (hcl2 ob).2.1
  have k2 := fun ob => (hcl2 ob).2.2.1
  have k3 := fun ob => (hcl2 ob).2.2.2.1
  have k4 := fun ob => (hcl2 ob).2.2.2.2
  have hI := Lib.hid hup
  have hS := Lib.hid hus
  obtain ⟨A1, ca1, rfl⟩ := ints_slice hup
  obtain ⟨A2, ca2, rfl⟩ := strs_slice hus
  obtain ⟨m, hm2⟩ : ∃ m, m = xs.length - 1 := ⟨_, rfl⟩
  have hml : xs.length = m + 1 := by omega
  rw [← hm2] at k0 k1 k2 k3 k4
  rw [hml] at hc ⊢
  clear hcl2 hcl hcell hup hus hx hm2 hml hn
  obtain ⟨r0, rA, rs, rc, rn⟩ := x
  simp only at *
  have i0 : (0 : Int) ≤ (m : Int) := by omega
  go_enter Tryz.func42, Tryz.ntmps42
  go_wp2_with fail
  have hinfo : (Tryz.prog.info? 50).map (·.size) = some 5 := by kernel_rfl
  refine bodyPost_ret (results_cell_row rfl _ _ w.heap.size 50 #[.int .i64 r0, .slice A1 rA.length ca1, .slice A2 rs.length ca2, .string rc, .int .i64 rn] (0, 0) _ rfl (blk_new w _) Tryz.underlying50 rfl hinfo) rfl ?_
  exact ⟨_, _, rfl, hI.out.grew (hal _), hS.out.grew (hal _), hal _⟩
theorem l25Last_c (v : Value) (xs : List Dd) (x : Dd) (w : World) (h : Dds w v xs) (hn : xs.length ≠ 0) (hx : xs[xs.length - 1]? = some x) :
    Calls Tryz.prog 38 #[v] w (GivesD1 w x) := by
  rcases h with ⟨_, h0⟩ | ⟨b, o, c, rfl, hc, hm, hb, hcell⟩
  · rw [h0] at hn; exact absurd rfl hn
  obtain ⟨up, ua, hcl, hup, hus⟩ := hcell _ x hx
  have hal : ∀ ob, Grew w (w.alloc ob) := fun ob => (Grew.refl w).alloc ob
  have hcl2 : ∀ ob, DdCells (w.alloc ob) b (o + (xs.length - 1) * 5) x up ua := fun ob => hcl.grew hb (hal ob)
  have k0 := fun ob => (hcl2 ob).1
  have k1 := fun ob => (hcl2 ob).2.1
  have k2 := fun ob => (hcl2 ob).2.2.1
  have k3 := fun ob => (hcl2 ob).2.2.2.1
  have k4 := fun ob => (hcl2 ob).2.2.2.2
  have hI := Lib.hid hup
  have hS := Lib.hid hus
  obtain ⟨A1, ca1, rfl⟩ := ints_slice hup
  obtain ⟨A2, ca2, rfl⟩ := strs_slice hus
  obtain ⟨m, hm2⟩ : ∃ m, m = xs.length - 1 := ⟨_, rfl⟩
  have hml : xs.length = m + 1 := by omega
  rw [← hm2] at k0 k1 k2 k3 k4
  rw [hml] at hc ⊢
  clear hcl2 hcl hcell hup hus hx hm2 hml hn
  obtain ⟨r0, rA, rs, rc, rn⟩ := x
  simp only at *
  have i0 : (0 : Int) ≤ (m : Int) := by omega
  go_enter Tryz.func38, Tryz.ntmps38
  go_wp2_with fail
  have hinfo : (Tryz.prog.info? 50).map (·.size) = some 5 := by kernel_rfl
  refine bodyPost_ret (results_cell_row rfl _ _ w.heap.size 50 #[.int .i64 r0, .slice A1 rA.length ca1, .slice A2 rs.length ca2, .string rc, .int .i64 rn] (0, 0) _ rfl (blk_new w _) Tryz.underlying50 rfl hinfo) rfl ?_
  exact ⟨_, _, rfl, hI.out.grew (hal _), hS.out.grew (hal _), hal _⟩

/-- The last step. -/
def lst (xs : List Dd) : Dd := xs.getD (xs.length - 1) dd0
theorem lst_at {xs : List Dd} (h : xs.length ≠ 0) : xs[xs.length - 1]? = some (lst xs) := by
  have hl : xs.length - 1 < xs.length := by omega
  simp [lst, List.getD, hl]
theorem lst_mem {xs : List Dd} (h : xs.length ≠ 0) : lst xs ∈ xs := List.mem_of_getElem? (lst_at h)
noncomputable def drF (xs : List Dd) : List ByteArray × ByteArray × Int := if dcode [xs] = 0 then ((lst xs).2.2.1, (lst xs).2.2.2.1, 0) else ([], ⟨#[]⟩, dcode [xs])
def GivesSD (w : World) (r : List ByteArray × ByteArray × Int) (e : Ending) (w' : World) : Prop := ∃ v, e = .returned (.tuple #[v, .string r.2.1, .int .i64 r.2.2]) ∧ OwnS w' w.heap.size v r.1 ∧ Grew w w'
theorem drF_len {xs : List Dd} (hf : FitsDd xs) : (drF xs).1.length ≤ 1048576 := by
  unfold drF
  split
  · rename_i h
    obtain ⟨h0, _⟩ := dcode_zero h
    exact (hf _ (lst_mem h0)).2.1
  · simp
theorem fld2 (a b c d e : Value) (W : World) : (Instr.field 50 (.agg #[a, b, c, d, e]) 2).run Tryz.prog W = .ok c W := by kernel_rfl
theorem fld3 (a b c d e : Value) (W : World) : (Instr.field 50 (.agg #[a, b, c, d, e]) 3).run Tryz.prog W = .ok d W := by kernel_rfl
set_option maxRecDepth 20000 in
set_option maxHeartbeats 1000000 in
theorem implDr_c (v : Value) (xs : List Dd) (w : World) (hv : Dds w v xs) (hf : FitsDd xs) (_hn : xs.length ≤ 1048576) :
    Calls Tryz.prog 13 #[v] w (GivesSD w (drF xs)) := by
  unfold GivesSD drF
  obtain ⟨A, c, rfl⟩ := Dds_slice hv
  have KD := Lib.hid (deductionCode_c _ [xs] _ (DdL.one (T := 27) hv) (fun i hi => by obtain rfl : i = 0 := (by simpa using hi); exact hf))
  have HAL := Lib.hid ((Grew.refl w).alloc (.cells #[.slice A xs.length c] 27))
  by_cases hd : dcode [xs] = 0
  · rw [if_pos hd]
    rw [hd] at KD
    obtain ⟨hn0, hn1, _⟩ := dcode_zero hd
    have KR := Lib.hid (fun W (hW : Grew w W) => result_c _ xs (lst xs) W (hv.grew hW) hn0 (lst_at hn0))
    have hfl := (hf _ (lst_mem hn0)).2.1
    have KC := Lib.hid (fun u W (hu : Strs W u (lst xs).2.2.1) => cloneL_c u _ W hu (by omega))
    unfold GivesD1 at KR
    clear hv hf hd
    generalize lst xs = x at *
    obtain ⟨r0, rA, rs, rc, rn⟩ := x
    simp only at *
    generalize xs.length = n at *
    go_enter Tryz.func13, Tryz.ntmps13
    go_wp2_with fail
    refine (KD.out).mono ?_
    rintro e w1 ⟨rfl, hg1⟩
    have g1 := HAL.out.trans hg1
    go_wp2_with fail
    refine (KR.out _ g1).mono ?_
    rintro e w2 ⟨up, ua, rfl, hup, hua, hg2⟩
    have hf2 := fun a b c d e W => fld2 a b c d e W
    have hf3 := fun a b c d e W => fld3 a b c d e W
    have HUA := Lib.hid hua
    obtain ⟨A2, c2, rfl⟩ := strs_slice hua
    obtain ⟨A3, c3, rfl⟩ := ints_slice hup
    clear hup hua
    have g2 := g1.trans hg2
    go_wp2_with fail
    refine (KC.out _ _ HUA.out).mono ?_
    rintro e w3 ⟨u3, rfl, hu3, hg3⟩
    have g3 := g2.trans hg3
    have HU3 := Lib.hid (hu3.base g2.size)
    obtain ⟨A4, c4, rfl⟩ := strs_slice hu3.strs
    clear hu3
    go_wp2_with fail
    refine (KR.out _ g3).mono ?_
    rintro e w4 ⟨up4, ua4, rfl, hup4, hua4, hg4⟩
    obtain ⟨A5, c5, rfl⟩ := strs_slice hua4
    obtain ⟨A6, c6, rfl⟩ := ints_slice hup4
    clear hup4 hua4
    go_wp2_with fail
    go_ret3
    exact ⟨_, rfl, HU3.out.grew hg4, g3.trans hg4⟩
  · rw [if_neg hd]
    have e0 : (dcode [xs] == 0) = false := by simpa using hd
    clear hv hf hd
    generalize dcode [xs] = d at *
    go_enter Tryz.func13, Tryz.ntmps13
    go_wp2_with fail
    refine (KD.out).mono ?_
    rintro e w1 ⟨rfl, hg1⟩
    go_wp2_with fail
    go_ret3
    exact ⟨_, rfl, OwnS.nil_ _ _, HAL.out.trans hg1⟩
set_option maxRecDepth 20000 in
set_option maxHeartbeats 1000000 in
theorem specDr_c (v : Value) (xs : List Dd) (w : World) (hv : Dds w v xs) (hf : FitsDd xs) (_hn : xs.length ≤ 1048576) :
    Calls Tryz.prog 11 #[v] w (GivesSD w (drF xs)) := by
  unfold GivesSD drF
  obtain ⟨A, c, rfl⟩ := Dds_slice hv
  have KD := Lib.hid (l25Code_c _ [xs] _ (DdL.one (T := 27) hv) (fun i hi => by obtain rfl : i = 0 := (by simpa using hi); exact hf) (by simp))
  have HAL := Lib.hid ((Grew.refl w).alloc (.cells #[.slice A xs.length c] 27))
  by_cases hd : dcode [xs] = 0
  · rw [if_pos hd]
    rw [hd] at KD
    obtain ⟨hn0, hn1, _⟩ := dcode_zero hd
    have KR := Lib.hid (fun W (hW : Grew w W) => l25Last_c _ xs (lst xs) W (hv.grew hW) hn0 (lst_at hn0))
    have hfl := (hf _ (lst_mem hn0)).2.1
    have KC := Lib.hid (fun u W (hu : Strs W u (lst xs).2.2.1) => copyL_c u _ W hu (by omega))
    unfold GivesD1 at KR
    clear hv hf hd
    generalize lst xs = x at *
    obtain ⟨r0, rA, rs, rc, rn⟩ := x
    simp only at *
    generalize xs.length = n at *
    go_enter Tryz.func11, Tryz.ntmps11
    go_wp2_with fail
    refine (KD.out).mono ?_
    rintro e w1 ⟨rfl, hg1⟩
    have g1 := HAL.out.trans hg1
    go_wp2_with fail
    refine (KR.out _ g1).mono ?_
    rintro e w2 ⟨up, ua, rfl, hup, hua, hg2⟩
    have hf2 := fun a b c d e W => fld2 a b c d e W
    have hf3 := fun a b c d e W => fld3 a b c d e W
    have HUA := Lib.hid hua
    obtain ⟨A2, c2, rfl⟩ := strs_slice hua
    obtain ⟨A3, c3, rfl⟩ := ints_slice hup
    clear hup hua
    have g2 := g1.trans hg2
    go_wp2_with fail
    refine (KC.out _ _ HUA.out).mono ?_
    rintro e w3 ⟨u3, rfl, hu3, hg3⟩
    have g3 := g2.trans hg3
    have HU3 := Lib.hid (hu3.base g2.size)
    obtain ⟨A4, c4, rfl⟩ := strs_slice hu3.strs
    clear hu3
    go_wp2_with fail
    refine (KR.out _ g3).mono ?_
    rintro e w4 ⟨up4, ua4, rfl, hup4, hua4, hg4⟩
    obtain ⟨A5, c5, rfl⟩ := strs_slice hua4
    obtain ⟨A6, c6, rfl⟩ := ints_slice hup4
    clear hup4 hua4
    go_wp2_with fail
    go_ret3
    exact ⟨_, rfl, HU3.out.grew hg4, g3.trans hg4⟩
  · rw [if_neg hd]
    have e0 : (dcode [xs] == 0) = false := by simpa using hd
    clear hv hf hd
    generalize dcode [xs] = d at *
    go_enter Tryz.func11, Tryz.ntmps11
    go_wp2_with fail
    refine (KD.out).mono ?_
    rintro e w1 ⟨rfl, hg1⟩
    go_wp2_with fail
    go_ret3
    exact ⟨_, rfl, OwnS.nil_ _ _, HAL.out.trans hg1⟩
end Go.Proofs.YtofeeenjlaljpaaGreat

/- DischargeLast of both sides. -/
namespace Go.Proofs.YtofeeenjlaljpaaGreat
open Go.RowKit
open Fm (Nd)

theorem enc_imp (a b : Fm.Tree) : Fm.join 4 (Fm.enc a) (Fm.enc b) = Fm.enc (.imp a b) := rfl
theorem fo_pf {s : ByteArray} (h : gp s = true) : (Fm.pf s).1 = Fm.enc (fo s) := by
  obtain ⟨h1, h2⟩ := fo_ok h
  have := tx_pf h1.1
  rw [h2] at this
  rw [this]
/-- The implication that discharges the last assumption of a step. -/
noncomputable def dlT (x : Dd) : Fm.Tree := .imp (fo (st x.2.2.1 (x.2.2.1.length - 1))) (fo x.2.2.2.1)
noncomputable def dlF (xs : List Dd) : List Dd × Int :=
  if dcode [xs] = 0 then
    if (lst xs).2.2.1.length = 0 then ([], 4)
    else if xs.length = 120 ∨ (Fm.enc (dlT (lst xs))).length > 40 then ([], 3)
    else (xs.map (mvD 0) ++ [(9, [(xs.length : Int) - 1], (lst xs).2.2.1.take ((lst xs).2.2.1.length - 1), tx (dlT (lst xs)), 0)], 0)
  else ([], dcode [xs])
/-- The call returns own steps and a code. -/
def GivesDc (w : World) (r : List Dd × Int) (e : Ending) (w' : World) : Prop := ∃ v, e = .returned (.tuple #[v, .int .i64 r.2]) ∧ OwnDx w' w.heap.size w'.heap.size v r.1 ∧ Grew w w'
theorem sizeD_c (A : Option Addr) (n c : Nat) (w : World) (_hn : c ≤ 9223372036854775807) (_h : n ≤ c) :
    Calls Tryz.prog 54 #[.slice A n c] w fun e w' => e = .returned (.int .i64 n) ∧ w' = w := by
  go_enter Tryz.func54, Tryz.ntmps54
  go_wp2_with fail
  go_ret
  exact ⟨rfl, rfl⟩
theorem own_emptyD (w : World) : OwnDp (w.alloc (.cells #[] 50)) w.heap.size (.slice (some ⟨w.heap.size, 0, none⟩) 0 0) [] [] :=
  ⟨rfl, World.ownsRow_lit (e := 50) (size := 5) w #[] 0 (Nat.le_refl _) (by omega) rfl, (fun p hp => by cases hp), List.Pairwise.nil⟩
theorem OwnDx.nil_ (w : World) (lo hi : Nat) : OwnDx w lo hi (.slice none 0 0) [] := .inl ⟨rfl, rfl⟩
set_option maxRecDepth 20000 in
set_option maxHeartbeats 8000000 in
theorem implDl_c (v : Value) (xs : List Dd) (w : World) (hv : Dds w v xs) (hf : FitsDd xs) (_hn : xs.length ≤ 1048576) :
    Calls Tryz.prog 25 #[v] w (GivesDc w (dlF xs)) := by
  unfold GivesDc dlF
  obtain ⟨A, c, rfl⟩ := Dds_slice hv
  have KD := Lib.hid (deductionCode_c _ [xs] _ (DdL.one (T := 27) hv) (fun i hi => by obtain rfl : i = 0 := (by simpa using hi); exact hf))
  have HAL := Lib.hid ((Grew.refl w).alloc (.cells #[.slice A xs.length c] 27))
  by_cases hd : dcode [xs] = 0
  case neg =>
    rw [if_neg hd]
    have e0 : (dcode [xs] == 0) = false := by simpa using hd
    clear hv hf hd
    generalize dcode [xs] = d at *
    go_enter Tryz.func25, Tryz.ntmps25
    go_wp2_with fail
    refine (KD.out).mono ?_
    rintro e w1 ⟨rfl, hg1⟩
    go_wp2_with fail
    go_ret2
    exact ⟨_, rfl, OwnDx.nil_ _ _ _, HAL.out.trans hg1⟩
  rw [if_pos hd]
  rw [hd] at KD
  obtain ⟨hn0, hn1, hfb⟩ := dcode_zero hd
  have KR := Lib.hid (fun W (hW : Grew w W) => result_c _ xs (lst xs) W (hv.grew hW) hn0 (lst_at hn0))
  have hfx := hf _ (lst_mem hn0)
  obtain ⟨hg1, hg2, hg3⟩ := step_good hfb (lst_at hn0)
  have hfit : FitsDd xs := hf
  have KM := Lib.hid (fun W vt (hW : Grew w W) (hvt : Ints W vt (shf xs.length 0)) => by
    have h := mapDeductions_c _ vt xs (shf xs.length 0) W (hv.grew hW) hvt hf (fun i x hx q hq => by
      have h1 := prem_lt hfb hx (it x.2.1 q) (by rw [← it_get hq]; exact List.getElem_mem hq)
      have h2 := (List.getElem?_eq_some_iff.1 hx).1
      rw [shf_len]
      omega) _hn
    rwa [map_toD_shf hfb] at h)
  have KS := Lib.hid (fun W => shifted_c xs.length 0 W _hn (by omega) (by omega))
  have hc : xs.length ≤ c ∧ c ≤ 9223372036854775807 := by
    rcases hv with ⟨_, h0⟩ | ⟨b, o, c', hv, hc, hm, hb, hcell⟩
    · rw [h0] at hn0; exact absurd rfl hn0
    · obtain ⟨_, rfl⟩ : A = some ⟨b, o, none⟩ ∧ c = c' := by simpa using hv
      exact ⟨hc, hm⟩
  unfold GivesD1 at KR
  unfold GivesDp at KM
  unfold GivesI1 at KS
  clear hv hf hd hfb
  have hMl : (xs.map (mvD 0)).length ≤ 1048576 := by rw [List.length_map]; exact _hn
  generalize lst xs = x at *
  generalize xs.map (mvD 0) = MX at *
  generalize shf xs.length 0 = SH at *
  generalize xs.length = n at *
  obtain ⟨r0, rA, rs, rc, rn⟩ := x
  unfold dlT
  simp only at *
  by_cases hr0 : rs.length = 0
  · rw [if_pos hr0]
    obtain rfl := List.eq_nil_of_length_eq_zero hr0
    simp only [List.length_nil] at *
    clear KM KS hg2 hr0 hfx hg1 hg3
    go_enter Tryz.func25, Tryz.ntmps25
    go_wp2_with fail
    refine (KD.out).mono ?_
    rintro e w1 ⟨rfl, hg1⟩
    have g1 := HAL.out.trans hg1
    go_wp2_with fail
    refine (KR.out _ g1).mono ?_
    rintro e w2 ⟨up, ua, rfl, hup, hua, hg2⟩
    obtain ⟨A2, c2, rfl⟩ := strs_slice hua
    obtain ⟨A3, c3, rfl⟩ := ints_slice hup
    simp only [List.length_nil] at *
    go_wp2_with fail
    go_ret2
    exact ⟨_, rfl, OwnDx.nil_ _ _ _, (g1.trans hg2).alloc _⟩
  obtain ⟨m, hm⟩ : ∃ m, rs.length = m + 1 := ⟨rs.length - 1, by omega⟩
  rw [if_neg hr0]
  have hm1 : rs.length - 1 = m := by omega
  rw [hm1]
  have hgs := hg2 (st rs m) (by rw [← st_get (i := m) (by omega)]; exact List.getElem_mem _)
  have e1 := fo_pf hgs
  have e2 := fo_pf hg3
  have KP1 := Lib.hid (fun W => parsed_c (st rs m) W (by have : (st rs m).size ≤ 1048576 := hfx.2.2.1 m (by show m < rs.length; omega); omega))
  have KP2 := Lib.hid (fun W => parsed_c rc W (by have : rc.size ≤ 1048576 := hfx.2.2.2; omega))
  rw [e1] at KP1
  rw [e2] at KP2
  unfold GivesN at KP1 KP2
  have o1 := (fo_ok hgs).1
  have o2 := (fo_ok hg3).1
  clear e1 e2
  have KC0 := Lib.hid (fun u W (hu : Strs W u (rs.take m)) => cloneL_c u _ W hu (by have : rs.length ≤ 1048576 := hfx.2.1; rw [List.length_take]; omega))
  unfold GivesS at KC0
  clear hfx hg1 hg2 hg3 hgs hr0 hm1 hfit
  generalize fo (st rs m) = ta at *
  generalize fo rc = tb at *
  have KJ := Lib.hid (fun W va vb (h1 : Nodes W va (Fm.enc ta)) (h2 : Nodes W vb (Fm.enc tb)) => by
    have h := join_c 4 va vb _ _ W h1 h2 (by have := o1.1; have := o2.1; omega)
    rwa [enc_imp] at h)
  unfold Gives at KJ
  have KT : Hid (∀ W v, (Fm.enc (.imp ta tb)).length ≤ 40 → Nodes W v (Fm.enc (.imp ta tb)) → Calls Tryz.prog 55 #[v] W fun e w' => e = .returned (.string (tx (.imp ta tb))) ∧ Grew W w') := Lib.hid (fun W v h1 h2 =>
    (text_c (.imp ta tb) v W h2 (by omega)).mono fun _ _ h => h)
  clear o1 o2
  generalize Fm.Tree.imp ta tb = T at *
  generalize hRR : (if n = 120 ∨ (Fm.enc T).length > 40 then (([], 3) : List Dd × Int) else (MX ++ [(9, [(n : Int) - 1], rs.take m, tx T, 0)], 0)) = RR
  have HRR := Lib.hid hRR
  clear hRR
  go_enter Tryz.func25, Tryz.ntmps25
  go_wp2_with fail
  refine (KD.out).mono ?_
  rintro e w1 ⟨rfl, hg1⟩
  have g1 := HAL.out.trans hg1
  go_wp2_with fail
  refine (KR.out _ g1).mono ?_
  rintro e w2 ⟨up, ua, rfl, hup, hua, hg2⟩
  have g2 := g1.trans hg2
  obtain ⟨A2, c2, rfl⟩ := strs_slice hua
  obtain ⟨A3, c3, rfl⟩ := ints_slice hup
  obtain ⟨p1, p2, hpre⟩ := hua.pre (m := m) (by omega)
  rcases hua.open_ with ⟨_, h0⟩ | ⟨ba, oa, c2', hva, _, hcm2, hba, hcla⟩
  · rw [h0] at hm; simp at hm
  obtain ⟨rfl, rfl⟩ : A2 = some ⟨ba, oa, none⟩ ∧ c2 = c2' := by simpa using hva
  have yl0 := fun W (hW : Grew w2 W) => hcla m (by omega) W hW
  have KC := Lib.hid (fun W (hW : Grew w2 W) => KC0.out _ W (hpre.grew hW))
  rw [hm] at p2
  rw [hm]
  clear KC0 hpre hcla hva hup hua hm KD HAL KR
  generalize st rs m = sA at *
  generalize rs.take m = rT at *
  obtain ⟨wB, hwB⟩ : ∃ wB, wB = w2.alloc (.cells #[.int .i64 r0, .slice A3 rA.length c3, .slice (some ⟨ba, oa, none⟩) (m + 1) c2, .string rc, .int .i64 rn] 50) := ⟨_, rfl⟩
  have gB2 : Grew w2 wB := by rw [hwB]; exact (Grew.refl w2).alloc _
  have bB : wB.heap[w2.heap.size]? = some (.cells #[.int .i64 r0, .slice A3 rA.length c3, .slice (some ⟨ba, oa, none⟩) (m + 1) c2, .string rc, .int .i64 rn] 50) := by rw [hwB]; exact blk_new w2 _
  have HW : Hid (∀ W, Grew wB W → W.heap[w2.heap.size]? = some (.cells #[.int .i64 r0, .slice A3 rA.length c3, .slice (some ⟨ba, oa, none⟩) (m + 1) c2, .string rc, .int .i64 rn] 50)) := Lib.hid (fun W hW => (hW.block (blk_lt bB)).trans bB)
  have q2 : ∀ W, Grew wB W → W.cell? ⟨w2.heap.size, 2, none⟩ = some (.slice (some ⟨ba, oa, none⟩) (m + 1) c2) := fun W hW => by rw [blk_cell (HW.out W hW)]; rfl
  have q3 : ∀ W, Grew wB W → W.cell? ⟨w2.heap.size, 3, none⟩ = some (.string rc) := fun W hW => by rw [blk_cell (HW.out W hW)]; rfl
  have yl : ∀ W, Grew wB W → W.cell? ⟨ba, oa + m, none⟩ = some (.string sA) := fun W hW => yl0 W (gB2.trans hW)
  have hd0 : Grew wB (w2.alloc (.cells #[.int .i64 r0, .slice A3 rA.length c3, .slice (some ⟨ba, oa, none⟩) (m + 1) c2, .string rc, .int .i64 rn] 50)).drew := by rw [hwB]; exact (Grew.refl _).drew
  have HB := Lib.hid bB
  have i0 : (0 : Int) ≤ (m : Int) := by omega
  have i1 : (m : Int) < (m : Int) + 1 := by omega
  have i2 : (m : Int) ≤ (c2 : Int) := by omega
  have HH := Lib.hid hwB
  clear bB hwB yl0
  go_wp2_with fail
  go_region_held3 (fun W' => Grew wB W') (first | with_reducible assumption)
    (first
     | (have hz := hkq; go_at_call 50; refine (KJ.out _ _ _ (hop.nodes.grew hgq) hoq.nodes).mono ?_; rintro e wj ⟨vj, rfl, hoj, hgj⟩; have hkj := hkq.trans hgj)
     | (have hz := hkp; go_at_call 51; refine (KP2.out _).mono ?_; rintro e wq ⟨vq, rfl, hoq, hgq, _⟩; have hkq := hkp.trans hgq)
     | (go_at_call 51; refine (KP1.out _).mono ?_; rintro e wp ⟨vp, rfl, hop, hgp, _⟩; have hkp := hd0.trans hgp))
  have gBj := hkq.trans hgj
  have HVJ := Lib.hid hoj.nodes
  obtain ⟨Aj, cj, rfl⟩ := nodes_slice hoj.nodes
  have gj := (g2.trans gB2).trans gBj
  clear hoj hop hoq hgp hgq KP1 KP2 KJ hd0 hz hkq hgj i1
  by_cases hlim : n = 120 ∨ (Fm.enc T).length > 40
  · have hRR := HRR.out
    rw [if_pos hlim] at hRR
    subst hRR
    clear KM KS KC KT HVJ HRR
    generalize (Fm.enc T).length = lt at *
    by_cases h120 : n = 120
    · subst h120
      go_wp2_with fail
      go_ret2
      exact ⟨_, rfl, OwnDx.nil_ _ _ _, gj⟩
    · have f1 : ((n : Int) == 120) = false := by simp; omega
      have f2 : (40 : Int) < (lt : Int) := by omega
      go_wp2_with fail
      go_ret2
      exact ⟨_, rfl, OwnDx.nil_ _ _ _, gj⟩
  generalize tx T = tt at *
  have hRR := HRR.out
  rw [if_neg hlim] at hRR
  subst hRR
  clear HRR
  have f1 : ((n : Int) == 120) = false := by simp; omega
  have hle : (Fm.enc T).length ≤ 40 := by omega
  have KT1 := Lib.hid (fun W (hW : Grew wj W) => KT.out W _ hle (HVJ.out.grew hW))
  have f2 : ¬ (40 : Int) < ((Fm.enc T).length : Int) := by omega
  clear KT HVJ hlim hle
  generalize (Fm.enc T).length = lt at *
  go_wp2_with fail
  refine (KS.out _).mono ?_
  rintro e w6 ⟨v6, rfl, ho6, hg6⟩
  go_wp2_with fail
  refine (KM.out _ _ (gj.trans hg6) ho6.ints).mono ?_
  rintro e w7 ⟨v7, ps, rfl, hom0, hg7⟩
  have gj7 := hg6.trans hg7
  have gB7 := gBj.trans gj7
  have hom := Lib.hid (hom0.base (gBj.trans hg6).size)
  have HHb := Lib.hid hom0.below
  obtain ⟨Am, cm, rfl⟩ := hom0.slice
  have hd7 := gB7.drew
  have h7d := (Grew.refl w7).drew
  have eW : IntKind.i64.wrap ((n : Int) - 1) = (n : Int) - 1 := by rw [IntKind.wrap_i64] <;> omega
  clear hom0 ho6 KS KM f1 f2 hg6 hg7
  go_wp2_with fail
  go_region_held3 (fun W' => Grew wB W') (first | with_reducible assumption | exact Grew.alloc ‹_› _)
    (first
     | (have hz := hkT; refine step_appDp wB.heap.size w7.heap.size rfl _ _ rfl (.slice Am MX.length cm) MX ps rfl (hom.out.grew (by first | exact Grew.alloc (by assumption) _ | exact Grew.alloc (Grew.alloc (by assumption) _) _)) (Grew.size (by first | exact Grew.alloc (by assumption) _ | exact Grew.alloc (Grew.alloc (by assumption) _) _)) _ _ _ (9, [(n : Int) - 1], rT, tt, 0) rfl (rd_litDb _ (by simp) _ _ _ _ _ _)
          (by first
            | exact own_base (own_grew (own_litI w7 _) (Grew.alloc (((Grew.refl _).drew.trans hgC).trans hgT) _)) (Nat.le_refl _)
            | exact own_base (own_grew (own_litI _ _) (Grew.alloc hgT _)) h7C.size
            | exact own_base (own_grew (own_litI _ _) ((Grew.refl _).alloc _)) h7T.size)
          (own_base (own_grew hoC (by first | exact Grew.alloc hgT _ | exact Grew.alloc (Grew.trans ((Grew.refl _).alloc _) hgT) _ | exact Grew.alloc (Grew.alloc hgT _) _)) (by first | exact h7d.size | exact ((Grew.refl w7).alloc _).drew.size))
          gB7.size HHb.out hMl ?_; intro v8 w8 hown8 hg8; have hk8 : Grew wB w8 := Grew.grown (by first | exact Grew.alloc (by assumption) _ | exact Grew.alloc (Grew.alloc (by assumption) _) _) hg8 (fun k hk => own_of_ge hom.out.row hk))
     | (have hz := hkC; go_at_call 55; refine (KT1.out _ (gj7.trans (by first | assumption | exact Grew.alloc (by assumption) _ | exact (Grew.alloc (Grew.refl _) _).drew | exact (Grew.alloc (by assumption) _).drew))).mono ?_; rintro e wT ⟨rfl, hgT⟩; have h7T : Grew w7 wT := Grew.trans (by first | assumption | exact Grew.alloc (by assumption) _ | exact (Grew.alloc (Grew.refl _) _).drew | exact (Grew.alloc (by assumption) _).drew) hgT; have hkT := gB7.trans h7T)
     | (go_at_call 54; refine (sizeD_c _ _ _ _ hc.2 hc.1).mono ?_; rintro e wz ⟨rfl, rfl⟩)
     | (go_at_call 41; refine (KC.out _ ((gB2.trans gB7).trans (by first | assumption | exact Grew.alloc (by assumption) _ | exact (Grew.alloc (Grew.refl _) _).drew | exact (Grew.alloc (by assumption) _).drew))).mono ?_; rintro e wC ⟨vC, rfl, hoC, hgC⟩; have h7C : Grew w7 wC := Grew.trans (by first | assumption | exact Grew.alloc (by assumption) _ | exact (Grew.alloc (Grew.refl _) _).drew | exact (Grew.alloc (by assumption) _).drew) hgC; have hkC := gB7.trans h7C; obtain ⟨VC, vcc, rfl⟩ := strs_slice hoC.strs))
  all_goals go_wp2_with fail
  all_goals go_ret2
  all_goals
    have hk8 : Grew wB w8 := Grew.grown (by first | exact Grew.alloc (by assumption) _ | exact Grew.alloc (Grew.alloc (by assumption) _) _) hg8 (fun k hk => own_of_ge hom.out.row hk)
    exact ⟨_, rfl, (hown8.base (g2.trans gB2).size).ownDx, (g2.trans gB2).trans hk8⟩
set_option maxRecDepth 20000 in
set_option maxHeartbeats 8000000 in
theorem specDl_c (v : Value) (xs : List Dd) (w : World) (hv : Dds w v xs) (hf : FitsDd xs) (_hn : xs.length ≤ 1048576) :
    Calls Tryz.prog 24 #[v] w (GivesDc w (dlF xs)) := by
  unfold GivesDc dlF
  obtain ⟨A, c, rfl⟩ := Dds_slice hv
  have KD := Lib.hid (l25Code_c _ [xs] _ (DdL.one (T := 27) hv) (fun i hi => by obtain rfl : i = 0 := (by simpa using hi); exact hf) (by simp))
  have HAL := Lib.hid ((Grew.refl w).alloc (.cells #[.slice A xs.length c] 27))
  by_cases hd : dcode [xs] = 0
  case neg =>
    rw [if_neg hd]
    have e0 : (dcode [xs] == 0) = false := by simpa using hd
    clear hv hf hd
    generalize dcode [xs] = d at *
    go_enter Tryz.func24, Tryz.ntmps24
    go_wp2_with fail
    refine (KD.out).mono ?_
    rintro e w1 ⟨rfl, hg1⟩
    go_wp2_with fail
    go_ret2
    exact ⟨_, rfl, OwnDx.nil_ _ _ _, HAL.out.trans hg1⟩
  rw [if_pos hd]
  rw [hd] at KD
  obtain ⟨hn0, hn1, hfb⟩ := dcode_zero hd
  have KR := Lib.hid (fun W (hW : Grew w W) => l25Last_c _ xs (lst xs) W (hv.grew hW) hn0 (lst_at hn0))
  have hfx := hf _ (lst_mem hn0)
  obtain ⟨hg1, hg2, hg3⟩ := step_good hfb (lst_at hn0)
  have KM := Lib.hid (fun W (hW : Grew w W) => by
    have h := l25Behind_c _ _ [] xs [] W (W.alloc (.cells #[] 50)) (own_emptyD W) ((Grew.refl W).alloc _) (hv.grew hW) hf hfb (by omega) (by simp)
    exact h)
  simp only [List.length_nil, List.nil_append] at KM
  have hmz : mvD ((0 : Nat) : Int) = mvD 0 := rfl
  rw [hmz] at KM
  clear hmz
  have hc : xs.length ≤ c ∧ c ≤ 9223372036854775807 := by
    rcases hv with ⟨_, h0⟩ | ⟨b, o, c', hv, hc, hm, hb, hcell⟩
    · rw [h0] at hn0; exact absurd rfl hn0
    · obtain ⟨_, rfl⟩ : A = some ⟨b, o, none⟩ ∧ c = c' := by simpa using hv
      exact ⟨hc, hm⟩
  unfold GivesD1 at KR
  clear hv hf hd hfb
  have hMl : (xs.map (mvD 0)).length ≤ 1048576 := by rw [List.length_map]; exact _hn
  generalize lst xs = x at *
  generalize xs.map (mvD 0) = MX at *
  generalize xs.length = n at *
  obtain ⟨r0, rA, rs, rc, rn⟩ := x
  unfold dlT
  simp only at *
  by_cases hr0 : rs.length = 0
  · rw [if_pos hr0]
    obtain rfl := List.eq_nil_of_length_eq_zero hr0
    simp only [List.length_nil] at *
    clear KM hg2 hr0 hfx hg1 hg3
    go_enter Tryz.func24, Tryz.ntmps24
    go_wp2_with fail
    refine (KD.out).mono ?_
    rintro e w1 ⟨rfl, hg1⟩
    have g1 := HAL.out.trans hg1
    go_wp2_with fail
    refine (KR.out _ g1).mono ?_
    rintro e w2 ⟨up, ua, rfl, hup, hua, hg2⟩
    obtain ⟨A2, c2, rfl⟩ := strs_slice hua
    obtain ⟨A3, c3, rfl⟩ := ints_slice hup
    simp only [List.length_nil] at *
    go_wp2_with fail
    go_ret2
    exact ⟨_, rfl, OwnDx.nil_ _ _ _, (g1.trans hg2).alloc _⟩
  obtain ⟨m, hm⟩ : ∃ m, rs.length = m + 1 := ⟨rs.length - 1, by omega⟩
  rw [if_neg hr0]
  have hm1 : rs.length - 1 = m := by omega
  rw [hm1]
  have hgs := hg2 (st rs m) (by rw [← st_get (i := m) (by omega)]; exact List.getElem_mem _)
  have e1 := fo_pf hgs
  have e2 := fo_pf hg3
  have KP1 := Lib.hid (fun W => l25Formula_c (st rs m) W (by have : (st rs m).size ≤ 1048576 := hfx.2.2.1 m (by show m < rs.length; omega); omega))
  have KP2 := Lib.hid (fun W => l25Formula_c rc W (by have : rc.size ≤ 1048576 := hfx.2.2.2; omega))
  unfold GivesP at KP1 KP2
  rw [e1, hgs] at KP1
  rw [e2, hg3] at KP2
  have o1 := (fo_ok hgs).1
  have o2 := (fo_ok hg3).1
  clear e1 e2
  have KC0 := Lib.hid (fun u W (hu : Strs W u (rs.take m)) => copyL_c u _ W hu (by have : rs.length ≤ 1048576 := hfx.2.1; rw [List.length_take]; omega))
  unfold GivesS at KC0
  clear hfx hg1 hg2 hg3 hgs hr0 hm1
  generalize fo (st rs m) = ta at *
  generalize fo rc = tb at *
  have KJ := Lib.hid (fun W va vb (h1 : Nodes W va (Fm.enc ta)) (h2 : Nodes W vb (Fm.enc tb)) => by
    have h := l02Pair_c 4 va vb _ _ W h1 h2 (by have := o1.1; have := o2.1; omega)
    rwa [enc_imp] at h)
  unfold Gives at KJ
  have KT : Hid (∀ W v, (Fm.enc (.imp ta tb)).length ≤ 40 → Nodes W v (Fm.enc (.imp ta tb)) → Calls Tryz.prog 49 #[v] W fun e w' => e = .returned (.string (tx (.imp ta tb))) ∧ Grew W w') := Lib.hid (fun W v h1 h2 =>
    (l02Text_c (.imp ta tb) v W h2 (by omega)).mono fun _ _ h => h)
  clear o1 o2
  generalize Fm.Tree.imp ta tb = T at *
  generalize hRR : (if n = 120 ∨ (Fm.enc T).length > 40 then (([], 3) : List Dd × Int) else (MX ++ [(9, [(n : Int) - 1], rs.take m, tx T, 0)], 0)) = RR
  have HRR := Lib.hid hRR
  clear hRR
  go_enter Tryz.func24, Tryz.ntmps24
  go_wp2_with fail
  refine (KD.out).mono ?_
  rintro e w1 ⟨rfl, hg1⟩
  have g1 := HAL.out.trans hg1
  go_wp2_with fail
  refine (KR.out _ g1).mono ?_
  rintro e w2 ⟨up, ua, rfl, hup, hua, hg2⟩
  have g2 := g1.trans hg2
  obtain ⟨A2, c2, rfl⟩ := strs_slice hua
  obtain ⟨A3, c3, rfl⟩ := ints_slice hup
  obtain ⟨p1, p2, hpre⟩ := hua.pre (m := m) (by omega)
  rcases hua.open_ with ⟨_, h0⟩ | ⟨ba, oa, c2', hva, _, hcm2, hba, hcla⟩
  · rw [h0] at hm; simp at hm
  obtain ⟨rfl, rfl⟩ : A2 = some ⟨ba, oa, none⟩ ∧ c2 = c2' := by simpa using hva
  have yl0 := fun W (hW : Grew w2 W) => hcla m (by omega) W hW
  have KC := Lib.hid (fun W (hW : Grew w2 W) => KC0.out _ W (hpre.grew hW))
  rw [hm] at p2
  rw [hm]
  clear KC0 hpre hcla hva hup hua hm KD HAL KR
  generalize st rs m = sA at *
  generalize rs.take m = rT at *
  obtain ⟨wB, hwB⟩ : ∃ wB, wB = w2.alloc (.cells #[.int .i64 r0, .slice A3 rA.length c3, .slice (some ⟨ba, oa, none⟩) (m + 1) c2, .string rc, .int .i64 rn] 50) := ⟨_, rfl⟩
  have gB2 : Grew w2 wB := by rw [hwB]; exact (Grew.refl w2).alloc _
  have bB : wB.heap[w2.heap.size]? = some (.cells #[.int .i64 r0, .slice A3 rA.length c3, .slice (some ⟨ba, oa, none⟩) (m + 1) c2, .string rc, .int .i64 rn] 50) := by rw [hwB]; exact blk_new w2 _
  have HW : Hid (∀ W, Grew wB W → W.heap[w2.heap.size]? = some (.cells #[.int .i64 r0, .slice A3 rA.length c3, .slice (some ⟨ba, oa, none⟩) (m + 1) c2, .string rc, .int .i64 rn] 50)) := Lib.hid (fun W hW => (hW.block (blk_lt bB)).trans bB)
  have q2 : ∀ W, Grew wB W → W.cell? ⟨w2.heap.size, 2, none⟩ = some (.slice (some ⟨ba, oa, none⟩) (m + 1) c2) := fun W hW => by rw [blk_cell (HW.out W hW)]; rfl
  have q3 : ∀ W, Grew wB W → W.cell? ⟨w2.heap.size, 3, none⟩ = some (.string rc) := fun W hW => by rw [blk_cell (HW.out W hW)]; rfl
  have yl : ∀ W, Grew wB W → W.cell? ⟨ba, oa + m, none⟩ = some (.string sA) := fun W hW => yl0 W (gB2.trans hW)
  have rB : Grew wB wB := Grew.refl wB
  have rB2 : Grew wB (w2.alloc (.cells #[.int .i64 r0, .slice A3 rA.length c3, .slice (some ⟨ba, oa, none⟩) (m + 1) c2, .string rc, .int .i64 rn] 50)) := by rw [hwB]; exact Grew.refl _
  have HB := Lib.hid bB
  have i0 : (0 : Int) ≤ (m : Int) := by omega
  have i1 : (m : Int) < (m : Int) + 1 := by omega
  have i2 : (m : Int) ≤ (c2 : Int) := by omega
  have HH := Lib.hid hwB
  have y2 := yl0 w2 (Grew.refl _)
  clear bB yl0
  go_wp2_with fail
  rw [← hwB]
  clear hwB rB2 y2
  refine (KP1.out _).mono ?_
  rintro e wp ⟨vp, rfl, hop, hgp⟩
  have hkp := rB.trans hgp
  have HOP := Lib.hid hop.nodes
  obtain ⟨Ap, cp, rfl⟩ := nodes_slice hop.nodes
  clear hop
  go_wp2_with fail
  refine (KP2.out _).mono ?_
  rintro e wq ⟨vq, rfl, hoq, hgq⟩
  have hkq := hkp.trans hgq
  have HOQ := Lib.hid hoq.nodes
  obtain ⟨Aq, cq, rfl⟩ := nodes_slice hoq.nodes
  clear hoq
  go_wp2_with fail
  refine (KJ.out _ _ _ (HOP.out.grew hgq) HOQ.out).mono ?_
  rintro e wj ⟨vj, rfl, hoj, hgj⟩
  have gBj := hkq.trans hgj
  have HVJ := Lib.hid hoj.nodes
  obtain ⟨Aj, cj, rfl⟩ := nodes_slice hoj.nodes
  have gj := (g2.trans gB2).trans gBj
  clear hoj HOP HOQ hgp hgq KP1 KP2 KJ hkq hgj i1
  by_cases hlim : n = 120 ∨ (Fm.enc T).length > 40
  · have hRR := HRR.out
    rw [if_pos hlim] at hRR
    subst hRR
    clear KM KC KT HVJ HRR
    generalize (Fm.enc T).length = lt at *
    by_cases h40 : (40 : Int) < (lt : Int)
    · go_wp2_with fail
      go_ret2
      exact ⟨_, rfl, OwnDx.nil_ _ _ _, gj⟩
    · have f1 : n = 120 := by omega
      subst f1
      go_wp2_with fail
      go_ret2
      exact ⟨_, rfl, OwnDx.nil_ _ _ _, gj⟩
  generalize tx T = tt at *
  have hRR := HRR.out
  rw [if_neg hlim] at hRR
  subst hRR
  clear HRR
  have f1 : ((n : Int) == 120) = false := by simp; omega
  have hle : (Fm.enc T).length ≤ 40 := by omega
  have KT1 := Lib.hid (fun W (hW : Grew wj W) => KT.out W _ hle (HVJ.out.grew hW))
  have f2 : ¬ (40 : Int) < ((Fm.enc T).length : Int) := by omega
  clear KT HVJ hlim hle
  generalize (Fm.enc T).length = lt at *
  go_wp2_with fail
  refine (KM.out _ gj).mono ?_
  rintro e w7 ⟨v7, ps, rfl, hom0, gj7⟩
  have gB7 := gBj.trans gj7
  have hom := Lib.hid (hom0.base gBj.size)
  have HHb := Lib.hid hom0.below
  obtain ⟨Am, cm, rfl⟩ := hom0.slice
  have h7d := (Grew.refl w7).alloc (.cells #[.int .i64 ((n : Int) - 1)] 2)
  have h7B := gB7.trans h7d
  have HL := Lib.hid (own_litI w7 ((n : Int) - 1))
  clear hom0 KM f1
  go_wp2_with fail
  refine (KC.out _ (gB2.trans h7B)).mono ?_
  rintro e wC ⟨vC, rfl, hoC, hgC⟩
  have HOC := Lib.hid hoC
  obtain ⟨VC, vcc, rfl⟩ := strs_slice hoC.strs
  have hkC := h7B.trans hgC
  clear hoC
  go_wp2_with fail
  refine (KT1.out _ ((gj7.trans h7d).trans hgC)).mono ?_
  rintro e wT ⟨rfl, hgT⟩
  have hkT := hkC.trans hgT
  have h7T := (h7d.trans hgC).trans hgT
  go_wp2_with (first
    | (at_builtin; refine wpList_appDp wB.heap.size w7.heap.size _ _ rfl rfl (.slice Am MX.length cm) MX ps rfl (hom.out.grew (h7T.alloc _)) (hkT.alloc _).size _ _ _ (9, [(n : Int) - 1], rT, tt, 0) rfl (rd_litD _ _ _ _ _ _ _) (own_grew HL.out ((hgC.trans hgT).alloc _)) (own_base (own_grew HOC.out (hgT.alloc _)) h7d.size) gB7.size HHb.out hMl ?_; intro v8 w8 hown8 hg8))
  go_ret2
  have hk8 : Grew wB w8 := Grew.grown (hkT.alloc _) hg8 (fun k hk => own_of_ge hom.out.row hk)
  exact ⟨_, rfl, (hown8.base (g2.trans gB2).size).ownDx, (g2.trans gB2).trans hk8⟩
end Go.Proofs.YtofeeenjlaljpaaGreat

/- The bounds of DischargeLast's result. No program is in sight. -/
namespace Go.Proofs.YtofeeenjlaljpaaGreat
open Go.RowKit

theorem Fits.take {L : List ByteArray} (h : Fits L) (m : Nat) : Fits (L.take m) := by
  intro i hi
  rw [List.length_take] at hi
  have e : st (L.take m) i = st L i := by
    simp only [st, List.getD, List.getElem?_take]
    rw [if_pos (by omega)]
  rw [e]
  exact h i (by omega)
theorem dlF_len {xs : List Dd} (hn : xs.length ≤ 1048576) : (dlF xs).1.length ≤ 1048576 := by
  unfold dlF
  split
  · rename_i h
    obtain ⟨_, h2, _⟩ := dcode_zero h
    split
    · simp
    · split
      · simp
      · simp only [List.length_append, List.length_map, List.length_singleton]
        omega
  · simp
theorem FitsDd.nil : FitsDd [] := fun x hx => by cases hx
theorem dlF_fit {xs : List Dd} (hf : FitsDd xs) : FitsDd (dlF xs).1 := by
  unfold dlF
  split
  · rename_i h
    obtain ⟨h1, h2, _⟩ := dcode_zero h
    split
    · exact FitsDd.nil
    · split
      · exact FitsDd.nil
      · rename_i hl
        obtain ⟨k1, k2, k3, k4⟩ := hf _ (lst_mem h1)
        refine (hf.mv 0).app (FitsDd.one ⟨by simp, ?_, k3.take _, ?_⟩)
        · show ((lst xs).2.2.1.take _).length ≤ 1048576
          rw [List.length_take]
          omega
        · show (tx (dlT (lst xs))).size ≤ 1048576
          have := tx_size (A := dlT (lst xs)) (by omega)
          omega
  · exact FitsDd.nil
end Go.Proofs.YtofeeenjlaljpaaGreat

/- What DetachDeductions answers. No program is in sight. -/
namespace Go.Proofs.YtofeeenjlaljpaaGreat
open Go.RowKit

theorem dcode_two {xs ys : List Dd} (h : dcode [xs, ys] = 0) : (xs.length ≠ 0 ∧ xs.length ≤ 120 ∧ fbd xs xs.length = -1) ∧ ys.length ≠ 0 ∧ ys.length ≤ 120 ∧ fbd ys ys.length = -1 := by
  have h1 : dcode [xs] = 0 ∧ dcode [ys] = 0 := by
    unfold dcode at h ⊢
    simp only [List.any_cons, List.any_nil, Bool.or_false] at h ⊢
    cases ha : badCnt xs <;> cases hb : badCnt ys <;> cases hc : badStep xs <;> cases hd : badStep ys <;> simp [ha, hb, hc, hd] at h ⊢
  exact ⟨dcode_zero h1.1, dcode_zero h1.2⟩
/-- The result of the first is an implication of that of the second, from the same assumptions. -/
def dtOk (x y : Dd) : Prop := kT x.2.2.2.1 = 4 ∧ pl x.2.2.2.1 = y.2.2.2.1 ∧ x.2.2.1 = y.2.2.1
open Classical in
noncomputable def dtF (xs ys : List Dd) : List Dd × Int :=
  if dcode [xs, ys] = 0 then
    if dtOk (lst xs) (lst ys) then
      if xs.length + ys.length + 1 > 120 then ([], 3)
      else (xs.map (mvD 0) ++ ys.map (mvD xs.length) ++ [(10, [(xs.length : Int) - 1, (xs.length : Int) + (ys.length : Int) - 1], (lst xs).2.2.1, pr (lst xs).2.2.2.1, 0)], 0)
    else ([], 4)
  else ([], dcode [xs, ys])
theorem dtF_len {xs ys : List Dd} : (dtF xs ys).1.length ≤ 1048576 := by
  unfold dtF
  split
  · split
    · split
      · simp
      · simp only [List.length_append, List.length_map, List.length_singleton]
        omega
    · simp
  · simp
end Go.Proofs.YtofeeenjlaljpaaGreat

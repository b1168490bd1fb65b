/- Texts in one file: DdK DdBb DdCo DdPl DdSg TdP TdC TdI IntLaw IntEq DdTo DdTo2 DdSz LawTd Args ArgsI ArgDd. -/
import Derived.Lib.AppendIntMem
import Derived.Deep.RegionHeld3
import Derived.Deep.Strs
import Derived.Lib.SmallJoins
import Derived.Carry
import Derived.ProofKit
import Derived.Deep.SlicePairs
import Derived.Test.YtfpkfgimhanekaaGreatDoorPa1
import Derived.Test.YtfpkfgimhanekaaGreatDoorPa2
import Derived.Test.YtfpkfgimhanekaaGreatDoorPa3
import Derived.Test.YtfpkfgimhanekaaGreatDoorPa4
import Derived.Test.YtfpkfgimhanekaaGreatDoorPa5
set_option linter.all false

/- l25Correct, l25Bad of the reference. -/
namespace Go.Proofs.YtfpkfgimhanekaaGreatDoor
open Go.RowKit

def pre (bef : List Dd) (P : List Int) (n : Nat) : List Dd := (P.take n).map fun k => bef.getD k.toNat (0, [], [], ByteArray.empty, 0)
theorem pre_map (bef : List Dd) (P : List Int) (n : Nat) : (pre bef P n).map jd = givenN bef P n := by unfold pre givenN given; rw [List.map_map]; rfl
theorem pre_succ {bef : List Dd} {P : List Int} {n m : Nat} {y : Dd} (hn : n < P.length) (hm : it P n = (m : Int)) (hy : bef[m]? = some y) : pre bef P (n + 1) = pre bef P n ++ [y] := by
  unfold pre
  rw [List.take_succ_eq_append_getElem hn, List.map_append, List.map_singleton, it_get hn, hm, Int.toNat_natCast]
  simp [List.getD, hy]
theorem pre_len (bef : List Dd) (P : List Int) (n : Nat) : (pre bef P n).length ≤ P.length := by unfold pre; simp; omega
theorem pre_all (bef : List Dd) (P : List Int) : (pre bef P P.length).length = P.length := by unfold pre; simp
theorem pre_gp {bef : List Dd} {P : List Int} (hb : ∀ y ∈ bef, gp y.2.2.2.1 = true) (hP : Prem bef P P.length) : ∀ y ∈ pre bef P P.length, gp y.2.2.2.1 = true := by
  intro y hy
  unfold pre at hy
  rw [List.take_length, List.mem_map] at hy
  obtain ⟨k, hk, rfl⟩ := hy
  have h1 := prem_all.1 hP k hk
  have hlt : k.toNat < bef.length := by omega
  have := hb _ (List.getElem_mem hlt)
  simpa [List.getD, hlt] using this

/-- The cells of a step that lies alone. -/
def BoxD (W : World) (g : Nat) (x : Dd) (up ua : Value) : Prop :=
  W.cell? ⟨g, 0, none⟩ = some (.int .i64 x.1) ∧ W.cell? ⟨g, 1, none⟩ = some up ∧ W.cell? ⟨g, 2, none⟩ = some ua ∧ W.cell? ⟨g, 3, none⟩ = some (.string x.2.2.2.1) ∧ W.cell? ⟨g, 4, none⟩ = some (.int .i64 x.2.2.2.2)
theorem BoxD.grew {W W' : World} {g : Nat} {x : Dd} {up ua : Value} (h : BoxD W g x up ua) (hb : g < W.heap.size) (hg : Grew W W') : BoxD W' g x up ua :=
  ⟨(hg.cell (p := ⟨g, 0, none⟩) hb).trans h.1, (hg.cell (p := ⟨g, 1, none⟩) hb).trans h.2.1, (hg.cell (p := ⟨g, 2, none⟩) hb).trans h.2.2.1, (hg.cell (p := ⟨g, 3, none⟩) hb).trans h.2.2.2.1, (hg.cell (p := ⟨g, 4, none⟩) hb).trans h.2.2.2.2⟩
theorem BoxD.far {W W' : World} {g : Nat} {x : Dd} {up ua : Value} {row : Option Nat} (h : BoxD W g x up ua) (hb : g < W.heap.size) (hg : W.grownBy W' row) (hne : some g ≠ row) : BoxD W' g x up ua :=
  ⟨(hg.cell_far ⟨g, 0, none⟩ hb hne).trans h.1, (hg.cell_far ⟨g, 1, none⟩ hb hne).trans h.2.1, (hg.cell_far ⟨g, 2, none⟩ hb hne).trans h.2.2.1, (hg.cell_far ⟨g, 3, none⟩ hb hne).trans h.2.2.2.1, (hg.cell_far ⟨g, 4, none⟩ hb hne).trans h.2.2.2.2⟩

set_option maxHeartbeats 4000000 in
theorem l25Correct_c (v : Value) (xs : List Dd) (k : Nat) (x : Dd) (w : World) (hv : Dds w v xs) (hx : xs[k]? = some x) (hfx : FitDd x) (hgb : ∀ y ∈ xs.take k, gp y.2.2.2.1 = true) (hl : xs.length ≤ 1000) :
    Calls Tryz.prog 69 #[v, .int .i64 k] w fun e w' => e = .returned (.bool (dcd (goodP (xs.take k) x))) ∧ Grew w w' := by
  have hlt := (List.getElem?_eq_some_iff.1 hx).1
  obtain ⟨b, o, c, rfl, hc, hm, hcell⟩ : ∃ b o c, v = .slice (some ⟨b, o, none⟩) xs.length c ∧ xs.length ≤ c ∧ c ≤ 9223372036854775807 ∧ (b < w.heap.size ∧ ∀ i x, xs[i]? = some x → ∃ up ua, DdCells w b (o + i * 5) x up ua ∧ Ints w up x.2.1 ∧ Strs w ua x.2.2.1) := by
    rcases hv with ⟨_, h0⟩ | ⟨b, o, c, hv, hc, hm, hb, hcell⟩
    · rw [h0] at hlt; simp at hlt
    · exact ⟨b, o, c, hv, hc, hm, hb, hcell⟩
  obtain ⟨hbb, hcell⟩ := hcell
  obtain ⟨up, ua, hcl, hup, hs⟩ := hcell k x hx
  obtain ⟨k0, k1, k2, k3, k4⟩ := hcl
  have hbl : (xs.take k).length = k := by simp; omega
  have HC := Lib.hid hcell
  have HGB := Lib.hid hgb
  have HBL := Lib.hid hbl
  have HS := Lib.hid hs
  have HUP := Lib.hid hup
  have HTK : Hid (∀ (m : Nat) (y : Dd), m < k → xs[m]? = some y → (xs.take k)[m]? = some y) := Lib.hid (fun m y h1 h2 => by rw [List.getElem?_take, if_pos h1]; exact h2)
  generalize xs.take k = bef at *
  have KF := fun W => l25Formula_c x.2.2.2.1 W (by have := hfx.2.2.2; omega)
  unfold GivesP at KF
  have KL := fun W (hW : Grew w W) => l25List_c ua x.2.2.1 W (hs.grew hW) hfx.2.2.1
  have KN := Lib.hid (fun W => l25Count_c x.1 W)
  have hpl := hfx.1
  obtain ⟨A, cP, rfl⟩ := ints_slice hup
  obtain ⟨UA, ca, rfl⟩ := strs_slice hs
  have hal1 := (Grew.refl w).alloc (.cells #[] 52)
  have hal := hal1.alloc (.cells #[.int .i64 x.1, .slice A x.2.1.length cP, .slice UA x.2.2.1.length ca, .string x.2.2.2.1, .int .i64 x.2.2.2.2] 52)
  have HBX : Hid (∀ W, Grew ((w.alloc (.cells #[] 52)).alloc (.cells #[.int .i64 x.1, .slice A x.2.1.length cP, .slice UA x.2.2.1.length ca, .string x.2.2.2.1, .int .i64 x.2.2.2.2] 52)) W → BoxD W (w.heap.size + 1) x (.slice A x.2.1.length cP) (.slice UA x.2.2.1.length ca) ∧ W.heap[w.heap.size]? = some (.cells #[] 52 (0, 0)) ∧ w.heap.size + 1 < W.heap.size) := Lib.hid (fun W hW => by
    have hz : (w.alloc (.cells #[] 52)).heap.size = w.heap.size + 1 := by simp
    have hz2 : ((w.alloc (.cells #[] 52)).alloc (.cells #[.int .i64 x.1, .slice A x.2.1.length cP, .slice UA x.2.2.1.length ca, .string x.2.2.2.1, .int .i64 x.2.2.2.2] 52)).heap.size = w.heap.size + 2 := by simp
    have hb2 := blk_new (w.alloc (.cells #[] 52)) (.cells #[.int .i64 x.1, .slice A x.2.1.length cP, .slice UA x.2.2.1.length ca, .string x.2.2.2.1, .int .i64 x.2.2.2.2] 52)
    rw [hz] at hb2
    refine ⟨BoxD.grew ⟨(blk_cell hb2 0).trans rfl, (blk_cell hb2 1).trans rfl, (blk_cell hb2 2).trans rfl, (blk_cell hb2 3).trans rfl, (blk_cell hb2 4).trans rfl⟩ (by omega) hW, ?_, by have := hW.size; omega⟩
    rw [hW.block (by omega), ((Grew.refl (w.alloc (.cells #[] 52))).alloc _).block (by omega)]
    exact blk_new w _)
  clear hv hcell hup hs hbl hgb hx
  by_cases hg : gp x.2.2.2.1 = true
  · rw [hg] at KF
    by_cases ha : asl x.2.2.1 = true
    · rw [ha] at KL
      have ha12 := (asl_map ha).1
      by_cases hn : cnt x.1 = (x.2.1.length : Int)
      · have en : (cnt x.1 != (x.2.1.length : Int)) = false := by rw [hn]; simp
        by_cases hnn : x.1 = 1 ∨ x.2.2.2.2 = 0
        · have hq : (x.1 != 1) = false ∨ ((x.1 != 1) = true ∧ (x.2.2.2.2 != 0) = false) := by
            by_cases h1 : x.1 = 1
            · exact .inl (by simpa using h1)
            · exact .inr ⟨by simpa using h1, by simpa using hnn.resolve_left h1⟩
          replace hnn := Lib.hid hnn
          replace hn := Lib.hid hn
          replace hg := Lib.hid hg
          replace ha := Lib.hid ha
          rcases hq with e1 | ⟨e1, e2⟩
          · replace KF := Lib.hid KF
            replace KL := Lib.hid KL
            go_enter Tryz.func69, Tryz.ntmps69
            go_wp2_with fail
            refine (KF.out _).mono ?_
            rintro e w1 ⟨uf, rfl, hof, hg1⟩
            clear hof
            have g1 := hal.trans hg1
            obtain ⟨hbx, hblk, hsz⟩ := HBX.out _ hg1
            have f0 := fun W (hW : Grew w1 W) => (hbx.grew hsz hW).1
            have f1 := fun W (hW : Grew w1 W) => (hbx.grew hsz hW).2.1
            have f2 := fun W (hW : Grew w1 W) => (hbx.grew hsz hW).2.2.1
            have f4 := fun W (hW : Grew w1 W) => (hbx.grew hsz hW).2.2.2.2
            have HBX1 := Lib.hid hbx
            have HBK := Lib.hid hblk
            have r1 := Grew.refl w1
            have d1 := r1.drew
            have gd := g1.trans d1
            clear hbx hblk k0 k1 k2 k3 k4
            go_wp2_with fail
            refine wp_region_held_drew (S := fun w' => Grew w1 w') (by kernel_rfl) d1 (fun hHeld => ?_)
            refine wpAnyH_take (i := 0) (oi := ?on1) (v := ?vn1) ?hin1 ?an1 ?bn1 ?cn1 ?qn1 (Or.inl ⟨?dn1, ?hyn1⟩) hHeld ?restn1
            case hin1 => (simp only [List.getElem?_toArray, List.getElem?_cons_succ, List.getElem?_cons_zero]; exact rfl)
            case an1 => kernel_rfl
            case bn1 => kernel_rfl
            case cn1 => kernel_rfl
            case qn1 => exact fun _ _ _ h => h
            case dn1 => rfl
            case hyn1 => (intro z hSw; (try dsimp only at hSw); go_simp; (try with_reducible rfl))
            try simp only [Act.put, List.setIfInBounds_toArray, List.set_cons_zero, List.set_cons_succ]
            refine wpAnyH_take (i := 1) (oi := ?on2) (v := ?vn2) ?hin2 ?an2 ?bn2 ?cn2 ?qn2 (Or.inl ⟨?dn2, ?hyn2⟩) hHeld ?restn2
            case hin2 => (simp only [List.getElem?_toArray, List.getElem?_cons_succ, List.getElem?_cons_zero]; exact rfl)
            case an2 => kernel_rfl
            case bn2 => kernel_rfl
            case cn2 => kernel_rfl
            case qn2 => exact fun _ _ _ h => h
            case dn2 => rfl
            case hyn2 => (intro z hSw; (try dsimp only at hSw); go_simp; (try with_reducible rfl))
            try simp only [Act.put, List.setIfInBounds_toArray, List.set_cons_zero, List.set_cons_succ]
            refine wpAnyH_take (i := 2) (oi := ?on3) (v := ?vn3) ?hin3 ?an3 ?bn3 ?cn3 ?qn3 (Or.inl ⟨?dn3, ?hyn3⟩) hHeld ?restn3
            case hin3 => (simp only [List.getElem?_toArray, List.getElem?_cons_succ, List.getElem?_cons_zero]; exact rfl)
            case an3 => kernel_rfl
            case bn3 => kernel_rfl
            case cn3 => kernel_rfl
            case qn3 => exact fun _ _ _ h => h
            case dn3 => rfl
            case hyn3 => (intro z hSw; (try dsimp only at hSw); go_simp; (try with_reducible rfl))
            try simp only [Act.put, List.setIfInBounds_toArray, List.set_cons_zero, List.set_cons_succ]
            refine wpAnyH_take (i := 3) (oi := ?on4) (v := ?vn4) ?hin4 ?an4 ?bn4 ?cn4 ?qn4 (Or.inl ⟨?dn4, ?hyn4⟩) hHeld ?restn4
            case hin4 => (simp only [List.getElem?_toArray, List.getElem?_cons_succ, List.getElem?_cons_zero]; exact rfl)
            case an4 => kernel_rfl
            case bn4 => kernel_rfl
            case cn4 => kernel_rfl
            case qn4 => exact fun _ _ _ h => h
            case dn4 => rfl
            case hyn4 => (intro z hSw; (try dsimp only at hSw); go_simp; (try with_reducible rfl))
            try simp only [Act.put, List.setIfInBounds_toArray, List.set_cons_zero, List.set_cons_succ]
            refine wpAnyH_take (i := 4) (oi := ?on5) (v := ?vn5) ?hin5 ?an5 ?bn5 ?cn5 ?qn5 (Or.inl ⟨?dn5, ?hyn5⟩) hHeld ?restn5
            case hin5 => (simp only [List.getElem?_toArray, List.getElem?_cons_succ, List.getElem?_cons_zero]; exact rfl)
            case an5 => kernel_rfl
            case bn5 => kernel_rfl
            case cn5 => kernel_rfl
            case qn5 => exact fun _ _ _ h => h
            case dn5 => rfl
            case hyn5 => (intro z hSw; (try dsimp only at hSw); go_simp; (try with_reducible rfl))
            try simp only [Act.put, List.setIfInBounds_toArray, List.set_cons_zero, List.set_cons_succ]
            refine wpAnyH_ready (rs := [5]) (by kernel_rfl) (by simp) ?_
            refine AllReadyH.cons (o := ?on6) ?hin6 ?restn6 AllReadyH.nil
            case hin6 => (simp only [List.getElem?_toArray, List.getElem?_cons_succ, List.getElem?_cons_zero]; exact rfl)
            intro K hK
            go_simp
            go_at_call 80
            refine (KL.out _ gd).mono ?_
            rintro e w3 ⟨rfl, hg3⟩
            have gk3 := gd.trans hg3
            have mk3 := d1.trans hg3
            refine hK.out _ _ ?_ (fun hHeld => ?_)
            · (try dsimp only); first | with_reducible assumption | exact Grew.alloc ‹_› _
            clear hK K
            try simp only [Act.put, List.setIfInBounds_toArray, List.set_cons_zero, List.set_cons_succ]
            refine wpAnyH_take (i := 6) (oi := ?on7) (v := ?vn7) ?hin7 ?an7 ?bn7 ?cn7 ?qn7 (Or.inl ⟨?dn7, ?hyn7⟩) hHeld ?restn7
            case hin7 => (simp only [List.getElem?_toArray, List.getElem?_cons_succ, List.getElem?_cons_zero]; exact rfl)
            case an7 => kernel_rfl
            case bn7 => kernel_rfl
            case cn7 => kernel_rfl
            case qn7 => exact fun _ _ _ h => h
            case dn7 => rfl
            case hyn7 => (intro z hSw; (try dsimp only at hSw); go_simp; (try with_reducible rfl))
            try simp only [Act.put, List.setIfInBounds_toArray, List.set_cons_zero, List.set_cons_succ]
            refine wpAnyH_take (i := 7) (oi := ?on8) (v := ?vn8) ?hin8 ?an8 ?bn8 ?cn8 ?qn8 (Or.inl ⟨?dn8, ?hyn8⟩) hHeld ?restn8
            case hin8 => (simp only [List.getElem?_toArray, List.getElem?_cons_succ, List.getElem?_cons_zero]; exact rfl)
            case an8 => kernel_rfl
            case bn8 => kernel_rfl
            case cn8 => kernel_rfl
            case qn8 => exact fun _ _ _ h => h
            case dn8 => rfl
            case hyn8 => (intro z hSw; (try dsimp only at hSw); go_simp; (try with_reducible rfl))
            try simp only [Act.put, List.setIfInBounds_toArray, List.set_cons_zero, List.set_cons_succ]
            refine wpAnyH_take (i := 8) (oi := ?on9) (v := ?vn9) ?hin9 ?an9 ?bn9 ?cn9 ?qn9 (Or.inl ⟨?dn9, ?hyn9⟩) hHeld ?restn9
            case hin9 => (simp only [List.getElem?_toArray, List.getElem?_cons_succ, List.getElem?_cons_zero]; exact rfl)
            case an9 => kernel_rfl
            case bn9 => kernel_rfl
            case cn9 => kernel_rfl
            case qn9 => exact fun _ _ _ h => h
            case dn9 => rfl
            case hyn9 => (intro z hSw; (try dsimp only at hSw); go_simp; (try with_reducible rfl))
            try simp only [Act.put, List.setIfInBounds_toArray, List.set_cons_zero, List.set_cons_succ]
            refine wpAnyH_take (i := 9) (oi := ?on10) (v := ?vn10) ?hin10 ?an10 ?bn10 ?cn10 ?qn10 (Or.inl ⟨?dn10, ?hyn10⟩) hHeld ?restn10
            case hin10 => (simp only [List.getElem?_toArray, List.getElem?_cons_succ, List.getElem?_cons_zero]; exact rfl)
            case an10 => kernel_rfl
            case bn10 => kernel_rfl
            case cn10 => kernel_rfl
            case qn10 => exact fun _ _ _ h => h
            case dn10 => rfl
            case hyn10 => (intro z hSw; (try dsimp only at hSw); go_simp; (try with_reducible rfl))
            try simp only [Act.put, List.setIfInBounds_toArray, List.set_cons_zero, List.set_cons_succ]
            refine wpAnyH_take (i := 10) (oi := ?on11) (v := ?vn11) ?hin11 ?an11 ?bn11 ?cn11 ?qn11 (Or.inl ⟨?dn11, ?hyn11⟩) hHeld ?restn11
            case hin11 => (simp only [List.getElem?_toArray, List.getElem?_cons_succ, List.getElem?_cons_zero]; exact rfl)
            case an11 => kernel_rfl
            case bn11 => kernel_rfl
            case cn11 => kernel_rfl
            case qn11 => exact fun _ _ _ h => h
            case dn11 => rfl
            case hyn11 => (intro z hSw; (try dsimp only at hSw); go_simp; (try with_reducible rfl))
            try simp only [Act.put, List.setIfInBounds_toArray, List.set_cons_zero, List.set_cons_succ]
            refine wpAnyH_take (i := 12) (oi := ?on12) (v := ?vn12) ?hin12 ?an12 ?bn12 ?cn12 ?qn12 (Or.inl ⟨?dn12, ?hyn12⟩) hHeld ?restn12
            case hin12 => (simp only [List.getElem?_toArray, List.getElem?_cons_succ, List.getElem?_cons_zero]; exact rfl)
            case an12 => kernel_rfl
            case bn12 => kernel_rfl
            case cn12 => kernel_rfl
            case qn12 => exact fun _ _ _ h => h
            case dn12 => rfl
            case hyn12 => (intro z hSw; (try dsimp only at hSw); go_simp; (try with_reducible rfl))
            try simp only [Act.put, List.setIfInBounds_toArray, List.set_cons_zero, List.set_cons_succ]
            refine wpAnyH_take (i := 13) (oi := ?on13) (v := ?vn13) ?hin13 ?an13 ?bn13 ?cn13 ?qn13 (Or.inl ⟨?dn13, ?hyn13⟩) hHeld ?restn13
            case hin13 => (simp only [List.getElem?_toArray, List.getElem?_cons_succ, List.getElem?_cons_zero]; exact rfl)
            case an13 => kernel_rfl
            case bn13 => kernel_rfl
            case cn13 => kernel_rfl
            case qn13 => exact fun _ _ _ h => h
            case dn13 => rfl
            case hyn13 => (intro z hSw; (try dsimp only at hSw); go_simp; (try with_reducible rfl))
            try simp only [Act.put, List.setIfInBounds_toArray, List.set_cons_zero, List.set_cons_succ]
            refine wpAnyH_take (i := 14) (oi := ?on14) (v := ?vn14) ?hin14 ?an14 ?bn14 ?cn14 ?qn14 (Or.inl ⟨?dn14, ?hyn14⟩) hHeld ?restn14
            case hin14 => (simp only [List.getElem?_toArray, List.getElem?_cons_succ, List.getElem?_cons_zero]; exact rfl)
            case an14 => kernel_rfl
            case bn14 => kernel_rfl
            case cn14 => kernel_rfl
            case qn14 => exact fun _ _ _ h => h
            case dn14 => rfl
            case hyn14 => (intro z hSw; (try dsimp only at hSw); go_simp; (try with_reducible rfl))
            try simp only [Act.put, List.setIfInBounds_toArray, List.set_cons_zero, List.set_cons_succ]
            refine wpAnyH_ready (rs := [11]) (by kernel_rfl) (by simp) ?_
            refine AllReadyH.cons (o := ?on15) ?hin15 ?restn15 AllReadyH.nil
            case hin15 => (simp only [List.getElem?_toArray, List.getElem?_cons_succ, List.getElem?_cons_zero]; exact rfl)
            intro K hK
            go_simp
            go_at_call 81
            refine (KN.out _).mono ?_
            rintro e w4 ⟨rfl, rfl⟩
            refine hK.out _ _ ?_ (fun hHeld => ?_)
            · (try dsimp only); first | with_reducible assumption | exact Grew.alloc ‹_› _
            clear hK K
            try simp only [Act.put, List.setIfInBounds_toArray, List.set_cons_zero, List.set_cons_succ]
            refine wpAnyH_take (i := 15) (oi := ?on16) (v := ?vn16) ?hin16 ?an16 ?bn16 ?cn16 ?qn16 (Or.inl ⟨?dn16, ?hyn16⟩) hHeld ?restn16
            case hin16 => (simp only [List.getElem?_toArray, List.getElem?_cons_succ, List.getElem?_cons_zero]; exact rfl)
            case an16 => kernel_rfl
            case bn16 => kernel_rfl
            case cn16 => kernel_rfl
            case qn16 => exact fun _ _ _ h => h
            case dn16 => rfl
            case hyn16 => (intro z hSw; (try dsimp only at hSw); go_simp; (try with_reducible rfl))
            try simp only [Act.put, List.setIfInBounds_toArray, List.set_cons_zero, List.set_cons_succ]
            refine wpAnyH_take (i := 16) (oi := ?on17) (v := ?vn17) ?hin17 ?an17 ?bn17 ?cn17 ?qn17 (Or.inl ⟨?dn17, ?hyn17⟩) hHeld ?restn17
            case hin17 => (simp only [List.getElem?_toArray, List.getElem?_cons_succ, List.getElem?_cons_zero]; exact rfl)
            case an17 => kernel_rfl
            case bn17 => kernel_rfl
            case cn17 => kernel_rfl
            case qn17 => exact fun _ _ _ h => h
            case dn17 => rfl
            case hyn17 => (intro z hSw; (try dsimp only at hSw); go_simp; (try with_reducible rfl))
            try simp only [Act.put, List.setIfInBounds_toArray, List.set_cons_zero, List.set_cons_succ]
            refine wpAnyH_take (i := 17) (oi := ?on18) (v := ?vn18) ?hin18 ?an18 ?bn18 ?cn18 ?qn18 (Or.inl ⟨?dn18, ?hyn18⟩) hHeld ?restn18
            case hin18 => (simp only [List.getElem?_toArray, List.getElem?_cons_succ, List.getElem?_cons_zero]; exact rfl)
            case an18 => kernel_rfl
            case bn18 => kernel_rfl
            case cn18 => kernel_rfl
            case qn18 => exact fun _ _ _ h => h
            case dn18 => rfl
            case hyn18 => (intro z hSw; (try dsimp only at hSw); go_simp; (try with_reducible rfl))
            try simp only [Act.put, List.setIfInBounds_toArray, List.set_cons_zero, List.set_cons_succ]
            refine wpAnyH_take (i := 18) (oi := ?on19) (v := ?vn19) ?hin19 ?an19 ?bn19 ?cn19 ?qn19 (Or.inl ⟨?dn19, ?hyn19⟩) hHeld ?restn19
            case hin19 => (simp only [List.getElem?_toArray, List.getElem?_cons_succ, List.getElem?_cons_zero]; exact rfl)
            case an19 => kernel_rfl
            case bn19 => kernel_rfl
            case cn19 => kernel_rfl
            case qn19 => exact fun _ _ _ h => h
            case dn19 => rfl
            case hyn19 => (intro z hSw; (try dsimp only at hSw); go_simp; (try with_reducible rfl))
            try simp only [Act.put, List.setIfInBounds_toArray, List.set_cons_zero, List.set_cons_succ]
            refine wpAnyH_take (i := 19) (oi := ?on20) (v := ?vn20) ?hin20 ?an20 ?bn20 ?cn20 ?qn20 (Or.inl ⟨?dn20, ?hyn20⟩) hHeld ?restn20
            case hin20 => (simp only [List.getElem?_toArray, List.getElem?_cons_succ, List.getElem?_cons_zero]; exact rfl)
            case an20 => kernel_rfl
            case bn20 => kernel_rfl
            case cn20 => kernel_rfl
            case qn20 => exact fun _ _ _ h => h
            case dn20 => rfl
            case hyn20 => (intro z hSw; (try dsimp only at hSw); go_simp; (try with_reducible rfl))
            try simp only [Act.put, List.setIfInBounds_toArray, List.set_cons_zero, List.set_cons_succ]
            refine wpAnyH_take (i := 20) (oi := ?on21) (v := ?vn21) ?hin21 ?an21 ?bn21 ?cn21 ?qn21 (Or.inl ⟨?dn21, ?hyn21⟩) hHeld ?restn21
            case hin21 => (simp only [List.getElem?_toArray, List.getElem?_cons_succ, List.getElem?_cons_zero]; exact rfl)
            case an21 => kernel_rfl
            case bn21 => kernel_rfl
            case cn21 => kernel_rfl
            case qn21 => exact fun _ _ _ h => h
            case dn21 => rfl
            case hyn21 => (intro z hSw; (try dsimp only at hSw); go_simp; (try with_reducible rfl))
            try simp only [Act.put, List.setIfInBounds_toArray, List.set_cons_zero, List.set_cons_succ]
            refine wpAnyH_take (i := 21) (oi := ?on22) (v := ?vn22) ?hin22 ?an22 ?bn22 ?cn22 ?qn22 (Or.inl ⟨?dn22, ?hyn22⟩) hHeld ?restn22
            case hin22 => (simp only [List.getElem?_toArray, List.getElem?_cons_succ, List.getElem?_cons_zero]; exact rfl)
            case an22 => kernel_rfl
            case bn22 => kernel_rfl
            case cn22 => kernel_rfl
            case qn22 => exact fun _ _ _ h => h
            case dn22 => rfl
            case hyn22 => (intro z hSw; (try dsimp only at hSw); go_simp; (try with_reducible rfl))
            try simp only [Act.put, List.setIfInBounds_toArray, List.set_cons_zero, List.set_cons_succ]
            refine wpAnyH_take (i := 22) (oi := ?on23) ?hin23 ?an23 ?bn23 ?cn23 ?qn23 (Or.inr ⟨?dn23, rfl⟩) hHeld ?restn23
            case hin23 => (simp only [List.getElem?_toArray, List.getElem?_cons_succ, List.getElem?_cons_zero]; exact rfl)
            case an23 => kernel_rfl
            case bn23 => kernel_rfl
            case cn23 => kernel_rfl
            case qn23 => exact fun _ _ _ h => h
            case dn23 => rfl
            try simp only [Act.put, List.setIfInBounds_toArray, List.set_cons_zero, List.set_cons_succ]
            refine wpAnyH_take (i := 23) (oi := ?on24) ?hin24 ?an24 ?bn24 ?cn24 ?qn24 (Or.inr ⟨?dn24, rfl⟩) hHeld ?restn24
            case hin24 => (simp only [List.getElem?_toArray, List.getElem?_cons_succ, List.getElem?_cons_zero]; exact rfl)
            case an24 => kernel_rfl
            case bn24 => kernel_rfl
            case cn24 => kernel_rfl
            case qn24 => exact fun _ _ _ h => h
            case dn24 => rfl
            try simp only [Act.put, List.setIfInBounds_toArray, List.set_cons_zero, List.set_cons_succ]
            refine wpAnyH_take (i := 24) (oi := ?on25) ?hin25 ?an25 ?bn25 ?cn25 ?qn25 (Or.inr ⟨?dn25, rfl⟩) hHeld ?restn25
            case hin25 => (simp only [List.getElem?_toArray, List.getElem?_cons_succ, List.getElem?_cons_zero]; exact rfl)
            case an25 => kernel_rfl
            case bn25 => kernel_rfl
            case cn25 => kernel_rfl
            case qn25 => exact fun _ _ _ h => h
            case dn25 => rfl
            try simp only [Act.put, List.setIfInBounds_toArray, List.set_cons_zero, List.set_cons_succ]
            refine wpAnyH_take (i := 25) (oi := ?on26) (v := ?vn26) ?hin26 ?an26 ?bn26 ?cn26 ?qn26 (Or.inl ⟨?dn26, ?hyn26⟩) hHeld ?restn26
            case hin26 => (simp only [List.getElem?_toArray, List.getElem?_cons_succ, List.getElem?_cons_zero]; exact rfl)
            case an26 => kernel_rfl
            case bn26 => kernel_rfl
            case cn26 => kernel_rfl
            case qn26 => exact fun _ _ _ h => h
            case dn26 => rfl
            case hyn26 => (intro z hSw; (try dsimp only at hSw); go_simp; (try with_reducible rfl))
            try simp only [Act.put, List.setIfInBounds_toArray, List.set_cons_zero, List.set_cons_succ]
            refine wpAnyH_take (i := 26) (oi := ?on27) (v := ?vn27) ?hin27 ?an27 ?bn27 ?cn27 ?qn27 (Or.inl ⟨?dn27, ?hyn27⟩) hHeld ?restn27
            case hin27 => (simp only [List.getElem?_toArray, List.getElem?_cons_succ, List.getElem?_cons_zero]; exact rfl)
            case an27 => kernel_rfl
            case bn27 => kernel_rfl
            case cn27 => kernel_rfl
            case qn27 => exact fun _ _ _ h => h
            case dn27 => rfl
            case hyn27 => (intro z hSw; (try dsimp only at hSw); go_simp; (try with_reducible rfl))
            try simp only [Act.put, List.setIfInBounds_toArray, List.set_cons_zero, List.set_cons_succ]
            refine wpAnyH_done (by kernel_rfl) ?_ _

            go_wp2_with fail
            go_loopw [6, 9] (fun v6 i wr => ∃ j : Nat, j ≤ x.2.1.length ∧ i = .int .i64 j ∧ OwnP w wr w.heap.size v6 (pre bef x.2.1 j) ∧ Grew w wr ∧ Hid (BoxD wr (w.heap.size + 1) x (.slice A x.2.1.length cP) (.slice UA x.2.2.1.length ca)) ∧ w.heap.size + 1 < wr.heap.size ∧ v6.ownBlock ≠ some (w.heap.size + 1) ∧ Hid (Prem bef x.2.1 j)) (fun _ i _ => x.2.1.length - (intOf i).toNat)
            case atStart => exact ⟨0, Nat.zero_le _, rfl, OwnP.nil_ w (Nat.le_refl _) ((mk3.block (by omega)).trans HBK.out), gk3, Lib.hid (HBX1.out.grew hsz mk3), by have := mk3.size; omega, by simp [Value.ownBlock], Lib.hid (fun i hi => absurd hi (by omega))⟩
            case round =>
              obtain ⟨j, hj, rfl, hO, hB, HX, hsw, hnb, HP⟩ := hrel
              have hJl := pre_len bef x.2.1 j
              obtain ⟨b0, b1, b2, b3, b4⟩ := HX.out
              by_cases hlt2 : j < x.2.1.length
              · rcases HUP.out.open_ with ⟨_, h0⟩ | ⟨pb, po, pc, hv1, _, hm1, hb1, hc1⟩
                · rw [h0] at hlt2; simp at hlt2
                obtain ⟨rfl, rfl⟩ : A = some ⟨pb, po, none⟩ ∧ cP = pc := by simpa using hv1
                have KR := fun W => l01In_c (it x.2.1 j) 0 ((k : Int) - 1) W
                have q1 := hc1 j hlt2 _ hB
                by_cases hr : 0 ≤ it x.2.1 j ∧ it x.2.1 j ≤ (k : Int) - 1
                · rw [decide_eq_true hr] at KR
                  replace KR := Lib.hid KR
                  obtain ⟨m, hmi⟩ : ∃ m : Nat, it x.2.1 j = m := ⟨(it x.2.1 j).toNat, by omega⟩
                  have hmk : m < k := by omega
                  have hmx : m < xs.length := by omega
                  have hy : xs[m]? = some xs[m] := List.getElem?_eq_getElem hmx
                  generalize xs[m] = y at hy
                  obtain ⟨yp, ya, hcy, hyp, hys⟩ := HC.out m y hy
                  have HST := Lib.hid (pre_succ hlt2 hmi (HTK.out m y hmk hy))
                  have HCY := Lib.hid hcy
                  have HPN : Hid (Prem bef x.2.1 (j + 1)) := Lib.hid (fun i hi => by
                    rcases Nat.lt_or_ge i j with hk | hk
                    · exact HP.out i hk
                    · obtain rfl : i = j := by omega
                      rw [HBL.out]
                      exact hr)
                  rw [hmi] at q1 KR
                  have q1' := fun W (hW : Grew w W) => (hc1 j hlt2 W hW).trans (by rw [hmi])
                  have HYP := Lib.hid hyp
                  have HYS := Lib.hid hys
                  obtain ⟨YA, yc, rfl⟩ := ints_slice hyp
                  obtain ⟨YS, sc, rfl⟩ := strs_slice hys
                  clear hcy hr hmi hy hyp hys hv1 hc1
                  generalize pre bef x.2.1 j = X at *
                  go_wp2_with fail
                  refine (KR.out _).mono ?_
                  rintro e w4 ⟨rfl, hg4⟩
                  have hB4 := hB.trans hg4
                  obtain ⟨c0, c1, c2, c3, c4⟩ := HX.out.grew hsw hg4
                  have q2 := q1' _ hB4
                  obtain ⟨r0, r1, r2, r3, r4⟩ := HCY.out.grew hbb hB4
                  have hO1 := hO.grew (hg4.trans ((Grew.refl w4).alloc (.cells #[.int .i64 y.1, .slice YA y.2.1.length yc, .slice YS y.2.2.1.length sc, .string y.2.2.2.1, .int .i64 y.2.2.2.2] 52)))
                  have hB1 := hB4.alloc (.cells #[.int .i64 y.1, .slice YA y.2.1.length yc, .slice YS y.2.2.1.length sc, .string y.2.2.2.1, .int .i64 y.2.2.2.2] 52)
                  have HX1 := Lib.hid (HX.out.grew hsw (hg4.trans ((Grew.refl w4).alloc (.cells #[.int .i64 y.1, .slice YA y.2.1.length yc, .slice YS y.2.2.1.length sc, .string y.2.2.2.1, .int .i64 y.2.2.2.2] 52))))
                  have hs4 : w.heap.size + 1 < (w4.alloc (.cells #[.int .i64 y.1, .slice YA y.2.1.length yc, .slice YS y.2.2.1.length sc, .string y.2.2.2.1, .int .i64 y.2.2.2.2] 52)).heap.size := by have := hg4.size; simp; omega
                  go_wp2_with (first | (at_builtin; refine wpList_appD (w0 := w) _ _ rfl rfl _ X rfl hO1 hB1 _ _ _ y rfl (rd_litD _ _ _ _ _ _ _) HYP.out HYS.out (by omega) ?_; intro v2 w5 hown2 hg5 hgr5 hob5))
                  go_roundw
                  case rel =>
                    refine ⟨j + 1, by omega, by go_num, by rw [HST.out]; exact hown2, hg5, Lib.hid (HX1.out.far hs4 hgr5 (fun h => hnb h.symm)), by have := hgr5.size; omega, ?_, HPN⟩
                    rcases hob5 with h | h
                    · rw [h]; exact hnb
                    · rw [h]; simp only [ne_eq, Option.some.injEq]; omega
                  case measure => simp [intOf]; omega
                · rw [decide_eq_false hr] at KR
                  replace KR := Lib.hid KR
                  have HNO := Lib.hid (dcd_false (p := goodP bef x) (fun h => hr (by have := prem_all.2 h.2.1 j hlt2; rw [HBL.out] at this; exact this)))
                  clear hr hc1 hv1
                  generalize it x.2.1 j = q at *
                  go_wp2_with fail
                  refine (KR.out _).mono ?_
                  rintro e w4 ⟨rfl, hg4⟩
                  go_wp2_with fail
                  go_ret
                  exact ⟨congrArg (fun b => Ending.returned (Value.bool b)) HNO.out.symm, hB.trans hg4⟩
              · obtain rfl : j = x.2.1.length := by omega
                have KT := rule_all x x.2.1.length hn.out _ _ u6 (pre bef x.2.1 x.2.1.length) wr (HUP.out.grew hB) (HS.out.grew hB) (hO.dds hB) hg.out (pre_gp HGB.out HP.out) ha12 (pre_all _ _)
                rw [pre_map, givenN_all] at KT
                have hfin : goodP bef x ↔ (introP x (given bef x.2.1) ∨ elimP x (given bef x.2.1)) := ⟨fun h => h.2.2, fun h => ⟨⟨ha.out, hg.out, hnn.out⟩, prem_all.1 HP.out, h⟩⟩
                have HFIN := Lib.hid (dcd_congr hfin).symm
                clear hfin
                generalize dcd (introP x (given bef x.2.1) ∨ elimP x (given bef x.2.1)) = R at *
                replace KT := Lib.hid KT
                go_wp2_with fail
                refine (KT.out).mono ?_
                rintro e w4 ⟨rfl, hg4⟩
                go_wp2_with fail
                go_ret
                exact ⟨congrArg (fun b => Ending.returned (Value.bool b)) HFIN.out, hB.trans hg4⟩
          · replace KF := Lib.hid KF
            replace KL := Lib.hid KL
            go_enter Tryz.func69, Tryz.ntmps69
            go_wp2_with fail
            refine (KF.out _).mono ?_
            rintro e w1 ⟨uf, rfl, hof, hg1⟩
            clear hof
            have g1 := hal.trans hg1
            obtain ⟨hbx, hblk, hsz⟩ := HBX.out _ hg1
            have f0 := fun W (hW : Grew w1 W) => (hbx.grew hsz hW).1
            have f1 := fun W (hW : Grew w1 W) => (hbx.grew hsz hW).2.1
            have f2 := fun W (hW : Grew w1 W) => (hbx.grew hsz hW).2.2.1
            have f4 := fun W (hW : Grew w1 W) => (hbx.grew hsz hW).2.2.2.2
            have HBX1 := Lib.hid hbx
            have HBK := Lib.hid hblk
            have r1 := Grew.refl w1
            have d1 := r1.drew
            have gd := g1.trans d1
            clear hbx hblk k0 k1 k2 k3 k4
            go_wp2_with fail
            refine wp_region_held_drew (S := fun w' => Grew w1 w') (by kernel_rfl) d1 (fun hHeld => ?_)
            refine wpAnyH_take (i := 0) (oi := ?on28) (v := ?vn28) ?hin28 ?an28 ?bn28 ?cn28 ?qn28 (Or.inl ⟨?dn28, ?hyn28⟩) hHeld ?restn28
            case hin28 => (simp only [List.getElem?_toArray, List.getElem?_cons_succ, List.getElem?_cons_zero]; exact rfl)
            case an28 => kernel_rfl
            case bn28 => kernel_rfl
            case cn28 => kernel_rfl
            case qn28 => exact fun _ _ _ h => h
            case dn28 => rfl
            case hyn28 => (intro z hSw; (try dsimp only at hSw); go_simp; (try with_reducible rfl))
            try simp only [Act.put, List.setIfInBounds_toArray, List.set_cons_zero, List.set_cons_succ]
            refine wpAnyH_take (i := 1) (oi := ?on29) (v := ?vn29) ?hin29 ?an29 ?bn29 ?cn29 ?qn29 (Or.inl ⟨?dn29, ?hyn29⟩) hHeld ?restn29
            case hin29 => (simp only [List.getElem?_toArray, List.getElem?_cons_succ, List.getElem?_cons_zero]; exact rfl)
            case an29 => kernel_rfl
            case bn29 => kernel_rfl
            case cn29 => kernel_rfl
            case qn29 => exact fun _ _ _ h => h
            case dn29 => rfl
            case hyn29 => (intro z hSw; (try dsimp only at hSw); go_simp; (try with_reducible rfl))
            try simp only [Act.put, List.setIfInBounds_toArray, List.set_cons_zero, List.set_cons_succ]
            refine wpAnyH_take (i := 2) (oi := ?on30) (v := ?vn30) ?hin30 ?an30 ?bn30 ?cn30 ?qn30 (Or.inl ⟨?dn30, ?hyn30⟩) hHeld ?restn30
            case hin30 => (simp only [List.getElem?_toArray, List.getElem?_cons_succ, List.getElem?_cons_zero]; exact rfl)
            case an30 => kernel_rfl
            case bn30 => kernel_rfl
            case cn30 => kernel_rfl
            case qn30 => exact fun _ _ _ h => h
            case dn30 => rfl
            case hyn30 => (intro z hSw; (try dsimp only at hSw); go_simp; (try with_reducible rfl))
            try simp only [Act.put, List.setIfInBounds_toArray, List.set_cons_zero, List.set_cons_succ]
            refine wpAnyH_take (i := 3) (oi := ?on31) (v := ?vn31) ?hin31 ?an31 ?bn31 ?cn31 ?qn31 (Or.inl ⟨?dn31, ?hyn31⟩) hHeld ?restn31
            case hin31 => (simp only [List.getElem?_toArray, List.getElem?_cons_succ, List.getElem?_cons_zero]; exact rfl)
            case an31 => kernel_rfl
            case bn31 => kernel_rfl
            case cn31 => kernel_rfl
            case qn31 => exact fun _ _ _ h => h
            case dn31 => rfl
            case hyn31 => (intro z hSw; (try dsimp only at hSw); go_simp; (try with_reducible rfl))
            try simp only [Act.put, List.setIfInBounds_toArray, List.set_cons_zero, List.set_cons_succ]
            refine wpAnyH_take (i := 4) (oi := ?on32) (v := ?vn32) ?hin32 ?an32 ?bn32 ?cn32 ?qn32 (Or.inl ⟨?dn32, ?hyn32⟩) hHeld ?restn32
            case hin32 => (simp only [List.getElem?_toArray, List.getElem?_cons_succ, List.getElem?_cons_zero]; exact rfl)
            case an32 => kernel_rfl
            case bn32 => kernel_rfl
            case cn32 => kernel_rfl
            case qn32 => exact fun _ _ _ h => h
            case dn32 => rfl
            case hyn32 => (intro z hSw; (try dsimp only at hSw); go_simp; (try with_reducible rfl))
            try simp only [Act.put, List.setIfInBounds_toArray, List.set_cons_zero, List.set_cons_succ]
            refine wpAnyH_ready (rs := [5]) (by kernel_rfl) (by simp) ?_
            refine AllReadyH.cons (o := ?on33) ?hin33 ?restn33 AllReadyH.nil
            case hin33 => (simp only [List.getElem?_toArray, List.getElem?_cons_succ, List.getElem?_cons_zero]; exact rfl)
            intro K hK
            go_simp
            go_at_call 80
            refine (KL.out _ gd).mono ?_
            rintro e w3 ⟨rfl, hg3⟩
            have gk3 := gd.trans hg3
            have mk3 := d1.trans hg3
            refine hK.out _ _ ?_ (fun hHeld => ?_)
            · (try dsimp only); first | with_reducible assumption | exact Grew.alloc ‹_› _
            clear hK K
            try simp only [Act.put, List.setIfInBounds_toArray, List.set_cons_zero, List.set_cons_succ]
            refine wpAnyH_take (i := 6) (oi := ?on34) (v := ?vn34) ?hin34 ?an34 ?bn34 ?cn34 ?qn34 (Or.inl ⟨?dn34, ?hyn34⟩) hHeld ?restn34
            case hin34 => (simp only [List.getElem?_toArray, List.getElem?_cons_succ, List.getElem?_cons_zero]; exact rfl)
            case an34 => kernel_rfl
            case bn34 => kernel_rfl
            case cn34 => kernel_rfl
            case qn34 => exact fun _ _ _ h => h
            case dn34 => rfl
            case hyn34 => (intro z hSw; (try dsimp only at hSw); go_simp; (try with_reducible rfl))
            try simp only [Act.put, List.setIfInBounds_toArray, List.set_cons_zero, List.set_cons_succ]
            refine wpAnyH_take (i := 7) (oi := ?on35) (v := ?vn35) ?hin35 ?an35 ?bn35 ?cn35 ?qn35 (Or.inl ⟨?dn35, ?hyn35⟩) hHeld ?restn35
            case hin35 => (simp only [List.getElem?_toArray, List.getElem?_cons_succ, List.getElem?_cons_zero]; exact rfl)
            case an35 => kernel_rfl
            case bn35 => kernel_rfl
            case cn35 => kernel_rfl
            case qn35 => exact fun _ _ _ h => h
            case dn35 => rfl
            case hyn35 => (intro z hSw; (try dsimp only at hSw); go_simp; (try with_reducible rfl))
            try simp only [Act.put, List.setIfInBounds_toArray, List.set_cons_zero, List.set_cons_succ]
            refine wpAnyH_take (i := 8) (oi := ?on36) (v := ?vn36) ?hin36 ?an36 ?bn36 ?cn36 ?qn36 (Or.inl ⟨?dn36, ?hyn36⟩) hHeld ?restn36
            case hin36 => (simp only [List.getElem?_toArray, List.getElem?_cons_succ, List.getElem?_cons_zero]; exact rfl)
            case an36 => kernel_rfl
            case bn36 => kernel_rfl
            case cn36 => kernel_rfl
            case qn36 => exact fun _ _ _ h => h
            case dn36 => rfl
            case hyn36 => (intro z hSw; (try dsimp only at hSw); go_simp; (try with_reducible rfl))
            try simp only [Act.put, List.setIfInBounds_toArray, List.set_cons_zero, List.set_cons_succ]
            refine wpAnyH_take (i := 9) (oi := ?on37) (v := ?vn37) ?hin37 ?an37 ?bn37 ?cn37 ?qn37 (Or.inl ⟨?dn37, ?hyn37⟩) hHeld ?restn37
            case hin37 => (simp only [List.getElem?_toArray, List.getElem?_cons_succ, List.getElem?_cons_zero]; exact rfl)
            case an37 => kernel_rfl
            case bn37 => kernel_rfl
            case cn37 => kernel_rfl
            case qn37 => exact fun _ _ _ h => h
            case dn37 => rfl
            case hyn37 => (intro z hSw; (try dsimp only at hSw); go_simp; (try with_reducible rfl))
            try simp only [Act.put, List.setIfInBounds_toArray, List.set_cons_zero, List.set_cons_succ]
            refine wpAnyH_take (i := 10) (oi := ?on38) (v := ?vn38) ?hin38 ?an38 ?bn38 ?cn38 ?qn38 (Or.inl ⟨?dn38, ?hyn38⟩) hHeld ?restn38
            case hin38 => (simp only [List.getElem?_toArray, List.getElem?_cons_succ, List.getElem?_cons_zero]; exact rfl)
            case an38 => kernel_rfl
            case bn38 => kernel_rfl
            case cn38 => kernel_rfl
            case qn38 => exact fun _ _ _ h => h
            case dn38 => rfl
            case hyn38 => (intro z hSw; (try dsimp only at hSw); go_simp; (try with_reducible rfl))
            try simp only [Act.put, List.setIfInBounds_toArray, List.set_cons_zero, List.set_cons_succ]
            refine wpAnyH_take (i := 12) (oi := ?on39) (v := ?vn39) ?hin39 ?an39 ?bn39 ?cn39 ?qn39 (Or.inl ⟨?dn39, ?hyn39⟩) hHeld ?restn39
            case hin39 => (simp only [List.getElem?_toArray, List.getElem?_cons_succ, List.getElem?_cons_zero]; exact rfl)
            case an39 => kernel_rfl
            case bn39 => kernel_rfl
            case cn39 => kernel_rfl
            case qn39 => exact fun _ _ _ h => h
            case dn39 => rfl
            case hyn39 => (intro z hSw; (try dsimp only at hSw); go_simp; (try with_reducible rfl))
            try simp only [Act.put, List.setIfInBounds_toArray, List.set_cons_zero, List.set_cons_succ]
            refine wpAnyH_take (i := 13) (oi := ?on40) (v := ?vn40) ?hin40 ?an40 ?bn40 ?cn40 ?qn40 (Or.inl ⟨?dn40, ?hyn40⟩) hHeld ?restn40
            case hin40 => (simp only [List.getElem?_toArray, List.getElem?_cons_succ, List.getElem?_cons_zero]; exact rfl)
            case an40 => kernel_rfl
            case bn40 => kernel_rfl
            case cn40 => kernel_rfl
            case qn40 => exact fun _ _ _ h => h
            case dn40 => rfl
            case hyn40 => (intro z hSw; (try dsimp only at hSw); go_simp; (try with_reducible rfl))
            try simp only [Act.put, List.setIfInBounds_toArray, List.set_cons_zero, List.set_cons_succ]
            refine wpAnyH_take (i := 14) (oi := ?on41) (v := ?vn41) ?hin41 ?an41 ?bn41 ?cn41 ?qn41 (Or.inl ⟨?dn41, ?hyn41⟩) hHeld ?restn41
            case hin41 => (simp only [List.getElem?_toArray, List.getElem?_cons_succ, List.getElem?_cons_zero]; exact rfl)
            case an41 => kernel_rfl
            case bn41 => kernel_rfl
            case cn41 => kernel_rfl
            case qn41 => exact fun _ _ _ h => h
            case dn41 => rfl
            case hyn41 => (intro z hSw; (try dsimp only at hSw); go_simp; (try with_reducible rfl))
            try simp only [Act.put, List.setIfInBounds_toArray, List.set_cons_zero, List.set_cons_succ]
            refine wpAnyH_ready (rs := [11]) (by kernel_rfl) (by simp) ?_
            refine AllReadyH.cons (o := ?on42) ?hin42 ?restn42 AllReadyH.nil
            case hin42 => (simp only [List.getElem?_toArray, List.getElem?_cons_succ, List.getElem?_cons_zero]; exact rfl)
            intro K hK
            go_simp
            go_at_call 81
            refine (KN.out _).mono ?_
            rintro e w4 ⟨rfl, rfl⟩
            refine hK.out _ _ ?_ (fun hHeld => ?_)
            · (try dsimp only); first | with_reducible assumption | exact Grew.alloc ‹_› _
            clear hK K
            try simp only [Act.put, List.setIfInBounds_toArray, List.set_cons_zero, List.set_cons_succ]
            refine wpAnyH_take (i := 15) (oi := ?on43) (v := ?vn43) ?hin43 ?an43 ?bn43 ?cn43 ?qn43 (Or.inl ⟨?dn43, ?hyn43⟩) hHeld ?restn43
            case hin43 => (simp only [List.getElem?_toArray, List.getElem?_cons_succ, List.getElem?_cons_zero]; exact rfl)
            case an43 => kernel_rfl
            case bn43 => kernel_rfl
            case cn43 => kernel_rfl
            case qn43 => exact fun _ _ _ h => h
            case dn43 => rfl
            case hyn43 => (intro z hSw; (try dsimp only at hSw); go_simp; (try with_reducible rfl))
            try simp only [Act.put, List.setIfInBounds_toArray, List.set_cons_zero, List.set_cons_succ]
            refine wpAnyH_take (i := 16) (oi := ?on44) (v := ?vn44) ?hin44 ?an44 ?bn44 ?cn44 ?qn44 (Or.inl ⟨?dn44, ?hyn44⟩) hHeld ?restn44
            case hin44 => (simp only [List.getElem?_toArray, List.getElem?_cons_succ, List.getElem?_cons_zero]; exact rfl)
            case an44 => kernel_rfl
            case bn44 => kernel_rfl
            case cn44 => kernel_rfl
            case qn44 => exact fun _ _ _ h => h
            case dn44 => rfl
            case hyn44 => (intro z hSw; (try dsimp only at hSw); go_simp; (try with_reducible rfl))
            try simp only [Act.put, List.setIfInBounds_toArray, List.set_cons_zero, List.set_cons_succ]
            refine wpAnyH_take (i := 17) (oi := ?on45) (v := ?vn45) ?hin45 ?an45 ?bn45 ?cn45 ?qn45 (Or.inl ⟨?dn45, ?hyn45⟩) hHeld ?restn45
            case hin45 => (simp only [List.getElem?_toArray, List.getElem?_cons_succ, List.getElem?_cons_zero]; exact rfl)
            case an45 => kernel_rfl
            case bn45 => kernel_rfl
            case cn45 => kernel_rfl
            case qn45 => exact fun _ _ _ h => h
            case dn45 => rfl
            case hyn45 => (intro z hSw; (try dsimp only at hSw); go_simp; (try with_reducible rfl))
            try simp only [Act.put, List.setIfInBounds_toArray, List.set_cons_zero, List.set_cons_succ]
            refine wpAnyH_take (i := 18) (oi := ?on46) (v := ?vn46) ?hin46 ?an46 ?bn46 ?cn46 ?qn46 (Or.inl ⟨?dn46, ?hyn46⟩) hHeld ?restn46
            case hin46 => (simp only [List.getElem?_toArray, List.getElem?_cons_succ, List.getElem?_cons_zero]; exact rfl)
            case an46 => kernel_rfl
            case bn46 => kernel_rfl
            case cn46 => kernel_rfl
            case qn46 => exact fun _ _ _ h => h
            case dn46 => rfl
            case hyn46 => (intro z hSw; (try dsimp only at hSw); go_simp; (try with_reducible rfl))
            try simp only [Act.put, List.setIfInBounds_toArray, List.set_cons_zero, List.set_cons_succ]
            refine wpAnyH_take (i := 19) (oi := ?on47) (v := ?vn47) ?hin47 ?an47 ?bn47 ?cn47 ?qn47 (Or.inl ⟨?dn47, ?hyn47⟩) hHeld ?restn47
            case hin47 => (simp only [List.getElem?_toArray, List.getElem?_cons_succ, List.getElem?_cons_zero]; exact rfl)
            case an47 => kernel_rfl
            case bn47 => kernel_rfl
            case cn47 => kernel_rfl
            case qn47 => exact fun _ _ _ h => h
            case dn47 => rfl
            case hyn47 => (intro z hSw; (try dsimp only at hSw); go_simp; (try with_reducible rfl))
            try simp only [Act.put, List.setIfInBounds_toArray, List.set_cons_zero, List.set_cons_succ]
            refine wpAnyH_take (i := 20) (oi := ?on48) (v := ?vn48) ?hin48 ?an48 ?bn48 ?cn48 ?qn48 (Or.inl ⟨?dn48, ?hyn48⟩) hHeld ?restn48
            case hin48 => (simp only [List.getElem?_toArray, List.getElem?_cons_succ, List.getElem?_cons_zero]; exact rfl)
            case an48 => kernel_rfl
            case bn48 => kernel_rfl
            case cn48 => kernel_rfl
            case qn48 => exact fun _ _ _ h => h
            case dn48 => rfl
            case hyn48 => (intro z hSw; (try dsimp only at hSw); go_simp; (try with_reducible rfl))
            try simp only [Act.put, List.setIfInBounds_toArray, List.set_cons_zero, List.set_cons_succ]
            refine wpAnyH_take (i := 21) (oi := ?on49) (v := ?vn49) ?hin49 ?an49 ?bn49 ?cn49 ?qn49 (Or.inl ⟨?dn49, ?hyn49⟩) hHeld ?restn49
            case hin49 => (simp only [List.getElem?_toArray, List.getElem?_cons_succ, List.getElem?_cons_zero]; exact rfl)
            case an49 => kernel_rfl
            case bn49 => kernel_rfl
            case cn49 => kernel_rfl
            case qn49 => exact fun _ _ _ h => h
            case dn49 => rfl
            case hyn49 => (intro z hSw; (try dsimp only at hSw); go_simp; (try with_reducible rfl))
            try simp only [Act.put, List.setIfInBounds_toArray, List.set_cons_zero, List.set_cons_succ]
            refine wpAnyH_take (i := 22) (oi := ?on50) (v := ?vn50) ?hin50 ?an50 ?bn50 ?cn50 ?qn50 (Or.inl ⟨?dn50, ?hyn50⟩) hHeld ?restn50
            case hin50 => (simp only [List.getElem?_toArray, List.getElem?_cons_succ, List.getElem?_cons_zero]; exact rfl)
            case an50 => kernel_rfl
            case bn50 => kernel_rfl
            case cn50 => kernel_rfl
            case qn50 => exact fun _ _ _ h => h
            case dn50 => rfl
            case hyn50 => (intro z hSw; (try dsimp only at hSw); go_simp; (try with_reducible rfl))
            try simp only [Act.put, List.setIfInBounds_toArray, List.set_cons_zero, List.set_cons_succ]
            refine wpAnyH_take (i := 23) (oi := ?on51) (v := ?vn51) ?hin51 ?an51 ?bn51 ?cn51 ?qn51 (Or.inl ⟨?dn51, ?hyn51⟩) hHeld ?restn51
            case hin51 => (simp only [List.getElem?_toArray, List.getElem?_cons_succ, List.getElem?_cons_zero]; exact rfl)
            case an51 => kernel_rfl
            case bn51 => kernel_rfl
            case cn51 => kernel_rfl
            case qn51 => exact fun _ _ _ h => h
            case dn51 => rfl
            case hyn51 => (intro z hSw; (try dsimp only at hSw); go_simp; (try with_reducible rfl))
            try simp only [Act.put, List.setIfInBounds_toArray, List.set_cons_zero, List.set_cons_succ]
            refine wpAnyH_take (i := 24) (oi := ?on52) (v := ?vn52) ?hin52 ?an52 ?bn52 ?cn52 ?qn52 (Or.inl ⟨?dn52, ?hyn52⟩) hHeld ?restn52
            case hin52 => (simp only [List.getElem?_toArray, List.getElem?_cons_succ, List.getElem?_cons_zero]; exact rfl)
            case an52 => kernel_rfl
            case bn52 => kernel_rfl
            case cn52 => kernel_rfl
            case qn52 => exact fun _ _ _ h => h
            case dn52 => rfl
            case hyn52 => (intro z hSw; (try dsimp only at hSw); go_simp; (try with_reducible rfl))
            try simp only [Act.put, List.setIfInBounds_toArray, List.set_cons_zero, List.set_cons_succ]
            refine wpAnyH_take (i := 25) (oi := ?on53) (v := ?vn53) ?hin53 ?an53 ?bn53 ?cn53 ?qn53 (Or.inl ⟨?dn53, ?hyn53⟩) hHeld ?restn53
            case hin53 => (simp only [List.getElem?_toArray, List.getElem?_cons_succ, List.getElem?_cons_zero]; exact rfl)
            case an53 => kernel_rfl
            case bn53 => kernel_rfl
            case cn53 => kernel_rfl
            case qn53 => exact fun _ _ _ h => h
            case dn53 => rfl
            case hyn53 => (intro z hSw; (try dsimp only at hSw); go_simp; (try with_reducible rfl))
            try simp only [Act.put, List.setIfInBounds_toArray, List.set_cons_zero, List.set_cons_succ]
            refine wpAnyH_take (i := 26) (oi := ?on54) (v := ?vn54) ?hin54 ?an54 ?bn54 ?cn54 ?qn54 (Or.inl ⟨?dn54, ?hyn54⟩) hHeld ?restn54
            case hin54 => (simp only [List.getElem?_toArray, List.getElem?_cons_succ, List.getElem?_cons_zero]; exact rfl)
            case an54 => kernel_rfl
            case bn54 => kernel_rfl
            case cn54 => kernel_rfl
            case qn54 => exact fun _ _ _ h => h
            case dn54 => rfl
            case hyn54 => (intro z hSw; (try dsimp only at hSw); go_simp; (try with_reducible rfl))
            try simp only [Act.put, List.setIfInBounds_toArray, List.set_cons_zero, List.set_cons_succ]
            refine wpAnyH_done (by kernel_rfl) ?_ _

            go_wp2_with fail
            go_loopw [6, 9] (fun v6 i wr => ∃ j : Nat, j ≤ x.2.1.length ∧ i = .int .i64 j ∧ OwnP w wr w.heap.size v6 (pre bef x.2.1 j) ∧ Grew w wr ∧ Hid (BoxD wr (w.heap.size + 1) x (.slice A x.2.1.length cP) (.slice UA x.2.2.1.length ca)) ∧ w.heap.size + 1 < wr.heap.size ∧ v6.ownBlock ≠ some (w.heap.size + 1) ∧ Hid (Prem bef x.2.1 j)) (fun _ i _ => x.2.1.length - (intOf i).toNat)
            case atStart => exact ⟨0, Nat.zero_le _, rfl, OwnP.nil_ w (Nat.le_refl _) ((mk3.block (by omega)).trans HBK.out), gk3, Lib.hid (HBX1.out.grew hsz mk3), by have := mk3.size; omega, by simp [Value.ownBlock], Lib.hid (fun i hi => absurd hi (by omega))⟩
            case round =>
              obtain ⟨j, hj, rfl, hO, hB, HX, hsw, hnb, HP⟩ := hrel
              have hJl := pre_len bef x.2.1 j
              obtain ⟨b0, b1, b2, b3, b4⟩ := HX.out
              by_cases hlt2 : j < x.2.1.length
              · rcases HUP.out.open_ with ⟨_, h0⟩ | ⟨pb, po, pc, hv1, _, hm1, hb1, hc1⟩
                · rw [h0] at hlt2; simp at hlt2
                obtain ⟨rfl, rfl⟩ : A = some ⟨pb, po, none⟩ ∧ cP = pc := by simpa using hv1
                have KR := fun W => l01In_c (it x.2.1 j) 0 ((k : Int) - 1) W
                have q1 := hc1 j hlt2 _ hB
                by_cases hr : 0 ≤ it x.2.1 j ∧ it x.2.1 j ≤ (k : Int) - 1
                · rw [decide_eq_true hr] at KR
                  replace KR := Lib.hid KR
                  obtain ⟨m, hmi⟩ : ∃ m : Nat, it x.2.1 j = m := ⟨(it x.2.1 j).toNat, by omega⟩
                  have hmk : m < k := by omega
                  have hmx : m < xs.length := by omega
                  have hy : xs[m]? = some xs[m] := List.getElem?_eq_getElem hmx
                  generalize xs[m] = y at hy
                  obtain ⟨yp, ya, hcy, hyp, hys⟩ := HC.out m y hy
                  have HST := Lib.hid (pre_succ hlt2 hmi (HTK.out m y hmk hy))
                  have HCY := Lib.hid hcy
                  have HPN : Hid (Prem bef x.2.1 (j + 1)) := Lib.hid (fun i hi => by
                    rcases Nat.lt_or_ge i j with hk | hk
                    · exact HP.out i hk
                    · obtain rfl : i = j := by omega
                      rw [HBL.out]
                      exact hr)
                  rw [hmi] at q1 KR
                  have q1' := fun W (hW : Grew w W) => (hc1 j hlt2 W hW).trans (by rw [hmi])
                  have HYP := Lib.hid hyp
                  have HYS := Lib.hid hys
                  obtain ⟨YA, yc, rfl⟩ := ints_slice hyp
                  obtain ⟨YS, sc, rfl⟩ := strs_slice hys
                  clear hcy hr hmi hy hyp hys hv1 hc1
                  generalize pre bef x.2.1 j = X at *
                  go_wp2_with fail
                  refine (KR.out _).mono ?_
                  rintro e w4 ⟨rfl, hg4⟩
                  have hB4 := hB.trans hg4
                  obtain ⟨c0, c1, c2, c3, c4⟩ := HX.out.grew hsw hg4
                  have q2 := q1' _ hB4
                  obtain ⟨r0, r1, r2, r3, r4⟩ := HCY.out.grew hbb hB4
                  have hO1 := hO.grew (hg4.trans ((Grew.refl w4).alloc (.cells #[.int .i64 y.1, .slice YA y.2.1.length yc, .slice YS y.2.2.1.length sc, .string y.2.2.2.1, .int .i64 y.2.2.2.2] 52)))
                  have hB1 := hB4.alloc (.cells #[.int .i64 y.1, .slice YA y.2.1.length yc, .slice YS y.2.2.1.length sc, .string y.2.2.2.1, .int .i64 y.2.2.2.2] 52)
                  have HX1 := Lib.hid (HX.out.grew hsw (hg4.trans ((Grew.refl w4).alloc (.cells #[.int .i64 y.1, .slice YA y.2.1.length yc, .slice YS y.2.2.1.length sc, .string y.2.2.2.1, .int .i64 y.2.2.2.2] 52))))
                  have hs4 : w.heap.size + 1 < (w4.alloc (.cells #[.int .i64 y.1, .slice YA y.2.1.length yc, .slice YS y.2.2.1.length sc, .string y.2.2.2.1, .int .i64 y.2.2.2.2] 52)).heap.size := by have := hg4.size; simp; omega
                  go_wp2_with (first | (at_builtin; refine wpList_appD (w0 := w) _ _ rfl rfl _ X rfl hO1 hB1 _ _ _ y rfl (rd_litD _ _ _ _ _ _ _) HYP.out HYS.out (by omega) ?_; intro v2 w5 hown2 hg5 hgr5 hob5))
                  go_roundw
                  case rel =>
                    refine ⟨j + 1, by omega, by go_num, by rw [HST.out]; exact hown2, hg5, Lib.hid (HX1.out.far hs4 hgr5 (fun h => hnb h.symm)), by have := hgr5.size; omega, ?_, HPN⟩
                    rcases hob5 with h | h
                    · rw [h]; exact hnb
                    · rw [h]; simp only [ne_eq, Option.some.injEq]; omega
                  case measure => simp [intOf]; omega
                · rw [decide_eq_false hr] at KR
                  replace KR := Lib.hid KR
                  have HNO := Lib.hid (dcd_false (p := goodP bef x) (fun h => hr (by have := prem_all.2 h.2.1 j hlt2; rw [HBL.out] at this; exact this)))
                  clear hr hc1 hv1
                  generalize it x.2.1 j = q at *
                  go_wp2_with fail
                  refine (KR.out _).mono ?_
                  rintro e w4 ⟨rfl, hg4⟩
                  go_wp2_with fail
                  go_ret
                  exact ⟨congrArg (fun b => Ending.returned (Value.bool b)) HNO.out.symm, hB.trans hg4⟩
              · obtain rfl : j = x.2.1.length := by omega
                have KT := rule_all x x.2.1.length hn.out _ _ u6 (pre bef x.2.1 x.2.1.length) wr (HUP.out.grew hB) (HS.out.grew hB) (hO.dds hB) hg.out (pre_gp HGB.out HP.out) ha12 (pre_all _ _)
                rw [pre_map, givenN_all] at KT
                have hfin : goodP bef x ↔ (introP x (given bef x.2.1) ∨ elimP x (given bef x.2.1)) := ⟨fun h => h.2.2, fun h => ⟨⟨ha.out, hg.out, hnn.out⟩, prem_all.1 HP.out, h⟩⟩
                have HFIN := Lib.hid (dcd_congr hfin).symm
                clear hfin
                generalize dcd (introP x (given bef x.2.1) ∨ elimP x (given bef x.2.1)) = R at *
                replace KT := Lib.hid KT
                go_wp2_with fail
                refine (KT.out).mono ?_
                rintro e w4 ⟨rfl, hg4⟩
                go_wp2_with fail
                go_ret
                exact ⟨congrArg (fun b => Ending.returned (Value.bool b)) HFIN.out, hB.trans hg4⟩
        · rw [dcd_false (fun h => hnn h.1.2.2)]
          rw [not_or] at hnn
          have e1 : (x.1 != 1) = true := by simpa using hnn.1
          have e2 : (x.2.2.2.2 != 0) = true := by simpa using hnn.2
          clear hnn hn hg ha
          replace KF := Lib.hid KF
          replace KL := Lib.hid KL
          go_enter Tryz.func69, Tryz.ntmps69
          go_wp2_with fail
          refine (KF.out _).mono ?_
          rintro e w1 ⟨uf, rfl, hof, hg1⟩
          clear hof
          have g1 := hal.trans hg1
          obtain ⟨hbx, hblk, hsz⟩ := HBX.out _ hg1
          have f0 := fun W (hW : Grew w1 W) => (hbx.grew hsz hW).1
          have f1 := fun W (hW : Grew w1 W) => (hbx.grew hsz hW).2.1
          have f2 := fun W (hW : Grew w1 W) => (hbx.grew hsz hW).2.2.1
          have f4 := fun W (hW : Grew w1 W) => (hbx.grew hsz hW).2.2.2.2
          have HBX1 := Lib.hid hbx
          have HBK := Lib.hid hblk
          have r1 := Grew.refl w1
          have d1 := r1.drew
          have gd := g1.trans d1
          clear hbx hblk k0 k1 k2 k3 k4
          go_wp2_with fail
          refine wp_region_held_drew (S := fun w' => Grew w1 w') (by kernel_rfl) d1 (fun hHeld => ?_)
          refine wpAnyH_take (i := 0) (oi := ?on55) (v := ?vn55) ?hin55 ?an55 ?bn55 ?cn55 ?qn55 (Or.inl ⟨?dn55, ?hyn55⟩) hHeld ?restn55
          case hin55 => (simp only [List.getElem?_toArray, List.getElem?_cons_succ, List.getElem?_cons_zero]; exact rfl)
          case an55 => kernel_rfl
          case bn55 => kernel_rfl
          case cn55 => kernel_rfl
          case qn55 => exact fun _ _ _ h => h
          case dn55 => rfl
          case hyn55 => (intro z hSw; (try dsimp only at hSw); go_simp; (try with_reducible rfl))
          try simp only [Act.put, List.setIfInBounds_toArray, List.set_cons_zero, List.set_cons_succ]
          refine wpAnyH_take (i := 1) (oi := ?on56) (v := ?vn56) ?hin56 ?an56 ?bn56 ?cn56 ?qn56 (Or.inl ⟨?dn56, ?hyn56⟩) hHeld ?restn56
          case hin56 => (simp only [List.getElem?_toArray, List.getElem?_cons_succ, List.getElem?_cons_zero]; exact rfl)
          case an56 => kernel_rfl
          case bn56 => kernel_rfl
          case cn56 => kernel_rfl
          case qn56 => exact fun _ _ _ h => h
          case dn56 => rfl
          case hyn56 => (intro z hSw; (try dsimp only at hSw); go_simp; (try with_reducible rfl))
          try simp only [Act.put, List.setIfInBounds_toArray, List.set_cons_zero, List.set_cons_succ]
          refine wpAnyH_take (i := 2) (oi := ?on57) (v := ?vn57) ?hin57 ?an57 ?bn57 ?cn57 ?qn57 (Or.inl ⟨?dn57, ?hyn57⟩) hHeld ?restn57
          case hin57 => (simp only [List.getElem?_toArray, List.getElem?_cons_succ, List.getElem?_cons_zero]; exact rfl)
          case an57 => kernel_rfl
          case bn57 => kernel_rfl
          case cn57 => kernel_rfl
          case qn57 => exact fun _ _ _ h => h
          case dn57 => rfl
          case hyn57 => (intro z hSw; (try dsimp only at hSw); go_simp; (try with_reducible rfl))
          try simp only [Act.put, List.setIfInBounds_toArray, List.set_cons_zero, List.set_cons_succ]
          refine wpAnyH_take (i := 3) (oi := ?on58) (v := ?vn58) ?hin58 ?an58 ?bn58 ?cn58 ?qn58 (Or.inl ⟨?dn58, ?hyn58⟩) hHeld ?restn58
          case hin58 => (simp only [List.getElem?_toArray, List.getElem?_cons_succ, List.getElem?_cons_zero]; exact rfl)
          case an58 => kernel_rfl
          case bn58 => kernel_rfl
          case cn58 => kernel_rfl
          case qn58 => exact fun _ _ _ h => h
          case dn58 => rfl
          case hyn58 => (intro z hSw; (try dsimp only at hSw); go_simp; (try with_reducible rfl))
          try simp only [Act.put, List.setIfInBounds_toArray, List.set_cons_zero, List.set_cons_succ]
          refine wpAnyH_take (i := 4) (oi := ?on59) (v := ?vn59) ?hin59 ?an59 ?bn59 ?cn59 ?qn59 (Or.inl ⟨?dn59, ?hyn59⟩) hHeld ?restn59
          case hin59 => (simp only [List.getElem?_toArray, List.getElem?_cons_succ, List.getElem?_cons_zero]; exact rfl)
          case an59 => kernel_rfl
          case bn59 => kernel_rfl
          case cn59 => kernel_rfl
          case qn59 => exact fun _ _ _ h => h
          case dn59 => rfl
          case hyn59 => (intro z hSw; (try dsimp only at hSw); go_simp; (try with_reducible rfl))
          try simp only [Act.put, List.setIfInBounds_toArray, List.set_cons_zero, List.set_cons_succ]
          refine wpAnyH_ready (rs := [5]) (by kernel_rfl) (by simp) ?_
          refine AllReadyH.cons (o := ?on60) ?hin60 ?restn60 AllReadyH.nil
          case hin60 => (simp only [List.getElem?_toArray, List.getElem?_cons_succ, List.getElem?_cons_zero]; exact rfl)
          intro K hK
          go_simp
          go_at_call 80
          refine (KL.out _ gd).mono ?_
          rintro e w3 ⟨rfl, hg3⟩
          have gk3 := gd.trans hg3
          have mk3 := d1.trans hg3
          refine hK.out _ _ ?_ (fun hHeld => ?_)
          · (try dsimp only); first | with_reducible assumption | exact Grew.alloc ‹_› _
          clear hK K
          try simp only [Act.put, List.setIfInBounds_toArray, List.set_cons_zero, List.set_cons_succ]
          refine wpAnyH_take (i := 6) (oi := ?on61) (v := ?vn61) ?hin61 ?an61 ?bn61 ?cn61 ?qn61 (Or.inl ⟨?dn61, ?hyn61⟩) hHeld ?restn61
          case hin61 => (simp only [List.getElem?_toArray, List.getElem?_cons_succ, List.getElem?_cons_zero]; exact rfl)
          case an61 => kernel_rfl
          case bn61 => kernel_rfl
          case cn61 => kernel_rfl
          case qn61 => exact fun _ _ _ h => h
          case dn61 => rfl
          case hyn61 => (intro z hSw; (try dsimp only at hSw); go_simp; (try with_reducible rfl))
          try simp only [Act.put, List.setIfInBounds_toArray, List.set_cons_zero, List.set_cons_succ]
          refine wpAnyH_take (i := 7) (oi := ?on62) (v := ?vn62) ?hin62 ?an62 ?bn62 ?cn62 ?qn62 (Or.inl ⟨?dn62, ?hyn62⟩) hHeld ?restn62
          case hin62 => (simp only [List.getElem?_toArray, List.getElem?_cons_succ, List.getElem?_cons_zero]; exact rfl)
          case an62 => kernel_rfl
          case bn62 => kernel_rfl
          case cn62 => kernel_rfl
          case qn62 => exact fun _ _ _ h => h
          case dn62 => rfl
          case hyn62 => (intro z hSw; (try dsimp only at hSw); go_simp; (try with_reducible rfl))
          try simp only [Act.put, List.setIfInBounds_toArray, List.set_cons_zero, List.set_cons_succ]
          refine wpAnyH_take (i := 8) (oi := ?on63) (v := ?vn63) ?hin63 ?an63 ?bn63 ?cn63 ?qn63 (Or.inl ⟨?dn63, ?hyn63⟩) hHeld ?restn63
          case hin63 => (simp only [List.getElem?_toArray, List.getElem?_cons_succ, List.getElem?_cons_zero]; exact rfl)
          case an63 => kernel_rfl
          case bn63 => kernel_rfl
          case cn63 => kernel_rfl
          case qn63 => exact fun _ _ _ h => h
          case dn63 => rfl
          case hyn63 => (intro z hSw; (try dsimp only at hSw); go_simp; (try with_reducible rfl))
          try simp only [Act.put, List.setIfInBounds_toArray, List.set_cons_zero, List.set_cons_succ]
          refine wpAnyH_take (i := 9) (oi := ?on64) (v := ?vn64) ?hin64 ?an64 ?bn64 ?cn64 ?qn64 (Or.inl ⟨?dn64, ?hyn64⟩) hHeld ?restn64
          case hin64 => (simp only [List.getElem?_toArray, List.getElem?_cons_succ, List.getElem?_cons_zero]; exact rfl)
          case an64 => kernel_rfl
          case bn64 => kernel_rfl
          case cn64 => kernel_rfl
          case qn64 => exact fun _ _ _ h => h
          case dn64 => rfl
          case hyn64 => (intro z hSw; (try dsimp only at hSw); go_simp; (try with_reducible rfl))
          try simp only [Act.put, List.setIfInBounds_toArray, List.set_cons_zero, List.set_cons_succ]
          refine wpAnyH_take (i := 10) (oi := ?on65) (v := ?vn65) ?hin65 ?an65 ?bn65 ?cn65 ?qn65 (Or.inl ⟨?dn65, ?hyn65⟩) hHeld ?restn65
          case hin65 => (simp only [List.getElem?_toArray, List.getElem?_cons_succ, List.getElem?_cons_zero]; exact rfl)
          case an65 => kernel_rfl
          case bn65 => kernel_rfl
          case cn65 => kernel_rfl
          case qn65 => exact fun _ _ _ h => h
          case dn65 => rfl
          case hyn65 => (intro z hSw; (try dsimp only at hSw); go_simp; (try with_reducible rfl))
          try simp only [Act.put, List.setIfInBounds_toArray, List.set_cons_zero, List.set_cons_succ]
          refine wpAnyH_take (i := 12) (oi := ?on66) (v := ?vn66) ?hin66 ?an66 ?bn66 ?cn66 ?qn66 (Or.inl ⟨?dn66, ?hyn66⟩) hHeld ?restn66
          case hin66 => (simp only [List.getElem?_toArray, List.getElem?_cons_succ, List.getElem?_cons_zero]; exact rfl)
          case an66 => kernel_rfl
          case bn66 => kernel_rfl
          case cn66 => kernel_rfl
          case qn66 => exact fun _ _ _ h => h
          case dn66 => rfl
          case hyn66 => (intro z hSw; (try dsimp only at hSw); go_simp; (try with_reducible rfl))
          try simp only [Act.put, List.setIfInBounds_toArray, List.set_cons_zero, List.set_cons_succ]
          refine wpAnyH_take (i := 13) (oi := ?on67) (v := ?vn67) ?hin67 ?an67 ?bn67 ?cn67 ?qn67 (Or.inl ⟨?dn67, ?hyn67⟩) hHeld ?restn67
          case hin67 => (simp only [List.getElem?_toArray, List.getElem?_cons_succ, List.getElem?_cons_zero]; exact rfl)
          case an67 => kernel_rfl
          case bn67 => kernel_rfl
          case cn67 => kernel_rfl
          case qn67 => exact fun _ _ _ h => h
          case dn67 => rfl
          case hyn67 => (intro z hSw; (try dsimp only at hSw); go_simp; (try with_reducible rfl))
          try simp only [Act.put, List.setIfInBounds_toArray, List.set_cons_zero, List.set_cons_succ]
          refine wpAnyH_take (i := 14) (oi := ?on68) (v := ?vn68) ?hin68 ?an68 ?bn68 ?cn68 ?qn68 (Or.inl ⟨?dn68, ?hyn68⟩) hHeld ?restn68
          case hin68 => (simp only [List.getElem?_toArray, List.getElem?_cons_succ, List.getElem?_cons_zero]; exact rfl)
          case an68 => kernel_rfl
          case bn68 => kernel_rfl
          case cn68 => kernel_rfl
          case qn68 => exact fun _ _ _ h => h
          case dn68 => rfl
          case hyn68 => (intro z hSw; (try dsimp only at hSw); go_simp; (try with_reducible rfl))
          try simp only [Act.put, List.setIfInBounds_toArray, List.set_cons_zero, List.set_cons_succ]
          refine wpAnyH_ready (rs := [11]) (by kernel_rfl) (by simp) ?_
          refine AllReadyH.cons (o := ?on69) ?hin69 ?restn69 AllReadyH.nil
          case hin69 => (simp only [List.getElem?_toArray, List.getElem?_cons_succ, List.getElem?_cons_zero]; exact rfl)
          intro K hK
          go_simp
          go_at_call 81
          refine (KN.out _).mono ?_
          rintro e w4 ⟨rfl, rfl⟩
          refine hK.out _ _ ?_ (fun hHeld => ?_)
          · (try dsimp only); first | with_reducible assumption | exact Grew.alloc ‹_› _
          clear hK K
          try simp only [Act.put, List.setIfInBounds_toArray, List.set_cons_zero, List.set_cons_succ]
          refine wpAnyH_take (i := 15) (oi := ?on70) (v := ?vn70) ?hin70 ?an70 ?bn70 ?cn70 ?qn70 (Or.inl ⟨?dn70, ?hyn70⟩) hHeld ?restn70
          case hin70 => (simp only [List.getElem?_toArray, List.getElem?_cons_succ, List.getElem?_cons_zero]; exact rfl)
          case an70 => kernel_rfl
          case bn70 => kernel_rfl
          case cn70 => kernel_rfl
          case qn70 => exact fun _ _ _ h => h
          case dn70 => rfl
          case hyn70 => (intro z hSw; (try dsimp only at hSw); go_simp; (try with_reducible rfl))
          try simp only [Act.put, List.setIfInBounds_toArray, List.set_cons_zero, List.set_cons_succ]
          refine wpAnyH_take (i := 16) (oi := ?on71) (v := ?vn71) ?hin71 ?an71 ?bn71 ?cn71 ?qn71 (Or.inl ⟨?dn71, ?hyn71⟩) hHeld ?restn71
          case hin71 => (simp only [List.getElem?_toArray, List.getElem?_cons_succ, List.getElem?_cons_zero]; exact rfl)
          case an71 => kernel_rfl
          case bn71 => kernel_rfl
          case cn71 => kernel_rfl
          case qn71 => exact fun _ _ _ h => h
          case dn71 => rfl
          case hyn71 => (intro z hSw; (try dsimp only at hSw); go_simp; (try with_reducible rfl))
          try simp only [Act.put, List.setIfInBounds_toArray, List.set_cons_zero, List.set_cons_succ]
          refine wpAnyH_take (i := 17) (oi := ?on72) (v := ?vn72) ?hin72 ?an72 ?bn72 ?cn72 ?qn72 (Or.inl ⟨?dn72, ?hyn72⟩) hHeld ?restn72
          case hin72 => (simp only [List.getElem?_toArray, List.getElem?_cons_succ, List.getElem?_cons_zero]; exact rfl)
          case an72 => kernel_rfl
          case bn72 => kernel_rfl
          case cn72 => kernel_rfl
          case qn72 => exact fun _ _ _ h => h
          case dn72 => rfl
          case hyn72 => (intro z hSw; (try dsimp only at hSw); go_simp; (try with_reducible rfl))
          try simp only [Act.put, List.setIfInBounds_toArray, List.set_cons_zero, List.set_cons_succ]
          refine wpAnyH_take (i := 18) (oi := ?on73) (v := ?vn73) ?hin73 ?an73 ?bn73 ?cn73 ?qn73 (Or.inl ⟨?dn73, ?hyn73⟩) hHeld ?restn73
          case hin73 => (simp only [List.getElem?_toArray, List.getElem?_cons_succ, List.getElem?_cons_zero]; exact rfl)
          case an73 => kernel_rfl
          case bn73 => kernel_rfl
          case cn73 => kernel_rfl
          case qn73 => exact fun _ _ _ h => h
          case dn73 => rfl
          case hyn73 => (intro z hSw; (try dsimp only at hSw); go_simp; (try with_reducible rfl))
          try simp only [Act.put, List.setIfInBounds_toArray, List.set_cons_zero, List.set_cons_succ]
          refine wpAnyH_take (i := 19) (oi := ?on74) (v := ?vn74) ?hin74 ?an74 ?bn74 ?cn74 ?qn74 (Or.inl ⟨?dn74, ?hyn74⟩) hHeld ?restn74
          case hin74 => (simp only [List.getElem?_toArray, List.getElem?_cons_succ, List.getElem?_cons_zero]; exact rfl)
          case an74 => kernel_rfl
          case bn74 => kernel_rfl
          case cn74 => kernel_rfl
          case qn74 => exact fun _ _ _ h => h
          case dn74 => rfl
          case hyn74 => (intro z hSw; (try dsimp only at hSw); go_simp; (try with_reducible rfl))
          try simp only [Act.put, List.setIfInBounds_toArray, List.set_cons_zero, List.set_cons_succ]
          refine wpAnyH_take (i := 20) (oi := ?on75) (v := ?vn75) ?hin75 ?an75 ?bn75 ?cn75 ?qn75 (Or.inl ⟨?dn75, ?hyn75⟩) hHeld ?restn75
          case hin75 => (simp only [List.getElem?_toArray, List.getElem?_cons_succ, List.getElem?_cons_zero]; exact rfl)
          case an75 => kernel_rfl
          case bn75 => kernel_rfl
          case cn75 => kernel_rfl
          case qn75 => exact fun _ _ _ h => h
          case dn75 => rfl
          case hyn75 => (intro z hSw; (try dsimp only at hSw); go_simp; (try with_reducible rfl))
          try simp only [Act.put, List.setIfInBounds_toArray, List.set_cons_zero, List.set_cons_succ]
          refine wpAnyH_take (i := 21) (oi := ?on76) (v := ?vn76) ?hin76 ?an76 ?bn76 ?cn76 ?qn76 (Or.inl ⟨?dn76, ?hyn76⟩) hHeld ?restn76
          case hin76 => (simp only [List.getElem?_toArray, List.getElem?_cons_succ, List.getElem?_cons_zero]; exact rfl)
          case an76 => kernel_rfl
          case bn76 => kernel_rfl
          case cn76 => kernel_rfl
          case qn76 => exact fun _ _ _ h => h
          case dn76 => rfl
          case hyn76 => (intro z hSw; (try dsimp only at hSw); go_simp; (try with_reducible rfl))
          try simp only [Act.put, List.setIfInBounds_toArray, List.set_cons_zero, List.set_cons_succ]
          refine wpAnyH_take (i := 22) (oi := ?on77) (v := ?vn77) ?hin77 ?an77 ?bn77 ?cn77 ?qn77 (Or.inl ⟨?dn77, ?hyn77⟩) hHeld ?restn77
          case hin77 => (simp only [List.getElem?_toArray, List.getElem?_cons_succ, List.getElem?_cons_zero]; exact rfl)
          case an77 => kernel_rfl
          case bn77 => kernel_rfl
          case cn77 => kernel_rfl
          case qn77 => exact fun _ _ _ h => h
          case dn77 => rfl
          case hyn77 => (intro z hSw; (try dsimp only at hSw); go_simp; (try with_reducible rfl))
          try simp only [Act.put, List.setIfInBounds_toArray, List.set_cons_zero, List.set_cons_succ]
          refine wpAnyH_take (i := 23) (oi := ?on78) (v := ?vn78) ?hin78 ?an78 ?bn78 ?cn78 ?qn78 (Or.inl ⟨?dn78, ?hyn78⟩) hHeld ?restn78
          case hin78 => (simp only [List.getElem?_toArray, List.getElem?_cons_succ, List.getElem?_cons_zero]; exact rfl)
          case an78 => kernel_rfl
          case bn78 => kernel_rfl
          case cn78 => kernel_rfl
          case qn78 => exact fun _ _ _ h => h
          case dn78 => rfl
          case hyn78 => (intro z hSw; (try dsimp only at hSw); go_simp; (try with_reducible rfl))
          try simp only [Act.put, List.setIfInBounds_toArray, List.set_cons_zero, List.set_cons_succ]
          refine wpAnyH_take (i := 24) (oi := ?on79) (v := ?vn79) ?hin79 ?an79 ?bn79 ?cn79 ?qn79 (Or.inl ⟨?dn79, ?hyn79⟩) hHeld ?restn79
          case hin79 => (simp only [List.getElem?_toArray, List.getElem?_cons_succ, List.getElem?_cons_zero]; exact rfl)
          case an79 => kernel_rfl
          case bn79 => kernel_rfl
          case cn79 => kernel_rfl
          case qn79 => exact fun _ _ _ h => h
          case dn79 => rfl
          case hyn79 => (intro z hSw; (try dsimp only at hSw); go_simp; (try with_reducible rfl))
          try simp only [Act.put, List.setIfInBounds_toArray, List.set_cons_zero, List.set_cons_succ]
          refine wpAnyH_take (i := 25) (oi := ?on80) (v := ?vn80) ?hin80 ?an80 ?bn80 ?cn80 ?qn80 (Or.inl ⟨?dn80, ?hyn80⟩) hHeld ?restn80
          case hin80 => (simp only [List.getElem?_toArray, List.getElem?_cons_succ, List.getElem?_cons_zero]; exact rfl)
          case an80 => kernel_rfl
          case bn80 => kernel_rfl
          case cn80 => kernel_rfl
          case qn80 => exact fun _ _ _ h => h
          case dn80 => rfl
          case hyn80 => (intro z hSw; (try dsimp only at hSw); go_simp; (try with_reducible rfl))
          try simp only [Act.put, List.setIfInBounds_toArray, List.set_cons_zero, List.set_cons_succ]
          refine wpAnyH_take (i := 26) (oi := ?on81) (v := ?vn81) ?hin81 ?an81 ?bn81 ?cn81 ?qn81 (Or.inl ⟨?dn81, ?hyn81⟩) hHeld ?restn81
          case hin81 => (simp only [List.getElem?_toArray, List.getElem?_cons_succ, List.getElem?_cons_zero]; exact rfl)
          case an81 => kernel_rfl
          case bn81 => kernel_rfl
          case cn81 => kernel_rfl
          case qn81 => exact fun _ _ _ h => h
          case dn81 => rfl
          case hyn81 => (intro z hSw; (try dsimp only at hSw); go_simp; (try with_reducible rfl))
          try simp only [Act.put, List.setIfInBounds_toArray, List.set_cons_zero, List.set_cons_succ]
          refine wpAnyH_done (by kernel_rfl) ?_ _

          go_wp2_with fail
          go_ret
          exact ⟨rfl, gk3⟩
      · rw [dcd_false (fun h => hn (by have := cnt_of h.2.2; rw [this]; unfold given; simp))]
        have en : (cnt x.1 != (x.2.1.length : Int)) = true := by simpa using hn
        clear hn hg ha
        replace KF := Lib.hid KF
        replace KL := Lib.hid KL
        go_enter Tryz.func69, Tryz.ntmps69
        go_wp2_with fail
        refine (KF.out _).mono ?_
        rintro e w1 ⟨uf, rfl, hof, hg1⟩
        clear hof
        have g1 := hal.trans hg1
        obtain ⟨hbx, hblk, hsz⟩ := HBX.out _ hg1
        have f0 := fun W (hW : Grew w1 W) => (hbx.grew hsz hW).1
        have f1 := fun W (hW : Grew w1 W) => (hbx.grew hsz hW).2.1
        have f2 := fun W (hW : Grew w1 W) => (hbx.grew hsz hW).2.2.1
        have f4 := fun W (hW : Grew w1 W) => (hbx.grew hsz hW).2.2.2.2
        have HBX1 := Lib.hid hbx
        have HBK := Lib.hid hblk
        have r1 := Grew.refl w1
        have d1 := r1.drew
        have gd := g1.trans d1
        clear hbx hblk k0 k1 k2 k3 k4
        go_wp2_with fail
        refine wp_region_held_drew (S := fun w' => Grew w1 w') (by kernel_rfl) d1 (fun hHeld => ?_)
        refine wpAnyH_take (i := 0) (oi := ?on82) (v := ?vn82) ?hin82 ?an82 ?bn82 ?cn82 ?qn82 (Or.inl ⟨?dn82, ?hyn82⟩) hHeld ?restn82
        case hin82 => (simp only [List.getElem?_toArray, List.getElem?_cons_succ, List.getElem?_cons_zero]; exact rfl)
        case an82 => kernel_rfl
        case bn82 => kernel_rfl
        case cn82 => kernel_rfl
        case qn82 => exact fun _ _ _ h => h
        case dn82 => rfl
        case hyn82 => (intro z hSw; (try dsimp only at hSw); go_simp; (try with_reducible rfl))
        try simp only [Act.put, List.setIfInBounds_toArray, List.set_cons_zero, List.set_cons_succ]
        refine wpAnyH_take (i := 1) (oi := ?on83) (v := ?vn83) ?hin83 ?an83 ?bn83 ?cn83 ?qn83 (Or.inl ⟨?dn83, ?hyn83⟩) hHeld ?restn83
        case hin83 => (simp only [List.getElem?_toArray, List.getElem?_cons_succ, List.getElem?_cons_zero]; exact rfl)
        case an83 => kernel_rfl
        case bn83 => kernel_rfl
        case cn83 => kernel_rfl
        case qn83 => exact fun _ _ _ h => h
        case dn83 => rfl
        case hyn83 => (intro z hSw; (try dsimp only at hSw); go_simp; (try with_reducible rfl))
        try simp only [Act.put, List.setIfInBounds_toArray, List.set_cons_zero, List.set_cons_succ]
        refine wpAnyH_take (i := 2) (oi := ?on84) (v := ?vn84) ?hin84 ?an84 ?bn84 ?cn84 ?qn84 (Or.inl ⟨?dn84, ?hyn84⟩) hHeld ?restn84
        case hin84 => (simp only [List.getElem?_toArray, List.getElem?_cons_succ, List.getElem?_cons_zero]; exact rfl)
        case an84 => kernel_rfl
        case bn84 => kernel_rfl
        case cn84 => kernel_rfl
        case qn84 => exact fun _ _ _ h => h
        case dn84 => rfl
        case hyn84 => (intro z hSw; (try dsimp only at hSw); go_simp; (try with_reducible rfl))
        try simp only [Act.put, List.setIfInBounds_toArray, List.set_cons_zero, List.set_cons_succ]
        refine wpAnyH_take (i := 3) (oi := ?on85) (v := ?vn85) ?hin85 ?an85 ?bn85 ?cn85 ?qn85 (Or.inl ⟨?dn85, ?hyn85⟩) hHeld ?restn85
        case hin85 => (simp only [List.getElem?_toArray, List.getElem?_cons_succ, List.getElem?_cons_zero]; exact rfl)
        case an85 => kernel_rfl
        case bn85 => kernel_rfl
        case cn85 => kernel_rfl
        case qn85 => exact fun _ _ _ h => h
        case dn85 => rfl
        case hyn85 => (intro z hSw; (try dsimp only at hSw); go_simp; (try with_reducible rfl))
        try simp only [Act.put, List.setIfInBounds_toArray, List.set_cons_zero, List.set_cons_succ]
        refine wpAnyH_take (i := 4) (oi := ?on86) (v := ?vn86) ?hin86 ?an86 ?bn86 ?cn86 ?qn86 (Or.inl ⟨?dn86, ?hyn86⟩) hHeld ?restn86
        case hin86 => (simp only [List.getElem?_toArray, List.getElem?_cons_succ, List.getElem?_cons_zero]; exact rfl)
        case an86 => kernel_rfl
        case bn86 => kernel_rfl
        case cn86 => kernel_rfl
        case qn86 => exact fun _ _ _ h => h
        case dn86 => rfl
        case hyn86 => (intro z hSw; (try dsimp only at hSw); go_simp; (try with_reducible rfl))
        try simp only [Act.put, List.setIfInBounds_toArray, List.set_cons_zero, List.set_cons_succ]
        refine wpAnyH_ready (rs := [5]) (by kernel_rfl) (by simp) ?_
        refine AllReadyH.cons (o := ?on87) ?hin87 ?restn87 AllReadyH.nil
        case hin87 => (simp only [List.getElem?_toArray, List.getElem?_cons_succ, List.getElem?_cons_zero]; exact rfl)
        intro K hK
        go_simp
        go_at_call 80
        refine (KL.out _ gd).mono ?_
        rintro e w3 ⟨rfl, hg3⟩
        have gk3 := gd.trans hg3
        have mk3 := d1.trans hg3
        refine hK.out _ _ ?_ (fun hHeld => ?_)
        · (try dsimp only); first | with_reducible assumption | exact Grew.alloc ‹_› _
        clear hK K
        try simp only [Act.put, List.setIfInBounds_toArray, List.set_cons_zero, List.set_cons_succ]
        refine wpAnyH_take (i := 6) (oi := ?on88) (v := ?vn88) ?hin88 ?an88 ?bn88 ?cn88 ?qn88 (Or.inl ⟨?dn88, ?hyn88⟩) hHeld ?restn88
        case hin88 => (simp only [List.getElem?_toArray, List.getElem?_cons_succ, List.getElem?_cons_zero]; exact rfl)
        case an88 => kernel_rfl
        case bn88 => kernel_rfl
        case cn88 => kernel_rfl
        case qn88 => exact fun _ _ _ h => h
        case dn88 => rfl
        case hyn88 => (intro z hSw; (try dsimp only at hSw); go_simp; (try with_reducible rfl))
        try simp only [Act.put, List.setIfInBounds_toArray, List.set_cons_zero, List.set_cons_succ]
        refine wpAnyH_take (i := 7) (oi := ?on89) (v := ?vn89) ?hin89 ?an89 ?bn89 ?cn89 ?qn89 (Or.inl ⟨?dn89, ?hyn89⟩) hHeld ?restn89
        case hin89 => (simp only [List.getElem?_toArray, List.getElem?_cons_succ, List.getElem?_cons_zero]; exact rfl)
        case an89 => kernel_rfl
        case bn89 => kernel_rfl
        case cn89 => kernel_rfl
        case qn89 => exact fun _ _ _ h => h
        case dn89 => rfl
        case hyn89 => (intro z hSw; (try dsimp only at hSw); go_simp; (try with_reducible rfl))
        try simp only [Act.put, List.setIfInBounds_toArray, List.set_cons_zero, List.set_cons_succ]
        refine wpAnyH_take (i := 8) (oi := ?on90) (v := ?vn90) ?hin90 ?an90 ?bn90 ?cn90 ?qn90 (Or.inl ⟨?dn90, ?hyn90⟩) hHeld ?restn90
        case hin90 => (simp only [List.getElem?_toArray, List.getElem?_cons_succ, List.getElem?_cons_zero]; exact rfl)
        case an90 => kernel_rfl
        case bn90 => kernel_rfl
        case cn90 => kernel_rfl
        case qn90 => exact fun _ _ _ h => h
        case dn90 => rfl
        case hyn90 => (intro z hSw; (try dsimp only at hSw); go_simp; (try with_reducible rfl))
        try simp only [Act.put, List.setIfInBounds_toArray, List.set_cons_zero, List.set_cons_succ]
        refine wpAnyH_take (i := 9) (oi := ?on91) (v := ?vn91) ?hin91 ?an91 ?bn91 ?cn91 ?qn91 (Or.inl ⟨?dn91, ?hyn91⟩) hHeld ?restn91
        case hin91 => (simp only [List.getElem?_toArray, List.getElem?_cons_succ, List.getElem?_cons_zero]; exact rfl)
        case an91 => kernel_rfl
        case bn91 => kernel_rfl
        case cn91 => kernel_rfl
        case qn91 => exact fun _ _ _ h => h
        case dn91 => rfl
        case hyn91 => (intro z hSw; (try dsimp only at hSw); go_simp; (try with_reducible rfl))
        try simp only [Act.put, List.setIfInBounds_toArray, List.set_cons_zero, List.set_cons_succ]
        refine wpAnyH_take (i := 10) (oi := ?on92) (v := ?vn92) ?hin92 ?an92 ?bn92 ?cn92 ?qn92 (Or.inl ⟨?dn92, ?hyn92⟩) hHeld ?restn92
        case hin92 => (simp only [List.getElem?_toArray, List.getElem?_cons_succ, List.getElem?_cons_zero]; exact rfl)
        case an92 => kernel_rfl
        case bn92 => kernel_rfl
        case cn92 => kernel_rfl
        case qn92 => exact fun _ _ _ h => h
        case dn92 => rfl
        case hyn92 => (intro z hSw; (try dsimp only at hSw); go_simp; (try with_reducible rfl))
        try simp only [Act.put, List.setIfInBounds_toArray, List.set_cons_zero, List.set_cons_succ]
        refine wpAnyH_take (i := 12) (oi := ?on93) (v := ?vn93) ?hin93 ?an93 ?bn93 ?cn93 ?qn93 (Or.inl ⟨?dn93, ?hyn93⟩) hHeld ?restn93
        case hin93 => (simp only [List.getElem?_toArray, List.getElem?_cons_succ, List.getElem?_cons_zero]; exact rfl)
        case an93 => kernel_rfl
        case bn93 => kernel_rfl
        case cn93 => kernel_rfl
        case qn93 => exact fun _ _ _ h => h
        case dn93 => rfl
        case hyn93 => (intro z hSw; (try dsimp only at hSw); go_simp; (try with_reducible rfl))
        try simp only [Act.put, List.setIfInBounds_toArray, List.set_cons_zero, List.set_cons_succ]
        refine wpAnyH_take (i := 13) (oi := ?on94) (v := ?vn94) ?hin94 ?an94 ?bn94 ?cn94 ?qn94 (Or.inl ⟨?dn94, ?hyn94⟩) hHeld ?restn94
        case hin94 => (simp only [List.getElem?_toArray, List.getElem?_cons_succ, List.getElem?_cons_zero]; exact rfl)
        case an94 => kernel_rfl
        case bn94 => kernel_rfl
        case cn94 => kernel_rfl
        case qn94 => exact fun _ _ _ h => h
        case dn94 => rfl
        case hyn94 => (intro z hSw; (try dsimp only at hSw); go_simp; (try with_reducible rfl))
        try simp only [Act.put, List.setIfInBounds_toArray, List.set_cons_zero, List.set_cons_succ]
        refine wpAnyH_take (i := 14) (oi := ?on95) (v := ?vn95) ?hin95 ?an95 ?bn95 ?cn95 ?qn95 (Or.inl ⟨?dn95, ?hyn95⟩) hHeld ?restn95
        case hin95 => (simp only [List.getElem?_toArray, List.getElem?_cons_succ, List.getElem?_cons_zero]; exact rfl)
        case an95 => kernel_rfl
        case bn95 => kernel_rfl
        case cn95 => kernel_rfl
        case qn95 => exact fun _ _ _ h => h
        case dn95 => rfl
        case hyn95 => (intro z hSw; (try dsimp only at hSw); go_simp; (try with_reducible rfl))
        try simp only [Act.put, List.setIfInBounds_toArray, List.set_cons_zero, List.set_cons_succ]
        refine wpAnyH_ready (rs := [11]) (by kernel_rfl) (by simp) ?_
        refine AllReadyH.cons (o := ?on96) ?hin96 ?restn96 AllReadyH.nil
        case hin96 => (simp only [List.getElem?_toArray, List.getElem?_cons_succ, List.getElem?_cons_zero]; exact rfl)
        intro K hK
        go_simp
        go_at_call 81
        refine (KN.out _).mono ?_
        rintro e w4 ⟨rfl, rfl⟩
        refine hK.out _ _ ?_ (fun hHeld => ?_)
        · (try dsimp only); first | with_reducible assumption | exact Grew.alloc ‹_› _
        clear hK K
        try simp only [Act.put, List.setIfInBounds_toArray, List.set_cons_zero, List.set_cons_succ]
        refine wpAnyH_take (i := 15) (oi := ?on97) (v := ?vn97) ?hin97 ?an97 ?bn97 ?cn97 ?qn97 (Or.inl ⟨?dn97, ?hyn97⟩) hHeld ?restn97
        case hin97 => (simp only [List.getElem?_toArray, List.getElem?_cons_succ, List.getElem?_cons_zero]; exact rfl)
        case an97 => kernel_rfl
        case bn97 => kernel_rfl
        case cn97 => kernel_rfl
        case qn97 => exact fun _ _ _ h => h
        case dn97 => rfl
        case hyn97 => (intro z hSw; (try dsimp only at hSw); go_simp; (try with_reducible rfl))
        try simp only [Act.put, List.setIfInBounds_toArray, List.set_cons_zero, List.set_cons_succ]
        refine wpAnyH_take (i := 16) (oi := ?on98) (v := ?vn98) ?hin98 ?an98 ?bn98 ?cn98 ?qn98 (Or.inl ⟨?dn98, ?hyn98⟩) hHeld ?restn98
        case hin98 => (simp only [List.getElem?_toArray, List.getElem?_cons_succ, List.getElem?_cons_zero]; exact rfl)
        case an98 => kernel_rfl
        case bn98 => kernel_rfl
        case cn98 => kernel_rfl
        case qn98 => exact fun _ _ _ h => h
        case dn98 => rfl
        case hyn98 => (intro z hSw; (try dsimp only at hSw); go_simp; (try with_reducible rfl))
        try simp only [Act.put, List.setIfInBounds_toArray, List.set_cons_zero, List.set_cons_succ]
        refine wpAnyH_take (i := 17) (oi := ?on99) (v := ?vn99) ?hin99 ?an99 ?bn99 ?cn99 ?qn99 (Or.inl ⟨?dn99, ?hyn99⟩) hHeld ?restn99
        case hin99 => (simp only [List.getElem?_toArray, List.getElem?_cons_succ, List.getElem?_cons_zero]; exact rfl)
        case an99 => kernel_rfl
        case bn99 => kernel_rfl
        case cn99 => kernel_rfl
        case qn99 => exact fun _ _ _ h => h
        case dn99 => rfl
        case hyn99 => (intro z hSw; (try dsimp only at hSw); go_simp; (try with_reducible rfl))
        try simp only [Act.put, List.setIfInBounds_toArray, List.set_cons_zero, List.set_cons_succ]
        refine wpAnyH_take (i := 18) (oi := ?on100) ?hin100 ?an100 ?bn100 ?cn100 ?qn100 (Or.inr ⟨?dn100, rfl⟩) hHeld ?restn100
        case hin100 => (simp only [List.getElem?_toArray, List.getElem?_cons_succ, List.getElem?_cons_zero]; exact rfl)
        case an100 => kernel_rfl
        case bn100 => kernel_rfl
        case cn100 => kernel_rfl
        case qn100 => exact fun _ _ _ h => h
        case dn100 => rfl
        try simp only [Act.put, List.setIfInBounds_toArray, List.set_cons_zero, List.set_cons_succ]
        refine wpAnyH_take (i := 19) (oi := ?on101) ?hin101 ?an101 ?bn101 ?cn101 ?qn101 (Or.inr ⟨?dn101, rfl⟩) hHeld ?restn101
        case hin101 => (simp only [List.getElem?_toArray, List.getElem?_cons_succ, List.getElem?_cons_zero]; exact rfl)
        case an101 => kernel_rfl
        case bn101 => kernel_rfl
        case cn101 => kernel_rfl
        case qn101 => exact fun _ _ _ h => h
        case dn101 => rfl
        try simp only [Act.put, List.setIfInBounds_toArray, List.set_cons_zero, List.set_cons_succ]
        refine wpAnyH_take (i := 20) (oi := ?on102) ?hin102 ?an102 ?bn102 ?cn102 ?qn102 (Or.inr ⟨?dn102, rfl⟩) hHeld ?restn102
        case hin102 => (simp only [List.getElem?_toArray, List.getElem?_cons_succ, List.getElem?_cons_zero]; exact rfl)
        case an102 => kernel_rfl
        case bn102 => kernel_rfl
        case cn102 => kernel_rfl
        case qn102 => exact fun _ _ _ h => h
        case dn102 => rfl
        try simp only [Act.put, List.setIfInBounds_toArray, List.set_cons_zero, List.set_cons_succ]
        refine wpAnyH_take (i := 21) (oi := ?on103) ?hin103 ?an103 ?bn103 ?cn103 ?qn103 (Or.inr ⟨?dn103, rfl⟩) hHeld ?restn103
        case hin103 => (simp only [List.getElem?_toArray, List.getElem?_cons_succ, List.getElem?_cons_zero]; exact rfl)
        case an103 => kernel_rfl
        case bn103 => kernel_rfl
        case cn103 => kernel_rfl
        case qn103 => exact fun _ _ _ h => h
        case dn103 => rfl
        try simp only [Act.put, List.setIfInBounds_toArray, List.set_cons_zero, List.set_cons_succ]
        refine wpAnyH_take (i := 22) (oi := ?on104) ?hin104 ?an104 ?bn104 ?cn104 ?qn104 (Or.inr ⟨?dn104, rfl⟩) hHeld ?restn104
        case hin104 => (simp only [List.getElem?_toArray, List.getElem?_cons_succ, List.getElem?_cons_zero]; exact rfl)
        case an104 => kernel_rfl
        case bn104 => kernel_rfl
        case cn104 => kernel_rfl
        case qn104 => exact fun _ _ _ h => h
        case dn104 => rfl
        try simp only [Act.put, List.setIfInBounds_toArray, List.set_cons_zero, List.set_cons_succ]
        refine wpAnyH_take (i := 23) (oi := ?on105) ?hin105 ?an105 ?bn105 ?cn105 ?qn105 (Or.inr ⟨?dn105, rfl⟩) hHeld ?restn105
        case hin105 => (simp only [List.getElem?_toArray, List.getElem?_cons_succ, List.getElem?_cons_zero]; exact rfl)
        case an105 => kernel_rfl
        case bn105 => kernel_rfl
        case cn105 => kernel_rfl
        case qn105 => exact fun _ _ _ h => h
        case dn105 => rfl
        try simp only [Act.put, List.setIfInBounds_toArray, List.set_cons_zero, List.set_cons_succ]
        refine wpAnyH_take (i := 24) (oi := ?on106) ?hin106 ?an106 ?bn106 ?cn106 ?qn106 (Or.inr ⟨?dn106, rfl⟩) hHeld ?restn106
        case hin106 => (simp only [List.getElem?_toArray, List.getElem?_cons_succ, List.getElem?_cons_zero]; exact rfl)
        case an106 => kernel_rfl
        case bn106 => kernel_rfl
        case cn106 => kernel_rfl
        case qn106 => exact fun _ _ _ h => h
        case dn106 => rfl
        try simp only [Act.put, List.setIfInBounds_toArray, List.set_cons_zero, List.set_cons_succ]
        refine wpAnyH_take (i := 25) (oi := ?on107) ?hin107 ?an107 ?bn107 ?cn107 ?qn107 (Or.inr ⟨?dn107, rfl⟩) hHeld ?restn107
        case hin107 => (simp only [List.getElem?_toArray, List.getElem?_cons_succ, List.getElem?_cons_zero]; exact rfl)
        case an107 => kernel_rfl
        case bn107 => kernel_rfl
        case cn107 => kernel_rfl
        case qn107 => exact fun _ _ _ h => h
        case dn107 => rfl
        try simp only [Act.put, List.setIfInBounds_toArray, List.set_cons_zero, List.set_cons_succ]
        refine wpAnyH_take (i := 26) (oi := ?on108) (v := ?vn108) ?hin108 ?an108 ?bn108 ?cn108 ?qn108 (Or.inl ⟨?dn108, ?hyn108⟩) hHeld ?restn108
        case hin108 => (simp only [List.getElem?_toArray, List.getElem?_cons_succ, List.getElem?_cons_zero]; exact rfl)
        case an108 => kernel_rfl
        case bn108 => kernel_rfl
        case cn108 => kernel_rfl
        case qn108 => exact fun _ _ _ h => h
        case dn108 => rfl
        case hyn108 => (intro z hSw; (try dsimp only at hSw); go_simp; (try with_reducible rfl))
        try simp only [Act.put, List.setIfInBounds_toArray, List.set_cons_zero, List.set_cons_succ]
        refine wpAnyH_done (by kernel_rfl) ?_ _

        go_wp2_with fail
        go_ret
        exact ⟨rfl, gk3⟩
    · rw [dcd_false (fun h => ha h.1.1)]
      have ha2 : asl x.2.2.1 = false := by simpa using ha
      rw [ha2] at KL
      clear hg ha ha2
      replace KF := Lib.hid KF
      replace KL := Lib.hid KL
      go_enter Tryz.func69, Tryz.ntmps69
      go_wp2_with fail
      refine (KF.out _).mono ?_
      rintro e w1 ⟨uf, rfl, hof, hg1⟩
      clear hof
      have g1 := hal.trans hg1
      obtain ⟨hbx, hblk, hsz⟩ := HBX.out _ hg1
      have f0 := fun W (hW : Grew w1 W) => (hbx.grew hsz hW).1
      have f1 := fun W (hW : Grew w1 W) => (hbx.grew hsz hW).2.1
      have f2 := fun W (hW : Grew w1 W) => (hbx.grew hsz hW).2.2.1
      have f4 := fun W (hW : Grew w1 W) => (hbx.grew hsz hW).2.2.2.2
      have HBX1 := Lib.hid hbx
      have HBK := Lib.hid hblk
      have r1 := Grew.refl w1
      have d1 := r1.drew
      have gd := g1.trans d1
      clear hbx hblk k0 k1 k2 k3 k4
      go_wp2_with fail
      refine wp_region_held_drew (S := fun w' => Grew w1 w') (by kernel_rfl) d1 (fun hHeld => ?_)
      refine wpAnyH_take (i := 0) (oi := ?on109) (v := ?vn109) ?hin109 ?an109 ?bn109 ?cn109 ?qn109 (Or.inl ⟨?dn109, ?hyn109⟩) hHeld ?restn109
      case hin109 => (simp only [List.getElem?_toArray, List.getElem?_cons_succ, List.getElem?_cons_zero]; exact rfl)
      case an109 => kernel_rfl
      case bn109 => kernel_rfl
      case cn109 => kernel_rfl
      case qn109 => exact fun _ _ _ h => h
      case dn109 => rfl
      case hyn109 => (intro z hSw; (try dsimp only at hSw); go_simp; (try with_reducible rfl))
      try simp only [Act.put, List.setIfInBounds_toArray, List.set_cons_zero, List.set_cons_succ]
      refine wpAnyH_take (i := 1) (oi := ?on110) (v := ?vn110) ?hin110 ?an110 ?bn110 ?cn110 ?qn110 (Or.inl ⟨?dn110, ?hyn110⟩) hHeld ?restn110
      case hin110 => (simp only [List.getElem?_toArray, List.getElem?_cons_succ, List.getElem?_cons_zero]; exact rfl)
      case an110 => kernel_rfl
      case bn110 => kernel_rfl
      case cn110 => kernel_rfl
      case qn110 => exact fun _ _ _ h => h
      case dn110 => rfl
      case hyn110 => (intro z hSw; (try dsimp only at hSw); go_simp; (try with_reducible rfl))
      try simp only [Act.put, List.setIfInBounds_toArray, List.set_cons_zero, List.set_cons_succ]
      refine wpAnyH_take (i := 2) (oi := ?on111) (v := ?vn111) ?hin111 ?an111 ?bn111 ?cn111 ?qn111 (Or.inl ⟨?dn111, ?hyn111⟩) hHeld ?restn111
      case hin111 => (simp only [List.getElem?_toArray, List.getElem?_cons_succ, List.getElem?_cons_zero]; exact rfl)
      case an111 => kernel_rfl
      case bn111 => kernel_rfl
      case cn111 => kernel_rfl
      case qn111 => exact fun _ _ _ h => h
      case dn111 => rfl
      case hyn111 => (intro z hSw; (try dsimp only at hSw); go_simp; (try with_reducible rfl))
      try simp only [Act.put, List.setIfInBounds_toArray, List.set_cons_zero, List.set_cons_succ]
      refine wpAnyH_take (i := 3) (oi := ?on112) (v := ?vn112) ?hin112 ?an112 ?bn112 ?cn112 ?qn112 (Or.inl ⟨?dn112, ?hyn112⟩) hHeld ?restn112
      case hin112 => (simp only [List.getElem?_toArray, List.getElem?_cons_succ, List.getElem?_cons_zero]; exact rfl)
      case an112 => kernel_rfl
      case bn112 => kernel_rfl
      case cn112 => kernel_rfl
      case qn112 => exact fun _ _ _ h => h
      case dn112 => rfl
      case hyn112 => (intro z hSw; (try dsimp only at hSw); go_simp; (try with_reducible rfl))
      try simp only [Act.put, List.setIfInBounds_toArray, List.set_cons_zero, List.set_cons_succ]
      refine wpAnyH_take (i := 4) (oi := ?on113) (v := ?vn113) ?hin113 ?an113 ?bn113 ?cn113 ?qn113 (Or.inl ⟨?dn113, ?hyn113⟩) hHeld ?restn113
      case hin113 => (simp only [List.getElem?_toArray, List.getElem?_cons_succ, List.getElem?_cons_zero]; exact rfl)
      case an113 => kernel_rfl
      case bn113 => kernel_rfl
      case cn113 => kernel_rfl
      case qn113 => exact fun _ _ _ h => h
      case dn113 => rfl
      case hyn113 => (intro z hSw; (try dsimp only at hSw); go_simp; (try with_reducible rfl))
      try simp only [Act.put, List.setIfInBounds_toArray, List.set_cons_zero, List.set_cons_succ]
      refine wpAnyH_ready (rs := [5]) (by kernel_rfl) (by simp) ?_
      refine AllReadyH.cons (o := ?on114) ?hin114 ?restn114 AllReadyH.nil
      case hin114 => (simp only [List.getElem?_toArray, List.getElem?_cons_succ, List.getElem?_cons_zero]; exact rfl)
      intro K hK
      go_simp
      go_at_call 80
      refine (KL.out _ gd).mono ?_
      rintro e w3 ⟨rfl, hg3⟩
      have gk3 := gd.trans hg3
      have mk3 := d1.trans hg3
      refine hK.out _ _ ?_ (fun hHeld => ?_)
      · (try dsimp only); first | with_reducible assumption | exact Grew.alloc ‹_› _
      clear hK K
      try simp only [Act.put, List.setIfInBounds_toArray, List.set_cons_zero, List.set_cons_succ]
      refine wpAnyH_take (i := 6) (oi := ?on115) (v := ?vn115) ?hin115 ?an115 ?bn115 ?cn115 ?qn115 (Or.inl ⟨?dn115, ?hyn115⟩) hHeld ?restn115
      case hin115 => (simp only [List.getElem?_toArray, List.getElem?_cons_succ, List.getElem?_cons_zero]; exact rfl)
      case an115 => kernel_rfl
      case bn115 => kernel_rfl
      case cn115 => kernel_rfl
      case qn115 => exact fun _ _ _ h => h
      case dn115 => rfl
      case hyn115 => (intro z hSw; (try dsimp only at hSw); go_simp; (try with_reducible rfl))
      try simp only [Act.put, List.setIfInBounds_toArray, List.set_cons_zero, List.set_cons_succ]
      refine wpAnyH_take (i := 7) (oi := ?on116) (v := ?vn116) ?hin116 ?an116 ?bn116 ?cn116 ?qn116 (Or.inl ⟨?dn116, ?hyn116⟩) hHeld ?restn116
      case hin116 => (simp only [List.getElem?_toArray, List.getElem?_cons_succ, List.getElem?_cons_zero]; exact rfl)
      case an116 => kernel_rfl
      case bn116 => kernel_rfl
      case cn116 => kernel_rfl
      case qn116 => exact fun _ _ _ h => h
      case dn116 => rfl
      case hyn116 => (intro z hSw; (try dsimp only at hSw); go_simp; (try with_reducible rfl))
      try simp only [Act.put, List.setIfInBounds_toArray, List.set_cons_zero, List.set_cons_succ]
      refine wpAnyH_take (i := 8) (oi := ?on117) (v := ?vn117) ?hin117 ?an117 ?bn117 ?cn117 ?qn117 (Or.inl ⟨?dn117, ?hyn117⟩) hHeld ?restn117
      case hin117 => (simp only [List.getElem?_toArray, List.getElem?_cons_succ, List.getElem?_cons_zero]; exact rfl)
      case an117 => kernel_rfl
      case bn117 => kernel_rfl
      case cn117 => kernel_rfl
      case qn117 => exact fun _ _ _ h => h
      case dn117 => rfl
      case hyn117 => (intro z hSw; (try dsimp only at hSw); go_simp; (try with_reducible rfl))
      try simp only [Act.put, List.setIfInBounds_toArray, List.set_cons_zero, List.set_cons_succ]
      refine wpAnyH_take (i := 9) (oi := ?on118) ?hin118 ?an118 ?bn118 ?cn118 ?qn118 (Or.inr ⟨?dn118, rfl⟩) hHeld ?restn118
      case hin118 => (simp only [List.getElem?_toArray, List.getElem?_cons_succ, List.getElem?_cons_zero]; exact rfl)
      case an118 => kernel_rfl
      case bn118 => kernel_rfl
      case cn118 => kernel_rfl
      case qn118 => exact fun _ _ _ h => h
      case dn118 => rfl
      try simp only [Act.put, List.setIfInBounds_toArray, List.set_cons_zero, List.set_cons_succ]
      refine wpAnyH_take (i := 10) (oi := ?on119) ?hin119 ?an119 ?bn119 ?cn119 ?qn119 (Or.inr ⟨?dn119, rfl⟩) hHeld ?restn119
      case hin119 => (simp only [List.getElem?_toArray, List.getElem?_cons_succ, List.getElem?_cons_zero]; exact rfl)
      case an119 => kernel_rfl
      case bn119 => kernel_rfl
      case cn119 => kernel_rfl
      case qn119 => exact fun _ _ _ h => h
      case dn119 => rfl
      try simp only [Act.put, List.setIfInBounds_toArray, List.set_cons_zero, List.set_cons_succ]
      refine wpAnyH_take (i := 12) (oi := ?on120) ?hin120 ?an120 ?bn120 ?cn120 ?qn120 (Or.inr ⟨?dn120, rfl⟩) hHeld ?restn120
      case hin120 => (simp only [List.getElem?_toArray, List.getElem?_cons_succ, List.getElem?_cons_zero]; exact rfl)
      case an120 => kernel_rfl
      case bn120 => kernel_rfl
      case cn120 => kernel_rfl
      case qn120 => exact fun _ _ _ h => h
      case dn120 => rfl
      try simp only [Act.put, List.setIfInBounds_toArray, List.set_cons_zero, List.set_cons_succ]
      refine wpAnyH_take (i := 13) (oi := ?on121) ?hin121 ?an121 ?bn121 ?cn121 ?qn121 (Or.inr ⟨?dn121, rfl⟩) hHeld ?restn121
      case hin121 => (simp only [List.getElem?_toArray, List.getElem?_cons_succ, List.getElem?_cons_zero]; exact rfl)
      case an121 => kernel_rfl
      case bn121 => kernel_rfl
      case cn121 => kernel_rfl
      case qn121 => exact fun _ _ _ h => h
      case dn121 => rfl
      try simp only [Act.put, List.setIfInBounds_toArray, List.set_cons_zero, List.set_cons_succ]
      refine wpAnyH_take (i := 14) (oi := ?on122) ?hin122 ?an122 ?bn122 ?cn122 ?qn122 (Or.inr ⟨?dn122, rfl⟩) hHeld ?restn122
      case hin122 => (simp only [List.getElem?_toArray, List.getElem?_cons_succ, List.getElem?_cons_zero]; exact rfl)
      case an122 => kernel_rfl
      case bn122 => kernel_rfl
      case cn122 => kernel_rfl
      case qn122 => exact fun _ _ _ h => h
      case dn122 => rfl
      try simp only [Act.put, List.setIfInBounds_toArray, List.set_cons_zero, List.set_cons_succ]
      refine wpAnyH_take (i := 11) (oi := ?on123) ?hin123 ?an123 ?bn123 ?cn123 ?qn123 (Or.inr ⟨?dn123, rfl⟩) hHeld ?restn123
      case hin123 => (simp only [List.getElem?_toArray, List.getElem?_cons_succ, List.getElem?_cons_zero]; exact rfl)
      case an123 => kernel_rfl
      case bn123 => kernel_rfl
      case cn123 => kernel_rfl
      case qn123 => exact fun _ _ _ h => h
      case dn123 => rfl
      try simp only [Act.put, List.setIfInBounds_toArray, List.set_cons_zero, List.set_cons_succ]
      refine wpAnyH_take (i := 15) (oi := ?on124) ?hin124 ?an124 ?bn124 ?cn124 ?qn124 (Or.inr ⟨?dn124, rfl⟩) hHeld ?restn124
      case hin124 => (simp only [List.getElem?_toArray, List.getElem?_cons_succ, List.getElem?_cons_zero]; exact rfl)
      case an124 => kernel_rfl
      case bn124 => kernel_rfl
      case cn124 => kernel_rfl
      case qn124 => exact fun _ _ _ h => h
      case dn124 => rfl
      try simp only [Act.put, List.setIfInBounds_toArray, List.set_cons_zero, List.set_cons_succ]
      refine wpAnyH_take (i := 16) (oi := ?on125) (v := ?vn125) ?hin125 ?an125 ?bn125 ?cn125 ?qn125 (Or.inl ⟨?dn125, ?hyn125⟩) hHeld ?restn125
      case hin125 => (simp only [List.getElem?_toArray, List.getElem?_cons_succ, List.getElem?_cons_zero]; exact rfl)
      case an125 => kernel_rfl
      case bn125 => kernel_rfl
      case cn125 => kernel_rfl
      case qn125 => exact fun _ _ _ h => h
      case dn125 => rfl
      case hyn125 => (intro z hSw; (try dsimp only at hSw); go_simp; (try with_reducible rfl))
      try simp only [Act.put, List.setIfInBounds_toArray, List.set_cons_zero, List.set_cons_succ]
      refine wpAnyH_take (i := 17) (oi := ?on126) (v := ?vn126) ?hin126 ?an126 ?bn126 ?cn126 ?qn126 (Or.inl ⟨?dn126, ?hyn126⟩) hHeld ?restn126
      case hin126 => (simp only [List.getElem?_toArray, List.getElem?_cons_succ, List.getElem?_cons_zero]; exact rfl)
      case an126 => kernel_rfl
      case bn126 => kernel_rfl
      case cn126 => kernel_rfl
      case qn126 => exact fun _ _ _ h => h
      case dn126 => rfl
      case hyn126 => (intro z hSw; (try dsimp only at hSw); go_simp; (try with_reducible rfl))
      try simp only [Act.put, List.setIfInBounds_toArray, List.set_cons_zero, List.set_cons_succ]
      refine wpAnyH_take (i := 18) (oi := ?on127) ?hin127 ?an127 ?bn127 ?cn127 ?qn127 (Or.inr ⟨?dn127, rfl⟩) hHeld ?restn127
      case hin127 => (simp only [List.getElem?_toArray, List.getElem?_cons_succ, List.getElem?_cons_zero]; exact rfl)
      case an127 => kernel_rfl
      case bn127 => kernel_rfl
      case cn127 => kernel_rfl
      case qn127 => exact fun _ _ _ h => h
      case dn127 => rfl
      try simp only [Act.put, List.setIfInBounds_toArray, List.set_cons_zero, List.set_cons_succ]
      refine wpAnyH_take (i := 19) (oi := ?on128) ?hin128 ?an128 ?bn128 ?cn128 ?qn128 (Or.inr ⟨?dn128, rfl⟩) hHeld ?restn128
      case hin128 => (simp only [List.getElem?_toArray, List.getElem?_cons_succ, List.getElem?_cons_zero]; exact rfl)
      case an128 => kernel_rfl
      case bn128 => kernel_rfl
      case cn128 => kernel_rfl
      case qn128 => exact fun _ _ _ h => h
      case dn128 => rfl
      try simp only [Act.put, List.setIfInBounds_toArray, List.set_cons_zero, List.set_cons_succ]
      refine wpAnyH_take (i := 20) (oi := ?on129) ?hin129 ?an129 ?bn129 ?cn129 ?qn129 (Or.inr ⟨?dn129, rfl⟩) hHeld ?restn129
      case hin129 => (simp only [List.getElem?_toArray, List.getElem?_cons_succ, List.getElem?_cons_zero]; exact rfl)
      case an129 => kernel_rfl
      case bn129 => kernel_rfl
      case cn129 => kernel_rfl
      case qn129 => exact fun _ _ _ h => h
      case dn129 => rfl
      try simp only [Act.put, List.setIfInBounds_toArray, List.set_cons_zero, List.set_cons_succ]
      refine wpAnyH_take (i := 21) (oi := ?on130) ?hin130 ?an130 ?bn130 ?cn130 ?qn130 (Or.inr ⟨?dn130, rfl⟩) hHeld ?restn130
      case hin130 => (simp only [List.getElem?_toArray, List.getElem?_cons_succ, List.getElem?_cons_zero]; exact rfl)
      case an130 => kernel_rfl
      case bn130 => kernel_rfl
      case cn130 => kernel_rfl
      case qn130 => exact fun _ _ _ h => h
      case dn130 => rfl
      try simp only [Act.put, List.setIfInBounds_toArray, List.set_cons_zero, List.set_cons_succ]
      refine wpAnyH_take (i := 22) (oi := ?on131) ?hin131 ?an131 ?bn131 ?cn131 ?qn131 (Or.inr ⟨?dn131, rfl⟩) hHeld ?restn131
      case hin131 => (simp only [List.getElem?_toArray, List.getElem?_cons_succ, List.getElem?_cons_zero]; exact rfl)
      case an131 => kernel_rfl
      case bn131 => kernel_rfl
      case cn131 => kernel_rfl
      case qn131 => exact fun _ _ _ h => h
      case dn131 => rfl
      try simp only [Act.put, List.setIfInBounds_toArray, List.set_cons_zero, List.set_cons_succ]
      refine wpAnyH_take (i := 23) (oi := ?on132) ?hin132 ?an132 ?bn132 ?cn132 ?qn132 (Or.inr ⟨?dn132, rfl⟩) hHeld ?restn132
      case hin132 => (simp only [List.getElem?_toArray, List.getElem?_cons_succ, List.getElem?_cons_zero]; exact rfl)
      case an132 => kernel_rfl
      case bn132 => kernel_rfl
      case cn132 => kernel_rfl
      case qn132 => exact fun _ _ _ h => h
      case dn132 => rfl
      try simp only [Act.put, List.setIfInBounds_toArray, List.set_cons_zero, List.set_cons_succ]
      refine wpAnyH_take (i := 24) (oi := ?on133) ?hin133 ?an133 ?bn133 ?cn133 ?qn133 (Or.inr ⟨?dn133, rfl⟩) hHeld ?restn133
      case hin133 => (simp only [List.getElem?_toArray, List.getElem?_cons_succ, List.getElem?_cons_zero]; exact rfl)
      case an133 => kernel_rfl
      case bn133 => kernel_rfl
      case cn133 => kernel_rfl
      case qn133 => exact fun _ _ _ h => h
      case dn133 => rfl
      try simp only [Act.put, List.setIfInBounds_toArray, List.set_cons_zero, List.set_cons_succ]
      refine wpAnyH_take (i := 25) (oi := ?on134) ?hin134 ?an134 ?bn134 ?cn134 ?qn134 (Or.inr ⟨?dn134, rfl⟩) hHeld ?restn134
      case hin134 => (simp only [List.getElem?_toArray, List.getElem?_cons_succ, List.getElem?_cons_zero]; exact rfl)
      case an134 => kernel_rfl
      case bn134 => kernel_rfl
      case cn134 => kernel_rfl
      case qn134 => exact fun _ _ _ h => h
      case dn134 => rfl
      try simp only [Act.put, List.setIfInBounds_toArray, List.set_cons_zero, List.set_cons_succ]
      refine wpAnyH_take (i := 26) (oi := ?on135) (v := ?vn135) ?hin135 ?an135 ?bn135 ?cn135 ?qn135 (Or.inl ⟨?dn135, ?hyn135⟩) hHeld ?restn135
      case hin135 => (simp only [List.getElem?_toArray, List.getElem?_cons_succ, List.getElem?_cons_zero]; exact rfl)
      case an135 => kernel_rfl
      case bn135 => kernel_rfl
      case cn135 => kernel_rfl
      case qn135 => exact fun _ _ _ h => h
      case dn135 => rfl
      case hyn135 => (intro z hSw; (try dsimp only at hSw); go_simp; (try with_reducible rfl))
      try simp only [Act.put, List.setIfInBounds_toArray, List.set_cons_zero, List.set_cons_succ]
      refine wpAnyH_done (by kernel_rfl) ?_ _

      go_wp2_with fail
      go_ret
      exact ⟨rfl, gk3⟩
  · rw [dcd_false (fun h => hg h.1.2.1)]
    have hg2 : gp x.2.2.2.1 = false := by simpa using hg
    rw [hg2] at KF
    clear hg hg2 KL KN HGB HC HS HUP HTK
    replace KF := Lib.hid KF
    generalize xs.length = xl at *
    generalize x.2.1.length = pln at *
    generalize x.2.2.1.length = al at *
    go_enter Tryz.func69, Tryz.ntmps69
    go_wp2_with fail
    refine (KF.out _).mono ?_
    rintro e w1 ⟨uf, rfl, hof, hg1⟩
    clear hof
    go_wp2_with fail
    go_quiet (fail)
    go_wp2_with fail
    go_ret
    exact ⟨rfl, (hal.trans hg1).drewN _⟩
end Go.Proofs.YtfpkfgimhanekaaGreatDoor

/- l25Bad of the reference; isDeductionCount of the program. -/
namespace Go.Proofs.YtfpkfgimhanekaaGreatDoor
open Go.RowKit

theorem l25Bad_c (v : Value) (xs : List Dd) (w : World) (hv : Dds w v xs) (hf : FitsDd xs) (hl : xs.length ≤ 1000) :
    Calls Tryz.prog 43 #[v] w fun e w' => e = .returned (.int .i64 (fbd xs xs.length)) ∧ Grew w w' := by
  obtain ⟨A, c, rfl⟩ := Dds_slice hv
  have HV := Lib.hid hv
  have HF := Lib.hid hf
  clear hv hf
  go_enter Tryz.func43, Tryz.ntmps43
  go_wp2_with fail
  go_loopw [3] (fun i wr => ∃ j : Nat, j ≤ xs.length ∧ i = .int .i64 j ∧ Grew w wr ∧ Hid (fbd xs j = -1)) (fun i _ => xs.length - (intOf i).toNat)
  case atStart => exact ⟨0, Nat.zero_le _, rfl, Grew.refl _, Lib.hid rfl⟩
  case round =>
    obtain ⟨j, hj, rfl, hB, HJ⟩ := hrel
    by_cases hlt : j < xs.length
    · have hx : xs[j]? = some xs[j] := List.getElem?_eq_getElem hlt
      have hfx := HF.out _ (List.getElem_mem hlt)
      generalize xs[j] = x at hx hfx
      have KC := l25Correct_c (.slice A xs.length c) xs j x wr (HV.out.grew hB) hx hfx (fbd_plain HJ.out) hl
      by_cases hg : goodP (xs.take j) x
      · rw [dcd_true hg] at KC
        replace KC := Lib.hid KC
        have HN : Hid (fbd xs (j + 1) = -1) := Lib.hid (fbd_good HJ.out hx hg)
        clear hg hx
        go_wp2_with fail
        refine (KC.out).mono ?_
        rintro e w2 ⟨rfl, hg2⟩
        go_wp2_with fail
        go_roundw
        case rel => exact ⟨j + 1, by omega, by go_num, hB.trans hg2, HN⟩
        case measure => simp [intOf]; omega
      · rw [dcd_false hg] at KC
        replace KC := Lib.hid KC
        have HN : Hid (fbd xs xs.length = j) := Lib.hid (fbd_bad HJ.out (fun ⟨y, hy, hgy⟩ => hg (by rw [hx] at hy; cases hy; exact hgy)) hlt)
        clear hg hx
        go_wp2_with fail
        refine (KC.out).mono ?_
        rintro e w2 ⟨rfl, hg2⟩
        go_wp2_with fail
        go_ret
        exact ⟨congrArg (fun k => Ending.returned (Value.int .i64 k)) HN.out.symm, hB.trans hg2⟩
    · obtain rfl : j = xs.length := by omega
      go_wp2_with fail
      go_ret
      exact ⟨congrArg (fun k => Ending.returned (Value.int .i64 k)) HJ.out.symm, hB⟩

/-- What FirstBadDeduction answers. -/
noncomputable def fbF (xs : List Dd) : Int × Int := if xs.length = 0 ∨ 120 < xs.length then (0, 3) else (fbd xs xs.length, 0)
def GivesFb (w : World) (r : Int × Int) (e : Ending) (w' : World) : Prop := e = .returned (.tuple #[.int .i64 r.1, .int .i64 r.2]) ∧ Grew w w'
theorem isDeductionCount_c (A : Option Addr) (n c : Nat) (w : World) :
    Calls Tryz.prog 50 #[.slice A n c] w fun e w' => e = .returned (.bool (decide (n ≠ 0 ∧ n ≤ 120))) ∧ Grew w w' := by
  by_cases h0 : n = 0
  · subst h0
    go_enter Tryz.func50, Tryz.ntmps50
    go_wp2_with fail
    go_ret
    exact ⟨rfl, Grew.refl _⟩
  · have h1 : (1 : Int) ≤ (n : Int) := by omega
    by_cases h2 : n ≤ 120
    · rw [decide_eq_true ⟨h0, h2⟩]
      have h3 : (n : Int) ≤ 120 := by omega
      clear h0 h2
      go_enter Tryz.func50, Tryz.ntmps50
      go_wp2_with fail
      go_ret
      exact ⟨rfl, Grew.refl _⟩
    · rw [decide_eq_false (fun h => h2 h.2)]
      have h3 : ¬ (n : Int) ≤ 120 := by omega
      clear h0 h2
      go_enter Tryz.func50, Tryz.ntmps50
      go_wp2_with fail
      go_ret
      exact ⟨rfl, Grew.refl _⟩
end Go.Proofs.YtfpkfgimhanekaaGreatDoor

/- deductionCode of the program, l25Code of the reference. -/
namespace Go.Proofs.YtfpkfgimhanekaaGreatDoor
open Go.RowKit

/-- A list of lists of steps. -/
def ld (Ls : List (List Dd)) (i : Nat) : List Dd := Ls.getD i []
/-- The value reads as the list of lists. -/
def DdL (w : World) (v : Value) (Ls : List (List Dd)) : Prop :=
  ∃ b o c, v = .slice (some ⟨b, o, none⟩) Ls.length c ∧ Ls.length ≤ c ∧ c ≤ 9223372036854775807 ∧
    ∀ i, i < Ls.length → ∃ u, (∀ W, Grew w W → W.cell? ⟨b, o + i, none⟩ = some u) ∧ Dds w u (ld Ls i)
theorem DdL.grew {w w' : World} {v : Value} {Ls : List (List Dd)} (h : DdL w v Ls) (hg : Grew w w') : DdL w' v Ls := by
  obtain ⟨b, o, c, h1, h2, h3, h4⟩ := h
  refine ⟨b, o, c, h1, h2, h3, fun i hi => ?_⟩
  obtain ⟨u, k1, k2⟩ := h4 i hi
  exact ⟨u, fun W hW => k1 W (hg.trans hW), k2.grew hg⟩
theorem DdL.one {w : World} {T : TypeId} {u : Value} {xs : List Dd} (h : Dds w u xs) : DdL (w.alloc (.cells #[u] T)) (.slice (some ⟨w.heap.size, 0, none⟩) 1 1) [xs] := by
  refine ⟨w.heap.size, 0, 1, rfl, Nat.le_refl _, by omega, fun i hi => ?_⟩
  obtain rfl : i = 0 := by simpa using hi
  exact ⟨u, fun W hW => (hW.cell (p := ⟨w.heap.size, 0 + 0, none⟩) (by simp)).trans (by simp), h.grew ((Grew.refl w).alloc _)⟩
theorem DdL.two {w : World} {T : TypeId} {u u2 : Value} {xs ys : List Dd} (h : Dds w u xs) (h2 : Dds w u2 ys) : DdL (w.alloc (.cells #[u, u2] T)) (.slice (some ⟨w.heap.size, 0, none⟩) 2 2) [xs, ys] := by
  refine ⟨w.heap.size, 0, 2, rfl, Nat.le_refl _, by omega, fun i hi => ?_⟩
  have hi2 : i < 2 := by simpa using hi
  match i, hi2 with
  | 0, _ => exact ⟨u, fun W hW => (hW.cell (p := ⟨w.heap.size, 0 + 0, none⟩) (by simp)).trans (by simp), h.grew ((Grew.refl w).alloc _)⟩
  | 1, _ => exact ⟨u2, fun W hW => (hW.cell (p := ⟨w.heap.size, 0 + 1, none⟩) (by simp)).trans (by simp), h2.grew ((Grew.refl w).alloc _)⟩

/-- None of the first k lists meets the predicate. -/
def NoneL (p : List Dd → Bool) (Ls : List (List Dd)) (k : Nat) : Prop := ∀ i, i < k → p (ld Ls i) = false
theorem NoneL.zero (p : List Dd → Bool) (Ls : List (List Dd)) : NoneL p Ls 0 := fun i hi => absurd hi (by omega)
theorem NoneL.succ {p : List Dd → Bool} {Ls : List (List Dd)} {k : Nat} (h : NoneL p Ls k) (h1 : p (ld Ls k) = false) : NoneL p Ls (k + 1) := by
  intro i hi
  rcases Nat.lt_or_ge i k with hk | hk
  · exact h i hk
  · obtain rfl : i = k := by omega
    exact h1
theorem ld_get {Ls : List (List Dd)} {i : Nat} (h : i < Ls.length) : Ls[i] = ld Ls i := by simp [ld, List.getD, h]
theorem noneL_any {p : List Dd → Bool} {Ls : List (List Dd)} (h : NoneL p Ls Ls.length) : Ls.any p = false := by
  rw [List.any_eq_false]
  intro x hx
  obtain ⟨i, hi, rfl⟩ := List.getElem_of_mem hx
  rw [ld_get hi, h i hi]
  simp
theorem anyL_at {p : List Dd → Bool} {Ls : List (List Dd)} {k : Nat} (hk : k < Ls.length) (h : p (ld Ls k) = true) : Ls.any p = true := by
  rw [List.any_eq_true]
  exact ⟨Ls[k], List.getElem_mem hk, by rw [ld_get hk]; exact h⟩
theorem noneL_of {p : List Dd → Bool} {Ls : List (List Dd)} (h : Ls.any p = false) {i : Nat} (hi : i < Ls.length) : p (ld Ls i) = false := by
  rw [List.any_eq_false] at h
  have := h _ (List.getElem_mem hi)
  rw [ld_get hi] at this
  simpa using this

/-- Too short or too long. -/
def badCnt (xs : List Dd) : Bool := !decide (xs.length ≠ 0 ∧ xs.length ≤ 120)
/-- With a step that is not correct. -/
noncomputable def badStep (xs : List Dd) : Bool := decide (0 ≤ fbd xs xs.length)

theorem indexFuncL_c (v : Value) (Ls : List (List Dd)) (f : Nat) (p : List Dd → Bool) (w : World) (h : DdL w v Ls)
    (hf : ∀ i, i < Ls.length → ∀ u W, Dds W u (ld Ls i) → Calls Tryz.prog f #[u] W fun e W' => e = .returned (.bool (p (ld Ls i))) ∧ Grew W W') (eg : ∀ args w, (callFunc f args).run Tryz.prog w = .ok (.enter f args) w) :
    Calls Tryz.prog 70 #[v, .func (.func f) #[] #[]] w fun e w' => ∃ r : Int, e = .returned (.int .i64 r) ∧ Grew w w' ∧ decide (0 ≤ r) = Ls.any p := by
  obtain ⟨b, o, c, rfl, hc, hm, hcell⟩ := h
  obtain ⟨R, hR⟩ : ∃ R, R = Ls.any p := ⟨_, rfl⟩
  rw [← hR]
  have HA := Lib.hid (fun k hk h => hR.trans (@anyL_at p Ls k hk h))
  have HZ := Lib.hid (fun h => hR.trans (@noneL_any p Ls h))
  have HC := Lib.hid hcell
  have HF := Lib.hid hf
  clear hcell hf hR
  generalize hN : Ls.length = n at *
  clear hN
  go_enter Tryz.func70, Tryz.ntmps70
  go_wp2_with fail
  go_loopw [5, 8] (fun _ i wr => ∃ j : Nat, j ≤ n ∧ i = .int .i64 j ∧ Grew w wr ∧ Hid (NoneL p Ls j)) (fun _ i _ => n - (intOf i).toNat)
  case atStart => exact ⟨0, Nat.zero_le _, rfl, Grew.refl _, NoneL.zero _ _⟩
  case round =>
    obtain ⟨j, hj, rfl, hB, HJ⟩ := hrel
    by_cases hlt : j < n
    · obtain ⟨u, k0, hd⟩ := HC.out j hlt
      have k1 := k0 _ hB
      have hz := Lib.hid (fun W (hW : Grew w W) => HF.out j hlt u W (hd.grew hW))
      have hA := Lib.hid (HA.out j hlt)
      have hS := Lib.hid (fun h => HJ.out.succ (k := j) h)
      obtain ⟨A, c', rfl⟩ := Dds_slice hd
      clear k0 hd
      generalize ld Ls j = x at *
      go_wp2_with fail
      go_at_fn f
      refine (hz.out _ hB).mono ?_
      rintro e w1 ⟨rfl, hg1⟩
      have hB1 := hB.trans hg1
      cases hp : p x with
      | true =>
        have hv := hA.out hp
        go_wp2_with fail
        go_ret
        exact ⟨_, rfl, hB1, by rw [hv]; simp⟩
      | false =>
        have hs := Lib.hid (hS.out hp)
        go_wp2_with fail
        go_roundw
        case rel => exact ⟨j + 1, by omega, by go_num, hB1, hs⟩
        case measure => simp [intOf]; omega
    · obtain rfl : j = n := by omega
      have hv := Lib.hid (HZ.out HJ.out)
      go_wp2_with fail
      go_ret
      exact ⟨_, rfl, hB, by rw [hv.out]; rfl⟩

theorem containsFuncL_c (v : Value) (Ls : List (List Dd)) (f : Nat) (p : List Dd → Bool) (w : World) (h : DdL w v Ls)
    (hf : ∀ i, i < Ls.length → ∀ u W, Dds W u (ld Ls i) → Calls Tryz.prog f #[u] W fun e W' => e = .returned (.bool (p (ld Ls i))) ∧ Grew W W') (eg : ∀ args w, (callFunc f args).run Tryz.prog w = .ok (.enter f args) w) :
    Calls Tryz.prog 48 #[v, .func (.func f) #[] #[]] w fun e w' => e = .returned (.bool (Ls.any p)) ∧ Grew w w' := by
  have HI := Lib.hid (indexFuncL_c v Ls f p w h hf eg)
  clear h hf eg
  generalize Ls.any p = R at *
  go_enter Tryz.func48, Tryz.ntmps48
  go_wp2_with fail
  refine HI.out.mono ?_
  rintro e w1 ⟨r, rfl, hg1, hr⟩
  go_wp2_with fail
  go_ret
  exact ⟨by rw [← hr]; rfl, hg1⟩

theorem dcode1_c (u : Value) (xs : List Dd) (W : World) (h : Dds W u xs) : Calls Tryz.prog 49 #[u] W fun e W' => e = .returned (.bool (badCnt xs)) ∧ Grew W W' := by
  obtain ⟨A, c, rfl⟩ := Dds_slice h
  have K := Lib.hid (isDeductionCount_c A xs.length c W)
  unfold badCnt
  clear h
  generalize decide (xs.length ≠ 0 ∧ xs.length ≤ 120) = d at *
  go_enter Tryz.func49, Tryz.ntmps49
  go_wp2_with fail
  refine (K.out).mono ?_
  rintro e w1 ⟨rfl, hg1⟩
  go_wp2_with fail
  go_ret
  exact ⟨rfl, hg1⟩

theorem dcode2_c (u : Value) (xs : List Dd) (W : World) (h : Dds W u xs) (hf : FitsDd xs) (hl : xs.length ≤ 1000) : Calls Tryz.prog 51 #[u] W fun e W' => e = .returned (.bool (badStep xs)) ∧ Grew W W' := by
  have K := Lib.hid (firstBadDeduction_c u xs W h hf hl)
  obtain ⟨A, c, rfl⟩ := Dds_slice h
  unfold badStep
  clear h hf
  generalize fbd xs xs.length = d at *
  go_enter Tryz.func51, Tryz.ntmps51
  go_wp2_with fail
  refine (K.out).mono ?_
  rintro e w1 ⟨rfl, hg1⟩
  go_wp2_with fail
  go_ret
  exact ⟨rfl, hg1⟩

/-- The code of lists of steps. -/
noncomputable def dcode (Ls : List (List Dd)) : Int := if Ls.any badCnt then 3 else if Ls.any badStep then 5 else 0
theorem badCnt_le {xs : List Dd} (h : badCnt xs = false) : xs.length ≠ 0 ∧ xs.length ≤ 120 := by
  unfold badCnt at h
  simpa using h

theorem deductionCode_c (v : Value) (Ls : List (List Dd)) (w : World) (h : DdL w v Ls) (hf : ∀ i, i < Ls.length → FitsDd (ld Ls i)) :
    Calls Tryz.prog 26 #[v] w fun e w' => e = .returned (.int .i64 (dcode Ls)) ∧ Grew w w' := by
  unfold dcode
  have e1 : ∀ args w, (callFunc 49 args).run Tryz.prog w = .ok (.enter 49 args) w := enters_of Tryz.func49 (by kernel_rfl) rfl
  have e2 : ∀ args w, (callFunc 51 args).run Tryz.prog w = .ok (.enter 51 args) w := enters_of Tryz.func51 (by kernel_rfl) rfl
  have K1 := Lib.hid (containsFuncL_c v Ls 49 badCnt w h (fun i _ u W hu => dcode1_c u _ W hu) e1)
  cases hb : Ls.any badCnt with
  | true =>
    rw [if_pos rfl]
    rw [hb] at K1
    obtain ⟨b, o, c, rfl, _⟩ := h
    clear hf hb e2
    go_enter Tryz.func26, Tryz.ntmps26
    go_wp2_with fail
    refine (K1.out).mono ?_
    rintro e w1 ⟨rfl, hg1⟩
    go_wp2_with fail
    go_ret
    exact ⟨rfl, hg1⟩
  | false =>
    rw [if_neg (by simp)]
    have K2 := Lib.hid (fun W (hW : Grew w W) => containsFuncL_c v Ls 51 badStep W (h.grew hW) (fun i hi u W hu => dcode2_c u _ W hu (hf i hi) (by have := badCnt_le (noneL_of hb hi); omega)) e2)
    rw [hb] at K1
    obtain ⟨b, o, c, rfl, _⟩ := h
    clear hf hb e1 e2
    cases hs : Ls.any badStep with
    | true =>
      rw [hs] at K2
      rw [if_pos rfl]
      clear hs
      go_enter Tryz.func26, Tryz.ntmps26
      go_wp2_with fail
      refine (K1.out).mono ?_
      rintro e w1 ⟨rfl, hg1⟩
      go_wp2_with fail
      refine (K2.out _ hg1).mono ?_
      rintro e w2 ⟨rfl, hg2⟩
      go_wp2_with fail
      go_ret
      exact ⟨rfl, hg1.trans hg2⟩
    | false =>
      rw [hs] at K2
      rw [if_neg (by simp)]
      clear hs
      go_enter Tryz.func26, Tryz.ntmps26
      go_wp2_with fail
      refine (K1.out).mono ?_
      rintro e w1 ⟨rfl, hg1⟩
      go_wp2_with fail
      refine (K2.out _ hg1).mono ?_
      rintro e w2 ⟨rfl, hg2⟩
      go_wp2_with fail
      go_ret
      exact ⟨rfl, hg1.trans hg2⟩

theorem badCnt_zero {xs : List Dd} (h : xs.length = 0) : badCnt xs = true := by simp [badCnt, h]
theorem badCnt_big {xs : List Dd} (h : 120 < xs.length) : badCnt xs = true := by
  unfold badCnt
  rw [decide_eq_false (fun k => by omega)]
  rfl
theorem badCnt_ok {xs : List Dd} (h0 : xs.length ≠ 0) (h : xs.length ≤ 120) : badCnt xs = false := by
  unfold badCnt
  rw [decide_eq_true ⟨h0, h⟩]
  rfl

theorem l25Code_c (v : Value) (Ls : List (List Dd)) (w : World) (h : DdL w v Ls) (hf : ∀ i, i < Ls.length → FitsDd (ld Ls i)) (hN9 : Ls.length ≤ 1048576) :
    Calls Tryz.prog 23 #[v] w fun e w' => e = .returned (.int .i64 (dcode Ls)) ∧ Grew w w' := by
  obtain ⟨R, hR⟩ : ∃ R, R = dcode Ls := ⟨_, rfl⟩
  rw [← hR]
  obtain ⟨b, o, c, rfl, hc, hm, hcell⟩ := h
  have HA := Lib.hid (fun k (hk : k < Ls.length) (h : badCnt (ld Ls k) = true) => hR.trans (show dcode Ls = 3 by unfold dcode; rw [if_pos (anyL_at hk h)]))
  have HG := Lib.hid (fun (h : NoneL badCnt Ls Ls.length) i (hi : i < Ls.length) => (badCnt_le (h i hi)).2)
  have HS := Lib.hid (fun (h : NoneL badCnt Ls Ls.length) k (hk : k < Ls.length) (hb : badStep (ld Ls k) = true) => hR.trans (show dcode Ls = 5 by unfold dcode; rw [if_neg (by rw [noneL_any h]; simp), if_pos (anyL_at hk hb)]))
  have HZ := Lib.hid (fun (h : NoneL badCnt Ls Ls.length) (hb : NoneL badStep Ls Ls.length) => hR.trans (show dcode Ls = 0 by unfold dcode; rw [if_neg (by rw [noneL_any h]; simp), if_neg (by rw [noneL_any hb]; simp)]))
  have HC := Lib.hid hcell
  have HF := Lib.hid hf
  clear hcell hf hR
  generalize hN : Ls.length = n at *
  clear hN
  go_enter Tryz.func23, Tryz.ntmps23
  go_wp2_with fail
  go_loopw [3] (fun i wr => ∃ j : Nat, j ≤ n ∧ i = .int .i64 j ∧ Grew w wr ∧ Hid (NoneL badCnt Ls j)) (fun i _ => n - (intOf i).toNat)
  case atStart => exact ⟨0, Nat.zero_le _, rfl, Grew.refl _, NoneL.zero _ _⟩
  case round =>
    obtain ⟨j, hj, rfl, hB, HJ⟩ := hrel
    by_cases hlt : j < n
    · obtain ⟨u, k0, hd⟩ := HC.out j hlt
      have k1 := k0 _ hB
      have hA := Lib.hid (HA.out j hlt)
      have hS := Lib.hid (fun h => HJ.out.succ (k := j) h)
      obtain ⟨A, c', rfl⟩ := Dds_slice hd
      clear k0 hd
      by_cases h0 : (ld Ls j).length = 0
      · have hv := Lib.hid (hA.out (badCnt_zero h0))
        rw [h0] at k1
        go_wp2_with fail
        go_ret
        exact ⟨congrArg (fun k => Ending.returned (Value.int .i64 k)) hv.out.symm, hB⟩
      · have e0 : (((ld Ls j).length : Int) == 0) = false := by simpa using h0
        by_cases h1 : 120 < (ld Ls j).length
        · have hv := Lib.hid (hA.out (badCnt_big h1))
          have h2 : (120 : Int) < ((ld Ls j).length : Int) := by omega
          clear h0 h1
          generalize (ld Ls j).length = m at *
          go_wp2_with fail
          go_ret
          exact ⟨congrArg (fun k => Ending.returned (Value.int .i64 k)) hv.out.symm, hB⟩
        · have hs := Lib.hid (hS.out (badCnt_ok h0 (by omega)))
          have h2 : ¬ (120 : Int) < ((ld Ls j).length : Int) := by omega
          clear h0 h1
          generalize (ld Ls j).length = m at *
          go_wp2_with fail
          go_roundw
          case rel => exact ⟨j + 1, by omega, by go_num, hB, hs⟩
          case measure => simp [intOf]; omega
    · obtain rfl : j = n := by omega
      have HG2 := Lib.hid (HG.out HJ.out)
      have HS2 := Lib.hid (HS.out HJ.out)
      have HZ2 := Lib.hid (HZ.out HJ.out)
      clear HJ HA HG HS HZ hj hlt
      go_wp2_with fail
      go_loopw [4] (fun i wr2 => ∃ i' : Nat, i' ≤ j ∧ i = .int .i64 i' ∧ Grew w wr2 ∧ Hid (NoneL badStep Ls i')) (fun i _ => j - (intOf i).toNat)
      case atStart => exact ⟨0, Nat.zero_le _, rfl, hB, NoneL.zero _ _⟩
      case round =>
        obtain ⟨i', hi, rfl, hB2, HI⟩ := hrel
        by_cases hlt : i' < j
        · obtain ⟨u, k0, hd⟩ := HC.out i' hlt
          have k1 := k0 _ hB2
          have KB := Lib.hid (fun W (hW : Grew w W) => l25Bad_c u (ld Ls i') W (hd.grew hW) (HF.out i' hlt) (by have := HG2.out i' hlt; omega))
          have hA := Lib.hid (HS2.out i' hlt)
          have hS := Lib.hid (fun h => HI.out.succ (k := i') h)
          unfold badStep at hA hS
          obtain ⟨A, c', rfl⟩ := Dds_slice hd
          clear k0 hd
          generalize fbd (ld Ls i') (ld Ls i').length = d at *
          by_cases hd0 : 0 ≤ d
          · have hv := Lib.hid (hA.out (decide_eq_true hd0))
            go_wp2_with fail
            refine (KB.out _ hB2).mono ?_
            rintro e w2 ⟨rfl, hg2⟩
            go_wp2_with fail
            go_ret
            exact ⟨congrArg (fun k => Ending.returned (Value.int .i64 k)) hv.out.symm, hB2.trans hg2⟩
          · have hs := Lib.hid (hS.out (decide_eq_false hd0))
            go_wp2_with fail
            refine (KB.out _ hB2).mono ?_
            rintro e w2 ⟨rfl, hg2⟩
            go_wp2_with fail
            go_roundw
            case rel => exact ⟨i' + 1, by omega, by go_num, hB2.trans hg2, by unfold badStep; exact hs⟩
            case measure => simp [intOf]; omega
        · obtain rfl : i' = j := by omega
          have hv := Lib.hid (HZ2.out HI.out)
          go_wp2_with fail
          go_ret
          exact ⟨congrArg (fun k => Ending.returned (Value.int .i64 k)) hv.out.symm, hB2⟩
end Go.Proofs.YtfpkfgimhanekaaGreatDoor

/- What holds of the steps of a deduction, plain. -/
namespace Go.Proofs.YtfpkfgimhanekaaGreatDoor
open Go.RowKit

theorem fbd_cases (xs : List Dd) (m : Nat) : fbd xs m = -1 ∨ 0 ≤ fbd xs m := by
  induction m with
  | zero => exact .inl rfl
  | succ m ihm =>
    rw [fbd]
    split
    · exact .inr ‹_›
    · split
      · exact .inl rfl
      · exact .inr (by omega)
theorem dcode_zero {xs : List Dd} (h : dcode [xs] = 0) : xs.length ≠ 0 ∧ xs.length ≤ 120 ∧ fbd xs xs.length = -1 := by
  unfold dcode at h
  simp only [List.any_cons, List.any_nil, Bool.or_false] at h
  split at h
  · omega
  · rename_i h1
    split at h
    · omega
    · rename_i h2
      obtain ⟨h3, h4⟩ := badCnt_le (by simpa using h1)
      refine ⟨h3, h4, ?_⟩
      have h5 : ¬ (0 ≤ fbd xs xs.length) := by simpa [badStep] using h2
      rcases fbd_cases xs xs.length with h6 | h6
      · exact h6
      · omega
/-- What holds of the steps of a deduction. -/
theorem steps_prem {xs : List Dd} (h : fbd xs xs.length = -1) {i : Nat} {x : Dd} (hx : xs[i]? = some x) {q : Nat} (hq : q < x.2.1.length) : 0 ≤ it x.2.1 q ∧ it x.2.1 q < i := by
  have hi : i < xs.length := by
    rcases Nat.lt_or_ge i xs.length with hk | hk
    · exact hk
    · rw [List.getElem?_eq_none hk] at hx; cases hx
  obtain ⟨y, hy, hg⟩ := fbd_all h i hi
  rw [hx] at hy
  cases hy
  have h2 := hg.2.1 x.2.1[q] (List.getElem_mem hq)
  rw [it_get hq, List.length_take] at h2
  omega
end Go.Proofs.YtfpkfgimhanekaaGreatDoor

/- Premises and texts of the steps of a correct deduction. No program is in sight. -/
namespace Go.Proofs.YtfpkfgimhanekaaGreatDoor
open Go.RowKit

theorem prem_lt {xs : List Dd} (h : fbd xs xs.length = -1) {i : Nat} {x : Dd} (hx : xs[i]? = some x) : ∀ k ∈ x.2.1, 0 ≤ k ∧ k < (i : Int) := by
  intro k hk
  obtain ⟨q, hq, rfl⟩ := List.getElem_of_mem hk
  have := steps_prem h hx hq
  rw [it_get hq]
  exact this
theorem step_good {xs : List Dd} (h : fbd xs xs.length = -1) {i : Nat} {x : Dd} (hx : xs[i]? = some x) : x.2.2.1.length ≤ 12 ∧ (∀ t ∈ x.2.2.1, gp t = true) ∧ gp x.2.2.2.1 = true := by
  have hi := (List.getElem?_eq_some_iff.1 hx).1
  obtain ⟨y, hy, hg⟩ := fbd_all h i hi
  rw [hx] at hy
  cases hy
  obtain ⟨h1, h2⟩ := asl_map hg.1.1
  exact ⟨h1, h2, hg.1.2.1⟩
end Go.Proofs.YtfpkfgimhanekaaGreatDoor

/- The text of a deduction. No program is in sight. -/
namespace Go.Proofs.YtfpkfgimhanekaaGreatDoor
open Go.RowKit

theorem join_two (s x z : List UInt8) (r : List (List UInt8)) : Lib.join (x :: z :: r) s = x ++ s ++ Lib.join (z :: r) s := by
  simp [Lib.join, List.intercalate, List.intersperse]
theorem join_snoc (s y : List UInt8) : ∀ xs : List (List UInt8), Lib.join (xs ++ [y]) s = (if xs = [] then y else Lib.join xs s ++ s ++ y)
  | [] => by simp [Lib.join, List.intercalate]
  | [x] => by simp [Lib.join, List.intercalate, List.intersperse]
  | x :: z :: r => by
    have ih := join_snoc s y (z :: r)
    rw [if_neg (by simp)] at ih ⊢
    have e : x :: z :: r ++ [y] = x :: z :: (r ++ [y]) := rfl
    have e2 : z :: (r ++ [y]) = z :: r ++ [y] := rfl
    rw [e, join_two, e2, ih, join_two]
    simp only [List.append_assoc]
theorem joinB_len (s : ByteArray) (m : Nat) : ∀ L : List ByteArray, (∀ x ∈ L, x.size ≤ m) → (joinB L s).length ≤ L.length * (m + s.size)
  | [], _ => by simp [joinB, Lib.join, List.intercalate]
  | [x], h => by
    have h1 := h x (by simp)
    have e : joinB [x] s = x.data.toList := by simp [joinB, Lib.join, List.intercalate]
    rw [e]
    have e2 : x.data.toList.length = x.size := rfl
    rw [e2]
    simp
    omega
  | x :: z :: r, h => by
    have ih := joinB_len s m (z :: r) (fun y hy => h y (List.mem_cons_of_mem _ hy))
    have h1 := h x (by simp)
    have e : joinB (x :: z :: r) s = x.data.toList ++ s.data.toList ++ joinB (z :: r) s := join_two _ _ _ _
    rw [e]
    have e2 : x.data.toList.length = x.size := rfl
    have e3 : s.data.toList.length = s.size := rfl
    rw [List.length_append, List.length_append, e2, e3]
    have e4 : (x :: z :: r).length * (m + s.size) = (z :: r).length * (m + s.size) + (m + s.size) := by
      rw [List.length_cons, Nat.add_mul, Nat.one_mul]
    rw [e4]
    omega
/-- Texts with a text between, as a text. -/
def jB (L : List ByteArray) (s : ByteArray) : ByteArray := ⟨(joinB L s).toArray⟩
theorem jB_size (L : List ByteArray) (s : ByteArray) : (jB L s).size = (joinB L s).length := by unfold jB; simp [ByteArray.size]
theorem jB_zero (s : ByteArray) : jB [] s = ⟨#[]⟩ := rfl
theorem jB_snoc (L : List ByteArray) (x s : ByteArray) : jB (L ++ [x]) s = (if L = [] then x else jB L s ++ s ++ x) := by
  unfold jB joinB
  rw [List.map_append, List.map_singleton, join_snoc]
  by_cases h : L = []
  · subst h
    simp
  · rw [if_neg (by simpa using h), if_neg h]
    apply ByteArray.ext
    simp
/-- The numbers' numerals. -/
def nT (L : List Int) : List ByteArray := L.map fun k => dcm k.toNat
theorem nT_take {L : List Int} {j : Nat} (h : j < L.length) : (nT L).take (j + 1) = (nT L).take j ++ [dcm (it L j).toNat] := by
  have h1 : (nT L)[j]? = some (dcm (it L j).toNat) := by
    unfold nT
    rw [List.getElem?_map, List.getElem?_eq_getElem h, it_get h]; rfl
  rw [List.take_add_one, h1]; rfl
theorem nT_len (L : List Int) : (nT L).length = L.length := by simp [nT]
def fldT (x : Dd) : List ByteArray := [dcm x.1.toNat, jB (nT x.2.1) ⟨#[44]⟩, jB x.2.2.1 ⟨#[47]⟩, x.2.2.2.1, dcm x.2.2.2.2.toNat]
def lnT (x : Dd) : ByteArray := jB (fldT x) ⟨#[59]⟩ ++ ⟨#[10]⟩
/-- The text of the first j steps. -/
def dxT (xs : List Dd) : Nat → ByteArray
  | 0 => ⟨#[]⟩
  | j + 1 => dxT xs j ++ lnT (xs.getD j (0, [], [], ByteArray.empty, 0))
theorem dxT_succ {xs : List Dd} {j : Nat} {x : Dd} (hx : xs[j]? = some x) : dxT xs (j + 1) = dxT xs j ++ lnT x := by
  show dxT xs j ++ lnT (xs.getD j (0, [], [], ByteArray.empty, 0)) = _
  simp [List.getD, hx]
/-- What is right of a step of a correct deduction. -/
structure GoodX (n : Nat) (x : Dd) : Prop where
  r0 : 0 ≤ x.1
  r1 : x.1 ≤ 10
  n0 : 0 ≤ x.2.2.2.2
  n1 : x.2.2.2.2 ≤ 12
  pr : ∀ k ∈ x.2.1, 0 ≤ k ∧ k < (n : Int)
  pl : x.2.1.length ≤ 1048576
  al : x.2.2.1.length ≤ 12
  at_ : ∀ t ∈ x.2.2.1, t.size ≤ 1048576
  ct : x.2.2.2.1.size ≤ 1048576
theorem goodX_of {xs : List Dd} (h : fbd xs xs.length = -1) (hf : FitsDd xs) {i : Nat} {x : Dd} (hx : xs[i]? = some x) : GoodX xs.length x := by
  obtain ⟨y, hy, hg⟩ := fbd_all h i (List.getElem?_eq_some_iff.1 hx).1
  rw [hx] at hy
  obtain rfl := Option.some.inj hy
  obtain ⟨f1, f2, f3, f4⟩ := hf x (List.mem_of_getElem? hx)
  have hi := (List.getElem?_eq_some_iff.1 hx).1
  have hp := prem_lt h hx
  have hs := step_good h hx
  have hr : 0 ≤ x.1 ∧ x.1 ≤ 10 := by
    rcases hg.2.2 with hi | he
    · rcases hi with ⟨h2, _⟩ | ⟨h2, _⟩ | ⟨h2, _⟩ | ⟨h2, _⟩ | ⟨h2, _⟩ | ⟨h2, _⟩ <;> omega
    · rcases he with ⟨h2, _⟩ | ⟨h2, _⟩ | ⟨h2, _⟩ | ⟨h2, _⟩ <;> omega
  have hnum : 0 ≤ x.2.2.2.2 ∧ x.2.2.2.2 ≤ 12 := by
    rcases hg.1.2.2 with h1 | h1
    · rcases hg.2.2 with hi | he
      · rcases hi with ⟨_, hn, _⟩ | ⟨h2, _⟩ | ⟨h2, _⟩ | ⟨h2, _⟩ | ⟨h2, _⟩ | ⟨h2, _⟩
        · have := hs.1; omega
        all_goals omega
      · rcases he with ⟨h2, _⟩ | ⟨h2, _⟩ | ⟨h2, _⟩ | ⟨h2, _⟩ <;> omega
    · omega
  exact ⟨hr.1, hr.2, hnum.1, hnum.2, fun k hk => by have := hp k hk; omega, f1, hs.1, fun t ht => by
    obtain ⟨j, hj, rfl⟩ := List.getElem_of_mem ht
    have := f3 j hj
    simpa [st, List.getD, hj] using this, f4⟩
theorem dcm_small {n : Nat} (h : n < 1000) : (dcm n).size ≤ 4 := by rw [dcm_size]; exact nDigits_le 3 n (by omega)
theorem nums_len {x : Dd} {n : Nat} (h : GoodX n x) (hn : n ≤ 1000) : (joinB (nT x.2.1) ⟨#[44]⟩).length ≤ 5 * 1048576 := by
  have h1 := joinB_len ⟨#[44]⟩ 4 (nT x.2.1) (fun y hy => by
    unfold nT at hy
    obtain ⟨k, hk, rfl⟩ := List.mem_map.1 hy
    have := h.pr k hk
    exact dcm_small (by omega))
  rw [nT_len] at h1
  have h2 := h.pl
  have e : (⟨#[44]⟩ : ByteArray).size = 1 := rfl
  rw [e] at h1
  omega
theorem asm_len {x : Dd} {n : Nat} (h : GoodX n x) : (joinB x.2.2.1 ⟨#[47]⟩).length ≤ 12 * 1048577 := by
  have h1 := joinB_len ⟨#[47]⟩ 1048576 x.2.2.1 h.at_
  have h2 := h.al
  have e : (⟨#[47]⟩ : ByteArray).size = 1 := rfl
  rw [e] at h1
  simp only [Nat.reduceAdd] at h1
  have h3 := Nat.mul_le_mul_right 1048577 h2
  simp only [Nat.reduceMul] at h3
  exact Nat.le_trans h1 (Nat.le_trans h3 (by simp))
theorem fld_len {x : Dd} {n : Nat} (h : GoodX n x) (hn : n ≤ 1000) : (joinB (fldT x) ⟨#[59]⟩).length ≤ 100000000 := by
  have h1 := joinB_len ⟨#[59]⟩ 13000000 (fldT x) (fun y hy => by
    simp only [fldT, List.mem_cons, List.not_mem_nil, or_false] at hy
    rcases hy with rfl | rfl | rfl | rfl | rfl
    · have := dcm_small (n := x.1.toNat) (by have := h.r1; omega); omega
    · rw [jB_size]; have := nums_len h hn; omega
    · rw [jB_size]; have := asm_len h; omega
    · have := h.ct; omega
    · have := dcm_small (n := x.2.2.2.2.toNat) (by have := h.n1; omega); omega)
  have e : (⟨#[59]⟩ : ByteArray).size = 1 := rfl
  rw [e] at h1
  have e2 : (fldT x).length = 5 := rfl
  rw [e2] at h1
  omega
theorem lnT_size {x : Dd} {n : Nat} (h : GoodX n x) (hn : n ≤ 1000) : (lnT x).size ≤ 100000001 := by
  unfold lnT
  rw [ByteArray.size_append, jB_size]
  have := fld_len h hn
  have e : (⟨#[10]⟩ : ByteArray).size = 1 := rfl
  omega
theorem dxT_size {xs : List Dd} (h : ∀ (i : Nat) (x : Dd), xs[i]? = some x → GoodX xs.length x) (hn : xs.length ≤ 1000) : ∀ j, j ≤ xs.length → (dxT xs j).size ≤ j * 100000001
  | 0, _ => by simp [dxT, ByteArray.size]
  | j + 1, hj => by
    have ih := dxT_size h hn j (by omega)
    have hx : xs[j]? = some xs[j] := List.getElem?_eq_getElem (by omega)
    rw [dxT_succ hx, ByteArray.size_append]
    have := lnT_size (h j _ hx) hn
    omega
noncomputable def tdF (xs : List Dd) : ByteArray × Int := if dcode [xs] = 0 then (dxT xs xs.length, 0) else (ByteArray.empty, dcode [xs])
end Go.Proofs.YtfpkfgimhanekaaGreatDoor

/- decimal, joinNumbers of the program, l11Decs, l11Join of the reference, WriteString. -/
namespace Go.Proofs.YtfpkfgimhanekaaGreatDoor
open Go.RowKit

/-- The table of powers of ten stands in every world behind w. -/
def Pow (w : World) : Prop := ∀ W, Grew w W → Lib.TabIs Tryz.prog W "internal/strconv.uint64pow10" .u64 Lib.pow10Tab
theorem Pow.of {w : World} (h : Lib.TabIs Tryz.prog w "internal/strconv.uint64pow10" .u64 Lib.pow10Tab) : Pow w := fun W hW => Lib.tabBelow_of_tabIs h W hW
theorem Pow.grew {w w' : World} (h : Pow w) (hg : Grew w w') : Pow w' := fun W hW => h W (hg.trans hW)
theorem decimal_any (n : Nat) (w : World) (h : n ≤ 1000000000) (hp : Pow w) : Calls Tryz.prog 38 #[.int .i64 n] w fun e w' => e = .returned (.string (dcm n)) ∧ Grew w w' := by
  have K0 := Tryz.strconv_FormatInt_10 n (by omega) (by omega) w (hp w (Grew.refl w))
  have e : Lib.itoa (n : Int) = Lib.decDigits n := by unfold Lib.itoa; rw [if_neg (by omega), Int.toNat_natCast]
  rw [e] at K0
  have K1 : Calls Tryz.prog _ #[.int .i64 n, .int .i64 10] w (fun e w' => e = .returned (.string (dcm n)) ∧ Grew w w') := K0.mono fun e w' hh => ⟨hh.1, by
    obtain ⟨k, os, rfl⟩ := hh.2
    exact Lib.below_grow _ w (Nat.le_refl _) k os⟩
  have K := Lib.hid K1
  clear K1
  clear K0 e hp
  generalize dcm n = D at *
  go_enter Tryz.func38, Tryz.ntmps38
  go_wp2_with fail
  refine (K.out).mono ?_
  rintro e w1 ⟨rfl, hg1⟩
  go_wp2_with fail
  go_ret
  exact ⟨rfl, hg1⟩

theorem own_emptyL (w : World) : OwnS (w.alloc (.cells #[] 9)) w.heap.size (.slice (some ⟨w.heap.size, 0, none⟩) 0 0) [] :=
  World.ownsRow_lit (e := 9) (size := 1) w #[] 0 (Nat.le_refl _) (by first | omega | decide) rfl
set_option maxHeartbeats 2000000 in
theorem joinNumbers_c (v : Value) (L : List Int) (w : World) (h : Ints w v L) (hk : ∀ k ∈ L, 0 ≤ k ∧ k < 1000) (hn : L.length ≤ 1048576) (hl : (joinB (nT L) ⟨#[44]⟩).length ≤ 140737488355328) (hp : Pow w) :
    Calls Tryz.prog 53 #[v] w fun e w' => e = .returned (.string (jB (nT L) ⟨#[44]⟩)) ∧ Grew w w' := by
  have HL0 := nT_len L
  have HT := Lib.hid (fun j (hj : j < L.length) => nT_take hj)
  have HK := Lib.hid (fun j (hj : j < L.length) => (by have := hk (it L j) (by rw [← it_get hj]; exact List.getElem_mem hj); exact ⟨by omega, by omega⟩ : it L j = ((it L j).toNat : Int) ∧ (it L j).toNat < 1000))
  have HJ := Lib.hid (fun v W (hv : Strs W v (nT L)) => joinS_c v (nT L) ⟨#[44]⟩ W hv (by rw [nT_len]; exact hn) hl)
  unfold jB
  generalize joinB (nT L) ⟨#[44]⟩ = JJ at *
  rcases h.open_ with ⟨rfl, rfl⟩ | ⟨b, o, c, rfl, hc, hm, hb, hcell⟩
  · go_enter Tryz.func53, Tryz.ntmps53
    go_wp2_with fail
    refine wp_loop_rounds 1 ?_; rw [rounds_succ]
    go_wp2_with fail
    refine (HJ.out _ _ (Strs.nil_ _)).mono ?_
    rintro e w1 ⟨rfl, hg1⟩
    go_wp2_with fail
    go_ret
    exact ⟨rfl, hg1⟩
  have HC := Lib.hid hcell
  have HKT : Hid ((nT L).take L.length = nT L) := Lib.hid (by rw [← HL0, List.take_length])
  clear hcell hk
  generalize hN : L.length = n at *
  clear hN
  generalize nT L = K at *
  go_enter Tryz.func53, Tryz.ntmps53
  go_wp2_with fail
  go_loopw [3, 8] (fun vv i wr => ∃ (j : Nat), j ≤ n ∧ i = .int .i64 j ∧ Hid (OwnS wr w.heap.size vv (K.take j)) ∧ Grew w wr) (fun _ i _ => n - (intOf i).toNat)
  case atStart => exact ⟨0, Nat.zero_le _, rfl, by rw [List.take_zero]; exact Lib.hid (OwnS.nil_ _ _), Grew.refl w⟩
  case round =>
    obtain ⟨j, hj, rfl, hO, hB⟩ := hrel
    have hljl : (K.take j).length = j := by rw [List.length_take]; omega
    obtain ⟨AJ, cj, rfl⟩ := strs_slice hO.out.strs
    by_cases hlt : j < n
    · obtain ⟨hk1, hk2⟩ := HK.out j hlt
      have z0 := HC.out j hlt _ hB
      have hst := Lib.hid (HT.out j hlt)
      rw [hk1] at z0
      have KD := Lib.hid (decimal_any (it L j).toNat wr (by omega) (hp.grew hB))
      generalize (it L j).toNat = kq at *
      generalize dcm kq = D at *
      rw [hljl]
      rw [hljl] at hO
      generalize hk1 : K.take (j + 1) = K1 at *
      have HK1 := Lib.hid hk1
      clear hk1
      generalize K.take j = K0 at *
      have hlj := Lib.hid (show K0.length ≤ 1048576 by omega)
      go_wp2_with fail
      refine (KD.out).mono ?_
      rintro e w2 ⟨rfl, hg2⟩
      have hB2 := hB.trans hg2
      have hO2 := Lib.hid (hO.out.grew hg2)
      go_wp2_with (first | (at_builtin; refine wpList_appStr (w0 := w) _ _ rfl rfl _ K0 rfl (hO2.out.grew ((Grew.refl _).alloc _)) (hB2.alloc _) _ D rfl (rd_lit _ _ _) hlj.out ?_; intro v3 w3 hown3 hg3 hby3))
      go_roundw
      case rel => exact ⟨j + 1, by omega, by go_num, by rw [HK1.out, hst.out]; exact Lib.hid hown3, hg3⟩
      case measure => simp [intOf]; omega
    · obtain rfl : j = n := by omega
      rw [HKT.out] at hO hljl
      rw [HKT.out, hljl]
      rw [hljl] at hO
      have KJ := Lib.hid (HJ.out _ _ hO.out.strs)
      go_wp2_with fail
      refine (KJ.out).mono ?_
      rintro e w2 ⟨rfl, hg2⟩
      go_wp2_with fail
      go_ret
      exact ⟨rfl, hB.trans hg2⟩
set_option maxHeartbeats 2000000 in
theorem l11Decs_c (v : Value) (L : List Int) (w : World) (h : Ints w v L) (hk : ∀ k ∈ L, 0 ≤ k ∧ k < 1000) (hn : L.length ≤ 1048576) :
    Calls Tryz.prog 45 #[v] w fun e w' => ∃ u, e = .returned u ∧ OwnS w' w.heap.size u (nT L) ∧ Grew w w' := by
  have HL0 := nT_len L
  have HT := Lib.hid (fun j (hj : j < L.length) => nT_take hj)
  have HK := Lib.hid (fun j (hj : j < L.length) => (by have := hk (it L j) (by rw [← it_get hj]; exact List.getElem_mem hj); exact ⟨by omega, by omega⟩ : it L j = ((it L j).toNat : Int) ∧ (it L j).toNat < 1000))
  rcases h.open_ with ⟨rfl, rfl⟩ | ⟨b, o, c, rfl, hc, hm, hb, hcell⟩
  · go_enter Tryz.func45, Tryz.ntmps45
    go_wp2_with fail
    refine wp_loop_rounds 1 ?_; rw [rounds_succ]
    go_wp2_with fail
    go_ret
    exact ⟨_, rfl, own_emptyL w, (Grew.refl w).alloc _⟩
  have HC := Lib.hid hcell
  have HKT : Hid ((nT L).take L.length = nT L) := Lib.hid (by rw [← HL0, List.take_length])
  clear hcell hk
  generalize hN : L.length = n at *
  clear hN
  generalize nT L = K at *
  have he0 := Lib.hid (own_emptyL w)
  go_enter Tryz.func45, Tryz.ntmps45
  go_wp2_with fail
  go_loopw [3, 4] (fun vv i wr => ∃ (j : Nat), j ≤ n ∧ i = .int .i64 j ∧ Hid (OwnS wr w.heap.size vv (K.take j)) ∧ Grew w wr) (fun _ i _ => n - (intOf i).toNat)
  case atStart => exact ⟨0, Nat.zero_le _, rfl, by rw [List.take_zero]; exact he0, (Grew.refl w).alloc _⟩
  case round =>
    obtain ⟨j, hj, rfl, hO, hB⟩ := hrel
    have hljl : (K.take j).length = j := by rw [List.length_take]; omega
    obtain ⟨AJ, cj, rfl⟩ := strs_slice hO.out.strs
    by_cases hlt : j < n
    · obtain ⟨hk1, hk2⟩ := HK.out j hlt
      have z0 := HC.out j hlt _ hB
      have hst := Lib.hid (HT.out j hlt)
      rw [hk1] at z0
      have KD := Lib.hid (fun W => l01DecN_c 3 (it L j).toNat W (by omega) (by omega))
      generalize (it L j).toNat = kq at *
      generalize dcm kq = D at *
      rw [hljl]
      rw [hljl] at hO
      generalize hk1 : K.take (j + 1) = K1 at *
      have HK1 := Lib.hid hk1
      clear hk1
      generalize K.take j = K0 at *
      have hlj := Lib.hid (show K0.length ≤ 1048576 by omega)
      go_wp2_with fail
      refine (KD.out _).mono ?_
      rintro e w2 ⟨rfl, hg2⟩
      have hB2 := hB.trans hg2
      have hO2 := Lib.hid (hO.out.grew hg2)
      go_wp2_with (first | (at_builtin; refine wpList_appStr (w0 := w) _ _ rfl rfl _ K0 rfl (hO2.out.grew ((Grew.refl _).alloc _)) (hB2.alloc _) _ D rfl (rd_lit _ _ _) hlj.out ?_; intro v3 w3 hown3 hg3 hby3))
      go_roundw
      case rel => exact ⟨j + 1, by omega, by go_num, by rw [HK1.out, hst.out]; exact Lib.hid hown3, hg3⟩
      case measure => simp [intOf]; omega
    · obtain rfl : j = n := by omega
      rw [HKT.out] at hO hljl
      rw [HKT.out, hljl]
      rw [hljl] at hO
      go_wp2_with fail
      go_ret
      exact ⟨_, rfl, hO.out, hB⟩
set_option maxHeartbeats 2000000 in
theorem l11Join_c (v : Value) (L : List ByteArray) (s : ByteArray) (m : Nat) (w : World) (h : Strs w v L) (hm9 : ∀ x ∈ L, x.size ≤ m) (hm8 : m ≤ 1000000000) (hs : s.size ≤ 10) (hn : L.length ≤ 1048576) :
    Calls Tryz.prog 44 #[v, .string s] w fun e w' => e = .returned (.string (jB L s)) ∧ w' = w := by
  have HSZ := Lib.hid (fun j => (by
    have h1 := joinB_len s m (L.take j) (fun x hx => hm9 x (List.mem_of_mem_take hx))
    rw [jB_size]
    have h2 : (L.take j).length ≤ 1048576 := by rw [List.length_take]; omega
    have h3 : (L.take j).length * (m + s.size) ≤ 1048576 * 1000000010 := Nat.mul_le_mul h2 (by omega)
    omega : (jB (L.take j) s).size ≤ 1048576 * 1000000010))
  have HST := Lib.hid (fun j (hj : j < L.length) => (by
    rw [List.take_add_one, List.getElem?_eq_getElem hj]
    have e : L[j] = st L j := by simp [st, List.getD, hj]
    show jB (L.take j ++ [L[j]]) s = _
    rw [jB_snoc, e]
    by_cases h0 : j = 0
    · subst h0; rw [List.take_zero, if_pos rfl, if_pos rfl]
    · rw [if_neg h0, if_neg (by intro h1; have := congrArg List.length h1; rw [List.length_take] at this; simp only [List.length_nil] at this; omega)] : jB (L.take (j + 1)) s = if j = 0 then st L j else jB (L.take j) s ++ s ++ st L j))
  have HSM := Lib.hid (fun j (hj : j < L.length) => (by have := hm9 (st L j) (by rw [← (by simp [st, List.getD, hj] : L[j] = st L j)]; exact List.getElem_mem hj); omega : (st L j).size ≤ 1000000000))
  have HZ : Hid (jB (L.take 0) s = ⟨#[]⟩) := Lib.hid (by rw [List.take_zero]; rfl)
  have HE : Hid (jB (L.take L.length) s = jB L s) := Lib.hid (by rw [List.take_length])
  rcases h.open_ with ⟨rfl, rfl⟩ | ⟨b, o, c, rfl, hc, hm, hb, hcell⟩
  · go_enter Tryz.func44, Tryz.ntmps44
    go_wp2_with fail
    refine wp_loop_rounds 1 ?_; rw [rounds_succ]
    go_wp2_with fail
    go_ret
    exact ⟨rfl, rfl⟩
  have HC := Lib.hid hcell
  clear hcell hm9 h
  generalize jB L s = R at *
  generalize hN : L.length = n at *
  clear hN
  go_enter Tryz.func44, Tryz.ntmps44
  go_wp2_with fail
  go_loopw [5, 6] (fun vv i wr => ∃ (j : Nat), j ≤ n ∧ i = .int .i64 j ∧ vv = .string (jB (L.take j) s) ∧ wr = w) (fun _ i _ => n - (intOf i).toNat)
  case atStart => exact ⟨0, Nat.zero_le _, rfl, by rw [HZ.out], rfl⟩
  case round =>
    obtain ⟨j, hj, rfl, rfl, rfl⟩ := hrel
    by_cases hlt : j < n
    · have z0 := HC.out j hlt _ (Grew.refl _)
      have hst := HST.out j hlt
      have hz1 := HSZ.out j
      have hz2 := HSM.out j hlt
      have hz3 := HZ.out
      generalize st L j = X at *
      generalize hk1 : jB (L.take (j + 1)) s = K1 at *
      have HK1 := Lib.hid hk1
      clear hk1
      by_cases h0 : j = 0
      · subst h0
        simp only [Int.natCast_zero, Nat.add_zero] at z0 ⊢
        rw [hz3]
        rw [if_pos rfl] at hst
        have HS2 := Lib.hid hst
        clear hst
        have hzz : ¬ 9223372036854775807 < (⟨#[]⟩ : ByteArray).size + X.size := by show ¬ 9223372036854775807 < 0 + X.size; omega
        go_wp2_with fail
        go_roundw
        case rel => exact ⟨1, by omega, by go_num, by rw [HK1.out, HS2.out]; first | rfl | simp, by first | rfl | trivial⟩
        case measure => simp [intOf]; omega
      · rw [if_neg h0] at hst
        have HS2 := Lib.hid hst
        clear hst hz3
        generalize jB (L.take j) s = K0 at *
        have s1 : ¬ 9223372036854775807 < K0.size + s.size := by omega
        have s2 : ¬ 9223372036854775807 < K0.size + s.size + X.size := by omega
        have hp : 0 < j := by omega
        go_wp2_with fail
        go_roundw
        case rel => exact ⟨j + 1, by omega, by go_num, by rw [HK1.out, HS2.out], by first | rfl | trivial⟩
        case measure => simp [intOf]; omega
    · obtain rfl : j = n := by omega
      go_wp2_with fail
      go_ret
      exact ⟨by rw [HE.out]; rfl, rfl⟩
/-- A builder with its bytes. -/
def Bld (B b : Nat) (s : ByteArray) (w : World) : Prop := Lib.IsBuilder 76 5 B b (Lib.strCells s) w
theorem bAt_grew {B b : Nat} {p : Value} {bs : List Value} {w w' : World} (h : Lib.BuilderAt 76 5 B b p bs w) (hg : Grew w w') : Lib.BuilderAt 76 5 B b p bs w' := by
  obtain ⟨h1, v, h2, h3, h4⟩ := h
  exact ⟨h1, v, (hg.block (blk_lt h2)).trans h2, own_grew h3 hg, h4⟩
theorem Bld.grew {B b : Nat} {s : ByteArray} {w w' : World} (h : Bld B b s w) (hg : Grew w w') : Bld B b s w' := h.imp (fun h => bAt_grew h hg) (fun h => bAt_grew h hg)
theorem strCells_app (a b : ByteArray) : Lib.strCells (a ++ b) = Lib.strCells a ++ Lib.strCells b := by
  unfold Lib.strCells
  simp
theorem writeString_c (B b : Nat) (s t : ByteArray) (w0 w : World) (h : Bld B b s w) (hB : B = w0.heap.size) (hg : Grew w0 w) (hl : s.size + t.size ≤ 140737488355328) :
    Calls Tryz.prog 54 #[.pointer (some ⟨b, 0, none⟩), .string t] w fun e w' => e = .returned (.tuple #[.int .i64 t.size, .nilIface]) ∧ Bld B b (s ++ t) w' ∧ Grew w0 w' := by
  have hlen := Lib.strCells_length s
  refine (Any.Builder_WriteString { Tryz.lays156 with } Tryz.Builder_Extra_156 B b (Lib.strCells s) t w h (by rw [hlen]; exact hl) (by rw [hB]; exact hg.size)).mono fun e w' hh => ?_
  obtain ⟨h1, h2, h3⟩ := hh
  refine ⟨h1, .inr (by rw [strCells_app]; exact h2), ?_⟩
  rw [hB] at h3
  exact Below.trans hg h3
theorem bldString_c (B b : Nat) (s : ByteArray) (w0 w : World) (h : Bld B b s w) (hB : B = w0.heap.size) (hg : Grew w0 w) :
    Calls Tryz.prog 55 #[.pointer (some ⟨b, 0, none⟩)] w fun e w' => e = .returned (.string s) ∧ Grew w0 w' := by
  refine (Tryz.Builder_String_any B b s.data.toList w h (by rw [hB]; exact hg.size)).mono fun e w' hh => ?_
  obtain ⟨h1, h3⟩ := hh
  rw [hB] at h3
  exact ⟨h1, Below.trans hg h3⟩
end Go.Proofs.YtfpkfgimhanekaaGreatDoor

/- deductionText of the program, l25Text of the reference; DeductionText of both. Printed by tdgen.py. -/
namespace Go.Proofs.YtfpkfgimhanekaaGreatDoor
open Go.RowKit

theorem lit5 (w : World) (a b c d e : ByteArray) : Strs (w.alloc (.cells #[.string a, .string b, .string c, .string d, .string e] 9)) (.slice (some ⟨w.heap.size, 0, none⟩) 5 5) [a, b, c, d, e] :=
  OwnS.strs (B := w.heap.size) (World.ownsRow_lit (e := 9) (size := 1) w #[.string a, .string b, .string c, .string d, .string e] 5 (Nat.le_refl _) (by first | omega | decide) rfl)
theorem bld_new (w : World) : Bld w.heap.size w.heap.size ⟨#[]⟩ (w.alloc (.cells #[.pointer none, .slice none 0 0] 76)) :=
  .inl ⟨Nat.le_refl _, _, blk_new w _, World.ownsRow_nil _ _ _ 1, by simp [Value.ownBlock]⟩

set_option maxRecDepth 20000 in
set_option maxHeartbeats 8000000 in
theorem deductionText_c (v : Value) (xs : List Dd) (w : World) (hv : Dds w v xs) (hG : ∀ (i : Nat) (x : Dd), xs[i]? = some x → GoodX xs.length x) (hn0 : xs.length ≠ 0) (hn : xs.length ≤ 120) (hp : Pow w) :
    Calls Tryz.prog 27 #[v] w fun e w' => e = .returned (.string (dxT xs xs.length)) ∧ Grew w w' := by
  rcases hv with ⟨_, h0⟩ | ⟨b, o, c, rfl, hc, hm, hb, hcell⟩
  · rw [h0] at hn0; exact absurd rfl hn0
  have HX := Lib.hid (fun j (hj : j < xs.length) => (⟨xs[j], List.getElem?_eq_getElem hj⟩ : ∃ x, xs[j]? = some x))
  have HG := Lib.hid (fun j x (hx : xs[j]? = some x) => hG j x hx)
  have HS := Lib.hid (fun j x (hx : xs[j]? = some x) => dxT_succ hx)
  have HSZ := Lib.hid (fun j (hj : j ≤ xs.length) => (by have h1 := dxT_size hG (by omega) j hj; have h2 : j * 100000001 ≤ 120 * 100000001 := Nat.mul_le_mul_right _ (by omega); simp only [Nat.reduceMul] at h2; omega : (dxT xs j).size ≤ 12000000120))
  have HC := Lib.hid hcell
  have HN := Lib.hid hn
  clear hcell hG hn0
  generalize hR : dxT xs xs.length = R at *
  generalize hN : xs.length = n at *
  have HR9 := Lib.hid hR
  clear hN hR
  go_enter Tryz.func27, Tryz.ntmps27
  go_wp2_with fail
  go_loopw [9] (fun i wr => ∃ (j : Nat), j ≤ n ∧ i = .int .i64 j ∧ Hid (Bld w.heap.size w.heap.size (dxT xs j) wr) ∧ Grew w wr) (fun i _ => n - (intOf i).toNat)
  case atStart => exact ⟨0, Nat.zero_le _, rfl, Lib.hid (bld_new w), (Grew.refl w).alloc _⟩
  case round =>
    obtain ⟨j, hj, rfl, hO, hB⟩ := hrel
    by_cases hlt : j < n
    case pos =>
      obtain ⟨x, hx⟩ := HX.out j hlt
      have hg := HG.out j x hx
      have hs := HS.out j x hx
      have hz := HSZ.out j (by omega)
      have hz2 := fld_len hg (by omega)
      obtain ⟨up, ua, hcl, hup, hua⟩ := HC.out j x hx
      obtain ⟨k0, k1, k2, k3, k4⟩ := hcl.grew hb hB
      have HUP := Lib.hid hup
      have HUA := Lib.hid hua
      obtain ⟨A1, ca1, rfl⟩ := ints_slice hup
      obtain ⟨A2, ca2, rfl⟩ := strs_slice hua
      have hpw := Lib.hid (hp.grew hB)
      have KN := Lib.hid (fun W (hW : Grew wr W) => joinNumbers_c _ x.2.1 W (HUP.out.grew (hB.trans hW)) (fun k hk => by have := hg.pr k hk; omega) hg.pl (by have := nums_len hg (by omega); omega) (hpw.out.grew hW))
      have KJ := Lib.hid (fun W (hW : Grew wr W) => joinS_c _ x.2.2.1 ⟨#[47]⟩ W (HUA.out.grew (hB.trans hW)) (by have := hg.al; omega) (by have := asm_len hg; omega))
      have KF := Lib.hid (fun W v (hv : Strs W v (fldT x)) => joinS_c v (fldT x) ⟨#[59]⟩ W hv (by simp [fldT]) (by omega))
      have KD0 := Lib.hid (fun W => decimal_small x.1.toNat W (by have := hg.r1; omega))
      have KD4 := Lib.hid (fun W => decimal_small x.2.2.2.2.toNat W (by have := hg.n1; omega))
      have hjs : (jB (fldT x) ⟨#[59]⟩).size ≤ 100000000 := by rw [jB_size]; exact hz2
      have KW := Lib.hid (fun W (hW : Grew wr W) => writeString_c w.heap.size w.heap.size (dxT xs j) (jB (fldT x) ⟨#[59]⟩ ++ ⟨#[10]⟩) w W (hO.out.grew hW) rfl (hB.trans hW) (by rw [ByteArray.size_append]; have e : (⟨#[10]⟩ : ByteArray).size = 1 := rfl; omega))
      unfold lnT at hs
      unfold fldT at KF KW hs hjs
      obtain ⟨q0, hq0⟩ : ∃ q0 : Nat, x.1 = q0 := ⟨x.1.toNat, by have := hg.r0; omega⟩
      obtain ⟨q4, hq4⟩ : ∃ q4 : Nat, x.2.2.2.2 = q4 := ⟨x.2.2.2.2.toNat, by have := hg.n0; omega⟩
      clear hcl hup hua hx hg hz2
      obtain ⟨r0, rA, rs, rc, rn⟩ := x
      simp only at *
      subst hq0 hq4
      simp only [Int.toNat_natCast] at *
      have eJ : ∀ L s, (⟨(joinB L s).toArray⟩ : ByteArray) = jB L s := fun L s => rfl
      simp only [eJ] at KJ KF
      clear eJ
      generalize hDN : jB (nT rA) ⟨#[44]⟩ = DN at *
      generalize hDJ : jB rs ⟨#[47]⟩ = DJ at *
      generalize hD0 : dcm q0 = D0 at *
      generalize hD4 : dcm q4 = D4 at *
      clear hDN hDJ hD0 hD4
      generalize hDF : jB [D0, DN, DJ, rc, D4] ⟨#[59]⟩ = DF at *
      clear hDF
      generalize hk9 : dxT xs (j + 1) = T1 at *
      have HK9 := Lib.hid hk9
      clear hk9
      generalize dxT xs j = T0 at *
      have hs9 := Lib.hid hs
      clear hs hO
      have s1 : ¬ 9223372036854775807 < DF.size + 1 := by omega
      obtain ⟨wB, hwB⟩ : ∃ wB, wB = wr.alloc (.cells #[.int .i64 (q0 : Int), .slice A1 rA.length ca1, .slice A2 rs.length ca2, .string rc, .int .i64 (q4 : Int)] 52) := ⟨_, rfl⟩
      have gB := Lib.hid (show Grew wr wB by rw [hwB]; exact (Grew.refl wr).alloc _)
      have bB := Lib.hid (show wB.heap[wr.heap.size]? = some (.cells #[.int .i64 (q0 : Int), .slice A1 rA.length ca1, .slice A2 rs.length ca2, .string rc, .int .i64 (q4 : Int)] 52) by rw [hwB]; exact blk_new wr _)
      have c0 : ∀ W, Grew wB W → W.cell? ⟨wr.heap.size, 0, none⟩ = some (.int .i64 (q0 : Int)) := fun W hW => by rw [blk_cell ((hW.block (blk_lt bB.out)).trans bB.out)]; rfl
      have c1 : ∀ W, Grew wB W → W.cell? ⟨wr.heap.size, 1, none⟩ = some (.slice A1 rA.length ca1) := fun W hW => by rw [blk_cell ((hW.block (blk_lt bB.out)).trans bB.out)]; rfl
      have c2 : ∀ W, Grew wB W → W.cell? ⟨wr.heap.size, 2, none⟩ = some (.slice A2 rs.length ca2) := fun W hW => by rw [blk_cell ((hW.block (blk_lt bB.out)).trans bB.out)]; rfl
      have c3 : ∀ W, Grew wB W → W.cell? ⟨wr.heap.size, 3, none⟩ = some (.string rc) := fun W hW => by rw [blk_cell ((hW.block (blk_lt bB.out)).trans bB.out)]; rfl
      have c4 : ∀ W, Grew wB W → W.cell? ⟨wr.heap.size, 4, none⟩ = some (.int .i64 (q4 : Int)) := fun W hW => by rw [blk_cell ((hW.block (blk_lt bB.out)).trans bB.out)]; rfl
      have rB := Grew.refl wB
      have hd1 := rB.drew
      have KN2 := Lib.hid (fun W (hW : Grew wB W) => KN.out W (gB.out.trans hW))
      have KJ2 := Lib.hid (fun W (hW : Grew wB W) => KJ.out W (gB.out.trans hW))
      have KW2 := Lib.hid (fun W (hW : Grew wB W) => KW.out W (gB.out.trans hW))
      clear KN KJ KW hpw
      have HWB := Lib.hid hwB
      go_wp2_with fail
      rw [← hwB]
      clear hwB
      go_wp2_with fail
      go_region_held3 (fun W' => Grew wB W') (first | with_reducible assumption | exact Grew.alloc ‹_› _)
        (first
         | (go_at_call 38; have hz9 := hkJ; refine (KD4.out _).mono ?_; rintro e wz ⟨rfl, rfl⟩)
         | (go_at_call 39; refine (KJ2.out _ hkN).mono ?_; rintro e wJ ⟨rfl, hgJ⟩; have hkJ := hkN.trans hgJ)
         | (go_at_call 53; refine (KN2.out _ hd1).mono ?_; rintro e wN ⟨rfl, hgN⟩; have hkN := hd1.trans hgN)
         | (go_at_call 38; refine (KD0.out _).mono ?_; rintro e wz ⟨rfl, rfl⟩))
      go_wp2_with fail
      refine (KF.out _ _ (lit5 _ _ _ _ _ _)).mono ?_
      rintro e wF ⟨rfl, hgF⟩
      have hkF := (hkJ.alloc _).trans hgF
      go_wp2_with fail
      refine (KW2.out _ hkF).mono ?_
      rintro e wW ⟨rfl, hbW, hgW⟩
      have HBW := Lib.hid hbW
      clear hbW
      go_wp2_with fail
      go_roundw
      case rel => exact ⟨j + 1, by omega, by go_num, by rw [HK9.out, hs9.out]; exact HBW, hgW⟩
      case measure => simp [intOf]; omega
    case neg =>
      obtain rfl : j = n := by omega
      have KS := Lib.hid (bldString_c _ _ _ w wr hO.out rfl hB)
      rw [HR9.out] at KS
      go_wp2_with fail
      refine (KS.out).mono ?_
      rintro e w2 ⟨rfl, hg2⟩
      go_wp2_with fail
      go_ret
      exact ⟨rfl, hg2⟩
set_option maxRecDepth 20000 in
set_option maxHeartbeats 8000000 in
theorem l25Text_c (v : Value) (xs : List Dd) (w : World) (hv : Dds w v xs) (hG : ∀ (i : Nat) (x : Dd), xs[i]? = some x → GoodX xs.length x) (hn0 : xs.length ≠ 0) (hn : xs.length ≤ 120) :
    Calls Tryz.prog 24 #[v] w fun e w' => e = .returned (.string (dxT xs xs.length)) ∧ Grew w w' := by
  rcases hv with ⟨_, h0⟩ | ⟨b, o, c, rfl, hc, hm, hb, hcell⟩
  · rw [h0] at hn0; exact absurd rfl hn0
  have HX := Lib.hid (fun j (hj : j < xs.length) => (⟨xs[j], List.getElem?_eq_getElem hj⟩ : ∃ x, xs[j]? = some x))
  have HG := Lib.hid (fun j x (hx : xs[j]? = some x) => hG j x hx)
  have HS := Lib.hid (fun j x (hx : xs[j]? = some x) => dxT_succ hx)
  have HSZ := Lib.hid (fun j (hj : j ≤ xs.length) => (by have h1 := dxT_size hG (by omega) j hj; have h2 : j * 100000001 ≤ 120 * 100000001 := Nat.mul_le_mul_right _ (by omega); simp only [Nat.reduceMul] at h2; omega : (dxT xs j).size ≤ 12000000120))
  have HC := Lib.hid hcell
  have HN := Lib.hid hn
  clear hcell hG hn0
  generalize hR : dxT xs xs.length = R at *
  generalize hN : xs.length = n at *
  have HR9 := Lib.hid hR
  clear hN hR
  go_enter Tryz.func24, Tryz.ntmps24
  go_wp2_with fail
  go_loopw [3, 4] (fun vv i wr => ∃ (j : Nat), j ≤ n ∧ i = .int .i64 j ∧ vv = .string (dxT xs j) ∧ Grew w wr) (fun _ i _ => n - (intOf i).toNat)
  case atStart => exact ⟨0, Nat.zero_le _, rfl, rfl, Grew.refl w⟩
  case round =>
    obtain ⟨j, hj, rfl, rfl, hB⟩ := hrel
    by_cases hlt : j < n
    case pos =>
      obtain ⟨x, hx⟩ := HX.out j hlt
      have hg := HG.out j x hx
      have hs := HS.out j x hx
      have hz := HSZ.out j (by omega)
      have hz2 := fld_len hg (by omega)
      obtain ⟨up, ua, hcl, hup, hua⟩ := HC.out j x hx
      obtain ⟨k0, k1, k2, k3, k4⟩ := hcl.grew hb hB
      have HUP := Lib.hid hup
      have HUA := Lib.hid hua
      obtain ⟨A1, ca1, rfl⟩ := ints_slice hup
      obtain ⟨A2, ca2, rfl⟩ := strs_slice hua
      have KN := Lib.hid (fun W (hW : Grew wr W) => l11Decs_c _ x.2.1 W (HUP.out.grew (hB.trans hW)) (fun k hk => by have := hg.pr k hk; omega) hg.pl)
      have KN1 := Lib.hid (fun W v (hv : Strs W v (nT x.2.1)) => l11Join_c v (nT x.2.1) ⟨#[44]⟩ 4 W hv (fun y hy => by unfold nT at hy; obtain ⟨k, hk, rfl⟩ := List.mem_map.1 hy; have := hg.pr k hk; exact dcm_small (by omega)) (by omega) (by decide) (by rw [nT_len]; exact hg.pl))
      have KJ := Lib.hid (fun W (hW : Grew wr W) => l11Join_c _ x.2.2.1 ⟨#[47]⟩ 1048576 W (HUA.out.grew (hB.trans hW)) hg.at_ (by omega) (by decide) (by have := hg.al; omega))
      have KF := Lib.hid (fun W v (hv : Strs W v (fldT x)) => l11Join_c v (fldT x) ⟨#[59]⟩ 13000000 W hv (fun y hy => by
        simp only [fldT, List.mem_cons, List.not_mem_nil, or_false] at hy
        rcases hy with rfl | rfl | rfl | rfl | rfl
        · have := dcm_small (n := x.1.toNat) (by have := hg.r1; omega); omega
        · rw [jB_size]; have := nums_len hg (by omega); omega
        · rw [jB_size]; have := asm_len hg; omega
        · have := hg.ct; omega
        · have := dcm_small (n := x.2.2.2.2.toNat) (by have := hg.n1; omega); omega) (by omega) (by decide) (by simp [fldT]))
      have KD0 := Lib.hid (fun W => l01DecN_c 3 x.1.toNat W (by have := hg.r1; omega) (by omega))
      have KD4 := Lib.hid (fun W => l01DecN_c 3 x.2.2.2.2.toNat W (by have := hg.n1; omega) (by omega))
      have hjs : (jB (fldT x) ⟨#[59]⟩).size ≤ 100000000 := by rw [jB_size]; exact hz2
      unfold lnT at hs
      unfold fldT at KF hs hjs
      obtain ⟨q0, hq0⟩ : ∃ q0 : Nat, x.1 = q0 := ⟨x.1.toNat, by have := hg.r0; omega⟩
      obtain ⟨q4, hq4⟩ : ∃ q4 : Nat, x.2.2.2.2 = q4 := ⟨x.2.2.2.2.toNat, by have := hg.n0; omega⟩
      clear hcl hup hua hx hg hz2
      obtain ⟨r0, rA, rs, rc, rn⟩ := x
      simp only at *
      subst hq0 hq4
      simp only [Int.toNat_natCast] at *
      generalize hDN : jB (nT rA) ⟨#[44]⟩ = DN at *
      generalize hDJ : jB rs ⟨#[47]⟩ = DJ at *
      generalize hD0 : dcm q0 = D0 at *
      generalize hD4 : dcm q4 = D4 at *
      clear hDN hDJ hD0 hD4
      generalize hDF : jB [D0, DN, DJ, rc, D4] ⟨#[59]⟩ = DF at *
      clear hDF
      generalize nT rA = NT at *
      generalize hk9 : dxT xs (j + 1) = T1 at *
      have HK9 := Lib.hid hk9
      clear hk9
      generalize dxT xs j = T0 at *
      rw [← ByteArray.append_assoc] at hs
      have hs9 := Lib.hid hs
      clear hs
      have s1 : ¬ 9223372036854775807 < T0.size + DF.size := by omega
      have s2 : ¬ 9223372036854775807 < T0.size + DF.size + 1 := by omega
      obtain ⟨wB, hwB⟩ : ∃ wB, wB = wr.alloc (.cells #[.int .i64 (q0 : Int), .slice A1 rA.length ca1, .slice A2 rs.length ca2, .string rc, .int .i64 (q4 : Int)] 52) := ⟨_, rfl⟩
      have gB := Lib.hid (show Grew wr wB by rw [hwB]; exact (Grew.refl wr).alloc _)
      have bB := Lib.hid (show wB.heap[wr.heap.size]? = some (.cells #[.int .i64 (q0 : Int), .slice A1 rA.length ca1, .slice A2 rs.length ca2, .string rc, .int .i64 (q4 : Int)] 52) by rw [hwB]; exact blk_new wr _)
      have c0 : ∀ W, Grew wB W → W.cell? ⟨wr.heap.size, 0, none⟩ = some (.int .i64 (q0 : Int)) := fun W hW => by rw [blk_cell ((hW.block (blk_lt bB.out)).trans bB.out)]; rfl
      have c1 : ∀ W, Grew wB W → W.cell? ⟨wr.heap.size, 1, none⟩ = some (.slice A1 rA.length ca1) := fun W hW => by rw [blk_cell ((hW.block (blk_lt bB.out)).trans bB.out)]; rfl
      have c2 : ∀ W, Grew wB W → W.cell? ⟨wr.heap.size, 2, none⟩ = some (.slice A2 rs.length ca2) := fun W hW => by rw [blk_cell ((hW.block (blk_lt bB.out)).trans bB.out)]; rfl
      have c3 : ∀ W, Grew wB W → W.cell? ⟨wr.heap.size, 3, none⟩ = some (.string rc) := fun W hW => by rw [blk_cell ((hW.block (blk_lt bB.out)).trans bB.out)]; rfl
      have c4 : ∀ W, Grew wB W → W.cell? ⟨wr.heap.size, 4, none⟩ = some (.int .i64 (q4 : Int)) := fun W hW => by rw [blk_cell ((hW.block (blk_lt bB.out)).trans bB.out)]; rfl
      have rB := Grew.refl wB
      have hd1 := rB.drew
      have gBd := hB.trans gB.out
      have KN2 := Lib.hid (fun W (hW : Grew wB W) => KN.out W (gB.out.trans hW))
      have KJ2 := Lib.hid (fun W (hW : Grew wB W) => KJ.out W (gB.out.trans hW))
      clear KN KJ
      have HWB := Lib.hid hwB
      go_wp2_with fail
      rw [← hwB]
      clear hwB
      go_wp2_with fail
      go_region_held3 (fun W' => Grew wB W') (first | with_reducible assumption | exact Grew.alloc ‹_› _)
        (first
         | (go_at_call 44; have hz9 := t5; refine (KF.out _ _ (lit5 _ _ _ _ _ _)).mono ?_; rintro e wz ⟨rfl, rfl⟩)
         | (go_at_call 44; have hz9 := t3; refine (KJ2.out _ hkN).mono ?_; rintro e wz ⟨rfl, rfl⟩; have t4 := hz9)
         | (go_at_call 44; have hz9 := t2; refine (KN1.out _ _ hoN.strs).mono ?_; rintro e wz ⟨rfl, rfl⟩; have t3 := hz9)
         | (go_at_call 31; have hz9 := t4; refine (KD4.out _).mono ?_; rintro e wE ⟨rfl, hgE⟩; have hkE := hkN.trans hgE; have t5 := hz9)
         | (go_at_call 45; refine (KN2.out _ hkA).mono ?_; rintro e wN ⟨uN, rfl, hoN, hgN⟩; have hkN := hkA.trans hgN; obtain ⟨VN, vnc, rfl⟩ := strs_slice hoN.strs; have t2 := trivial)
         | (go_at_call 31; refine (KD0.out _).mono ?_; rintro e wA ⟨rfl, hgA⟩; have hkA := hd1.trans hgA))
      all_goals go_wp2_with fail
      all_goals go_roundw
      all_goals first
        | exact ⟨j + 1, by omega, by go_num, by rw [HK9.out, hs9.out], gBd.trans (hkE.alloc _)⟩
        | (simp [intOf]; omega)
    case neg =>
      obtain rfl : j = n := by omega
      rw [HR9.out]
      go_wp2_with fail
      go_ret
      exact ⟨rfl, hB⟩
def GivesStrD (w : World) (r : ByteArray × Int) (e : Ending) (w' : World) : Prop := e = .returned (.tuple #[.string r.1, .int .i64 r.2]) ∧ Grew w w'
theorem implTd_c (v : Value) (xs : List Dd) (w : World) (hv : Dds w v xs) (hf : FitsDd xs) (_hn : xs.length ≤ 1048576) (hp : Pow w) :
    Calls Tryz.prog 13 #[v] w (GivesStrD w (tdF xs)) := by
  unfold GivesStrD tdF
  obtain ⟨A, c, rfl⟩ := Dds_slice hv
  have KD := Lib.hid (deductionCode_c _ [xs] _ (DdL.one (T := 33) hv) (fun i hi => by obtain rfl : i = 0 := (by simpa using hi); exact hf))
  have HAL := Lib.hid ((Grew.refl w).alloc (.cells #[.slice A xs.length c] 33))
  by_cases hd : dcode [xs] = 0
  case neg =>
    rw [if_neg hd]
    have e0 : (dcode [xs] == 0) = false := by simpa using hd
    clear hv hf hd
    generalize dcode [xs] = d at *
    go_enter Tryz.func13, Tryz.ntmps13
    go_wp2_with fail
    refine (KD.out).mono ?_
    rintro e w1 ⟨rfl, hg1⟩
    go_wp2_with fail
    go_ret2
    exact ⟨rfl, HAL.out.trans hg1⟩
  rw [if_pos hd]
  rw [hd] at KD
  obtain ⟨hn0, hn1, hfb⟩ := dcode_zero hd
  have KT := Lib.hid (fun W (hW : Grew w W) => deductionText_c _ xs W (hv.grew hW) (fun i x hx => goodX_of hfb hf hx) hn0 hn1 (hp.grew hW))
  clear hv hf hd hfb
  generalize dxT xs xs.length = R at *
  generalize xs.length = n at *
  go_enter Tryz.func13, Tryz.ntmps13
  go_wp2_with fail
  refine (KD.out).mono ?_
  rintro e w1 ⟨rfl, hg1⟩
  have g1 := HAL.out.trans hg1
  go_wp2_with fail
  refine (KT.out _ g1).mono ?_
  rintro e w2 ⟨rfl, hg2⟩
  go_wp2_with fail
  go_ret2
  exact ⟨rfl, g1.trans hg2⟩
theorem specTd_c (v : Value) (xs : List Dd) (w : World) (hv : Dds w v xs) (hf : FitsDd xs) (_hn : xs.length ≤ 1048576) :
    Calls Tryz.prog 11 #[v] w (GivesStrD w (tdF xs)) := by
  unfold GivesStrD tdF
  obtain ⟨A, c, rfl⟩ := Dds_slice hv
  have KD := Lib.hid (l25Code_c _ [xs] _ (DdL.one (T := 33) hv) (fun i hi => by obtain rfl : i = 0 := (by simpa using hi); exact hf) (by simp))
  have HAL := Lib.hid ((Grew.refl w).alloc (.cells #[.slice A xs.length c] 33))
  by_cases hd : dcode [xs] = 0
  case neg =>
    rw [if_neg hd]
    have e0 : (dcode [xs] == 0) = false := by simpa using hd
    clear hv hf hd
    generalize dcode [xs] = d at *
    go_enter Tryz.func11, Tryz.ntmps11
    go_wp2_with fail
    refine (KD.out).mono ?_
    rintro e w1 ⟨rfl, hg1⟩
    go_wp2_with fail
    go_ret2
    exact ⟨rfl, HAL.out.trans hg1⟩
  rw [if_pos hd]
  rw [hd] at KD
  obtain ⟨hn0, hn1, hfb⟩ := dcode_zero hd
  have KT := Lib.hid (fun W (hW : Grew w W) => l25Text_c _ xs W (hv.grew hW) (fun i x hx => goodX_of hfb hf hx) hn0 hn1)
  clear hv hf hd hfb
  generalize dxT xs xs.length = R at *
  generalize xs.length = n at *
  go_enter Tryz.func11, Tryz.ntmps11
  go_wp2_with fail
  refine (KD.out).mono ?_
  rintro e w1 ⟨rfl, hg1⟩
  have g1 := HAL.out.trans hg1
  go_wp2_with fail
  refine (KT.out _ g1).mono ?_
  rintro e w2 ⟨rfl, hg2⟩
  go_wp2_with fail
  go_ret2
  exact ⟨rfl, g1.trans hg2⟩
end Go.Proofs.YtfpkfgimhanekaaGreatDoor

/- The laws' own helpers on slices of int64: toInt64S, eqInt64S, markInt64S, heldInt64S. -/
namespace Go.Proofs.YtfpkfgimhanekaaGreatDoor
open Go.RowKit

theorem toInt64S_c (v : Value) (L : List Int) (w : World) (h : ArgI w v L) (hn : L.length ≤ 1048576) :
    Calls Tryz.prog 46 #[v] w (GivesI w L) := by
  obtain ⟨⟨A, c, rfl, hmax⟩, hS⟩ := h
  have hmk := run_make_row' (P := Tryz.prog) 46 2 (.int .i64 0) 8 Tryz.underlying46 Tryz.infoI rfl .i64 .i64 L.length (by omega) (by omega)
  have hend : ∀ cur w', w'.heap[w.heap.size]? = some (.cells cur 2 (0, 0)) → cur.size = L.length → (∀ i, i < L.length → cur[i]? = some (.int .i64 (it L i))) → OwnI w' w.heap.size (.slice (some ⟨w.heap.size, 0, none⟩) L.length L.length) L :=
    fun cur w' h1 h2 h3 => OwnI.mk_ (Nat.le_refl _) h1 (Nat.le_refl _) (by omega) h2 h3
  have HE := Lib.hid hend
  clear hend
  have hsz : (madeCells #[Value.int .i64 0] L.length).size = L.length := by simp [madeCells]
  have hnew := blk_new w (.cells (madeCells #[Value.int .i64 0] L.length) 2)
  have hal := (Grew.refl w).alloc (.cells (madeCells #[Value.int .i64 0] L.length) 2)
  generalize madeCells #[Value.int .i64 0] L.length = cur0 at *
  by_cases hp : 0 < L.length
  · rcases (hS hp).open_ with ⟨_, h2⟩ | ⟨b, o, c', hv, hc, hm, hb, hcell⟩
    · rw [h2] at hp; cases hp
    obtain ⟨rfl, rfl⟩ : A = some ⟨b, o, none⟩ ∧ c = c' := by simpa using hv
    clear hS hv
    have HC := Lib.hid hcell
    clear hcell
    generalize hN : L.length = n at *
    clear hN
    have HNEW := Lib.hid hnew
    clear hnew
    have HAL := Lib.hid hal
    clear hal
    go_enter Tryz.func46, Tryz.ntmps46
    go_wp2_with fail
    go_loopw [4] (fun i wr => ∃ (j : Nat) (cur : Array Value), j ≤ n ∧ i = .int .i64 j ∧ wr.heap[w.heap.size]? = some (.cells cur 2 (0, 0)) ∧ cur.size = n ∧ Grew w wr ∧ (∀ i, i < j → cur[i]? = some (.int .i64 (it L i)))) (fun i _ => n - (intOf i).toNat)
    case atStart => exact ⟨0, cur0, Nat.zero_le _, rfl, HNEW.out, hsz, HAL.out, fun i hi => absurd hi (by omega)⟩
    case round =>
      obtain ⟨j, cur, hj, rfl, hh, hcs, hB, hc2⟩ := hrel
      have HD := Lib.hid hc2
      clear hc2
      by_cases hlt : j < n
      · have k1 := HC.out j hlt _ hB
        have HS := Lib.hid (one_stepI (F := fun i => .int .i64 (it L i)) (j := j) (by omega) HD.out)
        have f1 : ∀ i, wr.frozen? ⟨w.heap.size, i, none⟩ = false := fun i => by simp [World.frozen?, hh]
        obtain ⟨u1, hu1⟩ : ∃ u, wr.cell? ⟨w.heap.size, 0 + j, none⟩ = some u := by
          rw [cell_of_row wr w.heap.size _ cur _ (0, 0) hh]
          exact ⟨_, Array.getElem?_eq_getElem (by omega)⟩
        simp only [Nat.zero_add] at hu1
        have HH := Lib.hid hh
        clear hh
        generalize it L j = x at *
        go_wp2_with fail
        go_roundw
        case rel => exact ⟨j + 1, _, by omega, by go_num, blk_set HH.out _ _, by simp [hcs], hB.setCell (Nat.le_refl _) _, HS.out⟩
        case measure => simp [intOf]; omega
      · obtain rfl : j = n := by omega
        have HH := Lib.hid hh
        clear hh
        go_wp2_with fail
        go_ret
        exact ⟨_, rfl, HE.out _ _ HH.out hcs HD.out, hB⟩
  · have hp0 : L.length ≤ 0 := by omega
    have HNEW := Lib.hid hnew
    clear hnew hS hp
    have HAL := Lib.hid hal
    clear hal
    generalize hN : L.length = n at *
    clear hN
    go_enter Tryz.func46, Tryz.ntmps46
    go_wp2_with fail
    refine wp_loop_rounds 1 ?_; rw [rounds_succ]
    go_wp2_with fail
    go_ret
    exact ⟨_, rfl, HE.out _ _ HNEW.out hsz (fun i hi => absurd hi (by omega)), HAL.out⟩
end Go.Proofs.YtfpkfgimhanekaaGreatDoor

/- Two lists of int64 that are equal: eqInt64S. -/
namespace Go.Proofs.YtfpkfgimhanekaaGreatDoor
open Go.RowKit

/-- Two lists of numbers that are equal. -/
theorem eqInt64S_yes (v1 v2 : Value) (L : List Int) (w : World) (h1 : Ints w v1 L) (h2 : Ints w v2 L) (hn : L.length ≤ 1099511627776) :
    Calls Tryz.prog 56 #[v1, v2] w fun e w' => e = .returned (.bool true) ∧ Grew w w' := by
  rcases h1.open_ with ⟨rfl, rfl⟩ | ⟨b1, o1, c1, rfl, hc1, hm1, hb1, hf⟩
  · obtain ⟨A, c, rfl⟩ := ints_slice h2
    go_enter Tryz.func56, Tryz.ntmps56
    go_wp2_with fail
    refine wp_loop_rounds 1 ?_; rw [rounds_succ]
    go_wp2_with fail
    go_ret
    exact ⟨rfl, Grew.refl _⟩
  · rcases h2.open_ with ⟨rfl, rfl⟩ | ⟨b2, o2, c2, rfl, hc2, hm2, hb2, hh⟩
    · go_enter Tryz.func56, Tryz.ntmps56
      go_wp2_with fail
      refine wp_loop_rounds 1 ?_; rw [rounds_succ]
      go_wp2_with fail
      go_ret
      exact ⟨rfl, Grew.refl _⟩
    · clear h1 h2
      have HF := Lib.hid hf
      have HH := Lib.hid hh
      clear hf hh
      generalize hN : L.length = n at *
      clear hN
      go_enter Tryz.func56, Tryz.ntmps56
      go_wp2_with fail
      go_loopw [5] (fun i wr => ∃ j : Nat, j ≤ n ∧ i = .int .i64 j ∧ Grew w wr) (fun i _ => n - (intOf i).toNat)
      case atStart => exact ⟨0, Nat.zero_le _, rfl, Grew.refl _⟩
      case round =>
        obtain ⟨j, hj, rfl, hB⟩ := hrel
        by_cases hlt : j < n
        · have k1 : ∀ W, Grew w W → W.cell? ⟨b1, o1 + j, none⟩ = some (.int .i64 (it L j)) := fun W hW => HF.out j hlt W hW
          have k2 : ∀ W, Grew w W → W.cell? ⟨b2, o2 + j, none⟩ = some (.int .i64 (it L j)) := fun W hW => HH.out j hlt W hW
          have k3 := k1 _ hB
          have k4 := k2 _ hB
          generalize it L j = x at *
          have hx : (x != x) = false := by simp
          go_wp2_with fail
          go_quiet (fail)
          go_wp2_with fail
          go_roundw
          case rel => exact ⟨j + 1, by omega, by go_num, by first | assumption | exact hB.drewN _⟩
          case measure => simp [intOf]; omega
        · go_wp2_with fail
          go_ret
          exact ⟨rfl, by assumption⟩
end Go.Proofs.YtfpkfgimhanekaaGreatDoor

/- The laws' own helpers on slices of deductions: toDeductionS, eqDeductionS. -/
namespace Go.Proofs.YtfpkfgimhanekaaGreatDoor
open Go.RowKit

theorem blk3_all (w : World) (a b c : Obj) : (((w.alloc a).alloc b).alloc c).heap[w.heap.size]? = some a ∧ (((w.alloc a).alloc b).alloc c).heap[w.heap.size + 1]? = some b ∧ (((w.alloc a).alloc b).alloc c).heap[w.heap.size + 1 + 1]? = some c := by
  refine ⟨?_, blk3_mid w a b c, ?_⟩
  · have h := (((Grew.refl (w.alloc a)).alloc b).alloc c).block (k := w.heap.size) (by simp)
    rw [h]; exact blk_new w a
  · have h := blk_new ((w.alloc a).alloc b) c
    have e : ((w.alloc a).alloc b).heap.size = w.heap.size + 1 + 1 := by simp
    rwa [e] at h

theorem own_set {w : World} {B b i : Nat} {e : TypeId} {k n : Nat} {v u : Value} {xs : List Value} (h : w.ownsRow B e k v n xs) (hb : b < B) : (w.setCell ⟨b, i, none⟩ u).ownsRow B e k v n xs :=
  own_only h ((Only.refl b w).setCell u) (fun hh => by have := own_of_ge h hh; omega)

set_option maxHeartbeats 1000000 in
theorem toDeduction_c (x : Dd) (up ua : Value) (w : World) (hp : ArgI w up x.2.1) (hs : ArgS w ua x.2.2.1) (n1 : x.2.1.length ≤ 1048576) (n2 : x.2.2.1.length ≤ 1048576) :
    Calls Tryz.prog 25 #[.agg #[.int .i64 x.1, up, ua, .string x.2.2.2.1, .int .i64 x.2.2.2.2]] w fun e w' => ∃ vp va, e = .returned (.agg #[.int .i64 x.1, vp, va, .string x.2.2.2.1, .int .i64 x.2.2.2.2]) ∧ OwnI w' w.heap.size vp x.2.1 ∧ OwnS w' w.heap.size va x.2.2.1 ∧ Grew w w' := by
  have KI := Lib.hid (fun W (hW : Grew w W) => toInt64S_c up x.2.1 W (hp.grew hW) n1)
  have KS := Lib.hid (fun W (hW : Grew w W) => toStringS_c ua x.2.2.1 W (hs.grew hW) n2)
  obtain ⟨⟨A, c, rfl, hm1⟩, _⟩ := hp
  obtain ⟨⟨A2, c2, rfl, hm2⟩, _, _⟩ := hs
  clear n1 n2
  obtain ⟨r0, P, S, C, N⟩ := x
  simp only at *
  generalize hpl : P.length = pl at *
  generalize hsl : S.length = sl at *
  replace hpl := Lib.hid hpl
  replace hsl := Lib.hid hsl
  have hal := (((Grew.refl w).alloc (.cells #[.int .i64 r0, .slice A pl c, .slice A2 sl c2, .string C, .int .i64 N] 49)).alloc (.cells #[.int .i64 0, .slice none 0 0, .slice none 0 0, .string ByteArray.empty, .int .i64 0] 52)).alloc (.cells #[.int .i64 r0, .slice none 0 0, .slice none 0 0, .string ByteArray.empty, .int .i64 0] 52)
  go_enter Tryz.func25, Tryz.ntmps25
  go_wp2_with fail
  refine (KI.out _ hal).mono ?_
  rintro e w1 ⟨vp, rfl, hop, hg1⟩
  obtain ⟨VA, vc, rfl⟩ := ints_slice hop.ints
  rw [hpl.out] at hop ⊢
  have hW0 : (((w.alloc (.cells #[.int .i64 r0, .slice A pl c, .slice A2 sl c2, .string C, .int .i64 N] 49)).alloc (.cells #[.int .i64 0, .slice none 0 0, .slice none 0 0, .string ByteArray.empty, .int .i64 0] 52)).alloc (.cells #[.int .i64 r0, .slice none 0 0, .slice none 0 0, .string ByteArray.empty, .int .i64 0] 52)).heap.size = w.heap.size + 3 := by simp
  rw [hW0] at hop
  have hz1 := hg1.size
  rw [hW0] at hz1
  have hb1 : w1.heap[w.heap.size + 1 + 1]? = some (.cells #[.int .i64 r0, .slice none 0 0, .slice none 0 0, .string ByteArray.empty, .int .i64 0] 52 (0, 0)) := (hg1.block (k := w.heap.size + 1 + 1) (by rw [hW0]; omega)).trans (blk3_all w _ _ _).2.2
  have hr1 : w1.heap[w.heap.size + 1]? = some (.cells #[.int .i64 0, .slice none 0 0, .slice none 0 0, .string ByteArray.empty, .int .i64 0] 52 (0, 0)) := (hg1.block (k := w.heap.size + 1) (by rw [hW0]; omega)).trans (blk3_all w _ _ _).2.1
  have ha1 : w1.heap[w.heap.size]? = some (.cells #[.int .i64 r0, .slice A pl c, .slice A2 sl c2, .string C, .int .i64 N] 49 (0, 0)) := (hg1.block (k := w.heap.size) (by rw [hW0]; omega)).trans (blk3_all w _ _ _).1
  have f1 : w1.cell? ⟨w.heap.size + 1 + 1, 1, none⟩ = some (.slice none 0 0) := (blk_cell hb1 1).trans rfl
  have f2 : w1.frozen? ⟨w.heap.size + 1 + 1, 1, none⟩ = false := blk_frozen hb1 1
  have f3 : w1.cell? ⟨w.heap.size, 2, none⟩ = some (.slice A2 sl c2) := (blk_cell ha1 2).trans rfl
  have hO1 : Only (w.heap.size + 1 + 1) w1 (w1.setCell ⟨w.heap.size + 1 + 1, 1, none⟩ (.slice VA pl vc)) := (Only.refl _ _).setCell _
  have hop2 : OwnI (w1.setCell ⟨w.heap.size + 1 + 1, 1, none⟩ (.slice VA pl vc)) (w.heap.size + 3) (.slice VA pl vc) P := own_only hop hO1 (fun h => by have := own_of_ge hop h; omega)
  have gW2 : Grew w (w1.setCell ⟨w.heap.size + 1 + 1, 1, none⟩ (.slice VA pl vc)) := (hal.trans hg1).setCell (by show w.heap.size ≤ w.heap.size + 1 + 1; omega) _
  have HB2 := Lib.hid (blk_set hb1 1 (.slice VA pl vc))
  have HR2 : Hid ((w1.setCell ⟨w.heap.size + 1 + 1, 1, none⟩ (.slice VA pl vc)).heap[w.heap.size + 1]? = some (.cells #[.int .i64 0, .slice none 0 0, .slice none 0 0, .string ByteArray.empty, .int .i64 0] 52 (0, 0))) := Lib.hid ((hO1.block (k := w.heap.size + 1) (by omega) (by omega)).trans hr1)
  have HA2 : Hid ((w1.setCell ⟨w.heap.size + 1 + 1, 1, none⟩ (.slice VA pl vc)).heap[w.heap.size]? = some (.cells #[.int .i64 r0, .slice A pl c, .slice A2 sl c2, .string C, .int .i64 N] 49 (0, 0))) := Lib.hid ((hO1.block (k := w.heap.size) (by omega) (by omega)).trans ha1)
  have HOP := Lib.hid hop2
  clear hop hop2 hb1 hr1 ha1 hO1 hW0
  go_wp2_with fail
  refine (KS.out _ gW2).mono ?_
  rintro e w2 ⟨va, rfl, hos, hg2⟩
  obtain ⟨WA, wc, rfl⟩ := strs_slice hos.strs
  rw [hsl.out] at hos ⊢
  have hz2 : w.heap.size + 3 ≤ w2.heap.size := by have := hg2.size; simp [World.setCell] at this; omega
  have hz3 : (w1.setCell ⟨w.heap.size + 1 + 1, 1, none⟩ (.slice VA pl vc)).heap.size = w1.heap.size := by simp [World.setCell]
  have hb2 := (hg2.block (k := w.heap.size + 1 + 1) (by rw [hz3]; omega)).trans HB2.out
  have hr2 := (hg2.block (k := w.heap.size + 1) (by rw [hz3]; omega)).trans HR2.out
  have ha2 := (hg2.block (k := w.heap.size) (by rw [hz3]; omega)).trans HA2.out
  have k3 : w2.cell? ⟨w.heap.size, 3, none⟩ = some (.string C) := (blk_cell ha2 3).trans rfl
  have k4 : w2.cell? ⟨w.heap.size, 4, none⟩ = some (.int .i64 N) := (blk_cell ha2 4).trans rfl
  have o0 : w2.cell? ⟨w.heap.size + 1 + 1, 0, none⟩ = some (.int .i64 r0) := (blk_cell hb2 0).trans rfl
  have o1 : w2.cell? ⟨w.heap.size + 1 + 1, 1, none⟩ = some (.slice VA pl vc) := (blk_cell hb2 1).trans rfl
  have o2 : w2.cell? ⟨w.heap.size + 1 + 1, 2, none⟩ = some (.slice none 0 0) := (blk_cell hb2 2).trans rfl
  have o3 : w2.cell? ⟨w.heap.size + 1 + 1, 3, none⟩ = some (.string ByteArray.empty) := (blk_cell hb2 3).trans rfl
  have o4 : w2.cell? ⟨w.heap.size + 1 + 1, 4, none⟩ = some (.int .i64 0) := (blk_cell hb2 4).trans rfl
  have q0 : w2.cell? ⟨w.heap.size + 1, 0, none⟩ = some (.int .i64 0) := (blk_cell hr2 0).trans rfl
  have q1 : w2.cell? ⟨w.heap.size + 1, 1, none⟩ = some (.slice none 0 0) := (blk_cell hr2 1).trans rfl
  have q2 : w2.cell? ⟨w.heap.size + 1, 2, none⟩ = some (.slice none 0 0) := (blk_cell hr2 2).trans rfl
  have q3 : w2.cell? ⟨w.heap.size + 1, 3, none⟩ = some (.string ByteArray.empty) := (blk_cell hr2 3).trans rfl
  have q4 : w2.cell? ⟨w.heap.size + 1, 4, none⟩ = some (.int .i64 0) := (blk_cell hr2 4).trans rfl
  have y1 : ∀ i, w2.frozen? ⟨w.heap.size + 1 + 1, i, none⟩ = false := fun i => blk_frozen hb2 i
  have y2 : ∀ i, w2.frozen? ⟨w.heap.size + 1, i, none⟩ = false := fun i => blk_frozen hr2 i
  have HOS := Lib.hid hos
  have HR := Lib.hid hr2
  have HOPG := Lib.hid (HOP.out.grew hg2)
  have gW := gW2.trans hg2
  clear hb2 hr2 ha2 hos f1 f2 f3
  go_wp2_with fail
  (try simp only [Exit.inBlock, Exit.then])
  have hinfo : (Tryz.prog.info? 52).map (·.size) = some 5 := by kernel_rfl
  refine bodyPost_ret (results_cell_row rfl _ _ (w.heap.size + 1) 52 #[.int .i64 r0, .slice VA pl vc, .slice WA sl wc, .string C, .int .i64 N] (0, 0) _ rfl ?_ Tryz.underlying52 rfl hinfo) rfl ?_
  · simp [World.setCell, Array.getElem?_modify, HR.out]
  · refine ⟨_, _, rfl, ?_, ?_, ?_⟩
    · exact OwnI.base (B := w.heap.size + 3) (own_set (own_set (own_set (own_set (own_set (own_set (own_set (own_set HOPG.out (by omega)) (by omega)) (by omega)) (by omega)) (by omega)) (by omega)) (by omega)) (by omega)) (by omega)
    · exact OwnS.base (B := w.heap.size + 3) (own_set (own_set (own_set (own_set (own_set (own_set (own_set (own_set (HOS.out.base (B' := w.heap.size + 3) (by rw [hz3]; exact hz1)) (by omega)) (by omega)) (by omega)) (by omega)) (by omega)) (by omega)) (by omega)) (by omega)) (by omega)
    · have hq1 : w.heap.size ≤ w.heap.size + 1 := by omega
      have hq2 : w.heap.size ≤ w.heap.size + 1 + 1 := by omega
      exact (((((((gW.setCell hq2 _).setCell hq2 _).setCell hq2 _).setCell hq1 _).setCell hq1 _).setCell hq1 _).setCell hq1 _).setCell hq1 _
end Go.Proofs.YtfpkfgimhanekaaGreatDoor

/- The laws' own helpers on slices of Deductions: toDeductionS, eqDeductionS. -/
namespace Go.Proofs.YtfpkfgimhanekaaGreatDoor
open Go.RowKit

/-- Five cells are written. -/
theorem DdRow.keep {cur : Array Value} {i j : Nat} {x : Dd} {vp va a b c d e : Value} (h : DdRow cur (i * 5) x vp va) (hi : i < j) :
    DdRow (((((cur.setIfInBounds (j * 5) a).setIfInBounds (j * 5 + 1) b).setIfInBounds (j * 5 + 2) c).setIfInBounds (j * 5 + 3) d).setIfInBounds (j * 5 + 4) e) (i * 5) x vp va := by
  obtain ⟨h0, h1, h2, h3, h4⟩ := h
  unfold DdRow
  simp only [Array.getElem?_setIfInBounds, Array.size_setIfInBounds]
  refine ⟨?_, ?_, ?_, ?_, ?_⟩
  · rw [if_neg (by omega), if_neg (by omega), if_neg (by omega), if_neg (by omega), if_neg (by omega)]; exact h0
  · rw [if_neg (by omega), if_neg (by omega), if_neg (by omega), if_neg (by omega), if_neg (by omega)]; exact h1
  · rw [if_neg (by omega), if_neg (by omega), if_neg (by omega), if_neg (by omega), if_neg (by omega)]; exact h2
  · rw [if_neg (by omega), if_neg (by omega), if_neg (by omega), if_neg (by omega), if_neg (by omega)]; exact h3
  · rw [if_neg (by omega), if_neg (by omega), if_neg (by omega), if_neg (by omega), if_neg (by omega)]; exact h4
theorem DdRow.new {cur : Array Value} {j : Nat} (x : Dd) (vp va : Value) (hs : j * 5 + 4 < cur.size) :
    DdRow (((((cur.setIfInBounds (j * 5) (.int .i64 x.1)).setIfInBounds (j * 5 + 1) vp).setIfInBounds (j * 5 + 2) va).setIfInBounds (j * 5 + 3) (.string x.2.2.2.1)).setIfInBounds (j * 5 + 4) (.int .i64 x.2.2.2.2)) (j * 5) x vp va := by
  unfold DdRow
  simp only [Array.getElem?_setIfInBounds, Array.size_setIfInBounds]
  refine ⟨?_, ?_, ?_, ?_, ?_⟩
  · rw [if_neg (by omega), if_neg (by omega), if_neg (by omega), if_neg (by omega), if_pos trivial, if_pos (by omega)]
  · rw [if_neg (by omega), if_neg (by omega), if_neg (by omega), if_pos trivial, if_pos (by omega)]
  · rw [if_neg (by omega), if_neg (by omega), if_pos trivial, if_pos (by omega)]
  · rw [if_neg (by omega), if_pos trivial, if_pos (by omega)]
  · rw [if_pos trivial, if_pos (by omega)]
/-- The first j are written; their rows lie from block B on. -/
def DdDone (w : World) (B : Nat) (cur : Array Value) (xs : List Dd) (j : Nat) : Prop := ∀ i x, i < j → xs[i]? = some x → ∃ vp va, DdRow cur (i * 5) x vp va ∧ OwnI w B vp x.2.1 ∧ OwnS w B va x.2.2.1
theorem DdDone.own {w : World} {g : Nat} {cur : Array Value} {xs : List Dd} (h : DdDone w (g + 1) cur xs xs.length) (hg : w.heap[g]? = some (.cells cur 52 (0, 0))) (hs : cur.size = xs.length * 5) (hm : xs.length ≤ 9223372036854775807) : OwnDd w g (.slice (some ⟨g, 0, none⟩) xs.length xs.length) xs := by
  refine .inr ⟨g, xs.length, cur, rfl, Nat.le_refl _, hg, Nat.le_refl _, hm, hs, fun i x hx => ?_⟩
  obtain ⟨vp, va, k1, k2, k3⟩ := h i x (List.getElem?_eq_some_iff.1 hx).1 hx
  exact ⟨vp, va, k1, .inl (k2.base (Nat.le_succ _)), .inl (k3.base (Nat.le_succ _))⟩

set_option maxHeartbeats 1000000 in
theorem toDeductionS_c (v : Value) (xs : List Dd) (w : World) (h : ArgDd w v xs) (hn : xs.length ≤ 1048576) (hfit : FitsDd xs) :
    Calls Tryz.prog 12 #[v] w fun e w' => ∃ v', e = .returned v' ∧ OwnDd w' w.heap.size v' xs ∧ Grew w w' := by
  obtain ⟨⟨A, c, rfl, hmax⟩, hS, _⟩ := h
  have hmk := fun W => run_make_rows (P := Tryz.prog) 33 52 (.agg #[.int .i64 0, .slice none 0 0, .slice none 0 0, .string ByteArray.empty, .int .i64 0]) 5 80 #[.int .i64 0, .slice none 0 0, .slice none 0 0, .string ByteArray.empty, .int .i64 0] Tryz.underlying33 infoDd rfl .i64 .i64 xs.length (by omega) (by omega) W
  have HE := Lib.hid (fun cur w' (h1 : w'.heap[w.heap.size]? = some (.cells cur 52 (0, 0))) (h2 : cur.size = xs.length * 5) (h3 : DdDone w' (w.heap.size + 1) cur xs xs.length) => h3.own h1 h2 (by omega))
  have hsz : (madeCells #[Value.int .i64 0, .slice none 0 0, .slice none 0 0, .string ByteArray.empty, .int .i64 0] (xs.length * 5)).size = xs.length * 5 := size_madeCells _ _
  have hnew := blk_new w (.cells (madeCells #[Value.int .i64 0, .slice none 0 0, .slice none 0 0, .string ByteArray.empty, .int .i64 0] (xs.length * 5)) 52)
  have hal := (Grew.refl w).alloc (.cells (madeCells #[Value.int .i64 0, .slice none 0 0, .slice none 0 0, .string ByteArray.empty, .int .i64 0] (xs.length * 5)) 52)
  generalize madeCells #[Value.int .i64 0, .slice none 0 0, .slice none 0 0, .string ByteArray.empty, .int .i64 0] (xs.length * 5) = cur0 at *
  by_cases hp : 0 < xs.length
  · obtain ⟨b, o, c', hv, hc, hm, hb, hcell⟩ := (hS hp).open_ hp
    obtain ⟨rfl, rfl⟩ : A = some ⟨b, o, none⟩ ∧ c = c' := by simpa using hv
    clear hS hv
    have HC := Lib.hid hcell
    have HX := Lib.hid (fun j (hj : j < xs.length) => (⟨xs[j], List.getElem?_eq_getElem hj, hfit _ (List.getElem_mem hj)⟩ : ∃ x, xs[j]? = some x ∧ FitDd x))
    clear hcell hfit
    generalize hN : xs.length = n at *
    clear hN
    have HNEW := Lib.hid hnew
    clear hnew
    have HAL := Lib.hid hal
    clear hal
    go_enter Tryz.func12, Tryz.ntmps12
    go_wp2_with fail
    go_loopw [4] (fun i wr => ∃ (j : Nat) (cur : Array Value), j ≤ n ∧ i = .int .i64 j ∧ wr.heap[w.heap.size]? = some (.cells cur 52 (0, 0)) ∧ cur.size = n * 5 ∧ Grew w wr ∧ Hid (DdDone wr (w.heap.size + 1) cur xs j)) (fun i _ => n - (intOf i).toNat)
    case atStart => exact ⟨0, cur0, Nat.zero_le _, rfl, HNEW.out, hsz, HAL.out, fun i x hi => absurd hi (by omega)⟩
    case round =>
      obtain ⟨j, cur, hj, rfl, hh, hcs, hB, HD⟩ := hrel
      have HH := Lib.hid hh
      have hlt1 := blk_lt hh
      clear hh
      by_cases hlt : j < n
      · obtain ⟨x, hx, hfx⟩ := HX.out j hlt
        obtain ⟨up, ua, hcl, hpi, hps⟩ := HC.out j x hx
        obtain ⟨k1, k2, k3, k4, k5⟩ := hcl _ hB
        have KT := Lib.hid (fun W (hW : Grew wr W) => toDeduction_c x up ua W (hpi.grew (hB.trans hW)) (hps.grew (hB.trans hW)) hfx.1 hfx.2.1)
        obtain ⟨⟨A1, ca1, rfl, _⟩, _⟩ := hpi
        obtain ⟨⟨A2, ca2, rfl, _⟩, _, _⟩ := hps
        have hx' := Lib.hid hx
        clear hx hfx hcl
        have HNW := Lib.hid (fun vp va => DdRow.new (cur := cur) (j := j) x vp va (by omega))
        generalize hl1 : x.2.1.length = l1 at *
        generalize hl2 : x.2.2.1.length = l2 at *
        replace hl1 := Lib.hid hl1
        replace hl2 := Lib.hid hl2
        generalize hx1 : x.1 = xr at *
        generalize hx3 : x.2.2.2.1 = xc at *
        generalize hx4 : x.2.2.2.2 = xn at *
        clear hx1 hx3 hx4
        go_wp2_with fail
        refine (KT.out _ (Grew.refl wr)).mono ?_
        rintro e w1 ⟨vp, va, rfl, hop, hos, hg1⟩
        obtain ⟨VA, vc, rfl⟩ := ints_slice hop.ints
        obtain ⟨WA, wc, rfl⟩ := strs_slice hos.strs
        have hh := (hg1.block hlt1).trans HH.out
        have f1 : ∀ i, w1.frozen? ⟨w.heap.size, i, none⟩ = false := fun i => blk_frozen hh i
        have hcell : ∀ k, k < n * 5 → ∃ u, w1.cell? ⟨w.heap.size, k, none⟩ = some u := fun k hk => by
          rw [blk_cell hh]
          exact ⟨_, Array.getElem?_eq_getElem (by omega)⟩
        obtain ⟨u1, hu1⟩ := hcell (j * 5) (by omega)
        obtain ⟨u2, hu2⟩ := hcell (j * 5 + 1) (by omega)
        obtain ⟨u3, hu3⟩ := hcell (j * 5 + 2) (by omega)
        obtain ⟨u4, hu4⟩ := hcell (j * 5 + 3) (by omega)
        obtain ⟨u5, hu5⟩ := hcell (j * 5 + 4) (by omega)
        have HH1 := Lib.hid hh
        have HOP := Lib.hid (hop.base (B' := w.heap.size + 1) (by omega))
        have HOS := Lib.hid (hos.base (B' := w.heap.size + 1) (by omega))
        clear hh hcell hop hos
        rw [hl1.out]
        rw [hl2.out]
        rw [hl1.out] at HOP
        rw [hl2.out] at HOS
        go_wp2_with fail
        go_roundw
        case rel =>
          refine ⟨j + 1, _, by omega, by go_num, blk_set (blk_set (blk_set (blk_set (blk_set HH1.out _ _) _ _) _ _) _ _) _ _, by simp [hcs], ((((((hB.trans hg1).setCell (Nat.le_refl _) _).setCell (Nat.le_refl _) _).setCell (Nat.le_refl _) _).setCell (Nat.le_refl _) _).setCell (Nat.le_refl _) _), fun i y hi hy => ?_⟩
          rcases Nat.lt_or_ge i j with hk | hk
          · obtain ⟨p1, p2, q1, q2, q3⟩ := HD.out i y hk hy
            exact ⟨p1, p2, q1.keep hk, own_set (own_set (own_set (own_set (own_set (q2.grew hg1) (by omega)) (by omega)) (by omega)) (by omega)) (by omega), own_set (own_set (own_set (own_set (own_set (q3.grew hg1) (by omega)) (by omega)) (by omega)) (by omega)) (by omega)⟩
          · obtain rfl : i = j := by omega
            have hxy : x = y := Option.some.inj (hx'.out.symm.trans hy)
            subst hxy
            exact ⟨_, _, HNW.out _ _, own_set (own_set (own_set (own_set (own_set HOP.out (by omega)) (by omega)) (by omega)) (by omega)) (by omega), own_set (own_set (own_set (own_set (own_set HOS.out (by omega)) (by omega)) (by omega)) (by omega)) (by omega)⟩
        case measure => simp [intOf]; omega
      · obtain rfl : j = n := by omega
        go_wp2_with fail
        go_ret
        exact ⟨_, rfl, HE.out _ _ HH.out hcs HD.out, hB⟩
  · have hp0 : xs.length ≤ 0 := by omega
    have HNEW := Lib.hid hnew
    clear hnew hS hp hfit
    have HAL := Lib.hid hal
    clear hal
    generalize hN : xs.length = n at *
    clear hN
    go_enter Tryz.func12, Tryz.ntmps12
    go_wp2_with fail
    refine wp_loop_rounds 1 ?_; rw [rounds_succ]
    go_wp2_with fail
    go_ret
    exact ⟨_, rfl, HE.out _ _ HNEW.out hsz (fun i x hi => absurd hi (by omega)), HAL.out⟩

theorem eqDeduction_c (x : Dd) (up ua vp va : Value) (w : World) (h1 : Ints w up x.2.1) (h2 : Strs w ua x.2.2.1) (h3 : Ints w vp x.2.1) (h4 : Strs w va x.2.2.1) (n1 : x.2.1.length ≤ 1048576) (n2 : x.2.2.1.length ≤ 1048576) :
    Calls Tryz.prog 28 #[.agg #[.int .i64 x.1, up, ua, .string x.2.2.2.1, .int .i64 x.2.2.2.2], .agg #[.int .i64 x.1, vp, va, .string x.2.2.2.1, .int .i64 x.2.2.2.2]] w fun e w' => e = .returned (.bool true) ∧ Grew w w' := by
  have KI := Lib.hid (fun W (hW : Grew w W) => eqInt64S_yes up vp x.2.1 W (h1.grew hW) (h3.grew hW) (by omega))
  have KS := Lib.hid (fun W (hW : Grew w W) => eqStringS_yes ua va x.2.2.1 W (h2.grew hW) (h4.grew hW) (by omega))
  obtain ⟨A, c, rfl⟩ := ints_slice h1
  obtain ⟨B, d, rfl⟩ := strs_slice h2
  obtain ⟨A2, c2, rfl⟩ := ints_slice h3
  obtain ⟨B2, d2, rfl⟩ := strs_slice h4
  clear h1 h2 h3 h4 n1 n2
  have hal := ((Grew.refl w).alloc (.cells #[.int .i64 x.1, .slice A x.2.1.length c, .slice B x.2.2.1.length d, .string x.2.2.2.1, .int .i64 x.2.2.2.2] 52)).alloc (.cells #[.int .i64 x.1, .slice A2 x.2.1.length c2, .slice B2 x.2.2.1.length d2, .string x.2.2.2.1, .int .i64 x.2.2.2.2] 52)
  have hal1 := (Grew.refl w).alloc (.cells #[.int .i64 x.1, .slice A x.2.1.length c, .slice B x.2.2.1.length d, .string x.2.2.2.1, .int .i64 x.2.2.2.2] 52)
  generalize x.1 = xr at *
  generalize x.2.1.length = l1 at *
  generalize x.2.2.1.length = l2 at *
  generalize x.2.2.2.1 = xc at *
  generalize x.2.2.2.2 = xn at *
  have e1 : (xr != xr) = false := by simp
  have e2 : (xc.toList != xc.toList) = false := by simp
  have e3 : (xn != xn) = false := by simp
  have hW0 : ((w.alloc (.cells #[.int .i64 xr, .slice A l1 c, .slice B l2 d, .string xc, .int .i64 xn] 52)).alloc (.cells #[.int .i64 xr, .slice A2 l1 c2, .slice B2 l2 d2, .string xc, .int .i64 xn] 52)).heap.size = w.heap.size + 1 + 1 := by simp
  have hA0 : ((w.alloc (.cells #[.int .i64 xr, .slice A l1 c, .slice B l2 d, .string xc, .int .i64 xn] 52)).alloc (.cells #[.int .i64 xr, .slice A2 l1 c2, .slice B2 l2 d2, .string xc, .int .i64 xn] 52)).heap[w.heap.size]? = some (.cells #[.int .i64 xr, .slice A l1 c, .slice B l2 d, .string xc, .int .i64 xn] 52 (0, 0)) := by
    rw [((Grew.refl (w.alloc (.cells #[.int .i64 xr, .slice A l1 c, .slice B l2 d, .string xc, .int .i64 xn] 52))).alloc _).block (k := w.heap.size) (by simp)]
    exact blk_new w _
  have hB0 := blk_new (w.alloc (.cells #[.int .i64 xr, .slice A l1 c, .slice B l2 d, .string xc, .int .i64 xn] 52)) (.cells #[.int .i64 xr, .slice A2 l1 c2, .slice B2 l2 d2, .string xc, .int .i64 xn] 52)
  have hsz : (w.alloc (.cells #[.int .i64 xr, .slice A l1 c, .slice B l2 d, .string xc, .int .i64 xn] 52)).heap.size = w.heap.size + 1 := by simp
  rw [hsz] at hB0
  have HW0 := Lib.hid hW0
  have HA0 := Lib.hid hA0
  have HB0 := Lib.hid hB0
  clear hW0 hA0 hB0 hsz
  go_enter Tryz.func28, Tryz.ntmps28
  go_wp2_with fail
  refine (KI.out _ hal).mono ?_
  rintro e w1 ⟨rfl, hg1⟩
  have g1 := hal.trans hg1
  have hA1 := (hg1.block (k := w.heap.size) (by rw [HW0.out]; omega)).trans HA0.out
  have hB1 := (hg1.block (k := w.heap.size + 1) (by rw [HW0.out]; omega)).trans HB0.out
  have a2 : w1.cell? ⟨w.heap.size, 2, none⟩ = some (.slice B l2 d) := (blk_cell hA1 2).trans rfl
  have b2 : w1.cell? ⟨w.heap.size + 1, 2, none⟩ = some (.slice B2 l2 d2) := (blk_cell hB1 2).trans rfl
  have HA1 := Lib.hid hA1
  have HB1 := Lib.hid hB1
  have l1 := blk_lt hA1
  have l2' := blk_lt hB1
  clear hA1 hB1
  go_wp2_with fail
  refine (KS.out _ g1).mono ?_
  rintro e w2 ⟨rfl, hg2⟩
  have g2 := g1.trans hg2
  have hA2 := (hg2.block l1).trans HA1.out
  have hB2 := (hg2.block l2').trans HB1.out
  have a3 : w2.cell? ⟨w.heap.size, 3, none⟩ = some (.string xc) := (blk_cell hA2 3).trans rfl
  have b3 : w2.cell? ⟨w.heap.size + 1, 3, none⟩ = some (.string xc) := (blk_cell hB2 3).trans rfl
  have a4 : w2.cell? ⟨w.heap.size, 4, none⟩ = some (.int .i64 xn) := (blk_cell hA2 4).trans rfl
  have b4 : w2.cell? ⟨w.heap.size + 1, 4, none⟩ = some (.int .i64 xn) := (blk_cell hB2 4).trans rfl
  clear hA2 hB2
  go_wp2_with fail
  go_ret
  exact ⟨rfl, g2⟩

/-- Two lists that are equal. -/
theorem eqDeductionS_yes (v1 v2 : Value) (xs : List Dd) (w : World) (h1 : Dds w v1 xs) (h2 : Dds w v2 xs) (hn : xs.length ≤ 1099511627776) (hf : FitsDd xs) :
    Calls Tryz.prog 14 #[v1, v2] w fun e w' => e = .returned (.bool true) ∧ Grew w w' := by
  by_cases hp : 0 < xs.length
  · obtain ⟨b1, o1, c1, rfl, hc1, hm1, hb1, hcl1⟩ := DdRd.open_ h1 hp
    obtain ⟨b2, o2, c2, rfl, hc2, hm2, hb2, hcl2⟩ := DdRd.open_ h2 hp
    clear h1 h2
    have H1 := Lib.hid hcl1
    have H2 := Lib.hid hcl2
    have HX := Lib.hid (fun j (hj : j < xs.length) => (⟨xs[j], List.getElem?_eq_getElem hj, hf _ (List.getElem_mem hj)⟩ : ∃ x, xs[j]? = some x ∧ FitDd x))
    clear hcl1 hcl2 hf
    generalize hN : xs.length = n at *
    clear hN
    go_enter Tryz.func14, Tryz.ntmps14
    go_wp2_with fail
    go_loopw [5] (fun i wr => ∃ j : Nat, j ≤ n ∧ i = .int .i64 j ∧ Grew w wr) (fun i _ => n - (intOf i).toNat)
    case atStart => exact ⟨0, Nat.zero_le _, rfl, Grew.refl _⟩
    case round =>
      obtain ⟨j, hj, rfl, hB⟩ := hrel
      by_cases hlt : j < n
      · obtain ⟨x, hx, hfx⟩ := HX.out j hlt
        obtain ⟨up, ua, q1, q2, q3⟩ := H1.out j x hx
        obtain ⟨vp, va, r1, r2, r3⟩ := H2.out j x hx
        have KE := Lib.hid (fun W (hW : Grew w W) => eqDeduction_c x up ua vp va W (q2.grew hW) (q3.grew hW) (r2.grew hW) (r3.grew hW) hfx.1 hfx.2.1)
        obtain ⟨U1, cu1, rfl⟩ := ints_slice q2
        obtain ⟨U2, cu2, rfl⟩ := strs_slice q3
        obtain ⟨V1, cv1, rfl⟩ := ints_slice r2
        obtain ⟨V2, cv2, rfl⟩ := strs_slice r3
        have s0 := fun W (hW : Grew w W) => (q1 W hW).1
        have s1 := fun W (hW : Grew w W) => (q1 W hW).2.1
        have s2 := fun W (hW : Grew w W) => (q1 W hW).2.2.1
        have s3 := fun W (hW : Grew w W) => (q1 W hW).2.2.2.1
        have s4 := fun W (hW : Grew w W) => (q1 W hW).2.2.2.2
        have t0 := fun W (hW : Grew w W) => (r1 W hW).1
        have t1 := fun W (hW : Grew w W) => (r1 W hW).2.1
        have t2 := fun W (hW : Grew w W) => (r1 W hW).2.2.1
        have t3 := fun W (hW : Grew w W) => (r1 W hW).2.2.2.1
        have t4 := fun W (hW : Grew w W) => (r1 W hW).2.2.2.2
        have hd := hB.drew
        clear hx q1 q2 q3 r1 r2 r3 hfx
        generalize x.1 = xr at *
        generalize x.2.1.length = l1 at *
        generalize x.2.2.1.length = l2 at *
        generalize x.2.2.2.1 = xc at *
        generalize x.2.2.2.2 = xn at *
        go_wp2_with fail
        go_region_held3 (fun w' => Grew w w') (with_reducible assumption)
          (first | (go_at_call 28; refine (KE.out _ hd).mono ?_; rintro e w1 ⟨rfl, hg1⟩; have hk1 := hd.trans hg1))
        go_wp2_with fail
        go_roundw
        case rel => exact ⟨j + 1, by omega, by go_num, hk1⟩
        case measure => simp [intOf]; omega
      · obtain rfl : j = n := by omega
        go_wp2_with fail
        go_ret
        exact ⟨rfl, hB⟩
  · obtain rfl : xs = [] := List.eq_nil_of_length_eq_zero (by omega)
    obtain ⟨A, c, rfl⟩ := Dds_slice h1
    obtain ⟨B, d, rfl⟩ := Dds_slice h2
    simp only [List.length_nil]
    clear h1 h2 hp hf hn
    go_enter Tryz.func14, Tryz.ntmps14
    go_wp2_with fail
    refine wp_loop_rounds 1 ?_; rw [rounds_succ]
    go_wp2_with fail
    go_ret
    exact ⟨rfl, Grew.refl _⟩
end Go.Proofs.YtfpkfgimhanekaaGreatDoor

/- The laws' own helpers on slices of Deductions: szDeductionS, toDeductionS, eqDeductionS. -/
namespace Go.Proofs.YtfpkfgimhanekaaGreatDoor
open Go.RowKit

/-- The sizes of one. -/
def SizeDd (x : Dd) (r : Int) : Prop := r ≤ 1048576 ∧ (0 ≤ r → FitDd x)
theorem szDeduction_c (x : Dd) (up ua : Value) (left : Int) (w : World) (hp : ArgI w up x.2.1) (hs : ArgS w ua x.2.2.1) (hz : x.2.2.2.1.size ≤ 9223372036854775807) (h0 : 0 ≤ left) (h1 : left ≤ 1048576) :
    Calls Tryz.prog 22 #[.agg #[.int .i64 x.1, up, ua, .string x.2.2.2.1, .int .i64 x.2.2.2.2], .int .i64 left] w fun e w' => ∃ r : Int, e = .returned (.int .i64 r) ∧ SizeDd x r ∧ Grew w w' := by
  have hal := (Grew.refl w).alloc (.cells #[.int .i64 x.1, up, ua, .string x.2.2.2.1, .int .i64 x.2.2.2.2] 49)
  have HE : Hid (∀ r : Int, (r ≤ 1048576 ∧ (0 ≤ r → FitDd x)) → SizeDd x r) := Lib.hid (fun _ h => h)
  have HF : Hid (FitDd x ↔ (x.2.1.length ≤ 1048576 ∧ x.2.2.1.length ≤ 1048576 ∧ Fits x.2.2.1 ∧ x.2.2.2.1.size ≤ 1048576)) := Lib.hid Iff.rfl
  have KI := Lib.hid (fun l W (hW : Grew w W) (a0 : 0 ≤ l) (a1 : l ≤ 1048576) => szInt64S_c up x.2.1 l W (hp.grew hW) a0 a1)
  have KS := Lib.hid (fun l W (hW : Grew w W) (a0 : 0 ≤ l) (a1 : l ≤ 1048576) => szStringS_c ua x.2.2.1 l W (hs.grew hW) a0 a1)
  obtain ⟨⟨A, c, rfl, hm1⟩, _⟩ := hp
  obtain ⟨⟨A2, c2, rfl, hm2⟩, _, _⟩ := hs
  generalize FitDd x = FIT at *
  obtain ⟨r0, P, S, C, N⟩ := x
  simp only at *
  generalize P.length = pl at *
  generalize hsl : S.length = sl at *
  replace hsl := Lib.hid hsl
  go_enter Tryz.func22, Tryz.ntmps22
  go_wp2_with fail
  refine (KI.out _ _ hal (by omega) (by omega)).mono ?_
  rintro e w1 ⟨r1, rfl, ⟨hr1, hf1⟩, hg1⟩
  have k1 := hal.trans hg1
  by_cases h1 : r1 < 0
  · go_wp2_with fail
    go_ret
    exact ⟨_, rfl, HE.out _ ⟨by omega, fun h => absurd h (by omega)⟩, k1⟩
  have f2 : ∀ W, Grew w1 W → W.cell? ⟨w.heap.size, 2, none⟩ = some (.slice A2 sl c2) := fun W hW => ((hg1.trans hW).cell (p := ⟨w.heap.size, 2, none⟩) (by simp)).trans (by simp)
  have rr1 := Grew.refl w1
  go_wp2_with fail
  refine (KS.out _ _ k1 (by omega) (by omega)).mono ?_
  rintro e w2 ⟨r2, rfl, hs2, hg2⟩
  have HS2 := Lib.hid hs2
  have hr2 := hs2.1
  clear hs2
  have k2 := k1.trans hg2
  by_cases h2 : r2 < 0
  · go_wp2_with fail
    go_ret
    exact ⟨_, rfl, HE.out _ ⟨by omega, fun h => absurd h (by omega)⟩, k2⟩
  have f3 : ∀ W, Grew w2 W → W.cell? ⟨w.heap.size, 3, none⟩ = some (.string C) := fun W hW => (((hg1.trans hg2).trans hW).cell (p := ⟨w.heap.size, 3, none⟩) (by simp)).trans (by simp)
  have rr2 := Grew.refl w2
  have hsm := Lib.hid (HS2.out.2 (by omega))
  have hf1' := hf1 (by omega)
  clear hf1
  by_cases h3 : r2 < C.size
  · go_wp2_with fail
    go_ret
    exact ⟨_, rfl, HE.out _ ⟨by omega, fun h => absurd h (by omega)⟩, k2⟩
  · go_wp2_with fail
    go_ret
    exact ⟨_, rfl, HE.out _ ⟨by omega, fun h => HF.out.2 ⟨hf1', (by have h7 := hsm.out.1; have h8 := hsl.out; omega), small_fits hsm.out.2, by omega⟩⟩, k2⟩

/-- The first k are small. -/
def SmallDd (xs : List Dd) (k : Nat) : Prop := ∀ i x, i < k → xs[i]? = some x → FitDd x
theorem SmallDd.zero (xs : List Dd) : SmallDd xs 0 := fun i x hi => absurd hi (by omega)
theorem SmallDd.succ {xs : List Dd} {k : Nat} {x : Dd} (h : SmallDd xs k) (hx : xs[k]? = some x) (h1 : FitDd x) : SmallDd xs (k + 1) := by
  intro i y hi hy
  rcases Nat.lt_or_ge i k with hk | hk
  · exact h i y hk hy
  · obtain rfl : i = k := by omega
    rw [hx] at hy
    injection hy with hy
    subst hy
    exact h1
theorem SmallDd.fits {xs : List Dd} (h : SmallDd xs xs.length) : FitsDd xs := by
  intro x hx
  obtain ⟨i, hi, rfl⟩ := List.getElem_of_mem hx
  exact h i _ hi (List.getElem?_eq_getElem hi)

theorem szDeductionS_c (v : Value) (xs : List Dd) (left : Int) (w : World) (h : ArgDd w v xs) (h0 : 0 ≤ left) (h1 : left ≤ 1048576) :
    Calls Tryz.prog 10 #[v, .int .i64 left] w fun e w' => ∃ r : Int, e = .returned (.int .i64 r) ∧ SizesDd xs r ∧ Grew w w' := by
  obtain ⟨⟨A, c, rfl, hmax⟩, hS, hz⟩ := h
  have HE : Hid (∀ r : Int, (r ≤ 1048576 ∧ (0 ≤ r → xs.length ≤ 1048576 ∧ FitsDd xs)) → SizesDd xs r) := Lib.hid (fun _ h => h)
  by_cases hlong : left < xs.length
  · clear hS hz
    generalize xs.length = n at *
    go_enter Tryz.func10, Tryz.ntmps10
    go_wp2_with fail
    go_ret
    exact ⟨_, rfl, HE.out _ ⟨by omega, fun h => absurd h (by omega)⟩, Grew.refl _⟩
  · by_cases hp : 0 < xs.length
    · obtain ⟨b, o, c', hv, hc, hm, hb, hcell⟩ := (hS hp).open_ hp
      obtain ⟨rfl, rfl⟩ : A = some ⟨b, o, none⟩ ∧ c = c' := by simpa using hv
      clear hS hv
      have HC := Lib.hid hcell
      have HZ := Lib.hid hz
      have HX := Lib.hid (fun j (hj : j < xs.length) => (⟨xs[j], List.getElem?_eq_getElem hj, List.getElem_mem hj⟩ : ∃ x, xs[j]? = some x ∧ x ∈ xs))
      have HFIN := Lib.hid (fun (h : SmallDd xs xs.length) => h.fits)
      clear hcell hz
      generalize hN : xs.length = n at *
      clear hN
      go_enter Tryz.func10, Tryz.ntmps10
      go_wp2_with fail
      go_loopw [1, 5] (fun kk i wr => ∃ (j : Nat) (l : Int), j ≤ n ∧ i = .int .i64 j ∧ kk = .int .i64 l ∧ 0 ≤ l ∧ l ≤ 1048576 ∧ Grew w wr ∧ Hid (SmallDd xs j)) (fun _ i _ => n - (intOf i).toNat)
      case atStart => exact ⟨0, left - n, Nat.zero_le _, rfl, rfl, by omega, by omega, Grew.refl _, SmallDd.zero _⟩
      case round =>
        obtain ⟨j, l, hj, rfl, rfl, hl0, hl1, hB, HJ⟩ := hrel
        by_cases hlt : j < n
        · obtain ⟨x, hx, hxm⟩ := HX.out j hlt
          obtain ⟨up, ua, hcs, hpi, hps⟩ := HC.out j x hx
          obtain ⟨k1, k2, k3, k4, k5⟩ := hcs _ hB
          have hz1 := HZ.out x hxm
          have HS := Lib.hid (fun h => HJ.out.succ hx h)
          have HW := Lib.hid (fun W (hW : Grew w W) => szDeduction_c x up ua l W (hpi.grew hW) (hps.grew hW) hz1 hl0 (by omega))
          clear hcs hpi hps hx hxm hz1
          generalize hxx : x = y at HS HW
          obtain ⟨r0, P, S, C, N⟩ := x
          simp only at k1 k2 k3 k4 k5
          subst hxx
          simp only at HW
          go_wp2_with fail
          refine (HW.out _ hB).mono ?_
          rintro e w1 ⟨r, rfl, ⟨hr1, hr2⟩, hg1⟩
          by_cases hbig : r < 0
          · clear hr2
            go_wp2_with fail
            go_ret
            exact ⟨_, rfl, HE.out _ ⟨by omega, fun h => absurd h (by omega)⟩, hB.trans hg1⟩
          · have hs := Lib.hid (HS.out (hr2 (by omega)))
            clear hr2
            go_wp2_with fail
            go_roundw
            case rel => exact ⟨j + 1, r, by omega, by go_num, rfl, by omega, by omega, hB.trans hg1, hs⟩
            case measure => simp [intOf]; omega
        · obtain rfl : j = n := by omega
          go_wp2_with fail
          go_ret
          exact ⟨_, rfl, HE.out _ ⟨by omega, fun _ => ⟨by omega, HFIN.out HJ.out⟩⟩, hB⟩
    · obtain rfl : xs = [] := List.eq_nil_of_length_eq_zero (by omega)
      simp only [List.length_nil] at *
      go_enter Tryz.func10, Tryz.ntmps10
      go_wp2_with fail
      refine wp_loop_rounds 1 ?_; rw [rounds_succ]
      go_wp2_with fail
      go_ret
      exact ⟨_, rfl, HE.out _ ⟨by omega, fun _ => ⟨by simp, fun i hi => absurd hi (by simp)⟩⟩, Grew.refl _⟩
end Go.Proofs.YtfpkfgimhanekaaGreatDoor

/- The law FnExactDeductionText, walked. -/
namespace Go.Proofs.YtfpkfgimhanekaaGreatDoor
open Go.RowKit

theorem lawTd_c (v0 : Value) (L0 : List Dd) (w : World) (hp : Lib.TabIs Tryz.prog w "internal/strconv.uint64pow10" .u64 Lib.pow10Tab) (h0 : ArgDd w v0 L0) :
    Calls Tryz.prog 4 #[v0] w fun e w' => e = .returned (.bool true) ∧ Grew w w' := by
  have Z0 := Lib.hid (fun W l (hW : Grew w W) (a0 : 0 ≤ l) (a1 : l ≤ 1048576) => szDeductionS_c v0 L0 l W (h0.grew hW) a0 a1)
  have T0 := Lib.hid (fun W (hW : Grew w W) => toDeductionS_c v0 L0 W (h0.grew hW))
  clear h0
  go_enter Tryz.func4, Tryz.ntmps4
  go_wp2_with fail
  refine (Z0.out _ _ (Grew.refl w) (by omega) (by omega)).mono ?_
  rintro e w1 ⟨r0, rfl, ⟨hm0, hs0⟩, hg1⟩
  have z1 := Lib.hid hg1.size
  have g1 : Grew w w1 := (Grew.refl w).trans hg1
  clear hg1
  by_cases hr0 : r0 < 0
  · clear hs0
    go_wp2_with fail
    go_ret
    exact ⟨rfl, g1⟩
  obtain ⟨hn0, hf0⟩ := hs0 (by omega)
  have F0 : Hid (FitsDd L0) := Lib.hid hf0
  clear hs0 hf0
  have KS := Lib.hid (fun u0 W x0 => specTd_c u0 L0 W x0 F0.out (by omega))
  have hpw := Pow.of hp
  have KI := Lib.hid (fun u0 W (hW : Grew w W) x0 => implTd_c u0 L0 W x0 F0.out (by omega) (hpw.grew hW))
  clear hpw hp
  unfold GivesStrD at KS KI
  generalize tdF L0 = rr at *
  obtain ⟨ra, rc⟩ := rr
  simp only at KS KI
  have hc1 : (rc != rc) = false := by simp
  have ha1 : (ra.toList != ra.toList) = false := by simp
  go_wp2_with fail
  refine (T0.out _ g1 hn0 F0.out).mono ?_
  rintro e w2 ⟨a0, rfl, oa0, hg2⟩
  have z2 := Lib.hid hg2.size
  have g2 : Grew w w2 := g1.trans hg2
  clear hg2
  go_wp2_with fail
  refine (KS.out _ _ oa0.rd).mono ?_
  rintro e w3 ⟨rfl, hg3⟩
  have z3 := Lib.hid hg3.size
  have g3 : Grew w w3 := g2.trans hg3
  clear hg3 oa0
  go_wp2_with fail
  refine (T0.out _ g3 hn0 F0.out).mono ?_
  rintro e w4 ⟨x0, rfl, ox0, hg4⟩
  have z4 := Lib.hid hg4.size
  have g4 : Grew w w4 := g3.trans hg4
  clear hg4
  go_wp2_with fail
  refine (KI.out _ _ g4 ox0.rd).mono ?_
  rintro e w5 ⟨rfl, hg5⟩
  have z5 := Lib.hid hg5.size
  have g5 : Grew w w5 := g4.trans hg5
  replace ox0 := ox0.grew hg5
  clear hg5
  go_wp2_with fail
  refine (T0.out _ g5 hn0 F0.out).mono ?_
  rintro e w6 ⟨y0, rfl, oy0, hg6⟩
  have z6 := Lib.hid hg6.size
  have g6 : Grew w w6 := g5.trans hg6
  replace ox0 := ox0.grew hg6
  clear hg6
  go_wp2_with fail
  refine (eqDeductionS_yes _ _ L0 _ ox0.rd oy0.rd (by omega) F0.out).mono ?_
  rintro e w7 ⟨rfl, hg7⟩
  have z7 := Lib.hid hg7.size
  have g7 : Grew w w7 := g6.trans hg7
  replace ox0 := ox0.grew hg7
  clear hg7 oy0
  go_wp2_with fail
  go_ret
  exact ⟨rfl, g7⟩
end Go.Proofs.YtfpkfgimhanekaaGreatDoor

/- An argument that is a list of strings, or a struct of two such lists. -/
namespace Go.Proofs.YtfpkfgimhanekaaGreatDoor
open Go.RowKit

theorem cell_lt {w : World} {a : Addr} {u : Value} (h : w.cell? a = some u) : a.block < w.heap.size := by
  unfold World.cell? at h
  split at h
  · rename_i hh
    exact (Array.getElem?_eq_some_iff.1 hh).1
  · cases h

theorem argS_of_trod {H : Type} {enc : TypeId × Value → H} {P : Program} {W : World} {sp : Nat → Bool} {held : Bool} {n : Nat} {t e : TypeId} {v : Value} {y : DataW H × List MemPlace}
    (ht : P.underlying t = some (.slice e)) (he : P.underlying e = some .string) (hc : P.cellsOf e = 1) (h : DataW.trod enc P W 0 sp held n t [v] = some y) : ∃ L, ArgS W v L := by
  rcases Go.Deep.open_strs ht he hc h with ⟨hv, _⟩ | ⟨a, len, cap, m, Sx, hv, _, hl, hm, hmm, _, hcell⟩
  · obtain rfl : v = .slice none 0 0 := by simpa using hv
    exact ⟨[], ⟨none, 0, rfl, by simp⟩, fun h => absurd h (by simp), fun i hi => absurd hi (by simp)⟩
  · obtain rfl : v = .slice (some a) len cap := by simpa using hv
    have hlm : len ≤ m := by rw [hmm]; split <;> omega
    have hmax : maxLen = 9223372036854775807 := by decide
    rw [hmax] at hm
    have hlen : ((List.range len).map Sx).length = len := by simp
    have hst : ∀ i, i < len → st ((List.range len).map Sx) i = Sx i := fun i hi => by simp [st, List.getD, hi]
    refine ⟨(List.range len).map Sx, ⟨some a, cap, by rw [hlen], by rw [hlen]; omega⟩, fun hp => ?_, fun i hi => ?_⟩
    · rw [hlen] at hp
      obtain ⟨b, off, spot⟩ := a
      have h0 := (hcell 0 (by omega)).1
      have hspot : spot = none := by simpa [Addr.add] using World.cell?_spot h0
      subst hspot
      have hb := cell_lt h0
      have hadd : ∀ i, (⟨b, off, none⟩ : Addr).add i = ⟨b, off + i, none⟩ := fun i => by
        unfold Addr.add
        split
        · subst_vars; rfl
        · rfl
      rw [hadd] at hb
      unfold Strs Rd
      rw [hlen]
      refine ⟨by rw [scells_length, hlen], by omega, .inr ⟨b, off, cap, rfl, hl, hm, hb, fun j u hu => ?_⟩⟩
      have hj : j < len := by
        have := (List.getElem?_eq_some_iff.1 hu).1
        rw [scells_length, hlen] at this
        omega
      rw [scells_at (by rw [hlen]; exact hj), hst j hj] at hu
      rw [← hadd, (hcell j (by omega)).1]
      exact hu
    · rw [hlen] at hi
      rw [hst i hi, ← hmax]
      exact (hcell i (by omega)).2
end Go.Proofs.YtfpkfgimhanekaaGreatDoor

/- An argument that is a list of numbers. -/
namespace Go.Proofs.YtfpkfgimhanekaaGreatDoor
open Go.RowKit

theorem argI_of_trod {H : Type} {enc : TypeId × Value → H} {P : Program} {W : World} {sp : Nat → Bool} {held : Bool} {n : Nat} {t e : TypeId} {v : Value} {y : DataW H × List MemPlace}
    (ht : P.underlying t = some (.slice e)) (he : P.underlying e = some (.int .i64)) (hc : P.cellsOf e = 1) (h : DataW.trod enc P W 0 sp held n t [v] = some y) : ∃ L, ArgI W v L := by
  rcases Go.Deep.open_slice ht h with ⟨hv, _⟩ | ⟨a, len, cap, m, k, D, Pl, hv, _, hl, hm, hmm, _, hcell⟩
  · obtain rfl : v = .slice none 0 0 := by simpa using hv
    exact ⟨[], ⟨none, 0, rfl, by simp⟩, fun h => absurd h (by simp)⟩
  · obtain rfl : v = .slice (some a) len cap := by simpa using hv
    have hlm : len ≤ m := by rw [hmm]; split <;> omega
    have hmax : maxLen = 9223372036854775807 := by decide
    rw [hmax] at hm
    have each : ∀ i, i < len → ∃ q : Int, W.cell? (a.add i) = some (.int .i64 q) := fun i hi => by
      obtain ⟨cs', h1, h2⟩ := hcell i (by omega)
      rw [hc] at h1
      obtain ⟨_, hlen, hc1⟩ := World.cells?_some h1
      match cs', hlen with
      | [v0], _ =>
        obtain ⟨x, hx, _⟩ := DataW.trod_int he h2
        obtain rfl : v0 = .int .i64 x := by simpa using hx
        have e0 := hc1 0 (by omega)
        rw [Go.Deep.add_add] at e0
        exact ⟨x, by simpa [hc] using e0⟩
    obtain ⟨q, hq⟩ := Go.Deep.choose_lt each
    have hlen : ((List.range len).map q).length = len := by simp
    refine ⟨(List.range len).map q, ⟨some a, cap, by rw [hlen], by rw [hlen]; omega⟩, fun hp => ?_⟩
    rw [hlen] at hp
    obtain ⟨b, off, spot⟩ := a
    have h0 := hq 0 (by omega)
    have hspot : spot = none := by simpa [Addr.add] using World.cell?_spot h0
    subst hspot
    have hb := cell_lt h0
    have hadd : ∀ i, (⟨b, off, none⟩ : Addr).add i = ⟨b, off + i, none⟩ := fun i => by
      unfold Addr.add
      split
      · subst_vars; rfl
      · rfl
    rw [hadd] at hb
    unfold Ints Rd
    rw [hlen]
    refine ⟨by rw [icells_length, hlen], by omega, .inr ⟨b, off, cap, rfl, hl, hm, hb, fun j u hu => ?_⟩⟩
    have hj : j < len := by
      have := (List.getElem?_eq_some_iff.1 hu).1
      rw [icells_length, hlen] at this
      omega
    have h1 := icells_at (L := (List.range len).map q) (i := j) (by rw [hlen]; exact hj)
    rw [h1] at hu
    rw [← hadd, hq j hj, ← hu]
    simp [it, List.getD, hj]
end Go.Proofs.YtfpkfgimhanekaaGreatDoor

/- An argument that is a list of Deductions. -/
namespace Go.Proofs.YtfpkfgimhanekaaGreatDoor
open Go.RowKit


theorem argDd_of_trod {H : Type} {enc : TypeId × Value → H} {P : Program} {W : World} {sp : Nat → Bool} {held : Bool} {n : Nat} {t e ei es : TypeId} {f0 f1 f2 f3 f4 : Field} {v : Value} {y : DataW H × List MemPlace}
    (ht : P.underlying t = some (.slice e)) (he : P.underlying e = some (.struct #[f0, f1, f2, f3, f4])) (ce : P.cellsOf e = 5) (o0 : f0.offset = 0) (o1 : f1.offset = 1) (o2 : f2.offset = 2) (o3 : f3.offset = 3) (o4 : f4.offset = 4)
    (c0 : P.cellsOf f0.type = 1) (c1 : P.cellsOf f1.type = 1) (c2 : P.cellsOf f2.type = 1) (c3 : P.cellsOf f3.type = 1) (c4 : P.cellsOf f4.type = 1)
    (u0 : P.underlying f0.type = some (.int .i64)) (u1 : P.underlying f1.type = some (.slice ei)) (u2 : P.underlying f2.type = some (.slice es)) (u3 : P.underlying f3.type = some .string) (u4 : P.underlying f4.type = some (.int .i64))
    (ui : P.underlying ei = some (.int .i64)) (ci : P.cellsOf ei = 1) (us : P.underlying es = some .string) (cs : P.cellsOf es = 1) (h : DataW.trod enc P W 0 sp held n t [v] = some y) : ∃ xs, ArgDd W v xs := by
  rcases Go.Deep.open_slice ht h with ⟨hv, _⟩ | ⟨a, len, cap, m, k, D, Pl, hv, _, hl, hm, hmm, _, hcell⟩
  · obtain rfl : v = .slice none 0 0 := by simpa using hv
    exact ⟨[], ⟨none, 0, rfl, by simp⟩, fun h => absurd h (by simp), fun x hx => absurd hx (by simp)⟩
  · obtain rfl : v = .slice (some a) len cap := by simpa using hv
    have hlm : len ≤ m := by rw [hmm]; split <;> omega
    have hmax : maxLen = 9223372036854775807 := by decide
    rw [hmax] at hm
    have each : ∀ i, i < len → ∃ q : (Value × Value) × Dd, W.cell? (a.add (i * 5)) = some (.int .i64 q.2.1) ∧ W.cell? (a.add (i * 5 + 1)) = some q.1.1 ∧ W.cell? (a.add (i * 5 + 2)) = some q.1.2 ∧ W.cell? (a.add (i * 5 + 3)) = some (.string q.2.2.2.2.1) ∧ W.cell? (a.add (i * 5 + 4)) = some (.int .i64 q.2.2.2.2.2) ∧ ArgI W q.1.1 q.2.2.1 ∧ ArgS W q.1.2 q.2.2.2.1 ∧ q.2.2.2.2.1.size ≤ maxLen := fun i hi => by
      obtain ⟨cs', h1, h2⟩ := hcell i (by omega)
      rw [ce] at h1
      obtain ⟨_, hlen, hc⟩ := World.cells?_some h1
      obtain ⟨xs, k', hk, hxy, _, hxl, hf⟩ := DataW.trod_struct he h2
      match xs, hxl, cs', hlen with
      | [y0, y1, y2, y3, y4], _, [v0, v1, v2, v3, v4], _ =>
        have g0 := hf 0 f0 rfl
        have g1 := hf 1 f1 rfl
        have g2 := hf 2 f2 rfl
        have g3 := hf 3 f3 rfl
        have g4 := hf 4 f4 rfl
        simp [o0, o1, o2, o3, o4, c0, c1, c2, c3, c4] at g0 g1 g2 g3 g4
        have e0 := hc 0 (by omega)
        have e1 := hc 1 (by omega)
        have e2 := hc 2 (by omega)
        have e3 := hc 3 (by omega)
        have e4 := hc 4 (by omega)
        rw [Go.Deep.add_add] at e0 e1 e2 e3 e4
        obtain ⟨x, hx, _⟩ := DataW.trod_int u0 g0
        obtain ⟨L1, hL1⟩ := argI_of_trod u1 ui ci g1
        obtain ⟨L2, hL2⟩ := argS_of_trod u2 us cs g2
        obtain ⟨s, hs, _, hsz⟩ := DataW.trod_string u3 g3
        obtain ⟨z, hz, _⟩ := DataW.trod_int u4 g4
        obtain rfl : v0 = .int .i64 x := by simpa using hx
        obtain rfl : v3 = .string s := by simpa using hs
        obtain rfl : v4 = .int .i64 z := by simpa using hz
        exact ⟨((v1, v2), (x, L1, L2, s, z)), by simpa using e0, by simpa using e1, by simpa using e2, by simpa using e3, by simpa using e4, hL1, hL2, hsz⟩
    obtain ⟨q, hq⟩ := Go.Deep.choose_lt each
    have hlen : ((List.range len).map fun i => (q i).2).length = len := by simp
    refine ⟨(List.range len).map fun i => (q i).2, ⟨some a, cap, by rw [hlen], by rw [hlen]; omega⟩, fun hp => ?_, fun x hx => ?_⟩
    · rw [hlen] at hp
      obtain ⟨b, off, spot⟩ := a
      have h0 := (hq 0 (by omega)).1
      have hspot : spot = none := by simpa [Addr.add] using World.cell?_spot h0
      subst hspot
      have hb := cell_lt h0
      have hadd : ∀ i, (⟨b, off, none⟩ : Addr).add i = ⟨b, off + i, none⟩ := fun i => by
        unfold Addr.add
        split
        · subst_vars; rfl
        · rfl
      rw [hadd] at hb
      refine .inr ⟨b, off, cap, by rw [hlen], by rw [hlen]; exact hl, hm, hb, fun i x hx => ?_⟩
      have hi : i < len := by
        have := (List.getElem?_eq_some_iff.1 hx).1
        rw [hlen] at this
        exact this
      have hxe : x = (q i).2 := by
        rw [List.getElem?_map, List.getElem?_range hi] at hx
        simp at hx
        exact hx.symm
      subst hxe
      obtain ⟨e0, e1, e2, e3, e4, e5, e6, _⟩ := hq i hi
      rw [hadd] at e0 e1 e2 e3 e4
      exact ⟨_, _, ⟨e0, by rw [← e1, Nat.add_assoc], by rw [← e2, Nat.add_assoc], by rw [← e3, Nat.add_assoc], by rw [← e4, Nat.add_assoc]⟩, e5, e6⟩
    · rw [List.mem_map] at hx
      obtain ⟨i, hi, rfl⟩ := hx
      rw [← hmax]
      exact (hq i (by simpa using hi)).2.2.2.2.2.2.2
end Go.Proofs.YtfpkfgimhanekaaGreatDoor

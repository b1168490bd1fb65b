/- Texts in one file: DdK DdBb DdCo DdPl DdSh CpS Dr DdSz LawDr Args ArgsI ArgDd AppI Det LawDet. -/
import Derived.Lib.SliceRun
import Derived.Outline
import Derived.Deep.Strs
import Derived.Lib.SmallJoins
import Derived.Carry
import Derived.ProofKit
import Derived.Deep.SlicePairs
import Derived.Test.YtofeeenjlaljpaaGreatPa1
import Derived.Test.YtofeeenjlaljpaaGreatPa2
import Derived.Test.YtofeeenjlaljpaaGreatPa3
import Derived.Test.YtofeeenjlaljpaaGreatPa4
set_option linter.all false

/- l25Correct, l25Bad of the reference. -/
namespace Go.Proofs.YtofeeenjlaljpaaGreat
open Go.RowKit

def pre (bef : List Dd) (P : List Int) (n : Nat) : List Dd := (P.take n).map fun k => bef.getD k.toNat (0, [], [], ByteArray.empty, 0)
theorem pre_map (bef : List Dd) (P : List Int) (n : Nat) : (pre bef P n).map jd = givenN bef P n := by unfold pre givenN given; rw [List.map_map]; rfl
theorem pre_succ {bef : List Dd} {P : List Int} {n m : Nat} {y : Dd} (hn : n < P.length) (hm : it P n = (m : Int)) (hy : bef[m]? = some y) : pre bef P (n + 1) = pre bef P n ++ [y] := by
  unfold pre
  rw [List.take_succ_eq_append_getElem hn, List.map_append, List.map_singleton, it_get hn, hm, Int.toNat_natCast]
  simp [List.getD, hy]
theorem pre_len (bef : List Dd) (P : List Int) (n : Nat) : (pre bef P n).length ≤ P.length := by unfold pre; simp; omega
theorem pre_all (bef : List Dd) (P : List Int) : (pre bef P P.length).length = P.length := by unfold pre; simp
theorem pre_gp {bef : List Dd} {P : List Int} (hb : ∀ y ∈ bef, gp y.2.2.2.1 = true) (hP : Prem bef P P.length) : ∀ y ∈ pre bef P P.length, gp y.2.2.2.1 = true := by
  intro y hy
  unfold pre at hy
  rw [List.take_length, List.mem_map] at hy
  obtain ⟨k, hk, rfl⟩ := hy
  have h1 := prem_all.1 hP k hk
  have hlt : k.toNat < bef.length := by omega
  have := hb _ (List.getElem_mem hlt)
  simpa [List.getD, hlt] using this

/-- The cells of a step that lies alone. -/
def BoxD (W : World) (g : Nat) (x : Dd) (up ua : Value) : Prop :=
  W.cell? ⟨g, 0, none⟩ = some (.int .i64 x.1) ∧ W.cell? ⟨g, 1, none⟩ = some up ∧ W.cell? ⟨g, 2, none⟩ = some ua ∧ W.cell? ⟨g, 3, none⟩ = some (.string x.2.2.2.1) ∧ W.cell? ⟨g, 4, none⟩ = some (.int .i64 x.2.2.2.2)
theorem BoxD.grew {W W' : World} {g : Nat} {x : Dd} {up ua : Value} (h : BoxD W g x up ua) (hb : g < W.heap.size) (hg : Grew W W') : BoxD W' g x up ua :=
  ⟨(hg.cell (p := ⟨g, 0, none⟩) hb).trans h.1, (hg.cell (p := ⟨g, 1, none⟩) hb).trans h.2.1, (hg.cell (p := ⟨g, 2, none⟩) hb).trans h.2.2.1, (hg.cell (p := ⟨g, 3, none⟩) hb).trans h.2.2.2.1, (hg.cell (p := ⟨g, 4, none⟩) hb).trans h.2.2.2.2⟩
theorem BoxD.far {W W' : World} {g : Nat} {x : Dd} {up ua : Value} {row : Option Nat} (h : BoxD W g x up ua) (hb : g < W.heap.size) (hg : W.grownBy W' row) (hne : some g ≠ row) : BoxD W' g x up ua :=
  ⟨(hg.cell_far ⟨g, 0, none⟩ hb hne).trans h.1, (hg.cell_far ⟨g, 1, none⟩ hb hne).trans h.2.1, (hg.cell_far ⟨g, 2, none⟩ hb hne).trans h.2.2.1, (hg.cell_far ⟨g, 3, none⟩ hb hne).trans h.2.2.2.1, (hg.cell_far ⟨g, 4, none⟩ hb hne).trans h.2.2.2.2⟩

set_option maxHeartbeats 4000000 in
theorem l25Correct_c (v : Value) (xs : List Dd) (k : Nat) (x : Dd) (w : World) (hv : Dds w v xs) (hx : xs[k]? = some x) (hfx : FitDd x) (hgb : ∀ y ∈ xs.take k, gp y.2.2.2.1 = true) (hl : xs.length ≤ 1000) :
    Calls Tryz.prog 102 #[v, .int .i64 k] w fun e w' => e = .returned (.bool (dcd (goodP (xs.take k) x))) ∧ Grew w w' := by
  have hlt := (List.getElem?_eq_some_iff.1 hx).1
  obtain ⟨b, o, c, rfl, hc, hm, hcell⟩ : ∃ b o c, v = .slice (some ⟨b, o, none⟩) xs.length c ∧ xs.length ≤ c ∧ c ≤ 9223372036854775807 ∧ (b < w.heap.size ∧ ∀ i x, xs[i]? = some x → ∃ up ua, DdCells w b (o + i * 5) x up ua ∧ Ints w up x.2.1 ∧ Strs w ua x.2.2.1) := by
    rcases hv with ⟨_, h0⟩ | ⟨b, o, c, hv, hc, hm, hb, hcell⟩
    · rw [h0] at hlt; simp at hlt
    · exact ⟨b, o, c, hv, hc, hm, hb, hcell⟩
  obtain ⟨hbb, hcell⟩ := hcell
  obtain ⟨up, ua, hcl, hup, hs⟩ := hcell k x hx
  obtain ⟨k0, k1, k2, k3, k4⟩ := hcl
  have hbl : (xs.take k).length = k := by simp; omega
  have HC := Lib.hid hcell
  have HGB := Lib.hid hgb
  have HBL := Lib.hid hbl
  have HS := Lib.hid hs
  have HUP := Lib.hid hup
  have HTK : Hid (∀ (m : Nat) (y : Dd), m < k → xs[m]? = some y → (xs.take k)[m]? = some y) := Lib.hid (fun m y h1 h2 => by rw [List.getElem?_take, if_pos h1]; exact h2)
  generalize xs.take k = bef at *
  have KF := fun W => l25Formula_c x.2.2.2.1 W (by have := hfx.2.2.2; omega)
  unfold GivesP at KF
  have KL := fun W (hW : Grew w W) => l25List_c ua x.2.2.1 W (hs.grew hW) hfx.2.2.1
  have KN := Lib.hid (fun W => l25Count_c x.1 W)
  have hpl := hfx.1
  obtain ⟨A, cP, rfl⟩ := ints_slice hup
  obtain ⟨UA, ca, rfl⟩ := strs_slice hs
  have hal1 := (Grew.refl w).alloc (.cells #[] 50)
  have hal := hal1.alloc (.cells #[.int .i64 x.1, .slice A x.2.1.length cP, .slice UA x.2.2.1.length ca, .string x.2.2.2.1, .int .i64 x.2.2.2.2] 50)
  have HBX : Hid (∀ W, Grew ((w.alloc (.cells #[] 50)).alloc (.cells #[.int .i64 x.1, .slice A x.2.1.length cP, .slice UA x.2.2.1.length ca, .string x.2.2.2.1, .int .i64 x.2.2.2.2] 50)) W → BoxD W (w.heap.size + 1) x (.slice A x.2.1.length cP) (.slice UA x.2.2.1.length ca) ∧ W.heap[w.heap.size]? = some (.cells #[] 50 (0, 0)) ∧ w.heap.size + 1 < W.heap.size) := Lib.hid (fun W hW => by
    have hz : (w.alloc (.cells #[] 50)).heap.size = w.heap.size + 1 := by simp
    have hz2 : ((w.alloc (.cells #[] 50)).alloc (.cells #[.int .i64 x.1, .slice A x.2.1.length cP, .slice UA x.2.2.1.length ca, .string x.2.2.2.1, .int .i64 x.2.2.2.2] 50)).heap.size = w.heap.size + 2 := by simp
    have hb2 := blk_new (w.alloc (.cells #[] 50)) (.cells #[.int .i64 x.1, .slice A x.2.1.length cP, .slice UA x.2.2.1.length ca, .string x.2.2.2.1, .int .i64 x.2.2.2.2] 50)
    rw [hz] at hb2
    refine ⟨BoxD.grew ⟨(blk_cell hb2 0).trans rfl, (blk_cell hb2 1).trans rfl, (blk_cell hb2 2).trans rfl, (blk_cell hb2 3).trans rfl, (blk_cell hb2 4).trans rfl⟩ (by omega) hW, ?_, by have := hW.size; omega⟩
    rw [hW.block (by omega), ((Grew.refl (w.alloc (.cells #[] 50))).alloc _).block (by omega)]
    exact blk_new w _)
  clear hv hcell hup hs hbl hgb hx
  by_cases hg : gp x.2.2.2.1 = true
  · rw [hg] at KF
    by_cases ha : asl x.2.2.1 = true
    · rw [ha] at KL
      have ha12 := (asl_map ha).1
      by_cases hn : cnt x.1 = (x.2.1.length : Int)
      · have en : (cnt x.1 != (x.2.1.length : Int)) = false := by rw [hn]; simp
        by_cases hnn : x.1 = 1 ∨ x.2.2.2.2 = 0
        · have hq : (x.1 != 1) = false ∨ ((x.1 != 1) = true ∧ (x.2.2.2.2 != 0) = false) := by
            by_cases h1 : x.1 = 1
            · exact .inl (by simpa using h1)
            · exact .inr ⟨by simpa using h1, by simpa using hnn.resolve_left h1⟩
          replace hnn := Lib.hid hnn
          replace hn := Lib.hid hn
          replace hg := Lib.hid hg
          replace ha := Lib.hid ha
          rcases hq with e1 | ⟨e1, e2⟩
          · replace KF := Lib.hid KF
            replace KL := Lib.hid KL
            go_enter Tryz.func102, Tryz.ntmps102
            go_wp2_with fail
            refine (KF.out _).mono ?_
            rintro e w1 ⟨uf, rfl, hof, hg1⟩
            clear hof
            have g1 := hal.trans hg1
            obtain ⟨hbx, hblk, hsz⟩ := HBX.out _ hg1
            have f0 := fun W (hW : Grew w1 W) => (hbx.grew hsz hW).1
            have f1 := fun W (hW : Grew w1 W) => (hbx.grew hsz hW).2.1
            have f2 := fun W (hW : Grew w1 W) => (hbx.grew hsz hW).2.2.1
            have f4 := fun W (hW : Grew w1 W) => (hbx.grew hsz hW).2.2.2.2
            have HBX1 := Lib.hid hbx
            have HBK := Lib.hid hblk
            have r1 := Grew.refl w1
            have d1 := r1.drew
            have gd := g1.trans d1
            clear hbx hblk k0 k1 k2 k3 k4
            go_wp2_with fail
            refine wp_region_held_drew (S := fun w' => Grew w1 w') (by kernel_rfl) d1 (fun hHeld => ?_)
            refine wpAnyH_take (i := 0) (oi := ?on1) (v := ?vn1) ?hin1 ?an1 ?bn1 ?cn1 ?qn1 (Or.inl ⟨?dn1, ?hyn1⟩) hHeld ?restn1
            case hin1 => (simp only [List.getElem?_toArray, List.getElem?_cons_succ, List.getElem?_cons_zero]; exact rfl)
            case an1 => kernel_rfl
            case bn1 => kernel_rfl
            case cn1 => kernel_rfl
            case qn1 => exact fun _ _ _ h => h
            case dn1 => rfl
            case hyn1 => (intro z hSw; (try dsimp only at hSw); go_simp; (try with_reducible rfl))
            try simp only [Act.put, List.setIfInBounds_toArray, List.set_cons_zero, List.set_cons_succ]
            refine wpAnyH_take (i := 1) (oi := ?on2) (v := ?vn2) ?hin2 ?an2 ?bn2 ?cn2 ?qn2 (Or.inl ⟨?dn2, ?hyn2⟩) hHeld ?restn2
            case hin2 => (simp only [List.getElem?_toArray, List.getElem?_cons_succ, List.getElem?_cons_zero]; exact rfl)
            case an2 => kernel_rfl
            case bn2 => kernel_rfl
            case cn2 => kernel_rfl
            case qn2 => exact fun _ _ _ h => h
            case dn2 => rfl
            case hyn2 => (intro z hSw; (try dsimp only at hSw); go_simp; (try with_reducible rfl))
            try simp only [Act.put, List.setIfInBounds_toArray, List.set_cons_zero, List.set_cons_succ]
            refine wpAnyH_take (i := 2) (oi := ?on3) (v := ?vn3) ?hin3 ?an3 ?bn3 ?cn3 ?qn3 (Or.inl ⟨?dn3, ?hyn3⟩) hHeld ?restn3
            case hin3 => (simp only [List.getElem?_toArray, List.getElem?_cons_succ, List.getElem?_cons_zero]; exact rfl)
            case an3 => kernel_rfl
            case bn3 => kernel_rfl
            case cn3 => kernel_rfl
            case qn3 => exact fun _ _ _ h => h
            case dn3 => rfl
            case hyn3 => (intro z hSw; (try dsimp only at hSw); go_simp; (try with_reducible rfl))
            try simp only [Act.put, List.setIfInBounds_toArray, List.set_cons_zero, List.set_cons_succ]
            refine wpAnyH_take (i := 3) (oi := ?on4) (v := ?vn4) ?hin4 ?an4 ?bn4 ?cn4 ?qn4 (Or.inl ⟨?dn4, ?hyn4⟩) hHeld ?restn4
            case hin4 => (simp only [List.getElem?_toArray, List.getElem?_cons_succ, List.getElem?_cons_zero]; exact rfl)
            case an4 => kernel_rfl
            case bn4 => kernel_rfl
            case cn4 => kernel_rfl
            case qn4 => exact fun _ _ _ h => h
            case dn4 => rfl
            case hyn4 => (intro z hSw; (try dsimp only at hSw); go_simp; (try with_reducible rfl))
            try simp only [Act.put, List.setIfInBounds_toArray, List.set_cons_zero, List.set_cons_succ]
            refine wpAnyH_take (i := 4) (oi := ?on5) (v := ?vn5) ?hin5 ?an5 ?bn5 ?cn5 ?qn5 (Or.inl ⟨?dn5, ?hyn5⟩) hHeld ?restn5
            case hin5 => (simp only [List.getElem?_toArray, List.getElem?_cons_succ, List.getElem?_cons_zero]; exact rfl)
            case an5 => kernel_rfl
            case bn5 => kernel_rfl
            case cn5 => kernel_rfl
            case qn5 => exact fun _ _ _ h => h
            case dn5 => rfl
            case hyn5 => (intro z hSw; (try dsimp only at hSw); go_simp; (try with_reducible rfl))
            try simp only [Act.put, List.setIfInBounds_toArray, List.set_cons_zero, List.set_cons_succ]
            refine wpAnyH_ready (rs := [5]) (by kernel_rfl) (by simp) ?_
            refine AllReadyH.cons (o := ?on6) ?hin6 ?restn6 AllReadyH.nil
            case hin6 => (simp only [List.getElem?_toArray, List.getElem?_cons_succ, List.getElem?_cons_zero]; exact rfl)
            intro K hK
            go_simp
            go_at_call 132
            refine (KL.out _ gd).mono ?_
            rintro e w3 ⟨rfl, hg3⟩
            have gk3 := gd.trans hg3
            have mk3 := d1.trans hg3
            refine hK.out _ _ ?_ (fun hHeld => ?_)
            · (try dsimp only); first | with_reducible assumption | exact Grew.alloc ‹_› _
            clear hK K
            try simp only [Act.put, List.setIfInBounds_toArray, List.set_cons_zero, List.set_cons_succ]
            refine wpAnyH_take (i := 6) (oi := ?on7) (v := ?vn7) ?hin7 ?an7 ?bn7 ?cn7 ?qn7 (Or.inl ⟨?dn7, ?hyn7⟩) hHeld ?restn7
            case hin7 => (simp only [List.getElem?_toArray, List.getElem?_cons_succ, List.getElem?_cons_zero]; exact rfl)
            case an7 => kernel_rfl
            case bn7 => kernel_rfl
            case cn7 => kernel_rfl
            case qn7 => exact fun _ _ _ h => h
            case dn7 => rfl
            case hyn7 => (intro z hSw; (try dsimp only at hSw); go_simp; (try with_reducible rfl))
            try simp only [Act.put, List.setIfInBounds_toArray, List.set_cons_zero, List.set_cons_succ]
            refine wpAnyH_take (i := 7) (oi := ?on8) (v := ?vn8) ?hin8 ?an8 ?bn8 ?cn8 ?qn8 (Or.inl ⟨?dn8, ?hyn8⟩) hHeld ?restn8
            case hin8 => (simp only [List.getElem?_toArray, List.getElem?_cons_succ, List.getElem?_cons_zero]; exact rfl)
            case an8 => kernel_rfl
            case bn8 => kernel_rfl
            case cn8 => kernel_rfl
            case qn8 => exact fun _ _ _ h => h
            case dn8 => rfl
            case hyn8 => (intro z hSw; (try dsimp only at hSw); go_simp; (try with_reducible rfl))
            try simp only [Act.put, List.setIfInBounds_toArray, List.set_cons_zero, List.set_cons_succ]
            refine wpAnyH_take (i := 8) (oi := ?on9) (v := ?vn9) ?hin9 ?an9 ?bn9 ?cn9 ?qn9 (Or.inl ⟨?dn9, ?hyn9⟩) hHeld ?restn9
            case hin9 => (simp only [List.getElem?_toArray, List.getElem?_cons_succ, List.getElem?_cons_zero]; exact rfl)
            case an9 => kernel_rfl
            case bn9 => kernel_rfl
            case cn9 => kernel_rfl
            case qn9 => exact fun _ _ _ h => h
            case dn9 => rfl
            case hyn9 => (intro z hSw; (try dsimp only at hSw); go_simp; (try with_reducible rfl))
            try simp only [Act.put, List.setIfInBounds_toArray, List.set_cons_zero, List.set_cons_succ]
            refine wpAnyH_take (i := 9) (oi := ?on10) (v := ?vn10) ?hin10 ?an10 ?bn10 ?cn10 ?qn10 (Or.inl ⟨?dn10, ?hyn10⟩) hHeld ?restn10
            case hin10 => (simp only [List.getElem?_toArray, List.getElem?_cons_succ, List.getElem?_cons_zero]; exact rfl)
            case an10 => kernel_rfl
            case bn10 => kernel_rfl
            case cn10 => kernel_rfl
            case qn10 => exact fun _ _ _ h => h
            case dn10 => rfl
            case hyn10 => (intro z hSw; (try dsimp only at hSw); go_simp; (try with_reducible rfl))
            try simp only [Act.put, List.setIfInBounds_toArray, List.set_cons_zero, List.set_cons_succ]
            refine wpAnyH_take (i := 10) (oi := ?on11) (v := ?vn11) ?hin11 ?an11 ?bn11 ?cn11 ?qn11 (Or.inl ⟨?dn11, ?hyn11⟩) hHeld ?restn11
            case hin11 => (simp only [List.getElem?_toArray, List.getElem?_cons_succ, List.getElem?_cons_zero]; exact rfl)
            case an11 => kernel_rfl
            case bn11 => kernel_rfl
            case cn11 => kernel_rfl
            case qn11 => exact fun _ _ _ h => h
            case dn11 => rfl
            case hyn11 => (intro z hSw; (try dsimp only at hSw); go_simp; (try with_reducible rfl))
            try simp only [Act.put, List.setIfInBounds_toArray, List.set_cons_zero, List.set_cons_succ]
            refine wpAnyH_take (i := 12) (oi := ?on12) (v := ?vn12) ?hin12 ?an12 ?bn12 ?cn12 ?qn12 (Or.inl ⟨?dn12, ?hyn12⟩) hHeld ?restn12
            case hin12 => (simp only [List.getElem?_toArray, List.getElem?_cons_succ, List.getElem?_cons_zero]; exact rfl)
            case an12 => kernel_rfl
            case bn12 => kernel_rfl
            case cn12 => kernel_rfl
            case qn12 => exact fun _ _ _ h => h
            case dn12 => rfl
            case hyn12 => (intro z hSw; (try dsimp only at hSw); go_simp; (try with_reducible rfl))
            try simp only [Act.put, List.setIfInBounds_toArray, List.set_cons_zero, List.set_cons_succ]
            refine wpAnyH_take (i := 13) (oi := ?on13) (v := ?vn13) ?hin13 ?an13 ?bn13 ?cn13 ?qn13 (Or.inl ⟨?dn13, ?hyn13⟩) hHeld ?restn13
            case hin13 => (simp only [List.getElem?_toArray, List.getElem?_cons_succ, List.getElem?_cons_zero]; exact rfl)
            case an13 => kernel_rfl
            case bn13 => kernel_rfl
            case cn13 => kernel_rfl
            case qn13 => exact fun _ _ _ h => h
            case dn13 => rfl
            case hyn13 => (intro z hSw; (try dsimp only at hSw); go_simp; (try with_reducible rfl))
            try simp only [Act.put, List.setIfInBounds_toArray, List.set_cons_zero, List.set_cons_succ]
            refine wpAnyH_take (i := 14) (oi := ?on14) (v := ?vn14) ?hin14 ?an14 ?bn14 ?cn14 ?qn14 (Or.inl ⟨?dn14, ?hyn14⟩) hHeld ?restn14
            case hin14 => (simp only [List.getElem?_toArray, List.getElem?_cons_succ, List.getElem?_cons_zero]; exact rfl)
            case an14 => kernel_rfl
            case bn14 => kernel_rfl
            case cn14 => kernel_rfl
            case qn14 => exact fun _ _ _ h => h
            case dn14 => rfl
            case hyn14 => (intro z hSw; (try dsimp only at hSw); go_simp; (try with_reducible rfl))
            try simp only [Act.put, List.setIfInBounds_toArray, List.set_cons_zero, List.set_cons_succ]
            refine wpAnyH_ready (rs := [11]) (by kernel_rfl) (by simp) ?_
            refine AllReadyH.cons (o := ?on15) ?hin15 ?restn15 AllReadyH.nil
            case hin15 => (simp only [List.getElem?_toArray, List.getElem?_cons_succ, List.getElem?_cons_zero]; exact rfl)
            intro K hK
            go_simp
            go_at_call 133
            refine (KN.out _).mono ?_
            rintro e w4 ⟨rfl, rfl⟩
            refine hK.out _ _ ?_ (fun hHeld => ?_)
            · (try dsimp only); first | with_reducible assumption | exact Grew.alloc ‹_› _
            clear hK K
            try simp only [Act.put, List.setIfInBounds_toArray, List.set_cons_zero, List.set_cons_succ]
            refine wpAnyH_take (i := 15) (oi := ?on16) (v := ?vn16) ?hin16 ?an16 ?bn16 ?cn16 ?qn16 (Or.inl ⟨?dn16, ?hyn16⟩) hHeld ?restn16
            case hin16 => (simp only [List.getElem?_toArray, List.getElem?_cons_succ, List.getElem?_cons_zero]; exact rfl)
            case an16 => kernel_rfl
            case bn16 => kernel_rfl
            case cn16 => kernel_rfl
            case qn16 => exact fun _ _ _ h => h
            case dn16 => rfl
            case hyn16 => (intro z hSw; (try dsimp only at hSw); go_simp; (try with_reducible rfl))
            try simp only [Act.put, List.setIfInBounds_toArray, List.set_cons_zero, List.set_cons_succ]
            refine wpAnyH_take (i := 16) (oi := ?on17) (v := ?vn17) ?hin17 ?an17 ?bn17 ?cn17 ?qn17 (Or.inl ⟨?dn17, ?hyn17⟩) hHeld ?restn17
            case hin17 => (simp only [List.getElem?_toArray, List.getElem?_cons_succ, List.getElem?_cons_zero]; exact rfl)
            case an17 => kernel_rfl
            case bn17 => kernel_rfl
            case cn17 => kernel_rfl
            case qn17 => exact fun _ _ _ h => h
            case dn17 => rfl
            case hyn17 => (intro z hSw; (try dsimp only at hSw); go_simp; (try with_reducible rfl))
            try simp only [Act.put, List.setIfInBounds_toArray, List.set_cons_zero, List.set_cons_succ]
            refine wpAnyH_take (i := 17) (oi := ?on18) (v := ?vn18) ?hin18 ?an18 ?bn18 ?cn18 ?qn18 (Or.inl ⟨?dn18, ?hyn18⟩) hHeld ?restn18
            case hin18 => (simp only [List.getElem?_toArray, List.getElem?_cons_succ, List.getElem?_cons_zero]; exact rfl)
            case an18 => kernel_rfl
            case bn18 => kernel_rfl
            case cn18 => kernel_rfl
            case qn18 => exact fun _ _ _ h => h
            case dn18 => rfl
            case hyn18 => (intro z hSw; (try dsimp only at hSw); go_simp; (try with_reducible rfl))
            try simp only [Act.put, List.setIfInBounds_toArray, List.set_cons_zero, List.set_cons_succ]
            refine wpAnyH_take (i := 18) (oi := ?on19) (v := ?vn19) ?hin19 ?an19 ?bn19 ?cn19 ?qn19 (Or.inl ⟨?dn19, ?hyn19⟩) hHeld ?restn19
            case hin19 => (simp only [List.getElem?_toArray, List.getElem?_cons_succ, List.getElem?_cons_zero]; exact rfl)
            case an19 => kernel_rfl
            case bn19 => kernel_rfl
            case cn19 => kernel_rfl
            case qn19 => exact fun _ _ _ h => h
            case dn19 => rfl
            case hyn19 => (intro z hSw; (try dsimp only at hSw); go_simp; (try with_reducible rfl))
            try simp only [Act.put, List.setIfInBounds_toArray, List.set_cons_zero, List.set_cons_succ]
            refine wpAnyH_take (i := 19) (oi := ?on20) (v := ?vn20) ?hin20 ?an20 ?bn20 ?cn20 ?qn20 (Or.inl ⟨?dn20, ?hyn20⟩) hHeld ?restn20
            case hin20 => (simp only [List.getElem?_toArray, List.getElem?_cons_succ, List.getElem?_cons_zero]; exact rfl)
            case an20 => kernel_rfl
            case bn20 => kernel_rfl
            case cn20 => kernel_rfl
            case qn20 => exact fun _ _ _ h => h
            case dn20 => rfl
            case hyn20 => (intro z hSw; (try dsimp only at hSw); go_simp; (try with_reducible rfl))
            try simp only [Act.put, List.setIfInBounds_toArray, List.set_cons_zero, List.set_cons_succ]
            refine wpAnyH_take (i := 20) (oi := ?on21) (v := ?vn21) ?hin21 ?an21 ?bn21 ?cn21 ?qn21 (Or.inl ⟨?dn21, ?hyn21⟩) hHeld ?restn21
            case hin21 => (simp only [List.getElem?_toArray, List.getElem?_cons_succ, List.getElem?_cons_zero]; exact rfl)
            case an21 => kernel_rfl
            case bn21 => kernel_rfl
            case cn21 => kernel_rfl
            case qn21 => exact fun _ _ _ h => h
            case dn21 => rfl
            case hyn21 => (intro z hSw; (try dsimp only at hSw); go_simp; (try with_reducible rfl))
            try simp only [Act.put, List.setIfInBounds_toArray, List.set_cons_zero, List.set_cons_succ]
            refine wpAnyH_take (i := 21) (oi := ?on22) (v := ?vn22) ?hin22 ?an22 ?bn22 ?cn22 ?qn22 (Or.inl ⟨?dn22, ?hyn22⟩) hHeld ?restn22
            case hin22 => (simp only [List.getElem?_toArray, List.getElem?_cons_succ, List.getElem?_cons_zero]; exact rfl)
            case an22 => kernel_rfl
            case bn22 => kernel_rfl
            case cn22 => kernel_rfl
            case qn22 => exact fun _ _ _ h => h
            case dn22 => rfl
            case hyn22 => (intro z hSw; (try dsimp only at hSw); go_simp; (try with_reducible rfl))
            try simp only [Act.put, List.setIfInBounds_toArray, List.set_cons_zero, List.set_cons_succ]
            refine wpAnyH_take (i := 22) (oi := ?on23) ?hin23 ?an23 ?bn23 ?cn23 ?qn23 (Or.inr ⟨?dn23, rfl⟩) hHeld ?restn23
            case hin23 => (simp only [List.getElem?_toArray, List.getElem?_cons_succ, List.getElem?_cons_zero]; exact rfl)
            case an23 => kernel_rfl
            case bn23 => kernel_rfl
            case cn23 => kernel_rfl
            case qn23 => exact fun _ _ _ h => h
            case dn23 => rfl
            try simp only [Act.put, List.setIfInBounds_toArray, List.set_cons_zero, List.set_cons_succ]
            refine wpAnyH_take (i := 23) (oi := ?on24) ?hin24 ?an24 ?bn24 ?cn24 ?qn24 (Or.inr ⟨?dn24, rfl⟩) hHeld ?restn24
            case hin24 => (simp only [List.getElem?_toArray, List.getElem?_cons_succ, List.getElem?_cons_zero]; exact rfl)
            case an24 => kernel_rfl
            case bn24 => kernel_rfl
            case cn24 => kernel_rfl
            case qn24 => exact fun _ _ _ h => h
            case dn24 => rfl
            try simp only [Act.put, List.setIfInBounds_toArray, List.set_cons_zero, List.set_cons_succ]
            refine wpAnyH_take (i := 24) (oi := ?on25) ?hin25 ?an25 ?bn25 ?cn25 ?qn25 (Or.inr ⟨?dn25, rfl⟩) hHeld ?restn25
            case hin25 => (simp only [List.getElem?_toArray, List.getElem?_cons_succ, List.getElem?_cons_zero]; exact rfl)
            case an25 => kernel_rfl
            case bn25 => kernel_rfl
            case cn25 => kernel_rfl
            case qn25 => exact fun _ _ _ h => h
            case dn25 => rfl
            try simp only [Act.put, List.setIfInBounds_toArray, List.set_cons_zero, List.set_cons_succ]
            refine wpAnyH_take (i := 25) (oi := ?on26) (v := ?vn26) ?hin26 ?an26 ?bn26 ?cn26 ?qn26 (Or.inl ⟨?dn26, ?hyn26⟩) hHeld ?restn26
            case hin26 => (simp only [List.getElem?_toArray, List.getElem?_cons_succ, List.getElem?_cons_zero]; exact rfl)
            case an26 => kernel_rfl
            case bn26 => kernel_rfl
            case cn26 => kernel_rfl
            case qn26 => exact fun _ _ _ h => h
            case dn26 => rfl
            case hyn26 => (intro z hSw; (try dsimp only at hSw); go_simp; (try with_reducible rfl))
            try simp only [Act.put, List.setIfInBounds_toArray, List.set_cons_zero, List.set_cons_succ]
            refine wpAnyH_take (i := 26) (oi := ?on27) (v := ?vn27) ?hin27 ?an27 ?bn27 ?cn27 ?qn27 (Or.inl ⟨?dn27, ?hyn27⟩) hHeld ?restn27
            case hin27 => (simp only [List.getElem?_toArray, List.getElem?_cons_succ, List.getElem?_cons_zero]; exact rfl)
            case an27 => kernel_rfl
            case bn27 => kernel_rfl
            case cn27 => kernel_rfl
            case qn27 => exact fun _ _ _ h => h
            case dn27 => rfl
            case hyn27 => (intro z hSw; (try dsimp only at hSw); go_simp; (try with_reducible rfl))
            try simp only [Act.put, List.setIfInBounds_toArray, List.set_cons_zero, List.set_cons_succ]
            refine wpAnyH_done (by kernel_rfl) ?_ _

            go_wp2_with fail
            go_loopw [6, 9] (fun v6 i wr => ∃ j : Nat, j ≤ x.2.1.length ∧ i = .int .i64 j ∧ OwnP w wr w.heap.size v6 (pre bef x.2.1 j) ∧ Grew w wr ∧ Hid (BoxD wr (w.heap.size + 1) x (.slice A x.2.1.length cP) (.slice UA x.2.2.1.length ca)) ∧ w.heap.size + 1 < wr.heap.size ∧ v6.ownBlock ≠ some (w.heap.size + 1) ∧ Hid (Prem bef x.2.1 j)) (fun _ i _ => x.2.1.length - (intOf i).toNat)
            case atStart => exact ⟨0, Nat.zero_le _, rfl, OwnP.nil_ w (Nat.le_refl _) ((mk3.block (by omega)).trans HBK.out), gk3, Lib.hid (HBX1.out.grew hsz mk3), by have := mk3.size; omega, by simp [Value.ownBlock], Lib.hid (fun i hi => absurd hi (by omega))⟩
            case round =>
              obtain ⟨j, hj, rfl, hO, hB, HX, hsw, hnb, HP⟩ := hrel
              have hJl := pre_len bef x.2.1 j
              obtain ⟨b0, b1, b2, b3, b4⟩ := HX.out
              by_cases hlt2 : j < x.2.1.length
              · rcases HUP.out.open_ with ⟨_, h0⟩ | ⟨pb, po, pc, hv1, _, hm1, hb1, hc1⟩
                · rw [h0] at hlt2; simp at hlt2
                obtain ⟨rfl, rfl⟩ : A = some ⟨pb, po, none⟩ ∧ cP = pc := by simpa using hv1
                have KR := fun W => l01In_c (it x.2.1 j) 0 ((k : Int) - 1) W
                have q1 := hc1 j hlt2 _ hB
                by_cases hr : 0 ≤ it x.2.1 j ∧ it x.2.1 j ≤ (k : Int) - 1
                · rw [decide_eq_true hr] at KR
                  replace KR := Lib.hid KR
                  obtain ⟨m, hmi⟩ : ∃ m : Nat, it x.2.1 j = m := ⟨(it x.2.1 j).toNat, by omega⟩
                  have hmk : m < k := by omega
                  have hmx : m < xs.length := by omega
                  have hy : xs[m]? = some xs[m] := List.getElem?_eq_getElem hmx
                  generalize xs[m] = y at hy
                  obtain ⟨yp, ya, hcy, hyp, hys⟩ := HC.out m y hy
                  have HST := Lib.hid (pre_succ hlt2 hmi (HTK.out m y hmk hy))
                  have HCY := Lib.hid hcy
                  have HPN : Hid (Prem bef x.2.1 (j + 1)) := Lib.hid (fun i hi => by
                    rcases Nat.lt_or_ge i j with hk | hk
                    · exact HP.out i hk
                    · obtain rfl : i = j := by omega
                      rw [HBL.out]
                      exact hr)
                  rw [hmi] at q1 KR
                  have q1' := fun W (hW : Grew w W) => (hc1 j hlt2 W hW).trans (by rw [hmi])
                  have HYP := Lib.hid hyp
                  have HYS := Lib.hid hys
                  obtain ⟨YA, yc, rfl⟩ := ints_slice hyp
                  obtain ⟨YS, sc, rfl⟩ := strs_slice hys
                  clear hcy hr hmi hy hyp hys hv1 hc1
                  generalize pre bef x.2.1 j = X at *
                  go_wp2_with fail
                  refine (KR.out _).mono ?_
                  rintro e w4 ⟨rfl, hg4⟩
                  have hB4 := hB.trans hg4
                  obtain ⟨c0, c1, c2, c3, c4⟩ := HX.out.grew hsw hg4
                  have q2 := q1' _ hB4
                  obtain ⟨r0, r1, r2, r3, r4⟩ := HCY.out.grew hbb hB4
                  have hO1 := hO.grew (hg4.trans ((Grew.refl w4).alloc (.cells #[.int .i64 y.1, .slice YA y.2.1.length yc, .slice YS y.2.2.1.length sc, .string y.2.2.2.1, .int .i64 y.2.2.2.2] 50)))
                  have hB1 := hB4.alloc (.cells #[.int .i64 y.1, .slice YA y.2.1.length yc, .slice YS y.2.2.1.length sc, .string y.2.2.2.1, .int .i64 y.2.2.2.2] 50)
                  have HX1 := Lib.hid (HX.out.grew hsw (hg4.trans ((Grew.refl w4).alloc (.cells #[.int .i64 y.1, .slice YA y.2.1.length yc, .slice YS y.2.2.1.length sc, .string y.2.2.2.1, .int .i64 y.2.2.2.2] 50))))
                  have hs4 : w.heap.size + 1 < (w4.alloc (.cells #[.int .i64 y.1, .slice YA y.2.1.length yc, .slice YS y.2.2.1.length sc, .string y.2.2.2.1, .int .i64 y.2.2.2.2] 50)).heap.size := by have := hg4.size; simp; omega
                  go_wp2_with (first | (at_builtin; refine wpList_appD (w0 := w) _ _ rfl rfl _ X rfl hO1 hB1 _ _ _ y rfl (rd_litD _ _ _ _ _ _ _) HYP.out HYS.out (by omega) ?_; intro v2 w5 hown2 hg5 hgr5 hob5))
                  go_roundw
                  case rel =>
                    refine ⟨j + 1, by omega, by go_num, by rw [HST.out]; exact hown2, hg5, Lib.hid (HX1.out.far hs4 hgr5 (fun h => hnb h.symm)), by have := hgr5.size; omega, ?_, HPN⟩
                    rcases hob5 with h | h
                    · rw [h]; exact hnb
                    · rw [h]; simp only [ne_eq, Option.some.injEq]; omega
                  case measure => simp [intOf]; omega
                · rw [decide_eq_false hr] at KR
                  replace KR := Lib.hid KR
                  have HNO := Lib.hid (dcd_false (p := goodP bef x) (fun h => hr (by have := prem_all.2 h.2.1 j hlt2; rw [HBL.out] at this; exact this)))
                  clear hr hc1 hv1
                  generalize it x.2.1 j = q at *
                  go_wp2_with fail
                  refine (KR.out _).mono ?_
                  rintro e w4 ⟨rfl, hg4⟩
                  go_wp2_with fail
                  go_ret
                  exact ⟨congrArg (fun b => Ending.returned (Value.bool b)) HNO.out.symm, hB.trans hg4⟩
              · obtain rfl : j = x.2.1.length := by omega
                have KT := rule_all x x.2.1.length hn.out _ _ u6 (pre bef x.2.1 x.2.1.length) wr (HUP.out.grew hB) (HS.out.grew hB) (hO.dds hB) hg.out (pre_gp HGB.out HP.out) ha12 (pre_all _ _)
                rw [pre_map, givenN_all] at KT
                have hfin : goodP bef x ↔ (introP x (given bef x.2.1) ∨ elimP x (given bef x.2.1)) := ⟨fun h => h.2.2, fun h => ⟨⟨ha.out, hg.out, hnn.out⟩, prem_all.1 HP.out, h⟩⟩
                have HFIN := Lib.hid (dcd_congr hfin).symm
                clear hfin
                generalize dcd (introP x (given bef x.2.1) ∨ elimP x (given bef x.2.1)) = R at *
                replace KT := Lib.hid KT
                go_wp2_with fail
                refine (KT.out).mono ?_
                rintro e w4 ⟨rfl, hg4⟩
                go_wp2_with fail
                go_ret
                exact ⟨congrArg (fun b => Ending.returned (Value.bool b)) HFIN.out, hB.trans hg4⟩
          · replace KF := Lib.hid KF
            replace KL := Lib.hid KL
            go_enter Tryz.func102, Tryz.ntmps102
            go_wp2_with fail
            refine (KF.out _).mono ?_
            rintro e w1 ⟨uf, rfl, hof, hg1⟩
            clear hof
            have g1 := hal.trans hg1
            obtain ⟨hbx, hblk, hsz⟩ := HBX.out _ hg1
            have f0 := fun W (hW : Grew w1 W) => (hbx.grew hsz hW).1
            have f1 := fun W (hW : Grew w1 W) => (hbx.grew hsz hW).2.1
            have f2 := fun W (hW : Grew w1 W) => (hbx.grew hsz hW).2.2.1
            have f4 := fun W (hW : Grew w1 W) => (hbx.grew hsz hW).2.2.2.2
            have HBX1 := Lib.hid hbx
            have HBK := Lib.hid hblk
            have r1 := Grew.refl w1
            have d1 := r1.drew
            have gd := g1.trans d1
            clear hbx hblk k0 k1 k2 k3 k4
            go_wp2_with fail
            refine wp_region_held_drew (S := fun w' => Grew w1 w') (by kernel_rfl) d1 (fun hHeld => ?_)
            refine wpAnyH_take (i := 0) (oi := ?on28) (v := ?vn28) ?hin28 ?an28 ?bn28 ?cn28 ?qn28 (Or.inl ⟨?dn28, ?hyn28⟩) hHeld ?restn28
            case hin28 => (simp only [List.getElem?_toArray, List.getElem?_cons_succ, List.getElem?_cons_zero]; exact rfl)
            case an28 => kernel_rfl
            case bn28 => kernel_rfl
            case cn28 => kernel_rfl
            case qn28 => exact fun _ _ _ h => h
            case dn28 => rfl
            case hyn28 => (intro z hSw; (try dsimp only at hSw); go_simp; (try with_reducible rfl))
            try simp only [Act.put, List.setIfInBounds_toArray, List.set_cons_zero, List.set_cons_succ]
            refine wpAnyH_take (i := 1) (oi := ?on29) (v := ?vn29) ?hin29 ?an29 ?bn29 ?cn29 ?qn29 (Or.inl ⟨?dn29, ?hyn29⟩) hHeld ?restn29
            case hin29 => (simp only [List.getElem?_toArray, List.getElem?_cons_succ, List.getElem?_cons_zero]; exact rfl)
            case an29 => kernel_rfl
            case bn29 => kernel_rfl
            case cn29 => kernel_rfl
            case qn29 => exact fun _ _ _ h => h
            case dn29 => rfl
            case hyn29 => (intro z hSw; (try dsimp only at hSw); go_simp; (try with_reducible rfl))
            try simp only [Act.put, List.setIfInBounds_toArray, List.set_cons_zero, List.set_cons_succ]
            refine wpAnyH_take (i := 2) (oi := ?on30) (v := ?vn30) ?hin30 ?an30 ?bn30 ?cn30 ?qn30 (Or.inl ⟨?dn30, ?hyn30⟩) hHeld ?restn30
            case hin30 => (simp only [List.getElem?_toArray, List.getElem?_cons_succ, List.getElem?_cons_zero]; exact rfl)
            case an30 => kernel_rfl
            case bn30 => kernel_rfl
            case cn30 => kernel_rfl
            case qn30 => exact fun _ _ _ h => h
            case dn30 => rfl
            case hyn30 => (intro z hSw; (try dsimp only at hSw); go_simp; (try with_reducible rfl))
            try simp only [Act.put, List.setIfInBounds_toArray, List.set_cons_zero, List.set_cons_succ]
            refine wpAnyH_take (i := 3) (oi := ?on31) (v := ?vn31) ?hin31 ?an31 ?bn31 ?cn31 ?qn31 (Or.inl ⟨?dn31, ?hyn31⟩) hHeld ?restn31
            case hin31 => (simp only [List.getElem?_toArray, List.getElem?_cons_succ, List.getElem?_cons_zero]; exact rfl)
            case an31 => kernel_rfl
            case bn31 => kernel_rfl
            case cn31 => kernel_rfl
            case qn31 => exact fun _ _ _ h => h
            case dn31 => rfl
            case hyn31 => (intro z hSw; (try dsimp only at hSw); go_simp; (try with_reducible rfl))
            try simp only [Act.put, List.setIfInBounds_toArray, List.set_cons_zero, List.set_cons_succ]
            refine wpAnyH_take (i := 4) (oi := ?on32) (v := ?vn32) ?hin32 ?an32 ?bn32 ?cn32 ?qn32 (Or.inl ⟨?dn32, ?hyn32⟩) hHeld ?restn32
            case hin32 => (simp only [List.getElem?_toArray, List.getElem?_cons_succ, List.getElem?_cons_zero]; exact rfl)
            case an32 => kernel_rfl
            case bn32 => kernel_rfl
            case cn32 => kernel_rfl
            case qn32 => exact fun _ _ _ h => h
            case dn32 => rfl
            case hyn32 => (intro z hSw; (try dsimp only at hSw); go_simp; (try with_reducible rfl))
            try simp only [Act.put, List.setIfInBounds_toArray, List.set_cons_zero, List.set_cons_succ]
            refine wpAnyH_ready (rs := [5]) (by kernel_rfl) (by simp) ?_
            refine AllReadyH.cons (o := ?on33) ?hin33 ?restn33 AllReadyH.nil
            case hin33 => (simp only [List.getElem?_toArray, List.getElem?_cons_succ, List.getElem?_cons_zero]; exact rfl)
            intro K hK
            go_simp
            go_at_call 132
            refine (KL.out _ gd).mono ?_
            rintro e w3 ⟨rfl, hg3⟩
            have gk3 := gd.trans hg3
            have mk3 := d1.trans hg3
            refine hK.out _ _ ?_ (fun hHeld => ?_)
            · (try dsimp only); first | with_reducible assumption | exact Grew.alloc ‹_› _
            clear hK K
            try simp only [Act.put, List.setIfInBounds_toArray, List.set_cons_zero, List.set_cons_succ]
            refine wpAnyH_take (i := 6) (oi := ?on34) (v := ?vn34) ?hin34 ?an34 ?bn34 ?cn34 ?qn34 (Or.inl ⟨?dn34, ?hyn34⟩) hHeld ?restn34
            case hin34 => (simp only [List.getElem?_toArray, List.getElem?_cons_succ, List.getElem?_cons_zero]; exact rfl)
            case an34 => kernel_rfl
            case bn34 => kernel_rfl
            case cn34 => kernel_rfl
            case qn34 => exact fun _ _ _ h => h
            case dn34 => rfl
            case hyn34 => (intro z hSw; (try dsimp only at hSw); go_simp; (try with_reducible rfl))
            try simp only [Act.put, List.setIfInBounds_toArray, List.set_cons_zero, List.set_cons_succ]
            refine wpAnyH_take (i := 7) (oi := ?on35) (v := ?vn35) ?hin35 ?an35 ?bn35 ?cn35 ?qn35 (Or.inl ⟨?dn35, ?hyn35⟩) hHeld ?restn35
            case hin35 => (simp only [List.getElem?_toArray, List.getElem?_cons_succ, List.getElem?_cons_zero]; exact rfl)
            case an35 => kernel_rfl
            case bn35 => kernel_rfl
            case cn35 => kernel_rfl
            case qn35 => exact fun _ _ _ h => h
            case dn35 => rfl
            case hyn35 => (intro z hSw; (try dsimp only at hSw); go_simp; (try with_reducible rfl))
            try simp only [Act.put, List.setIfInBounds_toArray, List.set_cons_zero, List.set_cons_succ]
            refine wpAnyH_take (i := 8) (oi := ?on36) (v := ?vn36) ?hin36 ?an36 ?bn36 ?cn36 ?qn36 (Or.inl ⟨?dn36, ?hyn36⟩) hHeld ?restn36
            case hin36 => (simp only [List.getElem?_toArray, List.getElem?_cons_succ, List.getElem?_cons_zero]; exact rfl)
            case an36 => kernel_rfl
            case bn36 => kernel_rfl
            case cn36 => kernel_rfl
            case qn36 => exact fun _ _ _ h => h
            case dn36 => rfl
            case hyn36 => (intro z hSw; (try dsimp only at hSw); go_simp; (try with_reducible rfl))
            try simp only [Act.put, List.setIfInBounds_toArray, List.set_cons_zero, List.set_cons_succ]
            refine wpAnyH_take (i := 9) (oi := ?on37) (v := ?vn37) ?hin37 ?an37 ?bn37 ?cn37 ?qn37 (Or.inl ⟨?dn37, ?hyn37⟩) hHeld ?restn37
            case hin37 => (simp only [List.getElem?_toArray, List.getElem?_cons_succ, List.getElem?_cons_zero]; exact rfl)
            case an37 => kernel_rfl
            case bn37 => kernel_rfl
            case cn37 => kernel_rfl
            case qn37 => exact fun _ _ _ h => h
            case dn37 => rfl
            case hyn37 => (intro z hSw; (try dsimp only at hSw); go_simp; (try with_reducible rfl))
            try simp only [Act.put, List.setIfInBounds_toArray, List.set_cons_zero, List.set_cons_succ]
            refine wpAnyH_take (i := 10) (oi := ?on38) (v := ?vn38) ?hin38 ?an38 ?bn38 ?cn38 ?qn38 (Or.inl ⟨?dn38, ?hyn38⟩) hHeld ?restn38
            case hin38 => (simp only [List.getElem?_toArray, List.getElem?_cons_succ, List.getElem?_cons_zero]; exact rfl)
            case an38 => kernel_rfl
            case bn38 => kernel_rfl
            case cn38 => kernel_rfl
            case qn38 => exact fun _ _ _ h => h
            case dn38 => rfl
            case hyn38 => (intro z hSw; (try dsimp only at hSw); go_simp; (try with_reducible rfl))
            try simp only [Act.put, List.setIfInBounds_toArray, List.set_cons_zero, List.set_cons_succ]
            refine wpAnyH_take (i := 12) (oi := ?on39) (v := ?vn39) ?hin39 ?an39 ?bn39 ?cn39 ?qn39 (Or.inl ⟨?dn39, ?hyn39⟩) hHeld ?restn39
            case hin39 => (simp only [List.getElem?_toArray, List.getElem?_cons_succ, List.getElem?_cons_zero]; exact rfl)
            case an39 => kernel_rfl
            case bn39 => kernel_rfl
            case cn39 => kernel_rfl
            case qn39 => exact fun _ _ _ h => h
            case dn39 => rfl
            case hyn39 => (intro z hSw; (try dsimp only at hSw); go_simp; (try with_reducible rfl))
            try simp only [Act.put, List.setIfInBounds_toArray, List.set_cons_zero, List.set_cons_succ]
            refine wpAnyH_take (i := 13) (oi := ?on40) (v := ?vn40) ?hin40 ?an40 ?bn40 ?cn40 ?qn40 (Or.inl ⟨?dn40, ?hyn40⟩) hHeld ?restn40
            case hin40 => (simp only [List.getElem?_toArray, List.getElem?_cons_succ, List.getElem?_cons_zero]; exact rfl)
            case an40 => kernel_rfl
            case bn40 => kernel_rfl
            case cn40 => kernel_rfl
            case qn40 => exact fun _ _ _ h => h
            case dn40 => rfl
            case hyn40 => (intro z hSw; (try dsimp only at hSw); go_simp; (try with_reducible rfl))
            try simp only [Act.put, List.setIfInBounds_toArray, List.set_cons_zero, List.set_cons_succ]
            refine wpAnyH_take (i := 14) (oi := ?on41) (v := ?vn41) ?hin41 ?an41 ?bn41 ?cn41 ?qn41 (Or.inl ⟨?dn41, ?hyn41⟩) hHeld ?restn41
            case hin41 => (simp only [List.getElem?_toArray, List.getElem?_cons_succ, List.getElem?_cons_zero]; exact rfl)
            case an41 => kernel_rfl
            case bn41 => kernel_rfl
            case cn41 => kernel_rfl
            case qn41 => exact fun _ _ _ h => h
            case dn41 => rfl
            case hyn41 => (intro z hSw; (try dsimp only at hSw); go_simp; (try with_reducible rfl))
            try simp only [Act.put, List.setIfInBounds_toArray, List.set_cons_zero, List.set_cons_succ]
            refine wpAnyH_ready (rs := [11]) (by kernel_rfl) (by simp) ?_
            refine AllReadyH.cons (o := ?on42) ?hin42 ?restn42 AllReadyH.nil
            case hin42 => (simp only [List.getElem?_toArray, List.getElem?_cons_succ, List.getElem?_cons_zero]; exact rfl)
            intro K hK
            go_simp
            go_at_call 133
            refine (KN.out _).mono ?_
            rintro e w4 ⟨rfl, rfl⟩
            refine hK.out _ _ ?_ (fun hHeld => ?_)
            · (try dsimp only); first | with_reducible assumption | exact Grew.alloc ‹_› _
            clear hK K
            try simp only [Act.put, List.setIfInBounds_toArray, List.set_cons_zero, List.set_cons_succ]
            refine wpAnyH_take (i := 15) (oi := ?on43) (v := ?vn43) ?hin43 ?an43 ?bn43 ?cn43 ?qn43 (Or.inl ⟨?dn43, ?hyn43⟩) hHeld ?restn43
            case hin43 => (simp only [List.getElem?_toArray, List.getElem?_cons_succ, List.getElem?_cons_zero]; exact rfl)
            case an43 => kernel_rfl
            case bn43 => kernel_rfl
            case cn43 => kernel_rfl
            case qn43 => exact fun _ _ _ h => h
            case dn43 => rfl
            case hyn43 => (intro z hSw; (try dsimp only at hSw); go_simp; (try with_reducible rfl))
            try simp only [Act.put, List.setIfInBounds_toArray, List.set_cons_zero, List.set_cons_succ]
            refine wpAnyH_take (i := 16) (oi := ?on44) (v := ?vn44) ?hin44 ?an44 ?bn44 ?cn44 ?qn44 (Or.inl ⟨?dn44, ?hyn44⟩) hHeld ?restn44
            case hin44 => (simp only [List.getElem?_toArray, List.getElem?_cons_succ, List.getElem?_cons_zero]; exact rfl)
            case an44 => kernel_rfl
            case bn44 => kernel_rfl
            case cn44 => kernel_rfl
            case qn44 => exact fun _ _ _ h => h
            case dn44 => rfl
            case hyn44 => (intro z hSw; (try dsimp only at hSw); go_simp; (try with_reducible rfl))
            try simp only [Act.put, List.setIfInBounds_toArray, List.set_cons_zero, List.set_cons_succ]
            refine wpAnyH_take (i := 17) (oi := ?on45) (v := ?vn45) ?hin45 ?an45 ?bn45 ?cn45 ?qn45 (Or.inl ⟨?dn45, ?hyn45⟩) hHeld ?restn45
            case hin45 => (simp only [List.getElem?_toArray, List.getElem?_cons_succ, List.getElem?_cons_zero]; exact rfl)
            case an45 => kernel_rfl
            case bn45 => kernel_rfl
            case cn45 => kernel_rfl
            case qn45 => exact fun _ _ _ h => h
            case dn45 => rfl
            case hyn45 => (intro z hSw; (try dsimp only at hSw); go_simp; (try with_reducible rfl))
            try simp only [Act.put, List.setIfInBounds_toArray, List.set_cons_zero, List.set_cons_succ]
            refine wpAnyH_take (i := 18) (oi := ?on46) (v := ?vn46) ?hin46 ?an46 ?bn46 ?cn46 ?qn46 (Or.inl ⟨?dn46, ?hyn46⟩) hHeld ?restn46
            case hin46 => (simp only [List.getElem?_toArray, List.getElem?_cons_succ, List.getElem?_cons_zero]; exact rfl)
            case an46 => kernel_rfl
            case bn46 => kernel_rfl
            case cn46 => kernel_rfl
            case qn46 => exact fun _ _ _ h => h
            case dn46 => rfl
            case hyn46 => (intro z hSw; (try dsimp only at hSw); go_simp; (try with_reducible rfl))
            try simp only [Act.put, List.setIfInBounds_toArray, List.set_cons_zero, List.set_cons_succ]
            refine wpAnyH_take (i := 19) (oi := ?on47) (v := ?vn47) ?hin47 ?an47 ?bn47 ?cn47 ?qn47 (Or.inl ⟨?dn47, ?hyn47⟩) hHeld ?restn47
            case hin47 => (simp only [List.getElem?_toArray, List.getElem?_cons_succ, List.getElem?_cons_zero]; exact rfl)
            case an47 => kernel_rfl
            case bn47 => kernel_rfl
            case cn47 => kernel_rfl
            case qn47 => exact fun _ _ _ h => h
            case dn47 => rfl
            case hyn47 => (intro z hSw; (try dsimp only at hSw); go_simp; (try with_reducible rfl))
            try simp only [Act.put, List.setIfInBounds_toArray, List.set_cons_zero, List.set_cons_succ]
            refine wpAnyH_take (i := 20) (oi := ?on48) (v := ?vn48) ?hin48 ?an48 ?bn48 ?cn48 ?qn48 (Or.inl ⟨?dn48, ?hyn48⟩) hHeld ?restn48
            case hin48 => (simp only [List.getElem?_toArray, List.getElem?_cons_succ, List.getElem?_cons_zero]; exact rfl)
            case an48 => kernel_rfl
            case bn48 => kernel_rfl
            case cn48 => kernel_rfl
            case qn48 => exact fun _ _ _ h => h
            case dn48 => rfl
            case hyn48 => (intro z hSw; (try dsimp only at hSw); go_simp; (try with_reducible rfl))
            try simp only [Act.put, List.setIfInBounds_toArray, List.set_cons_zero, List.set_cons_succ]
            refine wpAnyH_take (i := 21) (oi := ?on49) (v := ?vn49) ?hin49 ?an49 ?bn49 ?cn49 ?qn49 (Or.inl ⟨?dn49, ?hyn49⟩) hHeld ?restn49
            case hin49 => (simp only [List.getElem?_toArray, List.getElem?_cons_succ, List.getElem?_cons_zero]; exact rfl)
            case an49 => kernel_rfl
            case bn49 => kernel_rfl
            case cn49 => kernel_rfl
            case qn49 => exact fun _ _ _ h => h
            case dn49 => rfl
            case hyn49 => (intro z hSw; (try dsimp only at hSw); go_simp; (try with_reducible rfl))
            try simp only [Act.put, List.setIfInBounds_toArray, List.set_cons_zero, List.set_cons_succ]
            refine wpAnyH_take (i := 22) (oi := ?on50) (v := ?vn50) ?hin50 ?an50 ?bn50 ?cn50 ?qn50 (Or.inl ⟨?dn50, ?hyn50⟩) hHeld ?restn50
            case hin50 => (simp only [List.getElem?_toArray, List.getElem?_cons_succ, List.getElem?_cons_zero]; exact rfl)
            case an50 => kernel_rfl
            case bn50 => kernel_rfl
            case cn50 => kernel_rfl
            case qn50 => exact fun _ _ _ h => h
            case dn50 => rfl
            case hyn50 => (intro z hSw; (try dsimp only at hSw); go_simp; (try with_reducible rfl))
            try simp only [Act.put, List.setIfInBounds_toArray, List.set_cons_zero, List.set_cons_succ]
            refine wpAnyH_take (i := 23) (oi := ?on51) (v := ?vn51) ?hin51 ?an51 ?bn51 ?cn51 ?qn51 (Or.inl ⟨?dn51, ?hyn51⟩) hHeld ?restn51
            case hin51 => (simp only [List.getElem?_toArray, List.getElem?_cons_succ, List.getElem?_cons_zero]; exact rfl)
            case an51 => kernel_rfl
            case bn51 => kernel_rfl
            case cn51 => kernel_rfl
            case qn51 => exact fun _ _ _ h => h
            case dn51 => rfl
            case hyn51 => (intro z hSw; (try dsimp only at hSw); go_simp; (try with_reducible rfl))
            try simp only [Act.put, List.setIfInBounds_toArray, List.set_cons_zero, List.set_cons_succ]
            refine wpAnyH_take (i := 24) (oi := ?on52) (v := ?vn52) ?hin52 ?an52 ?bn52 ?cn52 ?qn52 (Or.inl ⟨?dn52, ?hyn52⟩) hHeld ?restn52
            case hin52 => (simp only [List.getElem?_toArray, List.getElem?_cons_succ, List.getElem?_cons_zero]; exact rfl)
            case an52 => kernel_rfl
            case bn52 => kernel_rfl
            case cn52 => kernel_rfl
            case qn52 => exact fun _ _ _ h => h
            case dn52 => rfl
            case hyn52 => (intro z hSw; (try dsimp only at hSw); go_simp; (try with_reducible rfl))
            try simp only [Act.put, List.setIfInBounds_toArray, List.set_cons_zero, List.set_cons_succ]
            refine wpAnyH_take (i := 25) (oi := ?on53) (v := ?vn53) ?hin53 ?an53 ?bn53 ?cn53 ?qn53 (Or.inl ⟨?dn53, ?hyn53⟩) hHeld ?restn53
            case hin53 => (simp only [List.getElem?_toArray, List.getElem?_cons_succ, List.getElem?_cons_zero]; exact rfl)
            case an53 => kernel_rfl
            case bn53 => kernel_rfl
            case cn53 => kernel_rfl
            case qn53 => exact fun _ _ _ h => h
            case dn53 => rfl
            case hyn53 => (intro z hSw; (try dsimp only at hSw); go_simp; (try with_reducible rfl))
            try simp only [Act.put, List.setIfInBounds_toArray, List.set_cons_zero, List.set_cons_succ]
            refine wpAnyH_take (i := 26) (oi := ?on54) (v := ?vn54) ?hin54 ?an54 ?bn54 ?cn54 ?qn54 (Or.inl ⟨?dn54, ?hyn54⟩) hHeld ?restn54
            case hin54 => (simp only [List.getElem?_toArray, List.getElem?_cons_succ, List.getElem?_cons_zero]; exact rfl)
            case an54 => kernel_rfl
            case bn54 => kernel_rfl
            case cn54 => kernel_rfl
            case qn54 => exact fun _ _ _ h => h
            case dn54 => rfl
            case hyn54 => (intro z hSw; (try dsimp only at hSw); go_simp; (try with_reducible rfl))
            try simp only [Act.put, List.setIfInBounds_toArray, List.set_cons_zero, List.set_cons_succ]
            refine wpAnyH_done (by kernel_rfl) ?_ _

            go_wp2_with fail
            go_loopw [6, 9] (fun v6 i wr => ∃ j : Nat, j ≤ x.2.1.length ∧ i = .int .i64 j ∧ OwnP w wr w.heap.size v6 (pre bef x.2.1 j) ∧ Grew w wr ∧ Hid (BoxD wr (w.heap.size + 1) x (.slice A x.2.1.length cP) (.slice UA x.2.2.1.length ca)) ∧ w.heap.size + 1 < wr.heap.size ∧ v6.ownBlock ≠ some (w.heap.size + 1) ∧ Hid (Prem bef x.2.1 j)) (fun _ i _ => x.2.1.length - (intOf i).toNat)
            case atStart => exact ⟨0, Nat.zero_le _, rfl, OwnP.nil_ w (Nat.le_refl _) ((mk3.block (by omega)).trans HBK.out), gk3, Lib.hid (HBX1.out.grew hsz mk3), by have := mk3.size; omega, by simp [Value.ownBlock], Lib.hid (fun i hi => absurd hi (by omega))⟩
            case round =>
              obtain ⟨j, hj, rfl, hO, hB, HX, hsw, hnb, HP⟩ := hrel
              have hJl := pre_len bef x.2.1 j
              obtain ⟨b0, b1, b2, b3, b4⟩ := HX.out
              by_cases hlt2 : j < x.2.1.length
              · rcases HUP.out.open_ with ⟨_, h0⟩ | ⟨pb, po, pc, hv1, _, hm1, hb1, hc1⟩
                · rw [h0] at hlt2; simp at hlt2
                obtain ⟨rfl, rfl⟩ : A = some ⟨pb, po, none⟩ ∧ cP = pc := by simpa using hv1
                have KR := fun W => l01In_c (it x.2.1 j) 0 ((k : Int) - 1) W
                have q1 := hc1 j hlt2 _ hB
                by_cases hr : 0 ≤ it x.2.1 j ∧ it x.2.1 j ≤ (k : Int) - 1
                · rw [decide_eq_true hr] at KR
                  replace KR := Lib.hid KR
                  obtain ⟨m, hmi⟩ : ∃ m : Nat, it x.2.1 j = m := ⟨(it x.2.1 j).toNat, by omega⟩
                  have hmk : m < k := by omega
                  have hmx : m < xs.length := by omega
                  have hy : xs[m]? = some xs[m] := List.getElem?_eq_getElem hmx
                  generalize xs[m] = y at hy
                  obtain ⟨yp, ya, hcy, hyp, hys⟩ := HC.out m y hy
                  have HST := Lib.hid (pre_succ hlt2 hmi (HTK.out m y hmk hy))
                  have HCY := Lib.hid hcy
                  have HPN : Hid (Prem bef x.2.1 (j + 1)) := Lib.hid (fun i hi => by
                    rcases Nat.lt_or_ge i j with hk | hk
                    · exact HP.out i hk
                    · obtain rfl : i = j := by omega
                      rw [HBL.out]
                      exact hr)
                  rw [hmi] at q1 KR
                  have q1' := fun W (hW : Grew w W) => (hc1 j hlt2 W hW).trans (by rw [hmi])
                  have HYP := Lib.hid hyp
                  have HYS := Lib.hid hys
                  obtain ⟨YA, yc, rfl⟩ := ints_slice hyp
                  obtain ⟨YS, sc, rfl⟩ := strs_slice hys
                  clear hcy hr hmi hy hyp hys hv1 hc1
                  generalize pre bef x.2.1 j = X at *
                  go_wp2_with fail
                  refine (KR.out _).mono ?_
                  rintro e w4 ⟨rfl, hg4⟩
                  have hB4 := hB.trans hg4
                  obtain ⟨c0, c1, c2, c3, c4⟩ := HX.out.grew hsw hg4
                  have q2 := q1' _ hB4
                  obtain ⟨r0, r1, r2, r3, r4⟩ := HCY.out.grew hbb hB4
                  have hO1 := hO.grew (hg4.trans ((Grew.refl w4).alloc (.cells #[.int .i64 y.1, .slice YA y.2.1.length yc, .slice YS y.2.2.1.length sc, .string y.2.2.2.1, .int .i64 y.2.2.2.2] 50)))
                  have hB1 := hB4.alloc (.cells #[.int .i64 y.1, .slice YA y.2.1.length yc, .slice YS y.2.2.1.length sc, .string y.2.2.2.1, .int .i64 y.2.2.2.2] 50)
                  have HX1 := Lib.hid (HX.out.grew hsw (hg4.trans ((Grew.refl w4).alloc (.cells #[.int .i64 y.1, .slice YA y.2.1.length yc, .slice YS y.2.2.1.length sc, .string y.2.2.2.1, .int .i64 y.2.2.2.2] 50))))
                  have hs4 : w.heap.size + 1 < (w4.alloc (.cells #[.int .i64 y.1, .slice YA y.2.1.length yc, .slice YS y.2.2.1.length sc, .string y.2.2.2.1, .int .i64 y.2.2.2.2] 50)).heap.size := by have := hg4.size; simp; omega
                  go_wp2_with (first | (at_builtin; refine wpList_appD (w0 := w) _ _ rfl rfl _ X rfl hO1 hB1 _ _ _ y rfl (rd_litD _ _ _ _ _ _ _) HYP.out HYS.out (by omega) ?_; intro v2 w5 hown2 hg5 hgr5 hob5))
                  go_roundw
                  case rel =>
                    refine ⟨j + 1, by omega, by go_num, by rw [HST.out]; exact hown2, hg5, Lib.hid (HX1.out.far hs4 hgr5 (fun h => hnb h.symm)), by have := hgr5.size; omega, ?_, HPN⟩
                    rcases hob5 with h | h
                    · rw [h]; exact hnb
                    · rw [h]; simp only [ne_eq, Option.some.injEq]; omega
                  case measure => simp [intOf]; omega
                · rw [decide_eq_false hr] at KR
                  replace KR := Lib.hid KR
                  have HNO := Lib.hid (dcd_false (p := goodP bef x) (fun h => hr (by have := prem_all.2 h.2.1 j hlt2; rw [HBL.out] at this; exact this)))
                  clear hr hc1 hv1
                  generalize it x.2.1 j = q at *
                  go_wp2_with fail
                  refine (KR.out _).mono ?_
                  rintro e w4 ⟨rfl, hg4⟩
                  go_wp2_with fail
                  go_ret
                  exact ⟨congrArg (fun b => Ending.returned (Value.bool b)) HNO.out.symm, hB.trans hg4⟩
              · obtain rfl : j = x.2.1.length := by omega
                have KT := rule_all x x.2.1.length hn.out _ _ u6 (pre bef x.2.1 x.2.1.length) wr (HUP.out.grew hB) (HS.out.grew hB) (hO.dds hB) hg.out (pre_gp HGB.out HP.out) ha12 (pre_all _ _)
                rw [pre_map, givenN_all] at KT
                have hfin : goodP bef x ↔ (introP x (given bef x.2.1) ∨ elimP x (given bef x.2.1)) := ⟨fun h => h.2.2, fun h => ⟨⟨ha.out, hg.out, hnn.out⟩, prem_all.1 HP.out, h⟩⟩
                have HFIN := Lib.hid (dcd_congr hfin).symm
                clear hfin
                generalize dcd (introP x (given bef x.2.1) ∨ elimP x (given bef x.2.1)) = R at *
                replace KT := Lib.hid KT
                go_wp2_with fail
                refine (KT.out).mono ?_
                rintro e w4 ⟨rfl, hg4⟩
                go_wp2_with fail
                go_ret
                exact ⟨congrArg (fun b => Ending.returned (Value.bool b)) HFIN.out, hB.trans hg4⟩
        · rw [dcd_false (fun h => hnn h.1.2.2)]
          rw [not_or] at hnn
          have e1 : (x.1 != 1) = true := by simpa using hnn.1
          have e2 : (x.2.2.2.2 != 0) = true := by simpa using hnn.2
          clear hnn hn hg ha
          replace KF := Lib.hid KF
          replace KL := Lib.hid KL
          go_enter Tryz.func102, Tryz.ntmps102
          go_wp2_with fail
          refine (KF.out _).mono ?_
          rintro e w1 ⟨uf, rfl, hof, hg1⟩
          clear hof
          have g1 := hal.trans hg1
          obtain ⟨hbx, hblk, hsz⟩ := HBX.out _ hg1
          have f0 := fun W (hW : Grew w1 W) => (hbx.grew hsz hW).1
          have f1 := fun W (hW : Grew w1 W) => (hbx.grew hsz hW).2.1
          have f2 := fun W (hW : Grew w1 W) => (hbx.grew hsz hW).2.2.1
          have f4 := fun W (hW : Grew w1 W) => (hbx.grew hsz hW).2.2.2.2
          have HBX1 := Lib.hid hbx
          have HBK := Lib.hid hblk
          have r1 := Grew.refl w1
          have d1 := r1.drew
          have gd := g1.trans d1
          clear hbx hblk k0 k1 k2 k3 k4
          go_wp2_with fail
          refine wp_region_held_drew (S := fun w' => Grew w1 w') (by kernel_rfl) d1 (fun hHeld => ?_)
          refine wpAnyH_take (i := 0) (oi := ?on55) (v := ?vn55) ?hin55 ?an55 ?bn55 ?cn55 ?qn55 (Or.inl ⟨?dn55, ?hyn55⟩) hHeld ?restn55
          case hin55 => (simp only [List.getElem?_toArray, List.getElem?_cons_succ, List.getElem?_cons_zero]; exact rfl)
          case an55 => kernel_rfl
          case bn55 => kernel_rfl
          case cn55 => kernel_rfl
          case qn55 => exact fun _ _ _ h => h
          case dn55 => rfl
          case hyn55 => (intro z hSw; (try dsimp only at hSw); go_simp; (try with_reducible rfl))
          try simp only [Act.put, List.setIfInBounds_toArray, List.set_cons_zero, List.set_cons_succ]
          refine wpAnyH_take (i := 1) (oi := ?on56) (v := ?vn56) ?hin56 ?an56 ?bn56 ?cn56 ?qn56 (Or.inl ⟨?dn56, ?hyn56⟩) hHeld ?restn56
          case hin56 => (simp only [List.getElem?_toArray, List.getElem?_cons_succ, List.getElem?_cons_zero]; exact rfl)
          case an56 => kernel_rfl
          case bn56 => kernel_rfl
          case cn56 => kernel_rfl
          case qn56 => exact fun _ _ _ h => h
          case dn56 => rfl
          case hyn56 => (intro z hSw; (try dsimp only at hSw); go_simp; (try with_reducible rfl))
          try simp only [Act.put, List.setIfInBounds_toArray, List.set_cons_zero, List.set_cons_succ]
          refine wpAnyH_take (i := 2) (oi := ?on57) (v := ?vn57) ?hin57 ?an57 ?bn57 ?cn57 ?qn57 (Or.inl ⟨?dn57, ?hyn57⟩) hHeld ?restn57
          case hin57 => (simp only [List.getElem?_toArray, List.getElem?_cons_succ, List.getElem?_cons_zero]; exact rfl)
          case an57 => kernel_rfl
          case bn57 => kernel_rfl
          case cn57 => kernel_rfl
          case qn57 => exact fun _ _ _ h => h
          case dn57 => rfl
          case hyn57 => (intro z hSw; (try dsimp only at hSw); go_simp; (try with_reducible rfl))
          try simp only [Act.put, List.setIfInBounds_toArray, List.set_cons_zero, List.set_cons_succ]
          refine wpAnyH_take (i := 3) (oi := ?on58) (v := ?vn58) ?hin58 ?an58 ?bn58 ?cn58 ?qn58 (Or.inl ⟨?dn58, ?hyn58⟩) hHeld ?restn58
          case hin58 => (simp only [List.getElem?_toArray, List.getElem?_cons_succ, List.getElem?_cons_zero]; exact rfl)
          case an58 => kernel_rfl
          case bn58 => kernel_rfl
          case cn58 => kernel_rfl
          case qn58 => exact fun _ _ _ h => h
          case dn58 => rfl
          case hyn58 => (intro z hSw; (try dsimp only at hSw); go_simp; (try with_reducible rfl))
          try simp only [Act.put, List.setIfInBounds_toArray, List.set_cons_zero, List.set_cons_succ]
          refine wpAnyH_take (i := 4) (oi := ?on59) (v := ?vn59) ?hin59 ?an59 ?bn59 ?cn59 ?qn59 (Or.inl ⟨?dn59, ?hyn59⟩) hHeld ?restn59
          case hin59 => (simp only [List.getElem?_toArray, List.getElem?_cons_succ, List.getElem?_cons_zero]; exact rfl)
          case an59 => kernel_rfl
          case bn59 => kernel_rfl
          case cn59 => kernel_rfl
          case qn59 => exact fun _ _ _ h => h
          case dn59 => rfl
          case hyn59 => (intro z hSw; (try dsimp only at hSw); go_simp; (try with_reducible rfl))
          try simp only [Act.put, List.setIfInBounds_toArray, List.set_cons_zero, List.set_cons_succ]
          refine wpAnyH_ready (rs := [5]) (by kernel_rfl) (by simp) ?_
          refine AllReadyH.cons (o := ?on60) ?hin60 ?restn60 AllReadyH.nil
          case hin60 => (simp only [List.getElem?_toArray, List.getElem?_cons_succ, List.getElem?_cons_zero]; exact rfl)
          intro K hK
          go_simp
          go_at_call 132
          refine (KL.out _ gd).mono ?_
          rintro e w3 ⟨rfl, hg3⟩
          have gk3 := gd.trans hg3
          have mk3 := d1.trans hg3
          refine hK.out _ _ ?_ (fun hHeld => ?_)
          · (try dsimp only); first | with_reducible assumption | exact Grew.alloc ‹_› _
          clear hK K
          try simp only [Act.put, List.setIfInBounds_toArray, List.set_cons_zero, List.set_cons_succ]
          refine wpAnyH_take (i := 6) (oi := ?on61) (v := ?vn61) ?hin61 ?an61 ?bn61 ?cn61 ?qn61 (Or.inl ⟨?dn61, ?hyn61⟩) hHeld ?restn61
          case hin61 => (simp only [List.getElem?_toArray, List.getElem?_cons_succ, List.getElem?_cons_zero]; exact rfl)
          case an61 => kernel_rfl
          case bn61 => kernel_rfl
          case cn61 => kernel_rfl
          case qn61 => exact fun _ _ _ h => h
          case dn61 => rfl
          case hyn61 => (intro z hSw; (try dsimp only at hSw); go_simp; (try with_reducible rfl))
          try simp only [Act.put, List.setIfInBounds_toArray, List.set_cons_zero, List.set_cons_succ]
          refine wpAnyH_take (i := 7) (oi := ?on62) (v := ?vn62) ?hin62 ?an62 ?bn62 ?cn62 ?qn62 (Or.inl ⟨?dn62, ?hyn62⟩) hHeld ?restn62
          case hin62 => (simp only [List.getElem?_toArray, List.getElem?_cons_succ, List.getElem?_cons_zero]; exact rfl)
          case an62 => kernel_rfl
          case bn62 => kernel_rfl
          case cn62 => kernel_rfl
          case qn62 => exact fun _ _ _ h => h
          case dn62 => rfl
          case hyn62 => (intro z hSw; (try dsimp only at hSw); go_simp; (try with_reducible rfl))
          try simp only [Act.put, List.setIfInBounds_toArray, List.set_cons_zero, List.set_cons_succ]
          refine wpAnyH_take (i := 8) (oi := ?on63) (v := ?vn63) ?hin63 ?an63 ?bn63 ?cn63 ?qn63 (Or.inl ⟨?dn63, ?hyn63⟩) hHeld ?restn63
          case hin63 => (simp only [List.getElem?_toArray, List.getElem?_cons_succ, List.getElem?_cons_zero]; exact rfl)
          case an63 => kernel_rfl
          case bn63 => kernel_rfl
          case cn63 => kernel_rfl
          case qn63 => exact fun _ _ _ h => h
          case dn63 => rfl
          case hyn63 => (intro z hSw; (try dsimp only at hSw); go_simp; (try with_reducible rfl))
          try simp only [Act.put, List.setIfInBounds_toArray, List.set_cons_zero, List.set_cons_succ]
          refine wpAnyH_take (i := 9) (oi := ?on64) (v := ?vn64) ?hin64 ?an64 ?bn64 ?cn64 ?qn64 (Or.inl ⟨?dn64, ?hyn64⟩) hHeld ?restn64
          case hin64 => (simp only [List.getElem?_toArray, List.getElem?_cons_succ, List.getElem?_cons_zero]; exact rfl)
          case an64 => kernel_rfl
          case bn64 => kernel_rfl
          case cn64 => kernel_rfl
          case qn64 => exact fun _ _ _ h => h
          case dn64 => rfl
          case hyn64 => (intro z hSw; (try dsimp only at hSw); go_simp; (try with_reducible rfl))
          try simp only [Act.put, List.setIfInBounds_toArray, List.set_cons_zero, List.set_cons_succ]
          refine wpAnyH_take (i := 10) (oi := ?on65) (v := ?vn65) ?hin65 ?an65 ?bn65 ?cn65 ?qn65 (Or.inl ⟨?dn65, ?hyn65⟩) hHeld ?restn65
          case hin65 => (simp only [List.getElem?_toArray, List.getElem?_cons_succ, List.getElem?_cons_zero]; exact rfl)
          case an65 => kernel_rfl
          case bn65 => kernel_rfl
          case cn65 => kernel_rfl
          case qn65 => exact fun _ _ _ h => h
          case dn65 => rfl
          case hyn65 => (intro z hSw; (try dsimp only at hSw); go_simp; (try with_reducible rfl))
          try simp only [Act.put, List.setIfInBounds_toArray, List.set_cons_zero, List.set_cons_succ]
          refine wpAnyH_take (i := 12) (oi := ?on66) (v := ?vn66) ?hin66 ?an66 ?bn66 ?cn66 ?qn66 (Or.inl ⟨?dn66, ?hyn66⟩) hHeld ?restn66
          case hin66 => (simp only [List.getElem?_toArray, List.getElem?_cons_succ, List.getElem?_cons_zero]; exact rfl)
          case an66 => kernel_rfl
          case bn66 => kernel_rfl
          case cn66 => kernel_rfl
          case qn66 => exact fun _ _ _ h => h
          case dn66 => rfl
          case hyn66 => (intro z hSw; (try dsimp only at hSw); go_simp; (try with_reducible rfl))
          try simp only [Act.put, List.setIfInBounds_toArray, List.set_cons_zero, List.set_cons_succ]
          refine wpAnyH_take (i := 13) (oi := ?on67) (v := ?vn67) ?hin67 ?an67 ?bn67 ?cn67 ?qn67 (Or.inl ⟨?dn67, ?hyn67⟩) hHeld ?restn67
          case hin67 => (simp only [List.getElem?_toArray, List.getElem?_cons_succ, List.getElem?_cons_zero]; exact rfl)
          case an67 => kernel_rfl
          case bn67 => kernel_rfl
          case cn67 => kernel_rfl
          case qn67 => exact fun _ _ _ h => h
          case dn67 => rfl
          case hyn67 => (intro z hSw; (try dsimp only at hSw); go_simp; (try with_reducible rfl))
          try simp only [Act.put, List.setIfInBounds_toArray, List.set_cons_zero, List.set_cons_succ]
          refine wpAnyH_take (i := 14) (oi := ?on68) (v := ?vn68) ?hin68 ?an68 ?bn68 ?cn68 ?qn68 (Or.inl ⟨?dn68, ?hyn68⟩) hHeld ?restn68
          case hin68 => (simp only [List.getElem?_toArray, List.getElem?_cons_succ, List.getElem?_cons_zero]; exact rfl)
          case an68 => kernel_rfl
          case bn68 => kernel_rfl
          case cn68 => kernel_rfl
          case qn68 => exact fun _ _ _ h => h
          case dn68 => rfl
          case hyn68 => (intro z hSw; (try dsimp only at hSw); go_simp; (try with_reducible rfl))
          try simp only [Act.put, List.setIfInBounds_toArray, List.set_cons_zero, List.set_cons_succ]
          refine wpAnyH_ready (rs := [11]) (by kernel_rfl) (by simp) ?_
          refine AllReadyH.cons (o := ?on69) ?hin69 ?restn69 AllReadyH.nil
          case hin69 => (simp only [List.getElem?_toArray, List.getElem?_cons_succ, List.getElem?_cons_zero]; exact rfl)
          intro K hK
          go_simp
          go_at_call 133
          refine (KN.out _).mono ?_
          rintro e w4 ⟨rfl, rfl⟩
          refine hK.out _ _ ?_ (fun hHeld => ?_)
          · (try dsimp only); first | with_reducible assumption | exact Grew.alloc ‹_› _
          clear hK K
          try simp only [Act.put, List.setIfInBounds_toArray, List.set_cons_zero, List.set_cons_succ]
          refine wpAnyH_take (i := 15) (oi := ?on70) (v := ?vn70) ?hin70 ?an70 ?bn70 ?cn70 ?qn70 (Or.inl ⟨?dn70, ?hyn70⟩) hHeld ?restn70
          case hin70 => (simp only [List.getElem?_toArray, List.getElem?_cons_succ, List.getElem?_cons_zero]; exact rfl)
          case an70 => kernel_rfl
          case bn70 => kernel_rfl
          case cn70 => kernel_rfl
          case qn70 => exact fun _ _ _ h => h
          case dn70 => rfl
          case hyn70 => (intro z hSw; (try dsimp only at hSw); go_simp; (try with_reducible rfl))
          try simp only [Act.put, List.setIfInBounds_toArray, List.set_cons_zero, List.set_cons_succ]
          refine wpAnyH_take (i := 16) (oi := ?on71) (v := ?vn71) ?hin71 ?an71 ?bn71 ?cn71 ?qn71 (Or.inl ⟨?dn71, ?hyn71⟩) hHeld ?restn71
          case hin71 => (simp only [List.getElem?_toArray, List.getElem?_cons_succ, List.getElem?_cons_zero]; exact rfl)
          case an71 => kernel_rfl
          case bn71 => kernel_rfl
          case cn71 => kernel_rfl
          case qn71 => exact fun _ _ _ h => h
          case dn71 => rfl
          case hyn71 => (intro z hSw; (try dsimp only at hSw); go_simp; (try with_reducible rfl))
          try simp only [Act.put, List.setIfInBounds_toArray, List.set_cons_zero, List.set_cons_succ]
          refine wpAnyH_take (i := 17) (oi := ?on72) (v := ?vn72) ?hin72 ?an72 ?bn72 ?cn72 ?qn72 (Or.inl ⟨?dn72, ?hyn72⟩) hHeld ?restn72
          case hin72 => (simp only [List.getElem?_toArray, List.getElem?_cons_succ, List.getElem?_cons_zero]; exact rfl)
          case an72 => kernel_rfl
          case bn72 => kernel_rfl
          case cn72 => kernel_rfl
          case qn72 => exact fun _ _ _ h => h
          case dn72 => rfl
          case hyn72 => (intro z hSw; (try dsimp only at hSw); go_simp; (try with_reducible rfl))
          try simp only [Act.put, List.setIfInBounds_toArray, List.set_cons_zero, List.set_cons_succ]
          refine wpAnyH_take (i := 18) (oi := ?on73) (v := ?vn73) ?hin73 ?an73 ?bn73 ?cn73 ?qn73 (Or.inl ⟨?dn73, ?hyn73⟩) hHeld ?restn73
          case hin73 => (simp only [List.getElem?_toArray, List.getElem?_cons_succ, List.getElem?_cons_zero]; exact rfl)
          case an73 => kernel_rfl
          case bn73 => kernel_rfl
          case cn73 => kernel_rfl
          case qn73 => exact fun _ _ _ h => h
          case dn73 => rfl
          case hyn73 => (intro z hSw; (try dsimp only at hSw); go_simp; (try with_reducible rfl))
          try simp only [Act.put, List.setIfInBounds_toArray, List.set_cons_zero, List.set_cons_succ]
          refine wpAnyH_take (i := 19) (oi := ?on74) (v := ?vn74) ?hin74 ?an74 ?bn74 ?cn74 ?qn74 (Or.inl ⟨?dn74, ?hyn74⟩) hHeld ?restn74
          case hin74 => (simp only [List.getElem?_toArray, List.getElem?_cons_succ, List.getElem?_cons_zero]; exact rfl)
          case an74 => kernel_rfl
          case bn74 => kernel_rfl
          case cn74 => kernel_rfl
          case qn74 => exact fun _ _ _ h => h
          case dn74 => rfl
          case hyn74 => (intro z hSw; (try dsimp only at hSw); go_simp; (try with_reducible rfl))
          try simp only [Act.put, List.setIfInBounds_toArray, List.set_cons_zero, List.set_cons_succ]
          refine wpAnyH_take (i := 20) (oi := ?on75) (v := ?vn75) ?hin75 ?an75 ?bn75 ?cn75 ?qn75 (Or.inl ⟨?dn75, ?hyn75⟩) hHeld ?restn75
          case hin75 => (simp only [List.getElem?_toArray, List.getElem?_cons_succ, List.getElem?_cons_zero]; exact rfl)
          case an75 => kernel_rfl
          case bn75 => kernel_rfl
          case cn75 => kernel_rfl
          case qn75 => exact fun _ _ _ h => h
          case dn75 => rfl
          case hyn75 => (intro z hSw; (try dsimp only at hSw); go_simp; (try with_reducible rfl))
          try simp only [Act.put, List.setIfInBounds_toArray, List.set_cons_zero, List.set_cons_succ]
          refine wpAnyH_take (i := 21) (oi := ?on76) (v := ?vn76) ?hin76 ?an76 ?bn76 ?cn76 ?qn76 (Or.inl ⟨?dn76, ?hyn76⟩) hHeld ?restn76
          case hin76 => (simp only [List.getElem?_toArray, List.getElem?_cons_succ, List.getElem?_cons_zero]; exact rfl)
          case an76 => kernel_rfl
          case bn76 => kernel_rfl
          case cn76 => kernel_rfl
          case qn76 => exact fun _ _ _ h => h
          case dn76 => rfl
          case hyn76 => (intro z hSw; (try dsimp only at hSw); go_simp; (try with_reducible rfl))
          try simp only [Act.put, List.setIfInBounds_toArray, List.set_cons_zero, List.set_cons_succ]
          refine wpAnyH_take (i := 22) (oi := ?on77) (v := ?vn77) ?hin77 ?an77 ?bn77 ?cn77 ?qn77 (Or.inl ⟨?dn77, ?hyn77⟩) hHeld ?restn77
          case hin77 => (simp only [List.getElem?_toArray, List.getElem?_cons_succ, List.getElem?_cons_zero]; exact rfl)
          case an77 => kernel_rfl
          case bn77 => kernel_rfl
          case cn77 => kernel_rfl
          case qn77 => exact fun _ _ _ h => h
          case dn77 => rfl
          case hyn77 => (intro z hSw; (try dsimp only at hSw); go_simp; (try with_reducible rfl))
          try simp only [Act.put, List.setIfInBounds_toArray, List.set_cons_zero, List.set_cons_succ]
          refine wpAnyH_take (i := 23) (oi := ?on78) (v := ?vn78) ?hin78 ?an78 ?bn78 ?cn78 ?qn78 (Or.inl ⟨?dn78, ?hyn78⟩) hHeld ?restn78
          case hin78 => (simp only [List.getElem?_toArray, List.getElem?_cons_succ, List.getElem?_cons_zero]; exact rfl)
          case an78 => kernel_rfl
          case bn78 => kernel_rfl
          case cn78 => kernel_rfl
          case qn78 => exact fun _ _ _ h => h
          case dn78 => rfl
          case hyn78 => (intro z hSw; (try dsimp only at hSw); go_simp; (try with_reducible rfl))
          try simp only [Act.put, List.setIfInBounds_toArray, List.set_cons_zero, List.set_cons_succ]
          refine wpAnyH_take (i := 24) (oi := ?on79) (v := ?vn79) ?hin79 ?an79 ?bn79 ?cn79 ?qn79 (Or.inl ⟨?dn79, ?hyn79⟩) hHeld ?restn79
          case hin79 => (simp only [List.getElem?_toArray, List.getElem?_cons_succ, List.getElem?_cons_zero]; exact rfl)
          case an79 => kernel_rfl
          case bn79 => kernel_rfl
          case cn79 => kernel_rfl
          case qn79 => exact fun _ _ _ h => h
          case dn79 => rfl
          case hyn79 => (intro z hSw; (try dsimp only at hSw); go_simp; (try with_reducible rfl))
          try simp only [Act.put, List.setIfInBounds_toArray, List.set_cons_zero, List.set_cons_succ]
          refine wpAnyH_take (i := 25) (oi := ?on80) (v := ?vn80) ?hin80 ?an80 ?bn80 ?cn80 ?qn80 (Or.inl ⟨?dn80, ?hyn80⟩) hHeld ?restn80
          case hin80 => (simp only [List.getElem?_toArray, List.getElem?_cons_succ, List.getElem?_cons_zero]; exact rfl)
          case an80 => kernel_rfl
          case bn80 => kernel_rfl
          case cn80 => kernel_rfl
          case qn80 => exact fun _ _ _ h => h
          case dn80 => rfl
          case hyn80 => (intro z hSw; (try dsimp only at hSw); go_simp; (try with_reducible rfl))
          try simp only [Act.put, List.setIfInBounds_toArray, List.set_cons_zero, List.set_cons_succ]
          refine wpAnyH_take (i := 26) (oi := ?on81) (v := ?vn81) ?hin81 ?an81 ?bn81 ?cn81 ?qn81 (Or.inl ⟨?dn81, ?hyn81⟩) hHeld ?restn81
          case hin81 => (simp only [List.getElem?_toArray, List.getElem?_cons_succ, List.getElem?_cons_zero]; exact rfl)
          case an81 => kernel_rfl
          case bn81 => kernel_rfl
          case cn81 => kernel_rfl
          case qn81 => exact fun _ _ _ h => h
          case dn81 => rfl
          case hyn81 => (intro z hSw; (try dsimp only at hSw); go_simp; (try with_reducible rfl))
          try simp only [Act.put, List.setIfInBounds_toArray, List.set_cons_zero, List.set_cons_succ]
          refine wpAnyH_done (by kernel_rfl) ?_ _

          go_wp2_with fail
          go_ret
          exact ⟨rfl, gk3⟩
      · rw [dcd_false (fun h => hn (by have := cnt_of h.2.2; rw [this]; unfold given; simp))]
        have en : (cnt x.1 != (x.2.1.length : Int)) = true := by simpa using hn
        clear hn hg ha
        replace KF := Lib.hid KF
        replace KL := Lib.hid KL
        go_enter Tryz.func102, Tryz.ntmps102
        go_wp2_with fail
        refine (KF.out _).mono ?_
        rintro e w1 ⟨uf, rfl, hof, hg1⟩
        clear hof
        have g1 := hal.trans hg1
        obtain ⟨hbx, hblk, hsz⟩ := HBX.out _ hg1
        have f0 := fun W (hW : Grew w1 W) => (hbx.grew hsz hW).1
        have f1 := fun W (hW : Grew w1 W) => (hbx.grew hsz hW).2.1
        have f2 := fun W (hW : Grew w1 W) => (hbx.grew hsz hW).2.2.1
        have f4 := fun W (hW : Grew w1 W) => (hbx.grew hsz hW).2.2.2.2
        have HBX1 := Lib.hid hbx
        have HBK := Lib.hid hblk
        have r1 := Grew.refl w1
        have d1 := r1.drew
        have gd := g1.trans d1
        clear hbx hblk k0 k1 k2 k3 k4
        go_wp2_with fail
        refine wp_region_held_drew (S := fun w' => Grew w1 w') (by kernel_rfl) d1 (fun hHeld => ?_)
        refine wpAnyH_take (i := 0) (oi := ?on82) (v := ?vn82) ?hin82 ?an82 ?bn82 ?cn82 ?qn82 (Or.inl ⟨?dn82, ?hyn82⟩) hHeld ?restn82
        case hin82 => (simp only [List.getElem?_toArray, List.getElem?_cons_succ, List.getElem?_cons_zero]; exact rfl)
        case an82 => kernel_rfl
        case bn82 => kernel_rfl
        case cn82 => kernel_rfl
        case qn82 => exact fun _ _ _ h => h
        case dn82 => rfl
        case hyn82 => (intro z hSw; (try dsimp only at hSw); go_simp; (try with_reducible rfl))
        try simp only [Act.put, List.setIfInBounds_toArray, List.set_cons_zero, List.set_cons_succ]
        refine wpAnyH_take (i := 1) (oi := ?on83) (v := ?vn83) ?hin83 ?an83 ?bn83 ?cn83 ?qn83 (Or.inl ⟨?dn83, ?hyn83⟩) hHeld ?restn83
        case hin83 => (simp only [List.getElem?_toArray, List.getElem?_cons_succ, List.getElem?_cons_zero]; exact rfl)
        case an83 => kernel_rfl
        case bn83 => kernel_rfl
        case cn83 => kernel_rfl
        case qn83 => exact fun _ _ _ h => h
        case dn83 => rfl
        case hyn83 => (intro z hSw; (try dsimp only at hSw); go_simp; (try with_reducible rfl))
        try simp only [Act.put, List.setIfInBounds_toArray, List.set_cons_zero, List.set_cons_succ]
        refine wpAnyH_take (i := 2) (oi := ?on84) (v := ?vn84) ?hin84 ?an84 ?bn84 ?cn84 ?qn84 (Or.inl ⟨?dn84, ?hyn84⟩) hHeld ?restn84
        case hin84 => (simp only [List.getElem?_toArray, List.getElem?_cons_succ, List.getElem?_cons_zero]; exact rfl)
        case an84 => kernel_rfl
        case bn84 => kernel_rfl
        case cn84 => kernel_rfl
        case qn84 => exact fun _ _ _ h => h
        case dn84 => rfl
        case hyn84 => (intro z hSw; (try dsimp only at hSw); go_simp; (try with_reducible rfl))
        try simp only [Act.put, List.setIfInBounds_toArray, List.set_cons_zero, List.set_cons_succ]
        refine wpAnyH_take (i := 3) (oi := ?on85) (v := ?vn85) ?hin85 ?an85 ?bn85 ?cn85 ?qn85 (Or.inl ⟨?dn85, ?hyn85⟩) hHeld ?restn85
        case hin85 => (simp only [List.getElem?_toArray, List.getElem?_cons_succ, List.getElem?_cons_zero]; exact rfl)
        case an85 => kernel_rfl
        case bn85 => kernel_rfl
        case cn85 => kernel_rfl
        case qn85 => exact fun _ _ _ h => h
        case dn85 => rfl
        case hyn85 => (intro z hSw; (try dsimp only at hSw); go_simp; (try with_reducible rfl))
        try simp only [Act.put, List.setIfInBounds_toArray, List.set_cons_zero, List.set_cons_succ]
        refine wpAnyH_take (i := 4) (oi := ?on86) (v := ?vn86) ?hin86 ?an86 ?bn86 ?cn86 ?qn86 (Or.inl ⟨?dn86, ?hyn86⟩) hHeld ?restn86
        case hin86 => (simp only [List.getElem?_toArray, List.getElem?_cons_succ, List.getElem?_cons_zero]; exact rfl)
        case an86 => kernel_rfl
        case bn86 => kernel_rfl
        case cn86 => kernel_rfl
        case qn86 => exact fun _ _ _ h => h
        case dn86 => rfl
        case hyn86 => (intro z hSw; (try dsimp only at hSw); go_simp; (try with_reducible rfl))
        try simp only [Act.put, List.setIfInBounds_toArray, List.set_cons_zero, List.set_cons_succ]
        refine wpAnyH_ready (rs := [5]) (by kernel_rfl) (by simp) ?_
        refine AllReadyH.cons (o := ?on87) ?hin87 ?restn87 AllReadyH.nil
        case hin87 => (simp only [List.getElem?_toArray, List.getElem?_cons_succ, List.getElem?_cons_zero]; exact rfl)
        intro K hK
        go_simp
        go_at_call 132
        refine (KL.out _ gd).mono ?_
        rintro e w3 ⟨rfl, hg3⟩
        have gk3 := gd.trans hg3
        have mk3 := d1.trans hg3
        refine hK.out _ _ ?_ (fun hHeld => ?_)
        · (try dsimp only); first | with_reducible assumption | exact Grew.alloc ‹_› _
        clear hK K
        try simp only [Act.put, List.setIfInBounds_toArray, List.set_cons_zero, List.set_cons_succ]
        refine wpAnyH_take (i := 6) (oi := ?on88) (v := ?vn88) ?hin88 ?an88 ?bn88 ?cn88 ?qn88 (Or.inl ⟨?dn88, ?hyn88⟩) hHeld ?restn88
        case hin88 => (simp only [List.getElem?_toArray, List.getElem?_cons_succ, List.getElem?_cons_zero]; exact rfl)
        case an88 => kernel_rfl
        case bn88 => kernel_rfl
        case cn88 => kernel_rfl
        case qn88 => exact fun _ _ _ h => h
        case dn88 => rfl
        case hyn88 => (intro z hSw; (try dsimp only at hSw); go_simp; (try with_reducible rfl))
        try simp only [Act.put, List.setIfInBounds_toArray, List.set_cons_zero, List.set_cons_succ]
        refine wpAnyH_take (i := 7) (oi := ?on89) (v := ?vn89) ?hin89 ?an89 ?bn89 ?cn89 ?qn89 (Or.inl ⟨?dn89, ?hyn89⟩) hHeld ?restn89
        case hin89 => (simp only [List.getElem?_toArray, List.getElem?_cons_succ, List.getElem?_cons_zero]; exact rfl)
        case an89 => kernel_rfl
        case bn89 => kernel_rfl
        case cn89 => kernel_rfl
        case qn89 => exact fun _ _ _ h => h
        case dn89 => rfl
        case hyn89 => (intro z hSw; (try dsimp only at hSw); go_simp; (try with_reducible rfl))
        try simp only [Act.put, List.setIfInBounds_toArray, List.set_cons_zero, List.set_cons_succ]
        refine wpAnyH_take (i := 8) (oi := ?on90) (v := ?vn90) ?hin90 ?an90 ?bn90 ?cn90 ?qn90 (Or.inl ⟨?dn90, ?hyn90⟩) hHeld ?restn90
        case hin90 => (simp only [List.getElem?_toArray, List.getElem?_cons_succ, List.getElem?_cons_zero]; exact rfl)
        case an90 => kernel_rfl
        case bn90 => kernel_rfl
        case cn90 => kernel_rfl
        case qn90 => exact fun _ _ _ h => h
        case dn90 => rfl
        case hyn90 => (intro z hSw; (try dsimp only at hSw); go_simp; (try with_reducible rfl))
        try simp only [Act.put, List.setIfInBounds_toArray, List.set_cons_zero, List.set_cons_succ]
        refine wpAnyH_take (i := 9) (oi := ?on91) (v := ?vn91) ?hin91 ?an91 ?bn91 ?cn91 ?qn91 (Or.inl ⟨?dn91, ?hyn91⟩) hHeld ?restn91
        case hin91 => (simp only [List.getElem?_toArray, List.getElem?_cons_succ, List.getElem?_cons_zero]; exact rfl)
        case an91 => kernel_rfl
        case bn91 => kernel_rfl
        case cn91 => kernel_rfl
        case qn91 => exact fun _ _ _ h => h
        case dn91 => rfl
        case hyn91 => (intro z hSw; (try dsimp only at hSw); go_simp; (try with_reducible rfl))
        try simp only [Act.put, List.setIfInBounds_toArray, List.set_cons_zero, List.set_cons_succ]
        refine wpAnyH_take (i := 10) (oi := ?on92) (v := ?vn92) ?hin92 ?an92 ?bn92 ?cn92 ?qn92 (Or.inl ⟨?dn92, ?hyn92⟩) hHeld ?restn92
        case hin92 => (simp only [List.getElem?_toArray, List.getElem?_cons_succ, List.getElem?_cons_zero]; exact rfl)
        case an92 => kernel_rfl
        case bn92 => kernel_rfl
        case cn92 => kernel_rfl
        case qn92 => exact fun _ _ _ h => h
        case dn92 => rfl
        case hyn92 => (intro z hSw; (try dsimp only at hSw); go_simp; (try with_reducible rfl))
        try simp only [Act.put, List.setIfInBounds_toArray, List.set_cons_zero, List.set_cons_succ]
        refine wpAnyH_take (i := 12) (oi := ?on93) (v := ?vn93) ?hin93 ?an93 ?bn93 ?cn93 ?qn93 (Or.inl ⟨?dn93, ?hyn93⟩) hHeld ?restn93
        case hin93 => (simp only [List.getElem?_toArray, List.getElem?_cons_succ, List.getElem?_cons_zero]; exact rfl)
        case an93 => kernel_rfl
        case bn93 => kernel_rfl
        case cn93 => kernel_rfl
        case qn93 => exact fun _ _ _ h => h
        case dn93 => rfl
        case hyn93 => (intro z hSw; (try dsimp only at hSw); go_simp; (try with_reducible rfl))
        try simp only [Act.put, List.setIfInBounds_toArray, List.set_cons_zero, List.set_cons_succ]
        refine wpAnyH_take (i := 13) (oi := ?on94) (v := ?vn94) ?hin94 ?an94 ?bn94 ?cn94 ?qn94 (Or.inl ⟨?dn94, ?hyn94⟩) hHeld ?restn94
        case hin94 => (simp only [List.getElem?_toArray, List.getElem?_cons_succ, List.getElem?_cons_zero]; exact rfl)
        case an94 => kernel_rfl
        case bn94 => kernel_rfl
        case cn94 => kernel_rfl
        case qn94 => exact fun _ _ _ h => h
        case dn94 => rfl
        case hyn94 => (intro z hSw; (try dsimp only at hSw); go_simp; (try with_reducible rfl))
        try simp only [Act.put, List.setIfInBounds_toArray, List.set_cons_zero, List.set_cons_succ]
        refine wpAnyH_take (i := 14) (oi := ?on95) (v := ?vn95) ?hin95 ?an95 ?bn95 ?cn95 ?qn95 (Or.inl ⟨?dn95, ?hyn95⟩) hHeld ?restn95
        case hin95 => (simp only [List.getElem?_toArray, List.getElem?_cons_succ, List.getElem?_cons_zero]; exact rfl)
        case an95 => kernel_rfl
        case bn95 => kernel_rfl
        case cn95 => kernel_rfl
        case qn95 => exact fun _ _ _ h => h
        case dn95 => rfl
        case hyn95 => (intro z hSw; (try dsimp only at hSw); go_simp; (try with_reducible rfl))
        try simp only [Act.put, List.setIfInBounds_toArray, List.set_cons_zero, List.set_cons_succ]
        refine wpAnyH_ready (rs := [11]) (by kernel_rfl) (by simp) ?_
        refine AllReadyH.cons (o := ?on96) ?hin96 ?restn96 AllReadyH.nil
        case hin96 => (simp only [List.getElem?_toArray, List.getElem?_cons_succ, List.getElem?_cons_zero]; exact rfl)
        intro K hK
        go_simp
        go_at_call 133
        refine (KN.out _).mono ?_
        rintro e w4 ⟨rfl, rfl⟩
        refine hK.out _ _ ?_ (fun hHeld => ?_)
        · (try dsimp only); first | with_reducible assumption | exact Grew.alloc ‹_› _
        clear hK K
        try simp only [Act.put, List.setIfInBounds_toArray, List.set_cons_zero, List.set_cons_succ]
        refine wpAnyH_take (i := 15) (oi := ?on97) (v := ?vn97) ?hin97 ?an97 ?bn97 ?cn97 ?qn97 (Or.inl ⟨?dn97, ?hyn97⟩) hHeld ?restn97
        case hin97 => (simp only [List.getElem?_toArray, List.getElem?_cons_succ, List.getElem?_cons_zero]; exact rfl)
        case an97 => kernel_rfl
        case bn97 => kernel_rfl
        case cn97 => kernel_rfl
        case qn97 => exact fun _ _ _ h => h
        case dn97 => rfl
        case hyn97 => (intro z hSw; (try dsimp only at hSw); go_simp; (try with_reducible rfl))
        try simp only [Act.put, List.setIfInBounds_toArray, List.set_cons_zero, List.set_cons_succ]
        refine wpAnyH_take (i := 16) (oi := ?on98) (v := ?vn98) ?hin98 ?an98 ?bn98 ?cn98 ?qn98 (Or.inl ⟨?dn98, ?hyn98⟩) hHeld ?restn98
        case hin98 => (simp only [List.getElem?_toArray, List.getElem?_cons_succ, List.getElem?_cons_zero]; exact rfl)
        case an98 => kernel_rfl
        case bn98 => kernel_rfl
        case cn98 => kernel_rfl
        case qn98 => exact fun _ _ _ h => h
        case dn98 => rfl
        case hyn98 => (intro z hSw; (try dsimp only at hSw); go_simp; (try with_reducible rfl))
        try simp only [Act.put, List.setIfInBounds_toArray, List.set_cons_zero, List.set_cons_succ]
        refine wpAnyH_take (i := 17) (oi := ?on99) (v := ?vn99) ?hin99 ?an99 ?bn99 ?cn99 ?qn99 (Or.inl ⟨?dn99, ?hyn99⟩) hHeld ?restn99
        case hin99 => (simp only [List.getElem?_toArray, List.getElem?_cons_succ, List.getElem?_cons_zero]; exact rfl)
        case an99 => kernel_rfl
        case bn99 => kernel_rfl
        case cn99 => kernel_rfl
        case qn99 => exact fun _ _ _ h => h
        case dn99 => rfl
        case hyn99 => (intro z hSw; (try dsimp only at hSw); go_simp; (try with_reducible rfl))
        try simp only [Act.put, List.setIfInBounds_toArray, List.set_cons_zero, List.set_cons_succ]
        refine wpAnyH_take (i := 18) (oi := ?on100) ?hin100 ?an100 ?bn100 ?cn100 ?qn100 (Or.inr ⟨?dn100, rfl⟩) hHeld ?restn100
        case hin100 => (simp only [List.getElem?_toArray, List.getElem?_cons_succ, List.getElem?_cons_zero]; exact rfl)
        case an100 => kernel_rfl
        case bn100 => kernel_rfl
        case cn100 => kernel_rfl
        case qn100 => exact fun _ _ _ h => h
        case dn100 => rfl
        try simp only [Act.put, List.setIfInBounds_toArray, List.set_cons_zero, List.set_cons_succ]
        refine wpAnyH_take (i := 19) (oi := ?on101) ?hin101 ?an101 ?bn101 ?cn101 ?qn101 (Or.inr ⟨?dn101, rfl⟩) hHeld ?restn101
        case hin101 => (simp only [List.getElem?_toArray, List.getElem?_cons_succ, List.getElem?_cons_zero]; exact rfl)
        case an101 => kernel_rfl
        case bn101 => kernel_rfl
        case cn101 => kernel_rfl
        case qn101 => exact fun _ _ _ h => h
        case dn101 => rfl
        try simp only [Act.put, List.setIfInBounds_toArray, List.set_cons_zero, List.set_cons_succ]
        refine wpAnyH_take (i := 20) (oi := ?on102) ?hin102 ?an102 ?bn102 ?cn102 ?qn102 (Or.inr ⟨?dn102, rfl⟩) hHeld ?restn102
        case hin102 => (simp only [List.getElem?_toArray, List.getElem?_cons_succ, List.getElem?_cons_zero]; exact rfl)
        case an102 => kernel_rfl
        case bn102 => kernel_rfl
        case cn102 => kernel_rfl
        case qn102 => exact fun _ _ _ h => h
        case dn102 => rfl
        try simp only [Act.put, List.setIfInBounds_toArray, List.set_cons_zero, List.set_cons_succ]
        refine wpAnyH_take (i := 21) (oi := ?on103) ?hin103 ?an103 ?bn103 ?cn103 ?qn103 (Or.inr ⟨?dn103, rfl⟩) hHeld ?restn103
        case hin103 => (simp only [List.getElem?_toArray, List.getElem?_cons_succ, List.getElem?_cons_zero]; exact rfl)
        case an103 => kernel_rfl
        case bn103 => kernel_rfl
        case cn103 => kernel_rfl
        case qn103 => exact fun _ _ _ h => h
        case dn103 => rfl
        try simp only [Act.put, List.setIfInBounds_toArray, List.set_cons_zero, List.set_cons_succ]
        refine wpAnyH_take (i := 22) (oi := ?on104) ?hin104 ?an104 ?bn104 ?cn104 ?qn104 (Or.inr ⟨?dn104, rfl⟩) hHeld ?restn104
        case hin104 => (simp only [List.getElem?_toArray, List.getElem?_cons_succ, List.getElem?_cons_zero]; exact rfl)
        case an104 => kernel_rfl
        case bn104 => kernel_rfl
        case cn104 => kernel_rfl
        case qn104 => exact fun _ _ _ h => h
        case dn104 => rfl
        try simp only [Act.put, List.setIfInBounds_toArray, List.set_cons_zero, List.set_cons_succ]
        refine wpAnyH_take (i := 23) (oi := ?on105) ?hin105 ?an105 ?bn105 ?cn105 ?qn105 (Or.inr ⟨?dn105, rfl⟩) hHeld ?restn105
        case hin105 => (simp only [List.getElem?_toArray, List.getElem?_cons_succ, List.getElem?_cons_zero]; exact rfl)
        case an105 => kernel_rfl
        case bn105 => kernel_rfl
        case cn105 => kernel_rfl
        case qn105 => exact fun _ _ _ h => h
        case dn105 => rfl
        try simp only [Act.put, List.setIfInBounds_toArray, List.set_cons_zero, List.set_cons_succ]
        refine wpAnyH_take (i := 24) (oi := ?on106) ?hin106 ?an106 ?bn106 ?cn106 ?qn106 (Or.inr ⟨?dn106, rfl⟩) hHeld ?restn106
        case hin106 => (simp only [List.getElem?_toArray, List.getElem?_cons_succ, List.getElem?_cons_zero]; exact rfl)
        case an106 => kernel_rfl
        case bn106 => kernel_rfl
        case cn106 => kernel_rfl
        case qn106 => exact fun _ _ _ h => h
        case dn106 => rfl
        try simp only [Act.put, List.setIfInBounds_toArray, List.set_cons_zero, List.set_cons_succ]
        refine wpAnyH_take (i := 25) (oi := ?on107) ?hin107 ?an107 ?bn107 ?cn107 ?qn107 (Or.inr ⟨?dn107, rfl⟩) hHeld ?restn107
        case hin107 => (simp only [List.getElem?_toArray, List.getElem?_cons_succ, List.getElem?_cons_zero]; exact rfl)
        case an107 => kernel_rfl
        case bn107 => kernel_rfl
        case cn107 => kernel_rfl
        case qn107 => exact fun _ _ _ h => h
        case dn107 => rfl
        try simp only [Act.put, List.setIfInBounds_toArray, List.set_cons_zero, List.set_cons_succ]
        refine wpAnyH_take (i := 26) (oi := ?on108) (v := ?vn108) ?hin108 ?an108 ?bn108 ?cn108 ?qn108 (Or.inl ⟨?dn108, ?hyn108⟩) hHeld ?restn108
        case hin108 => (simp only [List.getElem?_toArray, List.getElem?_cons_succ, List.getElem?_cons_zero]; exact rfl)
        case an108 => kernel_rfl
        case bn108 => kernel_rfl
        case cn108 => kernel_rfl
        case qn108 => exact fun _ _ _ h => h
        case dn108 => rfl
        case hyn108 => (intro z hSw; (try dsimp only at hSw); go_simp; (try with_reducible rfl))
        try simp only [Act.put, List.setIfInBounds_toArray, List.set_cons_zero, List.set_cons_succ]
        refine wpAnyH_done (by kernel_rfl) ?_ _

        go_wp2_with fail
        go_ret
        exact ⟨rfl, gk3⟩
    · rw [dcd_false (fun h => ha h.1.1)]
      have ha2 : asl x.2.2.1 = false := by simpa using ha
      rw [ha2] at KL
      clear hg ha ha2
      replace KF := Lib.hid KF
      replace KL := Lib.hid KL
      go_enter Tryz.func102, Tryz.ntmps102
      go_wp2_with fail
      refine (KF.out _).mono ?_
      rintro e w1 ⟨uf, rfl, hof, hg1⟩
      clear hof
      have g1 := hal.trans hg1
      obtain ⟨hbx, hblk, hsz⟩ := HBX.out _ hg1
      have f0 := fun W (hW : Grew w1 W) => (hbx.grew hsz hW).1
      have f1 := fun W (hW : Grew w1 W) => (hbx.grew hsz hW).2.1
      have f2 := fun W (hW : Grew w1 W) => (hbx.grew hsz hW).2.2.1
      have f4 := fun W (hW : Grew w1 W) => (hbx.grew hsz hW).2.2.2.2
      have HBX1 := Lib.hid hbx
      have HBK := Lib.hid hblk
      have r1 := Grew.refl w1
      have d1 := r1.drew
      have gd := g1.trans d1
      clear hbx hblk k0 k1 k2 k3 k4
      go_wp2_with fail
      refine wp_region_held_drew (S := fun w' => Grew w1 w') (by kernel_rfl) d1 (fun hHeld => ?_)
      refine wpAnyH_take (i := 0) (oi := ?on109) (v := ?vn109) ?hin109 ?an109 ?bn109 ?cn109 ?qn109 (Or.inl ⟨?dn109, ?hyn109⟩) hHeld ?restn109
      case hin109 => (simp only [List.getElem?_toArray, List.getElem?_cons_succ, List.getElem?_cons_zero]; exact rfl)
      case an109 => kernel_rfl
      case bn109 => kernel_rfl
      case cn109 => kernel_rfl
      case qn109 => exact fun _ _ _ h => h
      case dn109 => rfl
      case hyn109 => (intro z hSw; (try dsimp only at hSw); go_simp; (try with_reducible rfl))
      try simp only [Act.put, List.setIfInBounds_toArray, List.set_cons_zero, List.set_cons_succ]
      refine wpAnyH_take (i := 1) (oi := ?on110) (v := ?vn110) ?hin110 ?an110 ?bn110 ?cn110 ?qn110 (Or.inl ⟨?dn110, ?hyn110⟩) hHeld ?restn110
      case hin110 => (simp only [List.getElem?_toArray, List.getElem?_cons_succ, List.getElem?_cons_zero]; exact rfl)
      case an110 => kernel_rfl
      case bn110 => kernel_rfl
      case cn110 => kernel_rfl
      case qn110 => exact fun _ _ _ h => h
      case dn110 => rfl
      case hyn110 => (intro z hSw; (try dsimp only at hSw); go_simp; (try with_reducible rfl))
      try simp only [Act.put, List.setIfInBounds_toArray, List.set_cons_zero, List.set_cons_succ]
      refine wpAnyH_take (i := 2) (oi := ?on111) (v := ?vn111) ?hin111 ?an111 ?bn111 ?cn111 ?qn111 (Or.inl ⟨?dn111, ?hyn111⟩) hHeld ?restn111
      case hin111 => (simp only [List.getElem?_toArray, List.getElem?_cons_succ, List.getElem?_cons_zero]; exact rfl)
      case an111 => kernel_rfl
      case bn111 => kernel_rfl
      case cn111 => kernel_rfl
      case qn111 => exact fun _ _ _ h => h
      case dn111 => rfl
      case hyn111 => (intro z hSw; (try dsimp only at hSw); go_simp; (try with_reducible rfl))
      try simp only [Act.put, List.setIfInBounds_toArray, List.set_cons_zero, List.set_cons_succ]
      refine wpAnyH_take (i := 3) (oi := ?on112) (v := ?vn112) ?hin112 ?an112 ?bn112 ?cn112 ?qn112 (Or.inl ⟨?dn112, ?hyn112⟩) hHeld ?restn112
      case hin112 => (simp only [List.getElem?_toArray, List.getElem?_cons_succ, List.getElem?_cons_zero]; exact rfl)
      case an112 => kernel_rfl
      case bn112 => kernel_rfl
      case cn112 => kernel_rfl
      case qn112 => exact fun _ _ _ h => h
      case dn112 => rfl
      case hyn112 => (intro z hSw; (try dsimp only at hSw); go_simp; (try with_reducible rfl))
      try simp only [Act.put, List.setIfInBounds_toArray, List.set_cons_zero, List.set_cons_succ]
      refine wpAnyH_take (i := 4) (oi := ?on113) (v := ?vn113) ?hin113 ?an113 ?bn113 ?cn113 ?qn113 (Or.inl ⟨?dn113, ?hyn113⟩) hHeld ?restn113
      case hin113 => (simp only [List.getElem?_toArray, List.getElem?_cons_succ, List.getElem?_cons_zero]; exact rfl)
      case an113 => kernel_rfl
      case bn113 => kernel_rfl
      case cn113 => kernel_rfl
      case qn113 => exact fun _ _ _ h => h
      case dn113 => rfl
      case hyn113 => (intro z hSw; (try dsimp only at hSw); go_simp; (try with_reducible rfl))
      try simp only [Act.put, List.setIfInBounds_toArray, List.set_cons_zero, List.set_cons_succ]
      refine wpAnyH_ready (rs := [5]) (by kernel_rfl) (by simp) ?_
      refine AllReadyH.cons (o := ?on114) ?hin114 ?restn114 AllReadyH.nil
      case hin114 => (simp only [List.getElem?_toArray, List.getElem?_cons_succ, List.getElem?_cons_zero]; exact rfl)
      intro K hK
      go_simp
      go_at_call 132
      refine (KL.out _ gd).mono ?_
      rintro e w3 ⟨rfl, hg3⟩
      have gk3 := gd.trans hg3
      have mk3 := d1.trans hg3
      refine hK.out _ _ ?_ (fun hHeld => ?_)
      · (try dsimp only); first | with_reducible assumption | exact Grew.alloc ‹_› _
      clear hK K
      try simp only [Act.put, List.setIfInBounds_toArray, List.set_cons_zero, List.set_cons_succ]
      refine wpAnyH_take (i := 6) (oi := ?on115) (v := ?vn115) ?hin115 ?an115 ?bn115 ?cn115 ?qn115 (Or.inl ⟨?dn115, ?hyn115⟩) hHeld ?restn115
      case hin115 => (simp only [List.getElem?_toArray, List.getElem?_cons_succ, List.getElem?_cons_zero]; exact rfl)
      case an115 => kernel_rfl
      case bn115 => kernel_rfl
      case cn115 => kernel_rfl
      case qn115 => exact fun _ _ _ h => h
      case dn115 => rfl
      case hyn115 => (intro z hSw; (try dsimp only at hSw); go_simp; (try with_reducible rfl))
      try simp only [Act.put, List.setIfInBounds_toArray, List.set_cons_zero, List.set_cons_succ]
      refine wpAnyH_take (i := 7) (oi := ?on116) (v := ?vn116) ?hin116 ?an116 ?bn116 ?cn116 ?qn116 (Or.inl ⟨?dn116, ?hyn116⟩) hHeld ?restn116
      case hin116 => (simp only [List.getElem?_toArray, List.getElem?_cons_succ, List.getElem?_cons_zero]; exact rfl)
      case an116 => kernel_rfl
      case bn116 => kernel_rfl
      case cn116 => kernel_rfl
      case qn116 => exact fun _ _ _ h => h
      case dn116 => rfl
      case hyn116 => (intro z hSw; (try dsimp only at hSw); go_simp; (try with_reducible rfl))
      try simp only [Act.put, List.setIfInBounds_toArray, List.set_cons_zero, List.set_cons_succ]
      refine wpAnyH_take (i := 8) (oi := ?on117) (v := ?vn117) ?hin117 ?an117 ?bn117 ?cn117 ?qn117 (Or.inl ⟨?dn117, ?hyn117⟩) hHeld ?restn117
      case hin117 => (simp only [List.getElem?_toArray, List.getElem?_cons_succ, List.getElem?_cons_zero]; exact rfl)
      case an117 => kernel_rfl
      case bn117 => kernel_rfl
      case cn117 => kernel_rfl
      case qn117 => exact fun _ _ _ h => h
      case dn117 => rfl
      case hyn117 => (intro z hSw; (try dsimp only at hSw); go_simp; (try with_reducible rfl))
      try simp only [Act.put, List.setIfInBounds_toArray, List.set_cons_zero, List.set_cons_succ]
      refine wpAnyH_take (i := 9) (oi := ?on118) ?hin118 ?an118 ?bn118 ?cn118 ?qn118 (Or.inr ⟨?dn118, rfl⟩) hHeld ?restn118
      case hin118 => (simp only [List.getElem?_toArray, List.getElem?_cons_succ, List.getElem?_cons_zero]; exact rfl)
      case an118 => kernel_rfl
      case bn118 => kernel_rfl
      case cn118 => kernel_rfl
      case qn118 => exact fun _ _ _ h => h
      case dn118 => rfl
      try simp only [Act.put, List.setIfInBounds_toArray, List.set_cons_zero, List.set_cons_succ]
      refine wpAnyH_take (i := 10) (oi := ?on119) ?hin119 ?an119 ?bn119 ?cn119 ?qn119 (Or.inr ⟨?dn119, rfl⟩) hHeld ?restn119
      case hin119 => (simp only [List.getElem?_toArray, List.getElem?_cons_succ, List.getElem?_cons_zero]; exact rfl)
      case an119 => kernel_rfl
      case bn119 => kernel_rfl
      case cn119 => kernel_rfl
      case qn119 => exact fun _ _ _ h => h
      case dn119 => rfl
      try simp only [Act.put, List.setIfInBounds_toArray, List.set_cons_zero, List.set_cons_succ]
      refine wpAnyH_take (i := 12) (oi := ?on120) ?hin120 ?an120 ?bn120 ?cn120 ?qn120 (Or.inr ⟨?dn120, rfl⟩) hHeld ?restn120
      case hin120 => (simp only [List.getElem?_toArray, List.getElem?_cons_succ, List.getElem?_cons_zero]; exact rfl)
      case an120 => kernel_rfl
      case bn120 => kernel_rfl
      case cn120 => kernel_rfl
      case qn120 => exact fun _ _ _ h => h
      case dn120 => rfl
      try simp only [Act.put, List.setIfInBounds_toArray, List.set_cons_zero, List.set_cons_succ]
      refine wpAnyH_take (i := 13) (oi := ?on121) ?hin121 ?an121 ?bn121 ?cn121 ?qn121 (Or.inr ⟨?dn121, rfl⟩) hHeld ?restn121
      case hin121 => (simp only [List.getElem?_toArray, List.getElem?_cons_succ, List.getElem?_cons_zero]; exact rfl)
      case an121 => kernel_rfl
      case bn121 => kernel_rfl
      case cn121 => kernel_rfl
      case qn121 => exact fun _ _ _ h => h
      case dn121 => rfl
      try simp only [Act.put, List.setIfInBounds_toArray, List.set_cons_zero, List.set_cons_succ]
      refine wpAnyH_take (i := 14) (oi := ?on122) ?hin122 ?an122 ?bn122 ?cn122 ?qn122 (Or.inr ⟨?dn122, rfl⟩) hHeld ?restn122
      case hin122 => (simp only [List.getElem?_toArray, List.getElem?_cons_succ, List.getElem?_cons_zero]; exact rfl)
      case an122 => kernel_rfl
      case bn122 => kernel_rfl
      case cn122 => kernel_rfl
      case qn122 => exact fun _ _ _ h => h
      case dn122 => rfl
      try simp only [Act.put, List.setIfInBounds_toArray, List.set_cons_zero, List.set_cons_succ]
      refine wpAnyH_take (i := 11) (oi := ?on123) ?hin123 ?an123 ?bn123 ?cn123 ?qn123 (Or.inr ⟨?dn123, rfl⟩) hHeld ?restn123
      case hin123 => (simp only [List.getElem?_toArray, List.getElem?_cons_succ, List.getElem?_cons_zero]; exact rfl)
      case an123 => kernel_rfl
      case bn123 => kernel_rfl
      case cn123 => kernel_rfl
      case qn123 => exact fun _ _ _ h => h
      case dn123 => rfl
      try simp only [Act.put, List.setIfInBounds_toArray, List.set_cons_zero, List.set_cons_succ]
      refine wpAnyH_take (i := 15) (oi := ?on124) ?hin124 ?an124 ?bn124 ?cn124 ?qn124 (Or.inr ⟨?dn124, rfl⟩) hHeld ?restn124
      case hin124 => (simp only [List.getElem?_toArray, List.getElem?_cons_succ, List.getElem?_cons_zero]; exact rfl)
      case an124 => kernel_rfl
      case bn124 => kernel_rfl
      case cn124 => kernel_rfl
      case qn124 => exact fun _ _ _ h => h
      case dn124 => rfl
      try simp only [Act.put, List.setIfInBounds_toArray, List.set_cons_zero, List.set_cons_succ]
      refine wpAnyH_take (i := 16) (oi := ?on125) (v := ?vn125) ?hin125 ?an125 ?bn125 ?cn125 ?qn125 (Or.inl ⟨?dn125, ?hyn125⟩) hHeld ?restn125
      case hin125 => (simp only [List.getElem?_toArray, List.getElem?_cons_succ, List.getElem?_cons_zero]; exact rfl)
      case an125 => kernel_rfl
      case bn125 => kernel_rfl
      case cn125 => kernel_rfl
      case qn125 => exact fun _ _ _ h => h
      case dn125 => rfl
      case hyn125 => (intro z hSw; (try dsimp only at hSw); go_simp; (try with_reducible rfl))
      try simp only [Act.put, List.setIfInBounds_toArray, List.set_cons_zero, List.set_cons_succ]
      refine wpAnyH_take (i := 17) (oi := ?on126) (v := ?vn126) ?hin126 ?an126 ?bn126 ?cn126 ?qn126 (Or.inl ⟨?dn126, ?hyn126⟩) hHeld ?restn126
      case hin126 => (simp only [List.getElem?_toArray, List.getElem?_cons_succ, List.getElem?_cons_zero]; exact rfl)
      case an126 => kernel_rfl
      case bn126 => kernel_rfl
      case cn126 => kernel_rfl
      case qn126 => exact fun _ _ _ h => h
      case dn126 => rfl
      case hyn126 => (intro z hSw; (try dsimp only at hSw); go_simp; (try with_reducible rfl))
      try simp only [Act.put, List.setIfInBounds_toArray, List.set_cons_zero, List.set_cons_succ]
      refine wpAnyH_take (i := 18) (oi := ?on127) ?hin127 ?an127 ?bn127 ?cn127 ?qn127 (Or.inr ⟨?dn127, rfl⟩) hHeld ?restn127
      case hin127 => (simp only [List.getElem?_toArray, List.getElem?_cons_succ, List.getElem?_cons_zero]; exact rfl)
      case an127 => kernel_rfl
      case bn127 => kernel_rfl
      case cn127 => kernel_rfl
      case qn127 => exact fun _ _ _ h => h
      case dn127 => rfl
      try simp only [Act.put, List.setIfInBounds_toArray, List.set_cons_zero, List.set_cons_succ]
      refine wpAnyH_take (i := 19) (oi := ?on128) ?hin128 ?an128 ?bn128 ?cn128 ?qn128 (Or.inr ⟨?dn128, rfl⟩) hHeld ?restn128
      case hin128 => (simp only [List.getElem?_toArray, List.getElem?_cons_succ, List.getElem?_cons_zero]; exact rfl)
      case an128 => kernel_rfl
      case bn128 => kernel_rfl
      case cn128 => kernel_rfl
      case qn128 => exact fun _ _ _ h => h
      case dn128 => rfl
      try simp only [Act.put, List.setIfInBounds_toArray, List.set_cons_zero, List.set_cons_succ]
      refine wpAnyH_take (i := 20) (oi := ?on129) ?hin129 ?an129 ?bn129 ?cn129 ?qn129 (Or.inr ⟨?dn129, rfl⟩) hHeld ?restn129
      case hin129 => (simp only [List.getElem?_toArray, List.getElem?_cons_succ, List.getElem?_cons_zero]; exact rfl)
      case an129 => kernel_rfl
      case bn129 => kernel_rfl
      case cn129 => kernel_rfl
      case qn129 => exact fun _ _ _ h => h
      case dn129 => rfl
      try simp only [Act.put, List.setIfInBounds_toArray, List.set_cons_zero, List.set_cons_succ]
      refine wpAnyH_take (i := 21) (oi := ?on130) ?hin130 ?an130 ?bn130 ?cn130 ?qn130 (Or.inr ⟨?dn130, rfl⟩) hHeld ?restn130
      case hin130 => (simp only [List.getElem?_toArray, List.getElem?_cons_succ, List.getElem?_cons_zero]; exact rfl)
      case an130 => kernel_rfl
      case bn130 => kernel_rfl
      case cn130 => kernel_rfl
      case qn130 => exact fun _ _ _ h => h
      case dn130 => rfl
      try simp only [Act.put, List.setIfInBounds_toArray, List.set_cons_zero, List.set_cons_succ]
      refine wpAnyH_take (i := 22) (oi := ?on131) ?hin131 ?an131 ?bn131 ?cn131 ?qn131 (Or.inr ⟨?dn131, rfl⟩) hHeld ?restn131
      case hin131 => (simp only [List.getElem?_toArray, List.getElem?_cons_succ, List.getElem?_cons_zero]; exact rfl)
      case an131 => kernel_rfl
      case bn131 => kernel_rfl
      case cn131 => kernel_rfl
      case qn131 => exact fun _ _ _ h => h
      case dn131 => rfl
      try simp only [Act.put, List.setIfInBounds_toArray, List.set_cons_zero, List.set_cons_succ]
      refine wpAnyH_take (i := 23) (oi := ?on132) ?hin132 ?an132 ?bn132 ?cn132 ?qn132 (Or.inr ⟨?dn132, rfl⟩) hHeld ?restn132
      case hin132 => (simp only [List.getElem?_toArray, List.getElem?_cons_succ, List.getElem?_cons_zero]; exact rfl)
      case an132 => kernel_rfl
      case bn132 => kernel_rfl
      case cn132 => kernel_rfl
      case qn132 => exact fun _ _ _ h => h
      case dn132 => rfl
      try simp only [Act.put, List.setIfInBounds_toArray, List.set_cons_zero, List.set_cons_succ]
      refine wpAnyH_take (i := 24) (oi := ?on133) ?hin133 ?an133 ?bn133 ?cn133 ?qn133 (Or.inr ⟨?dn133, rfl⟩) hHeld ?restn133
      case hin133 => (simp only [List.getElem?_toArray, List.getElem?_cons_succ, List.getElem?_cons_zero]; exact rfl)
      case an133 => kernel_rfl
      case bn133 => kernel_rfl
      case cn133 => kernel_rfl
      case qn133 => exact fun _ _ _ h => h
      case dn133 => rfl
      try simp only [Act.put, List.setIfInBounds_toArray, List.set_cons_zero, List.set_cons_succ]
      refine wpAnyH_take (i := 25) (oi := ?on134) ?hin134 ?an134 ?bn134 ?cn134 ?qn134 (Or.inr ⟨?dn134, rfl⟩) hHeld ?restn134
      case hin134 => (simp only [List.getElem?_toArray, List.getElem?_cons_succ, List.getElem?_cons_zero]; exact rfl)
      case an134 => kernel_rfl
      case bn134 => kernel_rfl
      case cn134 => kernel_rfl
      case qn134 => exact fun _ _ _ h => h
      case dn134 => rfl
      try simp only [Act.put, List.setIfInBounds_toArray, List.set_cons_zero, List.set_cons_succ]
      refine wpAnyH_take (i := 26) (oi := ?on135) (v := ?vn135) ?hin135 ?an135 ?bn135 ?cn135 ?qn135 (Or.inl ⟨?dn135, ?hyn135⟩) hHeld ?restn135
      case hin135 => (simp only [List.getElem?_toArray, List.getElem?_cons_succ, List.getElem?_cons_zero]; exact rfl)
      case an135 => kernel_rfl
      case bn135 => kernel_rfl
      case cn135 => kernel_rfl
      case qn135 => exact fun _ _ _ h => h
      case dn135 => rfl
      case hyn135 => (intro z hSw; (try dsimp only at hSw); go_simp; (try with_reducible rfl))
      try simp only [Act.put, List.setIfInBounds_toArray, List.set_cons_zero, List.set_cons_succ]
      refine wpAnyH_done (by kernel_rfl) ?_ _

      go_wp2_with fail
      go_ret
      exact ⟨rfl, gk3⟩
  · rw [dcd_false (fun h => hg h.1.2.1)]
    have hg2 : gp x.2.2.2.1 = false := by simpa using hg
    rw [hg2] at KF
    clear hg hg2 KL KN HGB HC HS HUP HTK
    replace KF := Lib.hid KF
    generalize xs.length = xl at *
    generalize x.2.1.length = pln at *
    generalize x.2.2.1.length = al at *
    go_enter Tryz.func102, Tryz.ntmps102
    go_wp2_with fail
    refine (KF.out _).mono ?_
    rintro e w1 ⟨uf, rfl, hof, hg1⟩
    clear hof
    go_wp2_with fail
    go_quiet (fail)
    go_wp2_with fail
    go_ret
    exact ⟨rfl, (hal.trans hg1).drewN _⟩
end Go.Proofs.YtofeeenjlaljpaaGreat

/- l25Bad of the reference; isDeductionCount of the program. -/
namespace Go.Proofs.YtofeeenjlaljpaaGreat
open Go.RowKit

theorem l25Bad_c (v : Value) (xs : List Dd) (w : World) (hv : Dds w v xs) (hf : FitsDd xs) (hl : xs.length ≤ 1000) :
    Calls Tryz.prog 73 #[v] w fun e w' => e = .returned (.int .i64 (fbd xs xs.length)) ∧ Grew w w' := by
  obtain ⟨A, c, rfl⟩ := Dds_slice hv
  have HV := Lib.hid hv
  have HF := Lib.hid hf
  clear hv hf
  go_enter Tryz.func73, Tryz.ntmps73
  go_wp2_with fail
  go_loopw [3] (fun i wr => ∃ j : Nat, j ≤ xs.length ∧ i = .int .i64 j ∧ Grew w wr ∧ Hid (fbd xs j = -1)) (fun i _ => xs.length - (intOf i).toNat)
  case atStart => exact ⟨0, Nat.zero_le _, rfl, Grew.refl _, Lib.hid rfl⟩
  case round =>
    obtain ⟨j, hj, rfl, hB, HJ⟩ := hrel
    by_cases hlt : j < xs.length
    · have hx : xs[j]? = some xs[j] := List.getElem?_eq_getElem hlt
      have hfx := HF.out _ (List.getElem_mem hlt)
      generalize xs[j] = x at hx hfx
      have KC := l25Correct_c (.slice A xs.length c) xs j x wr (HV.out.grew hB) hx hfx (fbd_plain HJ.out) hl
      by_cases hg : goodP (xs.take j) x
      · rw [dcd_true hg] at KC
        replace KC := Lib.hid KC
        have HN : Hid (fbd xs (j + 1) = -1) := Lib.hid (fbd_good HJ.out hx hg)
        clear hg hx
        go_wp2_with fail
        refine (KC.out).mono ?_
        rintro e w2 ⟨rfl, hg2⟩
        go_wp2_with fail
        go_roundw
        case rel => exact ⟨j + 1, by omega, by go_num, hB.trans hg2, HN⟩
        case measure => simp [intOf]; omega
      · rw [dcd_false hg] at KC
        replace KC := Lib.hid KC
        have HN : Hid (fbd xs xs.length = j) := Lib.hid (fbd_bad HJ.out (fun ⟨y, hy, hgy⟩ => hg (by rw [hx] at hy; cases hy; exact hgy)) hlt)
        clear hg hx
        go_wp2_with fail
        refine (KC.out).mono ?_
        rintro e w2 ⟨rfl, hg2⟩
        go_wp2_with fail
        go_ret
        exact ⟨congrArg (fun k => Ending.returned (Value.int .i64 k)) HN.out.symm, hB.trans hg2⟩
    · obtain rfl : j = xs.length := by omega
      go_wp2_with fail
      go_ret
      exact ⟨congrArg (fun k => Ending.returned (Value.int .i64 k)) HJ.out.symm, hB⟩

/-- What FirstBadDeduction answers. -/
noncomputable def fbF (xs : List Dd) : Int × Int := if xs.length = 0 ∨ 120 < xs.length then (0, 3) else (fbd xs xs.length, 0)
def GivesFb (w : World) (r : Int × Int) (e : Ending) (w' : World) : Prop := e = .returned (.tuple #[.int .i64 r.1, .int .i64 r.2]) ∧ Grew w w'
theorem isDeductionCount_c (A : Option Addr) (n c : Nat) (w : World) :
    Calls Tryz.prog 78 #[.slice A n c] w fun e w' => e = .returned (.bool (decide (n ≠ 0 ∧ n ≤ 120))) ∧ Grew w w' := by
  by_cases h0 : n = 0
  · subst h0
    go_enter Tryz.func78, Tryz.ntmps78
    go_wp2_with fail
    go_ret
    exact ⟨rfl, Grew.refl _⟩
  · have h1 : (1 : Int) ≤ (n : Int) := by omega
    by_cases h2 : n ≤ 120
    · rw [decide_eq_true ⟨h0, h2⟩]
      have h3 : (n : Int) ≤ 120 := by omega
      clear h0 h2
      go_enter Tryz.func78, Tryz.ntmps78
      go_wp2_with fail
      go_ret
      exact ⟨rfl, Grew.refl _⟩
    · rw [decide_eq_false (fun h => h2 h.2)]
      have h3 : ¬ (n : Int) ≤ 120 := by omega
      clear h0 h2
      go_enter Tryz.func78, Tryz.ntmps78
      go_wp2_with fail
      go_ret
      exact ⟨rfl, Grew.refl _⟩
end Go.Proofs.YtofeeenjlaljpaaGreat

/- deductionCode of the program, l25Code of the reference. -/
namespace Go.Proofs.YtofeeenjlaljpaaGreat
open Go.RowKit

/-- A list of lists of steps. -/
def ld (Ls : List (List Dd)) (i : Nat) : List Dd := Ls.getD i []
/-- The value reads as the list of lists. -/
def DdL (w : World) (v : Value) (Ls : List (List Dd)) : Prop :=
  ∃ b o c, v = .slice (some ⟨b, o, none⟩) Ls.length c ∧ Ls.length ≤ c ∧ c ≤ 9223372036854775807 ∧
    ∀ i, i < Ls.length → ∃ u, (∀ W, Grew w W → W.cell? ⟨b, o + i, none⟩ = some u) ∧ Dds w u (ld Ls i)
theorem DdL.grew {w w' : World} {v : Value} {Ls : List (List Dd)} (h : DdL w v Ls) (hg : Grew w w') : DdL w' v Ls := by
  obtain ⟨b, o, c, h1, h2, h3, h4⟩ := h
  refine ⟨b, o, c, h1, h2, h3, fun i hi => ?_⟩
  obtain ⟨u, k1, k2⟩ := h4 i hi
  exact ⟨u, fun W hW => k1 W (hg.trans hW), k2.grew hg⟩
theorem DdL.one {w : World} {T : TypeId} {u : Value} {xs : List Dd} (h : Dds w u xs) : DdL (w.alloc (.cells #[u] T)) (.slice (some ⟨w.heap.size, 0, none⟩) 1 1) [xs] := by
  refine ⟨w.heap.size, 0, 1, rfl, Nat.le_refl _, by omega, fun i hi => ?_⟩
  obtain rfl : i = 0 := by simpa using hi
  exact ⟨u, fun W hW => (hW.cell (p := ⟨w.heap.size, 0 + 0, none⟩) (by simp)).trans (by simp), h.grew ((Grew.refl w).alloc _)⟩
theorem DdL.two {w : World} {T : TypeId} {u u2 : Value} {xs ys : List Dd} (h : Dds w u xs) (h2 : Dds w u2 ys) : DdL (w.alloc (.cells #[u, u2] T)) (.slice (some ⟨w.heap.size, 0, none⟩) 2 2) [xs, ys] := by
  refine ⟨w.heap.size, 0, 2, rfl, Nat.le_refl _, by omega, fun i hi => ?_⟩
  have hi2 : i < 2 := by simpa using hi
  match i, hi2 with
  | 0, _ => exact ⟨u, fun W hW => (hW.cell (p := ⟨w.heap.size, 0 + 0, none⟩) (by simp)).trans (by simp), h.grew ((Grew.refl w).alloc _)⟩
  | 1, _ => exact ⟨u2, fun W hW => (hW.cell (p := ⟨w.heap.size, 0 + 1, none⟩) (by simp)).trans (by simp), h2.grew ((Grew.refl w).alloc _)⟩

/-- None of the first k lists meets the predicate. -/
def NoneL (p : List Dd → Bool) (Ls : List (List Dd)) (k : Nat) : Prop := ∀ i, i < k → p (ld Ls i) = false
theorem NoneL.zero (p : List Dd → Bool) (Ls : List (List Dd)) : NoneL p Ls 0 := fun i hi => absurd hi (by omega)
theorem NoneL.succ {p : List Dd → Bool} {Ls : List (List Dd)} {k : Nat} (h : NoneL p Ls k) (h1 : p (ld Ls k) = false) : NoneL p Ls (k + 1) := by
  intro i hi
  rcases Nat.lt_or_ge i k with hk | hk
  · exact h i hk
  · obtain rfl : i = k := by omega
    exact h1
theorem ld_get {Ls : List (List Dd)} {i : Nat} (h : i < Ls.length) : Ls[i] = ld Ls i := by simp [ld, List.getD, h]
theorem noneL_any {p : List Dd → Bool} {Ls : List (List Dd)} (h : NoneL p Ls Ls.length) : Ls.any p = false := by
  rw [List.any_eq_false]
  intro x hx
  obtain ⟨i, hi, rfl⟩ := List.getElem_of_mem hx
  rw [ld_get hi, h i hi]
  simp
theorem anyL_at {p : List Dd → Bool} {Ls : List (List Dd)} {k : Nat} (hk : k < Ls.length) (h : p (ld Ls k) = true) : Ls.any p = true := by
  rw [List.any_eq_true]
  exact ⟨Ls[k], List.getElem_mem hk, by rw [ld_get hk]; exact h⟩
theorem noneL_of {p : List Dd → Bool} {Ls : List (List Dd)} (h : Ls.any p = false) {i : Nat} (hi : i < Ls.length) : p (ld Ls i) = false := by
  rw [List.any_eq_false] at h
  have := h _ (List.getElem_mem hi)
  rw [ld_get hi] at this
  simpa using this

/-- Too short or too long. -/
def badCnt (xs : List Dd) : Bool := !decide (xs.length ≠ 0 ∧ xs.length ≤ 120)
/-- With a step that is not correct. -/
noncomputable def badStep (xs : List Dd) : Bool := decide (0 ≤ fbd xs xs.length)

theorem indexFuncL_c (v : Value) (Ls : List (List Dd)) (f : Nat) (p : List Dd → Bool) (w : World) (h : DdL w v Ls)
    (hf : ∀ i, i < Ls.length → ∀ u W, Dds W u (ld Ls i) → Calls Tryz.prog f #[u] W fun e W' => e = .returned (.bool (p (ld Ls i))) ∧ Grew W W') (eg : ∀ args w, (callFunc f args).run Tryz.prog w = .ok (.enter f args) w) :
    Calls Tryz.prog 103 #[v, .func (.func f) #[] #[]] w fun e w' => ∃ r : Int, e = .returned (.int .i64 r) ∧ Grew w w' ∧ decide (0 ≤ r) = Ls.any p := by
  obtain ⟨b, o, c, rfl, hc, hm, hcell⟩ := h
  obtain ⟨R, hR⟩ : ∃ R, R = Ls.any p := ⟨_, rfl⟩
  rw [← hR]
  have HA := Lib.hid (fun k hk h => hR.trans (@anyL_at p Ls k hk h))
  have HZ := Lib.hid (fun h => hR.trans (@noneL_any p Ls h))
  have HC := Lib.hid hcell
  have HF := Lib.hid hf
  clear hcell hf hR
  generalize hN : Ls.length = n at *
  clear hN
  go_enter Tryz.func103, Tryz.ntmps103
  go_wp2_with fail
  go_loopw [5, 8] (fun _ i wr => ∃ j : Nat, j ≤ n ∧ i = .int .i64 j ∧ Grew w wr ∧ Hid (NoneL p Ls j)) (fun _ i _ => n - (intOf i).toNat)
  case atStart => exact ⟨0, Nat.zero_le _, rfl, Grew.refl _, NoneL.zero _ _⟩
  case round =>
    obtain ⟨j, hj, rfl, hB, HJ⟩ := hrel
    by_cases hlt : j < n
    · obtain ⟨u, k0, hd⟩ := HC.out j hlt
      have k1 := k0 _ hB
      have hz := Lib.hid (fun W (hW : Grew w W) => HF.out j hlt u W (hd.grew hW))
      have hA := Lib.hid (HA.out j hlt)
      have hS := Lib.hid (fun h => HJ.out.succ (k := j) h)
      obtain ⟨A, c', rfl⟩ := Dds_slice hd
      clear k0 hd
      generalize ld Ls j = x at *
      go_wp2_with fail
      go_at_fn f
      refine (hz.out _ hB).mono ?_
      rintro e w1 ⟨rfl, hg1⟩
      have hB1 := hB.trans hg1
      cases hp : p x with
      | true =>
        have hv := hA.out hp
        go_wp2_with fail
        go_ret
        exact ⟨_, rfl, hB1, by rw [hv]; simp⟩
      | false =>
        have hs := Lib.hid (hS.out hp)
        go_wp2_with fail
        go_roundw
        case rel => exact ⟨j + 1, by omega, by go_num, hB1, hs⟩
        case measure => simp [intOf]; omega
    · obtain rfl : j = n := by omega
      have hv := Lib.hid (HZ.out HJ.out)
      go_wp2_with fail
      go_ret
      exact ⟨_, rfl, hB, by rw [hv.out]; rfl⟩

theorem containsFuncL_c (v : Value) (Ls : List (List Dd)) (f : Nat) (p : List Dd → Bool) (w : World) (h : DdL w v Ls)
    (hf : ∀ i, i < Ls.length → ∀ u W, Dds W u (ld Ls i) → Calls Tryz.prog f #[u] W fun e W' => e = .returned (.bool (p (ld Ls i))) ∧ Grew W W') (eg : ∀ args w, (callFunc f args).run Tryz.prog w = .ok (.enter f args) w) :
    Calls Tryz.prog 76 #[v, .func (.func f) #[] #[]] w fun e w' => e = .returned (.bool (Ls.any p)) ∧ Grew w w' := by
  have HI := Lib.hid (indexFuncL_c v Ls f p w h hf eg)
  clear h hf eg
  generalize Ls.any p = R at *
  go_enter Tryz.func76, Tryz.ntmps76
  go_wp2_with fail
  refine HI.out.mono ?_
  rintro e w1 ⟨r, rfl, hg1, hr⟩
  go_wp2_with fail
  go_ret
  exact ⟨by rw [← hr]; rfl, hg1⟩

theorem dcode1_c (u : Value) (xs : List Dd) (W : World) (h : Dds W u xs) : Calls Tryz.prog 77 #[u] W fun e W' => e = .returned (.bool (badCnt xs)) ∧ Grew W W' := by
  obtain ⟨A, c, rfl⟩ := Dds_slice h
  have K := Lib.hid (isDeductionCount_c A xs.length c W)
  unfold badCnt
  clear h
  generalize decide (xs.length ≠ 0 ∧ xs.length ≤ 120) = d at *
  go_enter Tryz.func77, Tryz.ntmps77
  go_wp2_with fail
  refine (K.out).mono ?_
  rintro e w1 ⟨rfl, hg1⟩
  go_wp2_with fail
  go_ret
  exact ⟨rfl, hg1⟩

theorem dcode2_c (u : Value) (xs : List Dd) (W : World) (h : Dds W u xs) (hf : FitsDd xs) (hl : xs.length ≤ 1000) : Calls Tryz.prog 79 #[u] W fun e W' => e = .returned (.bool (badStep xs)) ∧ Grew W W' := by
  have K := Lib.hid (firstBadDeduction_c u xs W h hf hl)
  obtain ⟨A, c, rfl⟩ := Dds_slice h
  unfold badStep
  clear h hf
  generalize fbd xs xs.length = d at *
  go_enter Tryz.func79, Tryz.ntmps79
  go_wp2_with fail
  refine (K.out).mono ?_
  rintro e w1 ⟨rfl, hg1⟩
  go_wp2_with fail
  go_ret
  exact ⟨rfl, hg1⟩

/-- The code of lists of steps. -/
noncomputable def dcode (Ls : List (List Dd)) : Int := if Ls.any badCnt then 3 else if Ls.any badStep then 5 else 0
theorem badCnt_le {xs : List Dd} (h : badCnt xs = false) : xs.length ≠ 0 ∧ xs.length ≤ 120 := by
  unfold badCnt at h
  simpa using h

theorem deductionCode_c (v : Value) (Ls : List (List Dd)) (w : World) (h : DdL w v Ls) (hf : ∀ i, i < Ls.length → FitsDd (ld Ls i)) :
    Calls Tryz.prog 40 #[v] w fun e w' => e = .returned (.int .i64 (dcode Ls)) ∧ Grew w w' := by
  unfold dcode
  have e1 : ∀ args w, (callFunc 77 args).run Tryz.prog w = .ok (.enter 77 args) w := enters_of Tryz.func77 (by kernel_rfl) rfl
  have e2 : ∀ args w, (callFunc 79 args).run Tryz.prog w = .ok (.enter 79 args) w := enters_of Tryz.func79 (by kernel_rfl) rfl
  have K1 := Lib.hid (containsFuncL_c v Ls 77 badCnt w h (fun i _ u W hu => dcode1_c u _ W hu) e1)
  cases hb : Ls.any badCnt with
  | true =>
    rw [if_pos rfl]
    rw [hb] at K1
    obtain ⟨b, o, c, rfl, _⟩ := h
    clear hf hb e2
    go_enter Tryz.func40, Tryz.ntmps40
    go_wp2_with fail
    refine (K1.out).mono ?_
    rintro e w1 ⟨rfl, hg1⟩
    go_wp2_with fail
    go_ret
    exact ⟨rfl, hg1⟩
  | false =>
    rw [if_neg (by simp)]
    have K2 := Lib.hid (fun W (hW : Grew w W) => containsFuncL_c v Ls 79 badStep W (h.grew hW) (fun i hi u W hu => dcode2_c u _ W hu (hf i hi) (by have := badCnt_le (noneL_of hb hi); omega)) e2)
    rw [hb] at K1
    obtain ⟨b, o, c, rfl, _⟩ := h
    clear hf hb e1 e2
    cases hs : Ls.any badStep with
    | true =>
      rw [hs] at K2
      rw [if_pos rfl]
      clear hs
      go_enter Tryz.func40, Tryz.ntmps40
      go_wp2_with fail
      refine (K1.out).mono ?_
      rintro e w1 ⟨rfl, hg1⟩
      go_wp2_with fail
      refine (K2.out _ hg1).mono ?_
      rintro e w2 ⟨rfl, hg2⟩
      go_wp2_with fail
      go_ret
      exact ⟨rfl, hg1.trans hg2⟩
    | false =>
      rw [hs] at K2
      rw [if_neg (by simp)]
      clear hs
      go_enter Tryz.func40, Tryz.ntmps40
      go_wp2_with fail
      refine (K1.out).mono ?_
      rintro e w1 ⟨rfl, hg1⟩
      go_wp2_with fail
      refine (K2.out _ hg1).mono ?_
      rintro e w2 ⟨rfl, hg2⟩
      go_wp2_with fail
      go_ret
      exact ⟨rfl, hg1.trans hg2⟩

theorem badCnt_zero {xs : List Dd} (h : xs.length = 0) : badCnt xs = true := by simp [badCnt, h]
theorem badCnt_big {xs : List Dd} (h : 120 < xs.length) : badCnt xs = true := by
  unfold badCnt
  rw [decide_eq_false (fun k => by omega)]
  rfl
theorem badCnt_ok {xs : List Dd} (h0 : xs.length ≠ 0) (h : xs.length ≤ 120) : badCnt xs = false := by
  unfold badCnt
  rw [decide_eq_true ⟨h0, h⟩]
  rfl

theorem l25Code_c (v : Value) (Ls : List (List Dd)) (w : World) (h : DdL w v Ls) (hf : ∀ i, i < Ls.length → FitsDd (ld Ls i)) (hN9 : Ls.length ≤ 1048576) :
    Calls Tryz.prog 36 #[v] w fun e w' => e = .returned (.int .i64 (dcode Ls)) ∧ Grew w w' := by
  obtain ⟨R, hR⟩ : ∃ R, R = dcode Ls := ⟨_, rfl⟩
  rw [← hR]
  obtain ⟨b, o, c, rfl, hc, hm, hcell⟩ := h
  have HA := Lib.hid (fun k (hk : k < Ls.length) (h : badCnt (ld Ls k) = true) => hR.trans (show dcode Ls = 3 by unfold dcode; rw [if_pos (anyL_at hk h)]))
  have HG := Lib.hid (fun (h : NoneL badCnt Ls Ls.length) i (hi : i < Ls.length) => (badCnt_le (h i hi)).2)
  have HS := Lib.hid (fun (h : NoneL badCnt Ls Ls.length) k (hk : k < Ls.length) (hb : badStep (ld Ls k) = true) => hR.trans (show dcode Ls = 5 by unfold dcode; rw [if_neg (by rw [noneL_any h]; simp), if_pos (anyL_at hk hb)]))
  have HZ := Lib.hid (fun (h : NoneL badCnt Ls Ls.length) (hb : NoneL badStep Ls Ls.length) => hR.trans (show dcode Ls = 0 by unfold dcode; rw [if_neg (by rw [noneL_any h]; simp), if_neg (by rw [noneL_any hb]; simp)]))
  have HC := Lib.hid hcell
  have HF := Lib.hid hf
  clear hcell hf hR
  generalize hN : Ls.length = n at *
  clear hN
  go_enter Tryz.func36, Tryz.ntmps36
  go_wp2_with fail
  go_loopw [3] (fun i wr => ∃ j : Nat, j ≤ n ∧ i = .int .i64 j ∧ Grew w wr ∧ Hid (NoneL badCnt Ls j)) (fun i _ => n - (intOf i).toNat)
  case atStart => exact ⟨0, Nat.zero_le _, rfl, Grew.refl _, NoneL.zero _ _⟩
  case round =>
    obtain ⟨j, hj, rfl, hB, HJ⟩ := hrel
    by_cases hlt : j < n
    · obtain ⟨u, k0, hd⟩ := HC.out j hlt
      have k1 := k0 _ hB
      have hA := Lib.hid (HA.out j hlt)
      have hS := Lib.hid (fun h => HJ.out.succ (k := j) h)
      obtain ⟨A, c', rfl⟩ := Dds_slice hd
      clear k0 hd
      by_cases h0 : (ld Ls j).length = 0
      · have hv := Lib.hid (hA.out (badCnt_zero h0))
        rw [h0] at k1
        go_wp2_with fail
        go_ret
        exact ⟨congrArg (fun k => Ending.returned (Value.int .i64 k)) hv.out.symm, hB⟩
      · have e0 : (((ld Ls j).length : Int) == 0) = false := by simpa using h0
        by_cases h1 : 120 < (ld Ls j).length
        · have hv := Lib.hid (hA.out (badCnt_big h1))
          have h2 : (120 : Int) < ((ld Ls j).length : Int) := by omega
          clear h0 h1
          generalize (ld Ls j).length = m at *
          go_wp2_with fail
          go_ret
          exact ⟨congrArg (fun k => Ending.returned (Value.int .i64 k)) hv.out.symm, hB⟩
        · have hs := Lib.hid (hS.out (badCnt_ok h0 (by omega)))
          have h2 : ¬ (120 : Int) < ((ld Ls j).length : Int) := by omega
          clear h0 h1
          generalize (ld Ls j).length = m at *
          go_wp2_with fail
          go_roundw
          case rel => exact ⟨j + 1, by omega, by go_num, hB, hs⟩
          case measure => simp [intOf]; omega
    · obtain rfl : j = n := by omega
      have HG2 := Lib.hid (HG.out HJ.out)
      have HS2 := Lib.hid (HS.out HJ.out)
      have HZ2 := Lib.hid (HZ.out HJ.out)
      clear HJ HA HG HS HZ hj hlt
      go_wp2_with fail
      go_loopw [4] (fun i wr2 => ∃ i' : Nat, i' ≤ j ∧ i = .int .i64 i' ∧ Grew w wr2 ∧ Hid (NoneL badStep Ls i')) (fun i _ => j - (intOf i).toNat)
      case atStart => exact ⟨0, Nat.zero_le _, rfl, hB, NoneL.zero _ _⟩
      case round =>
        obtain ⟨i', hi, rfl, hB2, HI⟩ := hrel
        by_cases hlt : i' < j
        · obtain ⟨u, k0, hd⟩ := HC.out i' hlt
          have k1 := k0 _ hB2
          have KB := Lib.hid (fun W (hW : Grew w W) => l25Bad_c u (ld Ls i') W (hd.grew hW) (HF.out i' hlt) (by have := HG2.out i' hlt; omega))
          have hA := Lib.hid (HS2.out i' hlt)
          have hS := Lib.hid (fun h => HI.out.succ (k := i') h)
          unfold badStep at hA hS
          obtain ⟨A, c', rfl⟩ := Dds_slice hd
          clear k0 hd
          generalize fbd (ld Ls i') (ld Ls i').length = d at *
          by_cases hd0 : 0 ≤ d
          · have hv := Lib.hid (hA.out (decide_eq_true hd0))
            go_wp2_with fail
            refine (KB.out _ hB2).mono ?_
            rintro e w2 ⟨rfl, hg2⟩
            go_wp2_with fail
            go_ret
            exact ⟨congrArg (fun k => Ending.returned (Value.int .i64 k)) hv.out.symm, hB2.trans hg2⟩
          · have hs := Lib.hid (hS.out (decide_eq_false hd0))
            go_wp2_with fail
            refine (KB.out _ hB2).mono ?_
            rintro e w2 ⟨rfl, hg2⟩
            go_wp2_with fail
            go_roundw
            case rel => exact ⟨i' + 1, by omega, by go_num, hB2.trans hg2, by unfold badStep; exact hs⟩
            case measure => simp [intOf]; omega
        · obtain rfl : i' = j := by omega
          have hv := Lib.hid (HZ2.out HI.out)
          go_wp2_with fail
          go_ret
          exact ⟨congrArg (fun k => Ending.returned (Value.int .i64 k)) hv.out.symm, hB2⟩
end Go.Proofs.YtofeeenjlaljpaaGreat

/- What holds of the steps of a deduction, plain. -/
namespace Go.Proofs.YtofeeenjlaljpaaGreat
open Go.RowKit

theorem fbd_cases (xs : List Dd) (m : Nat) : fbd xs m = -1 ∨ 0 ≤ fbd xs m := by
  induction m with
  | zero => exact .inl rfl
  | succ m ihm =>
    rw [fbd]
    split
    · exact .inr ‹_›
    · split
      · exact .inl rfl
      · exact .inr (by omega)
theorem dcode_zero {xs : List Dd} (h : dcode [xs] = 0) : xs.length ≠ 0 ∧ xs.length ≤ 120 ∧ fbd xs xs.length = -1 := by
  unfold dcode at h
  simp only [List.any_cons, List.any_nil, Bool.or_false] at h
  split at h
  · omega
  · rename_i h1
    split at h
    · omega
    · rename_i h2
      obtain ⟨h3, h4⟩ := badCnt_le (by simpa using h1)
      refine ⟨h3, h4, ?_⟩
      have h5 : ¬ (0 ≤ fbd xs xs.length) := by simpa [badStep] using h2
      rcases fbd_cases xs xs.length with h6 | h6
      · exact h6
      · omega
/-- What holds of the steps of a deduction. -/
theorem steps_prem {xs : List Dd} (h : fbd xs xs.length = -1) {i : Nat} {x : Dd} (hx : xs[i]? = some x) {q : Nat} (hq : q < x.2.1.length) : 0 ≤ it x.2.1 q ∧ it x.2.1 q < i := by
  have hi : i < xs.length := by
    rcases Nat.lt_or_ge i xs.length with hk | hk
    · exact hk
    · rw [List.getElem?_eq_none hk] at hx; cases hx
  obtain ⟨y, hy, hg⟩ := fbd_all h i hi
  rw [hx] at hy
  cases hy
  have h2 := hg.2.1 x.2.1[q] (List.getElem_mem hq)
  rw [it_get hq, List.length_take] at h2
  omega
end Go.Proofs.YtofeeenjlaljpaaGreat

/- Steps with premises moved along, plain. No program is in sight. -/
namespace Go.Proofs.YtofeeenjlaljpaaGreat
open Go.RowKit

/-- The numbers of a list, taken from another. -/
def imgs (L T : List Int) : List Int := L.map fun k => it T k.toNat
/-- b, b + 1, .. -/
def shf (n : Nat) (b : Int) : List Int := (List.range n).map fun i : Nat => b + (i : Int)
theorem shf_len (n : Nat) (b : Int) : (shf n b).length = n := by simp [shf]
theorem shf_at {n i : Nat} {b : Int} (h : i < n) : it (shf n b) i = b + i := by simp [shf, it, List.getD, h]
theorem shf_succ (n : Nat) (b : Int) : shf (n + 1) b = shf n b ++ [b + (n : Int)] := by simp [shf, List.range_succ]
theorem imgs_shf {L : List Int} {n : Nat} {b : Int} (h : ∀ k ∈ L, 0 ≤ k ∧ k < (n : Int)) : imgs L (shf n b) = L.map fun k => b + k := by
  unfold imgs
  apply List.map_congr_left
  intro k hk
  obtain ⟨h1, h2⟩ := h k hk
  show it (shf n b) k.toNat = b + k
  rw [shf_at (by omega)]
  omega
/-- A step with its premises moved by b. -/
def mvD (b : Int) (x : Dd) : Dd := (x.1, x.2.1.map (fun k => b + k), x.2.2.1, x.2.2.2.1, x.2.2.2.2)
theorem mvD_zero (x : Dd) : mvD 0 x = x := by
  have : x.2.1.map (fun k => (0 : Int) + k) = x.2.1 := by
    have e : ∀ k ∈ x.2.1, (fun k => (0 : Int) + k) k = id k := fun k _ => by show 0 + k = k; omega
    rw [List.map_congr_left e, List.map_id]
  unfold mvD
  rw [this]
theorem map_mvD_zero (xs : List Dd) : xs.map (mvD 0) = xs := by
  have e : ∀ x ∈ xs, mvD 0 x = id x := fun x _ => mvD_zero x
  rw [List.map_congr_left e, List.map_id]
/-- A step with its premises taken from a list. -/
def toD (T : List Int) (x : Dd) : Dd := (x.1, imgs x.2.1 T, x.2.2.1, x.2.2.2.1, x.2.2.2.2)
theorem toD_shf {n : Nat} {b : Int} {x : Dd} (h : ∀ k ∈ x.2.1, 0 ≤ k ∧ k < (n : Int)) : toD (shf n b) x = mvD b x := by unfold toD mvD; rw [imgs_shf h]
/-- The premises of the steps of a deduction are numbers of earlier ones. -/
theorem prem_lt {xs : List Dd} (h : fbd xs xs.length = -1) {i : Nat} {x : Dd} (hx : xs[i]? = some x) : ∀ k ∈ x.2.1, 0 ≤ k ∧ k < (i : Int) := by
  intro k hk
  obtain ⟨q, hq, rfl⟩ := List.getElem_of_mem hk
  have := steps_prem h hx hq
  rw [it_get hq]
  exact this
theorem map_toD_shf {xs : List Dd} {b : Int} (h : fbd xs xs.length = -1) : xs.map (toD (shf xs.length b)) = xs.map (mvD b) := by
  apply List.map_congr_left
  intro x hx
  obtain ⟨i, hi, rfl⟩ := List.getElem_of_mem hx
  exact toD_shf fun k hk => by have := prem_lt h (List.getElem?_eq_getElem hi) k hk; omega
theorem FitDd.mv {x : Dd} (b : Int) (h : FitDd x) : FitDd (mvD b x) := ⟨by unfold mvD; rw [List.length_map]; exact h.1, h.2.1, h.2.2.1, h.2.2.2⟩
theorem FitsDd.mv {xs : List Dd} (b : Int) (h : FitsDd xs) : FitsDd (xs.map (mvD b)) := by
  intro y hy
  obtain ⟨x, hx, rfl⟩ := List.mem_map.1 hy
  exact (h x hx).mv b
theorem FitsDd.app {xs ys : List Dd} (h : FitsDd xs) (k : FitsDd ys) : FitsDd (xs ++ ys) := by
  intro y hy
  rcases List.mem_append.1 hy with hy | hy
  · exact h y hy
  · exact k y hy
theorem FitsDd.one {x : Dd} (h : FitDd x) : FitsDd [x] := by
  intro y hy
  obtain rfl : y = x := by simpa using hy
  exact h
/-- What the steps of a deduction are. -/
theorem step_good {xs : List Dd} (h : fbd xs xs.length = -1) {i : Nat} {x : Dd} (hx : xs[i]? = some x) : x.2.2.1.length ≤ 12 ∧ (∀ t ∈ x.2.2.1, gp t = true) ∧ gp x.2.2.2.1 = true := by
  have hi := (List.getElem?_eq_some_iff.1 hx).1
  obtain ⟨y, hy, hg⟩ := fbd_all h i hi
  rw [hx] at hy
  cases hy
  obtain ⟨h1, h2⟩ := asl_map hg.1.1
  exact ⟨h1, h2, hg.1.2.1⟩
end Go.Proofs.YtofeeenjlaljpaaGreat

/- Copies of lists of texts: slices.Clone of the program, l11Copy of the reference. -/
namespace Go.Proofs.YtofeeenjlaljpaaGreat
open Go.RowKit

/-- 'out = append(out, list...)', out a row of texts of the call's own. -/
theorem wpList_appL {ops : Array Oper} {rest : List Oper} {o : Oper} {a : Act} {Q : Exit → Act → World → Prop} {w w0 : World} (s x : Operand) (hgd : o.guard = none)
    (ho : o.op = .call { callee := .builtin .append, args := #[s, x], argTypes := #[24, 24] })
    (v : Value) (L : List ByteArray) (hs : a.eval s = v) (hown : OwnS w w0.heap.size v L) (hg : Grew w0 w) (vx : Value) (K : List ByteArray) (hx : a.eval x = vx) (hr : Strs w vx K) (hn : L.length + K.length ≤ 1099511627776)
    (h : ∀ v' w', OwnS w' w0.heap.size v' (L ++ K) → Grew w0 w' → w.grownBy w' v.ownBlock → wpList Tryz.prog ops Q rest (a.put o.dst v') w') : wpList Tryz.prog ops Q (o :: rest) a w := by
  obtain ⟨i0, hi0, hz0, hz1, hz2⟩ := info_parts Tryz.infoStr
  refine wpList_append_rd w hgd s x _ ho w0.heap.size 9 i0 _ 1 16 Tryz.underlying24 hi0 hz0 hz1 hz2 rfl (by omega) v L.length (scells L) hs hown vx K.length (scells K) hx hr (scells_one K) (by unfold maxLen; omega) (by omega) hg.size ?_
  intro v' w' h1 h2 h3
  refine h v' w' ?_ (hg.grown h2 fun k hk => (hown.lt k hk).1) h2
  unfold OwnS
  rw [List.length_append, scells_append]
  exact h1
theorem own_emptyL (w : World) : OwnS (w.alloc (.cells #[] 9)) w.heap.size (.slice (some ⟨w.heap.size, 0, none⟩) 0 0) [] :=
  World.ownsRow_lit (e := 9) (size := 1) w #[] 0 (Nat.le_refl _) (by omega) rfl
theorem cloneL_c (v : Value) (L : List ByteArray) (w : World) (h : Strs w v L) (hn : L.length ≤ 1099511627776) :
    Calls Tryz.prog 41 #[v] w (GivesS w L) := by
  have q : ∀ (w : World) (a : Option Addr) (n c n' c' : Nat), (binOp .eql 24 (.slice a n c) (.slice none n' c')).run Tryz.prog w = .ok (.bool a.isNone) w := fun w a n c n' c' => Lib.run_eql_slice_nil w _ _ a n c n' c' Tryz.underlying24
  have he := own_emptyL w
  rcases h.open_ with ⟨rfl, rfl⟩ | ⟨b, o, c, rfl, hc, hm, hb, hf⟩
  · clear he h
    go_enter Tryz.func41, Tryz.ntmps41
    go_wp2_with fail
    go_ret
    exact ⟨_, rfl, OwnS.nil_ _ _, Grew.refl _⟩
  · clear hf
    go_enter Tryz.func41, Tryz.ntmps41
    go_wp2_with (first
      | (at_builtin; refine wpList_appL (w0 := w) _ _ rfl rfl _ [] rfl he ((Grew.refl w).alloc _) _ L rfl (h.grew ((Grew.refl w).alloc _)) (by simp; omega) ?_; intro v1 w1 hown1 hg1 _))
    go_ret
    exact ⟨_, rfl, by simpa using hown1, hg1⟩
theorem copyL_c (v : Value) (L : List ByteArray) (w : World) (h : Strs w v L) (hn : L.length ≤ 1099511627776) :
    Calls Tryz.prog 37 #[v] w (GivesS w L) := by
  have he := own_emptyL w
  obtain ⟨A, c, rfl⟩ := strs_slice h
  go_enter Tryz.func37, Tryz.ntmps37
  go_wp2_with (first
    | (at_builtin; refine wpList_appL (w0 := w) _ _ rfl rfl _ [] rfl he ((Grew.refl w).alloc _) _ L rfl (h.grew ((Grew.refl w).alloc _)) (by simp; omega) ?_; intro v1 w1 hown1 hg1 _))
  go_ret
  exact ⟨_, rfl, by simpa using hown1, hg1⟩
end Go.Proofs.YtofeeenjlaljpaaGreat

/- DeductionResult of both sides; the last step. -/
namespace Go.Proofs.YtofeeenjlaljpaaGreat
open Go.RowKit

/-- The call returns a step. -/
def GivesD1 (w : World) (x : Dd) (e : Ending) (w' : World) : Prop := ∃ up ua, e = .returned (.agg #[.int .i64 x.1, up, ua, .string x.2.2.2.1, .int .i64 x.2.2.2.2]) ∧ Ints w' up x.2.1 ∧ Strs w' ua x.2.2.1 ∧ Grew w w'
theorem result_c (v : Value) (xs : List Dd) (x : Dd) (w : World) (h : Dds w v xs) (hn : xs.length ≠ 0) (hx : xs[xs.length - 1]? = some x) :
    Calls Tryz.prog 42 #[v] w (GivesD1 w x) := by
  rcases h with ⟨_, h0⟩ | ⟨b, o, c, rfl, hc, hm, hb, hcell⟩
  · rw [h0] at hn; exact absurd rfl hn
  obtain ⟨up, ua, hcl, hup, hus⟩ := hcell _ x hx
  have hal : ∀ ob, Grew w (w.alloc ob) := fun ob => (Grew.refl w).alloc ob
  have hcl2 : ∀ ob, DdCells (w.alloc ob) b (o + (xs.length - 1) * 5) x up ua := fun ob => hcl.grew hb (hal ob)
  have k0 := fun ob => (hcl2 ob).1
  have k1 := fun ob => (hcl2 ob).2.1
  have k2 := fun ob => (hcl2 ob).2.2.1
  have k3 := fun ob => (hcl2 ob).2.2.2.1
  have k4 := fun ob => (hcl2 ob).2.2.2.2
  have hI := Lib.hid hup
  have hS := Lib.hid hus
  obtain ⟨A1, ca1, rfl⟩ := ints_slice hup
  obtain ⟨A2, ca2, rfl⟩ := strs_slice hus
  obtain ⟨m, hm2⟩ : ∃ m, m = xs.length - 1 := ⟨_, rfl⟩
  have hml : xs.length = m + 1 := by omega
  rw [← hm2] at k0 k1 k2 k3 k4
  rw [hml] at hc ⊢
  clear hcl2 hcl hcell hup hus hx hm2 hml hn
  obtain ⟨r0, rA, rs, rc, rn⟩ := x
  simp only at *
  have i0 : (0 : Int) ≤ (m : Int) := by omega
  go_enter Tryz.func42, Tryz.ntmps42
  go_wp2_with fail
  have hinfo : (Tryz.prog.info? 50).map (·.size) = some 5 := by kernel_rfl
  refine bodyPost_ret (results_cell_row rfl _ _ w.heap.size 50 #[.int .i64 r0, .slice A1 rA.length ca1, .slice A2 rs.length ca2, .string rc, .int .i64 rn] (0, 0) _ rfl (blk_new w _) Tryz.underlying50 rfl hinfo) rfl ?_
  exact ⟨_, _, rfl, hI.out.grew (hal _), hS.out.grew (hal _), hal _⟩
theorem l25Last_c (v : Value) (xs : List Dd) (x : Dd) (w : World) (h : Dds w v xs) (hn : xs.length ≠ 0) (hx : xs[xs.length - 1]? = some x) :
    Calls Tryz.prog 38 #[v] w (GivesD1 w x) := by
  rcases h with ⟨_, h0⟩ | ⟨b, o, c, rfl, hc, hm, hb, hcell⟩
  · rw [h0] at hn; exact absurd rfl hn
  obtain ⟨up, ua, hcl, hup, hus⟩ := hcell _ x hx
  have hal : ∀ ob, Grew w (w.alloc ob) := fun ob => (Grew.refl w).alloc ob
  have hcl2 : ∀ ob, DdCells (w.alloc ob) b (o + (xs.length - 1) * 5) x up ua := fun ob => hcl.grew hb (hal ob)
  have k0 := fun ob => (hcl2 ob).1
  have k1 := fun ob => (hcl2 ob).2.1
  have k2 := fun ob => (hcl2 ob).2.2.1
  have k3 := fun ob => (hcl2 ob).2.2.2.1
  have k4 := fun ob => (hcl2 ob).2.2.2.2
  have hI := Lib.hid hup
  have hS := Lib.hid hus
  obtain ⟨A1, ca1, rfl⟩ := ints_slice hup
  obtain ⟨A2, ca2, rfl⟩ := strs_slice hus
  obtain ⟨m, hm2⟩ : ∃ m, m = xs.length - 1 := ⟨_, rfl⟩
  have hml : xs.length = m + 1 := by omega
  rw [← hm2] at k0 k1 k2 k3 k4
  rw [hml] at hc ⊢
  clear hcl2 hcl hcell hup hus hx hm2 hml hn
  obtain ⟨r0, rA, rs, rc, rn⟩ := x
  simp only at *
  have i0 : (0 : Int) ≤ (m : Int) := by omega
  go_enter Tryz.func38, Tryz.ntmps38
  go_wp2_with fail
  have hinfo : (Tryz.prog.info? 50).map (·.size) = some 5 := by kernel_rfl
  refine bodyPost_ret (results_cell_row rfl _ _ w.heap.size 50 #[.int .i64 r0, .slice A1 rA.length ca1, .slice A2 rs.length ca2, .string rc, .int .i64 rn] (0, 0) _ rfl (blk_new w _) Tryz.underlying50 rfl hinfo) rfl ?_
  exact ⟨_, _, rfl, hI.out.grew (hal _), hS.out.grew (hal _), hal _⟩

/-- The last step. -/
def lst (xs : List Dd) : Dd := xs.getD (xs.length - 1) dd0
theorem lst_at {xs : List Dd} (h : xs.length ≠ 0) : xs[xs.length - 1]? = some (lst xs) := by
  have hl : xs.length - 1 < xs.length := by omega
  simp [lst, List.getD, hl]
theorem lst_mem {xs : List Dd} (h : xs.length ≠ 0) : lst xs ∈ xs := List.mem_of_getElem? (lst_at h)
noncomputable def drF (xs : List Dd) : List ByteArray × ByteArray × Int := if dcode [xs] = 0 then ((lst xs).2.2.1, (lst xs).2.2.2.1, 0) else ([], ⟨#[]⟩, dcode [xs])
def GivesSD (w : World) (r : List ByteArray × ByteArray × Int) (e : Ending) (w' : World) : Prop := ∃ v, e = .returned (.tuple #[v, .string r.2.1, .int .i64 r.2.2]) ∧ OwnS w' w.heap.size v r.1 ∧ Grew w w'
theorem drF_len {xs : List Dd} (hf : FitsDd xs) : (drF xs).1.length ≤ 1048576 := by
  unfold drF
  split
  · rename_i h
    obtain ⟨h0, _⟩ := dcode_zero h
    exact (hf _ (lst_mem h0)).2.1
  · simp
theorem fld2 (a b c d e : Value) (W : World) : (Instr.field 50 (.agg #[a, b, c, d, e]) 2).run Tryz.prog W = .ok c W := by kernel_rfl
theorem fld3 (a b c d e : Value) (W : World) : (Instr.field 50 (.agg #[a, b, c, d, e]) 3).run Tryz.prog W = .ok d W := by kernel_rfl
set_option maxRecDepth 20000 in
set_option maxHeartbeats 1000000 in
theorem implDr_c (v : Value) (xs : List Dd) (w : World) (hv : Dds w v xs) (hf : FitsDd xs) (_hn : xs.length ≤ 1048576) :
    Calls Tryz.prog 13 #[v] w (GivesSD w (drF xs)) := by
  unfold GivesSD drF
  obtain ⟨A, c, rfl⟩ := Dds_slice hv
  have KD := Lib.hid (deductionCode_c _ [xs] _ (DdL.one (T := 27) hv) (fun i hi => by obtain rfl : i = 0 := (by simpa using hi); exact hf))
  have HAL := Lib.hid ((Grew.refl w).alloc (.cells #[.slice A xs.length c] 27))
  by_cases hd : dcode [xs] = 0
  · rw [if_pos hd]
    rw [hd] at KD
    obtain ⟨hn0, hn1, _⟩ := dcode_zero hd
    have KR := Lib.hid (fun W (hW : Grew w W) => result_c _ xs (lst xs) W (hv.grew hW) hn0 (lst_at hn0))
    have hfl := (hf _ (lst_mem hn0)).2.1
    have KC := Lib.hid (fun u W (hu : Strs W u (lst xs).2.2.1) => cloneL_c u _ W hu (by omega))
    unfold GivesD1 at KR
    clear hv hf hd
    generalize lst xs = x at *
    obtain ⟨r0, rA, rs, rc, rn⟩ := x
    simp only at *
    generalize xs.length = n at *
    go_enter Tryz.func13, Tryz.ntmps13
    go_wp2_with fail
    refine (KD.out).mono ?_
    rintro e w1 ⟨rfl, hg1⟩
    have g1 := HAL.out.trans hg1
    go_wp2_with fail
    refine (KR.out _ g1).mono ?_
    rintro e w2 ⟨up, ua, rfl, hup, hua, hg2⟩
    have hf2 := fun a b c d e W => fld2 a b c d e W
    have hf3 := fun a b c d e W => fld3 a b c d e W
    have HUA := Lib.hid hua
    obtain ⟨A2, c2, rfl⟩ := strs_slice hua
    obtain ⟨A3, c3, rfl⟩ := ints_slice hup
    clear hup hua
    have g2 := g1.trans hg2
    go_wp2_with fail
    refine (KC.out _ _ HUA.out).mono ?_
    rintro e w3 ⟨u3, rfl, hu3, hg3⟩
    have g3 := g2.trans hg3
    have HU3 := Lib.hid (hu3.base g2.size)
    obtain ⟨A4, c4, rfl⟩ := strs_slice hu3.strs
    clear hu3
    go_wp2_with fail
    refine (KR.out _ g3).mono ?_
    rintro e w4 ⟨up4, ua4, rfl, hup4, hua4, hg4⟩
    obtain ⟨A5, c5, rfl⟩ := strs_slice hua4
    obtain ⟨A6, c6, rfl⟩ := ints_slice hup4
    clear hup4 hua4
    go_wp2_with fail
    go_ret3
    exact ⟨_, rfl, HU3.out.grew hg4, g3.trans hg4⟩
  · rw [if_neg hd]
    have e0 : (dcode [xs] == 0) = false := by simpa using hd
    clear hv hf hd
    generalize dcode [xs] = d at *
    go_enter Tryz.func13, Tryz.ntmps13
    go_wp2_with fail
    refine (KD.out).mono ?_
    rintro e w1 ⟨rfl, hg1⟩
    go_wp2_with fail
    go_ret3
    exact ⟨_, rfl, OwnS.nil_ _ _, HAL.out.trans hg1⟩
set_option maxRecDepth 20000 in
set_option maxHeartbeats 1000000 in
theorem specDr_c (v : Value) (xs : List Dd) (w : World) (hv : Dds w v xs) (hf : FitsDd xs) (_hn : xs.length ≤ 1048576) :
    Calls Tryz.prog 11 #[v] w (GivesSD w (drF xs)) := by
  unfold GivesSD drF
  obtain ⟨A, c, rfl⟩ := Dds_slice hv
  have KD := Lib.hid (l25Code_c _ [xs] _ (DdL.one (T := 27) hv) (fun i hi => by obtain rfl : i = 0 := (by simpa using hi); exact hf) (by simp))
  have HAL := Lib.hid ((Grew.refl w).alloc (.cells #[.slice A xs.length c] 27))
  by_cases hd : dcode [xs] = 0
  · rw [if_pos hd]
    rw [hd] at KD
    obtain ⟨hn0, hn1, _⟩ := dcode_zero hd
    have KR := Lib.hid (fun W (hW : Grew w W) => l25Last_c _ xs (lst xs) W (hv.grew hW) hn0 (lst_at hn0))
    have hfl := (hf _ (lst_mem hn0)).2.1
    have KC := Lib.hid (fun u W (hu : Strs W u (lst xs).2.2.1) => copyL_c u _ W hu (by omega))
    unfold GivesD1 at KR
    clear hv hf hd
    generalize lst xs = x at *
    obtain ⟨r0, rA, rs, rc, rn⟩ := x
    simp only at *
    generalize xs.length = n at *
    go_enter Tryz.func11, Tryz.ntmps11
    go_wp2_with fail
    refine (KD.out).mono ?_
    rintro e w1 ⟨rfl, hg1⟩
    have g1 := HAL.out.trans hg1
    go_wp2_with fail
    refine (KR.out _ g1).mono ?_
    rintro e w2 ⟨up, ua, rfl, hup, hua, hg2⟩
    have hf2 := fun a b c d e W => fld2 a b c d e W
    have hf3 := fun a b c d e W => fld3 a b c d e W
    have HUA := Lib.hid hua
    obtain ⟨A2, c2, rfl⟩ := strs_slice hua
    obtain ⟨A3, c3, rfl⟩ := ints_slice hup
    clear hup hua
    have g2 := g1.trans hg2
    go_wp2_with fail
    refine (KC.out _ _ HUA.out).mono ?_
    rintro e w3 ⟨u3, rfl, hu3, hg3⟩
    have g3 := g2.trans hg3
    have HU3 := Lib.hid (hu3.base g2.size)
    obtain ⟨A4, c4, rfl⟩ := strs_slice hu3.strs
    clear hu3
    go_wp2_with fail
    refine (KR.out _ g3).mono ?_
    rintro e w4 ⟨up4, ua4, rfl, hup4, hua4, hg4⟩
    obtain ⟨A5, c5, rfl⟩ := strs_slice hua4
    obtain ⟨A6, c6, rfl⟩ := ints_slice hup4
    clear hup4 hua4
    go_wp2_with fail
    go_ret3
    exact ⟨_, rfl, HU3.out.grew hg4, g3.trans hg4⟩
  · rw [if_neg hd]
    have e0 : (dcode [xs] == 0) = false := by simpa using hd
    clear hv hf hd
    generalize dcode [xs] = d at *
    go_enter Tryz.func11, Tryz.ntmps11
    go_wp2_with fail
    refine (KD.out).mono ?_
    rintro e w1 ⟨rfl, hg1⟩
    go_wp2_with fail
    go_ret3
    exact ⟨_, rfl, OwnS.nil_ _ _, HAL.out.trans hg1⟩
end Go.Proofs.YtofeeenjlaljpaaGreat

/- The laws' own helpers on slices of Deductions: szDeductionS, toDeductionS, eqDeductionS. -/
namespace Go.Proofs.YtofeeenjlaljpaaGreat
open Go.RowKit

/-- The sizes of one. -/
def SizeDd (x : Dd) (r : Int) : Prop := r ≤ 1048576 ∧ (0 ≤ r → FitDd x)
theorem szDeduction_c (x : Dd) (up ua : Value) (left : Int) (w : World) (hp : ArgI w up x.2.1) (hs : ArgS w ua x.2.2.1) (hz : x.2.2.2.1.size ≤ 9223372036854775807) (h0 : 0 ≤ left) (h1 : left ≤ 1048576) :
    Calls Tryz.prog 35 #[.agg #[.int .i64 x.1, up, ua, .string x.2.2.2.1, .int .i64 x.2.2.2.2], .int .i64 left] w fun e w' => ∃ r : Int, e = .returned (.int .i64 r) ∧ SizeDd x r ∧ Grew w w' := by
  have hal := (Grew.refl w).alloc (.cells #[.int .i64 x.1, up, ua, .string x.2.2.2.1, .int .i64 x.2.2.2.2] 47)
  have HE : Hid (∀ r : Int, (r ≤ 1048576 ∧ (0 ≤ r → FitDd x)) → SizeDd x r) := Lib.hid (fun _ h => h)
  have HF : Hid (FitDd x ↔ (x.2.1.length ≤ 1048576 ∧ x.2.2.1.length ≤ 1048576 ∧ Fits x.2.2.1 ∧ x.2.2.2.1.size ≤ 1048576)) := Lib.hid Iff.rfl
  have KI := Lib.hid (fun l W (hW : Grew w W) (a0 : 0 ≤ l) (a1 : l ≤ 1048576) => szInt64S_c up x.2.1 l W (hp.grew hW) a0 a1)
  have KS := Lib.hid (fun l W (hW : Grew w W) (a0 : 0 ≤ l) (a1 : l ≤ 1048576) => szStringS_c ua x.2.2.1 l W (hs.grew hW) a0 a1)
  obtain ⟨⟨A, c, rfl, hm1⟩, _⟩ := hp
  obtain ⟨⟨A2, c2, rfl, hm2⟩, _, _⟩ := hs
  generalize FitDd x = FIT at *
  obtain ⟨r0, P, S, C, N⟩ := x
  simp only at *
  generalize P.length = pl at *
  generalize hsl : S.length = sl at *
  replace hsl := Lib.hid hsl
  go_enter Tryz.func35, Tryz.ntmps35
  go_wp2_with fail
  refine (KI.out _ _ hal (by omega) (by omega)).mono ?_
  rintro e w1 ⟨r1, rfl, ⟨hr1, hf1⟩, hg1⟩
  have k1 := hal.trans hg1
  by_cases h1 : r1 < 0
  · go_wp2_with fail
    go_ret
    exact ⟨_, rfl, HE.out _ ⟨by omega, fun h => absurd h (by omega)⟩, k1⟩
  have f2 : ∀ W, Grew w1 W → W.cell? ⟨w.heap.size, 2, none⟩ = some (.slice A2 sl c2) := fun W hW => ((hg1.trans hW).cell (p := ⟨w.heap.size, 2, none⟩) (by simp)).trans (by simp)
  have rr1 := Grew.refl w1
  go_wp2_with fail
  refine (KS.out _ _ k1 (by omega) (by omega)).mono ?_
  rintro e w2 ⟨r2, rfl, hs2, hg2⟩
  have HS2 := Lib.hid hs2
  have hr2 := hs2.1
  clear hs2
  have k2 := k1.trans hg2
  by_cases h2 : r2 < 0
  · go_wp2_with fail
    go_ret
    exact ⟨_, rfl, HE.out _ ⟨by omega, fun h => absurd h (by omega)⟩, k2⟩
  have f3 : ∀ W, Grew w2 W → W.cell? ⟨w.heap.size, 3, none⟩ = some (.string C) := fun W hW => (((hg1.trans hg2).trans hW).cell (p := ⟨w.heap.size, 3, none⟩) (by simp)).trans (by simp)
  have rr2 := Grew.refl w2
  have hsm := Lib.hid (HS2.out.2 (by omega))
  have hf1' := hf1 (by omega)
  clear hf1
  by_cases h3 : r2 < C.size
  · go_wp2_with fail
    go_ret
    exact ⟨_, rfl, HE.out _ ⟨by omega, fun h => absurd h (by omega)⟩, k2⟩
  · go_wp2_with fail
    go_ret
    exact ⟨_, rfl, HE.out _ ⟨by omega, fun h => HF.out.2 ⟨hf1', (by have h7 := hsm.out.1; have h8 := hsl.out; omega), small_fits hsm.out.2, by omega⟩⟩, k2⟩

/-- The first k are small. -/
def SmallDd (xs : List Dd) (k : Nat) : Prop := ∀ i x, i < k → xs[i]? = some x → FitDd x
theorem SmallDd.zero (xs : List Dd) : SmallDd xs 0 := fun i x hi => absurd hi (by omega)
theorem SmallDd.succ {xs : List Dd} {k : Nat} {x : Dd} (h : SmallDd xs k) (hx : xs[k]? = some x) (h1 : FitDd x) : SmallDd xs (k + 1) := by
  intro i y hi hy
  rcases Nat.lt_or_ge i k with hk | hk
  · exact h i y hk hy
  · obtain rfl : i = k := by omega
    rw [hx] at hy
    injection hy with hy
    subst hy
    exact h1
theorem SmallDd.fits {xs : List Dd} (h : SmallDd xs xs.length) : FitsDd xs := by
  intro x hx
  obtain ⟨i, hi, rfl⟩ := List.getElem_of_mem hx
  exact h i _ hi (List.getElem?_eq_getElem hi)

theorem szDeductionS_c (v : Value) (xs : List Dd) (left : Int) (w : World) (h : ArgDd w v xs) (h0 : 0 ≤ left) (h1 : left ≤ 1048576) :
    Calls Tryz.prog 10 #[v, .int .i64 left] w fun e w' => ∃ r : Int, e = .returned (.int .i64 r) ∧ SizesDd xs r ∧ Grew w w' := by
  obtain ⟨⟨A, c, rfl, hmax⟩, hS, hz⟩ := h
  have HE : Hid (∀ r : Int, (r ≤ 1048576 ∧ (0 ≤ r → xs.length ≤ 1048576 ∧ FitsDd xs)) → SizesDd xs r) := Lib.hid (fun _ h => h)
  by_cases hlong : left < xs.length
  · clear hS hz
    generalize xs.length = n at *
    go_enter Tryz.func10, Tryz.ntmps10
    go_wp2_with fail
    go_ret
    exact ⟨_, rfl, HE.out _ ⟨by omega, fun h => absurd h (by omega)⟩, Grew.refl _⟩
  · by_cases hp : 0 < xs.length
    · obtain ⟨b, o, c', hv, hc, hm, hb, hcell⟩ := (hS hp).open_ hp
      obtain ⟨rfl, rfl⟩ : A = some ⟨b, o, none⟩ ∧ c = c' := by simpa using hv
      clear hS hv
      have HC := Lib.hid hcell
      have HZ := Lib.hid hz
      have HX := Lib.hid (fun j (hj : j < xs.length) => (⟨xs[j], List.getElem?_eq_getElem hj, List.getElem_mem hj⟩ : ∃ x, xs[j]? = some x ∧ x ∈ xs))
      have HFIN := Lib.hid (fun (h : SmallDd xs xs.length) => h.fits)
      clear hcell hz
      generalize hN : xs.length = n at *
      clear hN
      go_enter Tryz.func10, Tryz.ntmps10
      go_wp2_with fail
      go_loopw [1, 5] (fun kk i wr => ∃ (j : Nat) (l : Int), j ≤ n ∧ i = .int .i64 j ∧ kk = .int .i64 l ∧ 0 ≤ l ∧ l ≤ 1048576 ∧ Grew w wr ∧ Hid (SmallDd xs j)) (fun _ i _ => n - (intOf i).toNat)
      case atStart => exact ⟨0, left - n, Nat.zero_le _, rfl, rfl, by omega, by omega, Grew.refl _, SmallDd.zero _⟩
      case round =>
        obtain ⟨j, l, hj, rfl, rfl, hl0, hl1, hB, HJ⟩ := hrel
        by_cases hlt : j < n
        · obtain ⟨x, hx, hxm⟩ := HX.out j hlt
          obtain ⟨up, ua, hcs, hpi, hps⟩ := HC.out j x hx
          obtain ⟨k1, k2, k3, k4, k5⟩ := hcs _ hB
          have hz1 := HZ.out x hxm
          have HS := Lib.hid (fun h => HJ.out.succ hx h)
          have HW := Lib.hid (fun W (hW : Grew w W) => szDeduction_c x up ua l W (hpi.grew hW) (hps.grew hW) hz1 hl0 (by omega))
          clear hcs hpi hps hx hxm hz1
          generalize hxx : x = y at HS HW
          obtain ⟨r0, P, S, C, N⟩ := x
          simp only at k1 k2 k3 k4 k5
          subst hxx
          simp only at HW
          go_wp2_with fail
          refine (HW.out _ hB).mono ?_
          rintro e w1 ⟨r, rfl, ⟨hr1, hr2⟩, hg1⟩
          by_cases hbig : r < 0
          · clear hr2
            go_wp2_with fail
            go_ret
            exact ⟨_, rfl, HE.out _ ⟨by omega, fun h => absurd h (by omega)⟩, hB.trans hg1⟩
          · have hs := Lib.hid (HS.out (hr2 (by omega)))
            clear hr2
            go_wp2_with fail
            go_roundw
            case rel => exact ⟨j + 1, r, by omega, by go_num, rfl, by omega, by omega, hB.trans hg1, hs⟩
            case measure => simp [intOf]; omega
        · obtain rfl : j = n := by omega
          go_wp2_with fail
          go_ret
          exact ⟨_, rfl, HE.out _ ⟨by omega, fun _ => ⟨by omega, HFIN.out HJ.out⟩⟩, hB⟩
    · obtain rfl : xs = [] := List.eq_nil_of_length_eq_zero (by omega)
      simp only [List.length_nil] at *
      go_enter Tryz.func10, Tryz.ntmps10
      go_wp2_with fail
      refine wp_loop_rounds 1 ?_; rw [rounds_succ]
      go_wp2_with fail
      go_ret
      exact ⟨_, rfl, HE.out _ ⟨by omega, fun _ => ⟨by simp, fun i hi => absurd hi (by simp)⟩⟩, Grew.refl _⟩
end Go.Proofs.YtofeeenjlaljpaaGreat

/- The law FnExactDeductionResult, walked. -/
namespace Go.Proofs.YtofeeenjlaljpaaGreat
open Go.RowKit

theorem lawDr_c (v0 : Value) (L0 : List Dd) (w : World) (h0 : ArgDd w v0 L0) :
    Calls Tryz.prog 3 #[v0] w fun e w' => e = .returned (.bool true) ∧ Grew w w' := by
  have Z0 := Lib.hid (fun W l (hW : Grew w W) (a0 : 0 ≤ l) (a1 : l ≤ 1048576) => szDeductionS_c v0 L0 l W (h0.grew hW) a0 a1)
  have T0 := Lib.hid (fun W (hW : Grew w W) => toDeductionS_x v0 L0 W (h0.grew hW))
  clear h0
  go_enter Tryz.func3, Tryz.ntmps3
  go_wp2_with fail
  refine (Z0.out _ _ (Grew.refl w) (by omega) (by omega)).mono ?_
  rintro e w1 ⟨r0, rfl, ⟨hm0, hs0⟩, hg1⟩
  have z1 := Lib.hid hg1.size
  have g1 : Grew w w1 := (Grew.refl w).trans hg1
  clear hg1
  by_cases hr0 : r0 < 0
  · clear hs0
    go_wp2_with fail
    go_ret
    exact ⟨rfl, g1⟩
  obtain ⟨hn0, hf0⟩ := hs0 (by omega)
  have F0 : Hid (FitsDd L0) := Lib.hid hf0
  clear hs0 hf0
  have KS := Lib.hid (fun u0 W x0 => specDr_c u0 L0 W x0 F0.out (by omega))
  have KI := Lib.hid (fun u0 W x0 => implDr_c u0 L0 W x0 F0.out (by omega))
  have hlen := drF_len F0.out
  generalize drF L0 = rr at *
  obtain ⟨xs, t, c⟩ := rr
  simp only at hlen
  unfold GivesSD at KS KI
  simp only at KS KI
  have hcc : (c != c) = false := by simp
  have htt : (t.toList != t.toList) = false := by simp
  go_wp2_with fail
  refine (T0.out _ g1 hn0 F0.out).mono ?_
  rintro e w2 ⟨a0, rfl, oa0, hg2⟩
  have z2 := Lib.hid hg2.size
  have g2 : Grew w w2 := g1.trans hg2
  clear hg2
  go_wp2_with fail
  refine (KS.out _ _ oa0.rd).mono ?_
  rintro e w3 ⟨q0, rfl, hq, hg3⟩
  have HQB := Lib.hid (fun g (hg : q0.ownBlock = some g) => (hq.lt g hg).2)
  have z3 := Lib.hid hg3.size
  have g3 : Grew w w3 := g2.trans hg3
  clear hg3 oa0
  go_wp2_with fail
  refine (T0.out _ g3 hn0 F0.out).mono ?_
  rintro e w4 ⟨x0, rfl, ox0, hg4⟩
  have z4 := Lib.hid hg4.size
  have g4 : Grew w w4 := g3.trans hg4
  replace hq := hq.grew hg4
  clear hg4
  go_wp2_with fail
  refine (KI.out _ _ ox0.rd).mono ?_
  rintro e w5 ⟨g0, rfl, hog, hg5⟩
  have HGB := Lib.hid (fun g (hg : g0.ownBlock = some g) => (hog.lt g hg).1)
  have z5 := Lib.hid hg5.size
  have g5 : Grew w w5 := g4.trans hg5
  replace hq := hq.grew hg5
  replace ox0 := ox0.grew hg5
  clear hg5
  go_wp2_with fail
  refine (eqStringS_yes _ _ xs _ hog.strs hq.strs (by omega)).mono ?_
  rintro e w6 ⟨rfl, hg6⟩
  have z6 := Lib.hid hg6.size
  have g6 : Grew w w6 := g5.trans hg6
  replace hq := hq.grew hg6
  replace ox0 := ox0.grew hg6
  replace hog := hog.grew hg6
  clear hg6
  go_wp2_with fail
  refine (T0.out _ g6 hn0 F0.out).mono ?_
  rintro e w7 ⟨y0, rfl, oy0, hg7⟩
  have z7 := Lib.hid hg7.size
  have g7 : Grew w w7 := g6.trans hg7
  replace hq := hq.grew hg7
  replace ox0 := ox0.grew hg7
  replace hog := hog.grew hg7
  clear hg7
  go_wp2_with fail
  refine (eqDeductionS_yes _ _ L0 _ ox0.rd oy0.rd (by omega) F0.out).mono ?_
  rintro e w8 ⟨rfl, hg8⟩
  have z8 := Lib.hid hg8.size
  have g8 : Grew w w8 := g7.trans hg8
  replace hq := hq.grew hg8
  replace ox0 := ox0.grew hg8
  replace hog := hog.grew hg8
  clear hg8 oy0
  have hdk0 := dk_le (k := 1) F0.out L0.length (Nat.le_refl _)
  go_wp2_with fail
  refine (markDeductionS_x _ L0 _ _ (1) _ ox0 F0.out (by omega) (by omega) (by omega)).mono ?_
  rintro e w9 ⟨rfl, _, hsp⟩
  replace hq : OwnS w9 _ q0 xs := hsp.own hq (fun g hg => .inl (by have h1 := HQB.out g hg; have y1 := z1.out; have y2 := z2.out; have y3 := z3.out; have y4 := z4.out; omega))
  replace hog : OwnS w9 _ g0 xs := hsp.own hog (fun g hg => .inr (by have h1 := HGB.out g hg; have y1 := z1.out; have y2 := z2.out; have y3 := z3.out; have y4 := z4.out; omega))
  have g9 : Grew w w9 := hsp.old g8 (by have y1 := z1.out; have y2 := z2.out; have y3 := z3.out; have y4 := z4.out; omega)
  clear hsp ox0
  generalize hkk0 : dk 1 L0 L0.length = kk0 at *
  clear hkk0
  go_wp2_with fail
  refine (eqStringS_yes _ _ xs _ hog.strs hq.strs (by omega)).mono ?_
  rintro e w10 ⟨rfl, hg10⟩
  have z10 := Lib.hid hg10.size
  have g10 : Grew w w10 := g9.trans hg10
  replace hq := hq.grew hg10
  replace hog := hog.grew hg10
  clear hg10
  go_wp2_with fail
  refine (markStringS_m _ xs _ 1 _ hog (by omega) (by omega) (by omega)).mono ?_
  rintro e w11 ⟨rfl, hog, hrow⟩
  replace hq : OwnS w11 _ q0 xs := own_row hq hrow (fun g hg hg2 => by have h1 := HQB.out g hg2; have h2 := HGB.out g hg; have y1 := z1.out; have y2 := z2.out; have y3 := z3.out; have y4 := z4.out; omega)
  have g11 : Grew w w11 := grew_row g10 hrow (fun g hg => by have h2 := HGB.out g hg; have y1 := z1.out; have y2 := z2.out; have y3 := z3.out; have y4 := z4.out; omega)
  clear hrow
  go_wp2_with fail
  refine (heldStringS_c _ xs.length 1 _ hog.strs (by omega) (by omega) (by omega)).mono ?_
  rintro e w12 ⟨rfl, hg12⟩
  have z12 := Lib.hid hg12.size
  have g12 : Grew w w12 := g11.trans hg12
  replace hq := hq.grew hg12
  replace hog := hog.grew hg12
  clear hg12
  go_wp2_with fail
  refine (T0.out _ g12 hn0 F0.out).mono ?_
  rintro e w13 ⟨b0, rfl, ob0, hg13⟩
  have z13 := Lib.hid hg13.size
  have g13 : Grew w w13 := g12.trans hg13
  replace hq := hq.grew hg13
  replace hog := hog.grew hg13
  clear hg13
  go_wp2_with fail
  refine (KI.out _ _ ob0.rd).mono ?_
  rintro e w14 ⟨h0, rfl, hoh, hg14⟩
  have z14 := Lib.hid hg14.size
  have g14 : Grew w w14 := g13.trans hg14
  replace hq := hq.grew hg14
  replace hog := hog.grew hg14
  clear hg14
  go_wp2_with fail
  refine (eqStringS_yes _ _ xs _ hoh.strs hq.strs (by omega)).mono ?_
  rintro e w15 ⟨rfl, hg15⟩
  have z15 := Lib.hid hg15.size
  have g15 : Grew w w15 := g14.trans hg15
  replace hq := hq.grew hg15
  replace hog := hog.grew hg15
  replace hoh := hoh.grew hg15
  clear hg15
  go_wp2_with fail
  refine (heldStringS_c _ xs.length 1 _ hog.strs (by omega) (by omega) (by omega)).mono ?_
  rintro e w16 ⟨rfl, hg16⟩
  go_wp2_with fail
  go_ret
  exact ⟨rfl, g15.trans hg16⟩
end Go.Proofs.YtofeeenjlaljpaaGreat

/- An argument that is a list of strings, or a struct of two such lists. -/
namespace Go.Proofs.YtofeeenjlaljpaaGreat
open Go.RowKit

theorem cell_lt {w : World} {a : Addr} {u : Value} (h : w.cell? a = some u) : a.block < w.heap.size := by
  unfold World.cell? at h
  split at h
  · rename_i hh
    exact (Array.getElem?_eq_some_iff.1 hh).1
  · cases h

theorem argS_of_trod {H : Type} {enc : TypeId × Value → H} {P : Program} {W : World} {sp : Nat → Bool} {held : Bool} {n : Nat} {t e : TypeId} {v : Value} {y : DataW H × List MemPlace}
    (ht : P.underlying t = some (.slice e)) (he : P.underlying e = some .string) (hc : P.cellsOf e = 1) (h : DataW.trod enc P W 0 sp held n t [v] = some y) : ∃ L, ArgS W v L := by
  rcases Go.Deep.open_strs ht he hc h with ⟨hv, _⟩ | ⟨a, len, cap, m, Sx, hv, _, hl, hm, hmm, _, hcell⟩
  · obtain rfl : v = .slice none 0 0 := by simpa using hv
    exact ⟨[], ⟨none, 0, rfl, by simp⟩, fun h => absurd h (by simp), fun i hi => absurd hi (by simp)⟩
  · obtain rfl : v = .slice (some a) len cap := by simpa using hv
    have hlm : len ≤ m := by rw [hmm]; split <;> omega
    have hmax : maxLen = 9223372036854775807 := by decide
    rw [hmax] at hm
    have hlen : ((List.range len).map Sx).length = len := by simp
    have hst : ∀ i, i < len → st ((List.range len).map Sx) i = Sx i := fun i hi => by simp [st, List.getD, hi]
    refine ⟨(List.range len).map Sx, ⟨some a, cap, by rw [hlen], by rw [hlen]; omega⟩, fun hp => ?_, fun i hi => ?_⟩
    · rw [hlen] at hp
      obtain ⟨b, off, spot⟩ := a
      have h0 := (hcell 0 (by omega)).1
      have hspot : spot = none := by simpa [Addr.add] using World.cell?_spot h0
      subst hspot
      have hb := cell_lt h0
      have hadd : ∀ i, (⟨b, off, none⟩ : Addr).add i = ⟨b, off + i, none⟩ := fun i => by
        unfold Addr.add
        split
        · subst_vars; rfl
        · rfl
      rw [hadd] at hb
      unfold Strs Rd
      rw [hlen]
      refine ⟨by rw [scells_length, hlen], by omega, .inr ⟨b, off, cap, rfl, hl, hm, hb, fun j u hu => ?_⟩⟩
      have hj : j < len := by
        have := (List.getElem?_eq_some_iff.1 hu).1
        rw [scells_length, hlen] at this
        omega
      rw [scells_at (by rw [hlen]; exact hj), hst j hj] at hu
      rw [← hadd, (hcell j (by omega)).1]
      exact hu
    · rw [hlen] at hi
      rw [hst i hi, ← hmax]
      exact (hcell i (by omega)).2
end Go.Proofs.YtofeeenjlaljpaaGreat

/- An argument that is a list of numbers. -/
namespace Go.Proofs.YtofeeenjlaljpaaGreat
open Go.RowKit

theorem argI_of_trod {H : Type} {enc : TypeId × Value → H} {P : Program} {W : World} {sp : Nat → Bool} {held : Bool} {n : Nat} {t e : TypeId} {v : Value} {y : DataW H × List MemPlace}
    (ht : P.underlying t = some (.slice e)) (he : P.underlying e = some (.int .i64)) (hc : P.cellsOf e = 1) (h : DataW.trod enc P W 0 sp held n t [v] = some y) : ∃ L, ArgI W v L := by
  rcases Go.Deep.open_slice ht h with ⟨hv, _⟩ | ⟨a, len, cap, m, k, D, Pl, hv, _, hl, hm, hmm, _, hcell⟩
  · obtain rfl : v = .slice none 0 0 := by simpa using hv
    exact ⟨[], ⟨none, 0, rfl, by simp⟩, fun h => absurd h (by simp)⟩
  · obtain rfl : v = .slice (some a) len cap := by simpa using hv
    have hlm : len ≤ m := by rw [hmm]; split <;> omega
    have hmax : maxLen = 9223372036854775807 := by decide
    rw [hmax] at hm
    have each : ∀ i, i < len → ∃ q : Int, W.cell? (a.add i) = some (.int .i64 q) := fun i hi => by
      obtain ⟨cs', h1, h2⟩ := hcell i (by omega)
      rw [hc] at h1
      obtain ⟨_, hlen, hc1⟩ := World.cells?_some h1
      match cs', hlen with
      | [v0], _ =>
        obtain ⟨x, hx, _⟩ := DataW.trod_int he h2
        obtain rfl : v0 = .int .i64 x := by simpa using hx
        have e0 := hc1 0 (by omega)
        rw [Go.Deep.add_add] at e0
        exact ⟨x, by simpa [hc] using e0⟩
    obtain ⟨q, hq⟩ := Go.Deep.choose_lt each
    have hlen : ((List.range len).map q).length = len := by simp
    refine ⟨(List.range len).map q, ⟨some a, cap, by rw [hlen], by rw [hlen]; omega⟩, fun hp => ?_⟩
    rw [hlen] at hp
    obtain ⟨b, off, spot⟩ := a
    have h0 := hq 0 (by omega)
    have hspot : spot = none := by simpa [Addr.add] using World.cell?_spot h0
    subst hspot
    have hb := cell_lt h0
    have hadd : ∀ i, (⟨b, off, none⟩ : Addr).add i = ⟨b, off + i, none⟩ := fun i => by
      unfold Addr.add
      split
      · subst_vars; rfl
      · rfl
    rw [hadd] at hb
    unfold Ints Rd
    rw [hlen]
    refine ⟨by rw [icells_length, hlen], by omega, .inr ⟨b, off, cap, rfl, hl, hm, hb, fun j u hu => ?_⟩⟩
    have hj : j < len := by
      have := (List.getElem?_eq_some_iff.1 hu).1
      rw [icells_length, hlen] at this
      omega
    have h1 := icells_at (L := (List.range len).map q) (i := j) (by rw [hlen]; exact hj)
    rw [h1] at hu
    rw [← hadd, hq j hj, ← hu]
    simp [it, List.getD, hj]
end Go.Proofs.YtofeeenjlaljpaaGreat

/- An argument that is a list of Deductions. -/
namespace Go.Proofs.YtofeeenjlaljpaaGreat
open Go.RowKit


theorem argDd_of_trod {H : Type} {enc : TypeId × Value → H} {P : Program} {W : World} {sp : Nat → Bool} {held : Bool} {n : Nat} {t e ei es : TypeId} {f0 f1 f2 f3 f4 : Field} {v : Value} {y : DataW H × List MemPlace}
    (ht : P.underlying t = some (.slice e)) (he : P.underlying e = some (.struct #[f0, f1, f2, f3, f4])) (ce : P.cellsOf e = 5) (o0 : f0.offset = 0) (o1 : f1.offset = 1) (o2 : f2.offset = 2) (o3 : f3.offset = 3) (o4 : f4.offset = 4)
    (c0 : P.cellsOf f0.type = 1) (c1 : P.cellsOf f1.type = 1) (c2 : P.cellsOf f2.type = 1) (c3 : P.cellsOf f3.type = 1) (c4 : P.cellsOf f4.type = 1)
    (u0 : P.underlying f0.type = some (.int .i64)) (u1 : P.underlying f1.type = some (.slice ei)) (u2 : P.underlying f2.type = some (.slice es)) (u3 : P.underlying f3.type = some .string) (u4 : P.underlying f4.type = some (.int .i64))
    (ui : P.underlying ei = some (.int .i64)) (ci : P.cellsOf ei = 1) (us : P.underlying es = some .string) (cs : P.cellsOf es = 1) (h : DataW.trod enc P W 0 sp held n t [v] = some y) : ∃ xs, ArgDd W v xs := by
  rcases Go.Deep.open_slice ht h with ⟨hv, _⟩ | ⟨a, len, cap, m, k, D, Pl, hv, _, hl, hm, hmm, _, hcell⟩
  · obtain rfl : v = .slice none 0 0 := by simpa using hv
    exact ⟨[], ⟨none, 0, rfl, by simp⟩, fun h => absurd h (by simp), fun x hx => absurd hx (by simp)⟩
  · obtain rfl : v = .slice (some a) len cap := by simpa using hv
    have hlm : len ≤ m := by rw [hmm]; split <;> omega
    have hmax : maxLen = 9223372036854775807 := by decide
    rw [hmax] at hm
    have each : ∀ i, i < len → ∃ q : (Value × Value) × Dd, W.cell? (a.add (i * 5)) = some (.int .i64 q.2.1) ∧ W.cell? (a.add (i * 5 + 1)) = some q.1.1 ∧ W.cell? (a.add (i * 5 + 2)) = some q.1.2 ∧ W.cell? (a.add (i * 5 + 3)) = some (.string q.2.2.2.2.1) ∧ W.cell? (a.add (i * 5 + 4)) = some (.int .i64 q.2.2.2.2.2) ∧ ArgI W q.1.1 q.2.2.1 ∧ ArgS W q.1.2 q.2.2.2.1 ∧ q.2.2.2.2.1.size ≤ maxLen := fun i hi => by
      obtain ⟨cs', h1, h2⟩ := hcell i (by omega)
      rw [ce] at h1
      obtain ⟨_, hlen, hc⟩ := World.cells?_some h1
      obtain ⟨xs, k', hk, hxy, _, hxl, hf⟩ := DataW.trod_struct he h2
      match xs, hxl, cs', hlen with
      | [y0, y1, y2, y3, y4], _, [v0, v1, v2, v3, v4], _ =>
        have g0 := hf 0 f0 rfl
        have g1 := hf 1 f1 rfl
        have g2 := hf 2 f2 rfl
        have g3 := hf 3 f3 rfl
        have g4 := hf 4 f4 rfl
        simp [o0, o1, o2, o3, o4, c0, c1, c2, c3, c4] at g0 g1 g2 g3 g4
        have e0 := hc 0 (by omega)
        have e1 := hc 1 (by omega)
        have e2 := hc 2 (by omega)
        have e3 := hc 3 (by omega)
        have e4 := hc 4 (by omega)
        rw [Go.Deep.add_add] at e0 e1 e2 e3 e4
        obtain ⟨x, hx, _⟩ := DataW.trod_int u0 g0
        obtain ⟨L1, hL1⟩ := argI_of_trod u1 ui ci g1
        obtain ⟨L2, hL2⟩ := argS_of_trod u2 us cs g2
        obtain ⟨s, hs, _, hsz⟩ := DataW.trod_string u3 g3
        obtain ⟨z, hz, _⟩ := DataW.trod_int u4 g4
        obtain rfl : v0 = .int .i64 x := by simpa using hx
        obtain rfl : v3 = .string s := by simpa using hs
        obtain rfl : v4 = .int .i64 z := by simpa using hz
        exact ⟨((v1, v2), (x, L1, L2, s, z)), by simpa using e0, by simpa using e1, by simpa using e2, by simpa using e3, by simpa using e4, hL1, hL2, hsz⟩
    obtain ⟨q, hq⟩ := Go.Deep.choose_lt each
    have hlen : ((List.range len).map fun i => (q i).2).length = len := by simp
    refine ⟨(List.range len).map fun i => (q i).2, ⟨some a, cap, by rw [hlen], by rw [hlen]; omega⟩, fun hp => ?_, fun x hx => ?_⟩
    · rw [hlen] at hp
      obtain ⟨b, off, spot⟩ := a
      have h0 := (hq 0 (by omega)).1
      have hspot : spot = none := by simpa [Addr.add] using World.cell?_spot h0
      subst hspot
      have hb := cell_lt h0
      have hadd : ∀ i, (⟨b, off, none⟩ : Addr).add i = ⟨b, off + i, none⟩ := fun i => by
        unfold Addr.add
        split
        · subst_vars; rfl
        · rfl
      rw [hadd] at hb
      refine .inr ⟨b, off, cap, by rw [hlen], by rw [hlen]; exact hl, hm, hb, fun i x hx => ?_⟩
      have hi : i < len := by
        have := (List.getElem?_eq_some_iff.1 hx).1
        rw [hlen] at this
        exact this
      have hxe : x = (q i).2 := by
        rw [List.getElem?_map, List.getElem?_range hi] at hx
        simp at hx
        exact hx.symm
      subst hxe
      obtain ⟨e0, e1, e2, e3, e4, e5, e6, _⟩ := hq i hi
      rw [hadd] at e0 e1 e2 e3 e4
      exact ⟨_, _, ⟨e0, by rw [← e1, Nat.add_assoc], by rw [← e2, Nat.add_assoc], by rw [← e3, Nat.add_assoc], by rw [← e4, Nat.add_assoc]⟩, e5, e6⟩
    · rw [List.mem_map] at hx
      obtain ⟨i, hi, rfl⟩ := hx
      rw [← hmax]
      exact (hq i (by simpa using hi)).2.2.2.2.2.2.2
end Go.Proofs.YtofeeenjlaljpaaGreat

/- Appends of numbers. -/
namespace Go.Proofs.YtofeeenjlaljpaaGreat
open Go.RowKit

/-- 'out = append(out, x)' onto a row of numbers of the call's own. -/
theorem wpList_appI {ops : Array Oper} {rest : List Oper} {o : Oper} {a : Act} {Q : Exit → Act → World → Prop} {w w0 : World} (s x : Operand) (hgd : o.guard = none)
    (ho : o.op = .call { callee := .builtin .append, args := #[s, x], argTypes := #[34, 34] })
    (v : Value) (L : List Int) (hs : a.eval s = v) (hown : OwnI w w0.heap.size v L) (hg : Grew w0 w) (vx : Value) (k : Int) (hx : a.eval x = vx) (hr : Rd w 1 vx 1 [.int .i64 k]) (hn : L.length ≤ 1048576)
    (h : ∀ v' w', OwnI w' w0.heap.size v' (L ++ [k]) → Grew w0 w' → w.grownBy w' v.ownBlock → wpList Tryz.prog ops Q rest (a.put o.dst v') w') : wpList Tryz.prog ops Q (o :: rest) a w := by
  obtain ⟨i0, hi0, hz0, hz1, hz2⟩ := info_parts Tryz.infoI
  refine wpList_append_rd w hgd s x _ ho w0.heap.size 2 i0 _ 1 8 Tryz.underlying34 hi0 hz0 hz1 hz2 rfl (by omega) v L.length (icells L) hs hown vx 1 [.int .i64 k] hx hr (by simp [Value.oneCell']) (by unfold maxLen; omega) (by omega) hg.size ?_
  intro v' w' h1 h2 h3
  refine h v' w' ?_ (hg.grown h2 fun k hk => (hown.lt k hk).1) h2
  unfold OwnI
  rw [List.length_append, icells_append]
  exact h1
theorem rd_litI (w : World) (k : Int) (t : TypeId) : Rd (w.alloc (.cells #[.int .i64 k] t)) 1 (.slice (some ⟨w.heap.size, 0, none⟩) 1 1) 1 [.int .i64 k] := by
  refine ⟨rfl, by omega, .inr ⟨w.heap.size, 0, 1, rfl, by omega, by omega, by simp, fun j x hx => ?_⟩⟩
  have hj : j = 0 := by
    have := (List.getElem?_eq_some_iff.1 hx).1
    simp at this
    omega
  subst hj
  simp at hx
  subst hx
  simp
theorem own_emptyI (w : World) : OwnI (w.alloc (.cells #[] 2)) w.heap.size (.slice (some ⟨w.heap.size, 0, none⟩) 0 0) [] :=
  World.ownsRow_lit (e := 2) (size := 1) w #[] 0 (Nat.le_refl _) (by omega) rfl
end Go.Proofs.YtofeeenjlaljpaaGreat

/- DetoursOf of both sides. Printed by detgen.py. -/
namespace Go.Proofs.YtofeeenjlaljpaaGreat
open Go.RowKit

theorem rd_litI2 (w : World) (ob : Obj) (k : Int) (t : TypeId) : Rd ((w.alloc ob).alloc (.cells #[.int .i64 k] t)) 1 (.slice (some ⟨w.heap.size + 1, 0, none⟩) 1 1) 1 [.int .i64 k] := by
  have h := rd_litI (w.alloc ob) k t
  have e : (w.alloc ob).heap.size = w.heap.size + 1 := World.size_alloc _ _
  rwa [e] at h

/-- Does a rule undo what a rule has made? -/
def dtr (r m : Int) : Bool := if r = 4 ∨ r = 5 then m == 3 else if r = 8 then (m == 6 || m == 7) else if r = 10 then m == 9 else false
def isDet (xs : List Dd) (x : Dd) : Bool := if x.2.1.length = 0 then false else dtr x.1 (xs.getD (it x.2.1 0).toNat dd0).1
def detL (xs : List Dd) (j : Nat) : List Int := ((List.range j).filter fun i => isDet xs (xs.getD i dd0)).map fun i : Nat => (i : Int)
theorem detL_zero (xs : List Dd) : detL xs 0 = [] := rfl
theorem detL_yes {xs : List Dd} {j : Nat} {x : Dd} (hx : xs[j]? = some x) (h : isDet xs x = true) : detL xs (j + 1) = detL xs j ++ [(j : Int)] := by
  unfold detL
  rw [List.range_succ, List.filter_append, List.map_append]
  have e : xs.getD j dd0 = x := by simp [List.getD, hx]
  congr 1
  rw [List.filter_cons]
  simp only [e, h]
  rfl
theorem detL_no {xs : List Dd} {j : Nat} {x : Dd} (hx : xs[j]? = some x) (h : isDet xs x = false) : detL xs (j + 1) = detL xs j := by
  unfold detL
  rw [List.range_succ, List.filter_append, List.map_append]
  have e : xs.getD j dd0 = x := by simp [List.getD, hx]
  rw [List.filter_cons]
  simp only [e, h]
  simp
theorem detL_len (xs : List Dd) (j : Nat) : (detL xs j).length ≤ j := by
  unfold detL
  rw [List.length_map]
  have := List.length_filter_le (fun i => isDet xs (xs.getD i dd0)) (List.range j)
  rwa [List.length_range] at this
theorem isDet_none {xs : List Dd} {x : Dd} (h : x.2.1.length = 0) : isDet xs x = false := by unfold isDet; rw [if_pos h]
theorem isDet_some {xs : List Dd} {x y : Dd} {p : Nat} (h : x.2.1.length ≠ 0) (hp : it x.2.1 0 = (p : Int)) (hy : xs[p]? = some y) : isDet xs x = dtr x.1 y.1 := by
  unfold isDet
  rw [if_neg h, hp, Int.toNat_natCast]
  have e : xs.getD p dd0 = y := by simp [List.getD, hy]
  rw [e]
noncomputable def detF (xs : List Dd) : List Int × Int := if dcode [xs] = 0 then (detL xs xs.length, 0) else ([], dcode [xs])
def GivesDet (w : World) (r : List Int × Int) (e : Ending) (w' : World) : Prop := ∃ v, e = .returned (.tuple #[v, .int .i64 r.2]) ∧ OwnI w' w.heap.size v r.1 ∧ Grew w w'
theorem detF_len {xs : List Dd} (hn : xs.length ≤ 1048576) : (detF xs).1.length ≤ 1048576 := by
  unfold detF
  split
  · have := detL_len xs xs.length
    exact Nat.le_trans this hn
  · simp

set_option maxHeartbeats 8000000 in
theorem implDet_c (v : Value) (xs : List Dd) (w : World) (hv : Dds w v xs) (hf : FitsDd xs) (_hn : xs.length ≤ 1048576) :
    Calls Tryz.prog 20 #[v] w (GivesDet w (detF xs)) := by
  unfold GivesDet detF
  obtain ⟨A, c, rfl⟩ := Dds_slice hv
  have KD := Lib.hid (deductionCode_c _ [xs] _ (DdL.one (T := 27) hv) (fun i hi => by obtain rfl : i = 0 := (by simpa using hi); exact hf))
  have HAL := Lib.hid ((Grew.refl w).alloc (.cells #[.slice A xs.length c] 27))
  by_cases hd : dcode [xs] = 0
  case neg =>
    rw [if_neg hd]
    have e0 : (dcode [xs] == 0) = false := by simpa using hd
    clear hv hf hd
    generalize dcode [xs] = d at *
    go_enter Tryz.func20, Tryz.ntmps20
    go_wp2_with fail
    refine (KD.out).mono ?_
    rintro e w1 ⟨rfl, hg1⟩
    go_wp2_with fail
    go_ret2
    exact ⟨_, rfl, OwnI.nil_ _ _, HAL.out.trans hg1⟩
  rw [if_pos hd]
  rw [hd] at KD
  obtain ⟨hn0, hn1, hfb⟩ := dcode_zero hd
  rcases hv with ⟨_, h0⟩ | ⟨b, o, c', hv, hc, hm, hb, hcell⟩
  · rw [h0] at hn0; exact absurd rfl hn0
  obtain ⟨rfl, rfl⟩ : A = some ⟨b, o, none⟩ ∧ c = c' := by simpa using hv
  have HX := Lib.hid (fun j (hj : j < xs.length) => (⟨xs[j], List.getElem?_eq_getElem hj⟩ : ∃ x, xs[j]? = some x))
  have HNE9 : Hid (∀ j x, xs[j]? = some x → x.2.1.length ≠ 0 → ∃ (p : Nat) (y : Dd), it x.2.1 0 = (p : Int) ∧ p < xs.length ∧ xs[p]? = some y ∧ Hid (isDet xs x = dtr x.1 y.1)) := Lib.hid (fun j x hx h0 => by
    have hj := (List.getElem?_eq_some_iff.1 hx).1
    obtain ⟨h1, h2⟩ := steps_prem hfb hx (q := 0) (by omega)
    have hp : (it x.2.1 0).toNat < xs.length := by omega
    refine ⟨(it x.2.1 0).toNat, xs[(it x.2.1 0).toNat], by omega, hp, List.getElem?_eq_getElem hp, isDet_some h0 (p := (it x.2.1 0).toNat) (by omega) (List.getElem?_eq_getElem hp)⟩)
  have HN09 := Lib.hid (fun (x : Dd) h => @isDet_none xs x h)
  have HY := Lib.hid (fun j x hx h => @detL_yes xs j x hx h)
  have HO := Lib.hid (fun j x hx h => @detL_no xs j x hx h)
  have HLn := Lib.hid (fun j => detL_len xs j)
  have HZ := Lib.hid (detL_zero xs)
  have HC := Lib.hid hcell
  clear hd hfb hv hcell hf
  generalize hN : xs.length = n at *
  clear hN
  go_enter Tryz.func20, Tryz.ntmps20
  go_wp2_with fail
  refine (KD.out).mono ?_
  rintro e w1 ⟨rfl, hg1⟩
  have g1 := HAL.out.trans hg1
  clear KD HAL hg1
  go_wp2_with fail
  go_loopw [5, 18] (fun vv i wr => ∃ (j : Nat), j ≤ n ∧ i = .int .i64 j ∧ Hid (OwnI wr w.heap.size vv (detL xs j)) ∧ Grew w wr) (fun _ i _ => n - (intOf i).toNat)
  case atStart => exact ⟨0, Nat.zero_le _, rfl, by rw [HZ.out]; exact Lib.hid (OwnI.nil_ _ _), g1⟩
  clear g1
  case round =>
    obtain ⟨j, hj, rfl, hO, hB⟩ := hrel
    obtain ⟨Ah, ch, rfl⟩ := ints_slice hO.out.ints
    by_cases hlt : j < n
    · obtain ⟨x, hx⟩ := HX.out j hlt
      have HNE := Lib.hid (HNE9.out j x hx)
      have HN0 := Lib.hid (HN09.out x)
      have hyes := Lib.hid (HY.out j x hx)
      have hno := Lib.hid (HO.out j x hx)
      obtain ⟨up, ua, hcl, hup, hus⟩ := HC.out j x hx
      obtain ⟨k0, k1, k2, k3, k4⟩ := hcl.grew hb hB
      have HUP := Lib.hid hup
      obtain ⟨A1, ca1, rfl⟩ := ints_slice hup
      obtain ⟨A2, ca2, rfl⟩ := strs_slice hus
      clear hcl hup hus hx
      generalize hisd : isDet xs x = isd at *
      clear hisd
      obtain ⟨r0, rA, rs, rc, rn⟩ := x
      simp only at *
      have hljl := HLn.out j
      generalize detL xs j = Lj at *
      generalize hk9 : detL xs (j + 1) = Lk at *
      have HK9 := Lib.hid hk9
      clear hk9
      have hal : ∀ ob, Grew w (wr.alloc ob) := fun ob => hB.alloc ob
      by_cases h0 : rA.length = 0
      · have hd := Lib.hid (HN0.out h0)
        have hrA : rA = [] := List.eq_nil_of_length_eq_zero h0
        subst hrA
        clear HNE HN0 h0
        simp only [List.length_nil] at *
        have he := Lib.hid (hno.out hd.out)
        clear hyes hno
        go_wp2_with fail
        go_roundw
        case rel => exact ⟨j + 1, by omega, by go_num, by rw [HK9.out, he.out]; exact Lib.hid (hO.out.grew ((Grew.refl wr).alloc _)), hal _⟩
        case measure => simp [intOf]; omega
      have hlen0 : ((rA.length : Int) == 0) = false := by simpa using h0
      obtain ⟨p, y, hpe, hpj, hy, HD⟩ := HNE.out h0
      obtain ⟨vp, va, hcy, _, _⟩ := HC.out p y hy
      rcases HUP.out.open_ with ⟨_, h2⟩ | ⟨b1, o1, c1, hv1, hc1, hm1, hb1, hcl1⟩
      · rw [h2] at h0; exact absurd rfl h0
      obtain ⟨rfl, rfl⟩ : A1 = some ⟨b1, o1, none⟩ ∧ ca1 = c1 := by simpa using hv1
      have z1 : ∀ W, Grew w W → W.cell? ⟨b1, o1, none⟩ = some (.int .i64 p) := fun W hW => by have := hcl1 0 (by omega) W hW; rwa [hpe] at this
      have z2 : ∀ W, Grew w W → W.cell? ⟨b, o + p * 5, none⟩ = some (.int .i64 y.1) := fun W hW => (hcy.grew hb hW).1
      have hrl : 0 < rA.length := by omega
      have i0 : (0 : Int) ≤ (p : Int) := by omega
      have i1 : (p : Int) < (n : Int) := by omega
      have i2 : (0 : Int) < (rA.length : Int) := by omega
      clear hcl1 hv1 hcy hy hpe HNE HN0 h0
      generalize y.1 = m at *
      generalize rA.length = rl at *
      by_cases h4 : r0 = 4
      · subst h4
        cases hm : (m == 3) with
        | true =>
          have hd := Lib.hid (HD.out.trans (show dtr _ m = true by simp [dtr, hm]))
          have he := Lib.hid (hyes.out hd.out)
          clear hyes hno
          have hO1 : ∀ ob ob2, OwnI ((wr.alloc ob).alloc ob2) w.heap.size (.slice Ah Lj.length ch) Lj := fun ob ob2 => hO.out.grew (((Grew.refl wr).alloc ob).alloc ob2)
          have hal2 : ∀ ob ob2, Grew w ((wr.alloc ob).alloc ob2) := fun ob ob2 => (hal ob).alloc ob2
          have hlj := Lib.hid (show Lj.length ≤ 1048576 by omega)
          go_wp2_with (first | (at_builtin; refine wpList_appI (w0 := w) _ _ rfl rfl _ Lj rfl (hO1 _ _) (hal2 _ _) _ (j : Int) rfl (by first | exact rd_litI _ _ _ | exact rd_litI2 _ _ _ _) hlj.out ?_; intro v2 w2 hown2 hg2 _))
          go_roundw
          case rel => exact ⟨j + 1, by omega, by go_num, by rw [HK9.out, he.out]; exact Lib.hid hown2, hg2⟩
          case measure => simp [intOf]; omega
        | false =>
          have hd := Lib.hid (HD.out.trans (show dtr _ m = false by simp [dtr, hm]))
          have he := Lib.hid (hno.out hd.out)
          clear hyes hno
          go_wp2_with fail
          go_roundw
          case rel => exact ⟨j + 1, by omega, by go_num, by rw [HK9.out, he.out]; exact Lib.hid (hO.out.grew ((Grew.refl wr).alloc _)), hal _⟩
          case measure => simp [intOf]; omega
      by_cases h5 : r0 = 5
      · subst h5
        cases hm : (m == 3) with
        | true =>
          have hd := Lib.hid (HD.out.trans (show dtr _ m = true by simp [dtr, hm]))
          have he := Lib.hid (hyes.out hd.out)
          clear hyes hno
          have hO1 : ∀ ob ob2, OwnI ((wr.alloc ob).alloc ob2) w.heap.size (.slice Ah Lj.length ch) Lj := fun ob ob2 => hO.out.grew (((Grew.refl wr).alloc ob).alloc ob2)
          have hal2 : ∀ ob ob2, Grew w ((wr.alloc ob).alloc ob2) := fun ob ob2 => (hal ob).alloc ob2
          have hlj := Lib.hid (show Lj.length ≤ 1048576 by omega)
          go_wp2_with (first | (at_builtin; refine wpList_appI (w0 := w) _ _ rfl rfl _ Lj rfl (hO1 _ _) (hal2 _ _) _ (j : Int) rfl (by first | exact rd_litI _ _ _ | exact rd_litI2 _ _ _ _) hlj.out ?_; intro v2 w2 hown2 hg2 _))
          go_roundw
          case rel => exact ⟨j + 1, by omega, by go_num, by rw [HK9.out, he.out]; exact Lib.hid hown2, hg2⟩
          case measure => simp [intOf]; omega
        | false =>
          have hd := Lib.hid (HD.out.trans (show dtr _ m = false by simp [dtr, hm]))
          have he := Lib.hid (hno.out hd.out)
          clear hyes hno
          go_wp2_with fail
          go_roundw
          case rel => exact ⟨j + 1, by omega, by go_num, by rw [HK9.out, he.out]; exact Lib.hid (hO.out.grew ((Grew.refl wr).alloc _)), hal _⟩
          case measure => simp [intOf]; omega
      by_cases h8 : r0 = 8
      · subst h8
        cases hm : (m == 6) with
        | true =>
          have hd := Lib.hid (HD.out.trans (show dtr _ m = true by simp [dtr, hm]))
          have he := Lib.hid (hyes.out hd.out)
          clear hyes hno
          have hO1 : ∀ ob ob2, OwnI ((wr.alloc ob).alloc ob2) w.heap.size (.slice Ah Lj.length ch) Lj := fun ob ob2 => hO.out.grew (((Grew.refl wr).alloc ob).alloc ob2)
          have hal2 : ∀ ob ob2, Grew w ((wr.alloc ob).alloc ob2) := fun ob ob2 => (hal ob).alloc ob2
          have hlj := Lib.hid (show Lj.length ≤ 1048576 by omega)
          go_wp2_with (first | (at_builtin; refine wpList_appI (w0 := w) _ _ rfl rfl _ Lj rfl (hO1 _ _) (hal2 _ _) _ (j : Int) rfl (by first | exact rd_litI _ _ _ | exact rd_litI2 _ _ _ _) hlj.out ?_; intro v2 w2 hown2 hg2 _))
          go_roundw
          case rel => exact ⟨j + 1, by omega, by go_num, by rw [HK9.out, he.out]; exact Lib.hid hown2, hg2⟩
          case measure => simp [intOf]; omega
        | false =>
          cases hm2 : (m == 7) with
          | true =>
            have hd := Lib.hid (HD.out.trans (show dtr _ m = true by simp [dtr, hm, hm2]))
            have he := Lib.hid (hyes.out hd.out)
            clear hyes hno
            have hO1 : ∀ ob ob2, OwnI ((wr.alloc ob).alloc ob2) w.heap.size (.slice Ah Lj.length ch) Lj := fun ob ob2 => hO.out.grew (((Grew.refl wr).alloc ob).alloc ob2)
            have hal2 : ∀ ob ob2, Grew w ((wr.alloc ob).alloc ob2) := fun ob ob2 => (hal ob).alloc ob2
            have hlj := Lib.hid (show Lj.length ≤ 1048576 by omega)
            go_wp2_with (first | (at_builtin; refine wpList_appI (w0 := w) _ _ rfl rfl _ Lj rfl (hO1 _ _) (hal2 _ _) _ (j : Int) rfl (by first | exact rd_litI _ _ _ | exact rd_litI2 _ _ _ _) hlj.out ?_; intro v2 w2 hown2 hg2 _))
            go_roundw
            case rel => exact ⟨j + 1, by omega, by go_num, by rw [HK9.out, he.out]; exact Lib.hid hown2, hg2⟩
            case measure => simp [intOf]; omega
          | false =>
            have hd := Lib.hid (HD.out.trans (show dtr _ m = false by simp [dtr, hm, hm2]))
            have he := Lib.hid (hno.out hd.out)
            clear hyes hno
            go_wp2_with fail
            go_roundw
            case rel => exact ⟨j + 1, by omega, by go_num, by rw [HK9.out, he.out]; exact Lib.hid (hO.out.grew ((Grew.refl wr).alloc _)), hal _⟩
            case measure => simp [intOf]; omega
      by_cases h10 : r0 = 10
      · subst h10
        cases hm : (m == 9) with
        | true =>
          have hd := Lib.hid (HD.out.trans (show dtr _ m = true by simp [dtr, hm]))
          have he := Lib.hid (hyes.out hd.out)
          clear hyes hno
          have hO1 : ∀ ob ob2, OwnI ((wr.alloc ob).alloc ob2) w.heap.size (.slice Ah Lj.length ch) Lj := fun ob ob2 => hO.out.grew (((Grew.refl wr).alloc ob).alloc ob2)
          have hal2 : ∀ ob ob2, Grew w ((wr.alloc ob).alloc ob2) := fun ob ob2 => (hal ob).alloc ob2
          have hlj := Lib.hid (show Lj.length ≤ 1048576 by omega)
          go_wp2_with (first | (at_builtin; refine wpList_appI (w0 := w) _ _ rfl rfl _ Lj rfl (hO1 _ _) (hal2 _ _) _ (j : Int) rfl (by first | exact rd_litI _ _ _ | exact rd_litI2 _ _ _ _) hlj.out ?_; intro v2 w2 hown2 hg2 _))
          go_roundw
          case rel => exact ⟨j + 1, by omega, by go_num, by rw [HK9.out, he.out]; exact Lib.hid hown2, hg2⟩
          case measure => simp [intOf]; omega
        | false =>
          have hd := Lib.hid (HD.out.trans (show dtr _ m = false by simp [dtr, hm]))
          have he := Lib.hid (hno.out hd.out)
          clear hyes hno
          go_wp2_with fail
          go_roundw
          case rel => exact ⟨j + 1, by omega, by go_num, by rw [HK9.out, he.out]; exact Lib.hid (hO.out.grew ((Grew.refl wr).alloc _)), hal _⟩
          case measure => simp [intOf]; omega
      have e4 : (r0 == 4) = false := by simpa using h4
      have e5 : (r0 == 5) = false := by simpa using h5
      have e8 : (r0 == 8) = false := by simpa using h8
      have e10 : (r0 == 10) = false := by simpa using h10
      have hd := Lib.hid (HD.out.trans (show dtr r0 m = false by unfold dtr; rw [if_neg (by omega), if_neg h8, if_neg h10]))
      clear h4 h5 h8 h10
      have he := Lib.hid (hno.out hd.out)
      clear hyes hno
      go_wp2_with fail
      go_roundw
      case rel => exact ⟨j + 1, by omega, by go_num, by rw [HK9.out, he.out]; exact Lib.hid (hO.out.grew ((Grew.refl wr).alloc _)), hal _⟩
      case measure => simp [intOf]; omega
    · obtain rfl : j = n := by omega
      go_wp2_with fail
      go_ret2
      exact ⟨_, rfl, hO.out, hB⟩
set_option maxHeartbeats 8000000 in
theorem l25Detour_c (v : Value) (xs : List Dd) (j : Nat) (x : Dd) (w : World) (hv : Dds w v xs) (hx : xs[j]? = some x) (hNE : x.2.1.length ≠ 0 → ∃ (p : Nat) (y : Dd), it x.2.1 0 = (p : Int) ∧ p < xs.length ∧ xs[p]? = some y ∧ Hid (isDet xs x = dtr x.1 y.1)) :
    Calls Tryz.prog 45 #[v, .int .i64 j] w fun e w' => e = .returned (.bool (isDet xs x)) ∧ Grew w w' := by
  have hjl := (List.getElem?_eq_some_iff.1 hx).1
  rcases hv with ⟨_, h0⟩ | ⟨b, o, c, rfl, hc, hm, hb, hcell⟩
  · rw [h0] at hjl; cases hjl
  have HC := Lib.hid hcell
  have HNE := Lib.hid hNE
  have HN0 := Lib.hid (@isDet_none xs x)
  obtain ⟨up, ua, hcl, hup, hus⟩ := HC.out j x hx
  have k0 := fun W (hW : Grew w W) => (hcl.grew hb hW).1
  have k1 := fun W (hW : Grew w W) => (hcl.grew hb hW).2.1
  have q0 := k0 _ (Grew.refl w)
  have q1 := k1 _ (Grew.refl w)
  have HUP := Lib.hid hup
  obtain ⟨A1, ca1, rfl⟩ := ints_slice hup
  clear hcl hup hus hx hcell hNE
  generalize hisd : isDet xs x = isd at *
  clear hisd
  obtain ⟨r0, rA, rs, rc, rn⟩ := x
  simp only at *
  generalize hN : xs.length = n at *
  clear hN
  have hj0 : (0 : Int) ≤ (j : Int) := by omega
  have hj1 : (j : Int) < (n : Int) := by omega
  have gr := Grew.refl w
  by_cases h0 : rA.length = 0
  · have hd := Lib.hid (HN0.out h0)
    have hrA : rA = [] := List.eq_nil_of_length_eq_zero h0
    subst hrA
    clear HNE HN0 h0
    simp only [List.length_nil] at *
    go_enter Tryz.func45, Tryz.ntmps45
    go_wp2_with fail
    go_ret
    exact ⟨by rw [hd.out]; first | rfl | simp, Grew.refl _⟩
  have hlen0 : ((rA.length : Int) == 0) = false := by simpa using h0
  obtain ⟨p, y, hpe, hpj, hy, HD⟩ := HNE.out h0
  obtain ⟨vp, va, hcy, _, _⟩ := HC.out p y hy
  rcases HUP.out.open_ with ⟨_, h2⟩ | ⟨b1, o1, c1, hv1, hc1, hm1, hb1, hcl1⟩
  · rw [h2] at h0; exact absurd rfl h0
  obtain ⟨rfl, rfl⟩ : A1 = some ⟨b1, o1, none⟩ ∧ ca1 = c1 := by simpa using hv1
  have z1 : ∀ W, Grew w W → W.cell? ⟨b1, o1, none⟩ = some (.int .i64 p) := fun W hW => by have := hcl1 0 (by omega) W hW; rwa [hpe] at this
  have z2 : ∀ W, Grew w W → W.cell? ⟨b, o + p * 5, none⟩ = some (.int .i64 y.1) := fun W hW => (hcy.grew hb hW).1
  have hrl : 0 < rA.length := by omega
  have i0 : (0 : Int) ≤ (p : Int) := by omega
  have i1 : (p : Int) < (n : Int) := by omega
  have i2 : (0 : Int) < (rA.length : Int) := by omega
  have y1 := z1 _ gr
  have y2 := z2 _ gr
  clear hcl1 hv1 hcy hy hpe HNE HN0 h0
  generalize y.1 = m at *
  generalize rA.length = rl at *
  by_cases h4 : r0 = 4
  · subst h4
    cases hm : (m == 3) with
    | true =>
      have hd := Lib.hid (HD.out.trans (show dtr _ m = true by simp [dtr, hm]))
      go_enter Tryz.func45, Tryz.ntmps45
      go_wp2_with fail
      go_ret
      exact ⟨by rw [hd.out]; first | rfl | simp, Grew.refl _⟩
    | false =>
      have hd := Lib.hid (HD.out.trans (show dtr _ m = false by simp [dtr, hm]))
      go_enter Tryz.func45, Tryz.ntmps45
      go_wp2_with fail
      go_ret
      exact ⟨by rw [hd.out]; first | rfl | simp, Grew.refl _⟩
  by_cases h5 : r0 = 5
  · subst h5
    cases hm : (m == 3) with
    | true =>
      have hd := Lib.hid (HD.out.trans (show dtr _ m = true by simp [dtr, hm]))
      go_enter Tryz.func45, Tryz.ntmps45
      go_wp2_with fail
      go_ret
      exact ⟨by rw [hd.out]; first | rfl | simp, Grew.refl _⟩
    | false =>
      have hd := Lib.hid (HD.out.trans (show dtr _ m = false by simp [dtr, hm]))
      go_enter Tryz.func45, Tryz.ntmps45
      go_wp2_with fail
      go_ret
      exact ⟨by rw [hd.out]; first | rfl | simp, Grew.refl _⟩
  by_cases h8 : r0 = 8
  · subst h8
    cases hm : (m == 6) with
    | true =>
      have hd := Lib.hid (HD.out.trans (show dtr _ m = true by simp [dtr, hm]))
      go_enter Tryz.func45, Tryz.ntmps45
      go_wp2_with fail
      go_ret
      exact ⟨by rw [hd.out]; first | rfl | simp, Grew.refl _⟩
    | false =>
      cases hm2 : (m == 7) with
      | true =>
        have hd := Lib.hid (HD.out.trans (show dtr _ m = true by simp [dtr, hm, hm2]))
        go_enter Tryz.func45, Tryz.ntmps45
        go_wp2_with fail
        go_ret
        exact ⟨by rw [hd.out]; first | rfl | simp, Grew.refl _⟩
      | false =>
        have hd := Lib.hid (HD.out.trans (show dtr _ m = false by simp [dtr, hm, hm2]))
        go_enter Tryz.func45, Tryz.ntmps45
        go_wp2_with fail
        go_ret
        exact ⟨by rw [hd.out]; first | rfl | simp, Grew.refl _⟩
  by_cases h10 : r0 = 10
  · subst h10
    cases hm : (m == 9) with
    | true =>
      have hd := Lib.hid (HD.out.trans (show dtr _ m = true by simp [dtr, hm]))
      go_enter Tryz.func45, Tryz.ntmps45
      go_wp2_with fail
      go_ret
      exact ⟨by rw [hd.out]; first | rfl | simp, Grew.refl _⟩
    | false =>
      have hd := Lib.hid (HD.out.trans (show dtr _ m = false by simp [dtr, hm]))
      go_enter Tryz.func45, Tryz.ntmps45
      go_wp2_with fail
      go_ret
      exact ⟨by rw [hd.out]; first | rfl | simp, Grew.refl _⟩
  have e4 : (r0 == 4) = false := by simpa using h4
  have e5 : (r0 == 5) = false := by simpa using h5
  have e8 : (r0 == 8) = false := by simpa using h8
  have e10 : (r0 == 10) = false := by simpa using h10
  have hd := Lib.hid (HD.out.trans (show dtr r0 m = false by unfold dtr; rw [if_neg (by omega), if_neg h8, if_neg h10]))
  clear h4 h5 h8 h10
  go_enter Tryz.func45, Tryz.ntmps45
  go_wp2_with fail
  go_ret
  exact ⟨by rw [hd.out]; first | rfl | simp, Grew.refl _⟩
set_option maxHeartbeats 4000000 in
theorem specDet_c (v : Value) (xs : List Dd) (w : World) (hv : Dds w v xs) (hf : FitsDd xs) (_hn : xs.length ≤ 1048576) :
    Calls Tryz.prog 19 #[v] w (GivesDet w (detF xs)) := by
  unfold GivesDet detF
  obtain ⟨A, c, rfl⟩ := Dds_slice hv
  have KD := Lib.hid (l25Code_c _ [xs] _ (DdL.one (T := 27) hv) (fun i hi => by obtain rfl : i = 0 := (by simpa using hi); exact hf) (by simp))
  have HAL := Lib.hid ((Grew.refl w).alloc (.cells #[.slice A xs.length c] 27))
  by_cases hd : dcode [xs] = 0
  case neg =>
    rw [if_neg hd]
    have e0 : (dcode [xs] == 0) = false := by simpa using hd
    clear hv hf hd
    generalize dcode [xs] = d at *
    go_enter Tryz.func19, Tryz.ntmps19
    go_wp2_with fail
    refine (KD.out).mono ?_
    rintro e w1 ⟨rfl, hg1⟩
    go_wp2_with fail
    go_ret2
    exact ⟨_, rfl, OwnI.nil_ _ _, HAL.out.trans hg1⟩
  rw [if_pos hd]
  rw [hd] at KD
  obtain ⟨hn0, hn1, hfb⟩ := dcode_zero hd
  have HX := Lib.hid (fun j (hj : j < xs.length) => (⟨xs[j], List.getElem?_eq_getElem hj⟩ : ∃ x, xs[j]? = some x))
  have KT := Lib.hid (fun j x (hx : xs[j]? = some x) W (hW : Grew w W) => l25Detour_c _ xs j x W (hv.grew hW) hx (fun h0 => by
    have hj := (List.getElem?_eq_some_iff.1 hx).1
    obtain ⟨h1, h2⟩ := steps_prem hfb hx (q := 0) (by omega)
    have hp : (it x.2.1 0).toNat < xs.length := by omega
    exact ⟨(it x.2.1 0).toNat, xs[(it x.2.1 0).toNat], by omega, hp, List.getElem?_eq_getElem hp, isDet_some h0 (p := (it x.2.1 0).toNat) (by omega) (List.getElem?_eq_getElem hp)⟩))
  have HY := Lib.hid (fun j x hx h => @detL_yes xs j x hx h)
  have HO := Lib.hid (fun j x hx h => @detL_no xs j x hx h)
  have HLn := Lib.hid (fun j => detL_len xs j)
  have HZ := Lib.hid (detL_zero xs)
  clear hd hfb hv hf
  generalize hN : xs.length = n at *
  clear hN
  go_enter Tryz.func19, Tryz.ntmps19
  go_wp2_with fail
  refine (KD.out).mono ?_
  rintro e w1 ⟨rfl, hg1⟩
  have g1 := HAL.out.trans hg1
  have he1 := Lib.hid ((own_emptyI w1).base g1.size)
  have ga1 := g1.alloc (.cells #[] 2)
  clear KD HAL hg1
  go_wp2_with fail
  go_loopw [5, 6] (fun vv i wr => ∃ (j : Nat), j ≤ n ∧ i = .int .i64 j ∧ Hid (OwnI wr w.heap.size vv (detL xs j)) ∧ Grew w wr) (fun _ i _ => n - (intOf i).toNat)
  case atStart => exact ⟨0, Nat.zero_le _, rfl, by rw [HZ.out]; exact he1, ga1⟩
  clear g1 he1 ga1
  case round =>
    obtain ⟨j, hj, rfl, hO, hB⟩ := hrel
    obtain ⟨Ah, ch, rfl⟩ := ints_slice hO.out.ints
    by_cases hlt : j < n
    · obtain ⟨x, hx⟩ := HX.out j hlt
      have hyes := Lib.hid (HY.out j x hx)
      have hno := Lib.hid (HO.out j x hx)
      have kt := Lib.hid (KT.out j x hx _ hB)
      clear hx
      have hljl := HLn.out j
      generalize detL xs j = Lj at *
      generalize hk9 : detL xs (j + 1) = Lk at *
      have HK9 := Lib.hid hk9
      clear hk9
      have hlj := Lib.hid (show Lj.length ≤ 1048576 by omega)
      cases hisd : isDet xs x with
      | true =>
        rw [hisd] at kt
        have he := Lib.hid (hyes.out hisd)
        clear hyes hno hisd
        go_wp2_with fail
        refine (kt.out).mono ?_
        rintro e w2 ⟨rfl, hg2⟩
        have hO1 := (hO.out.grew hg2).grew ((Grew.refl w2).alloc (.cells #[.int .i64 j] 2))
        have g2 := hB.trans hg2
        go_wp2_with (first | (at_builtin; refine wpList_appI (w0 := w) _ _ rfl rfl _ Lj rfl hO1 (g2.alloc _) _ (j : Int) rfl (by first | exact rd_litI _ _ _ | exact rd_litI2 _ _ _ _) hlj.out ?_; intro v3 w3 hown3 hg3 _))
        go_roundw
        case rel => exact ⟨j + 1, by omega, by go_num, by rw [HK9.out, he.out]; exact Lib.hid hown3, hg3⟩
        case measure => simp [intOf]; omega
      | false =>
        rw [hisd] at kt
        have he := Lib.hid (hno.out hisd)
        clear hyes hno hisd
        go_wp2_with fail
        refine (kt.out).mono ?_
        rintro e w2 ⟨rfl, hg2⟩
        have hO1 := Lib.hid (hO.out.grew hg2)
        go_wp2_with fail
        go_roundw
        case rel => exact ⟨j + 1, by omega, by go_num, by rw [HK9.out, he.out]; exact hO1, hB.trans hg2⟩
        case measure => simp [intOf]; omega
    · obtain rfl : j = n := by omega
      go_wp2_with fail
      go_ret2
      exact ⟨_, rfl, hO.out, hB⟩
end Go.Proofs.YtofeeenjlaljpaaGreat

/- The law FnExactDetoursOf, walked. -/
namespace Go.Proofs.YtofeeenjlaljpaaGreat
open Go.RowKit

theorem lawDet_c (v0 : Value) (L0 : List Dd) (w : World) (h0 : ArgDd w v0 L0) :
    Calls Tryz.prog 4 #[v0] w fun e w' => e = .returned (.bool true) ∧ Grew w w' := by
  have Z0 := Lib.hid (fun W l (hW : Grew w W) (a0 : 0 ≤ l) (a1 : l ≤ 1048576) => szDeductionS_c v0 L0 l W (h0.grew hW) a0 a1)
  have T0 := Lib.hid (fun W (hW : Grew w W) => toDeductionS_x v0 L0 W (h0.grew hW))
  clear h0
  go_enter Tryz.func4, Tryz.ntmps4
  go_wp2_with fail
  refine (Z0.out _ _ (Grew.refl w) (by omega) (by omega)).mono ?_
  rintro e w1 ⟨r0, rfl, ⟨hm0, hs0⟩, hg1⟩
  have z1 := Lib.hid hg1.size
  have g1 : Grew w w1 := (Grew.refl w).trans hg1
  clear hg1
  by_cases hr0 : r0 < 0
  · clear hs0
    go_wp2_with fail
    go_ret
    exact ⟨rfl, g1⟩
  obtain ⟨hn0, hf0⟩ := hs0 (by omega)
  have F0 : Hid (FitsDd L0) := Lib.hid hf0
  clear hs0 hf0
  have KS := Lib.hid (fun u0 W x0 => specDet_c u0 L0 W x0 F0.out (by omega))
  have KI := Lib.hid (fun u0 W x0 => implDet_c u0 L0 W x0 F0.out (by omega))
  have hlen := detF_len (xs := L0) (by omega)
  generalize detF L0 = rr at *
  obtain ⟨xs, c⟩ := rr
  simp only at hlen
  unfold GivesDet at KS KI
  simp only at KS KI
  have hcc : (c != c) = false := by simp
  go_wp2_with fail
  refine (T0.out _ g1 hn0 F0.out).mono ?_
  rintro e w2 ⟨a0, rfl, oa0, hg2⟩
  have z2 := Lib.hid hg2.size
  have g2 : Grew w w2 := g1.trans hg2
  clear hg2
  go_wp2_with fail
  refine (KS.out _ _ oa0.rd).mono ?_
  rintro e w3 ⟨q0, rfl, hq, hg3⟩
  have HQB := Lib.hid (fun g (hg : q0.ownBlock = some g) => (hq.lt g hg).2)
  have z3 := Lib.hid hg3.size
  have g3 : Grew w w3 := g2.trans hg3
  clear hg3 oa0
  go_wp2_with fail
  refine (T0.out _ g3 hn0 F0.out).mono ?_
  rintro e w4 ⟨x0, rfl, ox0, hg4⟩
  have z4 := Lib.hid hg4.size
  have g4 : Grew w w4 := g3.trans hg4
  replace hq := hq.grew hg4
  clear hg4
  go_wp2_with fail
  refine (KI.out _ _ ox0.rd).mono ?_
  rintro e w5 ⟨g0, rfl, hog, hg5⟩
  have HGB := Lib.hid (fun g (hg : g0.ownBlock = some g) => (hog.lt g hg).1)
  have z5 := Lib.hid hg5.size
  have g5 : Grew w w5 := g4.trans hg5
  replace hq := hq.grew hg5
  replace ox0 := ox0.grew hg5
  clear hg5
  go_wp2_with fail
  refine (eqInt64S_yes _ _ xs _ hog.ints hq.ints (by omega)).mono ?_
  rintro e w6 ⟨rfl, hg6⟩
  have z6 := Lib.hid hg6.size
  have g6 : Grew w w6 := g5.trans hg6
  replace hq := hq.grew hg6
  replace ox0 := ox0.grew hg6
  replace hog := hog.grew hg6
  clear hg6
  go_wp2_with fail
  refine (T0.out _ g6 hn0 F0.out).mono ?_
  rintro e w7 ⟨y0, rfl, oy0, hg7⟩
  have z7 := Lib.hid hg7.size
  have g7 : Grew w w7 := g6.trans hg7
  replace hq := hq.grew hg7
  replace ox0 := ox0.grew hg7
  replace hog := hog.grew hg7
  clear hg7
  go_wp2_with fail
  refine (eqDeductionS_yes _ _ L0 _ ox0.rd oy0.rd (by omega) F0.out).mono ?_
  rintro e w8 ⟨rfl, hg8⟩
  have z8 := Lib.hid hg8.size
  have g8 : Grew w w8 := g7.trans hg8
  replace hq := hq.grew hg8
  replace ox0 := ox0.grew hg8
  replace hog := hog.grew hg8
  clear hg8 oy0
  have hdk0 := dk_le (k := 1) F0.out L0.length (Nat.le_refl _)
  go_wp2_with fail
  refine (markDeductionS_x _ L0 _ _ (1) _ ox0 F0.out (by omega) (by omega) (by omega)).mono ?_
  rintro e w9 ⟨rfl, _, hsp⟩
  replace hq : OwnI w9 _ q0 xs := hsp.own hq (fun g hg => .inl (by have h1 := HQB.out g hg; have y1 := z1.out; have y2 := z2.out; have y3 := z3.out; have y4 := z4.out; omega))
  replace hog : OwnI w9 _ g0 xs := hsp.own hog (fun g hg => .inr (by have h1 := HGB.out g hg; have y1 := z1.out; have y2 := z2.out; have y3 := z3.out; have y4 := z4.out; omega))
  have g9 : Grew w w9 := hsp.old g8 (by have y1 := z1.out; have y2 := z2.out; have y3 := z3.out; have y4 := z4.out; omega)
  clear hsp ox0
  generalize hkk0 : dk 1 L0 L0.length = kk0 at *
  clear hkk0
  go_wp2_with fail
  refine (eqInt64S_yes _ _ xs _ hog.ints hq.ints (by omega)).mono ?_
  rintro e w10 ⟨rfl, hg10⟩
  have z10 := Lib.hid hg10.size
  have g10 : Grew w w10 := g9.trans hg10
  replace hq := hq.grew hg10
  replace hog := hog.grew hg10
  clear hg10
  go_wp2_with fail
  refine (markInt64S_m _ xs _ 1 _ hog (by omega) (by omega) (by omega)).mono ?_
  rintro e w11 ⟨rfl, hog, hrow⟩
  replace hq : OwnI w11 _ q0 xs := own_row hq hrow (fun g hg hg2 => by have h1 := HQB.out g hg2; have h2 := HGB.out g hg; have y1 := z1.out; have y2 := z2.out; have y3 := z3.out; have y4 := z4.out; omega)
  have g11 : Grew w w11 := grew_row g10 hrow (fun g hg => by have h2 := HGB.out g hg; have y1 := z1.out; have y2 := z2.out; have y3 := z3.out; have y4 := z4.out; omega)
  clear hrow
  go_wp2_with fail
  refine (heldInt64S_c _ xs.length 1 _ hog.ints (by omega) (by omega) (by omega)).mono ?_
  rintro e w12 ⟨rfl, hg12⟩
  have z12 := Lib.hid hg12.size
  have g12 : Grew w w12 := g11.trans hg12
  replace hq := hq.grew hg12
  replace hog := hog.grew hg12
  clear hg12
  go_wp2_with fail
  refine (T0.out _ g12 hn0 F0.out).mono ?_
  rintro e w13 ⟨b0, rfl, ob0, hg13⟩
  have z13 := Lib.hid hg13.size
  have g13 : Grew w w13 := g12.trans hg13
  replace hq := hq.grew hg13
  replace hog := hog.grew hg13
  clear hg13
  go_wp2_with fail
  refine (KI.out _ _ ob0.rd).mono ?_
  rintro e w14 ⟨h0, rfl, hoh, hg14⟩
  have z14 := Lib.hid hg14.size
  have g14 : Grew w w14 := g13.trans hg14
  replace hq := hq.grew hg14
  replace hog := hog.grew hg14
  clear hg14
  go_wp2_with fail
  refine (eqInt64S_yes _ _ xs _ hoh.ints hq.ints (by omega)).mono ?_
  rintro e w15 ⟨rfl, hg15⟩
  have z15 := Lib.hid hg15.size
  have g15 : Grew w w15 := g14.trans hg15
  replace hq := hq.grew hg15
  replace hog := hog.grew hg15
  replace hoh := hoh.grew hg15
  clear hg15
  go_wp2_with fail
  refine (heldInt64S_c _ xs.length 1 _ hog.ints (by omega) (by omega) (by omega)).mono ?_
  rintro e w16 ⟨rfl, hg16⟩
  go_wp2_with fail
  go_ret
  exact ⟨rfl, g15.trans hg16⟩
end Go.Proofs.YtofeeenjlaljpaaGreat

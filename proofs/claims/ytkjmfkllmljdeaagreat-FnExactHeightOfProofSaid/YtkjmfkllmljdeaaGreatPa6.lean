/- Texts in one file: JsC JsB JsF IntLaw IntEq Make JfTo JfTo2 JfSz LawFi Args ArgsI ArgJf JhCo JhPl JhT JhA AppI JhS LawHp Rc JfX MarkText MarkS MarkSW. -/
import Derived.Deep.OwnRows
import Derived.Deep.Strs
import Derived.Lib.SmallJoins
import Derived.Carry
import Derived.ProofKit
import Derived.Deep.SlicePairs
import Derived.BigRegion
import Derived.Deep.RegionHeld3
import Derived.Deep.LoopGhost
import Derived.WalkLawsBesides
import Derived.Laws.BytesArg
import Derived.Test.YtkjmfkllmljdeaaGreatPa1
import Derived.Test.YtkjmfkllmljdeaaGreatPa2
import Derived.Test.YtkjmfkllmljdeaaGreatPa3
import Derived.Test.YtkjmfkllmljdeaaGreatPa4
import Derived.Test.YtkjmfkllmljdeaaGreatPa5
set_option linter.all false

/- l22Correct of the reference. -/
namespace Go.Proofs.YtkjmfkllmljdeaaGreat
open Go.RowKit

def preJ (bef : List Jf) (P : List Int) (n : Nat) : List Jf := (P.take n).map fun k => bef.getD k.toNat (0, [], [], ByteArray.empty, ByteArray.empty)
theorem preJ_map (bef : List Jf) (P : List Int) (n : Nat) : (preJ bef P n).map js = givenM bef P n := by unfold preJ givenM givenJ; rw [List.map_map]; rfl
theorem preJ_succ {bef : List Jf} {P : List Int} {n m : Nat} {y : Jf} (hn : n < P.length) (hm : it P n = (m : Int)) (hy : bef[m]? = some y) : preJ bef P (n + 1) = preJ bef P n ++ [y] := by
  unfold preJ
  rw [List.take_succ_eq_append_getElem hn, List.map_append, List.map_singleton, it_get hn, hm, Int.toNat_natCast]
  simp [List.getD, hy]
theorem preJ_len (bef : List Jf) (P : List Int) (n : Nat) : (preJ bef P n).length ≤ P.length := by unfold preJ; simp; omega
theorem preJ_all (bef : List Jf) (P : List Int) : (preJ bef P P.length).length = P.length := by unfold preJ; simp

set_option maxHeartbeats 8000000 in
set_option maxRecDepth 8192 in
theorem l22Correct_c (v : Value) (xs : List Jf) (k : Nat) (x : Jf) (w : World) (hv : Jfs w v xs) (hx : xs[k]? = some x) (hfx : FitJf x) (_hl : xs.length ≤ 1000) :
    Calls Tryz.prog 32 #[v, .int .i64 k] w fun e w' => e = .returned (.bool (dcd (goodJ (xs.take k) x))) ∧ Grew w w' := by
  have hlt := (List.getElem?_eq_some_iff.1 hx).1
  obtain ⟨b, o, c, rfl, hc, hm, hcell⟩ : ∃ b o c, v = .slice (some ⟨b, o, none⟩) xs.length c ∧ xs.length ≤ c ∧ c ≤ 9223372036854775807 ∧ (b < w.heap.size ∧ ∀ i x, xs[i]? = some x → ∃ up ua, JfCells w b (o + i * 5) x up ua ∧ Ints w up x.2.1 ∧ Strs w ua x.2.2.1) := by
    rcases hv with ⟨_, h0⟩ | ⟨b, o, c, hv, hc, hm, hb, hcell⟩
    · rw [h0] at hlt; simp at hlt
    · exact ⟨b, o, c, hv, hc, hm, hb, hcell⟩
  obtain ⟨hbb, hcell⟩ := hcell
  obtain ⟨up, ua, hcl, hup, hs⟩ := hcell k x hx
  obtain ⟨k0, k1, k2, k3, k4⟩ := hcl
  have hbl : (xs.take k).length = k := by simp; omega
  have HC := Lib.hid hcell
  have HBL := Lib.hid hbl
  have HS := Lib.hid hs
  have HUP := Lib.hid hup
  have HTK : Hid (∀ (m : Nat) (y : Jf), m < k → xs[m]? = some y → (xs.take k)[m]? = some y) := Lib.hid (fun m y h1 h2 => by rw [List.getElem?_take, if_pos h1]; exact h2)
  generalize xs.take k = bef at *
  have hpl := hfx.1
  have hsc : x.2.2.2.1.size ≤ 1048576 := hfx.2.2.2.1
  have hsm : x.2.2.2.2.size ≤ 1048576 := hfx.2.2.2.2
  have KN := Lib.hid (fun W => l22Counts_c x.1 W)
  have KU := fun W => l22Uses_c x.1 W
  have KI := fun W (hW : Grew w W) => l22Is_c ua x.2.2.1 x.2.2.2.1 W (hs.grew hW) hfx.2.2.1 hfx.2.1 (by omega)
  rw [show (gp x.2.2.2.1 && (ascP x.2.2.1 && decide (x.2.2.1.length ≤ 12))) = sqB x.2.2.1 x.2.2.2.1 from rfl] at KI
  obtain ⟨A, cP, rfl⟩ := ints_slice hup
  obtain ⟨UA, ca, rfl⟩ := strs_slice hs
  have hal := (Grew.refl w).alloc (.cells #[.int .i64 x.1, .slice A x.2.1.length cP, .slice UA x.2.2.1.length ca, .string x.2.2.2.1, .string x.2.2.2.2] 42)
  have hgl : goodJ bef x → (((x.2.1.length : Nat) : Int) = cntJ x.1 ∧ sqB x.2.2.1 x.2.2.2.1 = true ∧ (usesJ x.1 = true ∨ x.2.2.2.2 = ByteArray.empty)) := fun h => ⟨by rw [← okJ_cnt h.2.2]; simp [givenJ], h.1, okJ_uses h.2.2⟩
  have f0 : ∀ W, Grew (w.alloc (.cells #[.int .i64 x.1, .slice A x.2.1.length cP, .slice UA x.2.2.1.length ca, .string x.2.2.2.1, .string x.2.2.2.2] 42)) W → W.cell? ⟨w.heap.size, 0, none⟩ = some (.int .i64 x.1) := fun W hW => (hW.cell (p := ⟨w.heap.size, 0, none⟩) (by simp)).trans (by simp)
  have f1 : ∀ W, Grew (w.alloc (.cells #[.int .i64 x.1, .slice A x.2.1.length cP, .slice UA x.2.2.1.length ca, .string x.2.2.2.1, .string x.2.2.2.2] 42)) W → W.cell? ⟨w.heap.size, 1, none⟩ = some (.slice A x.2.1.length cP) := fun W hW => (hW.cell (p := ⟨w.heap.size, 1, none⟩) (by simp)).trans (by simp)
  have f2 : ∀ W, Grew (w.alloc (.cells #[.int .i64 x.1, .slice A x.2.1.length cP, .slice UA x.2.2.1.length ca, .string x.2.2.2.1, .string x.2.2.2.2] 42)) W → W.cell? ⟨w.heap.size, 2, none⟩ = some (.slice UA x.2.2.1.length ca) := fun W hW => (hW.cell (p := ⟨w.heap.size, 2, none⟩) (by simp)).trans (by simp)
  have f3 : ∀ W, Grew (w.alloc (.cells #[.int .i64 x.1, .slice A x.2.1.length cP, .slice UA x.2.2.1.length ca, .string x.2.2.2.1, .string x.2.2.2.2] 42)) W → W.cell? ⟨w.heap.size, 3, none⟩ = some (.string x.2.2.2.1) := fun W hW => (hW.cell (p := ⟨w.heap.size, 3, none⟩) (by simp)).trans (by simp)
  have f4 : ∀ W, Grew (w.alloc (.cells #[.int .i64 x.1, .slice A x.2.1.length cP, .slice UA x.2.2.1.length ca, .string x.2.2.2.1, .string x.2.2.2.2] 42)) W → W.cell? ⟨w.heap.size, 4, none⟩ = some (.string x.2.2.2.2) := fun W hW => (hW.cell (p := ⟨w.heap.size, 4, none⟩) (by simp)).trans (by simp)
  generalize hwb : w.alloc (.cells #[.int .i64 x.1, .slice A x.2.1.length cP, .slice UA x.2.2.1.length ca, .string x.2.2.2.1, .string x.2.2.2.2] 42) = wb at *
  have rb := Grew.refl wb
  have rbd := rb.drew
  replace hwb := hwb.symm
  clear hv hcell hup hs hbl hx hfx
  by_cases hn : cntJ x.1 = ((x.2.1.length : Nat) : Int)
  · have en : ((x.2.1.length : Int) != cntJ x.1) = false := by rw [hn]; simp
    cases hsq : sqB x.2.2.1 x.2.2.2.1 with
    | true =>
      rw [hsq] at KI
      replace KI := Lib.hid KI
      by_cases hM : x.2.2.2.2 = ByteArray.empty
      · have hus : usesJ x.1 = true ∨ x.2.2.2.2 = ByteArray.empty := .inr hM
        have he : x.2.2.2.2.toList.isEmpty = true := by rw [hM]; exact empty_yes
        obtain ⟨D0, hD0⟩ : ∃ D0, D0 = dcd (goodJ bef x) := ⟨_, rfl⟩
        rw [← hD0]
        have HD0 := Lib.hid hD0
        replace hsq := Lib.hid hsq
        replace hus := Lib.hid hus
        replace KU := Lib.hid KU
        clear hM hD0 hgl
        go_enter Tryz.func32, Tryz.ntmps32
        go_wp2_with fail
        rw [← hwb]
        clear hwb
        refine wp_region_held_drew (S := fun w' => Grew wb w') (by kernel_rfl) rbd (fun hHeld => ?_)
        refine wpAnyH_take (i := 0) (oi := ?on1) (v := ?vn1) ?hin1 ?an1 ?bn1 ?cn1 ?qn1 (Or.inl ⟨?dn1, ?hyn1⟩) hHeld ?restn1
        case hin1 => (simp only [List.getElem?_toArray, List.getElem?_cons_zero]; exact rfl)
        case an1 => kernel_rfl
        case bn1 => kernel_rfl
        case cn1 => kernel_rfl
        case qn1 => exact fun _ _ _ h => h
        case dn1 => rfl
        case hyn1 => (intro z hSw; (try dsimp only at hSw); go_simp; (try with_reducible rfl))
        try simp only [Act.put, List.setIfInBounds_toArray, List.set_cons_zero, List.set_cons_succ]
        refine wpAnyH_take (i := 1) (oi := ?on2) (v := ?vn2) ?hin2 ?an2 ?bn2 ?cn2 ?qn2 (Or.inl ⟨?dn2, ?hyn2⟩) hHeld ?restn2
        case hin2 => (simp only [List.getElem?_toArray, List.getElem?_cons_succ, List.getElem?_cons_zero]; exact rfl)
        case an2 => kernel_rfl
        case bn2 => kernel_rfl
        case cn2 => kernel_rfl
        case qn2 => exact fun _ _ _ h => h
        case dn2 => rfl
        case hyn2 => (intro z hSw; (try dsimp only at hSw); go_simp; (try with_reducible rfl))
        try simp only [Act.put, List.setIfInBounds_toArray, List.set_cons_zero, List.set_cons_succ]
        refine wpAnyH_take (i := 2) (oi := ?on3) (v := ?vn3) ?hin3 ?an3 ?bn3 ?cn3 ?qn3 (Or.inl ⟨?dn3, ?hyn3⟩) hHeld ?restn3
        case hin3 => (simp only [List.getElem?_toArray, List.getElem?_cons_succ, List.getElem?_cons_zero]; exact rfl)
        case an3 => kernel_rfl
        case bn3 => kernel_rfl
        case cn3 => kernel_rfl
        case qn3 => exact fun _ _ _ h => h
        case dn3 => rfl
        case hyn3 => (intro z hSw; (try dsimp only at hSw); go_simp; (try with_reducible rfl))
        try simp only [Act.put, List.setIfInBounds_toArray, List.set_cons_zero, List.set_cons_succ]
        refine wpAnyH_take (i := 3) (oi := ?on4) (v := ?vn4) ?hin4 ?an4 ?bn4 ?cn4 ?qn4 (Or.inl ⟨?dn4, ?hyn4⟩) hHeld ?restn4
        case hin4 => (simp only [List.getElem?_toArray, List.getElem?_cons_succ, List.getElem?_cons_zero]; exact rfl)
        case an4 => kernel_rfl
        case bn4 => kernel_rfl
        case cn4 => kernel_rfl
        case qn4 => exact fun _ _ _ h => h
        case dn4 => rfl
        case hyn4 => (intro z hSw; (try dsimp only at hSw); go_simp; (try with_reducible rfl))
        try simp only [Act.put, List.setIfInBounds_toArray, List.set_cons_zero, List.set_cons_succ]
        refine wpAnyH_take (i := 4) (oi := ?on5) (v := ?vn5) ?hin5 ?an5 ?bn5 ?cn5 ?qn5 (Or.inl ⟨?dn5, ?hyn5⟩) hHeld ?restn5
        case hin5 => (simp only [List.getElem?_toArray, List.getElem?_cons_succ, List.getElem?_cons_zero]; exact rfl)
        case an5 => kernel_rfl
        case bn5 => kernel_rfl
        case cn5 => kernel_rfl
        case qn5 => exact fun _ _ _ h => h
        case dn5 => rfl
        case hyn5 => (intro z hSw; (try dsimp only at hSw); go_simp; (try with_reducible rfl))
        try simp only [Act.put, List.setIfInBounds_toArray, List.set_cons_zero, List.set_cons_succ]
        refine wpAnyH_ready (rs := [5]) (by kernel_rfl) (by simp) ?_
        refine AllReadyH.cons (o := ?on6) ?hin6 ?restn6 AllReadyH.nil
        case hin6 => (simp only [List.getElem?_toArray, List.getElem?_cons_succ, List.getElem?_cons_zero]; exact rfl)
        intro K hK
        go_simp
        go_at_call 40
        refine (KN.out _).mono ?_
        rintro e wc ⟨rfl, hgc⟩
        have gwc : Grew w wc := Grew.trans (by repeat (first | with_reducible assumption | with_reducible refine Grew.alloc ?_ _ | with_reducible refine Grew.drew ?_ | with_reducible refine Grew.drewN ?_ _)) hgc
        have mwc : Grew wb wc := Grew.trans (by repeat (first | with_reducible assumption | with_reducible refine Grew.alloc ?_ _ | with_reducible refine Grew.drew ?_ | with_reducible refine Grew.drewN ?_ _)) hgc
        refine hK.out _ _ ?_ (fun hHeld => ?_)
        · (try dsimp only); first | with_reducible assumption | exact Grew.alloc ‹_› _
        clear hK K
        try simp only [Act.put, List.setIfInBounds_toArray, List.set_cons_zero, List.set_cons_succ]
        refine wpAnyH_take (i := 6) (oi := ?on7) (v := ?vn7) ?hin7 ?an7 ?bn7 ?cn7 ?qn7 (Or.inl ⟨?dn7, ?hyn7⟩) hHeld ?restn7
        case hin7 => (simp only [List.getElem?_toArray, List.getElem?_cons_succ, List.getElem?_cons_zero]; exact rfl)
        case an7 => kernel_rfl
        case bn7 => kernel_rfl
        case cn7 => kernel_rfl
        case qn7 => exact fun _ _ _ h => h
        case dn7 => rfl
        case hyn7 => (intro z hSw; (try dsimp only at hSw); go_simp; (try with_reducible rfl))
        try simp only [Act.put, List.setIfInBounds_toArray, List.set_cons_zero, List.set_cons_succ]
        refine wpAnyH_take (i := 7) (oi := ?on8) (v := ?vn8) ?hin8 ?an8 ?bn8 ?cn8 ?qn8 (Or.inl ⟨?dn8, ?hyn8⟩) hHeld ?restn8
        case hin8 => (simp only [List.getElem?_toArray, List.getElem?_cons_succ, List.getElem?_cons_zero]; exact rfl)
        case an8 => kernel_rfl
        case bn8 => kernel_rfl
        case cn8 => kernel_rfl
        case qn8 => exact fun _ _ _ h => h
        case dn8 => rfl
        case hyn8 => (intro z hSw; (try dsimp only at hSw); go_simp; (try with_reducible rfl))
        try simp only [Act.put, List.setIfInBounds_toArray, List.set_cons_zero, List.set_cons_succ]
        refine wpAnyH_take (i := 8) (oi := ?on9) (v := ?vn9) ?hin9 ?an9 ?bn9 ?cn9 ?qn9 (Or.inl ⟨?dn9, ?hyn9⟩) hHeld ?restn9
        case hin9 => (simp only [List.getElem?_toArray, List.getElem?_cons_succ, List.getElem?_cons_zero]; exact rfl)
        case an9 => kernel_rfl
        case bn9 => kernel_rfl
        case cn9 => kernel_rfl
        case qn9 => exact fun _ _ _ h => h
        case dn9 => rfl
        case hyn9 => (intro z hSw; (try dsimp only at hSw); go_simp; (try with_reducible rfl))
        try simp only [Act.put, List.setIfInBounds_toArray, List.set_cons_zero, List.set_cons_succ]
        refine wpAnyH_take (i := 9) (oi := ?on10) (v := ?vn10) ?hin10 ?an10 ?bn10 ?cn10 ?qn10 (Or.inl ⟨?dn10, ?hyn10⟩) hHeld ?restn10
        case hin10 => (simp only [List.getElem?_toArray, List.getElem?_cons_succ, List.getElem?_cons_zero]; exact rfl)
        case an10 => kernel_rfl
        case bn10 => kernel_rfl
        case cn10 => kernel_rfl
        case qn10 => exact fun _ _ _ h => h
        case dn10 => rfl
        case hyn10 => (intro z hSw; (try dsimp only at hSw); go_simp; (try with_reducible rfl))
        try simp only [Act.put, List.setIfInBounds_toArray, List.set_cons_zero, List.set_cons_succ]
        refine wpAnyH_take (i := 10) (oi := ?on11) (v := ?vn11) ?hin11 ?an11 ?bn11 ?cn11 ?qn11 (Or.inl ⟨?dn11, ?hyn11⟩) hHeld ?restn11
        case hin11 => (simp only [List.getElem?_toArray, List.getElem?_cons_succ, List.getElem?_cons_zero]; exact rfl)
        case an11 => kernel_rfl
        case bn11 => kernel_rfl
        case cn11 => kernel_rfl
        case qn11 => exact fun _ _ _ h => h
        case dn11 => rfl
        case hyn11 => (intro z hSw; (try dsimp only at hSw); go_simp; (try with_reducible rfl))
        try simp only [Act.put, List.setIfInBounds_toArray, List.set_cons_zero, List.set_cons_succ]
        refine wpAnyH_take (i := 11) (oi := ?on12) (v := ?vn12) ?hin12 ?an12 ?bn12 ?cn12 ?qn12 (Or.inl ⟨?dn12, ?hyn12⟩) hHeld ?restn12
        case hin12 => (simp only [List.getElem?_toArray, List.getElem?_cons_succ, List.getElem?_cons_zero]; exact rfl)
        case an12 => kernel_rfl
        case bn12 => kernel_rfl
        case cn12 => kernel_rfl
        case qn12 => exact fun _ _ _ h => h
        case dn12 => rfl
        case hyn12 => (intro z hSw; (try dsimp only at hSw); go_simp; (try with_reducible rfl))
        try simp only [Act.put, List.setIfInBounds_toArray, List.set_cons_zero, List.set_cons_succ]
        refine wpAnyH_ready (rs := [12]) (by kernel_rfl) (by simp) ?_
        refine AllReadyH.cons (o := ?on13) ?hin13 ?restn13 AllReadyH.nil
        case hin13 => (simp only [List.getElem?_toArray, List.getElem?_cons_succ, List.getElem?_cons_zero]; exact rfl)
        intro K hK
        go_simp
        go_at_call 41
        refine (KI.out _ (by repeat (first | with_reducible assumption | with_reducible refine Grew.alloc ?_ _ | with_reducible refine Grew.drew ?_ | with_reducible refine Grew.drewN ?_ _))).mono ?_
        rintro e wi ⟨rfl, hgi⟩
        have gwi : Grew w wi := Grew.trans (by repeat (first | with_reducible assumption | with_reducible refine Grew.alloc ?_ _ | with_reducible refine Grew.drew ?_ | with_reducible refine Grew.drewN ?_ _)) hgi
        have mwi : Grew wb wi := Grew.trans (by repeat (first | with_reducible assumption | with_reducible refine Grew.alloc ?_ _ | with_reducible refine Grew.drew ?_ | with_reducible refine Grew.drewN ?_ _)) hgi
        refine hK.out _ _ ?_ (fun hHeld => ?_)
        · (try dsimp only); first | with_reducible assumption | exact Grew.alloc ‹_› _
        clear hK K
        try simp only [Act.put, List.setIfInBounds_toArray, List.set_cons_zero, List.set_cons_succ]
        refine wpAnyH_take (i := 13) (oi := ?on14) (v := ?vn14) ?hin14 ?an14 ?bn14 ?cn14 ?qn14 (Or.inl ⟨?dn14, ?hyn14⟩) hHeld ?restn14
        case hin14 => (simp only [List.getElem?_toArray, List.getElem?_cons_succ, List.getElem?_cons_zero]; exact rfl)
        case an14 => kernel_rfl
        case bn14 => kernel_rfl
        case cn14 => kernel_rfl
        case qn14 => exact fun _ _ _ h => h
        case dn14 => rfl
        case hyn14 => (intro z hSw; (try dsimp only at hSw); go_simp; (try with_reducible rfl))
        try simp only [Act.put, List.setIfInBounds_toArray, List.set_cons_zero, List.set_cons_succ]
        refine wpAnyH_take (i := 14) (oi := ?on15) (v := ?vn15) ?hin15 ?an15 ?bn15 ?cn15 ?qn15 (Or.inl ⟨?dn15, ?hyn15⟩) hHeld ?restn15
        case hin15 => (simp only [List.getElem?_toArray, List.getElem?_cons_succ, List.getElem?_cons_zero]; exact rfl)
        case an15 => kernel_rfl
        case bn15 => kernel_rfl
        case cn15 => kernel_rfl
        case qn15 => exact fun _ _ _ h => h
        case dn15 => rfl
        case hyn15 => (intro z hSw; (try dsimp only at hSw); go_simp; (try with_reducible rfl))
        try simp only [Act.put, List.setIfInBounds_toArray, List.set_cons_zero, List.set_cons_succ]
        refine wpAnyH_take (i := 15) (oi := ?on16) (v := ?vn16) ?hin16 ?an16 ?bn16 ?cn16 ?qn16 (Or.inl ⟨?dn16, ?hyn16⟩) hHeld ?restn16
        case hin16 => (simp only [List.getElem?_toArray, List.getElem?_cons_succ, List.getElem?_cons_zero]; exact rfl)
        case an16 => kernel_rfl
        case bn16 => kernel_rfl
        case cn16 => kernel_rfl
        case qn16 => exact fun _ _ _ h => h
        case dn16 => rfl
        case hyn16 => (intro z hSw; (try dsimp only at hSw); go_simp; (try with_reducible rfl))
        try simp only [Act.put, List.setIfInBounds_toArray, List.set_cons_zero, List.set_cons_succ]
        refine wpAnyH_take (i := 16) (oi := ?on17) (v := ?vn17) ?hin17 ?an17 ?bn17 ?cn17 ?qn17 (Or.inl ⟨?dn17, ?hyn17⟩) hHeld ?restn17
        case hin17 => (simp only [List.getElem?_toArray, List.getElem?_cons_succ, List.getElem?_cons_zero]; exact rfl)
        case an17 => kernel_rfl
        case bn17 => kernel_rfl
        case cn17 => kernel_rfl
        case qn17 => exact fun _ _ _ h => h
        case dn17 => rfl
        case hyn17 => (intro z hSw; (try dsimp only at hSw); go_simp; (try with_reducible rfl))
        try simp only [Act.put, List.setIfInBounds_toArray, List.set_cons_zero, List.set_cons_succ]
        refine wpAnyH_take (i := 17) (oi := ?on18) (v := ?vn18) ?hin18 ?an18 ?bn18 ?cn18 ?qn18 (Or.inl ⟨?dn18, ?hyn18⟩) hHeld ?restn18
        case hin18 => (simp only [List.getElem?_toArray, List.getElem?_cons_succ, List.getElem?_cons_zero]; exact rfl)
        case an18 => kernel_rfl
        case bn18 => kernel_rfl
        case cn18 => kernel_rfl
        case qn18 => exact fun _ _ _ h => h
        case dn18 => rfl
        case hyn18 => (intro z hSw; (try dsimp only at hSw); go_simp; (try with_reducible rfl))
        try simp only [Act.put, List.setIfInBounds_toArray, List.set_cons_zero, List.set_cons_succ]
        refine wpAnyH_take (i := 18) (oi := ?on19) (v := ?vn19) ?hin19 ?an19 ?bn19 ?cn19 ?qn19 (Or.inl ⟨?dn19, ?hyn19⟩) hHeld ?restn19
        case hin19 => (simp only [List.getElem?_toArray, List.getElem?_cons_succ, List.getElem?_cons_zero]; exact rfl)
        case an19 => kernel_rfl
        case bn19 => kernel_rfl
        case cn19 => kernel_rfl
        case qn19 => exact fun _ _ _ h => h
        case dn19 => rfl
        case hyn19 => (intro z hSw; (try dsimp only at hSw); go_simp; (try with_reducible rfl))
        try simp only [Act.put, List.setIfInBounds_toArray, List.set_cons_zero, List.set_cons_succ]
        refine wpAnyH_take (i := 19) (oi := ?on20) (v := ?vn20) ?hin20 ?an20 ?bn20 ?cn20 ?qn20 (Or.inl ⟨?dn20, ?hyn20⟩) hHeld ?restn20
        case hin20 => (simp only [List.getElem?_toArray, List.getElem?_cons_succ, List.getElem?_cons_zero]; exact rfl)
        case an20 => kernel_rfl
        case bn20 => kernel_rfl
        case cn20 => kernel_rfl
        case qn20 => exact fun _ _ _ h => h
        case dn20 => rfl
        case hyn20 => (intro z hSw; (try dsimp only at hSw); go_simp; (try with_reducible rfl))
        try simp only [Act.put, List.setIfInBounds_toArray, List.set_cons_zero, List.set_cons_succ]
        refine wpAnyH_take (i := 20) (oi := ?on21) ?hin21 ?an21 ?bn21 ?cn21 ?qn21 (Or.inr ⟨?dn21, rfl⟩) hHeld ?restn21
        case hin21 => (simp only [List.getElem?_toArray, List.getElem?_cons_succ, List.getElem?_cons_zero]; exact rfl)
        case an21 => kernel_rfl
        case bn21 => kernel_rfl
        case cn21 => kernel_rfl
        case qn21 => exact fun _ _ _ h => h
        case dn21 => rfl
        try simp only [Act.put, List.setIfInBounds_toArray, List.set_cons_zero, List.set_cons_succ]
        refine wpAnyH_take (i := 21) (oi := ?on22) ?hin22 ?an22 ?bn22 ?cn22 ?qn22 (Or.inr ⟨?dn22, rfl⟩) hHeld ?restn22
        case hin22 => (simp only [List.getElem?_toArray, List.getElem?_cons_succ, List.getElem?_cons_zero]; exact rfl)
        case an22 => kernel_rfl
        case bn22 => kernel_rfl
        case cn22 => kernel_rfl
        case qn22 => exact fun _ _ _ h => h
        case dn22 => rfl
        try simp only [Act.put, List.setIfInBounds_toArray, List.set_cons_zero, List.set_cons_succ]
        refine wpAnyH_take (i := 22) (oi := ?on23) ?hin23 ?an23 ?bn23 ?cn23 ?qn23 (Or.inr ⟨?dn23, rfl⟩) hHeld ?restn23
        case hin23 => (simp only [List.getElem?_toArray, List.getElem?_cons_succ, List.getElem?_cons_zero]; exact rfl)
        case an23 => kernel_rfl
        case bn23 => kernel_rfl
        case cn23 => kernel_rfl
        case qn23 => exact fun _ _ _ h => h
        case dn23 => rfl
        try simp only [Act.put, List.setIfInBounds_toArray, List.set_cons_zero, List.set_cons_succ]
        refine wpAnyH_take (i := 23) (oi := ?on24) ?hin24 ?an24 ?bn24 ?cn24 ?qn24 (Or.inr ⟨?dn24, rfl⟩) hHeld ?restn24
        case hin24 => (simp only [List.getElem?_toArray, List.getElem?_cons_succ, List.getElem?_cons_zero]; exact rfl)
        case an24 => kernel_rfl
        case bn24 => kernel_rfl
        case cn24 => kernel_rfl
        case qn24 => exact fun _ _ _ h => h
        case dn24 => rfl
        try simp only [Act.put, List.setIfInBounds_toArray, List.set_cons_zero, List.set_cons_succ]
        refine wpAnyH_take (i := 24) (oi := ?on25) (v := ?vn25) ?hin25 ?an25 ?bn25 ?cn25 ?qn25 (Or.inl ⟨?dn25, ?hyn25⟩) hHeld ?restn25
        case hin25 => (simp only [List.getElem?_toArray, List.getElem?_cons_succ, List.getElem?_cons_zero]; exact rfl)
        case an25 => kernel_rfl
        case bn25 => kernel_rfl
        case cn25 => kernel_rfl
        case qn25 => exact fun _ _ _ h => h
        case dn25 => rfl
        case hyn25 => (intro z hSw; (try dsimp only at hSw); go_simp; (try with_reducible rfl))
        try simp only [Act.put, List.setIfInBounds_toArray, List.set_cons_zero, List.set_cons_succ]
        refine wpAnyH_take (i := 25) (oi := ?on26) (v := ?vn26) ?hin26 ?an26 ?bn26 ?cn26 ?qn26 (Or.inl ⟨?dn26, ?hyn26⟩) hHeld ?restn26
        case hin26 => (simp only [List.getElem?_toArray, List.getElem?_cons_succ, List.getElem?_cons_zero]; exact rfl)
        case an26 => kernel_rfl
        case bn26 => kernel_rfl
        case cn26 => kernel_rfl
        case qn26 => exact fun _ _ _ h => h
        case dn26 => rfl
        case hyn26 => (intro z hSw; (try dsimp only at hSw); go_simp; (try with_reducible rfl))
        try simp only [Act.put, List.setIfInBounds_toArray, List.set_cons_zero, List.set_cons_succ]
        refine wpAnyH_done (by kernel_rfl) ?_ _

        go_wp2_with fail
        go_loopw [6, 7] (fun v6 i wr => ∃ j : Nat, j ≤ x.2.1.length ∧ i = .int .i64 j ∧ OwnQ wb wr wb.heap.size v6 (preJ bef x.2.1 j) ∧ Grew wb wr ∧ Hid (PremJ bef x.2.1 j)) (fun _ i _ => x.2.1.length - (intOf i).toNat)
        case atStart => exact ⟨0, Nat.zero_le _, rfl, OwnQ.nil_ wb mwi.size (blk_new wi _), mwi.alloc _, Lib.hid (fun i hi => absurd hi (by omega))⟩
        case round =>
          obtain ⟨j, hj, rfl, hO, hB, HP⟩ := hrel
          have hB0 := hal.trans hB
          have hJl := preJ_len bef x.2.1 j
          by_cases hlt2 : j < x.2.1.length
          · rcases HUP.out.open_ with ⟨_, h0⟩ | ⟨pb, po, pc, hv1, _, hm1, hb1, hc1⟩
            · rw [h0] at hlt2; simp at hlt2
            obtain ⟨rfl, rfl⟩ : A = some ⟨pb, po, none⟩ ∧ cP = pc := by simpa using hv1
            have KR := fun W => l01In_c (it x.2.1 j) 0 ((k : Int) - 1) W
            have q1 := fun W (hW : Grew wb W) => hc1 j hlt2 W (hal.trans hW)
            by_cases hr : 0 ≤ it x.2.1 j ∧ it x.2.1 j ≤ (k : Int) - 1
            · rw [decide_eq_true hr] at KR
              replace KR := Lib.hid KR
              obtain ⟨m, hmi⟩ : ∃ m : Nat, it x.2.1 j = m := ⟨(it x.2.1 j).toNat, by omega⟩
              have hmk : m < k := by omega
              have hmx : m < xs.length := by omega
              have hy : xs[m]? = some xs[m] := List.getElem?_eq_getElem hmx
              generalize xs[m] = y at hy
              obtain ⟨yp, ya, hcy, hyp, hys⟩ := HC.out m y hy
              have HST := Lib.hid (preJ_succ hlt2 hmi (HTK.out m y hmk hy))
              have HCY := Lib.hid hcy
              have HPN : Hid (PremJ bef x.2.1 (j + 1)) := Lib.hid (fun i hi => by
                rcases Nat.lt_or_ge i j with hk | hk
                · exact HP.out i hk
                · obtain rfl : i = j := by omega
                  rw [HBL.out]
                  exact hr)
              rw [hmi] at q1 KR
              have HYP := Lib.hid (hyp.grew hal)
              have HYS := Lib.hid (hys.grew hal)
              obtain ⟨YA, yc, rfl⟩ := ints_slice hyp
              obtain ⟨YS, sc, rfl⟩ := strs_slice hys
              clear hcy hr hmi hy hyp hys hv1 hc1
              generalize preJ bef x.2.1 j = X at *
              go_wp2_with fail
              refine (KR.out _).mono ?_
              rintro e w4 ⟨rfl, hg4⟩
              have hB4 := hB.trans hg4
              obtain ⟨z0, z1, z2, z3, z4⟩ := HCY.out.grew hbb (hal.trans hB4)
              have hO1 := hO.grew (hg4.trans ((Grew.refl w4).alloc (.cells #[.int .i64 y.1, .slice YA y.2.1.length yc, .slice YS y.2.2.1.length sc, .string y.2.2.2.1, .string y.2.2.2.2] 42)))
              have hB1 := hB4.alloc (.cells #[.int .i64 y.1, .slice YA y.2.1.length yc, .slice YS y.2.2.1.length sc, .string y.2.2.2.1, .string y.2.2.2.2] 42)
              go_wp2_with (first | (at_builtin; refine wpList_appQ (w0 := wb) _ _ rfl rfl _ X rfl hO1 hB1 _ _ _ y rfl (rd_litQ _ _ _ _ _ _ _) HYP.out HYS.out (by omega) ?_; intro v2 w5 hown2 hg5 hgr5 hob5))
              go_roundw
              case rel => exact ⟨j + 1, by omega, by go_num, by rw [HST.out]; exact hown2, hg5, HPN⟩
              case measure => simp [intOf]; omega
            · rw [decide_eq_false hr] at KR
              replace KR := Lib.hid KR
              have HNO := Lib.hid (HD0.out.trans (dcd_false (fun h => hr (by have := premJ_all.2 h.2.1 j hlt2; rw [HBL.out] at this; exact this))))
              clear hr hc1 hv1
              generalize it x.2.1 j = q at *
              go_wp2_with fail
              refine (KR.out _).mono ?_
              rintro e w4 ⟨rfl, hg4⟩
              go_wp2_with fail
              go_ret
              exact ⟨congrArg (fun b => Ending.returned (Value.bool b)) HNO.out.symm, hB0.trans hg4⟩
          · obtain rfl : j = x.2.1.length := by omega
            have KT := rule_allJ x x.2.1.length hn _ _ u6 (preJ bef x.2.1 x.2.1.length) wr (HUP.out.grew hB0) (HS.out.grew hB0) (hO.jfs hB) hsq.out hsc hsm hus.out (preJ_all _ _)
            rw [preJ_map, givenM_all] at KT
            have hfin : goodJ bef x ↔ okJ x (givenJ bef x.2.1) := ⟨fun h => h.2.2, fun h => ⟨hsq.out, premJ_all.1 HP.out, h⟩⟩
            have HFIN := Lib.hid (HD0.out.trans (dcd_congr hfin)).symm
            clear hfin
            generalize dcd (okJ x (givenJ bef x.2.1)) = R at *
            replace KT := Lib.hid KT
            go_wp2_with fail
            refine (KT.out).mono ?_
            rintro e w4 ⟨rfl, hg4⟩
            go_wp2_with fail
            go_ret
            exact ⟨congrArg (fun b => Ending.returned (Value.bool b)) HFIN.out, hB0.trans hg4⟩
      · have he := empty_no hM
        cases hu : usesJ x.1 with
        | true =>
          have hus : usesJ x.1 = true ∨ x.2.2.2.2 = ByteArray.empty := .inl hu
          rw [hu] at KU
          obtain ⟨D0, hD0⟩ : ∃ D0, D0 = dcd (goodJ bef x) := ⟨_, rfl⟩
          rw [← hD0]
          have HD0 := Lib.hid hD0
          replace hsq := Lib.hid hsq
          replace hus := Lib.hid hus
          replace KU := Lib.hid KU
          clear hM hD0 hgl hu
          go_enter Tryz.func32, Tryz.ntmps32
          go_wp2_with fail
          rw [← hwb]
          clear hwb
          refine wp_region_held_drew (S := fun w' => Grew wb w') (by kernel_rfl) rbd (fun hHeld => ?_)
          refine wpAnyH_take (i := 0) (oi := ?on27) (v := ?vn27) ?hin27 ?an27 ?bn27 ?cn27 ?qn27 (Or.inl ⟨?dn27, ?hyn27⟩) hHeld ?restn27
          case hin27 => (simp only [List.getElem?_toArray, List.getElem?_cons_zero]; exact rfl)
          case an27 => kernel_rfl
          case bn27 => kernel_rfl
          case cn27 => kernel_rfl
          case qn27 => exact fun _ _ _ h => h
          case dn27 => rfl
          case hyn27 => (intro z hSw; (try dsimp only at hSw); go_simp; (try with_reducible rfl))
          try simp only [Act.put, List.setIfInBounds_toArray, List.set_cons_zero, List.set_cons_succ]
          refine wpAnyH_take (i := 1) (oi := ?on28) (v := ?vn28) ?hin28 ?an28 ?bn28 ?cn28 ?qn28 (Or.inl ⟨?dn28, ?hyn28⟩) hHeld ?restn28
          case hin28 => (simp only [List.getElem?_toArray, List.getElem?_cons_succ, List.getElem?_cons_zero]; exact rfl)
          case an28 => kernel_rfl
          case bn28 => kernel_rfl
          case cn28 => kernel_rfl
          case qn28 => exact fun _ _ _ h => h
          case dn28 => rfl
          case hyn28 => (intro z hSw; (try dsimp only at hSw); go_simp; (try with_reducible rfl))
          try simp only [Act.put, List.setIfInBounds_toArray, List.set_cons_zero, List.set_cons_succ]
          refine wpAnyH_take (i := 2) (oi := ?on29) (v := ?vn29) ?hin29 ?an29 ?bn29 ?cn29 ?qn29 (Or.inl ⟨?dn29, ?hyn29⟩) hHeld ?restn29
          case hin29 => (simp only [List.getElem?_toArray, List.getElem?_cons_succ, List.getElem?_cons_zero]; exact rfl)
          case an29 => kernel_rfl
          case bn29 => kernel_rfl
          case cn29 => kernel_rfl
          case qn29 => exact fun _ _ _ h => h
          case dn29 => rfl
          case hyn29 => (intro z hSw; (try dsimp only at hSw); go_simp; (try with_reducible rfl))
          try simp only [Act.put, List.setIfInBounds_toArray, List.set_cons_zero, List.set_cons_succ]
          refine wpAnyH_take (i := 3) (oi := ?on30) (v := ?vn30) ?hin30 ?an30 ?bn30 ?cn30 ?qn30 (Or.inl ⟨?dn30, ?hyn30⟩) hHeld ?restn30
          case hin30 => (simp only [List.getElem?_toArray, List.getElem?_cons_succ, List.getElem?_cons_zero]; exact rfl)
          case an30 => kernel_rfl
          case bn30 => kernel_rfl
          case cn30 => kernel_rfl
          case qn30 => exact fun _ _ _ h => h
          case dn30 => rfl
          case hyn30 => (intro z hSw; (try dsimp only at hSw); go_simp; (try with_reducible rfl))
          try simp only [Act.put, List.setIfInBounds_toArray, List.set_cons_zero, List.set_cons_succ]
          refine wpAnyH_take (i := 4) (oi := ?on31) (v := ?vn31) ?hin31 ?an31 ?bn31 ?cn31 ?qn31 (Or.inl ⟨?dn31, ?hyn31⟩) hHeld ?restn31
          case hin31 => (simp only [List.getElem?_toArray, List.getElem?_cons_succ, List.getElem?_cons_zero]; exact rfl)
          case an31 => kernel_rfl
          case bn31 => kernel_rfl
          case cn31 => kernel_rfl
          case qn31 => exact fun _ _ _ h => h
          case dn31 => rfl
          case hyn31 => (intro z hSw; (try dsimp only at hSw); go_simp; (try with_reducible rfl))
          try simp only [Act.put, List.setIfInBounds_toArray, List.set_cons_zero, List.set_cons_succ]
          refine wpAnyH_ready (rs := [5]) (by kernel_rfl) (by simp) ?_
          refine AllReadyH.cons (o := ?on32) ?hin32 ?restn32 AllReadyH.nil
          case hin32 => (simp only [List.getElem?_toArray, List.getElem?_cons_succ, List.getElem?_cons_zero]; exact rfl)
          intro K hK
          go_simp
          go_at_call 40
          refine (KN.out _).mono ?_
          rintro e wc ⟨rfl, hgc⟩
          have gwc : Grew w wc := Grew.trans (by repeat (first | with_reducible assumption | with_reducible refine Grew.alloc ?_ _ | with_reducible refine Grew.drew ?_ | with_reducible refine Grew.drewN ?_ _)) hgc
          have mwc : Grew wb wc := Grew.trans (by repeat (first | with_reducible assumption | with_reducible refine Grew.alloc ?_ _ | with_reducible refine Grew.drew ?_ | with_reducible refine Grew.drewN ?_ _)) hgc
          refine hK.out _ _ ?_ (fun hHeld => ?_)
          · (try dsimp only); first | with_reducible assumption | exact Grew.alloc ‹_› _
          clear hK K
          try simp only [Act.put, List.setIfInBounds_toArray, List.set_cons_zero, List.set_cons_succ]
          refine wpAnyH_take (i := 6) (oi := ?on33) (v := ?vn33) ?hin33 ?an33 ?bn33 ?cn33 ?qn33 (Or.inl ⟨?dn33, ?hyn33⟩) hHeld ?restn33
          case hin33 => (simp only [List.getElem?_toArray, List.getElem?_cons_succ, List.getElem?_cons_zero]; exact rfl)
          case an33 => kernel_rfl
          case bn33 => kernel_rfl
          case cn33 => kernel_rfl
          case qn33 => exact fun _ _ _ h => h
          case dn33 => rfl
          case hyn33 => (intro z hSw; (try dsimp only at hSw); go_simp; (try with_reducible rfl))
          try simp only [Act.put, List.setIfInBounds_toArray, List.set_cons_zero, List.set_cons_succ]
          refine wpAnyH_take (i := 7) (oi := ?on34) (v := ?vn34) ?hin34 ?an34 ?bn34 ?cn34 ?qn34 (Or.inl ⟨?dn34, ?hyn34⟩) hHeld ?restn34
          case hin34 => (simp only [List.getElem?_toArray, List.getElem?_cons_succ, List.getElem?_cons_zero]; exact rfl)
          case an34 => kernel_rfl
          case bn34 => kernel_rfl
          case cn34 => kernel_rfl
          case qn34 => exact fun _ _ _ h => h
          case dn34 => rfl
          case hyn34 => (intro z hSw; (try dsimp only at hSw); go_simp; (try with_reducible rfl))
          try simp only [Act.put, List.setIfInBounds_toArray, List.set_cons_zero, List.set_cons_succ]
          refine wpAnyH_take (i := 8) (oi := ?on35) (v := ?vn35) ?hin35 ?an35 ?bn35 ?cn35 ?qn35 (Or.inl ⟨?dn35, ?hyn35⟩) hHeld ?restn35
          case hin35 => (simp only [List.getElem?_toArray, List.getElem?_cons_succ, List.getElem?_cons_zero]; exact rfl)
          case an35 => kernel_rfl
          case bn35 => kernel_rfl
          case cn35 => kernel_rfl
          case qn35 => exact fun _ _ _ h => h
          case dn35 => rfl
          case hyn35 => (intro z hSw; (try dsimp only at hSw); go_simp; (try with_reducible rfl))
          try simp only [Act.put, List.setIfInBounds_toArray, List.set_cons_zero, List.set_cons_succ]
          refine wpAnyH_take (i := 9) (oi := ?on36) (v := ?vn36) ?hin36 ?an36 ?bn36 ?cn36 ?qn36 (Or.inl ⟨?dn36, ?hyn36⟩) hHeld ?restn36
          case hin36 => (simp only [List.getElem?_toArray, List.getElem?_cons_succ, List.getElem?_cons_zero]; exact rfl)
          case an36 => kernel_rfl
          case bn36 => kernel_rfl
          case cn36 => kernel_rfl
          case qn36 => exact fun _ _ _ h => h
          case dn36 => rfl
          case hyn36 => (intro z hSw; (try dsimp only at hSw); go_simp; (try with_reducible rfl))
          try simp only [Act.put, List.setIfInBounds_toArray, List.set_cons_zero, List.set_cons_succ]
          refine wpAnyH_take (i := 10) (oi := ?on37) (v := ?vn37) ?hin37 ?an37 ?bn37 ?cn37 ?qn37 (Or.inl ⟨?dn37, ?hyn37⟩) hHeld ?restn37
          case hin37 => (simp only [List.getElem?_toArray, List.getElem?_cons_succ, List.getElem?_cons_zero]; exact rfl)
          case an37 => kernel_rfl
          case bn37 => kernel_rfl
          case cn37 => kernel_rfl
          case qn37 => exact fun _ _ _ h => h
          case dn37 => rfl
          case hyn37 => (intro z hSw; (try dsimp only at hSw); go_simp; (try with_reducible rfl))
          try simp only [Act.put, List.setIfInBounds_toArray, List.set_cons_zero, List.set_cons_succ]
          refine wpAnyH_take (i := 11) (oi := ?on38) (v := ?vn38) ?hin38 ?an38 ?bn38 ?cn38 ?qn38 (Or.inl ⟨?dn38, ?hyn38⟩) hHeld ?restn38
          case hin38 => (simp only [List.getElem?_toArray, List.getElem?_cons_succ, List.getElem?_cons_zero]; exact rfl)
          case an38 => kernel_rfl
          case bn38 => kernel_rfl
          case cn38 => kernel_rfl
          case qn38 => exact fun _ _ _ h => h
          case dn38 => rfl
          case hyn38 => (intro z hSw; (try dsimp only at hSw); go_simp; (try with_reducible rfl))
          try simp only [Act.put, List.setIfInBounds_toArray, List.set_cons_zero, List.set_cons_succ]
          refine wpAnyH_ready (rs := [12]) (by kernel_rfl) (by simp) ?_
          refine AllReadyH.cons (o := ?on39) ?hin39 ?restn39 AllReadyH.nil
          case hin39 => (simp only [List.getElem?_toArray, List.getElem?_cons_succ, List.getElem?_cons_zero]; exact rfl)
          intro K hK
          go_simp
          go_at_call 41
          refine (KI.out _ (by repeat (first | with_reducible assumption | with_reducible refine Grew.alloc ?_ _ | with_reducible refine Grew.drew ?_ | with_reducible refine Grew.drewN ?_ _))).mono ?_
          rintro e wi ⟨rfl, hgi⟩
          have gwi : Grew w wi := Grew.trans (by repeat (first | with_reducible assumption | with_reducible refine Grew.alloc ?_ _ | with_reducible refine Grew.drew ?_ | with_reducible refine Grew.drewN ?_ _)) hgi
          have mwi : Grew wb wi := Grew.trans (by repeat (first | with_reducible assumption | with_reducible refine Grew.alloc ?_ _ | with_reducible refine Grew.drew ?_ | with_reducible refine Grew.drewN ?_ _)) hgi
          refine hK.out _ _ ?_ (fun hHeld => ?_)
          · (try dsimp only); first | with_reducible assumption | exact Grew.alloc ‹_› _
          clear hK K
          try simp only [Act.put, List.setIfInBounds_toArray, List.set_cons_zero, List.set_cons_succ]
          refine wpAnyH_take (i := 13) (oi := ?on40) (v := ?vn40) ?hin40 ?an40 ?bn40 ?cn40 ?qn40 (Or.inl ⟨?dn40, ?hyn40⟩) hHeld ?restn40
          case hin40 => (simp only [List.getElem?_toArray, List.getElem?_cons_succ, List.getElem?_cons_zero]; exact rfl)
          case an40 => kernel_rfl
          case bn40 => kernel_rfl
          case cn40 => kernel_rfl
          case qn40 => exact fun _ _ _ h => h
          case dn40 => rfl
          case hyn40 => (intro z hSw; (try dsimp only at hSw); go_simp; (try with_reducible rfl))
          try simp only [Act.put, List.setIfInBounds_toArray, List.set_cons_zero, List.set_cons_succ]
          refine wpAnyH_take (i := 14) (oi := ?on41) (v := ?vn41) ?hin41 ?an41 ?bn41 ?cn41 ?qn41 (Or.inl ⟨?dn41, ?hyn41⟩) hHeld ?restn41
          case hin41 => (simp only [List.getElem?_toArray, List.getElem?_cons_succ, List.getElem?_cons_zero]; exact rfl)
          case an41 => kernel_rfl
          case bn41 => kernel_rfl
          case cn41 => kernel_rfl
          case qn41 => exact fun _ _ _ h => h
          case dn41 => rfl
          case hyn41 => (intro z hSw; (try dsimp only at hSw); go_simp; (try with_reducible rfl))
          try simp only [Act.put, List.setIfInBounds_toArray, List.set_cons_zero, List.set_cons_succ]
          refine wpAnyH_take (i := 15) (oi := ?on42) (v := ?vn42) ?hin42 ?an42 ?bn42 ?cn42 ?qn42 (Or.inl ⟨?dn42, ?hyn42⟩) hHeld ?restn42
          case hin42 => (simp only [List.getElem?_toArray, List.getElem?_cons_succ, List.getElem?_cons_zero]; exact rfl)
          case an42 => kernel_rfl
          case bn42 => kernel_rfl
          case cn42 => kernel_rfl
          case qn42 => exact fun _ _ _ h => h
          case dn42 => rfl
          case hyn42 => (intro z hSw; (try dsimp only at hSw); go_simp; (try with_reducible rfl))
          try simp only [Act.put, List.setIfInBounds_toArray, List.set_cons_zero, List.set_cons_succ]
          refine wpAnyH_take (i := 16) (oi := ?on43) (v := ?vn43) ?hin43 ?an43 ?bn43 ?cn43 ?qn43 (Or.inl ⟨?dn43, ?hyn43⟩) hHeld ?restn43
          case hin43 => (simp only [List.getElem?_toArray, List.getElem?_cons_succ, List.getElem?_cons_zero]; exact rfl)
          case an43 => kernel_rfl
          case bn43 => kernel_rfl
          case cn43 => kernel_rfl
          case qn43 => exact fun _ _ _ h => h
          case dn43 => rfl
          case hyn43 => (intro z hSw; (try dsimp only at hSw); go_simp; (try with_reducible rfl))
          try simp only [Act.put, List.setIfInBounds_toArray, List.set_cons_zero, List.set_cons_succ]
          refine wpAnyH_take (i := 17) (oi := ?on44) (v := ?vn44) ?hin44 ?an44 ?bn44 ?cn44 ?qn44 (Or.inl ⟨?dn44, ?hyn44⟩) hHeld ?restn44
          case hin44 => (simp only [List.getElem?_toArray, List.getElem?_cons_succ, List.getElem?_cons_zero]; exact rfl)
          case an44 => kernel_rfl
          case bn44 => kernel_rfl
          case cn44 => kernel_rfl
          case qn44 => exact fun _ _ _ h => h
          case dn44 => rfl
          case hyn44 => (intro z hSw; (try dsimp only at hSw); go_simp; (try with_reducible rfl))
          try simp only [Act.put, List.setIfInBounds_toArray, List.set_cons_zero, List.set_cons_succ]
          refine wpAnyH_take (i := 18) (oi := ?on45) (v := ?vn45) ?hin45 ?an45 ?bn45 ?cn45 ?qn45 (Or.inl ⟨?dn45, ?hyn45⟩) hHeld ?restn45
          case hin45 => (simp only [List.getElem?_toArray, List.getElem?_cons_succ, List.getElem?_cons_zero]; exact rfl)
          case an45 => kernel_rfl
          case bn45 => kernel_rfl
          case cn45 => kernel_rfl
          case qn45 => exact fun _ _ _ h => h
          case dn45 => rfl
          case hyn45 => (intro z hSw; (try dsimp only at hSw); go_simp; (try with_reducible rfl))
          try simp only [Act.put, List.setIfInBounds_toArray, List.set_cons_zero, List.set_cons_succ]
          refine wpAnyH_take (i := 19) (oi := ?on46) (v := ?vn46) ?hin46 ?an46 ?bn46 ?cn46 ?qn46 (Or.inl ⟨?dn46, ?hyn46⟩) hHeld ?restn46
          case hin46 => (simp only [List.getElem?_toArray, List.getElem?_cons_succ, List.getElem?_cons_zero]; exact rfl)
          case an46 => kernel_rfl
          case bn46 => kernel_rfl
          case cn46 => kernel_rfl
          case qn46 => exact fun _ _ _ h => h
          case dn46 => rfl
          case hyn46 => (intro z hSw; (try dsimp only at hSw); go_simp; (try with_reducible rfl))
          try simp only [Act.put, List.setIfInBounds_toArray, List.set_cons_zero, List.set_cons_succ]
          refine wpAnyH_take (i := 20) (oi := ?on47) (v := ?vn47) ?hin47 ?an47 ?bn47 ?cn47 ?qn47 (Or.inl ⟨?dn47, ?hyn47⟩) hHeld ?restn47
          case hin47 => (simp only [List.getElem?_toArray, List.getElem?_cons_succ, List.getElem?_cons_zero]; exact rfl)
          case an47 => kernel_rfl
          case bn47 => kernel_rfl
          case cn47 => kernel_rfl
          case qn47 => exact fun _ _ _ h => h
          case dn47 => rfl
          case hyn47 => (intro z hSw; (try dsimp only at hSw); go_simp; (try with_reducible rfl))
          try simp only [Act.put, List.setIfInBounds_toArray, List.set_cons_zero, List.set_cons_succ]
          refine wpAnyH_take (i := 21) (oi := ?on48) (v := ?vn48) ?hin48 ?an48 ?bn48 ?cn48 ?qn48 (Or.inl ⟨?dn48, ?hyn48⟩) hHeld ?restn48
          case hin48 => (simp only [List.getElem?_toArray, List.getElem?_cons_succ, List.getElem?_cons_zero]; exact rfl)
          case an48 => kernel_rfl
          case bn48 => kernel_rfl
          case cn48 => kernel_rfl
          case qn48 => exact fun _ _ _ h => h
          case dn48 => rfl
          case hyn48 => (intro z hSw; (try dsimp only at hSw); go_simp; (try with_reducible rfl))
          try simp only [Act.put, List.setIfInBounds_toArray, List.set_cons_zero, List.set_cons_succ]
          refine wpAnyH_ready (rs := [22]) (by kernel_rfl) (by simp) ?_
          refine AllReadyH.cons (o := ?on49) ?hin49 ?restn49 AllReadyH.nil
          case hin49 => (simp only [List.getElem?_toArray, List.getElem?_cons_succ, List.getElem?_cons_zero]; exact rfl)
          intro K hK
          go_simp
          go_at_call 42
          refine (KU.out _).mono ?_
          rintro e wu ⟨rfl, hgu⟩
          have gwu : Grew w wu := Grew.trans (by repeat (first | with_reducible assumption | with_reducible refine Grew.alloc ?_ _ | with_reducible refine Grew.drew ?_ | with_reducible refine Grew.drewN ?_ _)) hgu
          have mwu : Grew wb wu := Grew.trans (by repeat (first | with_reducible assumption | with_reducible refine Grew.alloc ?_ _ | with_reducible refine Grew.drew ?_ | with_reducible refine Grew.drewN ?_ _)) hgu
          refine hK.out _ _ ?_ (fun hHeld => ?_)
          · (try dsimp only); first | with_reducible assumption | exact Grew.alloc ‹_› _
          clear hK K
          try simp only [Act.put, List.setIfInBounds_toArray, List.set_cons_zero, List.set_cons_succ]
          refine wpAnyH_take (i := 23) (oi := ?on50) (v := ?vn50) ?hin50 ?an50 ?bn50 ?cn50 ?qn50 (Or.inl ⟨?dn50, ?hyn50⟩) hHeld ?restn50
          case hin50 => (simp only [List.getElem?_toArray, List.getElem?_cons_succ, List.getElem?_cons_zero]; exact rfl)
          case an50 => kernel_rfl
          case bn50 => kernel_rfl
          case cn50 => kernel_rfl
          case qn50 => exact fun _ _ _ h => h
          case dn50 => rfl
          case hyn50 => (intro z hSw; (try dsimp only at hSw); go_simp; (try with_reducible rfl))
          try simp only [Act.put, List.setIfInBounds_toArray, List.set_cons_zero, List.set_cons_succ]
          refine wpAnyH_take (i := 24) (oi := ?on51) (v := ?vn51) ?hin51 ?an51 ?bn51 ?cn51 ?qn51 (Or.inl ⟨?dn51, ?hyn51⟩) hHeld ?restn51
          case hin51 => (simp only [List.getElem?_toArray, List.getElem?_cons_succ, List.getElem?_cons_zero]; exact rfl)
          case an51 => kernel_rfl
          case bn51 => kernel_rfl
          case cn51 => kernel_rfl
          case qn51 => exact fun _ _ _ h => h
          case dn51 => rfl
          case hyn51 => (intro z hSw; (try dsimp only at hSw); go_simp; (try with_reducible rfl))
          try simp only [Act.put, List.setIfInBounds_toArray, List.set_cons_zero, List.set_cons_succ]
          refine wpAnyH_take (i := 25) (oi := ?on52) (v := ?vn52) ?hin52 ?an52 ?bn52 ?cn52 ?qn52 (Or.inl ⟨?dn52, ?hyn52⟩) hHeld ?restn52
          case hin52 => (simp only [List.getElem?_toArray, List.getElem?_cons_succ, List.getElem?_cons_zero]; exact rfl)
          case an52 => kernel_rfl
          case bn52 => kernel_rfl
          case cn52 => kernel_rfl
          case qn52 => exact fun _ _ _ h => h
          case dn52 => rfl
          case hyn52 => (intro z hSw; (try dsimp only at hSw); go_simp; (try with_reducible rfl))
          try simp only [Act.put, List.setIfInBounds_toArray, List.set_cons_zero, List.set_cons_succ]
          refine wpAnyH_done (by kernel_rfl) ?_ _

          go_wp2_with fail
          go_loopw [6, 7] (fun v6 i wr => ∃ j : Nat, j ≤ x.2.1.length ∧ i = .int .i64 j ∧ OwnQ wb wr wb.heap.size v6 (preJ bef x.2.1 j) ∧ Grew wb wr ∧ Hid (PremJ bef x.2.1 j)) (fun _ i _ => x.2.1.length - (intOf i).toNat)
          case atStart => exact ⟨0, Nat.zero_le _, rfl, OwnQ.nil_ wb mwu.size (blk_new wu _), mwu.alloc _, Lib.hid (fun i hi => absurd hi (by omega))⟩
          case round =>
            obtain ⟨j, hj, rfl, hO, hB, HP⟩ := hrel
            have hB0 := hal.trans hB
            have hJl := preJ_len bef x.2.1 j
            by_cases hlt2 : j < x.2.1.length
            · rcases HUP.out.open_ with ⟨_, h0⟩ | ⟨pb, po, pc, hv1, _, hm1, hb1, hc1⟩
              · rw [h0] at hlt2; simp at hlt2
              obtain ⟨rfl, rfl⟩ : A = some ⟨pb, po, none⟩ ∧ cP = pc := by simpa using hv1
              have KR := fun W => l01In_c (it x.2.1 j) 0 ((k : Int) - 1) W
              have q1 := fun W (hW : Grew wb W) => hc1 j hlt2 W (hal.trans hW)
              by_cases hr : 0 ≤ it x.2.1 j ∧ it x.2.1 j ≤ (k : Int) - 1
              · rw [decide_eq_true hr] at KR
                replace KR := Lib.hid KR
                obtain ⟨m, hmi⟩ : ∃ m : Nat, it x.2.1 j = m := ⟨(it x.2.1 j).toNat, by omega⟩
                have hmk : m < k := by omega
                have hmx : m < xs.length := by omega
                have hy : xs[m]? = some xs[m] := List.getElem?_eq_getElem hmx
                generalize xs[m] = y at hy
                obtain ⟨yp, ya, hcy, hyp, hys⟩ := HC.out m y hy
                have HST := Lib.hid (preJ_succ hlt2 hmi (HTK.out m y hmk hy))
                have HCY := Lib.hid hcy
                have HPN : Hid (PremJ bef x.2.1 (j + 1)) := Lib.hid (fun i hi => by
                  rcases Nat.lt_or_ge i j with hk | hk
                  · exact HP.out i hk
                  · obtain rfl : i = j := by omega
                    rw [HBL.out]
                    exact hr)
                rw [hmi] at q1 KR
                have HYP := Lib.hid (hyp.grew hal)
                have HYS := Lib.hid (hys.grew hal)
                obtain ⟨YA, yc, rfl⟩ := ints_slice hyp
                obtain ⟨YS, sc, rfl⟩ := strs_slice hys
                clear hcy hr hmi hy hyp hys hv1 hc1
                generalize preJ bef x.2.1 j = X at *
                go_wp2_with fail
                refine (KR.out _).mono ?_
                rintro e w4 ⟨rfl, hg4⟩
                have hB4 := hB.trans hg4
                obtain ⟨z0, z1, z2, z3, z4⟩ := HCY.out.grew hbb (hal.trans hB4)
                have hO1 := hO.grew (hg4.trans ((Grew.refl w4).alloc (.cells #[.int .i64 y.1, .slice YA y.2.1.length yc, .slice YS y.2.2.1.length sc, .string y.2.2.2.1, .string y.2.2.2.2] 42)))
                have hB1 := hB4.alloc (.cells #[.int .i64 y.1, .slice YA y.2.1.length yc, .slice YS y.2.2.1.length sc, .string y.2.2.2.1, .string y.2.2.2.2] 42)
                go_wp2_with (first | (at_builtin; refine wpList_appQ (w0 := wb) _ _ rfl rfl _ X rfl hO1 hB1 _ _ _ y rfl (rd_litQ _ _ _ _ _ _ _) HYP.out HYS.out (by omega) ?_; intro v2 w5 hown2 hg5 hgr5 hob5))
                go_roundw
                case rel => exact ⟨j + 1, by omega, by go_num, by rw [HST.out]; exact hown2, hg5, HPN⟩
                case measure => simp [intOf]; omega
              · rw [decide_eq_false hr] at KR
                replace KR := Lib.hid KR
                have HNO := Lib.hid (HD0.out.trans (dcd_false (fun h => hr (by have := premJ_all.2 h.2.1 j hlt2; rw [HBL.out] at this; exact this))))
                clear hr hc1 hv1
                generalize it x.2.1 j = q at *
                go_wp2_with fail
                refine (KR.out _).mono ?_
                rintro e w4 ⟨rfl, hg4⟩
                go_wp2_with fail
                go_ret
                exact ⟨congrArg (fun b => Ending.returned (Value.bool b)) HNO.out.symm, hB0.trans hg4⟩
            · obtain rfl : j = x.2.1.length := by omega
              have KT := rule_allJ x x.2.1.length hn _ _ u6 (preJ bef x.2.1 x.2.1.length) wr (HUP.out.grew hB0) (HS.out.grew hB0) (hO.jfs hB) hsq.out hsc hsm hus.out (preJ_all _ _)
              rw [preJ_map, givenM_all] at KT
              have hfin : goodJ bef x ↔ okJ x (givenJ bef x.2.1) := ⟨fun h => h.2.2, fun h => ⟨hsq.out, premJ_all.1 HP.out, h⟩⟩
              have HFIN := Lib.hid (HD0.out.trans (dcd_congr hfin)).symm
              clear hfin
              generalize dcd (okJ x (givenJ bef x.2.1)) = R at *
              replace KT := Lib.hid KT
              go_wp2_with fail
              refine (KT.out).mono ?_
              rintro e w4 ⟨rfl, hg4⟩
              go_wp2_with fail
              go_ret
              exact ⟨congrArg (fun b => Ending.returned (Value.bool b)) HFIN.out, hB0.trans hg4⟩
        | false =>
          rw [dcd_false (fun h => by have := (hgl h).2.2; rw [hu] at this; exact this.elim (fun h => by cases h) hM)]
          rw [hu] at KU
          replace KU := Lib.hid KU
          clear hM hgl hu hsq HC HS HUP HTK HBL
          go_enter Tryz.func32, Tryz.ntmps32
          go_wp2_with fail
          rw [← hwb]
          clear hwb
          refine wp_region_held_drew (S := fun w' => Grew wb w') (by kernel_rfl) rbd (fun hHeld => ?_)
          refine wpAnyH_take (i := 0) (oi := ?on53) (v := ?vn53) ?hin53 ?an53 ?bn53 ?cn53 ?qn53 (Or.inl ⟨?dn53, ?hyn53⟩) hHeld ?restn53
          case hin53 => (simp only [List.getElem?_toArray, List.getElem?_cons_zero]; exact rfl)
          case an53 => kernel_rfl
          case bn53 => kernel_rfl
          case cn53 => kernel_rfl
          case qn53 => exact fun _ _ _ h => h
          case dn53 => rfl
          case hyn53 => (intro z hSw; (try dsimp only at hSw); go_simp; (try with_reducible rfl))
          try simp only [Act.put, List.setIfInBounds_toArray, List.set_cons_zero, List.set_cons_succ]
          refine wpAnyH_take (i := 1) (oi := ?on54) (v := ?vn54) ?hin54 ?an54 ?bn54 ?cn54 ?qn54 (Or.inl ⟨?dn54, ?hyn54⟩) hHeld ?restn54
          case hin54 => (simp only [List.getElem?_toArray, List.getElem?_cons_succ, List.getElem?_cons_zero]; exact rfl)
          case an54 => kernel_rfl
          case bn54 => kernel_rfl
          case cn54 => kernel_rfl
          case qn54 => exact fun _ _ _ h => h
          case dn54 => rfl
          case hyn54 => (intro z hSw; (try dsimp only at hSw); go_simp; (try with_reducible rfl))
          try simp only [Act.put, List.setIfInBounds_toArray, List.set_cons_zero, List.set_cons_succ]
          refine wpAnyH_take (i := 2) (oi := ?on55) (v := ?vn55) ?hin55 ?an55 ?bn55 ?cn55 ?qn55 (Or.inl ⟨?dn55, ?hyn55⟩) hHeld ?restn55
          case hin55 => (simp only [List.getElem?_toArray, List.getElem?_cons_succ, List.getElem?_cons_zero]; exact rfl)
          case an55 => kernel_rfl
          case bn55 => kernel_rfl
          case cn55 => kernel_rfl
          case qn55 => exact fun _ _ _ h => h
          case dn55 => rfl
          case hyn55 => (intro z hSw; (try dsimp only at hSw); go_simp; (try with_reducible rfl))
          try simp only [Act.put, List.setIfInBounds_toArray, List.set_cons_zero, List.set_cons_succ]
          refine wpAnyH_take (i := 3) (oi := ?on56) (v := ?vn56) ?hin56 ?an56 ?bn56 ?cn56 ?qn56 (Or.inl ⟨?dn56, ?hyn56⟩) hHeld ?restn56
          case hin56 => (simp only [List.getElem?_toArray, List.getElem?_cons_succ, List.getElem?_cons_zero]; exact rfl)
          case an56 => kernel_rfl
          case bn56 => kernel_rfl
          case cn56 => kernel_rfl
          case qn56 => exact fun _ _ _ h => h
          case dn56 => rfl
          case hyn56 => (intro z hSw; (try dsimp only at hSw); go_simp; (try with_reducible rfl))
          try simp only [Act.put, List.setIfInBounds_toArray, List.set_cons_zero, List.set_cons_succ]
          refine wpAnyH_take (i := 4) (oi := ?on57) (v := ?vn57) ?hin57 ?an57 ?bn57 ?cn57 ?qn57 (Or.inl ⟨?dn57, ?hyn57⟩) hHeld ?restn57
          case hin57 => (simp only [List.getElem?_toArray, List.getElem?_cons_succ, List.getElem?_cons_zero]; exact rfl)
          case an57 => kernel_rfl
          case bn57 => kernel_rfl
          case cn57 => kernel_rfl
          case qn57 => exact fun _ _ _ h => h
          case dn57 => rfl
          case hyn57 => (intro z hSw; (try dsimp only at hSw); go_simp; (try with_reducible rfl))
          try simp only [Act.put, List.setIfInBounds_toArray, List.set_cons_zero, List.set_cons_succ]
          refine wpAnyH_ready (rs := [5]) (by kernel_rfl) (by simp) ?_
          refine AllReadyH.cons (o := ?on58) ?hin58 ?restn58 AllReadyH.nil
          case hin58 => (simp only [List.getElem?_toArray, List.getElem?_cons_succ, List.getElem?_cons_zero]; exact rfl)
          intro K hK
          go_simp
          go_at_call 40
          refine (KN.out _).mono ?_
          rintro e wc ⟨rfl, hgc⟩
          have gwc : Grew w wc := Grew.trans (by repeat (first | with_reducible assumption | with_reducible refine Grew.alloc ?_ _ | with_reducible refine Grew.drew ?_ | with_reducible refine Grew.drewN ?_ _)) hgc
          have mwc : Grew wb wc := Grew.trans (by repeat (first | with_reducible assumption | with_reducible refine Grew.alloc ?_ _ | with_reducible refine Grew.drew ?_ | with_reducible refine Grew.drewN ?_ _)) hgc
          refine hK.out _ _ ?_ (fun hHeld => ?_)
          · (try dsimp only); first | with_reducible assumption | exact Grew.alloc ‹_› _
          clear hK K
          try simp only [Act.put, List.setIfInBounds_toArray, List.set_cons_zero, List.set_cons_succ]
          refine wpAnyH_take (i := 6) (oi := ?on59) (v := ?vn59) ?hin59 ?an59 ?bn59 ?cn59 ?qn59 (Or.inl ⟨?dn59, ?hyn59⟩) hHeld ?restn59
          case hin59 => (simp only [List.getElem?_toArray, List.getElem?_cons_succ, List.getElem?_cons_zero]; exact rfl)
          case an59 => kernel_rfl
          case bn59 => kernel_rfl
          case cn59 => kernel_rfl
          case qn59 => exact fun _ _ _ h => h
          case dn59 => rfl
          case hyn59 => (intro z hSw; (try dsimp only at hSw); go_simp; (try with_reducible rfl))
          try simp only [Act.put, List.setIfInBounds_toArray, List.set_cons_zero, List.set_cons_succ]
          refine wpAnyH_take (i := 7) (oi := ?on60) (v := ?vn60) ?hin60 ?an60 ?bn60 ?cn60 ?qn60 (Or.inl ⟨?dn60, ?hyn60⟩) hHeld ?restn60
          case hin60 => (simp only [List.getElem?_toArray, List.getElem?_cons_succ, List.getElem?_cons_zero]; exact rfl)
          case an60 => kernel_rfl
          case bn60 => kernel_rfl
          case cn60 => kernel_rfl
          case qn60 => exact fun _ _ _ h => h
          case dn60 => rfl
          case hyn60 => (intro z hSw; (try dsimp only at hSw); go_simp; (try with_reducible rfl))
          try simp only [Act.put, List.setIfInBounds_toArray, List.set_cons_zero, List.set_cons_succ]
          refine wpAnyH_take (i := 8) (oi := ?on61) (v := ?vn61) ?hin61 ?an61 ?bn61 ?cn61 ?qn61 (Or.inl ⟨?dn61, ?hyn61⟩) hHeld ?restn61
          case hin61 => (simp only [List.getElem?_toArray, List.getElem?_cons_succ, List.getElem?_cons_zero]; exact rfl)
          case an61 => kernel_rfl
          case bn61 => kernel_rfl
          case cn61 => kernel_rfl
          case qn61 => exact fun _ _ _ h => h
          case dn61 => rfl
          case hyn61 => (intro z hSw; (try dsimp only at hSw); go_simp; (try with_reducible rfl))
          try simp only [Act.put, List.setIfInBounds_toArray, List.set_cons_zero, List.set_cons_succ]
          refine wpAnyH_take (i := 9) (oi := ?on62) (v := ?vn62) ?hin62 ?an62 ?bn62 ?cn62 ?qn62 (Or.inl ⟨?dn62, ?hyn62⟩) hHeld ?restn62
          case hin62 => (simp only [List.getElem?_toArray, List.getElem?_cons_succ, List.getElem?_cons_zero]; exact rfl)
          case an62 => kernel_rfl
          case bn62 => kernel_rfl
          case cn62 => kernel_rfl
          case qn62 => exact fun _ _ _ h => h
          case dn62 => rfl
          case hyn62 => (intro z hSw; (try dsimp only at hSw); go_simp; (try with_reducible rfl))
          try simp only [Act.put, List.setIfInBounds_toArray, List.set_cons_zero, List.set_cons_succ]
          refine wpAnyH_take (i := 10) (oi := ?on63) (v := ?vn63) ?hin63 ?an63 ?bn63 ?cn63 ?qn63 (Or.inl ⟨?dn63, ?hyn63⟩) hHeld ?restn63
          case hin63 => (simp only [List.getElem?_toArray, List.getElem?_cons_succ, List.getElem?_cons_zero]; exact rfl)
          case an63 => kernel_rfl
          case bn63 => kernel_rfl
          case cn63 => kernel_rfl
          case qn63 => exact fun _ _ _ h => h
          case dn63 => rfl
          case hyn63 => (intro z hSw; (try dsimp only at hSw); go_simp; (try with_reducible rfl))
          try simp only [Act.put, List.setIfInBounds_toArray, List.set_cons_zero, List.set_cons_succ]
          refine wpAnyH_take (i := 11) (oi := ?on64) (v := ?vn64) ?hin64 ?an64 ?bn64 ?cn64 ?qn64 (Or.inl ⟨?dn64, ?hyn64⟩) hHeld ?restn64
          case hin64 => (simp only [List.getElem?_toArray, List.getElem?_cons_succ, List.getElem?_cons_zero]; exact rfl)
          case an64 => kernel_rfl
          case bn64 => kernel_rfl
          case cn64 => kernel_rfl
          case qn64 => exact fun _ _ _ h => h
          case dn64 => rfl
          case hyn64 => (intro z hSw; (try dsimp only at hSw); go_simp; (try with_reducible rfl))
          try simp only [Act.put, List.setIfInBounds_toArray, List.set_cons_zero, List.set_cons_succ]
          refine wpAnyH_ready (rs := [12]) (by kernel_rfl) (by simp) ?_
          refine AllReadyH.cons (o := ?on65) ?hin65 ?restn65 AllReadyH.nil
          case hin65 => (simp only [List.getElem?_toArray, List.getElem?_cons_succ, List.getElem?_cons_zero]; exact rfl)
          intro K hK
          go_simp
          go_at_call 41
          refine (KI.out _ (by repeat (first | with_reducible assumption | with_reducible refine Grew.alloc ?_ _ | with_reducible refine Grew.drew ?_ | with_reducible refine Grew.drewN ?_ _))).mono ?_
          rintro e wi ⟨rfl, hgi⟩
          have gwi : Grew w wi := Grew.trans (by repeat (first | with_reducible assumption | with_reducible refine Grew.alloc ?_ _ | with_reducible refine Grew.drew ?_ | with_reducible refine Grew.drewN ?_ _)) hgi
          have mwi : Grew wb wi := Grew.trans (by repeat (first | with_reducible assumption | with_reducible refine Grew.alloc ?_ _ | with_reducible refine Grew.drew ?_ | with_reducible refine Grew.drewN ?_ _)) hgi
          refine hK.out _ _ ?_ (fun hHeld => ?_)
          · (try dsimp only); first | with_reducible assumption | exact Grew.alloc ‹_› _
          clear hK K
          try simp only [Act.put, List.setIfInBounds_toArray, List.set_cons_zero, List.set_cons_succ]
          refine wpAnyH_take (i := 13) (oi := ?on66) (v := ?vn66) ?hin66 ?an66 ?bn66 ?cn66 ?qn66 (Or.inl ⟨?dn66, ?hyn66⟩) hHeld ?restn66
          case hin66 => (simp only [List.getElem?_toArray, List.getElem?_cons_succ, List.getElem?_cons_zero]; exact rfl)
          case an66 => kernel_rfl
          case bn66 => kernel_rfl
          case cn66 => kernel_rfl
          case qn66 => exact fun _ _ _ h => h
          case dn66 => rfl
          case hyn66 => (intro z hSw; (try dsimp only at hSw); go_simp; (try with_reducible rfl))
          try simp only [Act.put, List.setIfInBounds_toArray, List.set_cons_zero, List.set_cons_succ]
          refine wpAnyH_take (i := 14) (oi := ?on67) (v := ?vn67) ?hin67 ?an67 ?bn67 ?cn67 ?qn67 (Or.inl ⟨?dn67, ?hyn67⟩) hHeld ?restn67
          case hin67 => (simp only [List.getElem?_toArray, List.getElem?_cons_succ, List.getElem?_cons_zero]; exact rfl)
          case an67 => kernel_rfl
          case bn67 => kernel_rfl
          case cn67 => kernel_rfl
          case qn67 => exact fun _ _ _ h => h
          case dn67 => rfl
          case hyn67 => (intro z hSw; (try dsimp only at hSw); go_simp; (try with_reducible rfl))
          try simp only [Act.put, List.setIfInBounds_toArray, List.set_cons_zero, List.set_cons_succ]
          refine wpAnyH_take (i := 15) (oi := ?on68) (v := ?vn68) ?hin68 ?an68 ?bn68 ?cn68 ?qn68 (Or.inl ⟨?dn68, ?hyn68⟩) hHeld ?restn68
          case hin68 => (simp only [List.getElem?_toArray, List.getElem?_cons_succ, List.getElem?_cons_zero]; exact rfl)
          case an68 => kernel_rfl
          case bn68 => kernel_rfl
          case cn68 => kernel_rfl
          case qn68 => exact fun _ _ _ h => h
          case dn68 => rfl
          case hyn68 => (intro z hSw; (try dsimp only at hSw); go_simp; (try with_reducible rfl))
          try simp only [Act.put, List.setIfInBounds_toArray, List.set_cons_zero, List.set_cons_succ]
          refine wpAnyH_take (i := 16) (oi := ?on69) (v := ?vn69) ?hin69 ?an69 ?bn69 ?cn69 ?qn69 (Or.inl ⟨?dn69, ?hyn69⟩) hHeld ?restn69
          case hin69 => (simp only [List.getElem?_toArray, List.getElem?_cons_succ, List.getElem?_cons_zero]; exact rfl)
          case an69 => kernel_rfl
          case bn69 => kernel_rfl
          case cn69 => kernel_rfl
          case qn69 => exact fun _ _ _ h => h
          case dn69 => rfl
          case hyn69 => (intro z hSw; (try dsimp only at hSw); go_simp; (try with_reducible rfl))
          try simp only [Act.put, List.setIfInBounds_toArray, List.set_cons_zero, List.set_cons_succ]
          refine wpAnyH_take (i := 17) (oi := ?on70) (v := ?vn70) ?hin70 ?an70 ?bn70 ?cn70 ?qn70 (Or.inl ⟨?dn70, ?hyn70⟩) hHeld ?restn70
          case hin70 => (simp only [List.getElem?_toArray, List.getElem?_cons_succ, List.getElem?_cons_zero]; exact rfl)
          case an70 => kernel_rfl
          case bn70 => kernel_rfl
          case cn70 => kernel_rfl
          case qn70 => exact fun _ _ _ h => h
          case dn70 => rfl
          case hyn70 => (intro z hSw; (try dsimp only at hSw); go_simp; (try with_reducible rfl))
          try simp only [Act.put, List.setIfInBounds_toArray, List.set_cons_zero, List.set_cons_succ]
          refine wpAnyH_take (i := 18) (oi := ?on71) (v := ?vn71) ?hin71 ?an71 ?bn71 ?cn71 ?qn71 (Or.inl ⟨?dn71, ?hyn71⟩) hHeld ?restn71
          case hin71 => (simp only [List.getElem?_toArray, List.getElem?_cons_succ, List.getElem?_cons_zero]; exact rfl)
          case an71 => kernel_rfl
          case bn71 => kernel_rfl
          case cn71 => kernel_rfl
          case qn71 => exact fun _ _ _ h => h
          case dn71 => rfl
          case hyn71 => (intro z hSw; (try dsimp only at hSw); go_simp; (try with_reducible rfl))
          try simp only [Act.put, List.setIfInBounds_toArray, List.set_cons_zero, List.set_cons_succ]
          refine wpAnyH_take (i := 19) (oi := ?on72) (v := ?vn72) ?hin72 ?an72 ?bn72 ?cn72 ?qn72 (Or.inl ⟨?dn72, ?hyn72⟩) hHeld ?restn72
          case hin72 => (simp only [List.getElem?_toArray, List.getElem?_cons_succ, List.getElem?_cons_zero]; exact rfl)
          case an72 => kernel_rfl
          case bn72 => kernel_rfl
          case cn72 => kernel_rfl
          case qn72 => exact fun _ _ _ h => h
          case dn72 => rfl
          case hyn72 => (intro z hSw; (try dsimp only at hSw); go_simp; (try with_reducible rfl))
          try simp only [Act.put, List.setIfInBounds_toArray, List.set_cons_zero, List.set_cons_succ]
          refine wpAnyH_take (i := 20) (oi := ?on73) (v := ?vn73) ?hin73 ?an73 ?bn73 ?cn73 ?qn73 (Or.inl ⟨?dn73, ?hyn73⟩) hHeld ?restn73
          case hin73 => (simp only [List.getElem?_toArray, List.getElem?_cons_succ, List.getElem?_cons_zero]; exact rfl)
          case an73 => kernel_rfl
          case bn73 => kernel_rfl
          case cn73 => kernel_rfl
          case qn73 => exact fun _ _ _ h => h
          case dn73 => rfl
          case hyn73 => (intro z hSw; (try dsimp only at hSw); go_simp; (try with_reducible rfl))
          try simp only [Act.put, List.setIfInBounds_toArray, List.set_cons_zero, List.set_cons_succ]
          refine wpAnyH_take (i := 21) (oi := ?on74) (v := ?vn74) ?hin74 ?an74 ?bn74 ?cn74 ?qn74 (Or.inl ⟨?dn74, ?hyn74⟩) hHeld ?restn74
          case hin74 => (simp only [List.getElem?_toArray, List.getElem?_cons_succ, List.getElem?_cons_zero]; exact rfl)
          case an74 => kernel_rfl
          case bn74 => kernel_rfl
          case cn74 => kernel_rfl
          case qn74 => exact fun _ _ _ h => h
          case dn74 => rfl
          case hyn74 => (intro z hSw; (try dsimp only at hSw); go_simp; (try with_reducible rfl))
          try simp only [Act.put, List.setIfInBounds_toArray, List.set_cons_zero, List.set_cons_succ]
          refine wpAnyH_ready (rs := [22]) (by kernel_rfl) (by simp) ?_
          refine AllReadyH.cons (o := ?on75) ?hin75 ?restn75 AllReadyH.nil
          case hin75 => (simp only [List.getElem?_toArray, List.getElem?_cons_succ, List.getElem?_cons_zero]; exact rfl)
          intro K hK
          go_simp
          go_at_call 42
          refine (KU.out _).mono ?_
          rintro e wu ⟨rfl, hgu⟩
          have gwu : Grew w wu := Grew.trans (by repeat (first | with_reducible assumption | with_reducible refine Grew.alloc ?_ _ | with_reducible refine Grew.drew ?_ | with_reducible refine Grew.drewN ?_ _)) hgu
          have mwu : Grew wb wu := Grew.trans (by repeat (first | with_reducible assumption | with_reducible refine Grew.alloc ?_ _ | with_reducible refine Grew.drew ?_ | with_reducible refine Grew.drewN ?_ _)) hgu
          refine hK.out _ _ ?_ (fun hHeld => ?_)
          · (try dsimp only); first | with_reducible assumption | exact Grew.alloc ‹_› _
          clear hK K
          try simp only [Act.put, List.setIfInBounds_toArray, List.set_cons_zero, List.set_cons_succ]
          refine wpAnyH_take (i := 23) (oi := ?on76) (v := ?vn76) ?hin76 ?an76 ?bn76 ?cn76 ?qn76 (Or.inl ⟨?dn76, ?hyn76⟩) hHeld ?restn76
          case hin76 => (simp only [List.getElem?_toArray, List.getElem?_cons_succ, List.getElem?_cons_zero]; exact rfl)
          case an76 => kernel_rfl
          case bn76 => kernel_rfl
          case cn76 => kernel_rfl
          case qn76 => exact fun _ _ _ h => h
          case dn76 => rfl
          case hyn76 => (intro z hSw; (try dsimp only at hSw); go_simp; (try with_reducible rfl))
          try simp only [Act.put, List.setIfInBounds_toArray, List.set_cons_zero, List.set_cons_succ]
          refine wpAnyH_take (i := 24) (oi := ?on77) (v := ?vn77) ?hin77 ?an77 ?bn77 ?cn77 ?qn77 (Or.inl ⟨?dn77, ?hyn77⟩) hHeld ?restn77
          case hin77 => (simp only [List.getElem?_toArray, List.getElem?_cons_succ, List.getElem?_cons_zero]; exact rfl)
          case an77 => kernel_rfl
          case bn77 => kernel_rfl
          case cn77 => kernel_rfl
          case qn77 => exact fun _ _ _ h => h
          case dn77 => rfl
          case hyn77 => (intro z hSw; (try dsimp only at hSw); go_simp; (try with_reducible rfl))
          try simp only [Act.put, List.setIfInBounds_toArray, List.set_cons_zero, List.set_cons_succ]
          refine wpAnyH_take (i := 25) (oi := ?on78) (v := ?vn78) ?hin78 ?an78 ?bn78 ?cn78 ?qn78 (Or.inl ⟨?dn78, ?hyn78⟩) hHeld ?restn78
          case hin78 => (simp only [List.getElem?_toArray, List.getElem?_cons_succ, List.getElem?_cons_zero]; exact rfl)
          case an78 => kernel_rfl
          case bn78 => kernel_rfl
          case cn78 => kernel_rfl
          case qn78 => exact fun _ _ _ h => h
          case dn78 => rfl
          case hyn78 => (intro z hSw; (try dsimp only at hSw); go_simp; (try with_reducible rfl))
          try simp only [Act.put, List.setIfInBounds_toArray, List.set_cons_zero, List.set_cons_succ]
          refine wpAnyH_done (by kernel_rfl) ?_ _
          go_wp2_with fail
          go_ret
          exact ⟨rfl, (by repeat (first | with_reducible assumption | with_reducible refine Grew.alloc ?_ _ | with_reducible refine Grew.drew ?_ | with_reducible refine Grew.drewN ?_ _))⟩
    | false =>
      rw [dcd_false (fun h => by have := (hgl h).2.1; rw [hsq] at this; cases this)]
      rw [hsq] at KI
      replace KI := Lib.hid KI
      clear hgl hsq HC HS HUP HTK HBL
      go_enter Tryz.func32, Tryz.ntmps32
      go_wp2_with fail
      rw [← hwb]
      clear hwb
      refine wp_region_held_drew (S := fun w' => Grew wb w') (by kernel_rfl) rbd (fun hHeld => ?_)
      refine wpAnyH_take (i := 0) (oi := ?on79) (v := ?vn79) ?hin79 ?an79 ?bn79 ?cn79 ?qn79 (Or.inl ⟨?dn79, ?hyn79⟩) hHeld ?restn79
      case hin79 => (simp only [List.getElem?_toArray, List.getElem?_cons_zero]; exact rfl)
      case an79 => kernel_rfl
      case bn79 => kernel_rfl
      case cn79 => kernel_rfl
      case qn79 => exact fun _ _ _ h => h
      case dn79 => rfl
      case hyn79 => (intro z hSw; (try dsimp only at hSw); go_simp; (try with_reducible rfl))
      try simp only [Act.put, List.setIfInBounds_toArray, List.set_cons_zero, List.set_cons_succ]
      refine wpAnyH_take (i := 1) (oi := ?on80) (v := ?vn80) ?hin80 ?an80 ?bn80 ?cn80 ?qn80 (Or.inl ⟨?dn80, ?hyn80⟩) hHeld ?restn80
      case hin80 => (simp only [List.getElem?_toArray, List.getElem?_cons_succ, List.getElem?_cons_zero]; exact rfl)
      case an80 => kernel_rfl
      case bn80 => kernel_rfl
      case cn80 => kernel_rfl
      case qn80 => exact fun _ _ _ h => h
      case dn80 => rfl
      case hyn80 => (intro z hSw; (try dsimp only at hSw); go_simp; (try with_reducible rfl))
      try simp only [Act.put, List.setIfInBounds_toArray, List.set_cons_zero, List.set_cons_succ]
      refine wpAnyH_take (i := 2) (oi := ?on81) (v := ?vn81) ?hin81 ?an81 ?bn81 ?cn81 ?qn81 (Or.inl ⟨?dn81, ?hyn81⟩) hHeld ?restn81
      case hin81 => (simp only [List.getElem?_toArray, List.getElem?_cons_succ, List.getElem?_cons_zero]; exact rfl)
      case an81 => kernel_rfl
      case bn81 => kernel_rfl
      case cn81 => kernel_rfl
      case qn81 => exact fun _ _ _ h => h
      case dn81 => rfl
      case hyn81 => (intro z hSw; (try dsimp only at hSw); go_simp; (try with_reducible rfl))
      try simp only [Act.put, List.setIfInBounds_toArray, List.set_cons_zero, List.set_cons_succ]
      refine wpAnyH_take (i := 3) (oi := ?on82) (v := ?vn82) ?hin82 ?an82 ?bn82 ?cn82 ?qn82 (Or.inl ⟨?dn82, ?hyn82⟩) hHeld ?restn82
      case hin82 => (simp only [List.getElem?_toArray, List.getElem?_cons_succ, List.getElem?_cons_zero]; exact rfl)
      case an82 => kernel_rfl
      case bn82 => kernel_rfl
      case cn82 => kernel_rfl
      case qn82 => exact fun _ _ _ h => h
      case dn82 => rfl
      case hyn82 => (intro z hSw; (try dsimp only at hSw); go_simp; (try with_reducible rfl))
      try simp only [Act.put, List.setIfInBounds_toArray, List.set_cons_zero, List.set_cons_succ]
      refine wpAnyH_take (i := 4) (oi := ?on83) (v := ?vn83) ?hin83 ?an83 ?bn83 ?cn83 ?qn83 (Or.inl ⟨?dn83, ?hyn83⟩) hHeld ?restn83
      case hin83 => (simp only [List.getElem?_toArray, List.getElem?_cons_succ, List.getElem?_cons_zero]; exact rfl)
      case an83 => kernel_rfl
      case bn83 => kernel_rfl
      case cn83 => kernel_rfl
      case qn83 => exact fun _ _ _ h => h
      case dn83 => rfl
      case hyn83 => (intro z hSw; (try dsimp only at hSw); go_simp; (try with_reducible rfl))
      try simp only [Act.put, List.setIfInBounds_toArray, List.set_cons_zero, List.set_cons_succ]
      refine wpAnyH_ready (rs := [5]) (by kernel_rfl) (by simp) ?_
      refine AllReadyH.cons (o := ?on84) ?hin84 ?restn84 AllReadyH.nil
      case hin84 => (simp only [List.getElem?_toArray, List.getElem?_cons_succ, List.getElem?_cons_zero]; exact rfl)
      intro K hK
      go_simp
      go_at_call 40
      refine (KN.out _).mono ?_
      rintro e wc ⟨rfl, hgc⟩
      have gwc : Grew w wc := Grew.trans (by repeat (first | with_reducible assumption | with_reducible refine Grew.alloc ?_ _ | with_reducible refine Grew.drew ?_ | with_reducible refine Grew.drewN ?_ _)) hgc
      have mwc : Grew wb wc := Grew.trans (by repeat (first | with_reducible assumption | with_reducible refine Grew.alloc ?_ _ | with_reducible refine Grew.drew ?_ | with_reducible refine Grew.drewN ?_ _)) hgc
      refine hK.out _ _ ?_ (fun hHeld => ?_)
      · (try dsimp only); first | with_reducible assumption | exact Grew.alloc ‹_› _
      clear hK K
      try simp only [Act.put, List.setIfInBounds_toArray, List.set_cons_zero, List.set_cons_succ]
      refine wpAnyH_take (i := 6) (oi := ?on85) (v := ?vn85) ?hin85 ?an85 ?bn85 ?cn85 ?qn85 (Or.inl ⟨?dn85, ?hyn85⟩) hHeld ?restn85
      case hin85 => (simp only [List.getElem?_toArray, List.getElem?_cons_succ, List.getElem?_cons_zero]; exact rfl)
      case an85 => kernel_rfl
      case bn85 => kernel_rfl
      case cn85 => kernel_rfl
      case qn85 => exact fun _ _ _ h => h
      case dn85 => rfl
      case hyn85 => (intro z hSw; (try dsimp only at hSw); go_simp; (try with_reducible rfl))
      try simp only [Act.put, List.setIfInBounds_toArray, List.set_cons_zero, List.set_cons_succ]
      refine wpAnyH_take (i := 7) (oi := ?on86) (v := ?vn86) ?hin86 ?an86 ?bn86 ?cn86 ?qn86 (Or.inl ⟨?dn86, ?hyn86⟩) hHeld ?restn86
      case hin86 => (simp only [List.getElem?_toArray, List.getElem?_cons_succ, List.getElem?_cons_zero]; exact rfl)
      case an86 => kernel_rfl
      case bn86 => kernel_rfl
      case cn86 => kernel_rfl
      case qn86 => exact fun _ _ _ h => h
      case dn86 => rfl
      case hyn86 => (intro z hSw; (try dsimp only at hSw); go_simp; (try with_reducible rfl))
      try simp only [Act.put, List.setIfInBounds_toArray, List.set_cons_zero, List.set_cons_succ]
      refine wpAnyH_take (i := 8) (oi := ?on87) (v := ?vn87) ?hin87 ?an87 ?bn87 ?cn87 ?qn87 (Or.inl ⟨?dn87, ?hyn87⟩) hHeld ?restn87
      case hin87 => (simp only [List.getElem?_toArray, List.getElem?_cons_succ, List.getElem?_cons_zero]; exact rfl)
      case an87 => kernel_rfl
      case bn87 => kernel_rfl
      case cn87 => kernel_rfl
      case qn87 => exact fun _ _ _ h => h
      case dn87 => rfl
      case hyn87 => (intro z hSw; (try dsimp only at hSw); go_simp; (try with_reducible rfl))
      try simp only [Act.put, List.setIfInBounds_toArray, List.set_cons_zero, List.set_cons_succ]
      refine wpAnyH_take (i := 9) (oi := ?on88) (v := ?vn88) ?hin88 ?an88 ?bn88 ?cn88 ?qn88 (Or.inl ⟨?dn88, ?hyn88⟩) hHeld ?restn88
      case hin88 => (simp only [List.getElem?_toArray, List.getElem?_cons_succ, List.getElem?_cons_zero]; exact rfl)
      case an88 => kernel_rfl
      case bn88 => kernel_rfl
      case cn88 => kernel_rfl
      case qn88 => exact fun _ _ _ h => h
      case dn88 => rfl
      case hyn88 => (intro z hSw; (try dsimp only at hSw); go_simp; (try with_reducible rfl))
      try simp only [Act.put, List.setIfInBounds_toArray, List.set_cons_zero, List.set_cons_succ]
      refine wpAnyH_take (i := 10) (oi := ?on89) (v := ?vn89) ?hin89 ?an89 ?bn89 ?cn89 ?qn89 (Or.inl ⟨?dn89, ?hyn89⟩) hHeld ?restn89
      case hin89 => (simp only [List.getElem?_toArray, List.getElem?_cons_succ, List.getElem?_cons_zero]; exact rfl)
      case an89 => kernel_rfl
      case bn89 => kernel_rfl
      case cn89 => kernel_rfl
      case qn89 => exact fun _ _ _ h => h
      case dn89 => rfl
      case hyn89 => (intro z hSw; (try dsimp only at hSw); go_simp; (try with_reducible rfl))
      try simp only [Act.put, List.setIfInBounds_toArray, List.set_cons_zero, List.set_cons_succ]
      refine wpAnyH_take (i := 11) (oi := ?on90) (v := ?vn90) ?hin90 ?an90 ?bn90 ?cn90 ?qn90 (Or.inl ⟨?dn90, ?hyn90⟩) hHeld ?restn90
      case hin90 => (simp only [List.getElem?_toArray, List.getElem?_cons_succ, List.getElem?_cons_zero]; exact rfl)
      case an90 => kernel_rfl
      case bn90 => kernel_rfl
      case cn90 => kernel_rfl
      case qn90 => exact fun _ _ _ h => h
      case dn90 => rfl
      case hyn90 => (intro z hSw; (try dsimp only at hSw); go_simp; (try with_reducible rfl))
      try simp only [Act.put, List.setIfInBounds_toArray, List.set_cons_zero, List.set_cons_succ]
      refine wpAnyH_ready (rs := [12]) (by kernel_rfl) (by simp) ?_
      refine AllReadyH.cons (o := ?on91) ?hin91 ?restn91 AllReadyH.nil
      case hin91 => (simp only [List.getElem?_toArray, List.getElem?_cons_succ, List.getElem?_cons_zero]; exact rfl)
      intro K hK
      go_simp
      go_at_call 41
      refine (KI.out _ (by repeat (first | with_reducible assumption | with_reducible refine Grew.alloc ?_ _ | with_reducible refine Grew.drew ?_ | with_reducible refine Grew.drewN ?_ _))).mono ?_
      rintro e wi ⟨rfl, hgi⟩
      have gwi : Grew w wi := Grew.trans (by repeat (first | with_reducible assumption | with_reducible refine Grew.alloc ?_ _ | with_reducible refine Grew.drew ?_ | with_reducible refine Grew.drewN ?_ _)) hgi
      have mwi : Grew wb wi := Grew.trans (by repeat (first | with_reducible assumption | with_reducible refine Grew.alloc ?_ _ | with_reducible refine Grew.drew ?_ | with_reducible refine Grew.drewN ?_ _)) hgi
      refine hK.out _ _ ?_ (fun hHeld => ?_)
      · (try dsimp only); first | with_reducible assumption | exact Grew.alloc ‹_› _
      clear hK K
      try simp only [Act.put, List.setIfInBounds_toArray, List.set_cons_zero, List.set_cons_succ]
      refine wpAnyH_take (i := 13) (oi := ?on92) (v := ?vn92) ?hin92 ?an92 ?bn92 ?cn92 ?qn92 (Or.inl ⟨?dn92, ?hyn92⟩) hHeld ?restn92
      case hin92 => (simp only [List.getElem?_toArray, List.getElem?_cons_succ, List.getElem?_cons_zero]; exact rfl)
      case an92 => kernel_rfl
      case bn92 => kernel_rfl
      case cn92 => kernel_rfl
      case qn92 => exact fun _ _ _ h => h
      case dn92 => rfl
      case hyn92 => (intro z hSw; (try dsimp only at hSw); go_simp; (try with_reducible rfl))
      try simp only [Act.put, List.setIfInBounds_toArray, List.set_cons_zero, List.set_cons_succ]
      refine wpAnyH_take (i := 14) (oi := ?on93) (v := ?vn93) ?hin93 ?an93 ?bn93 ?cn93 ?qn93 (Or.inl ⟨?dn93, ?hyn93⟩) hHeld ?restn93
      case hin93 => (simp only [List.getElem?_toArray, List.getElem?_cons_succ, List.getElem?_cons_zero]; exact rfl)
      case an93 => kernel_rfl
      case bn93 => kernel_rfl
      case cn93 => kernel_rfl
      case qn93 => exact fun _ _ _ h => h
      case dn93 => rfl
      case hyn93 => (intro z hSw; (try dsimp only at hSw); go_simp; (try with_reducible rfl))
      try simp only [Act.put, List.setIfInBounds_toArray, List.set_cons_zero, List.set_cons_succ]
      refine wpAnyH_take (i := 15) (oi := ?on94) (v := ?vn94) ?hin94 ?an94 ?bn94 ?cn94 ?qn94 (Or.inl ⟨?dn94, ?hyn94⟩) hHeld ?restn94
      case hin94 => (simp only [List.getElem?_toArray, List.getElem?_cons_succ, List.getElem?_cons_zero]; exact rfl)
      case an94 => kernel_rfl
      case bn94 => kernel_rfl
      case cn94 => kernel_rfl
      case qn94 => exact fun _ _ _ h => h
      case dn94 => rfl
      case hyn94 => (intro z hSw; (try dsimp only at hSw); go_simp; (try with_reducible rfl))
      try simp only [Act.put, List.setIfInBounds_toArray, List.set_cons_zero, List.set_cons_succ]
      refine wpAnyH_take (i := 16) (oi := ?on95) ?hin95 ?an95 ?bn95 ?cn95 ?qn95 (Or.inr ⟨?dn95, rfl⟩) hHeld ?restn95
      case hin95 => (simp only [List.getElem?_toArray, List.getElem?_cons_succ, List.getElem?_cons_zero]; exact rfl)
      case an95 => kernel_rfl
      case bn95 => kernel_rfl
      case cn95 => kernel_rfl
      case qn95 => exact fun _ _ _ h => h
      case dn95 => rfl
      try simp only [Act.put, List.setIfInBounds_toArray, List.set_cons_zero, List.set_cons_succ]
      refine wpAnyH_take (i := 17) (oi := ?on96) ?hin96 ?an96 ?bn96 ?cn96 ?qn96 (Or.inr ⟨?dn96, rfl⟩) hHeld ?restn96
      case hin96 => (simp only [List.getElem?_toArray, List.getElem?_cons_succ, List.getElem?_cons_zero]; exact rfl)
      case an96 => kernel_rfl
      case bn96 => kernel_rfl
      case cn96 => kernel_rfl
      case qn96 => exact fun _ _ _ h => h
      case dn96 => rfl
      try simp only [Act.put, List.setIfInBounds_toArray, List.set_cons_zero, List.set_cons_succ]
      refine wpAnyH_take (i := 18) (oi := ?on97) ?hin97 ?an97 ?bn97 ?cn97 ?qn97 (Or.inr ⟨?dn97, rfl⟩) hHeld ?restn97
      case hin97 => (simp only [List.getElem?_toArray, List.getElem?_cons_succ, List.getElem?_cons_zero]; exact rfl)
      case an97 => kernel_rfl
      case bn97 => kernel_rfl
      case cn97 => kernel_rfl
      case qn97 => exact fun _ _ _ h => h
      case dn97 => rfl
      try simp only [Act.put, List.setIfInBounds_toArray, List.set_cons_zero, List.set_cons_succ]
      refine wpAnyH_take (i := 19) (oi := ?on98) ?hin98 ?an98 ?bn98 ?cn98 ?qn98 (Or.inr ⟨?dn98, rfl⟩) hHeld ?restn98
      case hin98 => (simp only [List.getElem?_toArray, List.getElem?_cons_succ, List.getElem?_cons_zero]; exact rfl)
      case an98 => kernel_rfl
      case bn98 => kernel_rfl
      case cn98 => kernel_rfl
      case qn98 => exact fun _ _ _ h => h
      case dn98 => rfl
      try simp only [Act.put, List.setIfInBounds_toArray, List.set_cons_zero, List.set_cons_succ]
      refine wpAnyH_take (i := 20) (oi := ?on99) ?hin99 ?an99 ?bn99 ?cn99 ?qn99 (Or.inr ⟨?dn99, rfl⟩) hHeld ?restn99
      case hin99 => (simp only [List.getElem?_toArray, List.getElem?_cons_succ, List.getElem?_cons_zero]; exact rfl)
      case an99 => kernel_rfl
      case bn99 => kernel_rfl
      case cn99 => kernel_rfl
      case qn99 => exact fun _ _ _ h => h
      case dn99 => rfl
      try simp only [Act.put, List.setIfInBounds_toArray, List.set_cons_zero, List.set_cons_succ]
      refine wpAnyH_take (i := 21) (oi := ?on100) ?hin100 ?an100 ?bn100 ?cn100 ?qn100 (Or.inr ⟨?dn100, rfl⟩) hHeld ?restn100
      case hin100 => (simp only [List.getElem?_toArray, List.getElem?_cons_succ, List.getElem?_cons_zero]; exact rfl)
      case an100 => kernel_rfl
      case bn100 => kernel_rfl
      case cn100 => kernel_rfl
      case qn100 => exact fun _ _ _ h => h
      case dn100 => rfl
      try simp only [Act.put, List.setIfInBounds_toArray, List.set_cons_zero, List.set_cons_succ]
      refine wpAnyH_take (i := 22) (oi := ?on101) ?hin101 ?an101 ?bn101 ?cn101 ?qn101 (Or.inr ⟨?dn101, rfl⟩) hHeld ?restn101
      case hin101 => (simp only [List.getElem?_toArray, List.getElem?_cons_succ, List.getElem?_cons_zero]; exact rfl)
      case an101 => kernel_rfl
      case bn101 => kernel_rfl
      case cn101 => kernel_rfl
      case qn101 => exact fun _ _ _ h => h
      case dn101 => rfl
      try simp only [Act.put, List.setIfInBounds_toArray, List.set_cons_zero, List.set_cons_succ]
      refine wpAnyH_take (i := 23) (oi := ?on102) ?hin102 ?an102 ?bn102 ?cn102 ?qn102 (Or.inr ⟨?dn102, rfl⟩) hHeld ?restn102
      case hin102 => (simp only [List.getElem?_toArray, List.getElem?_cons_succ, List.getElem?_cons_zero]; exact rfl)
      case an102 => kernel_rfl
      case bn102 => kernel_rfl
      case cn102 => kernel_rfl
      case qn102 => exact fun _ _ _ h => h
      case dn102 => rfl
      try simp only [Act.put, List.setIfInBounds_toArray, List.set_cons_zero, List.set_cons_succ]
      refine wpAnyH_take (i := 24) (oi := ?on103) ?hin103 ?an103 ?bn103 ?cn103 ?qn103 (Or.inr ⟨?dn103, rfl⟩) hHeld ?restn103
      case hin103 => (simp only [List.getElem?_toArray, List.getElem?_cons_succ, List.getElem?_cons_zero]; exact rfl)
      case an103 => kernel_rfl
      case bn103 => kernel_rfl
      case cn103 => kernel_rfl
      case qn103 => exact fun _ _ _ h => h
      case dn103 => rfl
      try simp only [Act.put, List.setIfInBounds_toArray, List.set_cons_zero, List.set_cons_succ]
      refine wpAnyH_take (i := 25) (oi := ?on104) (v := ?vn104) ?hin104 ?an104 ?bn104 ?cn104 ?qn104 (Or.inl ⟨?dn104, ?hyn104⟩) hHeld ?restn104
      case hin104 => (simp only [List.getElem?_toArray, List.getElem?_cons_succ, List.getElem?_cons_zero]; exact rfl)
      case an104 => kernel_rfl
      case bn104 => kernel_rfl
      case cn104 => kernel_rfl
      case qn104 => exact fun _ _ _ h => h
      case dn104 => rfl
      case hyn104 => (intro z hSw; (try dsimp only at hSw); go_simp; (try with_reducible rfl))
      try simp only [Act.put, List.setIfInBounds_toArray, List.set_cons_zero, List.set_cons_succ]
      refine wpAnyH_done (by kernel_rfl) ?_ _
      go_wp2_with fail
      go_ret
      exact ⟨rfl, (by repeat (first | with_reducible assumption | with_reducible refine Grew.alloc ?_ _ | with_reducible refine Grew.drew ?_ | with_reducible refine Grew.drewN ?_ _))⟩
  · rw [dcd_false (fun h => hn (hgl h).1.symm)]
    have en : ((x.2.1.length : Int) != cntJ x.1) = true := by simp; exact fun h => hn h.symm
    clear hgl hn HC HS HUP HTK HBL
    go_enter Tryz.func32, Tryz.ntmps32
    go_wp2_with fail
    rw [← hwb]
    clear hwb
    refine wp_region_held_drew (S := fun w' => Grew wb w') (by kernel_rfl) rbd (fun hHeld => ?_)
    refine wpAnyH_take (i := 0) (oi := ?on105) (v := ?vn105) ?hin105 ?an105 ?bn105 ?cn105 ?qn105 (Or.inl ⟨?dn105, ?hyn105⟩) hHeld ?restn105
    case hin105 => (simp only [List.getElem?_toArray, List.getElem?_cons_zero]; exact rfl)
    case an105 => kernel_rfl
    case bn105 => kernel_rfl
    case cn105 => kernel_rfl
    case qn105 => exact fun _ _ _ h => h
    case dn105 => rfl
    case hyn105 => (intro z hSw; (try dsimp only at hSw); go_simp; (try with_reducible rfl))
    try simp only [Act.put, List.setIfInBounds_toArray, List.set_cons_zero, List.set_cons_succ]
    refine wpAnyH_take (i := 1) (oi := ?on106) (v := ?vn106) ?hin106 ?an106 ?bn106 ?cn106 ?qn106 (Or.inl ⟨?dn106, ?hyn106⟩) hHeld ?restn106
    case hin106 => (simp only [List.getElem?_toArray, List.getElem?_cons_succ, List.getElem?_cons_zero]; exact rfl)
    case an106 => kernel_rfl
    case bn106 => kernel_rfl
    case cn106 => kernel_rfl
    case qn106 => exact fun _ _ _ h => h
    case dn106 => rfl
    case hyn106 => (intro z hSw; (try dsimp only at hSw); go_simp; (try with_reducible rfl))
    try simp only [Act.put, List.setIfInBounds_toArray, List.set_cons_zero, List.set_cons_succ]
    refine wpAnyH_take (i := 2) (oi := ?on107) (v := ?vn107) ?hin107 ?an107 ?bn107 ?cn107 ?qn107 (Or.inl ⟨?dn107, ?hyn107⟩) hHeld ?restn107
    case hin107 => (simp only [List.getElem?_toArray, List.getElem?_cons_succ, List.getElem?_cons_zero]; exact rfl)
    case an107 => kernel_rfl
    case bn107 => kernel_rfl
    case cn107 => kernel_rfl
    case qn107 => exact fun _ _ _ h => h
    case dn107 => rfl
    case hyn107 => (intro z hSw; (try dsimp only at hSw); go_simp; (try with_reducible rfl))
    try simp only [Act.put, List.setIfInBounds_toArray, List.set_cons_zero, List.set_cons_succ]
    refine wpAnyH_take (i := 3) (oi := ?on108) (v := ?vn108) ?hin108 ?an108 ?bn108 ?cn108 ?qn108 (Or.inl ⟨?dn108, ?hyn108⟩) hHeld ?restn108
    case hin108 => (simp only [List.getElem?_toArray, List.getElem?_cons_succ, List.getElem?_cons_zero]; exact rfl)
    case an108 => kernel_rfl
    case bn108 => kernel_rfl
    case cn108 => kernel_rfl
    case qn108 => exact fun _ _ _ h => h
    case dn108 => rfl
    case hyn108 => (intro z hSw; (try dsimp only at hSw); go_simp; (try with_reducible rfl))
    try simp only [Act.put, List.setIfInBounds_toArray, List.set_cons_zero, List.set_cons_succ]
    refine wpAnyH_take (i := 4) (oi := ?on109) (v := ?vn109) ?hin109 ?an109 ?bn109 ?cn109 ?qn109 (Or.inl ⟨?dn109, ?hyn109⟩) hHeld ?restn109
    case hin109 => (simp only [List.getElem?_toArray, List.getElem?_cons_succ, List.getElem?_cons_zero]; exact rfl)
    case an109 => kernel_rfl
    case bn109 => kernel_rfl
    case cn109 => kernel_rfl
    case qn109 => exact fun _ _ _ h => h
    case dn109 => rfl
    case hyn109 => (intro z hSw; (try dsimp only at hSw); go_simp; (try with_reducible rfl))
    try simp only [Act.put, List.setIfInBounds_toArray, List.set_cons_zero, List.set_cons_succ]
    refine wpAnyH_ready (rs := [5]) (by kernel_rfl) (by simp) ?_
    refine AllReadyH.cons (o := ?on110) ?hin110 ?restn110 AllReadyH.nil
    case hin110 => (simp only [List.getElem?_toArray, List.getElem?_cons_succ, List.getElem?_cons_zero]; exact rfl)
    intro K hK
    go_simp
    go_at_call 40
    refine (KN.out _).mono ?_
    rintro e wc ⟨rfl, hgc⟩
    have gwc : Grew w wc := Grew.trans (by repeat (first | with_reducible assumption | with_reducible refine Grew.alloc ?_ _ | with_reducible refine Grew.drew ?_ | with_reducible refine Grew.drewN ?_ _)) hgc
    have mwc : Grew wb wc := Grew.trans (by repeat (first | with_reducible assumption | with_reducible refine Grew.alloc ?_ _ | with_reducible refine Grew.drew ?_ | with_reducible refine Grew.drewN ?_ _)) hgc
    refine hK.out _ _ ?_ (fun hHeld => ?_)
    · (try dsimp only); first | with_reducible assumption | exact Grew.alloc ‹_› _
    clear hK K
    try simp only [Act.put, List.setIfInBounds_toArray, List.set_cons_zero, List.set_cons_succ]
    refine wpAnyH_take (i := 6) (oi := ?on111) (v := ?vn111) ?hin111 ?an111 ?bn111 ?cn111 ?qn111 (Or.inl ⟨?dn111, ?hyn111⟩) hHeld ?restn111
    case hin111 => (simp only [List.getElem?_toArray, List.getElem?_cons_succ, List.getElem?_cons_zero]; exact rfl)
    case an111 => kernel_rfl
    case bn111 => kernel_rfl
    case cn111 => kernel_rfl
    case qn111 => exact fun _ _ _ h => h
    case dn111 => rfl
    case hyn111 => (intro z hSw; (try dsimp only at hSw); go_simp; (try with_reducible rfl))
    try simp only [Act.put, List.setIfInBounds_toArray, List.set_cons_zero, List.set_cons_succ]
    refine wpAnyH_take (i := 7) (oi := ?on112) (v := ?vn112) ?hin112 ?an112 ?bn112 ?cn112 ?qn112 (Or.inl ⟨?dn112, ?hyn112⟩) hHeld ?restn112
    case hin112 => (simp only [List.getElem?_toArray, List.getElem?_cons_succ, List.getElem?_cons_zero]; exact rfl)
    case an112 => kernel_rfl
    case bn112 => kernel_rfl
    case cn112 => kernel_rfl
    case qn112 => exact fun _ _ _ h => h
    case dn112 => rfl
    case hyn112 => (intro z hSw; (try dsimp only at hSw); go_simp; (try with_reducible rfl))
    try simp only [Act.put, List.setIfInBounds_toArray, List.set_cons_zero, List.set_cons_succ]
    refine wpAnyH_take (i := 8) (oi := ?on113) ?hin113 ?an113 ?bn113 ?cn113 ?qn113 (Or.inr ⟨?dn113, rfl⟩) hHeld ?restn113
    case hin113 => (simp only [List.getElem?_toArray, List.getElem?_cons_succ, List.getElem?_cons_zero]; exact rfl)
    case an113 => kernel_rfl
    case bn113 => kernel_rfl
    case cn113 => kernel_rfl
    case qn113 => exact fun _ _ _ h => h
    case dn113 => rfl
    try simp only [Act.put, List.setIfInBounds_toArray, List.set_cons_zero, List.set_cons_succ]
    refine wpAnyH_take (i := 9) (oi := ?on114) ?hin114 ?an114 ?bn114 ?cn114 ?qn114 (Or.inr ⟨?dn114, rfl⟩) hHeld ?restn114
    case hin114 => (simp only [List.getElem?_toArray, List.getElem?_cons_succ, List.getElem?_cons_zero]; exact rfl)
    case an114 => kernel_rfl
    case bn114 => kernel_rfl
    case cn114 => kernel_rfl
    case qn114 => exact fun _ _ _ h => h
    case dn114 => rfl
    try simp only [Act.put, List.setIfInBounds_toArray, List.set_cons_zero, List.set_cons_succ]
    refine wpAnyH_take (i := 10) (oi := ?on115) ?hin115 ?an115 ?bn115 ?cn115 ?qn115 (Or.inr ⟨?dn115, rfl⟩) hHeld ?restn115
    case hin115 => (simp only [List.getElem?_toArray, List.getElem?_cons_succ, List.getElem?_cons_zero]; exact rfl)
    case an115 => kernel_rfl
    case bn115 => kernel_rfl
    case cn115 => kernel_rfl
    case qn115 => exact fun _ _ _ h => h
    case dn115 => rfl
    try simp only [Act.put, List.setIfInBounds_toArray, List.set_cons_zero, List.set_cons_succ]
    refine wpAnyH_take (i := 11) (oi := ?on116) ?hin116 ?an116 ?bn116 ?cn116 ?qn116 (Or.inr ⟨?dn116, rfl⟩) hHeld ?restn116
    case hin116 => (simp only [List.getElem?_toArray, List.getElem?_cons_succ, List.getElem?_cons_zero]; exact rfl)
    case an116 => kernel_rfl
    case bn116 => kernel_rfl
    case cn116 => kernel_rfl
    case qn116 => exact fun _ _ _ h => h
    case dn116 => rfl
    try simp only [Act.put, List.setIfInBounds_toArray, List.set_cons_zero, List.set_cons_succ]
    refine wpAnyH_take (i := 12) (oi := ?on117) ?hin117 ?an117 ?bn117 ?cn117 ?qn117 (Or.inr ⟨?dn117, rfl⟩) hHeld ?restn117
    case hin117 => (simp only [List.getElem?_toArray, List.getElem?_cons_succ, List.getElem?_cons_zero]; exact rfl)
    case an117 => kernel_rfl
    case bn117 => kernel_rfl
    case cn117 => kernel_rfl
    case qn117 => exact fun _ _ _ h => h
    case dn117 => rfl
    try simp only [Act.put, List.setIfInBounds_toArray, List.set_cons_zero, List.set_cons_succ]
    refine wpAnyH_take (i := 13) (oi := ?on118) ?hin118 ?an118 ?bn118 ?cn118 ?qn118 (Or.inr ⟨?dn118, rfl⟩) hHeld ?restn118
    case hin118 => (simp only [List.getElem?_toArray, List.getElem?_cons_succ, List.getElem?_cons_zero]; exact rfl)
    case an118 => kernel_rfl
    case bn118 => kernel_rfl
    case cn118 => kernel_rfl
    case qn118 => exact fun _ _ _ h => h
    case dn118 => rfl
    try simp only [Act.put, List.setIfInBounds_toArray, List.set_cons_zero, List.set_cons_succ]
    refine wpAnyH_take (i := 14) (oi := ?on119) (v := ?vn119) ?hin119 ?an119 ?bn119 ?cn119 ?qn119 (Or.inl ⟨?dn119, ?hyn119⟩) hHeld ?restn119
    case hin119 => (simp only [List.getElem?_toArray, List.getElem?_cons_succ, List.getElem?_cons_zero]; exact rfl)
    case an119 => kernel_rfl
    case bn119 => kernel_rfl
    case cn119 => kernel_rfl
    case qn119 => exact fun _ _ _ h => h
    case dn119 => rfl
    case hyn119 => (intro z hSw; (try dsimp only at hSw); go_simp; (try with_reducible rfl))
    try simp only [Act.put, List.setIfInBounds_toArray, List.set_cons_zero, List.set_cons_succ]
    refine wpAnyH_take (i := 15) (oi := ?on120) (v := ?vn120) ?hin120 ?an120 ?bn120 ?cn120 ?qn120 (Or.inl ⟨?dn120, ?hyn120⟩) hHeld ?restn120
    case hin120 => (simp only [List.getElem?_toArray, List.getElem?_cons_succ, List.getElem?_cons_zero]; exact rfl)
    case an120 => kernel_rfl
    case bn120 => kernel_rfl
    case cn120 => kernel_rfl
    case qn120 => exact fun _ _ _ h => h
    case dn120 => rfl
    case hyn120 => (intro z hSw; (try dsimp only at hSw); go_simp; (try with_reducible rfl))
    try simp only [Act.put, List.setIfInBounds_toArray, List.set_cons_zero, List.set_cons_succ]
    refine wpAnyH_take (i := 16) (oi := ?on121) ?hin121 ?an121 ?bn121 ?cn121 ?qn121 (Or.inr ⟨?dn121, rfl⟩) hHeld ?restn121
    case hin121 => (simp only [List.getElem?_toArray, List.getElem?_cons_succ, List.getElem?_cons_zero]; exact rfl)
    case an121 => kernel_rfl
    case bn121 => kernel_rfl
    case cn121 => kernel_rfl
    case qn121 => exact fun _ _ _ h => h
    case dn121 => rfl
    try simp only [Act.put, List.setIfInBounds_toArray, List.set_cons_zero, List.set_cons_succ]
    refine wpAnyH_take (i := 17) (oi := ?on122) ?hin122 ?an122 ?bn122 ?cn122 ?qn122 (Or.inr ⟨?dn122, rfl⟩) hHeld ?restn122
    case hin122 => (simp only [List.getElem?_toArray, List.getElem?_cons_succ, List.getElem?_cons_zero]; exact rfl)
    case an122 => kernel_rfl
    case bn122 => kernel_rfl
    case cn122 => kernel_rfl
    case qn122 => exact fun _ _ _ h => h
    case dn122 => rfl
    try simp only [Act.put, List.setIfInBounds_toArray, List.set_cons_zero, List.set_cons_succ]
    refine wpAnyH_take (i := 18) (oi := ?on123) ?hin123 ?an123 ?bn123 ?cn123 ?qn123 (Or.inr ⟨?dn123, rfl⟩) hHeld ?restn123
    case hin123 => (simp only [List.getElem?_toArray, List.getElem?_cons_succ, List.getElem?_cons_zero]; exact rfl)
    case an123 => kernel_rfl
    case bn123 => kernel_rfl
    case cn123 => kernel_rfl
    case qn123 => exact fun _ _ _ h => h
    case dn123 => rfl
    try simp only [Act.put, List.setIfInBounds_toArray, List.set_cons_zero, List.set_cons_succ]
    refine wpAnyH_take (i := 19) (oi := ?on124) ?hin124 ?an124 ?bn124 ?cn124 ?qn124 (Or.inr ⟨?dn124, rfl⟩) hHeld ?restn124
    case hin124 => (simp only [List.getElem?_toArray, List.getElem?_cons_succ, List.getElem?_cons_zero]; exact rfl)
    case an124 => kernel_rfl
    case bn124 => kernel_rfl
    case cn124 => kernel_rfl
    case qn124 => exact fun _ _ _ h => h
    case dn124 => rfl
    try simp only [Act.put, List.setIfInBounds_toArray, List.set_cons_zero, List.set_cons_succ]
    refine wpAnyH_take (i := 20) (oi := ?on125) ?hin125 ?an125 ?bn125 ?cn125 ?qn125 (Or.inr ⟨?dn125, rfl⟩) hHeld ?restn125
    case hin125 => (simp only [List.getElem?_toArray, List.getElem?_cons_succ, List.getElem?_cons_zero]; exact rfl)
    case an125 => kernel_rfl
    case bn125 => kernel_rfl
    case cn125 => kernel_rfl
    case qn125 => exact fun _ _ _ h => h
    case dn125 => rfl
    try simp only [Act.put, List.setIfInBounds_toArray, List.set_cons_zero, List.set_cons_succ]
    refine wpAnyH_take (i := 21) (oi := ?on126) ?hin126 ?an126 ?bn126 ?cn126 ?qn126 (Or.inr ⟨?dn126, rfl⟩) hHeld ?restn126
    case hin126 => (simp only [List.getElem?_toArray, List.getElem?_cons_succ, List.getElem?_cons_zero]; exact rfl)
    case an126 => kernel_rfl
    case bn126 => kernel_rfl
    case cn126 => kernel_rfl
    case qn126 => exact fun _ _ _ h => h
    case dn126 => rfl
    try simp only [Act.put, List.setIfInBounds_toArray, List.set_cons_zero, List.set_cons_succ]
    refine wpAnyH_take (i := 22) (oi := ?on127) ?hin127 ?an127 ?bn127 ?cn127 ?qn127 (Or.inr ⟨?dn127, rfl⟩) hHeld ?restn127
    case hin127 => (simp only [List.getElem?_toArray, List.getElem?_cons_succ, List.getElem?_cons_zero]; exact rfl)
    case an127 => kernel_rfl
    case bn127 => kernel_rfl
    case cn127 => kernel_rfl
    case qn127 => exact fun _ _ _ h => h
    case dn127 => rfl
    try simp only [Act.put, List.setIfInBounds_toArray, List.set_cons_zero, List.set_cons_succ]
    refine wpAnyH_take (i := 23) (oi := ?on128) ?hin128 ?an128 ?bn128 ?cn128 ?qn128 (Or.inr ⟨?dn128, rfl⟩) hHeld ?restn128
    case hin128 => (simp only [List.getElem?_toArray, List.getElem?_cons_succ, List.getElem?_cons_zero]; exact rfl)
    case an128 => kernel_rfl
    case bn128 => kernel_rfl
    case cn128 => kernel_rfl
    case qn128 => exact fun _ _ _ h => h
    case dn128 => rfl
    try simp only [Act.put, List.setIfInBounds_toArray, List.set_cons_zero, List.set_cons_succ]
    refine wpAnyH_take (i := 24) (oi := ?on129) ?hin129 ?an129 ?bn129 ?cn129 ?qn129 (Or.inr ⟨?dn129, rfl⟩) hHeld ?restn129
    case hin129 => (simp only [List.getElem?_toArray, List.getElem?_cons_succ, List.getElem?_cons_zero]; exact rfl)
    case an129 => kernel_rfl
    case bn129 => kernel_rfl
    case cn129 => kernel_rfl
    case qn129 => exact fun _ _ _ h => h
    case dn129 => rfl
    try simp only [Act.put, List.setIfInBounds_toArray, List.set_cons_zero, List.set_cons_succ]
    refine wpAnyH_take (i := 25) (oi := ?on130) (v := ?vn130) ?hin130 ?an130 ?bn130 ?cn130 ?qn130 (Or.inl ⟨?dn130, ?hyn130⟩) hHeld ?restn130
    case hin130 => (simp only [List.getElem?_toArray, List.getElem?_cons_succ, List.getElem?_cons_zero]; exact rfl)
    case an130 => kernel_rfl
    case bn130 => kernel_rfl
    case cn130 => kernel_rfl
    case qn130 => exact fun _ _ _ h => h
    case dn130 => rfl
    case hyn130 => (intro z hSw; (try dsimp only at hSw); go_simp; (try with_reducible rfl))
    try simp only [Act.put, List.setIfInBounds_toArray, List.set_cons_zero, List.set_cons_succ]
    refine wpAnyH_done (by kernel_rfl) ?_ _
    go_wp2_with fail
    go_ret
    exact ⟨rfl, (by repeat (first | with_reducible assumption | with_reducible refine Grew.alloc ?_ _ | with_reducible refine Grew.drew ?_ | with_reducible refine Grew.drewN ?_ _))⟩
end Go.Proofs.YtkjmfkllmljdeaaGreat

/- l22Bad of the reference; isInferenceCount of the program. -/
namespace Go.Proofs.YtkjmfkllmljdeaaGreat
open Go.RowKit

theorem l22Bad_c (v : Value) (xs : List Jf) (w : World) (hv : Jfs w v xs) (hf : FitsJf xs) (hl : xs.length ≤ 1000) :
    Calls Tryz.prog 21 #[v] w fun e w' => e = .returned (.int .i64 (fbj xs xs.length)) ∧ Grew w w' := by
  obtain ⟨A, c, rfl⟩ := Jfs_slice hv
  have HV := Lib.hid hv
  have HF := Lib.hid hf
  clear hv hf
  go_enter Tryz.func21, Tryz.ntmps21
  go_wp2_with fail
  go_loopw [3] (fun i wr => ∃ j : Nat, j ≤ xs.length ∧ i = .int .i64 j ∧ Grew w wr ∧ Hid (fbj xs j = -1)) (fun i _ => xs.length - (intOf i).toNat)
  case atStart => exact ⟨0, Nat.zero_le _, rfl, Grew.refl _, Lib.hid rfl⟩
  case round =>
    obtain ⟨j, hj, rfl, hB, HJ⟩ := hrel
    by_cases hlt : j < xs.length
    · have hx : xs[j]? = some xs[j] := List.getElem?_eq_getElem hlt
      have hfx := HF.out _ (List.getElem_mem hlt)
      generalize xs[j] = x at hx hfx
      have KC := l22Correct_c (.slice A xs.length c) xs j x wr (HV.out.grew hB) hx hfx hl
      by_cases hg : goodJ (xs.take j) x
      · rw [dcd_true hg] at KC
        replace KC := Lib.hid KC
        have HN : Hid (fbj xs (j + 1) = -1) := Lib.hid (fbj_good HJ.out hx hg)
        clear hg hx
        go_wp2_with fail
        refine (KC.out).mono ?_
        rintro e w2 ⟨rfl, hg2⟩
        go_wp2_with fail
        go_roundw
        case rel => exact ⟨j + 1, by omega, by go_num, hB.trans hg2, HN⟩
        case measure => simp [intOf]; omega
      · rw [dcd_false hg] at KC
        replace KC := Lib.hid KC
        have HN : Hid (fbj xs xs.length = j) := Lib.hid (fbj_bad HJ.out (fun ⟨y, hy, hgy⟩ => hg (by rw [hx] at hy; cases hy; exact hgy)) hlt)
        clear hg hx
        go_wp2_with fail
        refine (KC.out).mono ?_
        rintro e w2 ⟨rfl, hg2⟩
        go_wp2_with fail
        go_ret
        exact ⟨congrArg (fun k => Ending.returned (Value.int .i64 k)) HN.out.symm, hB.trans hg2⟩
    · obtain rfl : j = xs.length := by omega
      go_wp2_with fail
      go_ret
      exact ⟨congrArg (fun k => Ending.returned (Value.int .i64 k)) HJ.out.symm, hB⟩

/-- What FirstBadInference answers. -/
noncomputable def fbF (xs : List Jf) : Int × Int := if xs.length = 0 ∨ 60 < xs.length then (0, 3) else (fbj xs xs.length, 0)
def GivesFb (w : World) (r : Int × Int) (e : Ending) (w' : World) : Prop := e = .returned (.tuple #[.int .i64 r.1, .int .i64 r.2]) ∧ Grew w w'
theorem isInferenceCount_c (A : Option Addr) (n c : Nat) (w : World) :
    Calls Tryz.prog 23 #[.slice A n c] w fun e w' => e = .returned (.bool (decide (n ≠ 0 ∧ n ≤ 60))) ∧ Grew w w' := by
  by_cases h0 : n = 0
  · subst h0
    go_enter Tryz.func23, Tryz.ntmps23
    go_wp2_with fail
    go_ret
    exact ⟨rfl, Grew.refl _⟩
  · have h1 : (1 : Int) ≤ (n : Int) := by omega
    by_cases h2 : n ≤ 60
    · rw [decide_eq_true ⟨h0, h2⟩]
      have h3 : (n : Int) ≤ 60 := by omega
      clear h0 h2
      go_enter Tryz.func23, Tryz.ntmps23
      go_wp2_with fail
      go_ret
      exact ⟨rfl, Grew.refl _⟩
    · rw [decide_eq_false (fun h => h2 h.2)]
      have h3 : ¬ (n : Int) ≤ 60 := by omega
      clear h0 h2
      go_enter Tryz.func23, Tryz.ntmps23
      go_wp2_with fail
      go_ret
      exact ⟨rfl, Grew.refl _⟩
end Go.Proofs.YtkjmfkllmljdeaaGreat

/- FirstBadInference of both sides. -/
namespace Go.Proofs.YtkjmfkllmljdeaaGreat
open Go.RowKit

theorem implFb_c (v : Value) (xs : List Jf) (w : World) (hv : Jfs w v xs) (hf : FitsJf xs) (_hn : xs.length ≤ 1048576) :
    Calls Tryz.prog 9 #[v] w (GivesFb w (fbF xs)) := by
  unfold GivesFb fbF
  obtain ⟨A, c, rfl⟩ := Jfs_slice hv
  have KD := isInferenceCount_c A xs.length c w
  by_cases hb : xs.length = 0 ∨ 60 < xs.length
  · rw [if_pos hb]
    rw [decide_eq_false (fun h => by omega)] at KD
    clear hv hf hb
    replace KD := Lib.hid KD
    go_enter Tryz.func9, Tryz.ntmps9
    go_wp2_with fail
    refine (KD.out).mono ?_
    rintro e w1 ⟨rfl, hg1⟩
    go_wp2_with fail
    go_ret2
    exact ⟨rfl, hg1⟩
  · rw [if_neg hb]
    rw [decide_eq_true (by omega)] at KD
    have KF := Lib.hid (fun W (hW : Grew w W) => firstBadInference_c (.slice A xs.length c) xs W (hv.grew hW) hf (by omega))
    clear hv hf hb
    generalize fbj xs xs.length = R at *
    replace KD := Lib.hid KD
    go_enter Tryz.func9, Tryz.ntmps9
    go_wp2_with fail
    refine (KD.out).mono ?_
    rintro e w1 ⟨rfl, hg1⟩
    go_wp2_with fail
    refine (KF.out _ hg1).mono ?_
    rintro e w2 ⟨rfl, hg2⟩
    go_wp2_with fail
    go_ret2
    exact ⟨rfl, hg1.trans hg2⟩

theorem specFb_c (v : Value) (xs : List Jf) (w : World) (hv : Jfs w v xs) (hf : FitsJf xs) (_hn : xs.length ≤ 1048576) :
    Calls Tryz.prog 7 #[v] w (GivesFb w (fbF xs)) := by
  unfold GivesFb fbF
  obtain ⟨A, c, rfl⟩ := Jfs_slice hv
  have KI := fun W => l01In_c (xs.length : Int) 1 60 W
  by_cases h0 : xs.length = 0 ∨ 60 < xs.length
  · rw [if_pos h0]
    rw [decide_eq_false (by omega)] at KI
    replace KI := Lib.hid KI
    clear hv hf h0
    generalize xs.length = n at *
    go_enter Tryz.func7, Tryz.ntmps7
    go_wp2_with fail
    refine (KI.out _).mono ?_
    rintro e w1 ⟨rfl, hg1⟩
    go_wp2_with fail
    go_ret2
    exact ⟨rfl, hg1⟩
  · rw [if_neg h0]
    rw [decide_eq_true (by omega)] at KI
    replace KI := Lib.hid KI
    have KF := Lib.hid (fun W (hW : Grew w W) => l22Bad_c (.slice A xs.length c) xs W (hv.grew hW) hf (by omega))
    clear hv hf h0
    generalize fbj xs xs.length = R at *
    generalize xs.length = n at *
    go_enter Tryz.func7, Tryz.ntmps7
    go_wp2_with fail
    refine (KI.out _).mono ?_
    rintro e w1 ⟨rfl, hg1⟩
    go_wp2_with fail
    refine (KF.out _ hg1).mono ?_
    rintro e w2 ⟨rfl, hg2⟩
    go_wp2_with fail
    go_ret2
    exact ⟨rfl, hg1.trans hg2⟩
end Go.Proofs.YtkjmfkllmljdeaaGreat

/- The laws' own helpers on slices of int64: toInt64S, eqInt64S, markInt64S, heldInt64S. -/
namespace Go.Proofs.YtkjmfkllmljdeaaGreat
open Go.RowKit

theorem toInt64S_c (v : Value) (L : List Int) (w : World) (h : ArgI w v L) (hn : L.length ≤ 1048576) :
    Calls Tryz.prog 33 #[v] w (GivesI w L) := by
  obtain ⟨⟨A, c, rfl, hmax⟩, hS⟩ := h
  have hmk := run_make_row' (P := Tryz.prog) 30 2 (.int .i64 0) 8 Tryz.underlying30 Tryz.infoI rfl .i64 .i64 L.length (by omega) (by omega)
  have hend : ∀ cur w', w'.heap[w.heap.size]? = some (.cells cur 2 (0, 0)) → cur.size = L.length → (∀ i, i < L.length → cur[i]? = some (.int .i64 (it L i))) → OwnI w' w.heap.size (.slice (some ⟨w.heap.size, 0, none⟩) L.length L.length) L :=
    fun cur w' h1 h2 h3 => OwnI.mk_ (Nat.le_refl _) h1 (Nat.le_refl _) (by omega) h2 h3
  have HE := Lib.hid hend
  clear hend
  have hsz : (madeCells #[Value.int .i64 0] L.length).size = L.length := by simp [madeCells]
  have hnew := blk_new w (.cells (madeCells #[Value.int .i64 0] L.length) 2)
  have hal := (Grew.refl w).alloc (.cells (madeCells #[Value.int .i64 0] L.length) 2)
  generalize madeCells #[Value.int .i64 0] L.length = cur0 at *
  by_cases hp : 0 < L.length
  · rcases (hS hp).open_ with ⟨_, h2⟩ | ⟨b, o, c', hv, hc, hm, hb, hcell⟩
    · rw [h2] at hp; cases hp
    obtain ⟨rfl, rfl⟩ : A = some ⟨b, o, none⟩ ∧ c = c' := by simpa using hv
    clear hS hv
    have HC := Lib.hid hcell
    clear hcell
    generalize hN : L.length = n at *
    clear hN
    have HNEW := Lib.hid hnew
    clear hnew
    have HAL := Lib.hid hal
    clear hal
    go_enter Tryz.func33, Tryz.ntmps33
    go_wp2_with fail
    go_loopw [4] (fun i wr => ∃ (j : Nat) (cur : Array Value), j ≤ n ∧ i = .int .i64 j ∧ wr.heap[w.heap.size]? = some (.cells cur 2 (0, 0)) ∧ cur.size = n ∧ Grew w wr ∧ (∀ i, i < j → cur[i]? = some (.int .i64 (it L i)))) (fun i _ => n - (intOf i).toNat)
    case atStart => exact ⟨0, cur0, Nat.zero_le _, rfl, HNEW.out, hsz, HAL.out, fun i hi => absurd hi (by omega)⟩
    case round =>
      obtain ⟨j, cur, hj, rfl, hh, hcs, hB, hc2⟩ := hrel
      have HD := Lib.hid hc2
      clear hc2
      by_cases hlt : j < n
      · have k1 := HC.out j hlt _ hB
        have HS := Lib.hid (one_stepI (F := fun i => .int .i64 (it L i)) (j := j) (by omega) HD.out)
        have f1 : ∀ i, wr.frozen? ⟨w.heap.size, i, none⟩ = false := fun i => by simp [World.frozen?, hh]
        obtain ⟨u1, hu1⟩ : ∃ u, wr.cell? ⟨w.heap.size, 0 + j, none⟩ = some u := by
          rw [cell_of_row wr w.heap.size _ cur _ (0, 0) hh]
          exact ⟨_, Array.getElem?_eq_getElem (by omega)⟩
        simp only [Nat.zero_add] at hu1
        have HH := Lib.hid hh
        clear hh
        generalize it L j = x at *
        go_wp2_with fail
        go_roundw
        case rel => exact ⟨j + 1, _, by omega, by go_num, blk_set HH.out _ _, by simp [hcs], hB.setCell (Nat.le_refl _) _, HS.out⟩
        case measure => simp [intOf]; omega
      · obtain rfl : j = n := by omega
        have HH := Lib.hid hh
        clear hh
        go_wp2_with fail
        go_ret
        exact ⟨_, rfl, HE.out _ _ HH.out hcs HD.out, hB⟩
  · have hp0 : L.length ≤ 0 := by omega
    have HNEW := Lib.hid hnew
    clear hnew hS hp
    have HAL := Lib.hid hal
    clear hal
    generalize hN : L.length = n at *
    clear hN
    go_enter Tryz.func33, Tryz.ntmps33
    go_wp2_with fail
    refine wp_loop_rounds 1 ?_; rw [rounds_succ]
    go_wp2_with fail
    go_ret
    exact ⟨_, rfl, HE.out _ _ HNEW.out hsz (fun i hi => absurd hi (by omega)), HAL.out⟩
end Go.Proofs.YtkjmfkllmljdeaaGreat

/- Two lists of int64 that are equal: eqInt64S. -/
namespace Go.Proofs.YtkjmfkllmljdeaaGreat
open Go.RowKit

/-- Two lists of numbers that are equal. -/
theorem eqInt64S_yes (v1 v2 : Value) (L : List Int) (w : World) (h1 : Ints w v1 L) (h2 : Ints w v2 L) (hn : L.length ≤ 1099511627776) :
    Calls Tryz.prog 15 #[v1, v2] w fun e w' => e = .returned (.bool true) ∧ Grew w w' := by
  rcases h1.open_ with ⟨rfl, rfl⟩ | ⟨b1, o1, c1, rfl, hc1, hm1, hb1, hf⟩
  · obtain ⟨A, c, rfl⟩ := ints_slice h2
    go_enter Tryz.func15, Tryz.ntmps15
    go_wp2_with fail
    refine wp_loop_rounds 1 ?_; rw [rounds_succ]
    go_wp2_with fail
    go_ret
    exact ⟨rfl, Grew.refl _⟩
  · rcases h2.open_ with ⟨rfl, rfl⟩ | ⟨b2, o2, c2, rfl, hc2, hm2, hb2, hh⟩
    · go_enter Tryz.func15, Tryz.ntmps15
      go_wp2_with fail
      refine wp_loop_rounds 1 ?_; rw [rounds_succ]
      go_wp2_with fail
      go_ret
      exact ⟨rfl, Grew.refl _⟩
    · clear h1 h2
      have HF := Lib.hid hf
      have HH := Lib.hid hh
      clear hf hh
      generalize hN : L.length = n at *
      clear hN
      go_enter Tryz.func15, Tryz.ntmps15
      go_wp2_with fail
      go_loopw [5] (fun i wr => ∃ j : Nat, j ≤ n ∧ i = .int .i64 j ∧ Grew w wr) (fun i _ => n - (intOf i).toNat)
      case atStart => exact ⟨0, Nat.zero_le _, rfl, Grew.refl _⟩
      case round =>
        obtain ⟨j, hj, rfl, hB⟩ := hrel
        by_cases hlt : j < n
        · have k1 : ∀ W, Grew w W → W.cell? ⟨b1, o1 + j, none⟩ = some (.int .i64 (it L j)) := fun W hW => HF.out j hlt W hW
          have k2 : ∀ W, Grew w W → W.cell? ⟨b2, o2 + j, none⟩ = some (.int .i64 (it L j)) := fun W hW => HH.out j hlt W hW
          have k3 := k1 _ hB
          have k4 := k2 _ hB
          generalize it L j = x at *
          have hx : (x != x) = false := by simp
          go_wp2_with fail
          go_quiet (fail)
          go_wp2_with fail
          go_roundw
          case rel => exact ⟨j + 1, by omega, by go_num, by first | assumption | exact hB.drewN _⟩
          case measure => simp [intOf]; omega
        · go_wp2_with fail
          go_ret
          exact ⟨rfl, by assumption⟩
end Go.Proofs.YtkjmfkllmljdeaaGreat

/- make of rows of elements of several cells; the blocks of three allocations. -/
namespace Go.Proofs.YtkjmfkllmljdeaaGreat
open Go.RowKit

theorem run_make_rows {P : Program} (t e : TypeId) (z : Value) (size bytes : Nat) (zs : Array Value) (ht : P.underlying t = some (.slice e)) (hinfo : (P.info? e).map (fun i => (i.zero, i.size, i.bytes)) = some (some z, size, bytes)) (hzs : z.cells = zs)
    (kl kc : IntKind) (n : Nat) (hbytes : bytes * n ≤ 281474976710656) (h63 : n ≤ 9223372036854775807) (w : World) :
    (Instr.makeSlice t (.int kl (n : Int)) (.int kc (n : Int))).run P w = .ok (.slice (some ⟨w.heap.size, 0, none⟩) n n) (w.alloc (.cells (madeCells zs (n * size)) e)) := by
  obtain ⟨i, hi, hz, hs, hb⟩ := info_parts hinfo
  have hb' : (i.bytes : Int) * (n : Int) ≤ 281474976710656 := by
    rw [hb]
    have h : ((bytes * n : Nat) : Int) ≤ 281474976710656 := by omega
    rwa [Int.natCast_mul] at h
  have hr := run_make (P := P) w t e i z ht hi hz kl kc n n (by omega) (Int.le_refl _) hb' (by omega)
  simp only [Int.toNat_natCast, hs, hzs] at hr
  exact hr

theorem blk3_mid (w : World) (a b c : Obj) : (((w.alloc a).alloc b).alloc c).heap[w.heap.size + 1]? = some b := by
  have h := blk_new (w.alloc a) b
  have e : (w.alloc a).heap.size = w.heap.size + 1 := by simp
  rw [e] at h
  have h2 := ((Grew.refl ((w.alloc a).alloc b)).alloc c).block (k := w.heap.size + 1) (by simp)
  rw [h2, h]
end Go.Proofs.YtkjmfkllmljdeaaGreat

/- The laws' own helpers on slices of inferences: toInferenceS, eqInferenceS. -/
namespace Go.Proofs.YtkjmfkllmljdeaaGreat
open Go.RowKit

theorem blk3_all (w : World) (a b c : Obj) : (((w.alloc a).alloc b).alloc c).heap[w.heap.size]? = some a ∧ (((w.alloc a).alloc b).alloc c).heap[w.heap.size + 1]? = some b ∧ (((w.alloc a).alloc b).alloc c).heap[w.heap.size + 1 + 1]? = some c := by
  refine ⟨?_, blk3_mid w a b c, ?_⟩
  · have h := (((Grew.refl (w.alloc a)).alloc b).alloc c).block (k := w.heap.size) (by simp)
    rw [h]; exact blk_new w a
  · have h := blk_new ((w.alloc a).alloc b) c
    have e : ((w.alloc a).alloc b).heap.size = w.heap.size + 1 + 1 := by simp
    rwa [e] at h

theorem own_set {w : World} {B b i : Nat} {e : TypeId} {k n : Nat} {v u : Value} {xs : List Value} (h : w.ownsRow B e k v n xs) (hb : b < B) : (w.setCell ⟨b, i, none⟩ u).ownsRow B e k v n xs :=
  own_only h ((Only.refl b w).setCell u) (fun hh => by have := own_of_ge h hh; omega)

set_option maxHeartbeats 1000000 in
theorem toInference_c (x : Jf) (up ua : Value) (w : World) (hp : ArgI w up x.2.1) (hs : ArgS w ua x.2.2.1) (n1 : x.2.1.length ≤ 1048576) (n2 : x.2.2.1.length ≤ 1048576) :
    Calls Tryz.prog 22 #[.agg #[.int .i64 x.1, up, ua, .string x.2.2.2.1, .string x.2.2.2.2]] w fun e w' => ∃ vp va, e = .returned (.agg #[.int .i64 x.1, vp, va, .string x.2.2.2.1, .string x.2.2.2.2]) ∧ OwnI w' w.heap.size vp x.2.1 ∧ OwnS w' w.heap.size va x.2.2.1 ∧ Grew w w' := by
  have KI := Lib.hid (fun W (hW : Grew w W) => toInt64S_c up x.2.1 W (hp.grew hW) n1)
  have KS := Lib.hid (fun W (hW : Grew w W) => toStringS_c ua x.2.2.1 W (hs.grew hW) n2)
  obtain ⟨⟨A, c, rfl, hm1⟩, _⟩ := hp
  obtain ⟨⟨A2, c2, rfl, hm2⟩, _, _⟩ := hs
  clear n1 n2
  obtain ⟨r0, P, S, C, N⟩ := x
  simp only at *
  generalize hpl : P.length = pl at *
  generalize hsl : S.length = sl at *
  replace hpl := Lib.hid hpl
  replace hsl := Lib.hid hsl
  have hal := (((Grew.refl w).alloc (.cells #[.int .i64 r0, .slice A pl c, .slice A2 sl c2, .string C, .string N] 39)).alloc (.cells #[.int .i64 0, .slice none 0 0, .slice none 0 0, .string ByteArray.empty, .string ByteArray.empty] 42)).alloc (.cells #[.int .i64 r0, .slice none 0 0, .slice none 0 0, .string ByteArray.empty, .string ByteArray.empty] 42)
  go_enter Tryz.func22, Tryz.ntmps22
  go_wp2_with fail
  refine (KI.out _ hal).mono ?_
  rintro e w1 ⟨vp, rfl, hop, hg1⟩
  obtain ⟨VA, vc, rfl⟩ := ints_slice hop.ints
  rw [hpl.out] at hop ⊢
  have hW0 : (((w.alloc (.cells #[.int .i64 r0, .slice A pl c, .slice A2 sl c2, .string C, .string N] 39)).alloc (.cells #[.int .i64 0, .slice none 0 0, .slice none 0 0, .string ByteArray.empty, .string ByteArray.empty] 42)).alloc (.cells #[.int .i64 r0, .slice none 0 0, .slice none 0 0, .string ByteArray.empty, .string ByteArray.empty] 42)).heap.size = w.heap.size + 3 := by simp
  rw [hW0] at hop
  have hz1 := hg1.size
  rw [hW0] at hz1
  have hb1 : w1.heap[w.heap.size + 1 + 1]? = some (.cells #[.int .i64 r0, .slice none 0 0, .slice none 0 0, .string ByteArray.empty, .string ByteArray.empty] 42 (0, 0)) := (hg1.block (k := w.heap.size + 1 + 1) (by rw [hW0]; omega)).trans (blk3_all w _ _ _).2.2
  have hr1 : w1.heap[w.heap.size + 1]? = some (.cells #[.int .i64 0, .slice none 0 0, .slice none 0 0, .string ByteArray.empty, .string ByteArray.empty] 42 (0, 0)) := (hg1.block (k := w.heap.size + 1) (by rw [hW0]; omega)).trans (blk3_all w _ _ _).2.1
  have ha1 : w1.heap[w.heap.size]? = some (.cells #[.int .i64 r0, .slice A pl c, .slice A2 sl c2, .string C, .string N] 39 (0, 0)) := (hg1.block (k := w.heap.size) (by rw [hW0]; omega)).trans (blk3_all w _ _ _).1
  have f1 : w1.cell? ⟨w.heap.size + 1 + 1, 1, none⟩ = some (.slice none 0 0) := (blk_cell hb1 1).trans rfl
  have f2 : w1.frozen? ⟨w.heap.size + 1 + 1, 1, none⟩ = false := blk_frozen hb1 1
  have f3 : w1.cell? ⟨w.heap.size, 2, none⟩ = some (.slice A2 sl c2) := (blk_cell ha1 2).trans rfl
  have hO1 : Only (w.heap.size + 1 + 1) w1 (w1.setCell ⟨w.heap.size + 1 + 1, 1, none⟩ (.slice VA pl vc)) := (Only.refl _ _).setCell _
  have hop2 : OwnI (w1.setCell ⟨w.heap.size + 1 + 1, 1, none⟩ (.slice VA pl vc)) (w.heap.size + 3) (.slice VA pl vc) P := own_only hop hO1 (fun h => by have := own_of_ge hop h; omega)
  have gW2 : Grew w (w1.setCell ⟨w.heap.size + 1 + 1, 1, none⟩ (.slice VA pl vc)) := (hal.trans hg1).setCell (by show w.heap.size ≤ w.heap.size + 1 + 1; omega) _
  have HB2 := Lib.hid (blk_set hb1 1 (.slice VA pl vc))
  have HR2 : Hid ((w1.setCell ⟨w.heap.size + 1 + 1, 1, none⟩ (.slice VA pl vc)).heap[w.heap.size + 1]? = some (.cells #[.int .i64 0, .slice none 0 0, .slice none 0 0, .string ByteArray.empty, .string ByteArray.empty] 42 (0, 0))) := Lib.hid ((hO1.block (k := w.heap.size + 1) (by omega) (by omega)).trans hr1)
  have HA2 : Hid ((w1.setCell ⟨w.heap.size + 1 + 1, 1, none⟩ (.slice VA pl vc)).heap[w.heap.size]? = some (.cells #[.int .i64 r0, .slice A pl c, .slice A2 sl c2, .string C, .string N] 39 (0, 0))) := Lib.hid ((hO1.block (k := w.heap.size) (by omega) (by omega)).trans ha1)
  have HOP := Lib.hid hop2
  clear hop hop2 hb1 hr1 ha1 hO1 hW0
  go_wp2_with fail
  refine (KS.out _ gW2).mono ?_
  rintro e w2 ⟨va, rfl, hos, hg2⟩
  obtain ⟨WA, wc, rfl⟩ := strs_slice hos.strs
  rw [hsl.out] at hos ⊢
  have hz2 : w.heap.size + 3 ≤ w2.heap.size := by have := hg2.size; simp [World.setCell] at this; omega
  have hz3 : (w1.setCell ⟨w.heap.size + 1 + 1, 1, none⟩ (.slice VA pl vc)).heap.size = w1.heap.size := by simp [World.setCell]
  have hb2 := (hg2.block (k := w.heap.size + 1 + 1) (by rw [hz3]; omega)).trans HB2.out
  have hr2 := (hg2.block (k := w.heap.size + 1) (by rw [hz3]; omega)).trans HR2.out
  have ha2 := (hg2.block (k := w.heap.size) (by rw [hz3]; omega)).trans HA2.out
  have k3 : w2.cell? ⟨w.heap.size, 3, none⟩ = some (.string C) := (blk_cell ha2 3).trans rfl
  have k4 : w2.cell? ⟨w.heap.size, 4, none⟩ = some (.string N) := (blk_cell ha2 4).trans rfl
  have o0 : w2.cell? ⟨w.heap.size + 1 + 1, 0, none⟩ = some (.int .i64 r0) := (blk_cell hb2 0).trans rfl
  have o1 : w2.cell? ⟨w.heap.size + 1 + 1, 1, none⟩ = some (.slice VA pl vc) := (blk_cell hb2 1).trans rfl
  have o2 : w2.cell? ⟨w.heap.size + 1 + 1, 2, none⟩ = some (.slice none 0 0) := (blk_cell hb2 2).trans rfl
  have o3 : w2.cell? ⟨w.heap.size + 1 + 1, 3, none⟩ = some (.string ByteArray.empty) := (blk_cell hb2 3).trans rfl
  have o4 : w2.cell? ⟨w.heap.size + 1 + 1, 4, none⟩ = some (.string ByteArray.empty) := (blk_cell hb2 4).trans rfl
  have q0 : w2.cell? ⟨w.heap.size + 1, 0, none⟩ = some (.int .i64 0) := (blk_cell hr2 0).trans rfl
  have q1 : w2.cell? ⟨w.heap.size + 1, 1, none⟩ = some (.slice none 0 0) := (blk_cell hr2 1).trans rfl
  have q2 : w2.cell? ⟨w.heap.size + 1, 2, none⟩ = some (.slice none 0 0) := (blk_cell hr2 2).trans rfl
  have q3 : w2.cell? ⟨w.heap.size + 1, 3, none⟩ = some (.string ByteArray.empty) := (blk_cell hr2 3).trans rfl
  have q4 : w2.cell? ⟨w.heap.size + 1, 4, none⟩ = some (.string ByteArray.empty) := (blk_cell hr2 4).trans rfl
  have y1 : ∀ i, w2.frozen? ⟨w.heap.size + 1 + 1, i, none⟩ = false := fun i => blk_frozen hb2 i
  have y2 : ∀ i, w2.frozen? ⟨w.heap.size + 1, i, none⟩ = false := fun i => blk_frozen hr2 i
  have HOS := Lib.hid hos
  have HR := Lib.hid hr2
  have HOPG := Lib.hid (HOP.out.grew hg2)
  have gW := gW2.trans hg2
  clear hb2 hr2 ha2 hos f1 f2 f3
  go_wp2_with fail
  (try simp only [Exit.inBlock, Exit.then])
  have hinfo : (Tryz.prog.info? 42).map (·.size) = some 5 := by kernel_rfl
  refine bodyPost_ret (results_cell_row rfl _ _ (w.heap.size + 1) 42 #[.int .i64 r0, .slice VA pl vc, .slice WA sl wc, .string C, .string N] (0, 0) _ rfl ?_ Tryz.underlying42 rfl hinfo) rfl ?_
  · simp [World.setCell, Array.getElem?_modify, HR.out]
  · refine ⟨_, _, rfl, ?_, ?_, ?_⟩
    · exact OwnI.base (B := w.heap.size + 3) (own_set (own_set (own_set (own_set (own_set (own_set (own_set (own_set HOPG.out (by omega)) (by omega)) (by omega)) (by omega)) (by omega)) (by omega)) (by omega)) (by omega)) (by omega)
    · exact OwnS.base (B := w.heap.size + 3) (own_set (own_set (own_set (own_set (own_set (own_set (own_set (own_set (HOS.out.base (B' := w.heap.size + 3) (by rw [hz3]; exact hz1)) (by omega)) (by omega)) (by omega)) (by omega)) (by omega)) (by omega)) (by omega)) (by omega)) (by omega)
    · have hq1 : w.heap.size ≤ w.heap.size + 1 := by omega
      have hq2 : w.heap.size ≤ w.heap.size + 1 + 1 := by omega
      exact (((((((gW.setCell hq2 _).setCell hq2 _).setCell hq2 _).setCell hq1 _).setCell hq1 _).setCell hq1 _).setCell hq1 _).setCell hq1 _
end Go.Proofs.YtkjmfkllmljdeaaGreat

/- The laws' own helpers on slices of Inferences: toInferenceS, eqInferenceS. -/
namespace Go.Proofs.YtkjmfkllmljdeaaGreat
open Go.RowKit

/-- Five cells are written. -/
theorem JfRow.keep {cur : Array Value} {i j : Nat} {x : Jf} {vp va a b c d e : Value} (h : JfRow cur (i * 5) x vp va) (hi : i < j) :
    JfRow (((((cur.setIfInBounds (j * 5) a).setIfInBounds (j * 5 + 1) b).setIfInBounds (j * 5 + 2) c).setIfInBounds (j * 5 + 3) d).setIfInBounds (j * 5 + 4) e) (i * 5) x vp va := by
  obtain ⟨h0, h1, h2, h3, h4⟩ := h
  unfold JfRow
  simp only [Array.getElem?_setIfInBounds, Array.size_setIfInBounds]
  refine ⟨?_, ?_, ?_, ?_, ?_⟩
  · rw [if_neg (by omega), if_neg (by omega), if_neg (by omega), if_neg (by omega), if_neg (by omega)]; exact h0
  · rw [if_neg (by omega), if_neg (by omega), if_neg (by omega), if_neg (by omega), if_neg (by omega)]; exact h1
  · rw [if_neg (by omega), if_neg (by omega), if_neg (by omega), if_neg (by omega), if_neg (by omega)]; exact h2
  · rw [if_neg (by omega), if_neg (by omega), if_neg (by omega), if_neg (by omega), if_neg (by omega)]; exact h3
  · rw [if_neg (by omega), if_neg (by omega), if_neg (by omega), if_neg (by omega), if_neg (by omega)]; exact h4
theorem JfRow.new {cur : Array Value} {j : Nat} (x : Jf) (vp va : Value) (hs : j * 5 + 4 < cur.size) :
    JfRow (((((cur.setIfInBounds (j * 5) (.int .i64 x.1)).setIfInBounds (j * 5 + 1) vp).setIfInBounds (j * 5 + 2) va).setIfInBounds (j * 5 + 3) (.string x.2.2.2.1)).setIfInBounds (j * 5 + 4) (.string x.2.2.2.2)) (j * 5) x vp va := by
  unfold JfRow
  simp only [Array.getElem?_setIfInBounds, Array.size_setIfInBounds]
  refine ⟨?_, ?_, ?_, ?_, ?_⟩
  · rw [if_neg (by omega), if_neg (by omega), if_neg (by omega), if_neg (by omega), if_pos trivial, if_pos (by omega)]
  · rw [if_neg (by omega), if_neg (by omega), if_neg (by omega), if_pos trivial, if_pos (by omega)]
  · rw [if_neg (by omega), if_neg (by omega), if_pos trivial, if_pos (by omega)]
  · rw [if_neg (by omega), if_pos trivial, if_pos (by omega)]
  · rw [if_pos trivial, if_pos (by omega)]
/-- The first j are written; their rows lie from block B on. -/
def JfDone (w : World) (B : Nat) (cur : Array Value) (xs : List Jf) (j : Nat) : Prop := ∀ i x, i < j → xs[i]? = some x → ∃ vp va, JfRow cur (i * 5) x vp va ∧ OwnI w B vp x.2.1 ∧ OwnS w B va x.2.2.1
theorem JfDone.own {w : World} {g : Nat} {cur : Array Value} {xs : List Jf} (h : JfDone w (g + 1) cur xs xs.length) (hg : w.heap[g]? = some (.cells cur 42 (0, 0))) (hs : cur.size = xs.length * 5) (hm : xs.length ≤ 9223372036854775807) : OwnJf w g (.slice (some ⟨g, 0, none⟩) xs.length xs.length) xs := by
  refine .inr ⟨g, xs.length, cur, rfl, Nat.le_refl _, hg, Nat.le_refl _, hm, hs, fun i x hx => ?_⟩
  obtain ⟨vp, va, k1, k2, k3⟩ := h i x (List.getElem?_eq_some_iff.1 hx).1 hx
  exact ⟨vp, va, k1, .inl (k2.base (Nat.le_succ _)), .inl (k3.base (Nat.le_succ _))⟩

set_option maxHeartbeats 1000000 in
theorem toInferenceS_c (v : Value) (xs : List Jf) (w : World) (h : ArgJf w v xs) (hn : xs.length ≤ 1048576) (hfit : FitsJf xs) :
    Calls Tryz.prog 8 #[v] w fun e w' => ∃ v', e = .returned v' ∧ OwnJf w' w.heap.size v' xs ∧ Grew w w' := by
  obtain ⟨⟨A, c, rfl, hmax⟩, hS, _⟩ := h
  have hmk := fun W => run_make_rows (P := Tryz.prog) 26 42 (.agg #[.int .i64 0, .slice none 0 0, .slice none 0 0, .string ByteArray.empty, .string ByteArray.empty]) 5 88 #[.int .i64 0, .slice none 0 0, .slice none 0 0, .string ByteArray.empty, .string ByteArray.empty] Tryz.underlying26 infoJf rfl .i64 .i64 xs.length (by omega) (by omega) W
  have HE := Lib.hid (fun cur w' (h1 : w'.heap[w.heap.size]? = some (.cells cur 42 (0, 0))) (h2 : cur.size = xs.length * 5) (h3 : JfDone w' (w.heap.size + 1) cur xs xs.length) => h3.own h1 h2 (by omega))
  have hsz : (madeCells #[Value.int .i64 0, .slice none 0 0, .slice none 0 0, .string ByteArray.empty, .string ByteArray.empty] (xs.length * 5)).size = xs.length * 5 := size_madeCells _ _
  have hnew := blk_new w (.cells (madeCells #[Value.int .i64 0, .slice none 0 0, .slice none 0 0, .string ByteArray.empty, .string ByteArray.empty] (xs.length * 5)) 42)
  have hal := (Grew.refl w).alloc (.cells (madeCells #[Value.int .i64 0, .slice none 0 0, .slice none 0 0, .string ByteArray.empty, .string ByteArray.empty] (xs.length * 5)) 42)
  generalize madeCells #[Value.int .i64 0, .slice none 0 0, .slice none 0 0, .string ByteArray.empty, .string ByteArray.empty] (xs.length * 5) = cur0 at *
  by_cases hp : 0 < xs.length
  · obtain ⟨b, o, c', hv, hc, hm, hb, hcell⟩ := (hS hp).open_ hp
    obtain ⟨rfl, rfl⟩ : A = some ⟨b, o, none⟩ ∧ c = c' := by simpa using hv
    clear hS hv
    have HC := Lib.hid hcell
    have HX := Lib.hid (fun j (hj : j < xs.length) => (⟨xs[j], List.getElem?_eq_getElem hj, hfit _ (List.getElem_mem hj)⟩ : ∃ x, xs[j]? = some x ∧ FitJf x))
    clear hcell hfit
    generalize hN : xs.length = n at *
    clear hN
    have HNEW := Lib.hid hnew
    clear hnew
    have HAL := Lib.hid hal
    clear hal
    go_enter Tryz.func8, Tryz.ntmps8
    go_wp2_with fail
    go_loopw [4] (fun i wr => ∃ (j : Nat) (cur : Array Value), j ≤ n ∧ i = .int .i64 j ∧ wr.heap[w.heap.size]? = some (.cells cur 42 (0, 0)) ∧ cur.size = n * 5 ∧ Grew w wr ∧ Hid (JfDone wr (w.heap.size + 1) cur xs j)) (fun i _ => n - (intOf i).toNat)
    case atStart => exact ⟨0, cur0, Nat.zero_le _, rfl, HNEW.out, hsz, HAL.out, fun i x hi => absurd hi (by omega)⟩
    case round =>
      obtain ⟨j, cur, hj, rfl, hh, hcs, hB, HD⟩ := hrel
      have HH := Lib.hid hh
      have hlt1 := blk_lt hh
      clear hh
      by_cases hlt : j < n
      · obtain ⟨x, hx, hfx⟩ := HX.out j hlt
        obtain ⟨up, ua, hcl, hpi, hps⟩ := HC.out j x hx
        obtain ⟨k1, k2, k3, k4, k5⟩ := hcl _ hB
        have KT := Lib.hid (fun W (hW : Grew wr W) => toInference_c x up ua W (hpi.grew (hB.trans hW)) (hps.grew (hB.trans hW)) hfx.1 hfx.2.1)
        obtain ⟨⟨A1, ca1, rfl, _⟩, _⟩ := hpi
        obtain ⟨⟨A2, ca2, rfl, _⟩, _, _⟩ := hps
        have hx' := Lib.hid hx
        clear hx hfx hcl
        have HNW := Lib.hid (fun vp va => JfRow.new (cur := cur) (j := j) x vp va (by omega))
        generalize hl1 : x.2.1.length = l1 at *
        generalize hl2 : x.2.2.1.length = l2 at *
        replace hl1 := Lib.hid hl1
        replace hl2 := Lib.hid hl2
        generalize hx1 : x.1 = xr at *
        generalize hx3 : x.2.2.2.1 = xc at *
        generalize hx4 : x.2.2.2.2 = xn at *
        clear hx1 hx3 hx4
        go_wp2_with fail
        refine (KT.out _ (Grew.refl wr)).mono ?_
        rintro e w1 ⟨vp, va, rfl, hop, hos, hg1⟩
        obtain ⟨VA, vc, rfl⟩ := ints_slice hop.ints
        obtain ⟨WA, wc, rfl⟩ := strs_slice hos.strs
        have hh := (hg1.block hlt1).trans HH.out
        have f1 : ∀ i, w1.frozen? ⟨w.heap.size, i, none⟩ = false := fun i => blk_frozen hh i
        have hcell : ∀ k, k < n * 5 → ∃ u, w1.cell? ⟨w.heap.size, k, none⟩ = some u := fun k hk => by
          rw [blk_cell hh]
          exact ⟨_, Array.getElem?_eq_getElem (by omega)⟩
        obtain ⟨u1, hu1⟩ := hcell (j * 5) (by omega)
        obtain ⟨u2, hu2⟩ := hcell (j * 5 + 1) (by omega)
        obtain ⟨u3, hu3⟩ := hcell (j * 5 + 2) (by omega)
        obtain ⟨u4, hu4⟩ := hcell (j * 5 + 3) (by omega)
        obtain ⟨u5, hu5⟩ := hcell (j * 5 + 4) (by omega)
        have HH1 := Lib.hid hh
        have HOP := Lib.hid (hop.base (B' := w.heap.size + 1) (by omega))
        have HOS := Lib.hid (hos.base (B' := w.heap.size + 1) (by omega))
        clear hh hcell hop hos
        rw [hl1.out]
        rw [hl2.out]
        rw [hl1.out] at HOP
        rw [hl2.out] at HOS
        go_wp2_with fail
        go_roundw
        case rel =>
          refine ⟨j + 1, _, by omega, by go_num, blk_set (blk_set (blk_set (blk_set (blk_set HH1.out _ _) _ _) _ _) _ _) _ _, by simp [hcs], ((((((hB.trans hg1).setCell (Nat.le_refl _) _).setCell (Nat.le_refl _) _).setCell (Nat.le_refl _) _).setCell (Nat.le_refl _) _).setCell (Nat.le_refl _) _), fun i y hi hy => ?_⟩
          rcases Nat.lt_or_ge i j with hk | hk
          · obtain ⟨p1, p2, q1, q2, q3⟩ := HD.out i y hk hy
            exact ⟨p1, p2, q1.keep hk, own_set (own_set (own_set (own_set (own_set (q2.grew hg1) (by omega)) (by omega)) (by omega)) (by omega)) (by omega), own_set (own_set (own_set (own_set (own_set (q3.grew hg1) (by omega)) (by omega)) (by omega)) (by omega)) (by omega)⟩
          · obtain rfl : i = j := by omega
            have hxy : x = y := Option.some.inj (hx'.out.symm.trans hy)
            subst hxy
            exact ⟨_, _, HNW.out _ _, own_set (own_set (own_set (own_set (own_set HOP.out (by omega)) (by omega)) (by omega)) (by omega)) (by omega), own_set (own_set (own_set (own_set (own_set HOS.out (by omega)) (by omega)) (by omega)) (by omega)) (by omega)⟩
        case measure => simp [intOf]; omega
      · obtain rfl : j = n := by omega
        go_wp2_with fail
        go_ret
        exact ⟨_, rfl, HE.out _ _ HH.out hcs HD.out, hB⟩
  · have hp0 : xs.length ≤ 0 := by omega
    have HNEW := Lib.hid hnew
    clear hnew hS hp hfit
    have HAL := Lib.hid hal
    clear hal
    generalize hN : xs.length = n at *
    clear hN
    go_enter Tryz.func8, Tryz.ntmps8
    go_wp2_with fail
    refine wp_loop_rounds 1 ?_; rw [rounds_succ]
    go_wp2_with fail
    go_ret
    exact ⟨_, rfl, HE.out _ _ HNEW.out hsz (fun i x hi => absurd hi (by omega)), HAL.out⟩

theorem eqInference_c (x : Jf) (up ua vp va : Value) (w : World) (h1 : Ints w up x.2.1) (h2 : Strs w ua x.2.2.1) (h3 : Ints w vp x.2.1) (h4 : Strs w va x.2.2.1) (n1 : x.2.1.length ≤ 1048576) (n2 : x.2.2.1.length ≤ 1048576) :
    Calls Tryz.prog 25 #[.agg #[.int .i64 x.1, up, ua, .string x.2.2.2.1, .string x.2.2.2.2], .agg #[.int .i64 x.1, vp, va, .string x.2.2.2.1, .string x.2.2.2.2]] w fun e w' => e = .returned (.bool true) ∧ Grew w w' := by
  have KI := Lib.hid (fun W (hW : Grew w W) => eqInt64S_yes up vp x.2.1 W (h1.grew hW) (h3.grew hW) (by omega))
  have KS := Lib.hid (fun W (hW : Grew w W) => eqStringS_yes ua va x.2.2.1 W (h2.grew hW) (h4.grew hW) (by omega))
  obtain ⟨A, c, rfl⟩ := ints_slice h1
  obtain ⟨B, d, rfl⟩ := strs_slice h2
  obtain ⟨A2, c2, rfl⟩ := ints_slice h3
  obtain ⟨B2, d2, rfl⟩ := strs_slice h4
  clear h1 h2 h3 h4 n1 n2
  have hal := ((Grew.refl w).alloc (.cells #[.int .i64 x.1, .slice A x.2.1.length c, .slice B x.2.2.1.length d, .string x.2.2.2.1, .string x.2.2.2.2] 42)).alloc (.cells #[.int .i64 x.1, .slice A2 x.2.1.length c2, .slice B2 x.2.2.1.length d2, .string x.2.2.2.1, .string x.2.2.2.2] 42)
  have hal1 := (Grew.refl w).alloc (.cells #[.int .i64 x.1, .slice A x.2.1.length c, .slice B x.2.2.1.length d, .string x.2.2.2.1, .string x.2.2.2.2] 42)
  generalize x.1 = xr at *
  generalize x.2.1.length = l1 at *
  generalize x.2.2.1.length = l2 at *
  generalize x.2.2.2.1 = xc at *
  generalize x.2.2.2.2 = xn at *
  have e1 : (xr != xr) = false := by simp
  have e2 : (xc.toList != xc.toList) = false := by simp
  have e3 : (xn.toList != xn.toList) = false := by simp
  have hW0 : ((w.alloc (.cells #[.int .i64 xr, .slice A l1 c, .slice B l2 d, .string xc, .string xn] 42)).alloc (.cells #[.int .i64 xr, .slice A2 l1 c2, .slice B2 l2 d2, .string xc, .string xn] 42)).heap.size = w.heap.size + 1 + 1 := by simp
  have hA0 : ((w.alloc (.cells #[.int .i64 xr, .slice A l1 c, .slice B l2 d, .string xc, .string xn] 42)).alloc (.cells #[.int .i64 xr, .slice A2 l1 c2, .slice B2 l2 d2, .string xc, .string xn] 42)).heap[w.heap.size]? = some (.cells #[.int .i64 xr, .slice A l1 c, .slice B l2 d, .string xc, .string xn] 42 (0, 0)) := by
    rw [((Grew.refl (w.alloc (.cells #[.int .i64 xr, .slice A l1 c, .slice B l2 d, .string xc, .string xn] 42))).alloc _).block (k := w.heap.size) (by simp)]
    exact blk_new w _
  have hB0 := blk_new (w.alloc (.cells #[.int .i64 xr, .slice A l1 c, .slice B l2 d, .string xc, .string xn] 42)) (.cells #[.int .i64 xr, .slice A2 l1 c2, .slice B2 l2 d2, .string xc, .string xn] 42)
  have hsz : (w.alloc (.cells #[.int .i64 xr, .slice A l1 c, .slice B l2 d, .string xc, .string xn] 42)).heap.size = w.heap.size + 1 := by simp
  rw [hsz] at hB0
  have HW0 := Lib.hid hW0
  have HA0 := Lib.hid hA0
  have HB0 := Lib.hid hB0
  clear hW0 hA0 hB0 hsz
  go_enter Tryz.func25, Tryz.ntmps25
  go_wp2_with fail
  refine (KI.out _ hal).mono ?_
  rintro e w1 ⟨rfl, hg1⟩
  have g1 := hal.trans hg1
  have hA1 := (hg1.block (k := w.heap.size) (by rw [HW0.out]; omega)).trans HA0.out
  have hB1 := (hg1.block (k := w.heap.size + 1) (by rw [HW0.out]; omega)).trans HB0.out
  have a2 : w1.cell? ⟨w.heap.size, 2, none⟩ = some (.slice B l2 d) := (blk_cell hA1 2).trans rfl
  have b2 : w1.cell? ⟨w.heap.size + 1, 2, none⟩ = some (.slice B2 l2 d2) := (blk_cell hB1 2).trans rfl
  have HA1 := Lib.hid hA1
  have HB1 := Lib.hid hB1
  have l1 := blk_lt hA1
  have l2' := blk_lt hB1
  clear hA1 hB1
  go_wp2_with fail
  refine (KS.out _ g1).mono ?_
  rintro e w2 ⟨rfl, hg2⟩
  have g2 := g1.trans hg2
  have hA2 := (hg2.block l1).trans HA1.out
  have hB2 := (hg2.block l2').trans HB1.out
  have a3 : w2.cell? ⟨w.heap.size, 3, none⟩ = some (.string xc) := (blk_cell hA2 3).trans rfl
  have b3 : w2.cell? ⟨w.heap.size + 1, 3, none⟩ = some (.string xc) := (blk_cell hB2 3).trans rfl
  have a4 : w2.cell? ⟨w.heap.size, 4, none⟩ = some (.string xn) := (blk_cell hA2 4).trans rfl
  have b4 : w2.cell? ⟨w.heap.size + 1, 4, none⟩ = some (.string xn) := (blk_cell hB2 4).trans rfl
  clear hA2 hB2
  go_wp2_with fail
  go_ret
  exact ⟨rfl, g2⟩

/-- Two lists that are equal. -/
theorem eqInferenceS_yes (v1 v2 : Value) (xs : List Jf) (w : World) (h1 : Jfs w v1 xs) (h2 : Jfs w v2 xs) (hn : xs.length ≤ 1099511627776) (hf : FitsJf xs) :
    Calls Tryz.prog 10 #[v1, v2] w fun e w' => e = .returned (.bool true) ∧ Grew w w' := by
  by_cases hp : 0 < xs.length
  · obtain ⟨b1, o1, c1, rfl, hc1, hm1, hb1, hcl1⟩ := JfRd.open_ h1 hp
    obtain ⟨b2, o2, c2, rfl, hc2, hm2, hb2, hcl2⟩ := JfRd.open_ h2 hp
    clear h1 h2
    have H1 := Lib.hid hcl1
    have H2 := Lib.hid hcl2
    have HX := Lib.hid (fun j (hj : j < xs.length) => (⟨xs[j], List.getElem?_eq_getElem hj, hf _ (List.getElem_mem hj)⟩ : ∃ x, xs[j]? = some x ∧ FitJf x))
    clear hcl1 hcl2 hf
    generalize hN : xs.length = n at *
    clear hN
    go_enter Tryz.func10, Tryz.ntmps10
    go_wp2_with fail
    go_loopw [5] (fun i wr => ∃ j : Nat, j ≤ n ∧ i = .int .i64 j ∧ Grew w wr) (fun i _ => n - (intOf i).toNat)
    case atStart => exact ⟨0, Nat.zero_le _, rfl, Grew.refl _⟩
    case round =>
      obtain ⟨j, hj, rfl, hB⟩ := hrel
      by_cases hlt : j < n
      · obtain ⟨x, hx, hfx⟩ := HX.out j hlt
        obtain ⟨up, ua, q1, q2, q3⟩ := H1.out j x hx
        obtain ⟨vp, va, r1, r2, r3⟩ := H2.out j x hx
        have KE := Lib.hid (fun W (hW : Grew w W) => eqInference_c x up ua vp va W (q2.grew hW) (q3.grew hW) (r2.grew hW) (r3.grew hW) hfx.1 hfx.2.1)
        obtain ⟨U1, cu1, rfl⟩ := ints_slice q2
        obtain ⟨U2, cu2, rfl⟩ := strs_slice q3
        obtain ⟨V1, cv1, rfl⟩ := ints_slice r2
        obtain ⟨V2, cv2, rfl⟩ := strs_slice r3
        have s0 := fun W (hW : Grew w W) => (q1 W hW).1
        have s1 := fun W (hW : Grew w W) => (q1 W hW).2.1
        have s2 := fun W (hW : Grew w W) => (q1 W hW).2.2.1
        have s3 := fun W (hW : Grew w W) => (q1 W hW).2.2.2.1
        have s4 := fun W (hW : Grew w W) => (q1 W hW).2.2.2.2
        have t0 := fun W (hW : Grew w W) => (r1 W hW).1
        have t1 := fun W (hW : Grew w W) => (r1 W hW).2.1
        have t2 := fun W (hW : Grew w W) => (r1 W hW).2.2.1
        have t3 := fun W (hW : Grew w W) => (r1 W hW).2.2.2.1
        have t4 := fun W (hW : Grew w W) => (r1 W hW).2.2.2.2
        have hd := hB.drew
        clear hx q1 q2 q3 r1 r2 r3 hfx
        generalize x.1 = xr at *
        generalize x.2.1.length = l1 at *
        generalize x.2.2.1.length = l2 at *
        generalize x.2.2.2.1 = xc at *
        generalize x.2.2.2.2 = xn at *
        go_wp2_with fail
        go_region_held3 (fun w' => Grew w w') (with_reducible assumption)
          (first | (go_at_call 25; refine (KE.out _ hd).mono ?_; rintro e w1 ⟨rfl, hg1⟩; have hk1 := hd.trans hg1))
        go_wp2_with fail
        go_roundw
        case rel => exact ⟨j + 1, by omega, by go_num, hk1⟩
        case measure => simp [intOf]; omega
      · obtain rfl : j = n := by omega
        go_wp2_with fail
        go_ret
        exact ⟨rfl, hB⟩
  · obtain rfl : xs = [] := List.eq_nil_of_length_eq_zero (by omega)
    obtain ⟨A, c, rfl⟩ := Jfs_slice h1
    obtain ⟨B, d, rfl⟩ := Jfs_slice h2
    simp only [List.length_nil]
    clear h1 h2 hp hf hn
    go_enter Tryz.func10, Tryz.ntmps10
    go_wp2_with fail
    refine wp_loop_rounds 1 ?_; rw [rounds_succ]
    go_wp2_with fail
    go_ret
    exact ⟨rfl, Grew.refl _⟩
end Go.Proofs.YtkjmfkllmljdeaaGreat

/- The laws' own helpers on slices of Inferences: szInferenceS, toInferenceS, eqInferenceS. -/
namespace Go.Proofs.YtkjmfkllmljdeaaGreat
open Go.RowKit

/-- The sizes of one. -/
def SizeJf (x : Jf) (r : Int) : Prop := r ≤ 1048576 ∧ (0 ≤ r → FitJf x)
theorem szInference_c (x : Jf) (up ua : Value) (left : Int) (w : World) (hp : ArgI w up x.2.1) (hs : ArgS w ua x.2.2.1) (hz : x.2.2.2.1.size ≤ 9223372036854775807) (hz2 : x.2.2.2.2.size ≤ 9223372036854775807) (h0 : 0 ≤ left) (h1 : left ≤ 1048576) :
    Calls Tryz.prog 19 #[.agg #[.int .i64 x.1, up, ua, .string x.2.2.2.1, .string x.2.2.2.2], .int .i64 left] w fun e w' => ∃ r : Int, e = .returned (.int .i64 r) ∧ SizeJf x r ∧ Grew w w' := by
  have hal := (Grew.refl w).alloc (.cells #[.int .i64 x.1, up, ua, .string x.2.2.2.1, .string x.2.2.2.2] 39)
  have HE : Hid (∀ r : Int, (r ≤ 1048576 ∧ (0 ≤ r → FitJf x)) → SizeJf x r) := Lib.hid (fun _ h => h)
  have HF : Hid (FitJf x ↔ (x.2.1.length ≤ 1048576 ∧ x.2.2.1.length ≤ 1048576 ∧ Fits x.2.2.1 ∧ x.2.2.2.1.size ≤ 1048576 ∧ x.2.2.2.2.size ≤ 1048576)) := Lib.hid Iff.rfl
  have KI := Lib.hid (fun l W (hW : Grew w W) (a0 : 0 ≤ l) (a1 : l ≤ 1048576) => szInt64S_c up x.2.1 l W (hp.grew hW) a0 a1)
  have KS := Lib.hid (fun l W (hW : Grew w W) (a0 : 0 ≤ l) (a1 : l ≤ 1048576) => szStringS_c ua x.2.2.1 l W (hs.grew hW) a0 a1)
  obtain ⟨⟨A, c, rfl, hm1⟩, _⟩ := hp
  obtain ⟨⟨A2, c2, rfl, hm2⟩, _, _⟩ := hs
  generalize FitJf x = FIT at *
  obtain ⟨r0, P, S, C, N⟩ := x
  simp only at *
  generalize P.length = pl at *
  generalize hsl : S.length = sl at *
  replace hsl := Lib.hid hsl
  go_enter Tryz.func19, Tryz.ntmps19
  go_wp2_with fail
  refine (KI.out _ _ hal (by omega) (by omega)).mono ?_
  rintro e w1 ⟨r1, rfl, ⟨hr1, hf1⟩, hg1⟩
  have k1 := hal.trans hg1
  by_cases h1 : r1 < 0
  · go_wp2_with fail
    go_ret
    exact ⟨_, rfl, HE.out _ ⟨by omega, fun h => absurd h (by omega)⟩, k1⟩
  have f2 : ∀ W, Grew w1 W → W.cell? ⟨w.heap.size, 2, none⟩ = some (.slice A2 sl c2) := fun W hW => ((hg1.trans hW).cell (p := ⟨w.heap.size, 2, none⟩) (by simp)).trans (by simp)
  have rr1 := Grew.refl w1
  go_wp2_with fail
  refine (KS.out _ _ k1 (by omega) (by omega)).mono ?_
  rintro e w2 ⟨r2, rfl, hs2, hg2⟩
  have HS2 := Lib.hid hs2
  have hr2 := hs2.1
  clear hs2
  have k2 := k1.trans hg2
  by_cases h2 : r2 < 0
  · go_wp2_with fail
    go_ret
    exact ⟨_, rfl, HE.out _ ⟨by omega, fun h => absurd h (by omega)⟩, k2⟩
  have f3 : ∀ W, Grew w2 W → W.cell? ⟨w.heap.size, 3, none⟩ = some (.string C) := fun W hW => (((hg1.trans hg2).trans hW).cell (p := ⟨w.heap.size, 3, none⟩) (by simp)).trans (by simp)
  have f4 : ∀ W, Grew w2 W → W.cell? ⟨w.heap.size, 4, none⟩ = some (.string N) := fun W hW => (((hg1.trans hg2).trans hW).cell (p := ⟨w.heap.size, 4, none⟩) (by simp)).trans (by simp)
  have rr2 := Grew.refl w2
  have hsm := Lib.hid (HS2.out.2 (by omega))
  have hf1' := hf1 (by omega)
  clear hf1
  by_cases h3 : r2 < C.size
  · go_wp2_with fail
    go_ret
    exact ⟨_, rfl, HE.out _ ⟨by omega, fun h => absurd h (by omega)⟩, k2⟩
  · by_cases h4 : r2 - C.size < N.size
    · go_wp2_with fail
      go_ret
      exact ⟨_, rfl, HE.out _ ⟨by omega, fun h => absurd h (by omega)⟩, k2⟩
    · go_wp2_with fail
      go_ret
      exact ⟨_, rfl, HE.out _ ⟨by omega, fun h => HF.out.2 ⟨hf1', (by have h7 := hsm.out.1; have h8 := hsl.out; omega), small_fits hsm.out.2, by omega, by omega⟩⟩, k2⟩

/-- The first k are small. -/
def SmallJf (xs : List Jf) (k : Nat) : Prop := ∀ i x, i < k → xs[i]? = some x → FitJf x
theorem SmallJf.zero (xs : List Jf) : SmallJf xs 0 := fun i x hi => absurd hi (by omega)
theorem SmallJf.succ {xs : List Jf} {k : Nat} {x : Jf} (h : SmallJf xs k) (hx : xs[k]? = some x) (h1 : FitJf x) : SmallJf xs (k + 1) := by
  intro i y hi hy
  rcases Nat.lt_or_ge i k with hk | hk
  · exact h i y hk hy
  · obtain rfl : i = k := by omega
    rw [hx] at hy
    injection hy with hy
    subst hy
    exact h1
theorem SmallJf.fits {xs : List Jf} (h : SmallJf xs xs.length) : FitsJf xs := by
  intro x hx
  obtain ⟨i, hi, rfl⟩ := List.getElem_of_mem hx
  exact h i _ hi (List.getElem?_eq_getElem hi)

theorem szInferenceS_c (v : Value) (xs : List Jf) (left : Int) (w : World) (h : ArgJf w v xs) (h0 : 0 ≤ left) (h1 : left ≤ 1048576) :
    Calls Tryz.prog 6 #[v, .int .i64 left] w fun e w' => ∃ r : Int, e = .returned (.int .i64 r) ∧ SizesJf xs r ∧ Grew w w' := by
  obtain ⟨⟨A, c, rfl, hmax⟩, hS, hz⟩ := h
  have HE : Hid (∀ r : Int, (r ≤ 1048576 ∧ (0 ≤ r → xs.length ≤ 1048576 ∧ FitsJf xs)) → SizesJf xs r) := Lib.hid (fun _ h => h)
  by_cases hlong : left < xs.length
  · clear hS hz
    generalize xs.length = n at *
    go_enter Tryz.func6, Tryz.ntmps6
    go_wp2_with fail
    go_ret
    exact ⟨_, rfl, HE.out _ ⟨by omega, fun h => absurd h (by omega)⟩, Grew.refl _⟩
  · by_cases hp : 0 < xs.length
    · obtain ⟨b, o, c', hv, hc, hm, hb, hcell⟩ := (hS hp).open_ hp
      obtain ⟨rfl, rfl⟩ : A = some ⟨b, o, none⟩ ∧ c = c' := by simpa using hv
      clear hS hv
      have HC := Lib.hid hcell
      have HZ := Lib.hid hz
      have HX := Lib.hid (fun j (hj : j < xs.length) => (⟨xs[j], List.getElem?_eq_getElem hj, List.getElem_mem hj⟩ : ∃ x, xs[j]? = some x ∧ x ∈ xs))
      have HFIN := Lib.hid (fun (h : SmallJf xs xs.length) => h.fits)
      clear hcell hz
      generalize hN : xs.length = n at *
      clear hN
      go_enter Tryz.func6, Tryz.ntmps6
      go_wp2_with fail
      go_loopw [1, 5] (fun kk i wr => ∃ (j : Nat) (l : Int), j ≤ n ∧ i = .int .i64 j ∧ kk = .int .i64 l ∧ 0 ≤ l ∧ l ≤ 1048576 ∧ Grew w wr ∧ Hid (SmallJf xs j)) (fun _ i _ => n - (intOf i).toNat)
      case atStart => exact ⟨0, left - n, Nat.zero_le _, rfl, rfl, by omega, by omega, Grew.refl _, SmallJf.zero _⟩
      case round =>
        obtain ⟨j, l, hj, rfl, rfl, hl0, hl1, hB, HJ⟩ := hrel
        by_cases hlt : j < n
        · obtain ⟨x, hx, hxm⟩ := HX.out j hlt
          obtain ⟨up, ua, hcs, hpi, hps⟩ := HC.out j x hx
          obtain ⟨k1, k2, k3, k4, k5⟩ := hcs _ hB
          have hz1 := HZ.out x hxm
          have HS := Lib.hid (fun h => HJ.out.succ hx h)
          have HW := Lib.hid (fun W (hW : Grew w W) => szInference_c x up ua l W (hpi.grew hW) (hps.grew hW) hz1.1 hz1.2 hl0 (by omega))
          clear hcs hpi hps hx hxm hz1
          generalize hxx : x = y at HS HW
          obtain ⟨r0, P, S, C, N⟩ := x
          simp only at k1 k2 k3 k4 k5
          subst hxx
          simp only at HW
          go_wp2_with fail
          refine (HW.out _ hB).mono ?_
          rintro e w1 ⟨r, rfl, ⟨hr1, hr2⟩, hg1⟩
          by_cases hbig : r < 0
          · clear hr2
            go_wp2_with fail
            go_ret
            exact ⟨_, rfl, HE.out _ ⟨by omega, fun h => absurd h (by omega)⟩, hB.trans hg1⟩
          · have hs := Lib.hid (HS.out (hr2 (by omega)))
            clear hr2
            go_wp2_with fail
            go_roundw
            case rel => exact ⟨j + 1, r, by omega, by go_num, rfl, by omega, by omega, hB.trans hg1, hs⟩
            case measure => simp [intOf]; omega
        · obtain rfl : j = n := by omega
          go_wp2_with fail
          go_ret
          exact ⟨_, rfl, HE.out _ ⟨by omega, fun _ => ⟨by omega, HFIN.out HJ.out⟩⟩, hB⟩
    · obtain rfl : xs = [] := List.eq_nil_of_length_eq_zero (by omega)
      simp only [List.length_nil] at *
      go_enter Tryz.func6, Tryz.ntmps6
      go_wp2_with fail
      refine wp_loop_rounds 1 ?_; rw [rounds_succ]
      go_wp2_with fail
      go_ret
      exact ⟨_, rfl, HE.out _ ⟨by omega, fun _ => ⟨by simp, fun i hi => absurd hi (by simp)⟩⟩, Grew.refl _⟩
end Go.Proofs.YtkjmfkllmljdeaaGreat

/- The law FnExactFirstBadInference, walked. -/
namespace Go.Proofs.YtkjmfkllmljdeaaGreat
open Go.RowKit

theorem lawFb_c (v0 : Value) (L0 : List Jf) (w : World) (h0 : ArgJf w v0 L0) :
    Calls Tryz.prog 3 #[v0] w fun e w' => e = .returned (.bool true) ∧ Grew w w' := by
  have Z0 := Lib.hid (fun W l (hW : Grew w W) (a0 : 0 ≤ l) (a1 : l ≤ 1048576) => szInferenceS_c v0 L0 l W (h0.grew hW) a0 a1)
  have T0 := Lib.hid (fun W (hW : Grew w W) => toInferenceS_c v0 L0 W (h0.grew hW))
  clear h0
  go_enter Tryz.func3, Tryz.ntmps3
  go_wp2_with fail
  refine (Z0.out _ _ (Grew.refl w) (by omega) (by omega)).mono ?_
  rintro e w1 ⟨r0, rfl, ⟨hm0, hs0⟩, hg1⟩
  have z1 := Lib.hid hg1.size
  have g1 : Grew w w1 := (Grew.refl w).trans hg1
  clear hg1
  by_cases hr0 : r0 < 0
  · clear hs0
    go_wp2_with fail
    go_ret
    exact ⟨rfl, g1⟩
  obtain ⟨hn0, hf0⟩ := hs0 (by omega)
  have F0 : Hid (FitsJf L0) := Lib.hid hf0
  clear hs0 hf0
  have KS := Lib.hid (fun u0 W x0 => specFb_c u0 L0 W x0 F0.out (by omega))
  have KI := Lib.hid (fun u0 W x0 => implFb_c u0 L0 W x0 F0.out (by omega))
  unfold GivesFb at KS KI
  generalize fbF L0 = rr at *
  obtain ⟨ra, rc⟩ := rr
  simp only at KS KI
  have hc1 : (rc != rc) = false := by simp
  have ha1 : (ra != ra) = false := by simp
  go_wp2_with fail
  refine (T0.out _ g1 hn0 F0.out).mono ?_
  rintro e w2 ⟨a0, rfl, oa0, hg2⟩
  have z2 := Lib.hid hg2.size
  have g2 : Grew w w2 := g1.trans hg2
  clear hg2
  go_wp2_with fail
  refine (KS.out _ _ oa0.rd).mono ?_
  rintro e w3 ⟨rfl, hg3⟩
  have z3 := Lib.hid hg3.size
  have g3 : Grew w w3 := g2.trans hg3
  clear hg3 oa0
  go_wp2_with fail
  refine (T0.out _ g3 hn0 F0.out).mono ?_
  rintro e w4 ⟨x0, rfl, ox0, hg4⟩
  have z4 := Lib.hid hg4.size
  have g4 : Grew w w4 := g3.trans hg4
  clear hg4
  go_wp2_with fail
  refine (KI.out _ _ ox0.rd).mono ?_
  rintro e w5 ⟨rfl, hg5⟩
  have z5 := Lib.hid hg5.size
  have g5 : Grew w w5 := g4.trans hg5
  replace ox0 := ox0.grew hg5
  clear hg5
  go_wp2_with fail
  refine (T0.out _ g5 hn0 F0.out).mono ?_
  rintro e w6 ⟨y0, rfl, oy0, hg6⟩
  have z6 := Lib.hid hg6.size
  have g6 : Grew w w6 := g5.trans hg6
  replace ox0 := ox0.grew hg6
  clear hg6
  go_wp2_with fail
  refine (eqInferenceS_yes _ _ L0 _ ox0.rd oy0.rd (by omega) F0.out).mono ?_
  rintro e w7 ⟨rfl, hg7⟩
  have z7 := Lib.hid hg7.size
  have g7 : Grew w w7 := g6.trans hg7
  replace ox0 := ox0.grew hg7
  clear hg7 oy0
  go_wp2_with fail
  go_ret
  exact ⟨rfl, g7⟩
end Go.Proofs.YtkjmfkllmljdeaaGreat

/- An argument that is a list of strings, or a struct of two such lists. -/
namespace Go.Proofs.YtkjmfkllmljdeaaGreat
open Go.RowKit

theorem cell_lt {w : World} {a : Addr} {u : Value} (h : w.cell? a = some u) : a.block < w.heap.size := by
  unfold World.cell? at h
  split at h
  · rename_i hh
    exact (Array.getElem?_eq_some_iff.1 hh).1
  · cases h

theorem argS_of_trod {H : Type} {enc : TypeId × Value → H} {P : Program} {W : World} {sp : Nat → Bool} {held : Bool} {n : Nat} {t e : TypeId} {v : Value} {y : DataW H × List MemPlace}
    (ht : P.underlying t = some (.slice e)) (he : P.underlying e = some .string) (hc : P.cellsOf e = 1) (h : DataW.trod enc P W 0 sp held n t [v] = some y) : ∃ L, ArgS W v L := by
  rcases Go.Deep.open_strs ht he hc h with ⟨hv, _⟩ | ⟨a, len, cap, m, Sx, hv, _, hl, hm, hmm, _, hcell⟩
  · obtain rfl : v = .slice none 0 0 := by simpa using hv
    exact ⟨[], ⟨none, 0, rfl, by simp⟩, fun h => absurd h (by simp), fun i hi => absurd hi (by simp)⟩
  · obtain rfl : v = .slice (some a) len cap := by simpa using hv
    have hlm : len ≤ m := by rw [hmm]; split <;> omega
    have hmax : maxLen = 9223372036854775807 := by decide
    rw [hmax] at hm
    have hlen : ((List.range len).map Sx).length = len := by simp
    have hst : ∀ i, i < len → st ((List.range len).map Sx) i = Sx i := fun i hi => by simp [st, List.getD, hi]
    refine ⟨(List.range len).map Sx, ⟨some a, cap, by rw [hlen], by rw [hlen]; omega⟩, fun hp => ?_, fun i hi => ?_⟩
    · rw [hlen] at hp
      obtain ⟨b, off, spot⟩ := a
      have h0 := (hcell 0 (by omega)).1
      have hspot : spot = none := by simpa [Addr.add] using World.cell?_spot h0
      subst hspot
      have hb := cell_lt h0
      have hadd : ∀ i, (⟨b, off, none⟩ : Addr).add i = ⟨b, off + i, none⟩ := fun i => by
        unfold Addr.add
        split
        · subst_vars; rfl
        · rfl
      rw [hadd] at hb
      unfold Strs Rd
      rw [hlen]
      refine ⟨by rw [scells_length, hlen], by omega, .inr ⟨b, off, cap, rfl, hl, hm, hb, fun j u hu => ?_⟩⟩
      have hj : j < len := by
        have := (List.getElem?_eq_some_iff.1 hu).1
        rw [scells_length, hlen] at this
        omega
      rw [scells_at (by rw [hlen]; exact hj), hst j hj] at hu
      rw [← hadd, (hcell j (by omega)).1]
      exact hu
    · rw [hlen] at hi
      rw [hst i hi, ← hmax]
      exact (hcell i (by omega)).2
end Go.Proofs.YtkjmfkllmljdeaaGreat

/- An argument that is a list of numbers. -/
namespace Go.Proofs.YtkjmfkllmljdeaaGreat
open Go.RowKit

theorem argI_of_trod {H : Type} {enc : TypeId × Value → H} {P : Program} {W : World} {sp : Nat → Bool} {held : Bool} {n : Nat} {t e : TypeId} {v : Value} {y : DataW H × List MemPlace}
    (ht : P.underlying t = some (.slice e)) (he : P.underlying e = some (.int .i64)) (hc : P.cellsOf e = 1) (h : DataW.trod enc P W 0 sp held n t [v] = some y) : ∃ L, ArgI W v L := by
  rcases Go.Deep.open_slice ht h with ⟨hv, _⟩ | ⟨a, len, cap, m, k, D, Pl, hv, _, hl, hm, hmm, _, hcell⟩
  · obtain rfl : v = .slice none 0 0 := by simpa using hv
    exact ⟨[], ⟨none, 0, rfl, by simp⟩, fun h => absurd h (by simp)⟩
  · obtain rfl : v = .slice (some a) len cap := by simpa using hv
    have hlm : len ≤ m := by rw [hmm]; split <;> omega
    have hmax : maxLen = 9223372036854775807 := by decide
    rw [hmax] at hm
    have each : ∀ i, i < len → ∃ q : Int, W.cell? (a.add i) = some (.int .i64 q) := fun i hi => by
      obtain ⟨cs', h1, h2⟩ := hcell i (by omega)
      rw [hc] at h1
      obtain ⟨_, hlen, hc1⟩ := World.cells?_some h1
      match cs', hlen with
      | [v0], _ =>
        obtain ⟨x, hx, _⟩ := DataW.trod_int he h2
        obtain rfl : v0 = .int .i64 x := by simpa using hx
        have e0 := hc1 0 (by omega)
        rw [Go.Deep.add_add] at e0
        exact ⟨x, by simpa [hc] using e0⟩
    obtain ⟨q, hq⟩ := Go.Deep.choose_lt each
    have hlen : ((List.range len).map q).length = len := by simp
    refine ⟨(List.range len).map q, ⟨some a, cap, by rw [hlen], by rw [hlen]; omega⟩, fun hp => ?_⟩
    rw [hlen] at hp
    obtain ⟨b, off, spot⟩ := a
    have h0 := hq 0 (by omega)
    have hspot : spot = none := by simpa [Addr.add] using World.cell?_spot h0
    subst hspot
    have hb := cell_lt h0
    have hadd : ∀ i, (⟨b, off, none⟩ : Addr).add i = ⟨b, off + i, none⟩ := fun i => by
      unfold Addr.add
      split
      · subst_vars; rfl
      · rfl
    rw [hadd] at hb
    unfold Ints Rd
    rw [hlen]
    refine ⟨by rw [icells_length, hlen], by omega, .inr ⟨b, off, cap, rfl, hl, hm, hb, fun j u hu => ?_⟩⟩
    have hj : j < len := by
      have := (List.getElem?_eq_some_iff.1 hu).1
      rw [icells_length, hlen] at this
      omega
    have h1 := icells_at (L := (List.range len).map q) (i := j) (by rw [hlen]; exact hj)
    rw [h1] at hu
    rw [← hadd, hq j hj, ← hu]
    simp [it, List.getD, hj]
end Go.Proofs.YtkjmfkllmljdeaaGreat

/- An argument that is a list of Inferences. -/
namespace Go.Proofs.YtkjmfkllmljdeaaGreat
open Go.RowKit


theorem argJf_of_trod {H : Type} {enc : TypeId × Value → H} {P : Program} {W : World} {sp : Nat → Bool} {held : Bool} {n : Nat} {t e ei es : TypeId} {f0 f1 f2 f3 f4 : Field} {v : Value} {y : DataW H × List MemPlace}
    (ht : P.underlying t = some (.slice e)) (he : P.underlying e = some (.struct #[f0, f1, f2, f3, f4])) (ce : P.cellsOf e = 5) (o0 : f0.offset = 0) (o1 : f1.offset = 1) (o2 : f2.offset = 2) (o3 : f3.offset = 3) (o4 : f4.offset = 4)
    (c0 : P.cellsOf f0.type = 1) (c1 : P.cellsOf f1.type = 1) (c2 : P.cellsOf f2.type = 1) (c3 : P.cellsOf f3.type = 1) (c4 : P.cellsOf f4.type = 1)
    (u0 : P.underlying f0.type = some (.int .i64)) (u1 : P.underlying f1.type = some (.slice ei)) (u2 : P.underlying f2.type = some (.slice es)) (u3 : P.underlying f3.type = some .string) (u4 : P.underlying f4.type = some .string)
    (ui : P.underlying ei = some (.int .i64)) (ci : P.cellsOf ei = 1) (us : P.underlying es = some .string) (cs : P.cellsOf es = 1) (h : DataW.trod enc P W 0 sp held n t [v] = some y) : ∃ xs, ArgJf W v xs := by
  rcases Go.Deep.open_slice ht h with ⟨hv, _⟩ | ⟨a, len, cap, m, k, D, Pl, hv, _, hl, hm, hmm, _, hcell⟩
  · obtain rfl : v = .slice none 0 0 := by simpa using hv
    exact ⟨[], ⟨none, 0, rfl, by simp⟩, fun h => absurd h (by simp), fun x hx => absurd hx (by simp)⟩
  · obtain rfl : v = .slice (some a) len cap := by simpa using hv
    have hlm : len ≤ m := by rw [hmm]; split <;> omega
    have hmax : maxLen = 9223372036854775807 := by decide
    rw [hmax] at hm
    have each : ∀ i, i < len → ∃ q : (Value × Value) × Jf, W.cell? (a.add (i * 5)) = some (.int .i64 q.2.1) ∧ W.cell? (a.add (i * 5 + 1)) = some q.1.1 ∧ W.cell? (a.add (i * 5 + 2)) = some q.1.2 ∧ W.cell? (a.add (i * 5 + 3)) = some (.string q.2.2.2.2.1) ∧ W.cell? (a.add (i * 5 + 4)) = some (.string q.2.2.2.2.2) ∧ ArgI W q.1.1 q.2.2.1 ∧ ArgS W q.1.2 q.2.2.2.1 ∧ q.2.2.2.2.1.size ≤ maxLen ∧ q.2.2.2.2.2.size ≤ maxLen := fun i hi => by
      obtain ⟨cs', h1, h2⟩ := hcell i (by omega)
      rw [ce] at h1
      obtain ⟨_, hlen, hc⟩ := World.cells?_some h1
      obtain ⟨xs, k', hk, hxy, _, hxl, hf⟩ := DataW.trod_struct he h2
      match xs, hxl, cs', hlen with
      | [y0, y1, y2, y3, y4], _, [v0, v1, v2, v3, v4], _ =>
        have g0 := hf 0 f0 rfl
        have g1 := hf 1 f1 rfl
        have g2 := hf 2 f2 rfl
        have g3 := hf 3 f3 rfl
        have g4 := hf 4 f4 rfl
        simp [o0, o1, o2, o3, o4, c0, c1, c2, c3, c4] at g0 g1 g2 g3 g4
        have e0 := hc 0 (by omega)
        have e1 := hc 1 (by omega)
        have e2 := hc 2 (by omega)
        have e3 := hc 3 (by omega)
        have e4 := hc 4 (by omega)
        rw [Go.Deep.add_add] at e0 e1 e2 e3 e4
        obtain ⟨x, hx, _⟩ := DataW.trod_int u0 g0
        obtain ⟨L1, hL1⟩ := argI_of_trod u1 ui ci g1
        obtain ⟨L2, hL2⟩ := argS_of_trod u2 us cs g2
        obtain ⟨s, hs, _, hsz⟩ := DataW.trod_string u3 g3
        obtain ⟨z, hz, _, hzz⟩ := DataW.trod_string u4 g4
        obtain rfl : v0 = .int .i64 x := by simpa using hx
        obtain rfl : v3 = .string s := by simpa using hs
        obtain rfl : v4 = .string z := by simpa using hz
        exact ⟨((v1, v2), (x, L1, L2, s, z)), by simpa using e0, by simpa using e1, by simpa using e2, by simpa using e3, by simpa using e4, hL1, hL2, hsz, hzz⟩
    obtain ⟨q, hq⟩ := Go.Deep.choose_lt each
    have hlen : ((List.range len).map fun i => (q i).2).length = len := by simp
    refine ⟨(List.range len).map fun i => (q i).2, ⟨some a, cap, by rw [hlen], by rw [hlen]; omega⟩, fun hp => ?_, fun x hx => ?_⟩
    · rw [hlen] at hp
      obtain ⟨b, off, spot⟩ := a
      have h0 := (hq 0 (by omega)).1
      have hspot : spot = none := by simpa [Addr.add] using World.cell?_spot h0
      subst hspot
      have hb := cell_lt h0
      have hadd : ∀ i, (⟨b, off, none⟩ : Addr).add i = ⟨b, off + i, none⟩ := fun i => by
        unfold Addr.add
        split
        · subst_vars; rfl
        · rfl
      rw [hadd] at hb
      refine .inr ⟨b, off, cap, by rw [hlen], by rw [hlen]; exact hl, hm, hb, fun i x hx => ?_⟩
      have hi : i < len := by
        have := (List.getElem?_eq_some_iff.1 hx).1
        rw [hlen] at this
        exact this
      have hxe : x = (q i).2 := by
        rw [List.getElem?_map, List.getElem?_range hi] at hx
        simp at hx
        exact hx.symm
      subst hxe
      obtain ⟨e0, e1, e2, e3, e4, e5, e6, _⟩ := hq i hi
      rw [hadd] at e0 e1 e2 e3 e4
      exact ⟨_, _, ⟨e0, by rw [← e1, Nat.add_assoc], by rw [← e2, Nat.add_assoc], by rw [← e3, Nat.add_assoc], by rw [← e4, Nat.add_assoc]⟩, e5, e6⟩
    · rw [List.mem_map] at hx
      obtain ⟨i, hi, rfl⟩ := hx
      rw [← hmax]
      exact (hq i (by simpa using hi)).2.2.2.2.2.2.2
end Go.Proofs.YtkjmfkllmljdeaaGreat

/- intProofCode of the program, l22Code of the reference. -/
namespace Go.Proofs.YtkjmfkllmljdeaaGreat
open Go.RowKit

/-- A list of lists of inferences. -/
def ld (Ls : List (List Jf)) (i : Nat) : List Jf := Ls.getD i []
/-- The value reads as the list of lists. -/
def JfL (w : World) (v : Value) (Ls : List (List Jf)) : Prop :=
  ∃ b o c, v = .slice (some ⟨b, o, none⟩) Ls.length c ∧ Ls.length ≤ c ∧ c ≤ 9223372036854775807 ∧
    ∀ i, i < Ls.length → ∃ u, (∀ W, Grew w W → W.cell? ⟨b, o + i, none⟩ = some u) ∧ Jfs w u (ld Ls i)
theorem JfL.grew {w w' : World} {v : Value} {Ls : List (List Jf)} (h : JfL w v Ls) (hg : Grew w w') : JfL w' v Ls := by
  obtain ⟨b, o, c, h1, h2, h3, h4⟩ := h
  refine ⟨b, o, c, h1, h2, h3, fun i hi => ?_⟩
  obtain ⟨u, k1, k2⟩ := h4 i hi
  exact ⟨u, fun W hW => k1 W (hg.trans hW), k2.grew hg⟩
theorem JfL.one {w : World} {T : TypeId} {u : Value} {xs : List Jf} (h : Jfs w u xs) : JfL (w.alloc (.cells #[u] T)) (.slice (some ⟨w.heap.size, 0, none⟩) 1 1) [xs] := by
  refine ⟨w.heap.size, 0, 1, rfl, Nat.le_refl _, by omega, fun i hi => ?_⟩
  obtain rfl : i = 0 := by simpa using hi
  exact ⟨u, fun W hW => (hW.cell (p := ⟨w.heap.size, 0 + 0, none⟩) (by simp)).trans (by simp), h.grew ((Grew.refl w).alloc _)⟩
theorem JfL.two {w : World} {T : TypeId} {u u2 : Value} {xs ys : List Jf} (h : Jfs w u xs) (h2 : Jfs w u2 ys) : JfL (w.alloc (.cells #[u, u2] T)) (.slice (some ⟨w.heap.size, 0, none⟩) 2 2) [xs, ys] := by
  refine ⟨w.heap.size, 0, 2, rfl, Nat.le_refl _, by omega, fun i hi => ?_⟩
  have hi2 : i < 2 := by simpa using hi
  match i, hi2 with
  | 0, _ => exact ⟨u, fun W hW => (hW.cell (p := ⟨w.heap.size, 0 + 0, none⟩) (by simp)).trans (by simp), h.grew ((Grew.refl w).alloc _)⟩
  | 1, _ => exact ⟨u2, fun W hW => (hW.cell (p := ⟨w.heap.size, 0 + 1, none⟩) (by simp)).trans (by simp), h2.grew ((Grew.refl w).alloc _)⟩

/-- None of the first k lists meets the predicate. -/
def NoneL (p : List Jf → Bool) (Ls : List (List Jf)) (k : Nat) : Prop := ∀ i, i < k → p (ld Ls i) = false
theorem NoneL.zero (p : List Jf → Bool) (Ls : List (List Jf)) : NoneL p Ls 0 := fun i hi => absurd hi (by omega)
theorem NoneL.succ {p : List Jf → Bool} {Ls : List (List Jf)} {k : Nat} (h : NoneL p Ls k) (h1 : p (ld Ls k) = false) : NoneL p Ls (k + 1) := by
  intro i hi
  rcases Nat.lt_or_ge i k with hk | hk
  · exact h i hk
  · obtain rfl : i = k := by omega
    exact h1
theorem ld_get {Ls : List (List Jf)} {i : Nat} (h : i < Ls.length) : Ls[i] = ld Ls i := by simp [ld, List.getD, h]
theorem noneL_any {p : List Jf → Bool} {Ls : List (List Jf)} (h : NoneL p Ls Ls.length) : Ls.any p = false := by
  rw [List.any_eq_false]
  intro x hx
  obtain ⟨i, hi, rfl⟩ := List.getElem_of_mem hx
  rw [ld_get hi, h i hi]
  simp
theorem anyL_at {p : List Jf → Bool} {Ls : List (List Jf)} {k : Nat} (hk : k < Ls.length) (h : p (ld Ls k) = true) : Ls.any p = true := by
  rw [List.any_eq_true]
  exact ⟨Ls[k], List.getElem_mem hk, by rw [ld_get hk]; exact h⟩
theorem noneL_of {p : List Jf → Bool} {Ls : List (List Jf)} (h : Ls.any p = false) {i : Nat} (hi : i < Ls.length) : p (ld Ls i) = false := by
  rw [List.any_eq_false] at h
  have := h _ (List.getElem_mem hi)
  rw [ld_get hi] at this
  simpa using this

/-- Too short or too long. -/
def badCnt (xs : List Jf) : Bool := !decide (xs.length ≠ 0 ∧ xs.length ≤ 60)
/-- With an inference that is not correct. -/
noncomputable def badStep (xs : List Jf) : Bool := decide (0 ≤ fbj xs xs.length)

theorem indexFuncL_c (v : Value) (Ls : List (List Jf)) (f : Nat) (p : List Jf → Bool) (w : World) (h : JfL w v Ls)
    (hf : ∀ i, i < Ls.length → ∀ u W, Jfs W u (ld Ls i) → Calls Tryz.prog f #[u] W fun e W' => e = .returned (.bool (p (ld Ls i))) ∧ Grew W W') (eg : ∀ args w, (callFunc f args).run Tryz.prog w = .ok (.enter f args) w) :
    Calls Tryz.prog 51 #[v, .func (.func f) #[] #[]] w fun e w' => ∃ r : Int, e = .returned (.int .i64 r) ∧ Grew w w' ∧ decide (0 ≤ r) = Ls.any p := by
  obtain ⟨b, o, c, rfl, hc, hm, hcell⟩ := h
  obtain ⟨R, hR⟩ : ∃ R, R = Ls.any p := ⟨_, rfl⟩
  rw [← hR]
  have HA := Lib.hid (fun k hk h => hR.trans (@anyL_at p Ls k hk h))
  have HZ := Lib.hid (fun h => hR.trans (@noneL_any p Ls h))
  have HC := Lib.hid hcell
  have HF := Lib.hid hf
  clear hcell hf hR
  generalize hN : Ls.length = n at *
  clear hN
  go_enter Tryz.func51, Tryz.ntmps51
  go_wp2_with fail
  go_loopw [5, 8] (fun _ i wr => ∃ j : Nat, j ≤ n ∧ i = .int .i64 j ∧ Grew w wr ∧ Hid (NoneL p Ls j)) (fun _ i _ => n - (intOf i).toNat)
  case atStart => exact ⟨0, Nat.zero_le _, rfl, Grew.refl _, NoneL.zero _ _⟩
  case round =>
    obtain ⟨j, hj, rfl, hB, HJ⟩ := hrel
    by_cases hlt : j < n
    · obtain ⟨u, k0, hd⟩ := HC.out j hlt
      have k1 := k0 _ hB
      have hz := Lib.hid (fun W (hW : Grew w W) => HF.out j hlt u W (hd.grew hW))
      have hA := Lib.hid (HA.out j hlt)
      have hS := Lib.hid (fun h => HJ.out.succ (k := j) h)
      obtain ⟨A, c', rfl⟩ := Jfs_slice hd
      clear k0 hd
      generalize ld Ls j = x at *
      go_wp2_with fail
      go_at_fn f
      refine (hz.out _ hB).mono ?_
      rintro e w1 ⟨rfl, hg1⟩
      have hB1 := hB.trans hg1
      cases hp : p x with
      | true =>
        have hv := hA.out hp
        go_wp2_with fail
        go_ret
        exact ⟨_, rfl, hB1, by rw [hv]; simp⟩
      | false =>
        have hs := Lib.hid (hS.out hp)
        go_wp2_with fail
        go_roundw
        case rel => exact ⟨j + 1, by omega, by go_num, hB1, hs⟩
        case measure => simp [intOf]; omega
    · obtain rfl : j = n := by omega
      have hv := Lib.hid (HZ.out HJ.out)
      go_wp2_with fail
      go_ret
      exact ⟨_, rfl, hB, by rw [hv.out]; rfl⟩

theorem containsFuncL_c (v : Value) (Ls : List (List Jf)) (f : Nat) (p : List Jf → Bool) (w : World) (h : JfL w v Ls)
    (hf : ∀ i, i < Ls.length → ∀ u W, Jfs W u (ld Ls i) → Calls Tryz.prog f #[u] W fun e W' => e = .returned (.bool (p (ld Ls i))) ∧ Grew W W') (eg : ∀ args w, (callFunc f args).run Tryz.prog w = .ok (.enter f args) w) :
    Calls Tryz.prog 37 #[v, .func (.func f) #[] #[]] w fun e w' => e = .returned (.bool (Ls.any p)) ∧ Grew w w' := by
  have HI := Lib.hid (indexFuncL_c v Ls f p w h hf eg)
  clear h hf eg
  generalize Ls.any p = R at *
  go_enter Tryz.func37, Tryz.ntmps37
  go_wp2_with fail
  refine HI.out.mono ?_
  rintro e w1 ⟨r, rfl, hg1, hr⟩
  go_wp2_with fail
  go_ret
  exact ⟨by rw [← hr]; rfl, hg1⟩

theorem dcode1_c (u : Value) (xs : List Jf) (W : World) (h : Jfs W u xs) : Calls Tryz.prog 38 #[u] W fun e W' => e = .returned (.bool (badCnt xs)) ∧ Grew W W' := by
  obtain ⟨A, c, rfl⟩ := Jfs_slice h
  have K := Lib.hid (isInferenceCount_c A xs.length c W)
  unfold badCnt
  clear h
  generalize decide (xs.length ≠ 0 ∧ xs.length ≤ 60) = d at *
  go_enter Tryz.func38, Tryz.ntmps38
  go_wp2_with fail
  refine (K.out).mono ?_
  rintro e w1 ⟨rfl, hg1⟩
  go_wp2_with fail
  go_ret
  exact ⟨rfl, hg1⟩

theorem dcode2_c (u : Value) (xs : List Jf) (W : World) (h : Jfs W u xs) (hf : FitsJf xs) (hl : xs.length ≤ 1000) : Calls Tryz.prog 39 #[u] W fun e W' => e = .returned (.bool (badStep xs)) ∧ Grew W W' := by
  have K := Lib.hid (firstBadInference_c u xs W h hf hl)
  obtain ⟨A, c, rfl⟩ := Jfs_slice h
  unfold badStep
  clear h hf
  generalize fbj xs xs.length = d at *
  go_enter Tryz.func39, Tryz.ntmps39
  go_wp2_with fail
  refine (K.out).mono ?_
  rintro e w1 ⟨rfl, hg1⟩
  go_wp2_with fail
  go_ret
  exact ⟨rfl, hg1⟩

/-- The code of lists of inferences. -/
noncomputable def dcode (Ls : List (List Jf)) : Int := if Ls.any badCnt then 3 else if Ls.any badStep then 1 else 0
theorem badCnt_le {xs : List Jf} (h : badCnt xs = false) : xs.length ≠ 0 ∧ xs.length ≤ 60 := by
  unfold badCnt at h
  simpa using h

theorem intProofCode_c (v : Value) (Ls : List (List Jf)) (w : World) (h : JfL w v Ls) (hf : ∀ i, i < Ls.length → FitsJf (ld Ls i)) :
    Calls Tryz.prog 27 #[v] w fun e w' => e = .returned (.int .i64 (dcode Ls)) ∧ Grew w w' := by
  unfold dcode
  have e1 : ∀ args w, (callFunc 38 args).run Tryz.prog w = .ok (.enter 38 args) w := enters_of Tryz.func38 (by kernel_rfl) rfl
  have e2 : ∀ args w, (callFunc 39 args).run Tryz.prog w = .ok (.enter 39 args) w := enters_of Tryz.func39 (by kernel_rfl) rfl
  have K1 := Lib.hid (containsFuncL_c v Ls 38 badCnt w h (fun i _ u W hu => dcode1_c u _ W hu) e1)
  cases hb : Ls.any badCnt with
  | true =>
    rw [if_pos rfl]
    rw [hb] at K1
    obtain ⟨b, o, c, rfl, _⟩ := h
    clear hf hb e2
    go_enter Tryz.func27, Tryz.ntmps27
    go_wp2_with fail
    refine (K1.out).mono ?_
    rintro e w1 ⟨rfl, hg1⟩
    go_wp2_with fail
    go_ret
    exact ⟨rfl, hg1⟩
  | false =>
    rw [if_neg (by simp)]
    have K2 := Lib.hid (fun W (hW : Grew w W) => containsFuncL_c v Ls 39 badStep W (h.grew hW) (fun i hi u W hu => dcode2_c u _ W hu (hf i hi) (by have := badCnt_le (noneL_of hb hi); omega)) e2)
    rw [hb] at K1
    obtain ⟨b, o, c, rfl, _⟩ := h
    clear hf hb e1 e2
    cases hs : Ls.any badStep with
    | true =>
      rw [hs] at K2
      rw [if_pos rfl]
      clear hs
      go_enter Tryz.func27, Tryz.ntmps27
      go_wp2_with fail
      refine (K1.out).mono ?_
      rintro e w1 ⟨rfl, hg1⟩
      go_wp2_with fail
      refine (K2.out _ hg1).mono ?_
      rintro e w2 ⟨rfl, hg2⟩
      go_wp2_with fail
      go_ret
      exact ⟨rfl, hg1.trans hg2⟩
    | false =>
      rw [hs] at K2
      rw [if_neg (by simp)]
      clear hs
      go_enter Tryz.func27, Tryz.ntmps27
      go_wp2_with fail
      refine (K1.out).mono ?_
      rintro e w1 ⟨rfl, hg1⟩
      go_wp2_with fail
      refine (K2.out _ hg1).mono ?_
      rintro e w2 ⟨rfl, hg2⟩
      go_wp2_with fail
      go_ret
      exact ⟨rfl, hg1.trans hg2⟩

theorem badCnt_zero {xs : List Jf} (h : xs.length = 0) : badCnt xs = true := by simp [badCnt, h]
theorem badCnt_big {xs : List Jf} (h : 60 < xs.length) : badCnt xs = true := by
  unfold badCnt
  rw [decide_eq_false (fun k => by omega)]
  rfl
theorem badCnt_ok {xs : List Jf} (h0 : xs.length ≠ 0) (h : xs.length ≤ 60) : badCnt xs = false := by
  unfold badCnt
  rw [decide_eq_true ⟨h0, h⟩]
  rfl

theorem l22Code_c (v : Value) (xs : List Jf) (w : World) (hv : Jfs w v xs) (hf : FitsJf xs) :
    Calls Tryz.prog 26 #[v] w fun e w' => e = .returned (.int .i64 (dcode [xs])) ∧ Grew w w' := by
  obtain ⟨A, c, rfl⟩ := Jfs_slice hv
  have KI := fun W => l01In_c (xs.length : Int) 1 60 W
  unfold dcode
  simp only [List.any_cons, List.any_nil, Bool.or_false]
  by_cases h0 : xs.length ≠ 0 ∧ xs.length ≤ 60
  · rw [decide_eq_true (by omega)] at KI
    replace KI := Lib.hid KI
    have KF := Lib.hid (fun W (hW : Grew w W) => l22Bad_c (.slice A xs.length c) xs W (hv.grew hW) hf (by omega))
    rw [badCnt_ok h0.1 h0.2, if_neg (by decide)]
    unfold badStep
    clear hv hf h0
    generalize fbj xs xs.length = R at *
    generalize xs.length = n at *
    by_cases hR : 0 ≤ R
    · rw [decide_eq_true hR, if_pos rfl]
      go_enter Tryz.func26, Tryz.ntmps26
      go_wp2_with fail
      refine (KI.out _).mono ?_
      rintro e w1 ⟨rfl, hg1⟩
      go_wp2_with fail
      refine (KF.out _ hg1).mono ?_
      rintro e w2 ⟨rfl, hg2⟩
      go_wp2_with fail
      go_ret
      exact ⟨rfl, hg1.trans hg2⟩
    · rw [decide_eq_false hR, if_neg (by decide)]
      go_enter Tryz.func26, Tryz.ntmps26
      go_wp2_with fail
      refine (KI.out _).mono ?_
      rintro e w1 ⟨rfl, hg1⟩
      go_wp2_with fail
      refine (KF.out _ hg1).mono ?_
      rintro e w2 ⟨rfl, hg2⟩
      go_wp2_with fail
      go_ret
      exact ⟨rfl, hg1.trans hg2⟩
  · rw [decide_eq_false (by omega)] at KI
    replace KI := Lib.hid KI
    have hb : badCnt xs = true := by unfold badCnt; rw [decide_eq_false h0]; rfl
    rw [hb, if_pos rfl]
    clear hv hf h0 hb
    generalize xs.length = n at *
    go_enter Tryz.func26, Tryz.ntmps26
    go_wp2_with fail
    refine (KI.out _).mono ?_
    rintro e w1 ⟨rfl, hg1⟩
    go_wp2_with fail
    go_ret
    exact ⟨rfl, hg1⟩
end Go.Proofs.YtkjmfkllmljdeaaGreat

/- What holds of the inferences of a proof, plain. -/
namespace Go.Proofs.YtkjmfkllmljdeaaGreat
open Go.RowKit

theorem dcode_zero {xs : List Jf} (h : dcode [xs] = 0) : xs.length ≠ 0 ∧ xs.length ≤ 60 ∧ fbj xs xs.length = -1 := by
  unfold dcode at h
  simp only [List.any_cons, List.any_nil, Bool.or_false] at h
  split at h
  · omega
  · rename_i h1
    split at h
    · omega
    · rename_i h2
      obtain ⟨h3, h4⟩ := badCnt_le (by simpa using h1)
      refine ⟨h3, h4, ?_⟩
      have h5 : ¬ (0 ≤ fbj xs xs.length) := by simpa [badStep] using h2
      rcases fbj_or xs xs.length with h6 | h6
      · exact h6
      · omega
/-- What holds of the inferences of a proof. -/
theorem steps_prem {xs : List Jf} (h : fbj xs xs.length = -1) {i : Nat} {x : Jf} (hx : xs[i]? = some x) {q : Nat} (hq : q < x.2.1.length) : 0 ≤ it x.2.1 q ∧ it x.2.1 q < i := by
  have hi : i < xs.length := by
    rcases Nat.lt_or_ge i xs.length with hk | hk
    · exact hk
    · rw [List.getElem?_eq_none hk] at hx; cases hx
  obtain ⟨y, hy, hg⟩ := fbj_all h i hi
  rw [hx] at hy
  cases hy
  have h2 := hg.2.1 x.2.1[q] (List.getElem_mem hq)
  rw [it_get hq, List.length_take] at h2
  omega
end Go.Proofs.YtkjmfkllmljdeaaGreat

/- The heights of the inferences of a proof. No program is in sight. -/
namespace Go.Proofs.YtkjmfkllmljdeaaGreat
open Go.RowKit

/-- The greatest of the heights of some steps, at least 0. -/
def hmax (H : List Int) (P : List Int) : Int := P.foldl (fun h k => max h (it H k.toNat)) 0
def hmx (H : List Int) (P : List Int) (i : Nat) : Int := hmax H (P.take i)
theorem hmx_zero (H P : List Int) : hmx H P 0 = 0 := rfl
theorem hmx_succ {H P : List Int} {i : Nat} (hi : i < P.length) : hmx H P (i + 1) = max (hmx H P i) (it H (it P i).toNat) := by
  unfold hmx hmax
  rw [List.take_succ_eq_append_getElem hi, List.foldl_append, it_get hi]
  rfl
theorem hmx_all (H P : List Int) : hmx H P P.length = hmax H P := by unfold hmx; rw [List.take_length]
/-- The heights of the first n steps. -/
def hgt (xs : List Jf) : Nat → List Int
  | 0 => []
  | n + 1 => hgt xs n ++ [hmax (hgt xs n) (xs.getD n (0, [], [], ByteArray.empty, ByteArray.empty)).2.1 + 1]
theorem hgt_len (xs : List Jf) (n : Nat) : (hgt xs n).length = n := by
  induction n with
  | zero => rfl
  | succ n ih => simp [hgt, ih]
theorem hgt_at (xs : List Jf) {i n m : Nat} (hi : i < n) (hn : n ≤ m) : it (hgt xs m) i = it (hgt xs n) i := by
  induction m with
  | zero => omega
  | succ m ih =>
    rcases Nat.lt_or_ge m n with hk | hk
    · obtain rfl : n = m + 1 := by omega
      rfl
    · have h1 := ih hk
      rw [← h1]
      unfold it
      simp only [hgt, List.getD]
      rw [List.getElem?_append_left (by rw [hgt_len]; omega)]
theorem hgt_last (xs : List Jf) (n : Nat) : it (hgt xs (n + 1)) n = hmax (hgt xs n) (xs.getD n (0, [], [], ByteArray.empty, ByteArray.empty)).2.1 + 1 := by
  unfold it
  simp [hgt, List.getD, hgt_len]
theorem hmax_bd {H P : List Int} {b : Int} (hb : 0 ≤ b) (h : ∀ i, i < H.length → it H i ≤ b) : ∀ i, 0 ≤ hmx H P i ∧ hmx H P i ≤ b := by
  intro i
  induction i with
  | zero => exact ⟨Int.le_refl _, hb⟩
  | succ i ih =>
    by_cases hi : i < P.length
    · rw [hmx_succ hi]
      have h1 : it H (it P i).toNat ≤ b := by
        generalize (it P i).toNat = q
        rcases Nat.lt_or_ge q H.length with hk | hk
        · exact h _ hk
        · have : it H q = 0 := by unfold it; simp [List.getD, List.getElem?_eq_none hk]
          omega
      omega
    · have e : hmx H P (i + 1) = hmx H P i := by
        unfold hmx
        rw [List.take_of_length_le (by omega), List.take_of_length_le (by omega)]
      rw [e]; exact ih
theorem hgt_bd (xs : List Jf) : ∀ n i, i < n → 1 ≤ it (hgt xs n) i ∧ it (hgt xs n) i ≤ n := by
  intro n
  induction n with
  | zero => intro i hi; omega
  | succ n ih =>
    intro i hi
    rcases Nat.lt_or_ge i n with hk | hk
    · rw [hgt_at xs hk (Nat.le_succ n)]
      have := ih i hk
      omega
    · obtain rfl : i = n := by omega
      rw [hgt_last]
      have h1 := hmax_bd (H := hgt xs i) (P := (xs.getD i (0, [], [], ByteArray.empty, ByteArray.empty)).2.1) (b := (i : Int)) (by omega) (fun j hj => by rw [hgt_len] at hj; have := ih j hj; omega) (xs.getD i (0, [], [], ByteArray.empty, ByteArray.empty)).2.1.length
      rw [hmx_all] at h1
      omega
end Go.Proofs.YtkjmfkllmljdeaaGreat

/- HeightOfProof of the program. -/
namespace Go.Proofs.YtkjmfkllmljdeaaGreat
open Go.RowKit

/-- What HeightOfProof answers. -/
noncomputable def htF (xs : List Jf) : Int × Int := if dcode [xs] = 0 then (it (hgt xs xs.length) (xs.length - 1), 0) else (0, dcode [xs])
/-- How the height of an inference is reckoned. -/
theorem ht_pack {xs : List Jf} (h : fbj xs xs.length = -1) {j : Nat} {x : Jf} (hx : xs[j]? = some x) : ∃ f : Nat → Int, f 0 = 0 ∧ (∀ i, i < x.2.1.length → f (i + 1) = max (f i) (it (hgt xs xs.length) (it x.2.1 i).toNat)) ∧ it (hgt xs xs.length) j = f x.2.1.length + 1 ∧ ∀ i, 0 ≤ f i ∧ f i ≤ xs.length := by
  have hj : j < xs.length := by
    rcases Nat.lt_or_ge j xs.length with hk | hk
    · exact hk
    · rw [List.getElem?_eq_none hk] at hx; cases hx
  refine ⟨hmx (hgt xs j) x.2.1, hmx_zero _ _, fun i hi => ?_, ?_, fun i => ?_⟩
  · rw [hmx_succ hi]
    obtain ⟨h1, h2⟩ := steps_prem h hx hi
    rw [hgt_at xs (i := (it x.2.1 i).toNat) (n := j) (m := xs.length) (by omega) (by omega)]
  · rw [hgt_at xs (i := j) (n := j + 1) (m := xs.length) (by omega) (by omega), hgt_last, hmx_all]
    have e : xs.getD j (0, [], [], ByteArray.empty, ByteArray.empty) = x := by simp [List.getD, hx]
    rw [e]
  · refine hmax_bd (by omega) (fun k hk => ?_) i
    rw [hgt_len] at hk
    have := hgt_bd xs j k hk
    omega
/-- The cells of the heights while they are reckoned. -/
def htc (H : List Int) (j : Nat) (h : Int) (i : Nat) : Int := if i < j then it H i else if i = j then h else 0
theorem htc_lt {H : List Int} {j i : Nat} {h : Int} (hi : i < j) : htc H j h i = it H i := by unfold htc; rw [if_pos hi]
theorem htc_at (H : List Int) (j : Nat) (h : Int) : htc H j h j = h := by unfold htc; rw [if_neg (by omega), if_pos rfl]
theorem htc_next {H : List Int} {j : Nat} {h : Int} (hh : it H j = h) (i : Nat) : htc H j h i = htc H (j + 1) 0 i := by
  unfold htc
  by_cases h1 : i < j
  · rw [if_pos h1, if_pos (by omega)]
  · rw [if_neg h1]
    by_cases h2 : i = j
    · subst h2; rw [if_pos rfl, if_pos (by omega), hh]
    · rw [if_neg h2, if_neg (by omega)]
      split <;> rfl
theorem htc_set {cur : Array Value} {n j : Nat} {H : List Int} {h h' : Int} (hs : cur.size = n) (hc : ∀ i, i < n → cur[i]? = some (.int .i64 (htc H j h i))) : ∀ i, i < n → (cur.setIfInBounds j (.int .i64 h'))[i]? = some (.int .i64 (htc H j h' i)) := by
  intro i hi
  simp only [Array.getElem?_setIfInBounds]
  by_cases hij : j = i
  · subst hij
    rw [if_pos rfl, if_pos (by omega), htc_at]
  · rw [if_neg hij, hc i hi]
    unfold htc
    by_cases h1 : i < j
    · rw [if_pos h1, if_pos h1]
    · rw [if_neg h1, if_neg h1, if_neg (by omega), if_neg (by omega)]
theorem made_at {n i : Nat} (hi : i < n) : (madeCells #[Value.int .i64 0] n)[i]? = some (.int .i64 0) := by
  simp [madeCells, hi, Nat.mod_one]

set_option maxHeartbeats 4000000 in
theorem implHt_c (v : Value) (xs : List Jf) (w : World) (hv : Jfs w v xs) (hf : FitsJf xs) (_hn : xs.length ≤ 1048576) :
    Calls Tryz.prog 12 #[v] w (GivesFb w (htF xs)) := by
  unfold GivesFb htF
  obtain ⟨A, c, rfl⟩ := Jfs_slice hv
  have KD := Lib.hid (intProofCode_c _ [xs] _ (JfL.one (T := 26) hv) (fun i hi => by obtain rfl : i = 0 := (by simpa using hi); exact hf))
  have HAL := Lib.hid ((Grew.refl w).alloc (.cells #[.slice A xs.length c] 26))
  by_cases hd : dcode [xs] = 0
  · rw [if_pos hd]
    rw [hd] at KD
    obtain ⟨hn0, hn1, hfb⟩ := dcode_zero hd
    rcases hv with ⟨_, h0⟩ | ⟨b, o, c', hv, hc, hm, hb, hcell⟩
    · rw [h0] at hn0; exact absurd rfl hn0
    obtain ⟨rfl, rfl⟩ : A = some ⟨b, o, none⟩ ∧ c = c' := by simpa using hv
    have HX := Lib.hid (fun j (hj : j < xs.length) => (⟨xs[j], List.getElem?_eq_getElem hj, hf _ (List.getElem_mem hj)⟩ : ∃ x, xs[j]? = some x ∧ FitJf x))
    have HP := Lib.hid (fun i x hx q hq => @steps_prem xs hfb i x hx q hq)
    have HK := Lib.hid (fun j x hx => @ht_pack xs hfb j x hx)
    have HC := Lib.hid hcell
    have hmk := run_make_row' (P := Tryz.prog) 30 2 (.int .i64 0) 8 Tryz.underlying30 Tryz.infoI rfl .i64 .i64 xs.length (by omega) (by omega)
    clear hd hfb hv hcell hf
    generalize hgt xs xs.length = H at *
    generalize hN : xs.length = n at *
    clear hN
    have hsz : (madeCells #[Value.int .i64 0] n).size = n := by simp [madeCells]
    have hmd := Lib.hid (fun i hi => @made_at n i hi)
    generalize madeCells #[Value.int .i64 0] n = cur0 at *
    go_enter Tryz.func12, Tryz.ntmps12
    go_wp2_with fail
    refine (KD.out).mono ?_
    rintro e w1 ⟨rfl, hg1⟩
    have g1 := HAL.out.trans hg1
    have hnew := Lib.hid (blk_new w1 (.cells cur0 2))
    have hal := Lib.hid (g1.alloc (.cells cur0 2))
    have hgB := g1.size
    clear KD HAL hg1 g1
    go_wp2_with fail
    go_loopw [21] (fun i wr => ∃ (j : Nat) (cur : Array Value), j ≤ n ∧ i = .int .i64 j ∧ Hid (wr.heap[w1.heap.size]? = some (.cells cur 2 (0, 0))) ∧ cur.size = n ∧ Grew w wr ∧ Hid (∀ i, i < n → cur[i]? = some (.int .i64 (htc H j 0 i)))) (fun i _ => n - (intOf i).toNat)
    case atStart => exact ⟨0, cur0, Nat.zero_le _, rfl, hnew, hsz, hal.out, fun i hi => by rw [hmd.out i hi]; unfold htc; rw [if_neg (by omega)]; split <;> rfl⟩
    clear hnew hal hmd hsz hmk
    generalize w1.heap.size = g at *
    case round =>
      obtain ⟨j, cur, hj, rfl, hh, hcs, hB, hcur⟩ := hrel
      by_cases hlt : j < n
      · obtain ⟨x, hx, hfx⟩ := HX.out j hlt
        obtain ⟨f, f0, f1, f2, f3⟩ := HK.out j x hx
        have hp := Lib.hid (fun q hq => HP.out j x hx q hq)
        obtain ⟨up, ua, hcl, hup, hus⟩ := HC.out j x hx
        obtain ⟨k0, k1, k2, k3, k4⟩ := hcl.grew hb hB
        have hpl := hfx.1
        have F1 := Lib.hid f1
        have F3 := Lib.hid f3
        have HUP := Lib.hid hup
        obtain ⟨A1, ca1, rfl⟩ := ints_slice hup
        obtain ⟨A2, ca2, rfl⟩ := strs_slice hus
        clear hcl hup hus hfx HP HK HC HX hx f1 f3
        obtain ⟨r0, rA, rs, rc, rn⟩ := x
        simp only at *
        have hal := Lib.hid ((Grew.refl wr).alloc (.cells #[.int .i64 r0, .slice A1 rA.length ca1, .slice A2 rs.length ca2, .string rc, .string rn] 42))
        go_wp2_with fail
        generalize wr.alloc (.cells #[.int .i64 r0, .slice A1 rA.length ca1, .slice A2 rs.length ca2, .string rc, .string rn] 42) = wa at *
        have hga := hB.trans hal.out
        have hh1 := Lib.hid ((hal.out.block (blk_lt hh.out)).trans hh.out)
        clear hal hh hB k0 k1 k2 k3 k4
        go_loopw [29] (fun i wr => ∃ (q : Nat) (cu : Array Value), q ≤ rA.length ∧ i = .int .i64 q ∧ Hid (wr.heap[g]? = some (.cells cu 2 (0, 0))) ∧ cu.size = n ∧ Grew w wr ∧ Hid (∀ i, i < n → cu[i]? = some (.int .i64 (htc H j (f q) i)))) (fun i _ => rA.length - (intOf i).toNat)
        case atStart => exact ⟨0, cur, Nat.zero_le _, rfl, hh1, hcs, hga, by rw [f0]; exact hcur⟩
        clear hh1 hga hcs hcur
        case round =>
          obtain ⟨q, cu, hq, rfl, hh, hcs, hB, hcur⟩ := hrel
          by_cases hlq : q < rA.length
          · obtain ⟨hp0, hp1⟩ := hp.out q hlq
            have e1 := F1.out q hlq
            have e2 := F3.out q
            rcases HUP.out.open_ with ⟨_, h2⟩ | ⟨b1, o1, c1, hv1, hc1, hm1, hb1, hcl1⟩
            · rw [h2] at hlq; cases hlq
            obtain ⟨rfl, rfl⟩ : A1 = some ⟨b1, o1, none⟩ ∧ ca1 = c1 := by simpa using hv1
            have k1 := hcl1 q hlq _ hB
            clear hcl1 hv1
            obtain ⟨p, hpe⟩ : ∃ p : Nat, it rA q = p := ⟨(it rA q).toNat, by omega⟩
            rw [hpe] at k1 hp0 hp1 e1
            rw [Int.toNat_natCast] at e1
            have hpj : p < j := by omega
            have c1 : wr.cell? ⟨g, p, none⟩ = some (.int .i64 (it H p)) := (blk_cell hh.out _).trans ((hcur.out p (by omega)).trans (by rw [htc_lt hpj]))
            have c2 : wr.cell? ⟨g, j, none⟩ = some (.int .i64 (f q)) := (blk_cell hh.out _).trans ((hcur.out j (by omega)).trans (by rw [htc_at]))
            have c3 : wr.frozen? ⟨g, j, none⟩ = false := blk_frozen hh.out _
            have i0 : (0 : Int) ≤ (p : Int) := by omega
            have i1 : (p : Int) < (n : Int) := by omega
            have i2 : (0 : Int) ≤ (j : Int) := by omega
            have i3 : (j : Int) < (n : Int) := by omega
            have i4 : (q : Int) < (rA.length : Int) := by omega
            have S1 := Lib.hid (fun (h' : Int) => blk_set hh.out j (.int .i64 h'))
            have S2 := Lib.hid (fun (h' : Int) => @htc_set cu n j H (f q) h' hcs hcur.out)
            have hgB2 := hB.size
            clear HUP F1 F3 hp
            generalize it H p = hv at *
            generalize f q = h0 at *
            obtain ⟨h1, HF0⟩ : ∃ h1, h1 = f (q + 1) := ⟨_, rfl⟩
            rw [← HF0] at e1
            have HF1 := Lib.hid HF0.symm
            clear HF0
            by_cases hmx : hv > h0
            · obtain rfl : h1 = hv := by omega
              have eM : max h0 h1 = h1 := by omega
              clear e1 hpe
              go_wp2_with fail
              go_region
              go_wp2_with fail
              go_roundw
              case rel => exact ⟨q + 1, _, by omega, by go_num, Lib.hid (S1.out _), by simp [hcs], (hB.setCell hgB _).drew, by rw [HF1.out]; exact Lib.hid (S2.out _)⟩
              case measure => simp [intOf]; omega
            · obtain rfl : h1 = h0 := by omega
              have eM : max h1 hv = h1 := by omega
              clear e1 hpe
              go_wp2_with fail
              go_region
              go_wp2_with fail
              go_roundw
              case rel => exact ⟨q + 1, _, by omega, by go_num, Lib.hid (S1.out _), by simp [hcs], (hB.setCell hgB _).drew, by rw [HF1.out]; exact Lib.hid (S2.out _)⟩
              case measure => simp [intOf]; omega
          · obtain rfl : q = rA.length := by omega
            have c2 : wr.cell? ⟨g, j, none⟩ = some (.int .i64 (f rA.length)) := (blk_cell hh.out _).trans ((hcur.out j (by omega)).trans (by rw [htc_at]))
            have c3 : wr.frozen? ⟨g, j, none⟩ = false := blk_frozen hh.out _
            have S1 := Lib.hid (fun (h' : Int) => blk_set hh.out j (.int .i64 h'))
            have S2 := Lib.hid (fun (h' : Int) => @htc_set cu n j H (f rA.length) h' hcs hcur.out)
            have e2 := F3.out rA.length
            have e3 := Lib.hid (@htc_next H j (f rA.length + 1) f2)
            clear HUP F1 F3 hp f2
            generalize f rA.length = h0 at *
            have eW : IntKind.i64.wrap (h0 + 1) = h0 + 1 := by rw [IntKind.wrap_i64]; omega
            go_wp2_with fail
            go_roundw
            case rel => exact ⟨j + 1, _, by omega, by go_num, S1.out _, by simp [hcs], hB.setCell hgB _, fun i hi => by rw [S2.out _ i hi, e3.out]⟩
            case measure => simp [intOf]; omega
      · obtain rfl : j = n := by omega
        have c2 : wr.cell? ⟨g, j - 1, none⟩ = some (.int .i64 (it H (j - 1))) := (blk_cell hh.out _).trans ((hcur.out (j - 1) (by omega)).trans (by rw [htc_lt (by omega)]))
        have i0 : (0 : Int) ≤ (j : Int) - 1 := by omega
        have i1 : (j : Int) - 1 < (j : Int) := by omega
        obtain ⟨r, hr⟩ : ∃ r, r = it H (j - 1) := ⟨_, rfl⟩
        rw [← hr] at c2
        replace hr := Lib.hid hr
        go_wp2_with fail
        go_ret2
        exact ⟨congrArg (fun k => Ending.returned (.tuple #[.int .i64 k, .int .i64 0])) hr.out, hB⟩
  · rw [if_neg hd]
    have e0 : (dcode [xs] == 0) = false := by simpa using hd
    clear hv hf hd
    generalize dcode [xs] = d at *
    go_enter Tryz.func12, Tryz.ntmps12
    go_wp2_with fail
    refine (KD.out).mono ?_
    rintro e w1 ⟨rfl, hg1⟩
    go_wp2_with fail
    go_ret2
    exact ⟨rfl, HAL.out.trans hg1⟩
end Go.Proofs.YtkjmfkllmljdeaaGreat

/- Appends of numbers. -/
namespace Go.Proofs.YtkjmfkllmljdeaaGreat
open Go.RowKit

/-- 'out = append(out, x)' onto a row of numbers of the call's own. -/
theorem wpList_appI {ops : Array Oper} {rest : List Oper} {o : Oper} {a : Act} {Q : Exit → Act → World → Prop} {w w0 : World} (s x : Operand) (hgd : o.guard = none)
    (ho : o.op = .call { callee := .builtin .append, args := #[s, x], argTypes := #[30, 30] })
    (v : Value) (L : List Int) (hs : a.eval s = v) (hown : OwnI w w0.heap.size v L) (hg : Grew w0 w) (vx : Value) (k : Int) (hx : a.eval x = vx) (hr : Rd w 1 vx 1 [.int .i64 k]) (hn : L.length ≤ 1048576)
    (h : ∀ v' w', OwnI w' w0.heap.size v' (L ++ [k]) → Grew w0 w' → w.grownBy w' v.ownBlock → wpList Tryz.prog ops Q rest (a.put o.dst v') w') : wpList Tryz.prog ops Q (o :: rest) a w := by
  obtain ⟨i0, hi0, hz0, hz1, hz2⟩ := info_parts Tryz.infoI
  refine wpList_append_rd w hgd s x _ ho w0.heap.size 2 i0 _ 1 8 Tryz.underlying30 hi0 hz0 hz1 hz2 rfl (by omega) v L.length (icells L) hs hown vx 1 [.int .i64 k] hx hr (by simp [Value.oneCell']) (by unfold maxLen; omega) (by omega) hg.size ?_
  intro v' w' h1 h2 h3
  refine h v' w' ?_ (hg.grown h2 fun k hk => (hown.lt k hk).1) h2
  unfold OwnI
  rw [List.length_append, icells_append]
  exact h1
theorem rd_litI (w : World) (k : Int) (t : TypeId) : Rd (w.alloc (.cells #[.int .i64 k] t)) 1 (.slice (some ⟨w.heap.size, 0, none⟩) 1 1) 1 [.int .i64 k] := by
  refine ⟨rfl, by omega, .inr ⟨w.heap.size, 0, 1, rfl, by omega, by omega, by simp, fun j x hx => ?_⟩⟩
  have hj : j = 0 := by
    have := (List.getElem?_eq_some_iff.1 hx).1
    simp at this
    omega
  subst hj
  simp at hx
  subst hx
  simp
theorem own_emptyI (w : World) : OwnI (w.alloc (.cells #[] 2)) w.heap.size (.slice (some ⟨w.heap.size, 0, none⟩) 0 0) [] :=
  World.ownsRow_lit (e := 2) (size := 1) w #[] 0 (Nat.le_refl _) (by omega) rfl
end Go.Proofs.YtkjmfkllmljdeaaGreat

/- HeightOfProof of the reference. -/
namespace Go.Proofs.YtkjmfkllmljdeaaGreat
open Go.RowKit

/-- The first j of the numbers. -/
theorem it_take {H : List Int} {i j : Nat} (h : i < j) : it (H.take j) i = it H i := by
  unfold it
  simp [List.getD, h]
theorem it_snoc {H : List Int} {j : Nat} (h : j < H.length) : H.take j ++ [it H j] = H.take (j + 1) := by
  rw [List.take_succ_eq_append_getElem h, it_get h]

set_option maxHeartbeats 4000000 in
theorem specHt_c (v : Value) (xs : List Jf) (w : World) (hv : Jfs w v xs) (hf : FitsJf xs) (_hn : xs.length ≤ 1048576) :
    Calls Tryz.prog 11 #[v] w (GivesFb w (htF xs)) := by
  unfold GivesFb htF
  obtain ⟨A, c, rfl⟩ := Jfs_slice hv
  have KD := Lib.hid (l22Code_c _ xs _ hv hf)
  have HAL := Lib.hid (Grew.refl w)
  by_cases hd : dcode [xs] = 0
  · rw [if_pos hd]
    rw [hd] at KD
    obtain ⟨hn0, hn1, hfb⟩ := dcode_zero hd
    rcases hv with ⟨_, h0⟩ | ⟨b, o, c', hv, hc, hm, hb, hcell⟩
    · rw [h0] at hn0; exact absurd rfl hn0
    obtain ⟨rfl, rfl⟩ : A = some ⟨b, o, none⟩ ∧ c = c' := by simpa using hv
    have HX := Lib.hid (fun j (hj : j < xs.length) => (⟨xs[j], List.getElem?_eq_getElem hj, hf _ (List.getElem_mem hj)⟩ : ∃ x, xs[j]? = some x ∧ FitJf x))
    have HP := Lib.hid (fun i x hx q hq => @steps_prem xs hfb i x hx q hq)
    have HK := Lib.hid (fun j x hx => @ht_pack xs hfb j x hx)
    have HC := Lib.hid hcell
    have HLn := hgt_len xs xs.length
    clear hd hfb hv hcell hf
    generalize hgt xs xs.length = H at *
    generalize hN : xs.length = n at *
    clear hN
    go_enter Tryz.func11, Tryz.ntmps11
    go_wp2_with fail
    refine (KD.out).mono ?_
    rintro e w1 ⟨rfl, hg1⟩
    have g1 := HAL.out.trans hg1
    have hnew := Lib.hid ((own_emptyI w1).base g1.size)
    have hal := Lib.hid (g1.alloc (.cells #[] 2))
    clear KD HAL hg1 g1
    go_wp2_with fail
    generalize w1.alloc (.cells #[] 2) = w2 at *
    go_loopw [5, 6] (fun vv i wr => ∃ (j : Nat), j ≤ n ∧ i = .int .i64 j ∧ Hid (OwnI wr w.heap.size vv (H.take j)) ∧ Grew w wr) (fun _ i _ => n - (intOf i).toNat)
    case atStart => exact ⟨0, Nat.zero_le _, rfl, hnew, hal.out⟩
    clear hnew hal
    case round =>
      obtain ⟨j, hj, rfl, hO, hB⟩ := hrel
      by_cases hlt : j < n
      · obtain ⟨x, hx, hfx⟩ := HX.out j hlt
        obtain ⟨f, f0, f1, f2, f3⟩ := HK.out j x hx
        have hp := Lib.hid (fun q hq => HP.out j x hx q hq)
        obtain ⟨up, ua, hcl, hup, hus⟩ := HC.out j x hx
        have k1 : ∀ W, Grew w W → W.cell? ⟨b, o + j * 5 + 1, none⟩ = some up := fun W hW => (hcl.grew hb hW).2.1
        have hpl := hfx.1
        have F1 := Lib.hid f1
        have F3 := Lib.hid f3
        have HUP := Lib.hid hup
        obtain ⟨A1, ca1, rfl⟩ := ints_slice hup
        clear hcl hup hus hfx HP HK HC HX hx f1 f3
        obtain ⟨r0, rA, rs, rc, rn⟩ := x
        simp only at *
        have hj0 : (0 : Int) ≤ (j : Int) := by omega
        have hj1 : (j : Int) < (n : Int) := by omega
        obtain ⟨Ah, ch, rfl⟩ := ints_slice hO.out.ints
        go_wp2_with fail
        go_loopw [7, 8] (fun h i wr => ∃ (q : Nat), q ≤ rA.length ∧ i = .int .i64 q ∧ h = .int .i64 (f q) ∧ Hid (OwnI wr w.heap.size (.slice Ah (H.take j).length ch) (H.take j)) ∧ Grew w wr) (fun _ i _ => rA.length - (intOf i).toNat)
        case atStart => exact ⟨0, Nat.zero_le _, rfl, by rw [f0], hO, hB⟩
        clear hO hB
        case round =>
          obtain ⟨q, hq, rfl, rfl, hO, hB⟩ := hrel
          have k1' := k1 _ hB
          have hjl : (H.take j).length = j := by rw [List.length_take]; omega
          by_cases hlq : q < rA.length
          · obtain ⟨hp0, hp1⟩ := hp.out q hlq
            have e1 := F1.out q hlq
            rcases HUP.out.open_ with ⟨_, h2⟩ | ⟨b1, o1, c1, hv1, hc1, hm1, hb1, hcl1⟩
            · rw [h2] at hlq; cases hlq
            obtain ⟨rfl, rfl⟩ : A1 = some ⟨b1, o1, none⟩ ∧ ca1 = c1 := by simpa using hv1
            have k2 := hcl1 q hlq _ hB
            clear hcl1 hv1
            obtain ⟨p, hpe⟩ : ∃ p : Nat, it rA q = p := ⟨(it rA q).toNat, by omega⟩
            rw [hpe] at k2 hp0 hp1 e1
            rw [Int.toNat_natCast] at e1
            have hpj : p < j := by omega
            rcases hO.out.ints.open_ with ⟨_, h2⟩ | ⟨b3, o3, c3, hv3, hc3, hm3, hb3, hcl3⟩
            · rw [h2] at hjl; simp at hjl; omega
            obtain ⟨rfl, rfl⟩ : Ah = some ⟨b3, o3, none⟩ ∧ ch = c3 := by simpa using hv3
            have k3 := hcl3 p (by omega) _ (Grew.refl _)
            rw [it_take hpj] at k3
            clear hcl3 hv3
            have i0 : (0 : Int) ≤ (p : Int) := by omega
            have i1 : (p : Int) < ((H.take j).length : Int) := by omega
            have i4 : (q : Int) < (rA.length : Int) := by omega
            clear HUP F1 F3 hp k1 hpe
            generalize it H p = hv at *
            generalize f q = h0 at *
            obtain ⟨h1, HF0⟩ : ∃ h1, h1 = f (q + 1) := ⟨_, rfl⟩
            rw [← HF0] at e1
            have HF1 := Lib.hid HF0.symm
            clear HF0
            by_cases hmx : hv > h0
            · obtain rfl : h1 = hv := by omega
              have eM : max h0 h1 = h1 := by omega
              clear e1
              go_wp2_with fail
              go_roundw
              case rel => exact ⟨q + 1, by omega, by go_num, by rw [HF1.out], hO, hB⟩
              case measure => simp [intOf]; omega
            · obtain rfl : h1 = h0 := by omega
              have eM : max h1 hv = h1 := by omega
              clear e1
              go_wp2_with fail
              go_roundw
              case rel => exact ⟨q + 1, by omega, by go_num, by rw [HF1.out], hO, hB⟩
              case measure => simp [intOf]; omega
          · obtain rfl : q = rA.length := by omega
            have e2 := F3.out rA.length
            have e3 := Lib.hid (@it_snoc H j (by omega))
            rw [f2] at e3
            clear HUP F1 F3 hp f2 k1
            generalize f rA.length = h0 at *
            have eW : IntKind.i64.wrap (h0 + 1) = h0 + 1 := by rw [IntKind.wrap_i64]; omega
            have hO1 := hO.out.grew ((Grew.refl wr).alloc (.cells #[.int .i64 (h0 + 1)] 2))
            go_wp2_with (first | (at_builtin; refine wpList_appI (w0 := w) _ _ rfl rfl _ (H.take j) rfl hO1 (hB.alloc _) _ (h0 + 1) rfl (rd_litI _ _ _) (by omega) ?_; intro v2 w2 hown2 hg2 _))
            go_roundw
            case rel => exact ⟨j + 1, by omega, by go_num, by rw [← e3.out]; exact Lib.hid hown2, hg2⟩
            case measure => simp [intOf]; omega
      · obtain rfl : j = n := by omega
        have hjl : (H.take j).length = j := by rw [List.length_take]; omega
        rcases hO.out.ints.open_ with ⟨_, h2⟩ | ⟨b3, o3, c3, rfl, hc3, hm3, hb3, hcl3⟩
        · rw [h2] at hjl; simp at hjl; omega
        have c2 := hcl3 (j - 1) (by omega) _ (Grew.refl _)
        rw [it_take (by omega)] at c2
        rw [hjl]
        clear hcl3
        have i0 : (0 : Int) ≤ (j : Int) - 1 := by omega
        have i1 : (j : Int) - 1 < (j : Int) := by omega
        obtain ⟨r, hr⟩ : ∃ r, r = it H (j - 1) := ⟨_, rfl⟩
        rw [← hr] at c2
        replace hr := Lib.hid hr
        go_wp2_with fail
        go_ret2
        exact ⟨congrArg (fun k => Ending.returned (.tuple #[.int .i64 k, .int .i64 0])) hr.out, hB⟩
  · rw [if_neg hd]
    have e0 : (dcode [xs] == 0) = false := by simpa using hd
    clear hv hf hd
    generalize dcode [xs] = d at *
    go_enter Tryz.func11, Tryz.ntmps11
    go_wp2_with fail
    refine (KD.out).mono ?_
    rintro e w1 ⟨rfl, hg1⟩
    go_wp2_with fail
    go_ret2
    exact ⟨rfl, HAL.out.trans hg1⟩
end Go.Proofs.YtkjmfkllmljdeaaGreat

/- The law FnExactHeightOfProof, walked. -/
namespace Go.Proofs.YtkjmfkllmljdeaaGreat
open Go.RowKit

theorem lawHt_c (v0 : Value) (L0 : List Jf) (w : World) (h0 : ArgJf w v0 L0) :
    Calls Tryz.prog 4 #[v0] w fun e w' => e = .returned (.bool true) ∧ Grew w w' := by
  have Z0 := Lib.hid (fun W l (hW : Grew w W) (a0 : 0 ≤ l) (a1 : l ≤ 1048576) => szInferenceS_c v0 L0 l W (h0.grew hW) a0 a1)
  have T0 := Lib.hid (fun W (hW : Grew w W) => toInferenceS_c v0 L0 W (h0.grew hW))
  clear h0
  go_enter Tryz.func4, Tryz.ntmps4
  go_wp2_with fail
  refine (Z0.out _ _ (Grew.refl w) (by omega) (by omega)).mono ?_
  rintro e w1 ⟨r0, rfl, ⟨hm0, hs0⟩, hg1⟩
  have z1 := Lib.hid hg1.size
  have g1 : Grew w w1 := (Grew.refl w).trans hg1
  clear hg1
  by_cases hr0 : r0 < 0
  · clear hs0
    go_wp2_with fail
    go_ret
    exact ⟨rfl, g1⟩
  obtain ⟨hn0, hf0⟩ := hs0 (by omega)
  have F0 : Hid (FitsJf L0) := Lib.hid hf0
  clear hs0 hf0
  have KS := Lib.hid (fun u0 W x0 => specHt_c u0 L0 W x0 F0.out (by omega))
  have KI := Lib.hid (fun u0 W x0 => implHt_c u0 L0 W x0 F0.out (by omega))
  unfold GivesFb at KS KI
  generalize htF L0 = rr at *
  obtain ⟨ra, rc⟩ := rr
  simp only at KS KI
  have hc1 : (rc != rc) = false := by simp
  have ha1 : (ra != ra) = false := by simp
  go_wp2_with fail
  refine (T0.out _ g1 hn0 F0.out).mono ?_
  rintro e w2 ⟨a0, rfl, oa0, hg2⟩
  have z2 := Lib.hid hg2.size
  have g2 : Grew w w2 := g1.trans hg2
  clear hg2
  go_wp2_with fail
  refine (KS.out _ _ oa0.rd).mono ?_
  rintro e w3 ⟨rfl, hg3⟩
  have z3 := Lib.hid hg3.size
  have g3 : Grew w w3 := g2.trans hg3
  clear hg3 oa0
  go_wp2_with fail
  refine (T0.out _ g3 hn0 F0.out).mono ?_
  rintro e w4 ⟨x0, rfl, ox0, hg4⟩
  have z4 := Lib.hid hg4.size
  have g4 : Grew w w4 := g3.trans hg4
  clear hg4
  go_wp2_with fail
  refine (KI.out _ _ ox0.rd).mono ?_
  rintro e w5 ⟨rfl, hg5⟩
  have z5 := Lib.hid hg5.size
  have g5 : Grew w w5 := g4.trans hg5
  replace ox0 := ox0.grew hg5
  clear hg5
  go_wp2_with fail
  refine (T0.out _ g5 hn0 F0.out).mono ?_
  rintro e w6 ⟨y0, rfl, oy0, hg6⟩
  have z6 := Lib.hid hg6.size
  have g6 : Grew w w6 := g5.trans hg6
  replace ox0 := ox0.grew hg6
  clear hg6
  go_wp2_with fail
  refine (eqInferenceS_yes _ _ L0 _ ox0.rd oy0.rd (by omega) F0.out).mono ?_
  rintro e w7 ⟨rfl, hg7⟩
  have z7 := Lib.hid hg7.size
  have g7 : Grew w w7 := g6.trans hg7
  replace ox0 := ox0.grew hg7
  clear hg7 oy0
  go_wp2_with fail
  go_ret
  exact ⟨rfl, g7⟩
end Go.Proofs.YtkjmfkllmljdeaaGreat

/- RuleCounts of both sides. -/
namespace Go.Proofs.YtkjmfkllmljdeaaGreat
open Go.RowKit

/-- How often a rule is used by the first j inferences. -/
def cts (xs : List Jf) (j r : Nat) : Nat := ((xs.take j).filter fun x => x.1 == (r : Int) + 1).length
theorem cts_zero (xs : List Jf) (r : Nat) : cts xs 0 r = 0 := rfl
theorem cts_succ {xs : List Jf} {j : Nat} {x : Jf} (hx : xs[j]? = some x) (r : Nat) : cts xs (j + 1) r = cts xs j r + if x.1 = (r : Int) + 1 then 1 else 0 := by
  obtain ⟨hj, he⟩ := List.getElem?_eq_some_iff.1 hx
  unfold cts
  rw [List.take_succ_eq_append_getElem hj, List.filter_append, List.length_append, he, List.filter_cons]
  by_cases h : x.1 = (r : Int) + 1
  · rw [if_pos (by simpa using h), if_pos h]; rfl
  · rw [if_neg (by simpa using h), if_neg h]; rfl
theorem cts_le (xs : List Jf) (j r : Nat) : cts xs j r ≤ j := by
  unfold cts
  have := List.length_filter_le (fun x : Jf => x.1 == (r : Int) + 1) (xs.take j)
  have := List.length_take_le j xs
  omega
def ctL (xs : List Jf) (j : Nat) : List Int := (List.range 11).map fun r => ((cts xs j r : Nat) : Int)
theorem ctL_len (xs : List Jf) (j : Nat) : (ctL xs j).length = 11 := by simp [ctL]
theorem ctL_at (xs : List Jf) (j : Nat) {r : Nat} (hr : r < 11) : it (ctL xs j) r = cts xs j r := by simp [ctL, it, List.getD, hr]
/-- What RuleCounts answers. -/
noncomputable def rcF (xs : List Jf) : List Int × Int := if dcode [xs] = 0 then (ctL xs xs.length, 0) else ([], dcode [xs])
theorem rcF_len {xs : List Jf} (_hn : xs.length ≤ 1048576) : (rcF xs).1.length ≤ 1048576 := by
  unfold rcF
  split
  · rw [ctL_len]; omega
  · simp
def GivesRc (w : World) (r : List Int × Int) (e : Ending) (w' : World) : Prop := ∃ v, e = .returned (.tuple #[v, .int .i64 r.2]) ∧ OwnI w' w.heap.size v r.1 ∧ Grew w w'
/-- The rules of a correct proof. -/
theorem rule_in {xs : List Jf} (h : fbj xs xs.length = -1) {i : Nat} {x : Jf} (hx : xs[i]? = some x) : 1 ≤ x.1 ∧ x.1 ≤ 11 := by
  obtain ⟨hi, _⟩ := List.getElem?_eq_some_iff.1 hx
  obtain ⟨y, hy, hg⟩ := fbj_all h i hi
  rw [hx] at hy
  cases hy
  have h1 := okJ_cnt hg.2.2
  unfold cntJ at h1
  by_cases hr : 1 ≤ x.1 ∧ x.1 ≤ 11
  · exact hr
  · rw [if_neg (by omega), if_neg (by omega), if_neg hr] at h1
    omega
theorem made11 {i : Nat} (hi : i < 11) : (madeCells #[Value.int .i64 0] 11)[i]? = some (.int .i64 0) := by
  simp [madeCells, hi, Nat.mod_one]
theorem cts_set {cur : Array Value} {xs : List Jf} {j p : Nat} {x : Jf} (hs : cur.size = 11) (hp : p < 11) (hx : xs[j]? = some x) (hq : x.1 = (p : Int) + 1) (hc : ∀ i, i < 11 → cur[i]? = some (.int .i64 (cts xs j i))) : ∀ i, i < 11 → (cur.setIfInBounds p (.int .i64 ((cts xs j p : Int) + 1)))[i]? = some (.int .i64 (cts xs (j + 1) i)) := by
  intro i hi
  simp only [Array.getElem?_setIfInBounds]
  by_cases hij : p = i
  · subst hij
    rw [if_pos rfl, if_pos (by omega), cts_succ hx, if_pos hq]
    rfl
  · rw [if_neg hij, hc i hi, cts_succ hx, if_neg (by omega)]
    rfl
theorem ct_own {w : World} {B g : Nat} {cur : Array Value} {xs : List Jf} (hB : B ≤ g) (h1 : w.heap[g]? = some (.cells cur 2 (0, 0))) (hs : cur.size = 11) (hc : ∀ i, i < 11 → cur[i]? = some (.int .i64 (cts xs xs.length i))) : OwnI w B (.slice (some ⟨g, 0, none⟩) 11 11) (ctL xs xs.length) := by
  have := OwnI.mk_ (w := w) (B := B) (L := ctL xs xs.length) (g := g) (c := 11) (cur := cur) hB h1 (by rw [ctL_len]; omega) (by omega) hs (fun i hi => by
    rw [ctL_len] at hi
    rw [ctL_at xs xs.length hi]
    exact hc i hi)
  rw [ctL_len] at this
  exact this

set_option maxHeartbeats 4000000 in
theorem implRc_c (v : Value) (xs : List Jf) (w : World) (hv : Jfs w v xs) (hf : FitsJf xs) (_hn : xs.length ≤ 1048576) :
    Calls Tryz.prog 14 #[v] w (GivesRc w (rcF xs)) := by
  unfold GivesRc rcF
  obtain ⟨A, c, rfl⟩ := Jfs_slice hv
  have KD := Lib.hid (intProofCode_c _ [xs] _ (JfL.one (T := 26) hv) (fun i hi => by obtain rfl : i = 0 := (by simpa using hi); exact hf))
  have HAL := Lib.hid ((Grew.refl w).alloc (.cells #[.slice A xs.length c] 26))
  by_cases hd : dcode [xs] = 0
  · rw [if_pos hd]
    rw [hd] at KD
    obtain ⟨hn0, hn1, hfb⟩ := dcode_zero hd
    rcases hv with ⟨_, h0⟩ | ⟨b, o, c', hv, hc, hm, hb, hcell⟩
    · rw [h0] at hn0; exact absurd rfl hn0
    obtain ⟨rfl, rfl⟩ : A = some ⟨b, o, none⟩ ∧ c = c' := by simpa using hv
    have HX := Lib.hid (fun j (hj : j < xs.length) => (⟨xs[j], List.getElem?_eq_getElem hj⟩ : ∃ x, xs[j]? = some x))
    have HR := Lib.hid (fun i x hx => @rule_in xs hfb i x hx)
    have HC := Lib.hid hcell
    have HE : Hid (∀ (W : World) (g : Nat) (cur : Array Value), w.heap.size ≤ g → W.heap[g]? = some (.cells cur 2 (0, 0)) → cur.size = 11 → (∀ i, i < 11 → cur[i]? = some (.int .i64 (cts xs xs.length i))) → OwnI W w.heap.size (.slice (some ⟨g, 0, none⟩) 11 11) (ctL xs xs.length)) := Lib.hid (fun W g cur h1 h2 h3 h4 => ct_own h1 h2 h3 h4)
    have HCS := Lib.hid (fun (cur : Array Value) j p x h1 h2 h3 h4 h5 => @cts_set cur xs j p x h1 h2 h3 h4 h5)
    have HCL := Lib.hid (fun j p => cts_le xs j p)
    have hmk : ∀ w : World, (Instr.makeSlice 30 (.int .i64 11) (.int .i64 11)).run Tryz.prog w = .ok (.slice (some ⟨w.heap.size, 0, none⟩) 11 11) (w.alloc (.cells (madeCells #[Value.int .i64 0] 11) 2)) := run_make_row' (P := Tryz.prog) 30 2 (.int .i64 0) 8 Tryz.underlying30 Tryz.infoI rfl .i64 .i64 11 (by omega) (by omega)
    clear hd hfb hv hcell hf
    generalize ctL xs xs.length = CL at *
    generalize hN : xs.length = n at *
    replace hN := Lib.hid hN
    have hsz : (madeCells #[Value.int .i64 0] 11).size = 11 := by simp [madeCells]
    have hmd := Lib.hid (fun i hi => @made11 i hi)
    generalize madeCells #[Value.int .i64 0] 11 = cur0 at *
    go_enter Tryz.func14, Tryz.ntmps14
    go_wp2_with fail
    refine (KD.out).mono ?_
    rintro e w1 ⟨rfl, hg1⟩
    have g1 := HAL.out.trans hg1
    have hnew := Lib.hid (blk_new w1 (.cells cur0 2))
    have hal := Lib.hid (g1.alloc (.cells cur0 2))
    have hgB := g1.size
    clear KD HAL hg1 g1
    go_wp2_with fail
    go_loopw [17] (fun i wr => ∃ (j : Nat) (cur : Array Value), j ≤ n ∧ i = .int .i64 j ∧ Hid (wr.heap[w1.heap.size]? = some (.cells cur 2 (0, 0))) ∧ cur.size = 11 ∧ Grew w wr ∧ Hid (∀ i, i < 11 → cur[i]? = some (.int .i64 (cts xs j i)))) (fun i _ => n - (intOf i).toNat)
    case atStart => exact ⟨0, cur0, Nat.zero_le _, rfl, hnew, hsz, hal.out, Lib.hid (fun i hi => by rw [hmd.out i hi, cts_zero]; rfl)⟩
    clear hnew hal hmd hsz hmk
    generalize w1.heap.size = g at *
    case round =>
      obtain ⟨j, cur, hj, rfl, hh, hcs, hB, hcur⟩ := hrel
      by_cases hlt : j < n
      · obtain ⟨x, hx⟩ := HX.out j (by omega)
        obtain ⟨hr1, hr2⟩ := HR.out j x hx
        obtain ⟨p, hp⟩ : ∃ p : Nat, x.1 = (p : Int) + 1 := ⟨(x.1 - 1).toNat, by omega⟩
        have hp11 : p < 11 := by omega
        obtain ⟨up, ua, hcl, hup, hus⟩ := HC.out j x hx
        obtain ⟨k0, k1, k2, k3, k4⟩ := hcl.grew hb hB
        have S2 := Lib.hid (HCS.out cur j p x hcs hp11 hx hp hcur.out)
        obtain ⟨A1, ca1, rfl⟩ := ints_slice hup
        obtain ⟨A2, ca2, rfl⟩ := strs_slice hus
        have hcv := hcur.out p hp11
        have hle := HCL.out j p
        clear hcl hup hus hx
        have eW1 : IntKind.i64.wrap (x.1 - 1) = (p : Int) := by rw [IntKind.wrap_i64]; omega
        have i0 : (0 : Int) ≤ (p : Int) := by omega
        have i1 : (p : Int) < 11 := by omega
        have eW2 : IntKind.i64.wrap ((cts xs j p : Int) + 1) = (cts xs j p : Int) + 1 := by rw [IntKind.wrap_i64]; omega
        generalize ((cts xs j p : Nat) : Int) = ct at *
        clear hr1 hr2
        obtain ⟨r0, rA, rs, rc, rn⟩ := x
        simp only at *
        clear hp
        have hal := Lib.hid ((Grew.refl wr).alloc (.cells #[.int .i64 r0, .slice A1 rA.length ca1, .slice A2 rs.length ca2, .string rc, .string rn] 42))
        have hh1 := Lib.hid ((hal.out.block (blk_lt hh.out)).trans hh.out)
        have c1 : ∀ W, Grew (wr.alloc (.cells #[.int .i64 r0, .slice A1 rA.length ca1, .slice A2 rs.length ca2, .string rc, .string rn] 42)) W → W.cell? ⟨g, p, none⟩ = some (.int .i64 ct) := fun W hW => (hW.cell (p := ⟨g, p, none⟩) (blk_lt hh1.out)).trans ((blk_cell hh1.out _).trans hcv)
        have c2 := c1 _ (Grew.refl _)
        have c3 : (wr.alloc (.cells #[.int .i64 r0, .slice A1 rA.length ca1, .slice A2 rs.length ca2, .string rc, .string rn] 42)).frozen? ⟨g, p, none⟩ = false := blk_frozen hh1.out _
        have S1 := Lib.hid (blk_set hh1.out p (.int .i64 (ct + 1)))
        have hBa := Lib.hid (hB.trans hal.out)
        clear c1
        go_wp2_with fail
        go_roundw
        case rel => exact ⟨j + 1, _, by omega, by go_num, S1, by simp [hcs], hBa.out.setCell hgB _, S2⟩
        case measure => simp [intOf]; omega
      · obtain rfl : j = n := by omega
        have HO := Lib.hid (HE.out wr g cur hgB hh.out hcs (by rw [← hN.out] at hcur ⊢; exact hcur.out))
        go_wp2_with fail
        go_ret2
        exact ⟨_, rfl, HO.out, hB⟩
  · rw [if_neg hd]
    have e0 : (dcode [xs] == 0) = false := by simpa using hd
    clear hv hf hd
    generalize dcode [xs] = d at *
    go_enter Tryz.func14, Tryz.ntmps14
    go_wp2_with fail
    refine (KD.out).mono ?_
    rintro e w1 ⟨rfl, hg1⟩
    go_wp2_with fail
    go_ret2
    exact ⟨_, rfl, OwnI.nil_ _ _, HAL.out.trans hg1⟩

set_option maxHeartbeats 4000000 in
theorem specRc_c (v : Value) (xs : List Jf) (w : World) (hv : Jfs w v xs) (hf : FitsJf xs) (_hn : xs.length ≤ 1048576) :
    Calls Tryz.prog 13 #[v] w (GivesRc w (rcF xs)) := by
  unfold GivesRc rcF
  obtain ⟨A, c, rfl⟩ := Jfs_slice hv
  have KD := Lib.hid (l22Code_c _ xs _ hv hf)
  have HAL := Lib.hid (Grew.refl w)
  by_cases hd : dcode [xs] = 0
  · rw [if_pos hd]
    rw [hd] at KD
    obtain ⟨hn0, hn1, hfb⟩ := dcode_zero hd
    rcases hv with ⟨_, h0⟩ | ⟨b, o, c', hv, hc, hm, hb, hcell⟩
    · rw [h0] at hn0; exact absurd rfl hn0
    obtain ⟨rfl, rfl⟩ : A = some ⟨b, o, none⟩ ∧ c = c' := by simpa using hv
    have HX := Lib.hid (fun j (hj : j < xs.length) => (⟨xs[j], List.getElem?_eq_getElem hj⟩ : ∃ x, xs[j]? = some x))
    have HR := Lib.hid (fun i x hx => @rule_in xs hfb i x hx)
    have HC := Lib.hid hcell
    have HE : Hid (∀ (W : World) (g : Nat) (cur : Array Value), w.heap.size ≤ g → W.heap[g]? = some (.cells cur 2 (0, 0)) → cur.size = 11 → (∀ i, i < 11 → cur[i]? = some (.int .i64 (cts xs xs.length i))) → OwnI W w.heap.size (.slice (some ⟨g, 0, none⟩) 11 11) (ctL xs xs.length)) := Lib.hid (fun W g cur h1 h2 h3 h4 => ct_own h1 h2 h3 h4)
    have HCS := Lib.hid (fun (cur : Array Value) j p x h1 h2 h3 h4 h5 => @cts_set cur xs j p x h1 h2 h3 h4 h5)
    have HCL := Lib.hid (fun j p => cts_le xs j p)
    have hmk : ∀ w : World, (Instr.makeSlice 30 (.int .i64 11) (.int .i64 11)).run Tryz.prog w = .ok (.slice (some ⟨w.heap.size, 0, none⟩) 11 11) (w.alloc (.cells (madeCells #[Value.int .i64 0] 11) 2)) := run_make_row' (P := Tryz.prog) 30 2 (.int .i64 0) 8 Tryz.underlying30 Tryz.infoI rfl .i64 .i64 11 (by omega) (by omega)
    clear hd hfb hv hcell hf
    generalize ctL xs xs.length = CL at *
    generalize hN : xs.length = n at *
    replace hN := Lib.hid hN
    have hsz : (madeCells #[Value.int .i64 0] 11).size = 11 := by simp [madeCells]
    have hmd := Lib.hid (fun i hi => @made11 i hi)
    generalize madeCells #[Value.int .i64 0] 11 = cur0 at *
    go_enter Tryz.func13, Tryz.ntmps13
    go_wp2_with fail
    refine (KD.out).mono ?_
    rintro e w1 ⟨rfl, hg1⟩
    have g1 := HAL.out.trans hg1
    have hnew := Lib.hid (blk_new w1 (.cells cur0 2))
    have hal := Lib.hid (g1.alloc (.cells cur0 2))
    have hgB := g1.size
    clear KD HAL hg1 g1
    go_wp2_with fail
    go_loopw [6] (fun i wr => ∃ (j : Nat) (cur : Array Value), j ≤ n ∧ i = .int .i64 j ∧ Hid (wr.heap[w1.heap.size]? = some (.cells cur 2 (0, 0))) ∧ cur.size = 11 ∧ Grew w wr ∧ Hid (∀ i, i < 11 → cur[i]? = some (.int .i64 (cts xs j i)))) (fun i _ => n - (intOf i).toNat)
    case atStart => exact ⟨0, cur0, Nat.zero_le _, rfl, hnew, hsz, hal.out, Lib.hid (fun i hi => by rw [hmd.out i hi, cts_zero]; rfl)⟩
    clear hnew hal hmd hsz hmk
    generalize w1.heap.size = g at *
    case round =>
      obtain ⟨j, cur, hj, rfl, hh, hcs, hB, hcur⟩ := hrel
      by_cases hlt : j < n
      · obtain ⟨x, hx⟩ := HX.out j (by omega)
        obtain ⟨hr1, hr2⟩ := HR.out j x hx
        obtain ⟨p, hp⟩ : ∃ p : Nat, x.1 = (p : Int) + 1 := ⟨(x.1 - 1).toNat, by omega⟩
        have hp11 : p < 11 := by omega
        obtain ⟨up, ua, hcl, hup, hus⟩ := HC.out j x hx
        obtain ⟨k0, k1, k2, k3, k4⟩ := hcl.grew hb hB
        have S2 := Lib.hid (HCS.out cur j p x hcs hp11 hx hp hcur.out)
        obtain ⟨A1, ca1, rfl⟩ := ints_slice hup
        obtain ⟨A2, ca2, rfl⟩ := strs_slice hus
        have hcv := hcur.out p hp11
        have hle := HCL.out j p
        clear hcl hup hus hx
        have eW1 : IntKind.i64.wrap (x.1 - 1) = (p : Int) := by rw [IntKind.wrap_i64]; omega
        have i0 : (0 : Int) ≤ (p : Int) := by omega
        have i1 : (p : Int) < 11 := by omega
        have eW2 : IntKind.i64.wrap ((cts xs j p : Int) + 1) = (cts xs j p : Int) + 1 := by rw [IntKind.wrap_i64]; omega
        generalize ((cts xs j p : Nat) : Int) = ct at *
        clear hr1 hr2
        obtain ⟨r0, rA, rs, rc, rn⟩ := x
        simp only at *
        clear hp
        have c2 : wr.cell? ⟨g, p, none⟩ = some (.int .i64 ct) := (blk_cell hh.out _).trans hcv
        have c3 : wr.frozen? ⟨g, p, none⟩ = false := blk_frozen hh.out _
        have S1 := Lib.hid (blk_set hh.out p (.int .i64 (ct + 1)))
        go_wp2_with fail
        go_region
        go_wp2_with fail
        go_roundw
        case rel => exact ⟨j + 1, _, by omega, by go_num, S1, by simp [hcs], (hB.setCell hgB _).drew, S2⟩
        case measure => simp [intOf]; omega
      · obtain rfl : j = n := by omega
        have HO := Lib.hid (HE.out wr g cur hgB hh.out hcs (by rw [← hN.out] at hcur ⊢; exact hcur.out))
        go_wp2_with fail
        go_ret2
        exact ⟨_, rfl, HO.out, hB⟩
  · rw [if_neg hd]
    have e0 : (dcode [xs] == 0) = false := by simpa using hd
    clear hv hf hd
    generalize dcode [xs] = d at *
    go_enter Tryz.func13, Tryz.ntmps13
    go_wp2_with fail
    refine (KD.out).mono ?_
    rintro e w1 ⟨rfl, hg1⟩
    go_wp2_with fail
    go_ret2
    exact ⟨_, rfl, OwnI.nil_ _ _, HAL.out.trans hg1⟩
end Go.Proofs.YtkjmfkllmljdeaaGreat

/- Rows of inferences of the call's own whose inner rows lie apart from each other. -/
namespace Go.Proofs.YtkjmfkllmljdeaaGreat
open Go.RowKit

/-- Two rows that share no block. -/
def Apart (a b : Value) : Prop := ∀ g, a.ownBlock = some g → b.ownBlock ≠ some g
theorem Apart.symm {a b : Value} (h : Apart a b) : Apart b a := fun g hg hb => h g hb hg

/-- The inferences that stand in the row's cells; their inner rows ps, us lie in the blocks from lo to hi, apart from each other. -/
structure Dx (w : World) (lo hi : Nat) (xs : List Jf) (n : Nat) (cur : Array Value) (ps us : Nat → Value) : Prop where
  rows : ∀ i x, i < n → xs[i]? = some x → JfRow cur (i * 5) x (ps i) (us i) ∧ OwnI w lo (ps i) x.2.1 ∧ OwnS w lo (us i) x.2.2.1
  hiP : ∀ i b, i < n → (ps i).ownBlock = some b → b < hi
  hiS : ∀ i b, i < n → (us i).ownBlock = some b → b < hi
  apP : ∀ i k, i < k → k < n → Apart (ps i) (ps k)
  apS : ∀ i k, i < k → k < n → Apart (us i) (us k)
theorem Dx.zero (w : World) (lo hi : Nat) (xs : List Jf) (cur : Array Value) (ps us : Nat → Value) : Dx w lo hi xs 0 cur ps us :=
  ⟨fun i x h => absurd h (by omega), fun i b h => absurd h (by omega), fun i b h => absurd h (by omega), fun i k h h2 => absurd h2 (by omega), fun i k h h2 => absurd h2 (by omega)⟩
theorem Dx.grew {w w' : World} {lo hi n : Nat} {xs : List Jf} {cur : Array Value} {ps us : Nat → Value} (h : Dx w lo hi xs n cur ps us) (hg : Grew w w') : Dx w' lo hi xs n cur ps us :=
  ⟨fun i x hi hx => let ⟨a, b, c⟩ := h.rows i x hi hx; ⟨a, b.grew hg, c.grew hg⟩, h.hiP, h.hiS, h.apP, h.apS⟩
theorem Dx.up {w : World} {lo hi hi' n : Nat} {xs : List Jf} {cur : Array Value} {ps us : Nat → Value} (h : Dx w lo hi xs n cur ps us) (hh : hi ≤ hi') : Dx w lo hi' xs n cur ps us :=
  ⟨h.rows, fun i b a c => Nat.lt_of_lt_of_le (h.hiP i b a c) hh, fun i b a c => Nat.lt_of_lt_of_le (h.hiS i b a c) hh, h.apP, h.apS⟩
theorem Dx.down {w : World} {lo lo' hi n : Nat} {xs : List Jf} {cur : Array Value} {ps us : Nat → Value} (h : Dx w lo hi xs n cur ps us) (hh : lo' ≤ lo) : Dx w lo' hi xs n cur ps us :=
  ⟨fun i x a b => let ⟨p, q, r⟩ := h.rows i x a b; ⟨p, q.base hh, r.base hh⟩, h.hiP, h.hiS, h.apP, h.apS⟩
/-- A row of inferences of the call's own, all of it in the blocks from lo to hi. -/
def OwnDx (w : World) (lo hi : Nat) (v : Value) (xs : List Jf) : Prop :=
  (v = .slice none 0 0 ∧ xs = []) ∨ ∃ g c cur ps us, v = .slice (some ⟨g, 0, none⟩) xs.length c ∧ lo ≤ g ∧ g < hi ∧ w.heap[g]? = some (.cells cur 42 (0, 0)) ∧ xs.length ≤ c ∧ c ≤ 9223372036854775807 ∧ cur.size = c * 5 ∧ Dx w lo hi xs xs.length cur ps us
theorem OwnDx.grew {w w' : World} {lo hi : Nat} {v : Value} {xs : List Jf} (h : OwnDx w lo hi v xs) (hg : Grew w w') : OwnDx w' lo hi v xs := by
  rcases h with h | ⟨g, c, cur, ps, us, h1, h2, h3, h4, h5, h6, h7, h8⟩
  · exact .inl h
  · exact .inr ⟨g, c, cur, ps, us, h1, h2, h3, (hg.block (blk_lt h4)).trans h4, h5, h6, h7, h8.grew hg⟩
theorem OwnDx.up {w : World} {lo hi hi' : Nat} {v : Value} {xs : List Jf} (h : OwnDx w lo hi v xs) (hh : hi ≤ hi') : OwnDx w lo hi' v xs := by
  rcases h with h | ⟨g, c, cur, ps, us, h1, h2, h3, h4, h5, h6, h7, h8⟩
  · exact .inl h
  · exact .inr ⟨g, c, cur, ps, us, h1, h2, Nat.lt_of_lt_of_le h3 hh, h4, h5, h6, h7, h8.up hh⟩
theorem OwnDx.down {w : World} {lo lo' hi : Nat} {v : Value} {xs : List Jf} (h : OwnDx w lo hi v xs) (hh : lo' ≤ lo) : OwnDx w lo' hi v xs := by
  rcases h with h | ⟨g, c, cur, ps, us, h1, h2, h3, h4, h5, h6, h7, h8⟩
  · exact .inl h
  · exact .inr ⟨g, c, cur, ps, us, h1, Nat.le_trans hh h2, h3, h4, h5, h6, h7, h8.down hh⟩
theorem OwnDx.rd {w : World} {lo hi : Nat} {v : Value} {xs : List Jf} (h : OwnDx w lo hi v xs) : Jfs w v xs := by
  rcases h with h | ⟨g, c, cur, ps, us, h1, h2, h3, h4, h5, h6, h7, h8⟩
  · exact .inl h
  · refine .inr ⟨g, 0, c, h1, h5, h6, blk_lt h4, fun i x hx => ?_⟩
    obtain ⟨k1, k2, k3⟩ := h8.rows i x (List.getElem?_eq_some_iff.1 hx).1 hx
    refine ⟨_, _, ?_, k2.ints, k3.strs⟩
    rw [Nat.zero_add]
    exact k1.cells h4

/-- Of what was there the blocks from lo to hi alone may have changed. -/
structure Span (lo hi : Nat) (a b : World) : Prop where
  os : b.os = a.os
  tape : b.tape = a.tape
  output : b.output = a.output
  size : a.heap.size ≤ b.heap.size
  block : ∀ k, k < a.heap.size → (k < lo ∨ hi ≤ k) → b.heap[k]? = a.heap[k]?
theorem Span.refl (lo hi : Nat) (w : World) : Span lo hi w w := ⟨rfl, rfl, rfl, Nat.le_refl _, fun _ _ _ => rfl⟩
theorem Span.trans {lo hi : Nat} {a b c : World} (h : Span lo hi a b) (k : Span lo hi b c) : Span lo hi a c :=
  ⟨k.os.trans h.os, k.tape.trans h.tape, k.output.trans h.output, Nat.le_trans h.size k.size, fun i hi' ho => (k.block i (Nat.lt_of_lt_of_le hi' h.size) ho).trans (h.block i hi' ho)⟩
theorem Span.of_grew {lo hi : Nat} {a b : World} (h : Grew a b) : Span lo hi a b := ⟨h.os, h.tape, h.output, h.size, fun _ hk _ => h.block hk⟩
theorem Span.grew {lo hi : Nat} {a b c : World} (h : Span lo hi a b) (k : Grew b c) : Span lo hi a c := h.trans (Span.of_grew k)
theorem Span.of_row {lo hi : Nat} {a b : World} {row : Option Nat} (h : a.grownBy b row) (hr : ∀ g, row = some g → lo ≤ g ∧ g < hi) : Span lo hi a b :=
  ⟨h.os, h.tape, h.output, h.size, fun k hk ho => h.block k hk (fun e => by have := hr k e.symm; omega)⟩
theorem Span.of_only {lo hi g : Nat} {a b : World} (h : Only g a b) (h1 : lo ≤ g) (h2 : g < hi) : Span lo hi a b :=
  ⟨h.os, h.tape, h.output, h.size, fun k hk ho => h.block hk (by omega)⟩
/-- Nothing older than lo has changed. -/
theorem Span.old {lo hi : Nat} {w a b : World} (h : Span lo hi a b) (h0 : Grew w a) (hl : w.heap.size ≤ lo) : Grew w b :=
  ⟨h.os.trans h0.os, h.tape.trans h0.tape, h.output.trans h0.output, Nat.le_trans h0.size h.size, fun k hk => (h.block k (Nat.lt_of_lt_of_le hk h0.size) (.inl (Nat.lt_of_lt_of_le hk hl))).trans (h0.block hk)⟩
/-- A row outside stays. -/
theorem Span.own {lo hi B : Nat} {a b : World} {e : TypeId} {k n : Nat} {v : Value} {xs : List Value} (h : Span lo hi a b) (ho : a.ownsRow B e k v n xs) (hv : ∀ g, v.ownBlock = some g → g < lo ∨ hi ≤ g) : b.ownsRow B e k v n xs := by
  obtain ⟨h1, h2⟩ := ho
  refine ⟨h1, ?_⟩
  rcases h2 with h2 | ⟨g, cap, cur, rfl, h4, h5, h6⟩
  · exact .inl h2
  · exact .inr ⟨g, cap, cur, rfl, h4, (h.block g (blk_lt h5) (hv g rfl)).trans h5, h6⟩
theorem Span.ownDx {lo hi lo' hi' : Nat} {a b : World} {v : Value} {xs : List Jf} (h : Span lo hi a b) (ho : OwnDx a lo' hi' v xs) (hd : hi' ≤ lo ∨ hi ≤ lo') : OwnDx b lo' hi' v xs := by
  rcases ho with ho | ⟨g, c, cur, ps, us, h1, h2, h3, h4, h5, h6, h7, h8⟩
  · exact .inl ho
  · refine .inr ⟨g, c, cur, ps, us, h1, h2, h3, (h.block g (blk_lt h4) (by omega)).trans h4, h5, h6, h7, ⟨fun i x hi hx => ?_, h8.hiP, h8.hiS, h8.apP, h8.apS⟩⟩
    obtain ⟨k1, k2, k3⟩ := h8.rows i x hi hx
    exact ⟨k1, h.own k2 (fun b hb => by have := h8.hiP i b hi hb; have := own_of_ge k2 hb; omega), h.own k3 (fun b hb => by have := h8.hiS i b hi hb; have := own_of_ge k3 hb; omega)⟩

/-- One step more, with fresh inner rows; then the row's block is written. -/
theorem Dx.snoc {w w1 W : World} {lo g n j : Nat} {xs : List Jf} {cur cur' : Array Value} {ps us : Nat → Value} {x : Jf} {vp va : Value} (h : Dx w lo w.heap.size xs j cur ps us) (hg1 : Grew w w1) (hlo : lo ≤ w.heap.size) (hx : xs[j]? = some x)
    (hp : OwnI w1 w.heap.size vp x.2.1) (hs : OwnS w1 w.heap.size va x.2.2.1) (hgl : g < lo) (hW : Only g w1 W) (hn : JfRow cur' (j * 5) x vp va) (hk : ∀ i y up ua, i < j → JfRow cur (i * 5) y up ua → JfRow cur' (i * 5) y up ua) (_hnj : j < n) :
    Dx W lo W.heap.size xs (j + 1) cur' (fun i => if i = j then vp else ps i) (fun i => if i = j then va else us i) := by
  have hz1 := hg1.size
  have hz2 := hW.size
  refine ⟨fun i y hi hy => ?_, fun i b hi hb => ?_, fun i b hi hb => ?_, fun i k hik hk2 => ?_, fun i k hik hk2 => ?_⟩
  · by_cases hij : i = j
    · subst hij
      have e : y = x := Option.some.inj (hy.symm.trans hx)
      subst e
      simp only [if_true]
      exact ⟨hn, own_base (own_only hp hW (fun he => by have := own_of_ge hp he; omega)) hlo, own_base (own_only hs hW (fun he => by have := own_of_ge hs he; omega)) hlo⟩
    · simp only [if_neg hij]
      obtain ⟨k1, k2, k3⟩ := h.rows i y (by omega) hy
      exact ⟨hk i y _ _ (by omega) k1, own_only (k2.grew hg1) hW (fun he => by have := own_of_ge k2 he; omega), own_only (k3.grew hg1) hW (fun he => by have := own_of_ge k3 he; omega)⟩
  · by_cases hij : i = j
    · simp only [if_pos hij] at hb
      have := (hp.lt b hb).2
      omega
    · simp only [if_neg hij] at hb
      have := h.hiP i b (by omega) hb
      omega
  · by_cases hij : i = j
    · simp only [if_pos hij] at hb
      have := (hs.lt b hb).2
      omega
    · simp only [if_neg hij] at hb
      have := h.hiS i b (by omega) hb
      omega
  · by_cases hkj : k = j
    · subst hkj
      simp only [if_true, if_neg (show ¬ i = k by omega)]
      intro b hb hb2
      have h3 := h.hiP i b (by omega) hb
      have h4 := own_of_ge hp hb2
      omega
    · simp only [if_neg hkj, if_neg (show ¬ i = j by omega)]
      exact h.apP i k hik (by omega)
  · by_cases hkj : k = j
    · subst hkj
      simp only [if_true, if_neg (show ¬ i = k by omega)]
      intro b hb hb2
      have h3 := h.hiS i b (by omega) hb
      have h4 := own_of_ge hs hb2
      omega
    · simp only [if_neg hkj, if_neg (show ¬ i = j by omega)]
      exact h.apS i k hik (by omega)
theorem dd_keep {cur : Array Value} {i j : Nat} {x : Jf} {vp va a b c d e : Value} (hi : i < j) (h : JfRow cur (i * 5) x vp va) :
    JfRow (((((cur.setIfInBounds (j * 5) a).setIfInBounds (j * 5 + 1) b).setIfInBounds (j * 5 + 2) c).setIfInBounds (j * 5 + 3) d).setIfInBounds (j * 5 + 4) e) (i * 5) x vp va := h.keep hi

set_option maxHeartbeats 1000000 in
theorem toInferenceS_x (v : Value) (xs : List Jf) (w : World) (h : ArgJf w v xs) (hn : xs.length ≤ 1048576) (hfit : FitsJf xs) :
    Calls Tryz.prog 8 #[v] w fun e w' => ∃ v', e = .returned v' ∧ OwnDx w' w.heap.size w'.heap.size v' xs ∧ Grew w w' := by
  obtain ⟨⟨A, c, rfl, hmax⟩, hS, _⟩ := h
  have hmk := fun W => run_make_rows (P := Tryz.prog) 26 42 (.agg #[.int .i64 0, .slice none 0 0, .slice none 0 0, .string ByteArray.empty, .string ByteArray.empty]) 5 88 #[.int .i64 0, .slice none 0 0, .slice none 0 0, .string ByteArray.empty, .string ByteArray.empty] Tryz.underlying26 infoJf rfl .i64 .i64 xs.length (by omega) (by omega) W
  have HE : Hid (∀ cur w' ps us, w'.heap[w.heap.size]? = some (.cells cur 42 (0, 0)) → cur.size = xs.length * 5 → Dx w' (w.heap.size + 1) w'.heap.size xs xs.length cur ps us → OwnDx w' w.heap.size w'.heap.size (.slice (some ⟨w.heap.size, 0, none⟩) xs.length xs.length) xs) := Lib.hid (fun cur w' ps us h1 h2 h3 => .inr ⟨w.heap.size, xs.length, cur, ps, us, rfl, Nat.le_refl _, blk_lt h1, h1, Nat.le_refl _, by omega, h2, h3.down (Nat.le_succ _)⟩)
  have hsz : (madeCells #[Value.int .i64 0, .slice none 0 0, .slice none 0 0, .string ByteArray.empty, .string ByteArray.empty] (xs.length * 5)).size = xs.length * 5 := size_madeCells _ _
  have hnew := blk_new w (.cells (madeCells #[Value.int .i64 0, .slice none 0 0, .slice none 0 0, .string ByteArray.empty, .string ByteArray.empty] (xs.length * 5)) 42)
  have hal := (Grew.refl w).alloc (.cells (madeCells #[Value.int .i64 0, .slice none 0 0, .slice none 0 0, .string ByteArray.empty, .string ByteArray.empty] (xs.length * 5)) 42)
  generalize madeCells #[Value.int .i64 0, .slice none 0 0, .slice none 0 0, .string ByteArray.empty, .string ByteArray.empty] (xs.length * 5) = cur0 at *
  by_cases hp : 0 < xs.length
  · obtain ⟨b, o, c', hv, hc, hm, hb, hcell⟩ := (hS hp).open_ hp
    obtain ⟨rfl, rfl⟩ : A = some ⟨b, o, none⟩ ∧ c = c' := by simpa using hv
    clear hS hv
    have HC := Lib.hid hcell
    have HX := Lib.hid (fun j (hj : j < xs.length) => (⟨xs[j], List.getElem?_eq_getElem hj, hfit _ (List.getElem_mem hj)⟩ : ∃ x, xs[j]? = some x ∧ FitJf x))
    clear hcell hfit
    generalize hN : xs.length = n at *
    clear hN
    have HNEW := Lib.hid hnew
    clear hnew
    have HAL := Lib.hid hal
    clear hal
    go_enter Tryz.func8, Tryz.ntmps8
    go_wp2_with fail
    go_loopw [4] (fun i wr => ∃ (j : Nat) (cur : Array Value), j ≤ n ∧ i = .int .i64 j ∧ wr.heap[w.heap.size]? = some (.cells cur 42 (0, 0)) ∧ cur.size = n * 5 ∧ Grew w wr ∧ Hid (∃ ps us, Dx wr (w.heap.size + 1) wr.heap.size xs j cur ps us)) (fun i _ => n - (intOf i).toNat)
    case atStart => exact ⟨0, cur0, Nat.zero_le _, rfl, HNEW.out, hsz, HAL.out, ⟨fun _ => .slice none 0 0, fun _ => .slice none 0 0, Dx.zero _ _ _ _ _ _ _⟩⟩
    case round =>
      obtain ⟨j, cur, hj, rfl, hh, hcs, hB, HD⟩ := hrel
      have HH := Lib.hid hh
      have hlt1 := blk_lt hh
      clear hh
      by_cases hlt : j < n
      · obtain ⟨x, hx, hfx⟩ := HX.out j hlt
        obtain ⟨up, ua, hcl, hpi, hps⟩ := HC.out j x hx
        obtain ⟨k1, k2, k3, k4, k5⟩ := hcl _ hB
        have KT := Lib.hid (fun W (hW : Grew wr W) => toInference_c x up ua W (hpi.grew (hB.trans hW)) (hps.grew (hB.trans hW)) hfx.1 hfx.2.1)
        obtain ⟨⟨A1, ca1, rfl, _⟩, _⟩ := hpi
        obtain ⟨⟨A2, ca2, rfl, _⟩, _, _⟩ := hps
        have hx' := Lib.hid hx
        clear hx hfx hcl
        have HNW := Lib.hid (fun vp va => JfRow.new (cur := cur) (j := j) x vp va (by omega))
        generalize hl1 : x.2.1.length = l1 at *
        generalize hl2 : x.2.2.1.length = l2 at *
        replace hl1 := Lib.hid hl1
        replace hl2 := Lib.hid hl2
        generalize hx1 : x.1 = xr at *
        generalize hx3 : x.2.2.2.1 = xc at *
        generalize hx4 : x.2.2.2.2 = xn at *
        clear hx1 hx3 hx4
        go_wp2_with fail
        refine (KT.out _ (Grew.refl wr)).mono ?_
        rintro e w1 ⟨vp, va, rfl, hop, hos, hg1⟩
        obtain ⟨VA, vc, rfl⟩ := ints_slice hop.ints
        obtain ⟨WA, wc, rfl⟩ := strs_slice hos.strs
        have hh := (hg1.block hlt1).trans HH.out
        have f1 : ∀ i, w1.frozen? ⟨w.heap.size, i, none⟩ = false := fun i => blk_frozen hh i
        have hcell : ∀ k, k < n * 5 → ∃ u, w1.cell? ⟨w.heap.size, k, none⟩ = some u := fun k hk => by
          rw [blk_cell hh]
          exact ⟨_, Array.getElem?_eq_getElem (by omega)⟩
        obtain ⟨u1, hu1⟩ := hcell (j * 5) (by omega)
        obtain ⟨u2, hu2⟩ := hcell (j * 5 + 1) (by omega)
        obtain ⟨u3, hu3⟩ := hcell (j * 5 + 2) (by omega)
        obtain ⟨u4, hu4⟩ := hcell (j * 5 + 3) (by omega)
        obtain ⟨u5, hu5⟩ := hcell (j * 5 + 4) (by omega)
        have HH1 := Lib.hid hh
        have HOP := Lib.hid hop
        have HOS := Lib.hid hos
        have HG1 := Lib.hid hg1
        clear hh hcell hop hos
        rw [hl1.out]
        rw [hl2.out]
        rw [hl1.out] at HOP
        rw [hl2.out] at HOS
        go_wp2_with fail
        go_roundw
        case rel =>
          refine ⟨j + 1, _, by omega, by go_num, blk_set (blk_set (blk_set (blk_set (blk_set HH1.out _ _) _ _) _ _) _ _) _ _, by simp [hcs], ((((((hB.trans hg1).setCell (Nat.le_refl _) _).setCell (Nat.le_refl _) _).setCell (Nat.le_refl _) _).setCell (Nat.le_refl _) _).setCell (Nat.le_refl _) _), ?_⟩
          obtain ⟨ps, us, hD⟩ := HD.out
          exact ⟨_, _, hD.snoc (n := n) HG1.out hlt1 hx'.out HOP.out HOS.out (Nat.lt_succ_self _) ((((((Only.refl _ w1).setCell _).setCell _).setCell _).setCell _).setCell _) (HNW.out _ _) (fun i y up ua hi hr => dd_keep hi hr) hlt⟩
        case measure => simp [intOf]; omega
      · obtain rfl : j = n := by omega
        go_wp2_with fail
        go_ret
        obtain ⟨ps, us, hD⟩ := HD.out
        exact ⟨_, rfl, HE.out _ _ ps us HH.out hcs hD, hB⟩
  · have hp0 : xs.length ≤ 0 := by omega
    have HNEW := Lib.hid hnew
    clear hnew hS hp hfit
    have HAL := Lib.hid hal
    clear hal
    generalize hN : xs.length = n at *
    clear hN
    go_enter Tryz.func8, Tryz.ntmps8
    go_wp2_with fail
    refine wp_loop_rounds 1 ?_; rw [rounds_succ]
    go_wp2_with fail
    go_ret
    exact ⟨_, rfl, HE.out _ _ (fun _ => .slice none 0 0) (fun _ => .slice none 0 0) HNEW.out hsz ⟨fun i x hi => absurd hi (by omega), fun i b hi => absurd hi (by omega), fun i b hi => absurd hi (by omega), fun i k hi hk => absurd hk (by omega), fun i k hi hk => absurd hk (by omega)⟩, HAL.out⟩
end Go.Proofs.YtkjmfkllmljdeaaGreat

/- The laws' text of a mark: one text for each number. -/
namespace Go.Proofs.YtkjmfkllmljdeaaGreat
open Go.RowKit

theorem conv_one (Y : Int) (w : World) (t : TypeId) : (convert 56 9 (.slice (some ⟨w.heap.size, 0, none⟩) 1 1)).run Tryz.prog (w.alloc (.cells #[.int .u8 Y] t)) = .ok (.string (strOfNums [Y])) (w.alloc (.cells #[.int .u8 Y] t)) :=
  run_convert_bytes_arg (P := Tryz.prog) (w := w.alloc (.cells #[.int .u8 Y] t)) 56 5 Tryz.underlying56 Tryz.underlying5 w.heap.size 0 1 1 [Y] rfl (fun i hi => by
    obtain rfl : i = 0 := by omega
    simp) 9 Tryz.underlying9

/-- The digits of m ahead of z. -/
def digs : Nat → Nat → ByteArray → ByteArray
  | 0, _, z => z
  | f + 1, m, z => if m = 0 then z else digs f (m / 10) (strOfNums [((48 + m % 10 : Nat) : Int)] ++ z)
theorem digs_zero (f : Nat) (z : ByteArray) : digs f 0 z = z := by cases f <;> simp [digs]
theorem digs_step {f m : Nat} (h : 0 < m) (z : ByteArray) : digs (f + 1) m z = digs f (m / 10) (strOfNums [((48 + m % 10 : Nat) : Int)] ++ z) := by rw [digs, if_neg (by omega)]
/-- The text of a mark. -/
def mtx (k : Int) : ByteArray := if k ≤ 0 then ⟨#[109, 48]⟩ else ⟨#[109]⟩ ++ digs k.toNat k.toNat ⟨#[]⟩

theorem markTextD_c (k : Int) (w : World) (h0 : 0 ≤ k) (h1 : k ≤ 4611686018427387904) :
    Calls Tryz.prog 29 #[.int .i64 k] w fun e w' => e = .returned (.string (mtx k)) ∧ Grew w w' := by
  unfold mtx
  by_cases hk : k ≤ 0
  · rw [if_pos hk]
    go_enter Tryz.func29, Tryz.ntmps29
    go_wp2_with fail
    go_ret
    exact ⟨rfl, Grew.refl _⟩
  · rw [if_neg hk]
    obtain ⟨M, hM⟩ : ∃ M, M = (⟨#[109]⟩ : ByteArray) ++ digs k.toNat k.toNat ⟨#[]⟩ := ⟨_, rfl⟩
    rw [← hM]
    obtain ⟨n, rfl⟩ : ∃ n : Nat, k = (n : Int) := ⟨k.toNat, by omega⟩
    rw [Int.toNat_natCast] at hM
    have HM := Lib.hid hM
    have HST := Lib.hid (fun f m (h : 0 < m) z => @digs_step f m h z)
    have HZ := Lib.hid (fun f z => digs_zero f z)
    clear hM
    go_enter Tryz.func29, Tryz.ntmps29
    go_wp2_with fail
    go_loopw [0, 3] (fun kk s wr => ∃ (m f : Nat) (z : ByteArray), m ≤ f ∧ (z.size : Int) + m ≤ 4611686018427387904 ∧ kk = .int .i64 m ∧ s = .string z ∧ Grew w wr ∧ Hid (M = (⟨#[109]⟩ : ByteArray) ++ digs f m z)) (fun kk _ _ => (intOf kk).toNat)
    case atStart => exact ⟨n, n, ⟨#[]⟩, Nat.le_refl _, by show ((0 : Nat) : Int) + n ≤ _; omega, rfl, rfl, Grew.refl _, HM.out⟩
    case round =>
      obtain ⟨m, f, z, hm0, hm1, rfl, rfl, hB, HJ⟩ := hrel
      by_cases hp : 0 < m
      · obtain ⟨g, rfl⟩ : ∃ g, f = g + 1 := ⟨f - 1, by omega⟩
        have hcv := conv_one
        have hs1 : ∀ Y, (strOfNums [Y]).size = 1 := fun Y => by rw [strOfNums_size]; rfl
        have hne : ∀ o, Grew w (wr.alloc o) := fun o => hB.alloc o
        have hv : Hid (M = (⟨#[109]⟩ : ByteArray) ++ digs g (m / 10) (strOfNums [((48 + m % 10 : Nat) : Int)] ++ z)) := Lib.hid (by rw [HJ.out, HST.out g m hp])
        clear HM HJ
        go_wp2_with fail
        go_roundw
        case rel => exact ⟨m / 10, g, _, by omega, by rw [ByteArray.size_append, hs1]; omega, by go_num, rfl, hne _, hv.out⟩
        case measure => simp [intOf]; omega
      · obtain rfl : m = 0 := by omega
        have hv : Hid (M = (⟨#[109]⟩ : ByteArray) ++ z) := Lib.hid (by rw [HJ.out, HZ.out])
        go_wp2_with fail
        go_ret
        exact ⟨by rw [hv.out]; rfl, hB⟩
end Go.Proofs.YtkjmfkllmljdeaaGreat

/- The laws' marks on lists of strings. -/
namespace Go.Proofs.YtkjmfkllmljdeaaGreat
open Go.RowKit

theorem markText_c (k : Int) (w : World) (h0 : 0 ≤ k) (h1 : k ≤ 4611686018427387904) :
    Calls Tryz.prog 29 #[.int .i64 k] w fun e w' => ∃ s, e = .returned (.string s) ∧ Grew w w' :=
  (markTextD_c k w h0 h1).mono fun _ _ ⟨h, hg⟩ => ⟨_, h, hg⟩
/-- markStringS writes into a row of the call's own. -/
theorem markStringS_c (v : Value) (L : List ByteArray) (B : Nat) (k : Int) (w : World) (h : OwnS w B v L) (hk0 : 0 ≤ k) (hk : k ≤ 1099511627776) (hn : L.length ≤ 1048576) :
    Calls Tryz.prog 28 #[v, .int .i64 k] w fun e w' => e = .returned (.int .i64 (k + L.length)) ∧ (∀ g, v.ownBlock = some g → Only g w w') ∧ (v.ownBlock = none → Grew w w') := by
  rcases h.2 with ⟨rfl, h0⟩ | ⟨g, c, cur0, rfl, hB, hh0, hnc, hcm, hcs0, _⟩
  · have hL : L.length = 0 := by simpa using h0
    rw [hL]
    clear h h0
    go_enter Tryz.func28, Tryz.ntmps28
    go_wp2_with fail
    refine wp_loop_rounds 1 ?_; rw [rounds_succ]
    go_wp2_with fail
    go_ret
    exact ⟨by simp, fun _ _ => Only.refl _ _, fun _ => Grew.refl _⟩
  · clear h
    generalize hN : L.length = n at *
    clear hN
    go_enter Tryz.func28, Tryz.ntmps28
    go_wp2_with fail
    go_loopw [1, 5] (fun kk i wr => ∃ (j : Nat) (cur : Array Value), j ≤ n ∧ i = .int .i64 j ∧ kk = .int .i64 (k + (j : Int)) ∧ wr.heap[g]? = some (.cells cur 9 (0, 0)) ∧ cur.size = c * 1 ∧ Only g w wr) (fun _ i _ => n - (intOf i).toNat)
    case atStart => exact ⟨0, cur0, Nat.zero_le _, rfl, by simp, hh0, hcs0, Only.refl _ _⟩
    case round =>
      obtain ⟨j, cur, hj, rfl, rfl, hh, hcs, ho⟩ := hrel
      by_cases hlt : j < n
      · have HH := Lib.hid hh
        clear hh
        go_wp2_with fail
        refine (markText_c _ _ (by omega) (by omega)).mono ?_
        rintro e w1 ⟨s, rfl, hg1⟩
        have hh1 := (hg1.block (blk_lt HH.out)).trans HH.out
        have f1 : w1.frozen? ⟨g, j, none⟩ = false := blk_frozen hh1 j
        obtain ⟨u1, hu1⟩ : ∃ u, w1.cell? ⟨g, j, none⟩ = some u := by
          rw [blk_cell hh1]
          exact ⟨_, Array.getElem?_eq_getElem (by omega)⟩
        have HH1 := Lib.hid hh1
        clear hh1
        go_wp2_with fail
        go_roundw
        case rel => exact ⟨j + 1, _, by omega, by go_num, by go_num, blk_set HH1.out _ _, by simp [hcs], (ho.grew hg1).setCell _⟩
        case measure => simp [intOf]; omega
      · obtain rfl : j = n := by omega
        have HH := Lib.hid hh
        clear hh
        go_wp2_with fail
        go_ret
        exact ⟨rfl, fun g' hg' => by simp [Value.ownBlock] at hg'; subst hg'; exact ho, fun hg' => by simp [Value.ownBlock] at hg'⟩
end Go.Proofs.YtkjmfkllmljdeaaGreat

/- The laws' marks on lists of strings, in the form that the laws' walks use. -/
namespace Go.Proofs.YtkjmfkllmljdeaaGreat
open Go.RowKit

theorem markStringS_w (v : Value) (L : List ByteArray) (B : Nat) (k : Int) (w : World) (h : OwnS w B v L) (hk0 : 0 ≤ k) (hk : k ≤ 1099511627776) (hn : L.length ≤ 1048576) :
    Calls Tryz.prog 28 #[v, .int .i64 k] w fun e w' => e = .returned (.int .i64 (k + L.length)) ∧ w.grownBy w' v.ownBlock :=
  (markStringS_c v L B k w h hk0 hk hn).mono fun _ _ ⟨h1, h2, h3⟩ => ⟨h1, row_of h2 h3⟩
end Go.Proofs.YtkjmfkllmljdeaaGreat

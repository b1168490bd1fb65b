/- Texts in one file: JsC JsB JsF IntLaw IntEq Make JfTo JfTo2 JfSz LawFi Args ArgsI ArgJf. -/
import Derived.Deep.OwnRows
import Derived.Deep.Strs
import Derived.Lib.SmallJoins
import Derived.Carry
import Derived.ProofKit
import Derived.Deep.SlicePairs
import Derived.Test.YtkjmfkllmljdeaaGreatPa1
import Derived.Test.YtkjmfkllmljdeaaGreatPa2
import Derived.Test.YtkjmfkllmljdeaaGreatPa3
import Derived.Test.YtkjmfkllmljdeaaGreatPa4
import Derived.Test.YtkjmfkllmljdeaaGreatPa5
set_option linter.all false

/- l22Correct of the reference. -/
namespace Go.Proofs.YtkjmfkllmljdeaaGreat
open Go.RowKit

def preJ (bef : List Jf) (P : List Int) (n : Nat) : List Jf := (P.take n).map fun k => bef.getD k.toNat (0, [], [], ByteArray.empty, ByteArray.empty)
theorem preJ_map (bef : List Jf) (P : List Int) (n : Nat) : (preJ bef P n).map js = givenM bef P n := by unfold preJ givenM givenJ; rw [List.map_map]; rfl
theorem preJ_succ {bef : List Jf} {P : List Int} {n m : Nat} {y : Jf} (hn : n < P.length) (hm : it P n = (m : Int)) (hy : bef[m]? = some y) : preJ bef P (n + 1) = preJ bef P n ++ [y] := by
  unfold preJ
  rw [List.take_succ_eq_append_getElem hn, List.map_append, List.map_singleton, it_get hn, hm, Int.toNat_natCast]
  simp [List.getD, hy]
theorem preJ_len (bef : List Jf) (P : List Int) (n : Nat) : (preJ bef P n).length ≤ P.length := by unfold preJ; simp; omega
theorem preJ_all (bef : List Jf) (P : List Int) : (preJ bef P P.length).length = P.length := by unfold preJ; simp

set_option maxHeartbeats 8000000 in
set_option maxRecDepth 8192 in
theorem l22Correct_c (v : Value) (xs : List Jf) (k : Nat) (x : Jf) (w : World) (hv : Jfs w v xs) (hx : xs[k]? = some x) (hfx : FitJf x) (_hl : xs.length ≤ 1000) :
    Calls Tryz.prog 32 #[v, .int .i64 k] w fun e w' => e = .returned (.bool (dcd (goodJ (xs.take k) x))) ∧ Grew w w' := by
  have hlt := (List.getElem?_eq_some_iff.1 hx).1
  obtain ⟨b, o, c, rfl, hc, hm, hcell⟩ : ∃ b o c, v = .slice (some ⟨b, o, none⟩) xs.length c ∧ xs.length ≤ c ∧ c ≤ 9223372036854775807 ∧ (b < w.heap.size ∧ ∀ i x, xs[i]? = some x → ∃ up ua, JfCells w b (o + i * 5) x up ua ∧ Ints w up x.2.1 ∧ Strs w ua x.2.2.1) := by
    rcases hv with ⟨_, h0⟩ | ⟨b, o, c, hv, hc, hm, hb, hcell⟩
    · rw [h0] at hlt; simp at hlt
    · exact ⟨b, o, c, hv, hc, hm, hb, hcell⟩
  obtain ⟨hbb, hcell⟩ := hcell
  obtain ⟨up, ua, hcl, hup, hs⟩ := hcell k x hx
  obtain ⟨k0, k1, k2, k3, k4⟩ := hcl
  have hbl : (xs.take k).length = k := by simp; omega
  have HC := Lib.hid hcell
  have HBL := Lib.hid hbl
  have HS := Lib.hid hs
  have HUP := Lib.hid hup
  have HTK : Hid (∀ (m : Nat) (y : Jf), m < k → xs[m]? = some y → (xs.take k)[m]? = some y) := Lib.hid (fun m y h1 h2 => by rw [List.getElem?_take, if_pos h1]; exact h2)
  generalize xs.take k = bef at *
  have hpl := hfx.1
  have hsc : x.2.2.2.1.size ≤ 1048576 := hfx.2.2.2.1
  have hsm : x.2.2.2.2.size ≤ 1048576 := hfx.2.2.2.2
  have KN := Lib.hid (fun W => l22Counts_c x.1 W)
  have KU := fun W => l22Uses_c x.1 W
  have KI := fun W (hW : Grew w W) => l22Is_c ua x.2.2.1 x.2.2.2.1 W (hs.grew hW) hfx.2.2.1 hfx.2.1 (by omega)
  rw [show (gp x.2.2.2.1 && (ascP x.2.2.1 && decide (x.2.2.1.length ≤ 12))) = sqB x.2.2.1 x.2.2.2.1 from rfl] at KI
  obtain ⟨A, cP, rfl⟩ := ints_slice hup
  obtain ⟨UA, ca, rfl⟩ := strs_slice hs
  have hal := (Grew.refl w).alloc (.cells #[.int .i64 x.1, .slice A x.2.1.length cP, .slice UA x.2.2.1.length ca, .string x.2.2.2.1, .string x.2.2.2.2] 42)
  have hgl : goodJ bef x → (((x.2.1.length : Nat) : Int) = cntJ x.1 ∧ sqB x.2.2.1 x.2.2.2.1 = true ∧ (usesJ x.1 = true ∨ x.2.2.2.2 = ByteArray.empty)) := fun h => ⟨by rw [← okJ_cnt h.2.2]; simp [givenJ], h.1, okJ_uses h.2.2⟩
  have f0 : ∀ W, Grew (w.alloc (.cells #[.int .i64 x.1, .slice A x.2.1.length cP, .slice UA x.2.2.1.length ca, .string x.2.2.2.1, .string x.2.2.2.2] 42)) W → W.cell? ⟨w.heap.size, 0, none⟩ = some (.int .i64 x.1) := fun W hW => (hW.cell (p := ⟨w.heap.size, 0, none⟩) (by simp)).trans (by simp)
  have f1 : ∀ W, Grew (w.alloc (.cells #[.int .i64 x.1, .slice A x.2.1.length cP, .slice UA x.2.2.1.length ca, .string x.2.2.2.1, .string x.2.2.2.2] 42)) W → W.cell? ⟨w.heap.size, 1, none⟩ = some (.slice A x.2.1.length cP) := fun W hW => (hW.cell (p := ⟨w.heap.size, 1, none⟩) (by simp)).trans (by simp)
  have f2 : ∀ W, Grew (w.alloc (.cells #[.int .i64 x.1, .slice A x.2.1.length cP, .slice UA x.2.2.1.length ca, .string x.2.2.2.1, .string x.2.2.2.2] 42)) W → W.cell? ⟨w.heap.size, 2, none⟩ = some (.slice UA x.2.2.1.length ca) := fun W hW => (hW.cell (p := ⟨w.heap.size, 2, none⟩) (by simp)).trans (by simp)
  have f3 : ∀ W, Grew (w.alloc (.cells #[.int .i64 x.1, .slice A x.2.1.length cP, .slice UA x.2.2.1.length ca, .string x.2.2.2.1, .string x.2.2.2.2] 42)) W → W.cell? ⟨w.heap.size, 3, none⟩ = some (.string x.2.2.2.1) := fun W hW => (hW.cell (p := ⟨w.heap.size, 3, none⟩) (by simp)).trans (by simp)
  have f4 : ∀ W, Grew (w.alloc (.cells #[.int .i64 x.1, .slice A x.2.1.length cP, .slice UA x.2.2.1.length ca, .string x.2.2.2.1, .string x.2.2.2.2] 42)) W → W.cell? ⟨w.heap.size, 4, none⟩ = some (.string x.2.2.2.2) := fun W hW => (hW.cell (p := ⟨w.heap.size, 4, none⟩) (by simp)).trans (by simp)
  generalize hwb : w.alloc (.cells #[.int .i64 x.1, .slice A x.2.1.length cP, .slice UA x.2.2.1.length ca, .string x.2.2.2.1, .string x.2.2.2.2] 42) = wb at *
  have rb := Grew.refl wb
  have rbd := rb.drew
  replace hwb := hwb.symm
  clear hv hcell hup hs hbl hx hfx
  by_cases hn : cntJ x.1 = ((x.2.1.length : Nat) : Int)
  · have en : ((x.2.1.length : Int) != cntJ x.1) = false := by rw [hn]; simp
    cases hsq : sqB x.2.2.1 x.2.2.2.1 with
    | true =>
      rw [hsq] at KI
      replace KI := Lib.hid KI
      by_cases hM : x.2.2.2.2 = ByteArray.empty
      · have hus : usesJ x.1 = true ∨ x.2.2.2.2 = ByteArray.empty := .inr hM
        have he : x.2.2.2.2.toList.isEmpty = true := by rw [hM]; exact empty_yes
        obtain ⟨D0, hD0⟩ : ∃ D0, D0 = dcd (goodJ bef x) := ⟨_, rfl⟩
        rw [← hD0]
        have HD0 := Lib.hid hD0
        replace hsq := Lib.hid hsq
        replace hus := Lib.hid hus
        replace KU := Lib.hid KU
        clear hM hD0 hgl
        go_enter Tryz.func32, Tryz.ntmps32
        go_wp2_with fail
        rw [← hwb]
        clear hwb
        refine wp_region_held_drew (S := fun w' => Grew wb w') (by kernel_rfl) rbd (fun hHeld => ?_)
        refine wpAnyH_take (i := 0) (oi := ?on1) (v := ?vn1) ?hin1 ?an1 ?bn1 ?cn1 ?qn1 (Or.inl ⟨?dn1, ?hyn1⟩) hHeld ?restn1
        case hin1 => (simp only [List.getElem?_toArray, List.getElem?_cons_zero]; exact rfl)
        case an1 => kernel_rfl
        case bn1 => kernel_rfl
        case cn1 => kernel_rfl
        case qn1 => exact fun _ _ _ h => h
        case dn1 => rfl
        case hyn1 => (intro z hSw; (try dsimp only at hSw); go_simp; (try with_reducible rfl))
        try simp only [Act.put, List.setIfInBounds_toArray, List.set_cons_zero, List.set_cons_succ]
        refine wpAnyH_take (i := 1) (oi := ?on2) (v := ?vn2) ?hin2 ?an2 ?bn2 ?cn2 ?qn2 (Or.inl ⟨?dn2, ?hyn2⟩) hHeld ?restn2
        case hin2 => (simp only [List.getElem?_toArray, List.getElem?_cons_succ, List.getElem?_cons_zero]; exact rfl)
        case an2 => kernel_rfl
        case bn2 => kernel_rfl
        case cn2 => kernel_rfl
        case qn2 => exact fun _ _ _ h => h
        case dn2 => rfl
        case hyn2 => (intro z hSw; (try dsimp only at hSw); go_simp; (try with_reducible rfl))
        try simp only [Act.put, List.setIfInBounds_toArray, List.set_cons_zero, List.set_cons_succ]
        refine wpAnyH_take (i := 2) (oi := ?on3) (v := ?vn3) ?hin3 ?an3 ?bn3 ?cn3 ?qn3 (Or.inl ⟨?dn3, ?hyn3⟩) hHeld ?restn3
        case hin3 => (simp only [List.getElem?_toArray, List.getElem?_cons_succ, List.getElem?_cons_zero]; exact rfl)
        case an3 => kernel_rfl
        case bn3 => kernel_rfl
        case cn3 => kernel_rfl
        case qn3 => exact fun _ _ _ h => h
        case dn3 => rfl
        case hyn3 => (intro z hSw; (try dsimp only at hSw); go_simp; (try with_reducible rfl))
        try simp only [Act.put, List.setIfInBounds_toArray, List.set_cons_zero, List.set_cons_succ]
        refine wpAnyH_take (i := 3) (oi := ?on4) (v := ?vn4) ?hin4 ?an4 ?bn4 ?cn4 ?qn4 (Or.inl ⟨?dn4, ?hyn4⟩) hHeld ?restn4
        case hin4 => (simp only [List.getElem?_toArray, List.getElem?_cons_succ, List.getElem?_cons_zero]; exact rfl)
        case an4 => kernel_rfl
        case bn4 => kernel_rfl
        case cn4 => kernel_rfl
        case qn4 => exact fun _ _ _ h => h
        case dn4 => rfl
        case hyn4 => (intro z hSw; (try dsimp only at hSw); go_simp; (try with_reducible rfl))
        try simp only [Act.put, List.setIfInBounds_toArray, List.set_cons_zero, List.set_cons_succ]
        refine wpAnyH_take (i := 4) (oi := ?on5) (v := ?vn5) ?hin5 ?an5 ?bn5 ?cn5 ?qn5 (Or.inl ⟨?dn5, ?hyn5⟩) hHeld ?restn5
        case hin5 => (simp only [List.getElem?_toArray, List.getElem?_cons_succ, List.getElem?_cons_zero]; exact rfl)
        case an5 => kernel_rfl
        case bn5 => kernel_rfl
        case cn5 => kernel_rfl
        case qn5 => exact fun _ _ _ h => h
        case dn5 => rfl
        case hyn5 => (intro z hSw; (try dsimp only at hSw); go_simp; (try with_reducible rfl))
        try simp only [Act.put, List.setIfInBounds_toArray, List.set_cons_zero, List.set_cons_succ]
        refine wpAnyH_ready (rs := [5]) (by kernel_rfl) (by simp) ?_
        refine AllReadyH.cons (o := ?on6) ?hin6 ?restn6 AllReadyH.nil
        case hin6 => (simp only [List.getElem?_toArray, List.getElem?_cons_succ, List.getElem?_cons_zero]; exact rfl)
        intro K hK
        go_simp
        go_at_call 40
        refine (KN.out _).mono ?_
        rintro e wc ⟨rfl, hgc⟩
        have gwc : Grew w wc := Grew.trans (by repeat (first | with_reducible assumption | with_reducible refine Grew.alloc ?_ _ | with_reducible refine Grew.drew ?_ | with_reducible refine Grew.drewN ?_ _)) hgc
        have mwc : Grew wb wc := Grew.trans (by repeat (first | with_reducible assumption | with_reducible refine Grew.alloc ?_ _ | with_reducible refine Grew.drew ?_ | with_reducible refine Grew.drewN ?_ _)) hgc
        refine hK.out _ _ ?_ (fun hHeld => ?_)
        · (try dsimp only); first | with_reducible assumption | exact Grew.alloc ‹_› _
        clear hK K
        try simp only [Act.put, List.setIfInBounds_toArray, List.set_cons_zero, List.set_cons_succ]
        refine wpAnyH_take (i := 6) (oi := ?on7) (v := ?vn7) ?hin7 ?an7 ?bn7 ?cn7 ?qn7 (Or.inl ⟨?dn7, ?hyn7⟩) hHeld ?restn7
        case hin7 => (simp only [List.getElem?_toArray, List.getElem?_cons_succ, List.getElem?_cons_zero]; exact rfl)
        case an7 => kernel_rfl
        case bn7 => kernel_rfl
        case cn7 => kernel_rfl
        case qn7 => exact fun _ _ _ h => h
        case dn7 => rfl
        case hyn7 => (intro z hSw; (try dsimp only at hSw); go_simp; (try with_reducible rfl))
        try simp only [Act.put, List.setIfInBounds_toArray, List.set_cons_zero, List.set_cons_succ]
        refine wpAnyH_take (i := 7) (oi := ?on8) (v := ?vn8) ?hin8 ?an8 ?bn8 ?cn8 ?qn8 (Or.inl ⟨?dn8, ?hyn8⟩) hHeld ?restn8
        case hin8 => (simp only [List.getElem?_toArray, List.getElem?_cons_succ, List.getElem?_cons_zero]; exact rfl)
        case an8 => kernel_rfl
        case bn8 => kernel_rfl
        case cn8 => kernel_rfl
        case qn8 => exact fun _ _ _ h => h
        case dn8 => rfl
        case hyn8 => (intro z hSw; (try dsimp only at hSw); go_simp; (try with_reducible rfl))
        try simp only [Act.put, List.setIfInBounds_toArray, List.set_cons_zero, List.set_cons_succ]
        refine wpAnyH_take (i := 8) (oi := ?on9) (v := ?vn9) ?hin9 ?an9 ?bn9 ?cn9 ?qn9 (Or.inl ⟨?dn9, ?hyn9⟩) hHeld ?restn9
        case hin9 => (simp only [List.getElem?_toArray, List.getElem?_cons_succ, List.getElem?_cons_zero]; exact rfl)
        case an9 => kernel_rfl
        case bn9 => kernel_rfl
        case cn9 => kernel_rfl
        case qn9 => exact fun _ _ _ h => h
        case dn9 => rfl
        case hyn9 => (intro z hSw; (try dsimp only at hSw); go_simp; (try with_reducible rfl))
        try simp only [Act.put, List.setIfInBounds_toArray, List.set_cons_zero, List.set_cons_succ]
        refine wpAnyH_take (i := 9) (oi := ?on10) (v := ?vn10) ?hin10 ?an10 ?bn10 ?cn10 ?qn10 (Or.inl ⟨?dn10, ?hyn10⟩) hHeld ?restn10
        case hin10 => (simp only [List.getElem?_toArray, List.getElem?_cons_succ, List.getElem?_cons_zero]; exact rfl)
        case an10 => kernel_rfl
        case bn10 => kernel_rfl
        case cn10 => kernel_rfl
        case qn10 => exact fun _ _ _ h => h
        case dn10 => rfl
        case hyn10 => (intro z hSw; (try dsimp only at hSw); go_simp; (try with_reducible rfl))
        try simp only [Act.put, List.setIfInBounds_toArray, List.set_cons_zero, List.set_cons_succ]
        refine wpAnyH_take (i := 10) (oi := ?on11) (v := ?vn11) ?hin11 ?an11 ?bn11 ?cn11 ?qn11 (Or.inl ⟨?dn11, ?hyn11⟩) hHeld ?restn11
        case hin11 => (simp only [List.getElem?_toArray, List.getElem?_cons_succ, List.getElem?_cons_zero]; exact rfl)
        case an11 => kernel_rfl
        case bn11 => kernel_rfl
        case cn11 => kernel_rfl
        case qn11 => exact fun _ _ _ h => h
        case dn11 => rfl
        case hyn11 => (intro z hSw; (try dsimp only at hSw); go_simp; (try with_reducible rfl))
        try simp only [Act.put, List.setIfInBounds_toArray, List.set_cons_zero, List.set_cons_succ]
        refine wpAnyH_take (i := 11) (oi := ?on12) (v := ?vn12) ?hin12 ?an12 ?bn12 ?cn12 ?qn12 (Or.inl ⟨?dn12, ?hyn12⟩) hHeld ?restn12
        case hin12 => (simp only [List.getElem?_toArray, List.getElem?_cons_succ, List.getElem?_cons_zero]; exact rfl)
        case an12 => kernel_rfl
        case bn12 => kernel_rfl
        case cn12 => kernel_rfl
        case qn12 => exact fun _ _ _ h => h
        case dn12 => rfl
        case hyn12 => (intro z hSw; (try dsimp only at hSw); go_simp; (try with_reducible rfl))
        try simp only [Act.put, List.setIfInBounds_toArray, List.set_cons_zero, List.set_cons_succ]
        refine wpAnyH_ready (rs := [12]) (by kernel_rfl) (by simp) ?_
        refine AllReadyH.cons (o := ?on13) ?hin13 ?restn13 AllReadyH.nil
        case hin13 => (simp only [List.getElem?_toArray, List.getElem?_cons_succ, List.getElem?_cons_zero]; exact rfl)
        intro K hK
        go_simp
        go_at_call 41
        refine (KI.out _ (by repeat (first | with_reducible assumption | with_reducible refine Grew.alloc ?_ _ | with_reducible refine Grew.drew ?_ | with_reducible refine Grew.drewN ?_ _))).mono ?_
        rintro e wi ⟨rfl, hgi⟩
        have gwi : Grew w wi := Grew.trans (by repeat (first | with_reducible assumption | with_reducible refine Grew.alloc ?_ _ | with_reducible refine Grew.drew ?_ | with_reducible refine Grew.drewN ?_ _)) hgi
        have mwi : Grew wb wi := Grew.trans (by repeat (first | with_reducible assumption | with_reducible refine Grew.alloc ?_ _ | with_reducible refine Grew.drew ?_ | with_reducible refine Grew.drewN ?_ _)) hgi
        refine hK.out _ _ ?_ (fun hHeld => ?_)
        · (try dsimp only); first | with_reducible assumption | exact Grew.alloc ‹_› _
        clear hK K
        try simp only [Act.put, List.setIfInBounds_toArray, List.set_cons_zero, List.set_cons_succ]
        refine wpAnyH_take (i := 13) (oi := ?on14) (v := ?vn14) ?hin14 ?an14 ?bn14 ?cn14 ?qn14 (Or.inl ⟨?dn14, ?hyn14⟩) hHeld ?restn14
        case hin14 => (simp only [List.getElem?_toArray, List.getElem?_cons_succ, List.getElem?_cons_zero]; exact rfl)
        case an14 => kernel_rfl
        case bn14 => kernel_rfl
        case cn14 => kernel_rfl
        case qn14 => exact fun _ _ _ h => h
        case dn14 => rfl
        case hyn14 => (intro z hSw; (try dsimp only at hSw); go_simp; (try with_reducible rfl))
        try simp only [Act.put, List.setIfInBounds_toArray, List.set_cons_zero, List.set_cons_succ]
        refine wpAnyH_take (i := 14) (oi := ?on15) (v := ?vn15) ?hin15 ?an15 ?bn15 ?cn15 ?qn15 (Or.inl ⟨?dn15, ?hyn15⟩) hHeld ?restn15
        case hin15 => (simp only [List.getElem?_toArray, List.getElem?_cons_succ, List.getElem?_cons_zero]; exact rfl)
        case an15 => kernel_rfl
        case bn15 => kernel_rfl
        case cn15 => kernel_rfl
        case qn15 => exact fun _ _ _ h => h
        case dn15 => rfl
        case hyn15 => (intro z hSw; (try dsimp only at hSw); go_simp; (try with_reducible rfl))
        try simp only [Act.put, List.setIfInBounds_toArray, List.set_cons_zero, List.set_cons_succ]
        refine wpAnyH_take (i := 15) (oi := ?on16) (v := ?vn16) ?hin16 ?an16 ?bn16 ?cn16 ?qn16 (Or.inl ⟨?dn16, ?hyn16⟩) hHeld ?restn16
        case hin16 => (simp only [List.getElem?_toArray, List.getElem?_cons_succ, List.getElem?_cons_zero]; exact rfl)
        case an16 => kernel_rfl
        case bn16 => kernel_rfl
        case cn16 => kernel_rfl
        case qn16 => exact fun _ _ _ h => h
        case dn16 => rfl
        case hyn16 => (intro z hSw; (try dsimp only at hSw); go_simp; (try with_reducible rfl))
        try simp only [Act.put, List.setIfInBounds_toArray, List.set_cons_zero, List.set_cons_succ]
        refine wpAnyH_take (i := 16) (oi := ?on17) (v := ?vn17) ?hin17 ?an17 ?bn17 ?cn17 ?qn17 (Or.inl ⟨?dn17, ?hyn17⟩) hHeld ?restn17
        case hin17 => (simp only [List.getElem?_toArray, List.getElem?_cons_succ, List.getElem?_cons_zero]; exact rfl)
        case an17 => kernel_rfl
        case bn17 => kernel_rfl
        case cn17 => kernel_rfl
        case qn17 => exact fun _ _ _ h => h
        case dn17 => rfl
        case hyn17 => (intro z hSw; (try dsimp only at hSw); go_simp; (try with_reducible rfl))
        try simp only [Act.put, List.setIfInBounds_toArray, List.set_cons_zero, List.set_cons_succ]
        refine wpAnyH_take (i := 17) (oi := ?on18) (v := ?vn18) ?hin18 ?an18 ?bn18 ?cn18 ?qn18 (Or.inl ⟨?dn18, ?hyn18⟩) hHeld ?restn18
        case hin18 => (simp only [List.getElem?_toArray, List.getElem?_cons_succ, List.getElem?_cons_zero]; exact rfl)
        case an18 => kernel_rfl
        case bn18 => kernel_rfl
        case cn18 => kernel_rfl
        case qn18 => exact fun _ _ _ h => h
        case dn18 => rfl
        case hyn18 => (intro z hSw; (try dsimp only at hSw); go_simp; (try with_reducible rfl))
        try simp only [Act.put, List.setIfInBounds_toArray, List.set_cons_zero, List.set_cons_succ]
        refine wpAnyH_take (i := 18) (oi := ?on19) (v := ?vn19) ?hin19 ?an19 ?bn19 ?cn19 ?qn19 (Or.inl ⟨?dn19, ?hyn19⟩) hHeld ?restn19
        case hin19 => (simp only [List.getElem?_toArray, List.getElem?_cons_succ, List.getElem?_cons_zero]; exact rfl)
        case an19 => kernel_rfl
        case bn19 => kernel_rfl
        case cn19 => kernel_rfl
        case qn19 => exact fun _ _ _ h => h
        case dn19 => rfl
        case hyn19 => (intro z hSw; (try dsimp only at hSw); go_simp; (try with_reducible rfl))
        try simp only [Act.put, List.setIfInBounds_toArray, List.set_cons_zero, List.set_cons_succ]
        refine wpAnyH_take (i := 19) (oi := ?on20) (v := ?vn20) ?hin20 ?an20 ?bn20 ?cn20 ?qn20 (Or.inl ⟨?dn20, ?hyn20⟩) hHeld ?restn20
        case hin20 => (simp only [List.getElem?_toArray, List.getElem?_cons_succ, List.getElem?_cons_zero]; exact rfl)
        case an20 => kernel_rfl
        case bn20 => kernel_rfl
        case cn20 => kernel_rfl
        case qn20 => exact fun _ _ _ h => h
        case dn20 => rfl
        case hyn20 => (intro z hSw; (try dsimp only at hSw); go_simp; (try with_reducible rfl))
        try simp only [Act.put, List.setIfInBounds_toArray, List.set_cons_zero, List.set_cons_succ]
        refine wpAnyH_take (i := 20) (oi := ?on21) ?hin21 ?an21 ?bn21 ?cn21 ?qn21 (Or.inr ⟨?dn21, rfl⟩) hHeld ?restn21
        case hin21 => (simp only [List.getElem?_toArray, List.getElem?_cons_succ, List.getElem?_cons_zero]; exact rfl)
        case an21 => kernel_rfl
        case bn21 => kernel_rfl
        case cn21 => kernel_rfl
        case qn21 => exact fun _ _ _ h => h
        case dn21 => rfl
        try simp only [Act.put, List.setIfInBounds_toArray, List.set_cons_zero, List.set_cons_succ]
        refine wpAnyH_take (i := 21) (oi := ?on22) ?hin22 ?an22 ?bn22 ?cn22 ?qn22 (Or.inr ⟨?dn22, rfl⟩) hHeld ?restn22
        case hin22 => (simp only [List.getElem?_toArray, List.getElem?_cons_succ, List.getElem?_cons_zero]; exact rfl)
        case an22 => kernel_rfl
        case bn22 => kernel_rfl
        case cn22 => kernel_rfl
        case qn22 => exact fun _ _ _ h => h
        case dn22 => rfl
        try simp only [Act.put, List.setIfInBounds_toArray, List.set_cons_zero, List.set_cons_succ]
        refine wpAnyH_take (i := 22) (oi := ?on23) ?hin23 ?an23 ?bn23 ?cn23 ?qn23 (Or.inr ⟨?dn23, rfl⟩) hHeld ?restn23
        case hin23 => (simp only [List.getElem?_toArray, List.getElem?_cons_succ, List.getElem?_cons_zero]; exact rfl)
        case an23 => kernel_rfl
        case bn23 => kernel_rfl
        case cn23 => kernel_rfl
        case qn23 => exact fun _ _ _ h => h
        case dn23 => rfl
        try simp only [Act.put, List.setIfInBounds_toArray, List.set_cons_zero, List.set_cons_succ]
        refine wpAnyH_take (i := 23) (oi := ?on24) ?hin24 ?an24 ?bn24 ?cn24 ?qn24 (Or.inr ⟨?dn24, rfl⟩) hHeld ?restn24
        case hin24 => (simp only [List.getElem?_toArray, List.getElem?_cons_succ, List.getElem?_cons_zero]; exact rfl)
        case an24 => kernel_rfl
        case bn24 => kernel_rfl
        case cn24 => kernel_rfl
        case qn24 => exact fun _ _ _ h => h
        case dn24 => rfl
        try simp only [Act.put, List.setIfInBounds_toArray, List.set_cons_zero, List.set_cons_succ]
        refine wpAnyH_take (i := 24) (oi := ?on25) (v := ?vn25) ?hin25 ?an25 ?bn25 ?cn25 ?qn25 (Or.inl ⟨?dn25, ?hyn25⟩) hHeld ?restn25
        case hin25 => (simp only [List.getElem?_toArray, List.getElem?_cons_succ, List.getElem?_cons_zero]; exact rfl)
        case an25 => kernel_rfl
        case bn25 => kernel_rfl
        case cn25 => kernel_rfl
        case qn25 => exact fun _ _ _ h => h
        case dn25 => rfl
        case hyn25 => (intro z hSw; (try dsimp only at hSw); go_simp; (try with_reducible rfl))
        try simp only [Act.put, List.setIfInBounds_toArray, List.set_cons_zero, List.set_cons_succ]
        refine wpAnyH_take (i := 25) (oi := ?on26) (v := ?vn26) ?hin26 ?an26 ?bn26 ?cn26 ?qn26 (Or.inl ⟨?dn26, ?hyn26⟩) hHeld ?restn26
        case hin26 => (simp only [List.getElem?_toArray, List.getElem?_cons_succ, List.getElem?_cons_zero]; exact rfl)
        case an26 => kernel_rfl
        case bn26 => kernel_rfl
        case cn26 => kernel_rfl
        case qn26 => exact fun _ _ _ h => h
        case dn26 => rfl
        case hyn26 => (intro z hSw; (try dsimp only at hSw); go_simp; (try with_reducible rfl))
        try simp only [Act.put, List.setIfInBounds_toArray, List.set_cons_zero, List.set_cons_succ]
        refine wpAnyH_done (by kernel_rfl) ?_ _

        go_wp2_with fail
        go_loopw [6, 7] (fun v6 i wr => ∃ j : Nat, j ≤ x.2.1.length ∧ i = .int .i64 j ∧ OwnQ wb wr wb.heap.size v6 (preJ bef x.2.1 j) ∧ Grew wb wr ∧ Hid (PremJ bef x.2.1 j)) (fun _ i _ => x.2.1.length - (intOf i).toNat)
        case atStart => exact ⟨0, Nat.zero_le _, rfl, OwnQ.nil_ wb mwi.size (blk_new wi _), mwi.alloc _, Lib.hid (fun i hi => absurd hi (by omega))⟩
        case round =>
          obtain ⟨j, hj, rfl, hO, hB, HP⟩ := hrel
          have hB0 := hal.trans hB
          have hJl := preJ_len bef x.2.1 j
          by_cases hlt2 : j < x.2.1.length
          · rcases HUP.out.open_ with ⟨_, h0⟩ | ⟨pb, po, pc, hv1, _, hm1, hb1, hc1⟩
            · rw [h0] at hlt2; simp at hlt2
            obtain ⟨rfl, rfl⟩ : A = some ⟨pb, po, none⟩ ∧ cP = pc := by simpa using hv1
            have KR := fun W => l01In_c (it x.2.1 j) 0 ((k : Int) - 1) W
            have q1 := fun W (hW : Grew wb W) => hc1 j hlt2 W (hal.trans hW)
            by_cases hr : 0 ≤ it x.2.1 j ∧ it x.2.1 j ≤ (k : Int) - 1
            · rw [decide_eq_true hr] at KR
              replace KR := Lib.hid KR
              obtain ⟨m, hmi⟩ : ∃ m : Nat, it x.2.1 j = m := ⟨(it x.2.1 j).toNat, by omega⟩
              have hmk : m < k := by omega
              have hmx : m < xs.length := by omega
              have hy : xs[m]? = some xs[m] := List.getElem?_eq_getElem hmx
              generalize xs[m] = y at hy
              obtain ⟨yp, ya, hcy, hyp, hys⟩ := HC.out m y hy
              have HST := Lib.hid (preJ_succ hlt2 hmi (HTK.out m y hmk hy))
              have HCY := Lib.hid hcy
              have HPN : Hid (PremJ bef x.2.1 (j + 1)) := Lib.hid (fun i hi => by
                rcases Nat.lt_or_ge i j with hk | hk
                · exact HP.out i hk
                · obtain rfl : i = j := by omega
                  rw [HBL.out]
                  exact hr)
              rw [hmi] at q1 KR
              have HYP := Lib.hid (hyp.grew hal)
              have HYS := Lib.hid (hys.grew hal)
              obtain ⟨YA, yc, rfl⟩ := ints_slice hyp
              obtain ⟨YS, sc, rfl⟩ := strs_slice hys
              clear hcy hr hmi hy hyp hys hv1 hc1
              generalize preJ bef x.2.1 j = X at *
              go_wp2_with fail
              refine (KR.out _).mono ?_
              rintro e w4 ⟨rfl, hg4⟩
              have hB4 := hB.trans hg4
              obtain ⟨z0, z1, z2, z3, z4⟩ := HCY.out.grew hbb (hal.trans hB4)
              have hO1 := hO.grew (hg4.trans ((Grew.refl w4).alloc (.cells #[.int .i64 y.1, .slice YA y.2.1.length yc, .slice YS y.2.2.1.length sc, .string y.2.2.2.1, .string y.2.2.2.2] 42)))
              have hB1 := hB4.alloc (.cells #[.int .i64 y.1, .slice YA y.2.1.length yc, .slice YS y.2.2.1.length sc, .string y.2.2.2.1, .string y.2.2.2.2] 42)
              go_wp2_with (first | (at_builtin; refine wpList_appQ (w0 := wb) _ _ rfl rfl _ X rfl hO1 hB1 _ _ _ y rfl (rd_litQ _ _ _ _ _ _ _) HYP.out HYS.out (by omega) ?_; intro v2 w5 hown2 hg5 hgr5 hob5))
              go_roundw
              case rel => exact ⟨j + 1, by omega, by go_num, by rw [HST.out]; exact hown2, hg5, HPN⟩
              case measure => simp [intOf]; omega
            · rw [decide_eq_false hr] at KR
              replace KR := Lib.hid KR
              have HNO := Lib.hid (HD0.out.trans (dcd_false (fun h => hr (by have := premJ_all.2 h.2.1 j hlt2; rw [HBL.out] at this; exact this))))
              clear hr hc1 hv1
              generalize it x.2.1 j = q at *
              go_wp2_with fail
              refine (KR.out _).mono ?_
              rintro e w4 ⟨rfl, hg4⟩
              go_wp2_with fail
              go_ret
              exact ⟨congrArg (fun b => Ending.returned (Value.bool b)) HNO.out.symm, hB0.trans hg4⟩
          · obtain rfl : j = x.2.1.length := by omega
            have KT := rule_allJ x x.2.1.length hn _ _ u6 (preJ bef x.2.1 x.2.1.length) wr (HUP.out.grew hB0) (HS.out.grew hB0) (hO.jfs hB) hsq.out hsc hsm hus.out (preJ_all _ _)
            rw [preJ_map, givenM_all] at KT
            have hfin : goodJ bef x ↔ okJ x (givenJ bef x.2.1) := ⟨fun h => h.2.2, fun h => ⟨hsq.out, premJ_all.1 HP.out, h⟩⟩
            have HFIN := Lib.hid (HD0.out.trans (dcd_congr hfin)).symm
            clear hfin
            generalize dcd (okJ x (givenJ bef x.2.1)) = R at *
            replace KT := Lib.hid KT
            go_wp2_with fail
            refine (KT.out).mono ?_
            rintro e w4 ⟨rfl, hg4⟩
            go_wp2_with fail
            go_ret
            exact ⟨congrArg (fun b => Ending.returned (Value.bool b)) HFIN.out, hB0.trans hg4⟩
      · have he := empty_no hM
        cases hu : usesJ x.1 with
        | true =>
          have hus : usesJ x.1 = true ∨ x.2.2.2.2 = ByteArray.empty := .inl hu
          rw [hu] at KU
          obtain ⟨D0, hD0⟩ : ∃ D0, D0 = dcd (goodJ bef x) := ⟨_, rfl⟩
          rw [← hD0]
          have HD0 := Lib.hid hD0
          replace hsq := Lib.hid hsq
          replace hus := Lib.hid hus
          replace KU := Lib.hid KU
          clear hM hD0 hgl hu
          go_enter Tryz.func32, Tryz.ntmps32
          go_wp2_with fail
          rw [← hwb]
          clear hwb
          refine wp_region_held_drew (S := fun w' => Grew wb w') (by kernel_rfl) rbd (fun hHeld => ?_)
          refine wpAnyH_take (i := 0) (oi := ?on27) (v := ?vn27) ?hin27 ?an27 ?bn27 ?cn27 ?qn27 (Or.inl ⟨?dn27, ?hyn27⟩) hHeld ?restn27
          case hin27 => (simp only [List.getElem?_toArray, List.getElem?_cons_zero]; exact rfl)
          case an27 => kernel_rfl
          case bn27 => kernel_rfl
          case cn27 => kernel_rfl
          case qn27 => exact fun _ _ _ h => h
          case dn27 => rfl
          case hyn27 => (intro z hSw; (try dsimp only at hSw); go_simp; (try with_reducible rfl))
          try simp only [Act.put, List.setIfInBounds_toArray, List.set_cons_zero, List.set_cons_succ]
          refine wpAnyH_take (i := 1) (oi := ?on28) (v := ?vn28) ?hin28 ?an28 ?bn28 ?cn28 ?qn28 (Or.inl ⟨?dn28, ?hyn28⟩) hHeld ?restn28
          case hin28 => (simp only [List.getElem?_toArray, List.getElem?_cons_succ, List.getElem?_cons_zero]; exact rfl)
          case an28 => kernel_rfl
          case bn28 => kernel_rfl
          case cn28 => kernel_rfl
          case qn28 => exact fun _ _ _ h => h
          case dn28 => rfl
          case hyn28 => (intro z hSw; (try dsimp only at hSw); go_simp; (try with_reducible rfl))
          try simp only [Act.put, List.setIfInBounds_toArray, List.set_cons_zero, List.set_cons_succ]
          refine wpAnyH_take (i := 2) (oi := ?on29) (v := ?vn29) ?hin29 ?an29 ?bn29 ?cn29 ?qn29 (Or.inl ⟨?dn29, ?hyn29⟩) hHeld ?restn29
          case hin29 => (simp only [List.getElem?_toArray, List.getElem?_cons_succ, List.getElem?_cons_zero]; exact rfl)
          case an29 => kernel_rfl
          case bn29 => kernel_rfl
          case cn29 => kernel_rfl
          case qn29 => exact fun _ _ _ h => h
          case dn29 => rfl
          case hyn29 => (intro z hSw; (try dsimp only at hSw); go_simp; (try with_reducible rfl))
          try simp only [Act.put, List.setIfInBounds_toArray, List.set_cons_zero, List.set_cons_succ]
          refine wpAnyH_take (i := 3) (oi := ?on30) (v := ?vn30) ?hin30 ?an30 ?bn30 ?cn30 ?qn30 (Or.inl ⟨?dn30, ?hyn30⟩) hHeld ?restn30
          case hin30 => (simp only [List.getElem?_toArray, List.getElem?_cons_succ, List.getElem?_cons_zero]; exact rfl)
          case an30 => kernel_rfl
          case bn30 => kernel_rfl
          case cn30 => kernel_rfl
          case qn30 => exact fun _ _ _ h => h
          case dn30 => rfl
          case hyn30 => (intro z hSw; (try dsimp only at hSw); go_simp; (try with_reducible rfl))
          try simp only [Act.put, List.setIfInBounds_toArray, List.set_cons_zero, List.set_cons_succ]
          refine wpAnyH_take (i := 4) (oi := ?on31) (v := ?vn31) ?hin31 ?an31 ?bn31 ?cn31 ?qn31 (Or.inl ⟨?dn31, ?hyn31⟩) hHeld ?restn31
          case hin31 => (simp only [List.getElem?_toArray, List.getElem?_cons_succ, List.getElem?_cons_zero]; exact rfl)
          case an31 => kernel_rfl
          case bn31 => kernel_rfl
          case cn31 => kernel_rfl
          case qn31 => exact fun _ _ _ h => h
          case dn31 => rfl
          case hyn31 => (intro z hSw; (try dsimp only at hSw); go_simp; (try with_reducible rfl))
          try simp only [Act.put, List.setIfInBounds_toArray, List.set_cons_zero, List.set_cons_succ]
          refine wpAnyH_ready (rs := [5]) (by kernel_rfl) (by simp) ?_
          refine AllReadyH.cons (o := ?on32) ?hin32 ?restn32 AllReadyH.nil
          case hin32 => (simp only [List.getElem?_toArray, List.getElem?_cons_succ, List.getElem?_cons_zero]; exact rfl)
          intro K hK
          go_simp
          go_at_call 40
          refine (KN.out _).mono ?_
          rintro e wc ⟨rfl, hgc⟩
          have gwc : Grew w wc := Grew.trans (by repeat (first | with_reducible assumption | with_reducible refine Grew.alloc ?_ _ | with_reducible refine Grew.drew ?_ | with_reducible refine Grew.drewN ?_ _)) hgc
          have mwc : Grew wb wc := Grew.trans (by repeat (first | with_reducible assumption | with_reducible refine Grew.alloc ?_ _ | with_reducible refine Grew.drew ?_ | with_reducible refine Grew.drewN ?_ _)) hgc
          refine hK.out _ _ ?_ (fun hHeld => ?_)
          · (try dsimp only); first | with_reducible assumption | exact Grew.alloc ‹_› _
          clear hK K
          try simp only [Act.put, List.setIfInBounds_toArray, List.set_cons_zero, List.set_cons_succ]
          refine wpAnyH_take (i := 6) (oi := ?on33) (v := ?vn33) ?hin33 ?an33 ?bn33 ?cn33 ?qn33 (Or.inl ⟨?dn33, ?hyn33⟩) hHeld ?restn33
          case hin33 => (simp only [List.getElem?_toArray, List.getElem?_cons_succ, List.getElem?_cons_zero]; exact rfl)
          case an33 => kernel_rfl
          case bn33 => kernel_rfl
          case cn33 => kernel_rfl
          case qn33 => exact fun _ _ _ h => h
          case dn33 => rfl
          case hyn33 => (intro z hSw; (try dsimp only at hSw); go_simp; (try with_reducible rfl))
          try simp only [Act.put, List.setIfInBounds_toArray, List.set_cons_zero, List.set_cons_succ]
          refine wpAnyH_take (i := 7) (oi := ?on34) (v := ?vn34) ?hin34 ?an34 ?bn34 ?cn34 ?qn34 (Or.inl ⟨?dn34, ?hyn34⟩) hHeld ?restn34
          case hin34 => (simp only [List.getElem?_toArray, List.getElem?_cons_succ, List.getElem?_cons_zero]; exact rfl)
          case an34 => kernel_rfl
          case bn34 => kernel_rfl
          case cn34 => kernel_rfl
          case qn34 => exact fun _ _ _ h => h
          case dn34 => rfl
          case hyn34 => (intro z hSw; (try dsimp only at hSw); go_simp; (try with_reducible rfl))
          try simp only [Act.put, List.setIfInBounds_toArray, List.set_cons_zero, List.set_cons_succ]
          refine wpAnyH_take (i := 8) (oi := ?on35) (v := ?vn35) ?hin35 ?an35 ?bn35 ?cn35 ?qn35 (Or.inl ⟨?dn35, ?hyn35⟩) hHeld ?restn35
          case hin35 => (simp only [List.getElem?_toArray, List.getElem?_cons_succ, List.getElem?_cons_zero]; exact rfl)
          case an35 => kernel_rfl
          case bn35 => kernel_rfl
          case cn35 => kernel_rfl
          case qn35 => exact fun _ _ _ h => h
          case dn35 => rfl
          case hyn35 => (intro z hSw; (try dsimp only at hSw); go_simp; (try with_reducible rfl))
          try simp only [Act.put, List.setIfInBounds_toArray, List.set_cons_zero, List.set_cons_succ]
          refine wpAnyH_take (i := 9) (oi := ?on36) (v := ?vn36) ?hin36 ?an36 ?bn36 ?cn36 ?qn36 (Or.inl ⟨?dn36, ?hyn36⟩) hHeld ?restn36
          case hin36 => (simp only [List.getElem?_toArray, List.getElem?_cons_succ, List.getElem?_cons_zero]; exact rfl)
          case an36 => kernel_rfl
          case bn36 => kernel_rfl
          case cn36 => kernel_rfl
          case qn36 => exact fun _ _ _ h => h
          case dn36 => rfl
          case hyn36 => (intro z hSw; (try dsimp only at hSw); go_simp; (try with_reducible rfl))
          try simp only [Act.put, List.setIfInBounds_toArray, List.set_cons_zero, List.set_cons_succ]
          refine wpAnyH_take (i := 10) (oi := ?on37) (v := ?vn37) ?hin37 ?an37 ?bn37 ?cn37 ?qn37 (Or.inl ⟨?dn37, ?hyn37⟩) hHeld ?restn37
          case hin37 => (simp only [List.getElem?_toArray, List.getElem?_cons_succ, List.getElem?_cons_zero]; exact rfl)
          case an37 => kernel_rfl
          case bn37 => kernel_rfl
          case cn37 => kernel_rfl
          case qn37 => exact fun _ _ _ h => h
          case dn37 => rfl
          case hyn37 => (intro z hSw; (try dsimp only at hSw); go_simp; (try with_reducible rfl))
          try simp only [Act.put, List.setIfInBounds_toArray, List.set_cons_zero, List.set_cons_succ]
          refine wpAnyH_take (i := 11) (oi := ?on38) (v := ?vn38) ?hin38 ?an38 ?bn38 ?cn38 ?qn38 (Or.inl ⟨?dn38, ?hyn38⟩) hHeld ?restn38
          case hin38 => (simp only [List.getElem?_toArray, List.getElem?_cons_succ, List.getElem?_cons_zero]; exact rfl)
          case an38 => kernel_rfl
          case bn38 => kernel_rfl
          case cn38 => kernel_rfl
          case qn38 => exact fun _ _ _ h => h
          case dn38 => rfl
          case hyn38 => (intro z hSw; (try dsimp only at hSw); go_simp; (try with_reducible rfl))
          try simp only [Act.put, List.setIfInBounds_toArray, List.set_cons_zero, List.set_cons_succ]
          refine wpAnyH_ready (rs := [12]) (by kernel_rfl) (by simp) ?_
          refine AllReadyH.cons (o := ?on39) ?hin39 ?restn39 AllReadyH.nil
          case hin39 => (simp only [List.getElem?_toArray, List.getElem?_cons_succ, List.getElem?_cons_zero]; exact rfl)
          intro K hK
          go_simp
          go_at_call 41
          refine (KI.out _ (by repeat (first | with_reducible assumption | with_reducible refine Grew.alloc ?_ _ | with_reducible refine Grew.drew ?_ | with_reducible refine Grew.drewN ?_ _))).mono ?_
          rintro e wi ⟨rfl, hgi⟩
          have gwi : Grew w wi := Grew.trans (by repeat (first | with_reducible assumption | with_reducible refine Grew.alloc ?_ _ | with_reducible refine Grew.drew ?_ | with_reducible refine Grew.drewN ?_ _)) hgi
          have mwi : Grew wb wi := Grew.trans (by repeat (first | with_reducible assumption | with_reducible refine Grew.alloc ?_ _ | with_reducible refine Grew.drew ?_ | with_reducible refine Grew.drewN ?_ _)) hgi
          refine hK.out _ _ ?_ (fun hHeld => ?_)
          · (try dsimp only); first | with_reducible assumption | exact Grew.alloc ‹_› _
          clear hK K
          try simp only [Act.put, List.setIfInBounds_toArray, List.set_cons_zero, List.set_cons_succ]
          refine wpAnyH_take (i := 13) (oi := ?on40) (v := ?vn40) ?hin40 ?an40 ?bn40 ?cn40 ?qn40 (Or.inl ⟨?dn40, ?hyn40⟩) hHeld ?restn40
          case hin40 => (simp only [List.getElem?_toArray, List.getElem?_cons_succ, List.getElem?_cons_zero]; exact rfl)
          case an40 => kernel_rfl
          case bn40 => kernel_rfl
          case cn40 => kernel_rfl
          case qn40 => exact fun _ _ _ h => h
          case dn40 => rfl
          case hyn40 => (intro z hSw; (try dsimp only at hSw); go_simp; (try with_reducible rfl))
          try simp only [Act.put, List.setIfInBounds_toArray, List.set_cons_zero, List.set_cons_succ]
          refine wpAnyH_take (i := 14) (oi := ?on41) (v := ?vn41) ?hin41 ?an41 ?bn41 ?cn41 ?qn41 (Or.inl ⟨?dn41, ?hyn41⟩) hHeld ?restn41
          case hin41 => (simp only [List.getElem?_toArray, List.getElem?_cons_succ, List.getElem?_cons_zero]; exact rfl)
          case an41 => kernel_rfl
          case bn41 => kernel_rfl
          case cn41 => kernel_rfl
          case qn41 => exact fun _ _ _ h => h
          case dn41 => rfl
          case hyn41 => (intro z hSw; (try dsimp only at hSw); go_simp; (try with_reducible rfl))
          try simp only [Act.put, List.setIfInBounds_toArray, List.set_cons_zero, List.set_cons_succ]
          refine wpAnyH_take (i := 15) (oi := ?on42) (v := ?vn42) ?hin42 ?an42 ?bn42 ?cn42 ?qn42 (Or.inl ⟨?dn42, ?hyn42⟩) hHeld ?restn42
          case hin42 => (simp only [List.getElem?_toArray, List.getElem?_cons_succ, List.getElem?_cons_zero]; exact rfl)
          case an42 => kernel_rfl
          case bn42 => kernel_rfl
          case cn42 => kernel_rfl
          case qn42 => exact fun _ _ _ h => h
          case dn42 => rfl
          case hyn42 => (intro z hSw; (try dsimp only at hSw); go_simp; (try with_reducible rfl))
          try simp only [Act.put, List.setIfInBounds_toArray, List.set_cons_zero, List.set_cons_succ]
          refine wpAnyH_take (i := 16) (oi := ?on43) (v := ?vn43) ?hin43 ?an43 ?bn43 ?cn43 ?qn43 (Or.inl ⟨?dn43, ?hyn43⟩) hHeld ?restn43
          case hin43 => (simp only [List.getElem?_toArray, List.getElem?_cons_succ, List.getElem?_cons_zero]; exact rfl)
          case an43 => kernel_rfl
          case bn43 => kernel_rfl
          case cn43 => kernel_rfl
          case qn43 => exact fun _ _ _ h => h
          case dn43 => rfl
          case hyn43 => (intro z hSw; (try dsimp only at hSw); go_simp; (try with_reducible rfl))
          try simp only [Act.put, List.setIfInBounds_toArray, List.set_cons_zero, List.set_cons_succ]
          refine wpAnyH_take (i := 17) (oi := ?on44) (v := ?vn44) ?hin44 ?an44 ?bn44 ?cn44 ?qn44 (Or.inl ⟨?dn44, ?hyn44⟩) hHeld ?restn44
          case hin44 => (simp only [List.getElem?_toArray, List.getElem?_cons_succ, List.getElem?_cons_zero]; exact rfl)
          case an44 => kernel_rfl
          case bn44 => kernel_rfl
          case cn44 => kernel_rfl
          case qn44 => exact fun _ _ _ h => h
          case dn44 => rfl
          case hyn44 => (intro z hSw; (try dsimp only at hSw); go_simp; (try with_reducible rfl))
          try simp only [Act.put, List.setIfInBounds_toArray, List.set_cons_zero, List.set_cons_succ]
          refine wpAnyH_take (i := 18) (oi := ?on45) (v := ?vn45) ?hin45 ?an45 ?bn45 ?cn45 ?qn45 (Or.inl ⟨?dn45, ?hyn45⟩) hHeld ?restn45
          case hin45 => (simp only [List.getElem?_toArray, List.getElem?_cons_succ, List.getElem?_cons_zero]; exact rfl)
          case an45 => kernel_rfl
          case bn45 => kernel_rfl
          case cn45 => kernel_rfl
          case qn45 => exact fun _ _ _ h => h
          case dn45 => rfl
          case hyn45 => (intro z hSw; (try dsimp only at hSw); go_simp; (try with_reducible rfl))
          try simp only [Act.put, List.setIfInBounds_toArray, List.set_cons_zero, List.set_cons_succ]
          refine wpAnyH_take (i := 19) (oi := ?on46) (v := ?vn46) ?hin46 ?an46 ?bn46 ?cn46 ?qn46 (Or.inl ⟨?dn46, ?hyn46⟩) hHeld ?restn46
          case hin46 => (simp only [List.getElem?_toArray, List.getElem?_cons_succ, List.getElem?_cons_zero]; exact rfl)
          case an46 => kernel_rfl
          case bn46 => kernel_rfl
          case cn46 => kernel_rfl
          case qn46 => exact fun _ _ _ h => h
          case dn46 => rfl
          case hyn46 => (intro z hSw; (try dsimp only at hSw); go_simp; (try with_reducible rfl))
          try simp only [Act.put, List.setIfInBounds_toArray, List.set_cons_zero, List.set_cons_succ]
          refine wpAnyH_take (i := 20) (oi := ?on47) (v := ?vn47) ?hin47 ?an47 ?bn47 ?cn47 ?qn47 (Or.inl ⟨?dn47, ?hyn47⟩) hHeld ?restn47
          case hin47 => (simp only [List.getElem?_toArray, List.getElem?_cons_succ, List.getElem?_cons_zero]; exact rfl)
          case an47 => kernel_rfl
          case bn47 => kernel_rfl
          case cn47 => kernel_rfl
          case qn47 => exact fun _ _ _ h => h
          case dn47 => rfl
          case hyn47 => (intro z hSw; (try dsimp only at hSw); go_simp; (try with_reducible rfl))
          try simp only [Act.put, List.setIfInBounds_toArray, List.set_cons_zero, List.set_cons_succ]
          refine wpAnyH_take (i := 21) (oi := ?on48) (v := ?vn48) ?hin48 ?an48 ?bn48 ?cn48 ?qn48 (Or.inl ⟨?dn48, ?hyn48⟩) hHeld ?restn48
          case hin48 => (simp only [List.getElem?_toArray, List.getElem?_cons_succ, List.getElem?_cons_zero]; exact rfl)
          case an48 => kernel_rfl
          case bn48 => kernel_rfl
          case cn48 => kernel_rfl
          case qn48 => exact fun _ _ _ h => h
          case dn48 => rfl
          case hyn48 => (intro z hSw; (try dsimp only at hSw); go_simp; (try with_reducible rfl))
          try simp only [Act.put, List.setIfInBounds_toArray, List.set_cons_zero, List.set_cons_succ]
          refine wpAnyH_ready (rs := [22]) (by kernel_rfl) (by simp) ?_
          refine AllReadyH.cons (o := ?on49) ?hin49 ?restn49 AllReadyH.nil
          case hin49 => (simp only [List.getElem?_toArray, List.getElem?_cons_succ, List.getElem?_cons_zero]; exact rfl)
          intro K hK
          go_simp
          go_at_call 42
          refine (KU.out _).mono ?_
          rintro e wu ⟨rfl, hgu⟩
          have gwu : Grew w wu := Grew.trans (by repeat (first | with_reducible assumption | with_reducible refine Grew.alloc ?_ _ | with_reducible refine Grew.drew ?_ | with_reducible refine Grew.drewN ?_ _)) hgu
          have mwu : Grew wb wu := Grew.trans (by repeat (first | with_reducible assumption | with_reducible refine Grew.alloc ?_ _ | with_reducible refine Grew.drew ?_ | with_reducible refine Grew.drewN ?_ _)) hgu
          refine hK.out _ _ ?_ (fun hHeld => ?_)
          · (try dsimp only); first | with_reducible assumption | exact Grew.alloc ‹_› _
          clear hK K
          try simp only [Act.put, List.setIfInBounds_toArray, List.set_cons_zero, List.set_cons_succ]
          refine wpAnyH_take (i := 23) (oi := ?on50) (v := ?vn50) ?hin50 ?an50 ?bn50 ?cn50 ?qn50 (Or.inl ⟨?dn50, ?hyn50⟩) hHeld ?restn50
          case hin50 => (simp only [List.getElem?_toArray, List.getElem?_cons_succ, List.getElem?_cons_zero]; exact rfl)
          case an50 => kernel_rfl
          case bn50 => kernel_rfl
          case cn50 => kernel_rfl
          case qn50 => exact fun _ _ _ h => h
          case dn50 => rfl
          case hyn50 => (intro z hSw; (try dsimp only at hSw); go_simp; (try with_reducible rfl))
          try simp only [Act.put, List.setIfInBounds_toArray, List.set_cons_zero, List.set_cons_succ]
          refine wpAnyH_take (i := 24) (oi := ?on51) (v := ?vn51) ?hin51 ?an51 ?bn51 ?cn51 ?qn51 (Or.inl ⟨?dn51, ?hyn51⟩) hHeld ?restn51
          case hin51 => (simp only [List.getElem?_toArray, List.getElem?_cons_succ, List.getElem?_cons_zero]; exact rfl)
          case an51 => kernel_rfl
          case bn51 => kernel_rfl
          case cn51 => kernel_rfl
          case qn51 => exact fun _ _ _ h => h
          case dn51 => rfl
          case hyn51 => (intro z hSw; (try dsimp only at hSw); go_simp; (try with_reducible rfl))
          try simp only [Act.put, List.setIfInBounds_toArray, List.set_cons_zero, List.set_cons_succ]
          refine wpAnyH_take (i := 25) (oi := ?on52) (v := ?vn52) ?hin52 ?an52 ?bn52 ?cn52 ?qn52 (Or.inl ⟨?dn52, ?hyn52⟩) hHeld ?restn52
          case hin52 => (simp only [List.getElem?_toArray, List.getElem?_cons_succ, List.getElem?_cons_zero]; exact rfl)
          case an52 => kernel_rfl
          case bn52 => kernel_rfl
          case cn52 => kernel_rfl
          case qn52 => exact fun _ _ _ h => h
          case dn52 => rfl
          case hyn52 => (intro z hSw; (try dsimp only at hSw); go_simp; (try with_reducible rfl))
          try simp only [Act.put, List.setIfInBounds_toArray, List.set_cons_zero, List.set_cons_succ]
          refine wpAnyH_done (by kernel_rfl) ?_ _

          go_wp2_with fail
          go_loopw [6, 7] (fun v6 i wr => ∃ j : Nat, j ≤ x.2.1.length ∧ i = .int .i64 j ∧ OwnQ wb wr wb.heap.size v6 (preJ bef x.2.1 j) ∧ Grew wb wr ∧ Hid (PremJ bef x.2.1 j)) (fun _ i _ => x.2.1.length - (intOf i).toNat)
          case atStart => exact ⟨0, Nat.zero_le _, rfl, OwnQ.nil_ wb mwu.size (blk_new wu _), mwu.alloc _, Lib.hid (fun i hi => absurd hi (by omega))⟩
          case round =>
            obtain ⟨j, hj, rfl, hO, hB, HP⟩ := hrel
            have hB0 := hal.trans hB
            have hJl := preJ_len bef x.2.1 j
            by_cases hlt2 : j < x.2.1.length
            · rcases HUP.out.open_ with ⟨_, h0⟩ | ⟨pb, po, pc, hv1, _, hm1, hb1, hc1⟩
              · rw [h0] at hlt2; simp at hlt2
              obtain ⟨rfl, rfl⟩ : A = some ⟨pb, po, none⟩ ∧ cP = pc := by simpa using hv1
              have KR := fun W => l01In_c (it x.2.1 j) 0 ((k : Int) - 1) W
              have q1 := fun W (hW : Grew wb W) => hc1 j hlt2 W (hal.trans hW)
              by_cases hr : 0 ≤ it x.2.1 j ∧ it x.2.1 j ≤ (k : Int) - 1
              · rw [decide_eq_true hr] at KR
                replace KR := Lib.hid KR
                obtain ⟨m, hmi⟩ : ∃ m : Nat, it x.2.1 j = m := ⟨(it x.2.1 j).toNat, by omega⟩
                have hmk : m < k := by omega
                have hmx : m < xs.length := by omega
                have hy : xs[m]? = some xs[m] := List.getElem?_eq_getElem hmx
                generalize xs[m] = y at hy
                obtain ⟨yp, ya, hcy, hyp, hys⟩ := HC.out m y hy
                have HST := Lib.hid (preJ_succ hlt2 hmi (HTK.out m y hmk hy))
                have HCY := Lib.hid hcy
                have HPN : Hid (PremJ bef x.2.1 (j + 1)) := Lib.hid (fun i hi => by
                  rcases Nat.lt_or_ge i j with hk | hk
                  · exact HP.out i hk
                  · obtain rfl : i = j := by omega
                    rw [HBL.out]
                    exact hr)
                rw [hmi] at q1 KR
                have HYP := Lib.hid (hyp.grew hal)
                have HYS := Lib.hid (hys.grew hal)
                obtain ⟨YA, yc, rfl⟩ := ints_slice hyp
                obtain ⟨YS, sc, rfl⟩ := strs_slice hys
                clear hcy hr hmi hy hyp hys hv1 hc1
                generalize preJ bef x.2.1 j = X at *
                go_wp2_with fail
                refine (KR.out _).mono ?_
                rintro e w4 ⟨rfl, hg4⟩
                have hB4 := hB.trans hg4
                obtain ⟨z0, z1, z2, z3, z4⟩ := HCY.out.grew hbb (hal.trans hB4)
                have hO1 := hO.grew (hg4.trans ((Grew.refl w4).alloc (.cells #[.int .i64 y.1, .slice YA y.2.1.length yc, .slice YS y.2.2.1.length sc, .string y.2.2.2.1, .string y.2.2.2.2] 42)))
                have hB1 := hB4.alloc (.cells #[.int .i64 y.1, .slice YA y.2.1.length yc, .slice YS y.2.2.1.length sc, .string y.2.2.2.1, .string y.2.2.2.2] 42)
                go_wp2_with (first | (at_builtin; refine wpList_appQ (w0 := wb) _ _ rfl rfl _ X rfl hO1 hB1 _ _ _ y rfl (rd_litQ _ _ _ _ _ _ _) HYP.out HYS.out (by omega) ?_; intro v2 w5 hown2 hg5 hgr5 hob5))
                go_roundw
                case rel => exact ⟨j + 1, by omega, by go_num, by rw [HST.out]; exact hown2, hg5, HPN⟩
                case measure => simp [intOf]; omega
              · rw [decide_eq_false hr] at KR
                replace KR := Lib.hid KR
                have HNO := Lib.hid (HD0.out.trans (dcd_false (fun h => hr (by have := premJ_all.2 h.2.1 j hlt2; rw [HBL.out] at this; exact this))))
                clear hr hc1 hv1
                generalize it x.2.1 j = q at *
                go_wp2_with fail
                refine (KR.out _).mono ?_
                rintro e w4 ⟨rfl, hg4⟩
                go_wp2_with fail
                go_ret
                exact ⟨congrArg (fun b => Ending.returned (Value.bool b)) HNO.out.symm, hB0.trans hg4⟩
            · obtain rfl : j = x.2.1.length := by omega
              have KT := rule_allJ x x.2.1.length hn _ _ u6 (preJ bef x.2.1 x.2.1.length) wr (HUP.out.grew hB0) (HS.out.grew hB0) (hO.jfs hB) hsq.out hsc hsm hus.out (preJ_all _ _)
              rw [preJ_map, givenM_all] at KT
              have hfin : goodJ bef x ↔ okJ x (givenJ bef x.2.1) := ⟨fun h => h.2.2, fun h => ⟨hsq.out, premJ_all.1 HP.out, h⟩⟩
              have HFIN := Lib.hid (HD0.out.trans (dcd_congr hfin)).symm
              clear hfin
              generalize dcd (okJ x (givenJ bef x.2.1)) = R at *
              replace KT := Lib.hid KT
              go_wp2_with fail
              refine (KT.out).mono ?_
              rintro e w4 ⟨rfl, hg4⟩
              go_wp2_with fail
              go_ret
              exact ⟨congrArg (fun b => Ending.returned (Value.bool b)) HFIN.out, hB0.trans hg4⟩
        | false =>
          rw [dcd_false (fun h => by have := (hgl h).2.2; rw [hu] at this; exact this.elim (fun h => by cases h) hM)]
          rw [hu] at KU
          replace KU := Lib.hid KU
          clear hM hgl hu hsq HC HS HUP HTK HBL
          go_enter Tryz.func32, Tryz.ntmps32
          go_wp2_with fail
          rw [← hwb]
          clear hwb
          refine wp_region_held_drew (S := fun w' => Grew wb w') (by kernel_rfl) rbd (fun hHeld => ?_)
          refine wpAnyH_take (i := 0) (oi := ?on53) (v := ?vn53) ?hin53 ?an53 ?bn53 ?cn53 ?qn53 (Or.inl ⟨?dn53, ?hyn53⟩) hHeld ?restn53
          case hin53 => (simp only [List.getElem?_toArray, List.getElem?_cons_zero]; exact rfl)
          case an53 => kernel_rfl
          case bn53 => kernel_rfl
          case cn53 => kernel_rfl
          case qn53 => exact fun _ _ _ h => h
          case dn53 => rfl
          case hyn53 => (intro z hSw; (try dsimp only at hSw); go_simp; (try with_reducible rfl))
          try simp only [Act.put, List.setIfInBounds_toArray, List.set_cons_zero, List.set_cons_succ]
          refine wpAnyH_take (i := 1) (oi := ?on54) (v := ?vn54) ?hin54 ?an54 ?bn54 ?cn54 ?qn54 (Or.inl ⟨?dn54, ?hyn54⟩) hHeld ?restn54
          case hin54 => (simp only [List.getElem?_toArray, List.getElem?_cons_succ, List.getElem?_cons_zero]; exact rfl)
          case an54 => kernel_rfl
          case bn54 => kernel_rfl
          case cn54 => kernel_rfl
          case qn54 => exact fun _ _ _ h => h
          case dn54 => rfl
          case hyn54 => (intro z hSw; (try dsimp only at hSw); go_simp; (try with_reducible rfl))
          try simp only [Act.put, List.setIfInBounds_toArray, List.set_cons_zero, List.set_cons_succ]
          refine wpAnyH_take (i := 2) (oi := ?on55) (v := ?vn55) ?hin55 ?an55 ?bn55 ?cn55 ?qn55 (Or.inl ⟨?dn55, ?hyn55⟩) hHeld ?restn55
          case hin55 => (simp only [List.getElem?_toArray, List.getElem?_cons_succ, List.getElem?_cons_zero]; exact rfl)
          case an55 => kernel_rfl
          case bn55 => kernel_rfl
          case cn55 => kernel_rfl
          case qn55 => exact fun _ _ _ h => h
          case dn55 => rfl
          case hyn55 => (intro z hSw; (try dsimp only at hSw); go_simp; (try with_reducible rfl))
          try simp only [Act.put, List.setIfInBounds_toArray, List.set_cons_zero, List.set_cons_succ]
          refine wpAnyH_take (i := 3) (oi := ?on56) (v := ?vn56) ?hin56 ?an56 ?bn56 ?cn56 ?qn56 (Or.inl ⟨?dn56, ?hyn56⟩) hHeld ?restn56
          case hin56 => (simp only [List.getElem?_toArray, List.getElem?_cons_succ, List.getElem?_cons_zero]; exact rfl)
          case an56 => kernel_rfl
          case bn56 => kernel_rfl
          case cn56 => kernel_rfl
          case qn56 => exact fun _ _ _ h => h
          case dn56 => rfl
          case hyn56 => (intro z hSw; (try dsimp only at hSw); go_simp; (try with_reducible rfl))
          try simp only [Act.put, List.setIfInBounds_toArray, List.set_cons_zero, List.set_cons_succ]
          refine wpAnyH_take (i := 4) (oi := ?on57) (v := ?vn57) ?hin57 ?an57 ?bn57 ?cn57 ?qn57 (Or.inl ⟨?dn57, ?hyn57⟩) hHeld ?restn57
          case hin57 => (simp only [List.getElem?_toArray, List.getElem?_cons_succ, List.getElem?_cons_zero]; exact rfl)
          case an57 => kernel_rfl
          case bn57 => kernel_rfl
          case cn57 => kernel_rfl
          case qn57 => exact fun _ _ _ h => h
          case dn57 => rfl
          case hyn57 => (intro z hSw; (try dsimp only at hSw); go_simp; (try with_reducible rfl))
          try simp only [Act.put, List.setIfInBounds_toArray, List.set_cons_zero, List.set_cons_succ]
          refine wpAnyH_ready (rs := [5]) (by kernel_rfl) (by simp) ?_
          refine AllReadyH.cons (o := ?on58) ?hin58 ?restn58 AllReadyH.nil
          case hin58 => (simp only [List.getElem?_toArray, List.getElem?_cons_succ, List.getElem?_cons_zero]; exact rfl)
          intro K hK
          go_simp
          go_at_call 40
          refine (KN.out _).mono ?_
          rintro e wc ⟨rfl, hgc⟩
          have gwc : Grew w wc := Grew.trans (by repeat (first | with_reducible assumption | with_reducible refine Grew.alloc ?_ _ | with_reducible refine Grew.drew ?_ | with_reducible refine Grew.drewN ?_ _)) hgc
          have mwc : Grew wb wc := Grew.trans (by repeat (first | with_reducible assumption | with_reducible refine Grew.alloc ?_ _ | with_reducible refine Grew.drew ?_ | with_reducible refine Grew.drewN ?_ _)) hgc
          refine hK.out _ _ ?_ (fun hHeld => ?_)
          · (try dsimp only); first | with_reducible assumption | exact Grew.alloc ‹_› _
          clear hK K
          try simp only [Act.put, List.setIfInBounds_toArray, List.set_cons_zero, List.set_cons_succ]
          refine wpAnyH_take (i := 6) (oi := ?on59) (v := ?vn59) ?hin59 ?an59 ?bn59 ?cn59 ?qn59 (Or.inl ⟨?dn59, ?hyn59⟩) hHeld ?restn59
          case hin59 => (simp only [List.getElem?_toArray, List.getElem?_cons_succ, List.getElem?_cons_zero]; exact rfl)
          case an59 => kernel_rfl
          case bn59 => kernel_rfl
          case cn59 => kernel_rfl
          case qn59 => exact fun _ _ _ h => h
          case dn59 => rfl
          case hyn59 => (intro z hSw; (try dsimp only at hSw); go_simp; (try with_reducible rfl))
          try simp only [Act.put, List.setIfInBounds_toArray, List.set_cons_zero, List.set_cons_succ]
          refine wpAnyH_take (i := 7) (oi := ?on60) (v := ?vn60) ?hin60 ?an60 ?bn60 ?cn60 ?qn60 (Or.inl ⟨?dn60, ?hyn60⟩) hHeld ?restn60
          case hin60 => (simp only [List.getElem?_toArray, List.getElem?_cons_succ, List.getElem?_cons_zero]; exact rfl)
          case an60 => kernel_rfl
          case bn60 => kernel_rfl
          case cn60 => kernel_rfl
          case qn60 => exact fun _ _ _ h => h
          case dn60 => rfl
          case hyn60 => (intro z hSw; (try dsimp only at hSw); go_simp; (try with_reducible rfl))
          try simp only [Act.put, List.setIfInBounds_toArray, List.set_cons_zero, List.set_cons_succ]
          refine wpAnyH_take (i := 8) (oi := ?on61) (v := ?vn61) ?hin61 ?an61 ?bn61 ?cn61 ?qn61 (Or.inl ⟨?dn61, ?hyn61⟩) hHeld ?restn61
          case hin61 => (simp only [List.getElem?_toArray, List.getElem?_cons_succ, List.getElem?_cons_zero]; exact rfl)
          case an61 => kernel_rfl
          case bn61 => kernel_rfl
          case cn61 => kernel_rfl
          case qn61 => exact fun _ _ _ h => h
          case dn61 => rfl
          case hyn61 => (intro z hSw; (try dsimp only at hSw); go_simp; (try with_reducible rfl))
          try simp only [Act.put, List.setIfInBounds_toArray, List.set_cons_zero, List.set_cons_succ]
          refine wpAnyH_take (i := 9) (oi := ?on62) (v := ?vn62) ?hin62 ?an62 ?bn62 ?cn62 ?qn62 (Or.inl ⟨?dn62, ?hyn62⟩) hHeld ?restn62
          case hin62 => (simp only [List.getElem?_toArray, List.getElem?_cons_succ, List.getElem?_cons_zero]; exact rfl)
          case an62 => kernel_rfl
          case bn62 => kernel_rfl
          case cn62 => kernel_rfl
          case qn62 => exact fun _ _ _ h => h
          case dn62 => rfl
          case hyn62 => (intro z hSw; (try dsimp only at hSw); go_simp; (try with_reducible rfl))
          try simp only [Act.put, List.setIfInBounds_toArray, List.set_cons_zero, List.set_cons_succ]
          refine wpAnyH_take (i := 10) (oi := ?on63) (v := ?vn63) ?hin63 ?an63 ?bn63 ?cn63 ?qn63 (Or.inl ⟨?dn63, ?hyn63⟩) hHeld ?restn63
          case hin63 => (simp only [List.getElem?_toArray, List.getElem?_cons_succ, List.getElem?_cons_zero]; exact rfl)
          case an63 => kernel_rfl
          case bn63 => kernel_rfl
          case cn63 => kernel_rfl
          case qn63 => exact fun _ _ _ h => h
          case dn63 => rfl
          case hyn63 => (intro z hSw; (try dsimp only at hSw); go_simp; (try with_reducible rfl))
          try simp only [Act.put, List.setIfInBounds_toArray, List.set_cons_zero, List.set_cons_succ]
          refine wpAnyH_take (i := 11) (oi := ?on64) (v := ?vn64) ?hin64 ?an64 ?bn64 ?cn64 ?qn64 (Or.inl ⟨?dn64, ?hyn64⟩) hHeld ?restn64
          case hin64 => (simp only [List.getElem?_toArray, List.getElem?_cons_succ, List.getElem?_cons_zero]; exact rfl)
          case an64 => kernel_rfl
          case bn64 => kernel_rfl
          case cn64 => kernel_rfl
          case qn64 => exact fun _ _ _ h => h
          case dn64 => rfl
          case hyn64 => (intro z hSw; (try dsimp only at hSw); go_simp; (try with_reducible rfl))
          try simp only [Act.put, List.setIfInBounds_toArray, List.set_cons_zero, List.set_cons_succ]
          refine wpAnyH_ready (rs := [12]) (by kernel_rfl) (by simp) ?_
          refine AllReadyH.cons (o := ?on65) ?hin65 ?restn65 AllReadyH.nil
          case hin65 => (simp only [List.getElem?_toArray, List.getElem?_cons_succ, List.getElem?_cons_zero]; exact rfl)
          intro K hK
          go_simp
          go_at_call 41
          refine (KI.out _ (by repeat (first | with_reducible assumption | with_reducible refine Grew.alloc ?_ _ | with_reducible refine Grew.drew ?_ | with_reducible refine Grew.drewN ?_ _))).mono ?_
          rintro e wi ⟨rfl, hgi⟩
          have gwi : Grew w wi := Grew.trans (by repeat (first | with_reducible assumption | with_reducible refine Grew.alloc ?_ _ | with_reducible refine Grew.drew ?_ | with_reducible refine Grew.drewN ?_ _)) hgi
          have mwi : Grew wb wi := Grew.trans (by repeat (first | with_reducible assumption | with_reducible refine Grew.alloc ?_ _ | with_reducible refine Grew.drew ?_ | with_reducible refine Grew.drewN ?_ _)) hgi
          refine hK.out _ _ ?_ (fun hHeld => ?_)
          · (try dsimp only); first | with_reducible assumption | exact Grew.alloc ‹_› _
          clear hK K
          try simp only [Act.put, List.setIfInBounds_toArray, List.set_cons_zero, List.set_cons_succ]
          refine wpAnyH_take (i := 13) (oi := ?on66) (v := ?vn66) ?hin66 ?an66 ?bn66 ?cn66 ?qn66 (Or.inl ⟨?dn66, ?hyn66⟩) hHeld ?restn66
          case hin66 => (simp only [List.getElem?_toArray, List.getElem?_cons_succ, List.getElem?_cons_zero]; exact rfl)
          case an66 => kernel_rfl
          case bn66 => kernel_rfl
          case cn66 => kernel_rfl
          case qn66 => exact fun _ _ _ h => h
          case dn66 => rfl
          case hyn66 => (intro z hSw; (try dsimp only at hSw); go_simp; (try with_reducible rfl))
          try simp only [Act.put, List.setIfInBounds_toArray, List.set_cons_zero, List.set_cons_succ]
          refine wpAnyH_take (i := 14) (oi := ?on67) (v := ?vn67) ?hin67 ?an67 ?bn67 ?cn67 ?qn67 (Or.inl ⟨?dn67, ?hyn67⟩) hHeld ?restn67
          case hin67 => (simp only [List.getElem?_toArray, List.getElem?_cons_succ, List.getElem?_cons_zero]; exact rfl)
          case an67 => kernel_rfl
          case bn67 => kernel_rfl
          case cn67 => kernel_rfl
          case qn67 => exact fun _ _ _ h => h
          case dn67 => rfl
          case hyn67 => (intro z hSw; (try dsimp only at hSw); go_simp; (try with_reducible rfl))
          try simp only [Act.put, List.setIfInBounds_toArray, List.set_cons_zero, List.set_cons_succ]
          refine wpAnyH_take (i := 15) (oi := ?on68) (v := ?vn68) ?hin68 ?an68 ?bn68 ?cn68 ?qn68 (Or.inl ⟨?dn68, ?hyn68⟩) hHeld ?restn68
          case hin68 => (simp only [List.getElem?_toArray, List.getElem?_cons_succ, List.getElem?_cons_zero]; exact rfl)
          case an68 => kernel_rfl
          case bn68 => kernel_rfl
          case cn68 => kernel_rfl
          case qn68 => exact fun _ _ _ h => h
          case dn68 => rfl
          case hyn68 => (intro z hSw; (try dsimp only at hSw); go_simp; (try with_reducible rfl))
          try simp only [Act.put, List.setIfInBounds_toArray, List.set_cons_zero, List.set_cons_succ]
          refine wpAnyH_take (i := 16) (oi := ?on69) (v := ?vn69) ?hin69 ?an69 ?bn69 ?cn69 ?qn69 (Or.inl ⟨?dn69, ?hyn69⟩) hHeld ?restn69
          case hin69 => (simp only [List.getElem?_toArray, List.getElem?_cons_succ, List.getElem?_cons_zero]; exact rfl)
          case an69 => kernel_rfl
          case bn69 => kernel_rfl
          case cn69 => kernel_rfl
          case qn69 => exact fun _ _ _ h => h
          case dn69 => rfl
          case hyn69 => (intro z hSw; (try dsimp only at hSw); go_simp; (try with_reducible rfl))
          try simp only [Act.put, List.setIfInBounds_toArray, List.set_cons_zero, List.set_cons_succ]
          refine wpAnyH_take (i := 17) (oi := ?on70) (v := ?vn70) ?hin70 ?an70 ?bn70 ?cn70 ?qn70 (Or.inl ⟨?dn70, ?hyn70⟩) hHeld ?restn70
          case hin70 => (simp only [List.getElem?_toArray, List.getElem?_cons_succ, List.getElem?_cons_zero]; exact rfl)
          case an70 => kernel_rfl
          case bn70 => kernel_rfl
          case cn70 => kernel_rfl
          case qn70 => exact fun _ _ _ h => h
          case dn70 => rfl
          case hyn70 => (intro z hSw; (try dsimp only at hSw); go_simp; (try with_reducible rfl))
          try simp only [Act.put, List.setIfInBounds_toArray, List.set_cons_zero, List.set_cons_succ]
          refine wpAnyH_take (i := 18) (oi := ?on71) (v := ?vn71) ?hin71 ?an71 ?bn71 ?cn71 ?qn71 (Or.inl ⟨?dn71, ?hyn71⟩) hHeld ?restn71
          case hin71 => (simp only [List.getElem?_toArray, List.getElem?_cons_succ, List.getElem?_cons_zero]; exact rfl)
          case an71 => kernel_rfl
          case bn71 => kernel_rfl
          case cn71 => kernel_rfl
          case qn71 => exact fun _ _ _ h => h
          case dn71 => rfl
          case hyn71 => (intro z hSw; (try dsimp only at hSw); go_simp; (try with_reducible rfl))
          try simp only [Act.put, List.setIfInBounds_toArray, List.set_cons_zero, List.set_cons_succ]
          refine wpAnyH_take (i := 19) (oi := ?on72) (v := ?vn72) ?hin72 ?an72 ?bn72 ?cn72 ?qn72 (Or.inl ⟨?dn72, ?hyn72⟩) hHeld ?restn72
          case hin72 => (simp only [List.getElem?_toArray, List.getElem?_cons_succ, List.getElem?_cons_zero]; exact rfl)
          case an72 => kernel_rfl
          case bn72 => kernel_rfl
          case cn72 => kernel_rfl
          case qn72 => exact fun _ _ _ h => h
          case dn72 => rfl
          case hyn72 => (intro z hSw; (try dsimp only at hSw); go_simp; (try with_reducible rfl))
          try simp only [Act.put, List.setIfInBounds_toArray, List.set_cons_zero, List.set_cons_succ]
          refine wpAnyH_take (i := 20) (oi := ?on73) (v := ?vn73) ?hin73 ?an73 ?bn73 ?cn73 ?qn73 (Or.inl ⟨?dn73, ?hyn73⟩) hHeld ?restn73
          case hin73 => (simp only [List.getElem?_toArray, List.getElem?_cons_succ, List.getElem?_cons_zero]; exact rfl)
          case an73 => kernel_rfl
          case bn73 => kernel_rfl
          case cn73 => kernel_rfl
          case qn73 => exact fun _ _ _ h => h
          case dn73 => rfl
          case hyn73 => (intro z hSw; (try dsimp only at hSw); go_simp; (try with_reducible rfl))
          try simp only [Act.put, List.setIfInBounds_toArray, List.set_cons_zero, List.set_cons_succ]
          refine wpAnyH_take (i := 21) (oi := ?on74) (v := ?vn74) ?hin74 ?an74 ?bn74 ?cn74 ?qn74 (Or.inl ⟨?dn74, ?hyn74⟩) hHeld ?restn74
          case hin74 => (simp only [List.getElem?_toArray, List.getElem?_cons_succ, List.getElem?_cons_zero]; exact rfl)
          case an74 => kernel_rfl
          case bn74 => kernel_rfl
          case cn74 => kernel_rfl
          case qn74 => exact fun _ _ _ h => h
          case dn74 => rfl
          case hyn74 => (intro z hSw; (try dsimp only at hSw); go_simp; (try with_reducible rfl))
          try simp only [Act.put, List.setIfInBounds_toArray, List.set_cons_zero, List.set_cons_succ]
          refine wpAnyH_ready (rs := [22]) (by kernel_rfl) (by simp) ?_
          refine AllReadyH.cons (o := ?on75) ?hin75 ?restn75 AllReadyH.nil
          case hin75 => (simp only [List.getElem?_toArray, List.getElem?_cons_succ, List.getElem?_cons_zero]; exact rfl)
          intro K hK
          go_simp
          go_at_call 42
          refine (KU.out _).mono ?_
          rintro e wu ⟨rfl, hgu⟩
          have gwu : Grew w wu := Grew.trans (by repeat (first | with_reducible assumption | with_reducible refine Grew.alloc ?_ _ | with_reducible refine Grew.drew ?_ | with_reducible refine Grew.drewN ?_ _)) hgu
          have mwu : Grew wb wu := Grew.trans (by repeat (first | with_reducible assumption | with_reducible refine Grew.alloc ?_ _ | with_reducible refine Grew.drew ?_ | with_reducible refine Grew.drewN ?_ _)) hgu
          refine hK.out _ _ ?_ (fun hHeld => ?_)
          · (try dsimp only); first | with_reducible assumption | exact Grew.alloc ‹_› _
          clear hK K
          try simp only [Act.put, List.setIfInBounds_toArray, List.set_cons_zero, List.set_cons_succ]
          refine wpAnyH_take (i := 23) (oi := ?on76) (v := ?vn76) ?hin76 ?an76 ?bn76 ?cn76 ?qn76 (Or.inl ⟨?dn76, ?hyn76⟩) hHeld ?restn76
          case hin76 => (simp only [List.getElem?_toArray, List.getElem?_cons_succ, List.getElem?_cons_zero]; exact rfl)
          case an76 => kernel_rfl
          case bn76 => kernel_rfl
          case cn76 => kernel_rfl
          case qn76 => exact fun _ _ _ h => h
          case dn76 => rfl
          case hyn76 => (intro z hSw; (try dsimp only at hSw); go_simp; (try with_reducible rfl))
          try simp only [Act.put, List.setIfInBounds_toArray, List.set_cons_zero, List.set_cons_succ]
          refine wpAnyH_take (i := 24) (oi := ?on77) (v := ?vn77) ?hin77 ?an77 ?bn77 ?cn77 ?qn77 (Or.inl ⟨?dn77, ?hyn77⟩) hHeld ?restn77
          case hin77 => (simp only [List.getElem?_toArray, List.getElem?_cons_succ, List.getElem?_cons_zero]; exact rfl)
          case an77 => kernel_rfl
          case bn77 => kernel_rfl
          case cn77 => kernel_rfl
          case qn77 => exact fun _ _ _ h => h
          case dn77 => rfl
          case hyn77 => (intro z hSw; (try dsimp only at hSw); go_simp; (try with_reducible rfl))
          try simp only [Act.put, List.setIfInBounds_toArray, List.set_cons_zero, List.set_cons_succ]
          refine wpAnyH_take (i := 25) (oi := ?on78) (v := ?vn78) ?hin78 ?an78 ?bn78 ?cn78 ?qn78 (Or.inl ⟨?dn78, ?hyn78⟩) hHeld ?restn78
          case hin78 => (simp only [List.getElem?_toArray, List.getElem?_cons_succ, List.getElem?_cons_zero]; exact rfl)
          case an78 => kernel_rfl
          case bn78 => kernel_rfl
          case cn78 => kernel_rfl
          case qn78 => exact fun _ _ _ h => h
          case dn78 => rfl
          case hyn78 => (intro z hSw; (try dsimp only at hSw); go_simp; (try with_reducible rfl))
          try simp only [Act.put, List.setIfInBounds_toArray, List.set_cons_zero, List.set_cons_succ]
          refine wpAnyH_done (by kernel_rfl) ?_ _
          go_wp2_with fail
          go_ret
          exact ⟨rfl, (by repeat (first | with_reducible assumption | with_reducible refine Grew.alloc ?_ _ | with_reducible refine Grew.drew ?_ | with_reducible refine Grew.drewN ?_ _))⟩
    | false =>
      rw [dcd_false (fun h => by have := (hgl h).2.1; rw [hsq] at this; cases this)]
      rw [hsq] at KI
      replace KI := Lib.hid KI
      clear hgl hsq HC HS HUP HTK HBL
      go_enter Tryz.func32, Tryz.ntmps32
      go_wp2_with fail
      rw [← hwb]
      clear hwb
      refine wp_region_held_drew (S := fun w' => Grew wb w') (by kernel_rfl) rbd (fun hHeld => ?_)
      refine wpAnyH_take (i := 0) (oi := ?on79) (v := ?vn79) ?hin79 ?an79 ?bn79 ?cn79 ?qn79 (Or.inl ⟨?dn79, ?hyn79⟩) hHeld ?restn79
      case hin79 => (simp only [List.getElem?_toArray, List.getElem?_cons_zero]; exact rfl)
      case an79 => kernel_rfl
      case bn79 => kernel_rfl
      case cn79 => kernel_rfl
      case qn79 => exact fun _ _ _ h => h
      case dn79 => rfl
      case hyn79 => (intro z hSw; (try dsimp only at hSw); go_simp; (try with_reducible rfl))
      try simp only [Act.put, List.setIfInBounds_toArray, List.set_cons_zero, List.set_cons_succ]
      refine wpAnyH_take (i := 1) (oi := ?on80) (v := ?vn80) ?hin80 ?an80 ?bn80 ?cn80 ?qn80 (Or.inl ⟨?dn80, ?hyn80⟩) hHeld ?restn80
      case hin80 => (simp only [List.getElem?_toArray, List.getElem?_cons_succ, List.getElem?_cons_zero]; exact rfl)
      case an80 => kernel_rfl
      case bn80 => kernel_rfl
      case cn80 => kernel_rfl
      case qn80 => exact fun _ _ _ h => h
      case dn80 => rfl
      case hyn80 => (intro z hSw; (try dsimp only at hSw); go_simp; (try with_reducible rfl))
      try simp only [Act.put, List.setIfInBounds_toArray, List.set_cons_zero, List.set_cons_succ]
      refine wpAnyH_take (i := 2) (oi := ?on81) (v := ?vn81) ?hin81 ?an81 ?bn81 ?cn81 ?qn81 (Or.inl ⟨?dn81, ?hyn81⟩) hHeld ?restn81
      case hin81 => (simp only [List.getElem?_toArray, List.getElem?_cons_succ, List.getElem?_cons_zero]; exact rfl)
      case an81 => kernel_rfl
      case bn81 => kernel_rfl
      case cn81 => kernel_rfl
      case qn81 => exact fun _ _ _ h => h
      case dn81 => rfl
      case hyn81 => (intro z hSw; (try dsimp only at hSw); go_simp; (try with_reducible rfl))
      try simp only [Act.put, List.setIfInBounds_toArray, List.set_cons_zero, List.set_cons_succ]
      refine wpAnyH_take (i := 3) (oi := ?on82) (v := ?vn82) ?hin82 ?an82 ?bn82 ?cn82 ?qn82 (Or.inl ⟨?dn82, ?hyn82⟩) hHeld ?restn82
      case hin82 => (simp only [List.getElem?_toArray, List.getElem?_cons_succ, List.getElem?_cons_zero]; exact rfl)
      case an82 => kernel_rfl
      case bn82 => kernel_rfl
      case cn82 => kernel_rfl
      case qn82 => exact fun _ _ _ h => h
      case dn82 => rfl
      case hyn82 => (intro z hSw; (try dsimp only at hSw); go_simp; (try with_reducible rfl))
      try simp only [Act.put, List.setIfInBounds_toArray, List.set_cons_zero, List.set_cons_succ]
      refine wpAnyH_take (i := 4) (oi := ?on83) (v := ?vn83) ?hin83 ?an83 ?bn83 ?cn83 ?qn83 (Or.inl ⟨?dn83, ?hyn83⟩) hHeld ?restn83
      case hin83 => (simp only [List.getElem?_toArray, List.getElem?_cons_succ, List.getElem?_cons_zero]; exact rfl)
      case an83 => kernel_rfl
      case bn83 => kernel_rfl
      case cn83 => kernel_rfl
      case qn83 => exact fun _ _ _ h => h
      case dn83 => rfl
      case hyn83 => (intro z hSw; (try dsimp only at hSw); go_simp; (try with_reducible rfl))
      try simp only [Act.put, List.setIfInBounds_toArray, List.set_cons_zero, List.set_cons_succ]
      refine wpAnyH_ready (rs := [5]) (by kernel_rfl) (by simp) ?_
      refine AllReadyH.cons (o := ?on84) ?hin84 ?restn84 AllReadyH.nil
      case hin84 => (simp only [List.getElem?_toArray, List.getElem?_cons_succ, List.getElem?_cons_zero]; exact rfl)
      intro K hK
      go_simp
      go_at_call 40
      refine (KN.out _).mono ?_
      rintro e wc ⟨rfl, hgc⟩
      have gwc : Grew w wc := Grew.trans (by repeat (first | with_reducible assumption | with_reducible refine Grew.alloc ?_ _ | with_reducible refine Grew.drew ?_ | with_reducible refine Grew.drewN ?_ _)) hgc
      have mwc : Grew wb wc := Grew.trans (by repeat (first | with_reducible assumption | with_reducible refine Grew.alloc ?_ _ | with_reducible refine Grew.drew ?_ | with_reducible refine Grew.drewN ?_ _)) hgc
      refine hK.out _ _ ?_ (fun hHeld => ?_)
      · (try dsimp only); first | with_reducible assumption | exact Grew.alloc ‹_› _
      clear hK K
      try simp only [Act.put, List.setIfInBounds_toArray, List.set_cons_zero, List.set_cons_succ]
      refine wpAnyH_take (i := 6) (oi := ?on85) (v := ?vn85) ?hin85 ?an85 ?bn85 ?cn85 ?qn85 (Or.inl ⟨?dn85, ?hyn85⟩) hHeld ?restn85
      case hin85 => (simp only [List.getElem?_toArray, List.getElem?_cons_succ, List.getElem?_cons_zero]; exact rfl)
      case an85 => kernel_rfl
      case bn85 => kernel_rfl
      case cn85 => kernel_rfl
      case qn85 => exact fun _ _ _ h => h
      case dn85 => rfl
      case hyn85 => (intro z hSw; (try dsimp only at hSw); go_simp; (try with_reducible rfl))
      try simp only [Act.put, List.setIfInBounds_toArray, List.set_cons_zero, List.set_cons_succ]
      refine wpAnyH_take (i := 7) (oi := ?on86) (v := ?vn86) ?hin86 ?an86 ?bn86 ?cn86 ?qn86 (Or.inl ⟨?dn86, ?hyn86⟩) hHeld ?restn86
      case hin86 => (simp only [List.getElem?_toArray, List.getElem?_cons_succ, List.getElem?_cons_zero]; exact rfl)
      case an86 => kernel_rfl
      case bn86 => kernel_rfl
      case cn86 => kernel_rfl
      case qn86 => exact fun _ _ _ h => h
      case dn86 => rfl
      case hyn86 => (intro z hSw; (try dsimp only at hSw); go_simp; (try with_reducible rfl))
      try simp only [Act.put, List.setIfInBounds_toArray, List.set_cons_zero, List.set_cons_succ]
      refine wpAnyH_take (i := 8) (oi := ?on87) (v := ?vn87) ?hin87 ?an87 ?bn87 ?cn87 ?qn87 (Or.inl ⟨?dn87, ?hyn87⟩) hHeld ?restn87
      case hin87 => (simp only [List.getElem?_toArray, List.getElem?_cons_succ, List.getElem?_cons_zero]; exact rfl)
      case an87 => kernel_rfl
      case bn87 => kernel_rfl
      case cn87 => kernel_rfl
      case qn87 => exact fun _ _ _ h => h
      case dn87 => rfl
      case hyn87 => (intro z hSw; (try dsimp only at hSw); go_simp; (try with_reducible rfl))
      try simp only [Act.put, List.setIfInBounds_toArray, List.set_cons_zero, List.set_cons_succ]
      refine wpAnyH_take (i := 9) (oi := ?on88) (v := ?vn88) ?hin88 ?an88 ?bn88 ?cn88 ?qn88 (Or.inl ⟨?dn88, ?hyn88⟩) hHeld ?restn88
      case hin88 => (simp only [List.getElem?_toArray, List.getElem?_cons_succ, List.getElem?_cons_zero]; exact rfl)
      case an88 => kernel_rfl
      case bn88 => kernel_rfl
      case cn88 => kernel_rfl
      case qn88 => exact fun _ _ _ h => h
      case dn88 => rfl
      case hyn88 => (intro z hSw; (try dsimp only at hSw); go_simp; (try with_reducible rfl))
      try simp only [Act.put, List.setIfInBounds_toArray, List.set_cons_zero, List.set_cons_succ]
      refine wpAnyH_take (i := 10) (oi := ?on89) (v := ?vn89) ?hin89 ?an89 ?bn89 ?cn89 ?qn89 (Or.inl ⟨?dn89, ?hyn89⟩) hHeld ?restn89
      case hin89 => (simp only [List.getElem?_toArray, List.getElem?_cons_succ, List.getElem?_cons_zero]; exact rfl)
      case an89 => kernel_rfl
      case bn89 => kernel_rfl
      case cn89 => kernel_rfl
      case qn89 => exact fun _ _ _ h => h
      case dn89 => rfl
      case hyn89 => (intro z hSw; (try dsimp only at hSw); go_simp; (try with_reducible rfl))
      try simp only [Act.put, List.setIfInBounds_toArray, List.set_cons_zero, List.set_cons_succ]
      refine wpAnyH_take (i := 11) (oi := ?on90) (v := ?vn90) ?hin90 ?an90 ?bn90 ?cn90 ?qn90 (Or.inl ⟨?dn90, ?hyn90⟩) hHeld ?restn90
      case hin90 => (simp only [List.getElem?_toArray, List.getElem?_cons_succ, List.getElem?_cons_zero]; exact rfl)
      case an90 => kernel_rfl
      case bn90 => kernel_rfl
      case cn90 => kernel_rfl
      case qn90 => exact fun _ _ _ h => h
      case dn90 => rfl
      case hyn90 => (intro z hSw; (try dsimp only at hSw); go_simp; (try with_reducible rfl))
      try simp only [Act.put, List.setIfInBounds_toArray, List.set_cons_zero, List.set_cons_succ]
      refine wpAnyH_ready (rs := [12]) (by kernel_rfl) (by simp) ?_
      refine AllReadyH.cons (o := ?on91) ?hin91 ?restn91 AllReadyH.nil
      case hin91 => (simp only [List.getElem?_toArray, List.getElem?_cons_succ, List.getElem?_cons_zero]; exact rfl)
      intro K hK
      go_simp
      go_at_call 41
      refine (KI.out _ (by repeat (first | with_reducible assumption | with_reducible refine Grew.alloc ?_ _ | with_reducible refine Grew.drew ?_ | with_reducible refine Grew.drewN ?_ _))).mono ?_
      rintro e wi ⟨rfl, hgi⟩
      have gwi : Grew w wi := Grew.trans (by repeat (first | with_reducible assumption | with_reducible refine Grew.alloc ?_ _ | with_reducible refine Grew.drew ?_ | with_reducible refine Grew.drewN ?_ _)) hgi
      have mwi : Grew wb wi := Grew.trans (by repeat (first | with_reducible assumption | with_reducible refine Grew.alloc ?_ _ | with_reducible refine Grew.drew ?_ | with_reducible refine Grew.drewN ?_ _)) hgi
      refine hK.out _ _ ?_ (fun hHeld => ?_)
      · (try dsimp only); first | with_reducible assumption | exact Grew.alloc ‹_› _
      clear hK K
      try simp only [Act.put, List.setIfInBounds_toArray, List.set_cons_zero, List.set_cons_succ]
      refine wpAnyH_take (i := 13) (oi := ?on92) (v := ?vn92) ?hin92 ?an92 ?bn92 ?cn92 ?qn92 (Or.inl ⟨?dn92, ?hyn92⟩) hHeld ?restn92
      case hin92 => (simp only [List.getElem?_toArray, List.getElem?_cons_succ, List.getElem?_cons_zero]; exact rfl)
      case an92 => kernel_rfl
      case bn92 => kernel_rfl
      case cn92 => kernel_rfl
      case qn92 => exact fun _ _ _ h => h
      case dn92 => rfl
      case hyn92 => (intro z hSw; (try dsimp only at hSw); go_simp; (try with_reducible rfl))
      try simp only [Act.put, List.setIfInBounds_toArray, List.set_cons_zero, List.set_cons_succ]
      refine wpAnyH_take (i := 14) (oi := ?on93) (v := ?vn93) ?hin93 ?an93 ?bn93 ?cn93 ?qn93 (Or.inl ⟨?dn93, ?hyn93⟩) hHeld ?restn93
      case hin93 => (simp only [List.getElem?_toArray, List.getElem?_cons_succ, List.getElem?_cons_zero]; exact rfl)
      case an93 => kernel_rfl
      case bn93 => kernel_rfl
      case cn93 => kernel_rfl
      case qn93 => exact fun _ _ _ h => h
      case dn93 => rfl
      case hyn93 => (intro z hSw; (try dsimp only at hSw); go_simp; (try with_reducible rfl))
      try simp only [Act.put, List.setIfInBounds_toArray, List.set_cons_zero, List.set_cons_succ]
      refine wpAnyH_take (i := 15) (oi := ?on94) (v := ?vn94) ?hin94 ?an94 ?bn94 ?cn94 ?qn94 (Or.inl ⟨?dn94, ?hyn94⟩) hHeld ?restn94
      case hin94 => (simp only [List.getElem?_toArray, List.getElem?_cons_succ, List.getElem?_cons_zero]; exact rfl)
      case an94 => kernel_rfl
      case bn94 => kernel_rfl
      case cn94 => kernel_rfl
      case qn94 => exact fun _ _ _ h => h
      case dn94 => rfl
      case hyn94 => (intro z hSw; (try dsimp only at hSw); go_simp; (try with_reducible rfl))
      try simp only [Act.put, List.setIfInBounds_toArray, List.set_cons_zero, List.set_cons_succ]
      refine wpAnyH_take (i := 16) (oi := ?on95) ?hin95 ?an95 ?bn95 ?cn95 ?qn95 (Or.inr ⟨?dn95, rfl⟩) hHeld ?restn95
      case hin95 => (simp only [List.getElem?_toArray, List.getElem?_cons_succ, List.getElem?_cons_zero]; exact rfl)
      case an95 => kernel_rfl
      case bn95 => kernel_rfl
      case cn95 => kernel_rfl
      case qn95 => exact fun _ _ _ h => h
      case dn95 => rfl
      try simp only [Act.put, List.setIfInBounds_toArray, List.set_cons_zero, List.set_cons_succ]
      refine wpAnyH_take (i := 17) (oi := ?on96) ?hin96 ?an96 ?bn96 ?cn96 ?qn96 (Or.inr ⟨?dn96, rfl⟩) hHeld ?restn96
      case hin96 => (simp only [List.getElem?_toArray, List.getElem?_cons_succ, List.getElem?_cons_zero]; exact rfl)
      case an96 => kernel_rfl
      case bn96 => kernel_rfl
      case cn96 => kernel_rfl
      case qn96 => exact fun _ _ _ h => h
      case dn96 => rfl
      try simp only [Act.put, List.setIfInBounds_toArray, List.set_cons_zero, List.set_cons_succ]
      refine wpAnyH_take (i := 18) (oi := ?on97) ?hin97 ?an97 ?bn97 ?cn97 ?qn97 (Or.inr ⟨?dn97, rfl⟩) hHeld ?restn97
      case hin97 => (simp only [List.getElem?_toArray, List.getElem?_cons_succ, List.getElem?_cons_zero]; exact rfl)
      case an97 => kernel_rfl
      case bn97 => kernel_rfl
      case cn97 => kernel_rfl
      case qn97 => exact fun _ _ _ h => h
      case dn97 => rfl
      try simp only [Act.put, List.setIfInBounds_toArray, List.set_cons_zero, List.set_cons_succ]
      refine wpAnyH_take (i := 19) (oi := ?on98) ?hin98 ?an98 ?bn98 ?cn98 ?qn98 (Or.inr ⟨?dn98, rfl⟩) hHeld ?restn98
      case hin98 => (simp only [List.getElem?_toArray, List.getElem?_cons_succ, List.getElem?_cons_zero]; exact rfl)
      case an98 => kernel_rfl
      case bn98 => kernel_rfl
      case cn98 => kernel_rfl
      case qn98 => exact fun _ _ _ h => h
      case dn98 => rfl
      try simp only [Act.put, List.setIfInBounds_toArray, List.set_cons_zero, List.set_cons_succ]
      refine wpAnyH_take (i := 20) (oi := ?on99) ?hin99 ?an99 ?bn99 ?cn99 ?qn99 (Or.inr ⟨?dn99, rfl⟩) hHeld ?restn99
      case hin99 => (simp only [List.getElem?_toArray, List.getElem?_cons_succ, List.getElem?_cons_zero]; exact rfl)
      case an99 => kernel_rfl
      case bn99 => kernel_rfl
      case cn99 => kernel_rfl
      case qn99 => exact fun _ _ _ h => h
      case dn99 => rfl
      try simp only [Act.put, List.setIfInBounds_toArray, List.set_cons_zero, List.set_cons_succ]
      refine wpAnyH_take (i := 21) (oi := ?on100) ?hin100 ?an100 ?bn100 ?cn100 ?qn100 (Or.inr ⟨?dn100, rfl⟩) hHeld ?restn100
      case hin100 => (simp only [List.getElem?_toArray, List.getElem?_cons_succ, List.getElem?_cons_zero]; exact rfl)
      case an100 => kernel_rfl
      case bn100 => kernel_rfl
      case cn100 => kernel_rfl
      case qn100 => exact fun _ _ _ h => h
      case dn100 => rfl
      try simp only [Act.put, List.setIfInBounds_toArray, List.set_cons_zero, List.set_cons_succ]
      refine wpAnyH_take (i := 22) (oi := ?on101) ?hin101 ?an101 ?bn101 ?cn101 ?qn101 (Or.inr ⟨?dn101, rfl⟩) hHeld ?restn101
      case hin101 => (simp only [List.getElem?_toArray, List.getElem?_cons_succ, List.getElem?_cons_zero]; exact rfl)
      case an101 => kernel_rfl
      case bn101 => kernel_rfl
      case cn101 => kernel_rfl
      case qn101 => exact fun _ _ _ h => h
      case dn101 => rfl
      try simp only [Act.put, List.setIfInBounds_toArray, List.set_cons_zero, List.set_cons_succ]
      refine wpAnyH_take (i := 23) (oi := ?on102) ?hin102 ?an102 ?bn102 ?cn102 ?qn102 (Or.inr ⟨?dn102, rfl⟩) hHeld ?restn102
      case hin102 => (simp only [List.getElem?_toArray, List.getElem?_cons_succ, List.getElem?_cons_zero]; exact rfl)
      case an102 => kernel_rfl
      case bn102 => kernel_rfl
      case cn102 => kernel_rfl
      case qn102 => exact fun _ _ _ h => h
      case dn102 => rfl
      try simp only [Act.put, List.setIfInBounds_toArray, List.set_cons_zero, List.set_cons_succ]
      refine wpAnyH_take (i := 24) (oi := ?on103) ?hin103 ?an103 ?bn103 ?cn103 ?qn103 (Or.inr ⟨?dn103, rfl⟩) hHeld ?restn103
      case hin103 => (simp only [List.getElem?_toArray, List.getElem?_cons_succ, List.getElem?_cons_zero]; exact rfl)
      case an103 => kernel_rfl
      case bn103 => kernel_rfl
      case cn103 => kernel_rfl
      case qn103 => exact fun _ _ _ h => h
      case dn103 => rfl
      try simp only [Act.put, List.setIfInBounds_toArray, List.set_cons_zero, List.set_cons_succ]
      refine wpAnyH_take (i := 25) (oi := ?on104) (v := ?vn104) ?hin104 ?an104 ?bn104 ?cn104 ?qn104 (Or.inl ⟨?dn104, ?hyn104⟩) hHeld ?restn104
      case hin104 => (simp only [List.getElem?_toArray, List.getElem?_cons_succ, List.getElem?_cons_zero]; exact rfl)
      case an104 => kernel_rfl
      case bn104 => kernel_rfl
      case cn104 => kernel_rfl
      case qn104 => exact fun _ _ _ h => h
      case dn104 => rfl
      case hyn104 => (intro z hSw; (try dsimp only at hSw); go_simp; (try with_reducible rfl))
      try simp only [Act.put, List.setIfInBounds_toArray, List.set_cons_zero, List.set_cons_succ]
      refine wpAnyH_done (by kernel_rfl) ?_ _
      go_wp2_with fail
      go_ret
      exact ⟨rfl, (by repeat (first | with_reducible assumption | with_reducible refine Grew.alloc ?_ _ | with_reducible refine Grew.drew ?_ | with_reducible refine Grew.drewN ?_ _))⟩
  · rw [dcd_false (fun h => hn (hgl h).1.symm)]
    have en : ((x.2.1.length : Int) != cntJ x.1) = true := by simp; exact fun h => hn h.symm
    clear hgl hn HC HS HUP HTK HBL
    go_enter Tryz.func32, Tryz.ntmps32
    go_wp2_with fail
    rw [← hwb]
    clear hwb
    refine wp_region_held_drew (S := fun w' => Grew wb w') (by kernel_rfl) rbd (fun hHeld => ?_)
    refine wpAnyH_take (i := 0) (oi := ?on105) (v := ?vn105) ?hin105 ?an105 ?bn105 ?cn105 ?qn105 (Or.inl ⟨?dn105, ?hyn105⟩) hHeld ?restn105
    case hin105 => (simp only [List.getElem?_toArray, List.getElem?_cons_zero]; exact rfl)
    case an105 => kernel_rfl
    case bn105 => kernel_rfl
    case cn105 => kernel_rfl
    case qn105 => exact fun _ _ _ h => h
    case dn105 => rfl
    case hyn105 => (intro z hSw; (try dsimp only at hSw); go_simp; (try with_reducible rfl))
    try simp only [Act.put, List.setIfInBounds_toArray, List.set_cons_zero, List.set_cons_succ]
    refine wpAnyH_take (i := 1) (oi := ?on106) (v := ?vn106) ?hin106 ?an106 ?bn106 ?cn106 ?qn106 (Or.inl ⟨?dn106, ?hyn106⟩) hHeld ?restn106
    case hin106 => (simp only [List.getElem?_toArray, List.getElem?_cons_succ, List.getElem?_cons_zero]; exact rfl)
    case an106 => kernel_rfl
    case bn106 => kernel_rfl
    case cn106 => kernel_rfl
    case qn106 => exact fun _ _ _ h => h
    case dn106 => rfl
    case hyn106 => (intro z hSw; (try dsimp only at hSw); go_simp; (try with_reducible rfl))
    try simp only [Act.put, List.setIfInBounds_toArray, List.set_cons_zero, List.set_cons_succ]
    refine wpAnyH_take (i := 2) (oi := ?on107) (v := ?vn107) ?hin107 ?an107 ?bn107 ?cn107 ?qn107 (Or.inl ⟨?dn107, ?hyn107⟩) hHeld ?restn107
    case hin107 => (simp only [List.getElem?_toArray, List.getElem?_cons_succ, List.getElem?_cons_zero]; exact rfl)
    case an107 => kernel_rfl
    case bn107 => kernel_rfl
    case cn107 => kernel_rfl
    case qn107 => exact fun _ _ _ h => h
    case dn107 => rfl
    case hyn107 => (intro z hSw; (try dsimp only at hSw); go_simp; (try with_reducible rfl))
    try simp only [Act.put, List.setIfInBounds_toArray, List.set_cons_zero, List.set_cons_succ]
    refine wpAnyH_take (i := 3) (oi := ?on108) (v := ?vn108) ?hin108 ?an108 ?bn108 ?cn108 ?qn108 (Or.inl ⟨?dn108, ?hyn108⟩) hHeld ?restn108
    case hin108 => (simp only [List.getElem?_toArray, List.getElem?_cons_succ, List.getElem?_cons_zero]; exact rfl)
    case an108 => kernel_rfl
    case bn108 => kernel_rfl
    case cn108 => kernel_rfl
    case qn108 => exact fun _ _ _ h => h
    case dn108 => rfl
    case hyn108 => (intro z hSw; (try dsimp only at hSw); go_simp; (try with_reducible rfl))
    try simp only [Act.put, List.setIfInBounds_toArray, List.set_cons_zero, List.set_cons_succ]
    refine wpAnyH_take (i := 4) (oi := ?on109) (v := ?vn109) ?hin109 ?an109 ?bn109 ?cn109 ?qn109 (Or.inl ⟨?dn109, ?hyn109⟩) hHeld ?restn109
    case hin109 => (simp only [List.getElem?_toArray, List.getElem?_cons_succ, List.getElem?_cons_zero]; exact rfl)
    case an109 => kernel_rfl
    case bn109 => kernel_rfl
    case cn109 => kernel_rfl
    case qn109 => exact fun _ _ _ h => h
    case dn109 => rfl
    case hyn109 => (intro z hSw; (try dsimp only at hSw); go_simp; (try with_reducible rfl))
    try simp only [Act.put, List.setIfInBounds_toArray, List.set_cons_zero, List.set_cons_succ]
    refine wpAnyH_ready (rs := [5]) (by kernel_rfl) (by simp) ?_
    refine AllReadyH.cons (o := ?on110) ?hin110 ?restn110 AllReadyH.nil
    case hin110 => (simp only [List.getElem?_toArray, List.getElem?_cons_succ, List.getElem?_cons_zero]; exact rfl)
    intro K hK
    go_simp
    go_at_call 40
    refine (KN.out _).mono ?_
    rintro e wc ⟨rfl, hgc⟩
    have gwc : Grew w wc := Grew.trans (by repeat (first | with_reducible assumption | with_reducible refine Grew.alloc ?_ _ | with_reducible refine Grew.drew ?_ | with_reducible refine Grew.drewN ?_ _)) hgc
    have mwc : Grew wb wc := Grew.trans (by repeat (first | with_reducible assumption | with_reducible refine Grew.alloc ?_ _ | with_reducible refine Grew.drew ?_ | with_reducible refine Grew.drewN ?_ _)) hgc
    refine hK.out _ _ ?_ (fun hHeld => ?_)
    · (try dsimp only); first | with_reducible assumption | exact Grew.alloc ‹_› _
    clear hK K
    try simp only [Act.put, List.setIfInBounds_toArray, List.set_cons_zero, List.set_cons_succ]
    refine wpAnyH_take (i := 6) (oi := ?on111) (v := ?vn111) ?hin111 ?an111 ?bn111 ?cn111 ?qn111 (Or.inl ⟨?dn111, ?hyn111⟩) hHeld ?restn111
    case hin111 => (simp only [List.getElem?_toArray, List.getElem?_cons_succ, List.getElem?_cons_zero]; exact rfl)
    case an111 => kernel_rfl
    case bn111 => kernel_rfl
    case cn111 => kernel_rfl
    case qn111 => exact fun _ _ _ h => h
    case dn111 => rfl
    case hyn111 => (intro z hSw; (try dsimp only at hSw); go_simp; (try with_reducible rfl))
    try simp only [Act.put, List.setIfInBounds_toArray, List.set_cons_zero, List.set_cons_succ]
    refine wpAnyH_take (i := 7) (oi := ?on112) (v := ?vn112) ?hin112 ?an112 ?bn112 ?cn112 ?qn112 (Or.inl ⟨?dn112, ?hyn112⟩) hHeld ?restn112
    case hin112 => (simp only [List.getElem?_toArray, List.getElem?_cons_succ, List.getElem?_cons_zero]; exact rfl)
    case an112 => kernel_rfl
    case bn112 => kernel_rfl
    case cn112 => kernel_rfl
    case qn112 => exact fun _ _ _ h => h
    case dn112 => rfl
    case hyn112 => (intro z hSw; (try dsimp only at hSw); go_simp; (try with_reducible rfl))
    try simp only [Act.put, List.setIfInBounds_toArray, List.set_cons_zero, List.set_cons_succ]
    refine wpAnyH_take (i := 8) (oi := ?on113) ?hin113 ?an113 ?bn113 ?cn113 ?qn113 (Or.inr ⟨?dn113, rfl⟩) hHeld ?restn113
    case hin113 => (simp only [List.getElem?_toArray, List.getElem?_cons_succ, List.getElem?_cons_zero]; exact rfl)
    case an113 => kernel_rfl
    case bn113 => kernel_rfl
    case cn113 => kernel_rfl
    case qn113 => exact fun _ _ _ h => h
    case dn113 => rfl
    try simp only [Act.put, List.setIfInBounds_toArray, List.set_cons_zero, List.set_cons_succ]
    refine wpAnyH_take (i := 9) (oi := ?on114) ?hin114 ?an114 ?bn114 ?cn114 ?qn114 (Or.inr ⟨?dn114, rfl⟩) hHeld ?restn114
    case hin114 => (simp only [List.getElem?_toArray, List.getElem?_cons_succ, List.getElem?_cons_zero]; exact rfl)
    case an114 => kernel_rfl
    case bn114 => kernel_rfl
    case cn114 => kernel_rfl
    case qn114 => exact fun _ _ _ h => h
    case dn114 => rfl
    try simp only [Act.put, List.setIfInBounds_toArray, List.set_cons_zero, List.set_cons_succ]
    refine wpAnyH_take (i := 10) (oi := ?on115) ?hin115 ?an115 ?bn115 ?cn115 ?qn115 (Or.inr ⟨?dn115, rfl⟩) hHeld ?restn115
    case hin115 => (simp only [List.getElem?_toArray, List.getElem?_cons_succ, List.getElem?_cons_zero]; exact rfl)
    case an115 => kernel_rfl
    case bn115 => kernel_rfl
    case cn115 => kernel_rfl
    case qn115 => exact fun _ _ _ h => h
    case dn115 => rfl
    try simp only [Act.put, List.setIfInBounds_toArray, List.set_cons_zero, List.set_cons_succ]
    refine wpAnyH_take (i := 11) (oi := ?on116) ?hin116 ?an116 ?bn116 ?cn116 ?qn116 (Or.inr ⟨?dn116, rfl⟩) hHeld ?restn116
    case hin116 => (simp only [List.getElem?_toArray, List.getElem?_cons_succ, List.getElem?_cons_zero]; exact rfl)
    case an116 => kernel_rfl
    case bn116 => kernel_rfl
    case cn116 => kernel_rfl
    case qn116 => exact fun _ _ _ h => h
    case dn116 => rfl
    try simp only [Act.put, List.setIfInBounds_toArray, List.set_cons_zero, List.set_cons_succ]
    refine wpAnyH_take (i := 12) (oi := ?on117) ?hin117 ?an117 ?bn117 ?cn117 ?qn117 (Or.inr ⟨?dn117, rfl⟩) hHeld ?restn117
    case hin117 => (simp only [List.getElem?_toArray, List.getElem?_cons_succ, List.getElem?_cons_zero]; exact rfl)
    case an117 => kernel_rfl
    case bn117 => kernel_rfl
    case cn117 => kernel_rfl
    case qn117 => exact fun _ _ _ h => h
    case dn117 => rfl
    try simp only [Act.put, List.setIfInBounds_toArray, List.set_cons_zero, List.set_cons_succ]
    refine wpAnyH_take (i := 13) (oi := ?on118) ?hin118 ?an118 ?bn118 ?cn118 ?qn118 (Or.inr ⟨?dn118, rfl⟩) hHeld ?restn118
    case hin118 => (simp only [List.getElem?_toArray, List.getElem?_cons_succ, List.getElem?_cons_zero]; exact rfl)
    case an118 => kernel_rfl
    case bn118 => kernel_rfl
    case cn118 => kernel_rfl
    case qn118 => exact fun _ _ _ h => h
    case dn118 => rfl
    try simp only [Act.put, List.setIfInBounds_toArray, List.set_cons_zero, List.set_cons_succ]
    refine wpAnyH_take (i := 14) (oi := ?on119) (v := ?vn119) ?hin119 ?an119 ?bn119 ?cn119 ?qn119 (Or.inl ⟨?dn119, ?hyn119⟩) hHeld ?restn119
    case hin119 => (simp only [List.getElem?_toArray, List.getElem?_cons_succ, List.getElem?_cons_zero]; exact rfl)
    case an119 => kernel_rfl
    case bn119 => kernel_rfl
    case cn119 => kernel_rfl
    case qn119 => exact fun _ _ _ h => h
    case dn119 => rfl
    case hyn119 => (intro z hSw; (try dsimp only at hSw); go_simp; (try with_reducible rfl))
    try simp only [Act.put, List.setIfInBounds_toArray, List.set_cons_zero, List.set_cons_succ]
    refine wpAnyH_take (i := 15) (oi := ?on120) (v := ?vn120) ?hin120 ?an120 ?bn120 ?cn120 ?qn120 (Or.inl ⟨?dn120, ?hyn120⟩) hHeld ?restn120
    case hin120 => (simp only [List.getElem?_toArray, List.getElem?_cons_succ, List.getElem?_cons_zero]; exact rfl)
    case an120 => kernel_rfl
    case bn120 => kernel_rfl
    case cn120 => kernel_rfl
    case qn120 => exact fun _ _ _ h => h
    case dn120 => rfl
    case hyn120 => (intro z hSw; (try dsimp only at hSw); go_simp; (try with_reducible rfl))
    try simp only [Act.put, List.setIfInBounds_toArray, List.set_cons_zero, List.set_cons_succ]
    refine wpAnyH_take (i := 16) (oi := ?on121) ?hin121 ?an121 ?bn121 ?cn121 ?qn121 (Or.inr ⟨?dn121, rfl⟩) hHeld ?restn121
    case hin121 => (simp only [List.getElem?_toArray, List.getElem?_cons_succ, List.getElem?_cons_zero]; exact rfl)
    case an121 => kernel_rfl
    case bn121 => kernel_rfl
    case cn121 => kernel_rfl
    case qn121 => exact fun _ _ _ h => h
    case dn121 => rfl
    try simp only [Act.put, List.setIfInBounds_toArray, List.set_cons_zero, List.set_cons_succ]
    refine wpAnyH_take (i := 17) (oi := ?on122) ?hin122 ?an122 ?bn122 ?cn122 ?qn122 (Or.inr ⟨?dn122, rfl⟩) hHeld ?restn122
    case hin122 => (simp only [List.getElem?_toArray, List.getElem?_cons_succ, List.getElem?_cons_zero]; exact rfl)
    case an122 => kernel_rfl
    case bn122 => kernel_rfl
    case cn122 => kernel_rfl
    case qn122 => exact fun _ _ _ h => h
    case dn122 => rfl
    try simp only [Act.put, List.setIfInBounds_toArray, List.set_cons_zero, List.set_cons_succ]
    refine wpAnyH_take (i := 18) (oi := ?on123) ?hin123 ?an123 ?bn123 ?cn123 ?qn123 (Or.inr ⟨?dn123, rfl⟩) hHeld ?restn123
    case hin123 => (simp only [List.getElem?_toArray, List.getElem?_cons_succ, List.getElem?_cons_zero]; exact rfl)
    case an123 => kernel_rfl
    case bn123 => kernel_rfl
    case cn123 => kernel_rfl
    case qn123 => exact fun _ _ _ h => h
    case dn123 => rfl
    try simp only [Act.put, List.setIfInBounds_toArray, List.set_cons_zero, List.set_cons_succ]
    refine wpAnyH_take (i := 19) (oi := ?on124) ?hin124 ?an124 ?bn124 ?cn124 ?qn124 (Or.inr ⟨?dn124, rfl⟩) hHeld ?restn124
    case hin124 => (simp only [List.getElem?_toArray, List.getElem?_cons_succ, List.getElem?_cons_zero]; exact rfl)
    case an124 => kernel_rfl
    case bn124 => kernel_rfl
    case cn124 => kernel_rfl
    case qn124 => exact fun _ _ _ h => h
    case dn124 => rfl
    try simp only [Act.put, List.setIfInBounds_toArray, List.set_cons_zero, List.set_cons_succ]
    refine wpAnyH_take (i := 20) (oi := ?on125) ?hin125 ?an125 ?bn125 ?cn125 ?qn125 (Or.inr ⟨?dn125, rfl⟩) hHeld ?restn125
    case hin125 => (simp only [List.getElem?_toArray, List.getElem?_cons_succ, List.getElem?_cons_zero]; exact rfl)
    case an125 => kernel_rfl
    case bn125 => kernel_rfl
    case cn125 => kernel_rfl
    case qn125 => exact fun _ _ _ h => h
    case dn125 => rfl
    try simp only [Act.put, List.setIfInBounds_toArray, List.set_cons_zero, List.set_cons_succ]
    refine wpAnyH_take (i := 21) (oi := ?on126) ?hin126 ?an126 ?bn126 ?cn126 ?qn126 (Or.inr ⟨?dn126, rfl⟩) hHeld ?restn126
    case hin126 => (simp only [List.getElem?_toArray, List.getElem?_cons_succ, List.getElem?_cons_zero]; exact rfl)
    case an126 => kernel_rfl
    case bn126 => kernel_rfl
    case cn126 => kernel_rfl
    case qn126 => exact fun _ _ _ h => h
    case dn126 => rfl
    try simp only [Act.put, List.setIfInBounds_toArray, List.set_cons_zero, List.set_cons_succ]
    refine wpAnyH_take (i := 22) (oi := ?on127) ?hin127 ?an127 ?bn127 ?cn127 ?qn127 (Or.inr ⟨?dn127, rfl⟩) hHeld ?restn127
    case hin127 => (simp only [List.getElem?_toArray, List.getElem?_cons_succ, List.getElem?_cons_zero]; exact rfl)
    case an127 => kernel_rfl
    case bn127 => kernel_rfl
    case cn127 => kernel_rfl
    case qn127 => exact fun _ _ _ h => h
    case dn127 => rfl
    try simp only [Act.put, List.setIfInBounds_toArray, List.set_cons_zero, List.set_cons_succ]
    refine wpAnyH_take (i := 23) (oi := ?on128) ?hin128 ?an128 ?bn128 ?cn128 ?qn128 (Or.inr ⟨?dn128, rfl⟩) hHeld ?restn128
    case hin128 => (simp only [List.getElem?_toArray, List.getElem?_cons_succ, List.getElem?_cons_zero]; exact rfl)
    case an128 => kernel_rfl
    case bn128 => kernel_rfl
    case cn128 => kernel_rfl
    case qn128 => exact fun _ _ _ h => h
    case dn128 => rfl
    try simp only [Act.put, List.setIfInBounds_toArray, List.set_cons_zero, List.set_cons_succ]
    refine wpAnyH_take (i := 24) (oi := ?on129) ?hin129 ?an129 ?bn129 ?cn129 ?qn129 (Or.inr ⟨?dn129, rfl⟩) hHeld ?restn129
    case hin129 => (simp only [List.getElem?_toArray, List.getElem?_cons_succ, List.getElem?_cons_zero]; exact rfl)
    case an129 => kernel_rfl
    case bn129 => kernel_rfl
    case cn129 => kernel_rfl
    case qn129 => exact fun _ _ _ h => h
    case dn129 => rfl
    try simp only [Act.put, List.setIfInBounds_toArray, List.set_cons_zero, List.set_cons_succ]
    refine wpAnyH_take (i := 25) (oi := ?on130) (v := ?vn130) ?hin130 ?an130 ?bn130 ?cn130 ?qn130 (Or.inl ⟨?dn130, ?hyn130⟩) hHeld ?restn130
    case hin130 => (simp only [List.getElem?_toArray, List.getElem?_cons_succ, List.getElem?_cons_zero]; exact rfl)
    case an130 => kernel_rfl
    case bn130 => kernel_rfl
    case cn130 => kernel_rfl
    case qn130 => exact fun _ _ _ h => h
    case dn130 => rfl
    case hyn130 => (intro z hSw; (try dsimp only at hSw); go_simp; (try with_reducible rfl))
    try simp only [Act.put, List.setIfInBounds_toArray, List.set_cons_zero, List.set_cons_succ]
    refine wpAnyH_done (by kernel_rfl) ?_ _
    go_wp2_with fail
    go_ret
    exact ⟨rfl, (by repeat (first | with_reducible assumption | with_reducible refine Grew.alloc ?_ _ | with_reducible refine Grew.drew ?_ | with_reducible refine Grew.drewN ?_ _))⟩
end Go.Proofs.YtkjmfkllmljdeaaGreat

/- l22Bad of the reference; isInferenceCount of the program. -/
namespace Go.Proofs.YtkjmfkllmljdeaaGreat
open Go.RowKit

theorem l22Bad_c (v : Value) (xs : List Jf) (w : World) (hv : Jfs w v xs) (hf : FitsJf xs) (hl : xs.length ≤ 1000) :
    Calls Tryz.prog 21 #[v] w fun e w' => e = .returned (.int .i64 (fbj xs xs.length)) ∧ Grew w w' := by
  obtain ⟨A, c, rfl⟩ := Jfs_slice hv
  have HV := Lib.hid hv
  have HF := Lib.hid hf
  clear hv hf
  go_enter Tryz.func21, Tryz.ntmps21
  go_wp2_with fail
  go_loopw [3] (fun i wr => ∃ j : Nat, j ≤ xs.length ∧ i = .int .i64 j ∧ Grew w wr ∧ Hid (fbj xs j = -1)) (fun i _ => xs.length - (intOf i).toNat)
  case atStart => exact ⟨0, Nat.zero_le _, rfl, Grew.refl _, Lib.hid rfl⟩
  case round =>
    obtain ⟨j, hj, rfl, hB, HJ⟩ := hrel
    by_cases hlt : j < xs.length
    · have hx : xs[j]? = some xs[j] := List.getElem?_eq_getElem hlt
      have hfx := HF.out _ (List.getElem_mem hlt)
      generalize xs[j] = x at hx hfx
      have KC := l22Correct_c (.slice A xs.length c) xs j x wr (HV.out.grew hB) hx hfx hl
      by_cases hg : goodJ (xs.take j) x
      · rw [dcd_true hg] at KC
        replace KC := Lib.hid KC
        have HN : Hid (fbj xs (j + 1) = -1) := Lib.hid (fbj_good HJ.out hx hg)
        clear hg hx
        go_wp2_with fail
        refine (KC.out).mono ?_
        rintro e w2 ⟨rfl, hg2⟩
        go_wp2_with fail
        go_roundw
        case rel => exact ⟨j + 1, by omega, by go_num, hB.trans hg2, HN⟩
        case measure => simp [intOf]; omega
      · rw [dcd_false hg] at KC
        replace KC := Lib.hid KC
        have HN : Hid (fbj xs xs.length = j) := Lib.hid (fbj_bad HJ.out (fun ⟨y, hy, hgy⟩ => hg (by rw [hx] at hy; cases hy; exact hgy)) hlt)
        clear hg hx
        go_wp2_with fail
        refine (KC.out).mono ?_
        rintro e w2 ⟨rfl, hg2⟩
        go_wp2_with fail
        go_ret
        exact ⟨congrArg (fun k => Ending.returned (Value.int .i64 k)) HN.out.symm, hB.trans hg2⟩
    · obtain rfl : j = xs.length := by omega
      go_wp2_with fail
      go_ret
      exact ⟨congrArg (fun k => Ending.returned (Value.int .i64 k)) HJ.out.symm, hB⟩

/-- What FirstBadInference answers. -/
noncomputable def fbF (xs : List Jf) : Int × Int := if xs.length = 0 ∨ 60 < xs.length then (0, 3) else (fbj xs xs.length, 0)
def GivesFb (w : World) (r : Int × Int) (e : Ending) (w' : World) : Prop := e = .returned (.tuple #[.int .i64 r.1, .int .i64 r.2]) ∧ Grew w w'
theorem isInferenceCount_c (A : Option Addr) (n c : Nat) (w : World) :
    Calls Tryz.prog 23 #[.slice A n c] w fun e w' => e = .returned (.bool (decide (n ≠ 0 ∧ n ≤ 60))) ∧ Grew w w' := by
  by_cases h0 : n = 0
  · subst h0
    go_enter Tryz.func23, Tryz.ntmps23
    go_wp2_with fail
    go_ret
    exact ⟨rfl, Grew.refl _⟩
  · have h1 : (1 : Int) ≤ (n : Int) := by omega
    by_cases h2 : n ≤ 60
    · rw [decide_eq_true ⟨h0, h2⟩]
      have h3 : (n : Int) ≤ 60 := by omega
      clear h0 h2
      go_enter Tryz.func23, Tryz.ntmps23
      go_wp2_with fail
      go_ret
      exact ⟨rfl, Grew.refl _⟩
    · rw [decide_eq_false (fun h => h2 h.2)]
      have h3 : ¬ (n : Int) ≤ 60 := by omega
      clear h0 h2
      go_enter Tryz.func23, Tryz.ntmps23
      go_wp2_with fail
      go_ret
      exact ⟨rfl, Grew.refl _⟩
end Go.Proofs.YtkjmfkllmljdeaaGreat

/- FirstBadInference of both sides. -/
namespace Go.Proofs.YtkjmfkllmljdeaaGreat
open Go.RowKit

theorem implFb_c (v : Value) (xs : List Jf) (w : World) (hv : Jfs w v xs) (hf : FitsJf xs) (_hn : xs.length ≤ 1048576) :
    Calls Tryz.prog 9 #[v] w (GivesFb w (fbF xs)) := by
  unfold GivesFb fbF
  obtain ⟨A, c, rfl⟩ := Jfs_slice hv
  have KD := isInferenceCount_c A xs.length c w
  by_cases hb : xs.length = 0 ∨ 60 < xs.length
  · rw [if_pos hb]
    rw [decide_eq_false (fun h => by omega)] at KD
    clear hv hf hb
    replace KD := Lib.hid KD
    go_enter Tryz.func9, Tryz.ntmps9
    go_wp2_with fail
    refine (KD.out).mono ?_
    rintro e w1 ⟨rfl, hg1⟩
    go_wp2_with fail
    go_ret2
    exact ⟨rfl, hg1⟩
  · rw [if_neg hb]
    rw [decide_eq_true (by omega)] at KD
    have KF := Lib.hid (fun W (hW : Grew w W) => firstBadInference_c (.slice A xs.length c) xs W (hv.grew hW) hf (by omega))
    clear hv hf hb
    generalize fbj xs xs.length = R at *
    replace KD := Lib.hid KD
    go_enter Tryz.func9, Tryz.ntmps9
    go_wp2_with fail
    refine (KD.out).mono ?_
    rintro e w1 ⟨rfl, hg1⟩
    go_wp2_with fail
    refine (KF.out _ hg1).mono ?_
    rintro e w2 ⟨rfl, hg2⟩
    go_wp2_with fail
    go_ret2
    exact ⟨rfl, hg1.trans hg2⟩

theorem specFb_c (v : Value) (xs : List Jf) (w : World) (hv : Jfs w v xs) (hf : FitsJf xs) (_hn : xs.length ≤ 1048576) :
    Calls Tryz.prog 7 #[v] w (GivesFb w (fbF xs)) := by
  unfold GivesFb fbF
  obtain ⟨A, c, rfl⟩ := Jfs_slice hv
  have KI := fun W => l01In_c (xs.length : Int) 1 60 W
  by_cases h0 : xs.length = 0 ∨ 60 < xs.length
  · rw [if_pos h0]
    rw [decide_eq_false (by omega)] at KI
    replace KI := Lib.hid KI
    clear hv hf h0
    generalize xs.length = n at *
    go_enter Tryz.func7, Tryz.ntmps7
    go_wp2_with fail
    refine (KI.out _).mono ?_
    rintro e w1 ⟨rfl, hg1⟩
    go_wp2_with fail
    go_ret2
    exact ⟨rfl, hg1⟩
  · rw [if_neg h0]
    rw [decide_eq_true (by omega)] at KI
    replace KI := Lib.hid KI
    have KF := Lib.hid (fun W (hW : Grew w W) => l22Bad_c (.slice A xs.length c) xs W (hv.grew hW) hf (by omega))
    clear hv hf h0
    generalize fbj xs xs.length = R at *
    generalize xs.length = n at *
    go_enter Tryz.func7, Tryz.ntmps7
    go_wp2_with fail
    refine (KI.out _).mono ?_
    rintro e w1 ⟨rfl, hg1⟩
    go_wp2_with fail
    refine (KF.out _ hg1).mono ?_
    rintro e w2 ⟨rfl, hg2⟩
    go_wp2_with fail
    go_ret2
    exact ⟨rfl, hg1.trans hg2⟩
end Go.Proofs.YtkjmfkllmljdeaaGreat

/- The laws' own helpers on slices of int64: toInt64S, eqInt64S, markInt64S, heldInt64S. -/
namespace Go.Proofs.YtkjmfkllmljdeaaGreat
open Go.RowKit

theorem toInt64S_c (v : Value) (L : List Int) (w : World) (h : ArgI w v L) (hn : L.length ≤ 1048576) :
    Calls Tryz.prog 33 #[v] w (GivesI w L) := by
  obtain ⟨⟨A, c, rfl, hmax⟩, hS⟩ := h
  have hmk := run_make_row' (P := Tryz.prog) 30 2 (.int .i64 0) 8 Tryz.underlying30 Tryz.infoI rfl .i64 .i64 L.length (by omega) (by omega)
  have hend : ∀ cur w', w'.heap[w.heap.size]? = some (.cells cur 2 (0, 0)) → cur.size = L.length → (∀ i, i < L.length → cur[i]? = some (.int .i64 (it L i))) → OwnI w' w.heap.size (.slice (some ⟨w.heap.size, 0, none⟩) L.length L.length) L :=
    fun cur w' h1 h2 h3 => OwnI.mk_ (Nat.le_refl _) h1 (Nat.le_refl _) (by omega) h2 h3
  have HE := Lib.hid hend
  clear hend
  have hsz : (madeCells #[Value.int .i64 0] L.length).size = L.length := by simp [madeCells]
  have hnew := blk_new w (.cells (madeCells #[Value.int .i64 0] L.length) 2)
  have hal := (Grew.refl w).alloc (.cells (madeCells #[Value.int .i64 0] L.length) 2)
  generalize madeCells #[Value.int .i64 0] L.length = cur0 at *
  by_cases hp : 0 < L.length
  · rcases (hS hp).open_ with ⟨_, h2⟩ | ⟨b, o, c', hv, hc, hm, hb, hcell⟩
    · rw [h2] at hp; cases hp
    obtain ⟨rfl, rfl⟩ : A = some ⟨b, o, none⟩ ∧ c = c' := by simpa using hv
    clear hS hv
    have HC := Lib.hid hcell
    clear hcell
    generalize hN : L.length = n at *
    clear hN
    have HNEW := Lib.hid hnew
    clear hnew
    have HAL := Lib.hid hal
    clear hal
    go_enter Tryz.func33, Tryz.ntmps33
    go_wp2_with fail
    go_loopw [4] (fun i wr => ∃ (j : Nat) (cur : Array Value), j ≤ n ∧ i = .int .i64 j ∧ wr.heap[w.heap.size]? = some (.cells cur 2 (0, 0)) ∧ cur.size = n ∧ Grew w wr ∧ (∀ i, i < j → cur[i]? = some (.int .i64 (it L i)))) (fun i _ => n - (intOf i).toNat)
    case atStart => exact ⟨0, cur0, Nat.zero_le _, rfl, HNEW.out, hsz, HAL.out, fun i hi => absurd hi (by omega)⟩
    case round =>
      obtain ⟨j, cur, hj, rfl, hh, hcs, hB, hc2⟩ := hrel
      have HD := Lib.hid hc2
      clear hc2
      by_cases hlt : j < n
      · have k1 := HC.out j hlt _ hB
        have HS := Lib.hid (one_stepI (F := fun i => .int .i64 (it L i)) (j := j) (by omega) HD.out)
        have f1 : ∀ i, wr.frozen? ⟨w.heap.size, i, none⟩ = false := fun i => by simp [World.frozen?, hh]
        obtain ⟨u1, hu1⟩ : ∃ u, wr.cell? ⟨w.heap.size, 0 + j, none⟩ = some u := by
          rw [cell_of_row wr w.heap.size _ cur _ (0, 0) hh]
          exact ⟨_, Array.getElem?_eq_getElem (by omega)⟩
        simp only [Nat.zero_add] at hu1
        have HH := Lib.hid hh
        clear hh
        generalize it L j = x at *
        go_wp2_with fail
        go_roundw
        case rel => exact ⟨j + 1, _, by omega, by go_num, blk_set HH.out _ _, by simp [hcs], hB.setCell (Nat.le_refl _) _, HS.out⟩
        case measure => simp [intOf]; omega
      · obtain rfl : j = n := by omega
        have HH := Lib.hid hh
        clear hh
        go_wp2_with fail
        go_ret
        exact ⟨_, rfl, HE.out _ _ HH.out hcs HD.out, hB⟩
  · have hp0 : L.length ≤ 0 := by omega
    have HNEW := Lib.hid hnew
    clear hnew hS hp
    have HAL := Lib.hid hal
    clear hal
    generalize hN : L.length = n at *
    clear hN
    go_enter Tryz.func33, Tryz.ntmps33
    go_wp2_with fail
    refine wp_loop_rounds 1 ?_; rw [rounds_succ]
    go_wp2_with fail
    go_ret
    exact ⟨_, rfl, HE.out _ _ HNEW.out hsz (fun i hi => absurd hi (by omega)), HAL.out⟩
end Go.Proofs.YtkjmfkllmljdeaaGreat

/- Two lists of int64 that are equal: eqInt64S. -/
namespace Go.Proofs.YtkjmfkllmljdeaaGreat
open Go.RowKit

/-- Two lists of numbers that are equal. -/
theorem eqInt64S_yes (v1 v2 : Value) (L : List Int) (w : World) (h1 : Ints w v1 L) (h2 : Ints w v2 L) (hn : L.length ≤ 1099511627776) :
    Calls Tryz.prog 15 #[v1, v2] w fun e w' => e = .returned (.bool true) ∧ Grew w w' := by
  rcases h1.open_ with ⟨rfl, rfl⟩ | ⟨b1, o1, c1, rfl, hc1, hm1, hb1, hf⟩
  · obtain ⟨A, c, rfl⟩ := ints_slice h2
    go_enter Tryz.func15, Tryz.ntmps15
    go_wp2_with fail
    refine wp_loop_rounds 1 ?_; rw [rounds_succ]
    go_wp2_with fail
    go_ret
    exact ⟨rfl, Grew.refl _⟩
  · rcases h2.open_ with ⟨rfl, rfl⟩ | ⟨b2, o2, c2, rfl, hc2, hm2, hb2, hh⟩
    · go_enter Tryz.func15, Tryz.ntmps15
      go_wp2_with fail
      refine wp_loop_rounds 1 ?_; rw [rounds_succ]
      go_wp2_with fail
      go_ret
      exact ⟨rfl, Grew.refl _⟩
    · clear h1 h2
      have HF := Lib.hid hf
      have HH := Lib.hid hh
      clear hf hh
      generalize hN : L.length = n at *
      clear hN
      go_enter Tryz.func15, Tryz.ntmps15
      go_wp2_with fail
      go_loopw [5] (fun i wr => ∃ j : Nat, j ≤ n ∧ i = .int .i64 j ∧ Grew w wr) (fun i _ => n - (intOf i).toNat)
      case atStart => exact ⟨0, Nat.zero_le _, rfl, Grew.refl _⟩
      case round =>
        obtain ⟨j, hj, rfl, hB⟩ := hrel
        by_cases hlt : j < n
        · have k1 : ∀ W, Grew w W → W.cell? ⟨b1, o1 + j, none⟩ = some (.int .i64 (it L j)) := fun W hW => HF.out j hlt W hW
          have k2 : ∀ W, Grew w W → W.cell? ⟨b2, o2 + j, none⟩ = some (.int .i64 (it L j)) := fun W hW => HH.out j hlt W hW
          have k3 := k1 _ hB
          have k4 := k2 _ hB
          generalize it L j = x at *
          have hx : (x != x) = false := by simp
          go_wp2_with fail
          go_quiet (fail)
          go_wp2_with fail
          go_roundw
          case rel => exact ⟨j + 1, by omega, by go_num, by first | assumption | exact hB.drewN _⟩
          case measure => simp [intOf]; omega
        · go_wp2_with fail
          go_ret
          exact ⟨rfl, by assumption⟩
end Go.Proofs.YtkjmfkllmljdeaaGreat

/- make of rows of elements of several cells; the blocks of three allocations. -/
namespace Go.Proofs.YtkjmfkllmljdeaaGreat
open Go.RowKit

theorem run_make_rows {P : Program} (t e : TypeId) (z : Value) (size bytes : Nat) (zs : Array Value) (ht : P.underlying t = some (.slice e)) (hinfo : (P.info? e).map (fun i => (i.zero, i.size, i.bytes)) = some (some z, size, bytes)) (hzs : z.cells = zs)
    (kl kc : IntKind) (n : Nat) (hbytes : bytes * n ≤ 281474976710656) (h63 : n ≤ 9223372036854775807) (w : World) :
    (Instr.makeSlice t (.int kl (n : Int)) (.int kc (n : Int))).run P w = .ok (.slice (some ⟨w.heap.size, 0, none⟩) n n) (w.alloc (.cells (madeCells zs (n * size)) e)) := by
  obtain ⟨i, hi, hz, hs, hb⟩ := info_parts hinfo
  have hb' : (i.bytes : Int) * (n : Int) ≤ 281474976710656 := by
    rw [hb]
    have h : ((bytes * n : Nat) : Int) ≤ 281474976710656 := by omega
    rwa [Int.natCast_mul] at h
  have hr := run_make (P := P) w t e i z ht hi hz kl kc n n (by omega) (Int.le_refl _) hb' (by omega)
  simp only [Int.toNat_natCast, hs, hzs] at hr
  exact hr

theorem blk3_mid (w : World) (a b c : Obj) : (((w.alloc a).alloc b).alloc c).heap[w.heap.size + 1]? = some b := by
  have h := blk_new (w.alloc a) b
  have e : (w.alloc a).heap.size = w.heap.size + 1 := by simp
  rw [e] at h
  have h2 := ((Grew.refl ((w.alloc a).alloc b)).alloc c).block (k := w.heap.size + 1) (by simp)
  rw [h2, h]
end Go.Proofs.YtkjmfkllmljdeaaGreat

/- The laws' own helpers on slices of inferences: toInferenceS, eqInferenceS. -/
namespace Go.Proofs.YtkjmfkllmljdeaaGreat
open Go.RowKit

theorem blk3_all (w : World) (a b c : Obj) : (((w.alloc a).alloc b).alloc c).heap[w.heap.size]? = some a ∧ (((w.alloc a).alloc b).alloc c).heap[w.heap.size + 1]? = some b ∧ (((w.alloc a).alloc b).alloc c).heap[w.heap.size + 1 + 1]? = some c := by
  refine ⟨?_, blk3_mid w a b c, ?_⟩
  · have h := (((Grew.refl (w.alloc a)).alloc b).alloc c).block (k := w.heap.size) (by simp)
    rw [h]; exact blk_new w a
  · have h := blk_new ((w.alloc a).alloc b) c
    have e : ((w.alloc a).alloc b).heap.size = w.heap.size + 1 + 1 := by simp
    rwa [e] at h

theorem own_set {w : World} {B b i : Nat} {e : TypeId} {k n : Nat} {v u : Value} {xs : List Value} (h : w.ownsRow B e k v n xs) (hb : b < B) : (w.setCell ⟨b, i, none⟩ u).ownsRow B e k v n xs :=
  own_only h ((Only.refl b w).setCell u) (fun hh => by have := own_of_ge h hh; omega)

set_option maxHeartbeats 1000000 in
theorem toInference_c (x : Jf) (up ua : Value) (w : World) (hp : ArgI w up x.2.1) (hs : ArgS w ua x.2.2.1) (n1 : x.2.1.length ≤ 1048576) (n2 : x.2.2.1.length ≤ 1048576) :
    Calls Tryz.prog 22 #[.agg #[.int .i64 x.1, up, ua, .string x.2.2.2.1, .string x.2.2.2.2]] w fun e w' => ∃ vp va, e = .returned (.agg #[.int .i64 x.1, vp, va, .string x.2.2.2.1, .string x.2.2.2.2]) ∧ OwnI w' w.heap.size vp x.2.1 ∧ OwnS w' w.heap.size va x.2.2.1 ∧ Grew w w' := by
  have KI := Lib.hid (fun W (hW : Grew w W) => toInt64S_c up x.2.1 W (hp.grew hW) n1)
  have KS := Lib.hid (fun W (hW : Grew w W) => toStringS_c ua x.2.2.1 W (hs.grew hW) n2)
  obtain ⟨⟨A, c, rfl, hm1⟩, _⟩ := hp
  obtain ⟨⟨A2, c2, rfl, hm2⟩, _, _⟩ := hs
  clear n1 n2
  obtain ⟨r0, P, S, C, N⟩ := x
  simp only at *
  generalize hpl : P.length = pl at *
  generalize hsl : S.length = sl at *
  replace hpl := Lib.hid hpl
  replace hsl := Lib.hid hsl
  have hal := (((Grew.refl w).alloc (.cells #[.int .i64 r0, .slice A pl c, .slice A2 sl c2, .string C, .string N] 39)).alloc (.cells #[.int .i64 0, .slice none 0 0, .slice none 0 0, .string ByteArray.empty, .string ByteArray.empty] 42)).alloc (.cells #[.int .i64 r0, .slice none 0 0, .slice none 0 0, .string ByteArray.empty, .string ByteArray.empty] 42)
  go_enter Tryz.func22, Tryz.ntmps22
  go_wp2_with fail
  refine (KI.out _ hal).mono ?_
  rintro e w1 ⟨vp, rfl, hop, hg1⟩
  obtain ⟨VA, vc, rfl⟩ := ints_slice hop.ints
  rw [hpl.out] at hop ⊢
  have hW0 : (((w.alloc (.cells #[.int .i64 r0, .slice A pl c, .slice A2 sl c2, .string C, .string N] 39)).alloc (.cells #[.int .i64 0, .slice none 0 0, .slice none 0 0, .string ByteArray.empty, .string ByteArray.empty] 42)).alloc (.cells #[.int .i64 r0, .slice none 0 0, .slice none 0 0, .string ByteArray.empty, .string ByteArray.empty] 42)).heap.size = w.heap.size + 3 := by simp
  rw [hW0] at hop
  have hz1 := hg1.size
  rw [hW0] at hz1
  have hb1 : w1.heap[w.heap.size + 1 + 1]? = some (.cells #[.int .i64 r0, .slice none 0 0, .slice none 0 0, .string ByteArray.empty, .string ByteArray.empty] 42 (0, 0)) := (hg1.block (k := w.heap.size + 1 + 1) (by rw [hW0]; omega)).trans (blk3_all w _ _ _).2.2
  have hr1 : w1.heap[w.heap.size + 1]? = some (.cells #[.int .i64 0, .slice none 0 0, .slice none 0 0, .string ByteArray.empty, .string ByteArray.empty] 42 (0, 0)) := (hg1.block (k := w.heap.size + 1) (by rw [hW0]; omega)).trans (blk3_all w _ _ _).2.1
  have ha1 : w1.heap[w.heap.size]? = some (.cells #[.int .i64 r0, .slice A pl c, .slice A2 sl c2, .string C, .string N] 39 (0, 0)) := (hg1.block (k := w.heap.size) (by rw [hW0]; omega)).trans (blk3_all w _ _ _).1
  have f1 : w1.cell? ⟨w.heap.size + 1 + 1, 1, none⟩ = some (.slice none 0 0) := (blk_cell hb1 1).trans rfl
  have f2 : w1.frozen? ⟨w.heap.size + 1 + 1, 1, none⟩ = false := blk_frozen hb1 1
  have f3 : w1.cell? ⟨w.heap.size, 2, none⟩ = some (.slice A2 sl c2) := (blk_cell ha1 2).trans rfl
  have hO1 : Only (w.heap.size + 1 + 1) w1 (w1.setCell ⟨w.heap.size + 1 + 1, 1, none⟩ (.slice VA pl vc)) := (Only.refl _ _).setCell _
  have hop2 : OwnI (w1.setCell ⟨w.heap.size + 1 + 1, 1, none⟩ (.slice VA pl vc)) (w.heap.size + 3) (.slice VA pl vc) P := own_only hop hO1 (fun h => by have := own_of_ge hop h; omega)
  have gW2 : Grew w (w1.setCell ⟨w.heap.size + 1 + 1, 1, none⟩ (.slice VA pl vc)) := (hal.trans hg1).setCell (by show w.heap.size ≤ w.heap.size + 1 + 1; omega) _
  have HB2 := Lib.hid (blk_set hb1 1 (.slice VA pl vc))
  have HR2 : Hid ((w1.setCell ⟨w.heap.size + 1 + 1, 1, none⟩ (.slice VA pl vc)).heap[w.heap.size + 1]? = some (.cells #[.int .i64 0, .slice none 0 0, .slice none 0 0, .string ByteArray.empty, .string ByteArray.empty] 42 (0, 0))) := Lib.hid ((hO1.block (k := w.heap.size + 1) (by omega) (by omega)).trans hr1)
  have HA2 : Hid ((w1.setCell ⟨w.heap.size + 1 + 1, 1, none⟩ (.slice VA pl vc)).heap[w.heap.size]? = some (.cells #[.int .i64 r0, .slice A pl c, .slice A2 sl c2, .string C, .string N] 39 (0, 0))) := Lib.hid ((hO1.block (k := w.heap.size) (by omega) (by omega)).trans ha1)
  have HOP := Lib.hid hop2
  clear hop hop2 hb1 hr1 ha1 hO1 hW0
  go_wp2_with fail
  refine (KS.out _ gW2).mono ?_
  rintro e w2 ⟨va, rfl, hos, hg2⟩
  obtain ⟨WA, wc, rfl⟩ := strs_slice hos.strs
  rw [hsl.out] at hos ⊢
  have hz2 : w.heap.size + 3 ≤ w2.heap.size := by have := hg2.size; simp [World.setCell] at this; omega
  have hz3 : (w1.setCell ⟨w.heap.size + 1 + 1, 1, none⟩ (.slice VA pl vc)).heap.size = w1.heap.size := by simp [World.setCell]
  have hb2 := (hg2.block (k := w.heap.size + 1 + 1) (by rw [hz3]; omega)).trans HB2.out
  have hr2 := (hg2.block (k := w.heap.size + 1) (by rw [hz3]; omega)).trans HR2.out
  have ha2 := (hg2.block (k := w.heap.size) (by rw [hz3]; omega)).trans HA2.out
  have k3 : w2.cell? ⟨w.heap.size, 3, none⟩ = some (.string C) := (blk_cell ha2 3).trans rfl
  have k4 : w2.cell? ⟨w.heap.size, 4, none⟩ = some (.string N) := (blk_cell ha2 4).trans rfl
  have o0 : w2.cell? ⟨w.heap.size + 1 + 1, 0, none⟩ = some (.int .i64 r0) := (blk_cell hb2 0).trans rfl
  have o1 : w2.cell? ⟨w.heap.size + 1 + 1, 1, none⟩ = some (.slice VA pl vc) := (blk_cell hb2 1).trans rfl
  have o2 : w2.cell? ⟨w.heap.size + 1 + 1, 2, none⟩ = some (.slice none 0 0) := (blk_cell hb2 2).trans rfl
  have o3 : w2.cell? ⟨w.heap.size + 1 + 1, 3, none⟩ = some (.string ByteArray.empty) := (blk_cell hb2 3).trans rfl
  have o4 : w2.cell? ⟨w.heap.size + 1 + 1, 4, none⟩ = some (.string ByteArray.empty) := (blk_cell hb2 4).trans rfl
  have q0 : w2.cell? ⟨w.heap.size + 1, 0, none⟩ = some (.int .i64 0) := (blk_cell hr2 0).trans rfl
  have q1 : w2.cell? ⟨w.heap.size + 1, 1, none⟩ = some (.slice none 0 0) := (blk_cell hr2 1).trans rfl
  have q2 : w2.cell? ⟨w.heap.size + 1, 2, none⟩ = some (.slice none 0 0) := (blk_cell hr2 2).trans rfl
  have q3 : w2.cell? ⟨w.heap.size + 1, 3, none⟩ = some (.string ByteArray.empty) := (blk_cell hr2 3).trans rfl
  have q4 : w2.cell? ⟨w.heap.size + 1, 4, none⟩ = some (.string ByteArray.empty) := (blk_cell hr2 4).trans rfl
  have y1 : ∀ i, w2.frozen? ⟨w.heap.size + 1 + 1, i, none⟩ = false := fun i => blk_frozen hb2 i
  have y2 : ∀ i, w2.frozen? ⟨w.heap.size + 1, i, none⟩ = false := fun i => blk_frozen hr2 i
  have HOS := Lib.hid hos
  have HR := Lib.hid hr2
  have HOPG := Lib.hid (HOP.out.grew hg2)
  have gW := gW2.trans hg2
  clear hb2 hr2 ha2 hos f1 f2 f3
  go_wp2_with fail
  (try simp only [Exit.inBlock, Exit.then])
  have hinfo : (Tryz.prog.info? 42).map (·.size) = some 5 := by kernel_rfl
  refine bodyPost_ret (results_cell_row rfl _ _ (w.heap.size + 1) 42 #[.int .i64 r0, .slice VA pl vc, .slice WA sl wc, .string C, .string N] (0, 0) _ rfl ?_ Tryz.underlying42 rfl hinfo) rfl ?_
  · simp [World.setCell, Array.getElem?_modify, HR.out]
  · refine ⟨_, _, rfl, ?_, ?_, ?_⟩
    · exact OwnI.base (B := w.heap.size + 3) (own_set (own_set (own_set (own_set (own_set (own_set (own_set (own_set HOPG.out (by omega)) (by omega)) (by omega)) (by omega)) (by omega)) (by omega)) (by omega)) (by omega)) (by omega)
    · exact OwnS.base (B := w.heap.size + 3) (own_set (own_set (own_set (own_set (own_set (own_set (own_set (own_set (HOS.out.base (B' := w.heap.size + 3) (by rw [hz3]; exact hz1)) (by omega)) (by omega)) (by omega)) (by omega)) (by omega)) (by omega)) (by omega)) (by omega)) (by omega)
    · have hq1 : w.heap.size ≤ w.heap.size + 1 := by omega
      have hq2 : w.heap.size ≤ w.heap.size + 1 + 1 := by omega
      exact (((((((gW.setCell hq2 _).setCell hq2 _).setCell hq2 _).setCell hq1 _).setCell hq1 _).setCell hq1 _).setCell hq1 _).setCell hq1 _
end Go.Proofs.YtkjmfkllmljdeaaGreat

/- The laws' own helpers on slices of Inferences: toInferenceS, eqInferenceS. -/
namespace Go.Proofs.YtkjmfkllmljdeaaGreat
open Go.RowKit

/-- Five cells are written. -/
theorem JfRow.keep {cur : Array Value} {i j : Nat} {x : Jf} {vp va a b c d e : Value} (h : JfRow cur (i * 5) x vp va) (hi : i < j) :
    JfRow (((((cur.setIfInBounds (j * 5) a).setIfInBounds (j * 5 + 1) b).setIfInBounds (j * 5 + 2) c).setIfInBounds (j * 5 + 3) d).setIfInBounds (j * 5 + 4) e) (i * 5) x vp va := by
  obtain ⟨h0, h1, h2, h3, h4⟩ := h
  unfold JfRow
  simp only [Array.getElem?_setIfInBounds, Array.size_setIfInBounds]
  refine ⟨?_, ?_, ?_, ?_, ?_⟩
  · rw [if_neg (by omega), if_neg (by omega), if_neg (by omega), if_neg (by omega), if_neg (by omega)]; exact h0
  · rw [if_neg (by omega), if_neg (by omega), if_neg (by omega), if_neg (by omega), if_neg (by omega)]; exact h1
  · rw [if_neg (by omega), if_neg (by omega), if_neg (by omega), if_neg (by omega), if_neg (by omega)]; exact h2
  · rw [if_neg (by omega), if_neg (by omega), if_neg (by omega), if_neg (by omega), if_neg (by omega)]; exact h3
  · rw [if_neg (by omega), if_neg (by omega), if_neg (by omega), if_neg (by omega), if_neg (by omega)]; exact h4
theorem JfRow.new {cur : Array Value} {j : Nat} (x : Jf) (vp va : Value) (hs : j * 5 + 4 < cur.size) :
    JfRow (((((cur.setIfInBounds (j * 5) (.int .i64 x.1)).setIfInBounds (j * 5 + 1) vp).setIfInBounds (j * 5 + 2) va).setIfInBounds (j * 5 + 3) (.string x.2.2.2.1)).setIfInBounds (j * 5 + 4) (.string x.2.2.2.2)) (j * 5) x vp va := by
  unfold JfRow
  simp only [Array.getElem?_setIfInBounds, Array.size_setIfInBounds]
  refine ⟨?_, ?_, ?_, ?_, ?_⟩
  · rw [if_neg (by omega), if_neg (by omega), if_neg (by omega), if_neg (by omega), if_pos trivial, if_pos (by omega)]
  · rw [if_neg (by omega), if_neg (by omega), if_neg (by omega), if_pos trivial, if_pos (by omega)]
  · rw [if_neg (by omega), if_neg (by omega), if_pos trivial, if_pos (by omega)]
  · rw [if_neg (by omega), if_pos trivial, if_pos (by omega)]
  · rw [if_pos trivial, if_pos (by omega)]
/-- The first j are written; their rows lie from block B on. -/
def JfDone (w : World) (B : Nat) (cur : Array Value) (xs : List Jf) (j : Nat) : Prop := ∀ i x, i < j → xs[i]? = some x → ∃ vp va, JfRow cur (i * 5) x vp va ∧ OwnI w B vp x.2.1 ∧ OwnS w B va x.2.2.1
theorem JfDone.own {w : World} {g : Nat} {cur : Array Value} {xs : List Jf} (h : JfDone w (g + 1) cur xs xs.length) (hg : w.heap[g]? = some (.cells cur 42 (0, 0))) (hs : cur.size = xs.length * 5) (hm : xs.length ≤ 9223372036854775807) : OwnJf w g (.slice (some ⟨g, 0, none⟩) xs.length xs.length) xs := by
  refine .inr ⟨g, xs.length, cur, rfl, Nat.le_refl _, hg, Nat.le_refl _, hm, hs, fun i x hx => ?_⟩
  obtain ⟨vp, va, k1, k2, k3⟩ := h i x (List.getElem?_eq_some_iff.1 hx).1 hx
  exact ⟨vp, va, k1, .inl (k2.base (Nat.le_succ _)), .inl (k3.base (Nat.le_succ _))⟩

set_option maxHeartbeats 1000000 in
theorem toInferenceS_c (v : Value) (xs : List Jf) (w : World) (h : ArgJf w v xs) (hn : xs.length ≤ 1048576) (hfit : FitsJf xs) :
    Calls Tryz.prog 8 #[v] w fun e w' => ∃ v', e = .returned v' ∧ OwnJf w' w.heap.size v' xs ∧ Grew w w' := by
  obtain ⟨⟨A, c, rfl, hmax⟩, hS, _⟩ := h
  have hmk := fun W => run_make_rows (P := Tryz.prog) 26 42 (.agg #[.int .i64 0, .slice none 0 0, .slice none 0 0, .string ByteArray.empty, .string ByteArray.empty]) 5 88 #[.int .i64 0, .slice none 0 0, .slice none 0 0, .string ByteArray.empty, .string ByteArray.empty] Tryz.underlying26 infoJf rfl .i64 .i64 xs.length (by omega) (by omega) W
  have HE := Lib.hid (fun cur w' (h1 : w'.heap[w.heap.size]? = some (.cells cur 42 (0, 0))) (h2 : cur.size = xs.length * 5) (h3 : JfDone w' (w.heap.size + 1) cur xs xs.length) => h3.own h1 h2 (by omega))
  have hsz : (madeCells #[Value.int .i64 0, .slice none 0 0, .slice none 0 0, .string ByteArray.empty, .string ByteArray.empty] (xs.length * 5)).size = xs.length * 5 := size_madeCells _ _
  have hnew := blk_new w (.cells (madeCells #[Value.int .i64 0, .slice none 0 0, .slice none 0 0, .string ByteArray.empty, .string ByteArray.empty] (xs.length * 5)) 42)
  have hal := (Grew.refl w).alloc (.cells (madeCells #[Value.int .i64 0, .slice none 0 0, .slice none 0 0, .string ByteArray.empty, .string ByteArray.empty] (xs.length * 5)) 42)
  generalize madeCells #[Value.int .i64 0, .slice none 0 0, .slice none 0 0, .string ByteArray.empty, .string ByteArray.empty] (xs.length * 5) = cur0 at *
  by_cases hp : 0 < xs.length
  · obtain ⟨b, o, c', hv, hc, hm, hb, hcell⟩ := (hS hp).open_ hp
    obtain ⟨rfl, rfl⟩ : A = some ⟨b, o, none⟩ ∧ c = c' := by simpa using hv
    clear hS hv
    have HC := Lib.hid hcell
    have HX := Lib.hid (fun j (hj : j < xs.length) => (⟨xs[j], List.getElem?_eq_getElem hj, hfit _ (List.getElem_mem hj)⟩ : ∃ x, xs[j]? = some x ∧ FitJf x))
    clear hcell hfit
    generalize hN : xs.length = n at *
    clear hN
    have HNEW := Lib.hid hnew
    clear hnew
    have HAL := Lib.hid hal
    clear hal
    go_enter Tryz.func8, Tryz.ntmps8
    go_wp2_with fail
    go_loopw [4] (fun i wr => ∃ (j : Nat) (cur : Array Value), j ≤ n ∧ i = .int .i64 j ∧ wr.heap[w.heap.size]? = some (.cells cur 42 (0, 0)) ∧ cur.size = n * 5 ∧ Grew w wr ∧ Hid (JfDone wr (w.heap.size + 1) cur xs j)) (fun i _ => n - (intOf i).toNat)
    case atStart => exact ⟨0, cur0, Nat.zero_le _, rfl, HNEW.out, hsz, HAL.out, fun i x hi => absurd hi (by omega)⟩
    case round =>
      obtain ⟨j, cur, hj, rfl, hh, hcs, hB, HD⟩ := hrel
      have HH := Lib.hid hh
      have hlt1 := blk_lt hh
      clear hh
      by_cases hlt : j < n
      · obtain ⟨x, hx, hfx⟩ := HX.out j hlt
        obtain ⟨up, ua, hcl, hpi, hps⟩ := HC.out j x hx
        obtain ⟨k1, k2, k3, k4, k5⟩ := hcl _ hB
        have KT := Lib.hid (fun W (hW : Grew wr W) => toInference_c x up ua W (hpi.grew (hB.trans hW)) (hps.grew (hB.trans hW)) hfx.1 hfx.2.1)
        obtain ⟨⟨A1, ca1, rfl, _⟩, _⟩ := hpi
        obtain ⟨⟨A2, ca2, rfl, _⟩, _, _⟩ := hps
        have hx' := Lib.hid hx
        clear hx hfx hcl
        have HNW := Lib.hid (fun vp va => JfRow.new (cur := cur) (j := j) x vp va (by omega))
        generalize hl1 : x.2.1.length = l1 at *
        generalize hl2 : x.2.2.1.length = l2 at *
        replace hl1 := Lib.hid hl1
        replace hl2 := Lib.hid hl2
        generalize hx1 : x.1 = xr at *
        generalize hx3 : x.2.2.2.1 = xc at *
        generalize hx4 : x.2.2.2.2 = xn at *
        clear hx1 hx3 hx4
        go_wp2_with fail
        refine (KT.out _ (Grew.refl wr)).mono ?_
        rintro e w1 ⟨vp, va, rfl, hop, hos, hg1⟩
        obtain ⟨VA, vc, rfl⟩ := ints_slice hop.ints
        obtain ⟨WA, wc, rfl⟩ := strs_slice hos.strs
        have hh := (hg1.block hlt1).trans HH.out
        have f1 : ∀ i, w1.frozen? ⟨w.heap.size, i, none⟩ = false := fun i => blk_frozen hh i
        have hcell : ∀ k, k < n * 5 → ∃ u, w1.cell? ⟨w.heap.size, k, none⟩ = some u := fun k hk => by
          rw [blk_cell hh]
          exact ⟨_, Array.getElem?_eq_getElem (by omega)⟩
        obtain ⟨u1, hu1⟩ := hcell (j * 5) (by omega)
        obtain ⟨u2, hu2⟩ := hcell (j * 5 + 1) (by omega)
        obtain ⟨u3, hu3⟩ := hcell (j * 5 + 2) (by omega)
        obtain ⟨u4, hu4⟩ := hcell (j * 5 + 3) (by omega)
        obtain ⟨u5, hu5⟩ := hcell (j * 5 + 4) (by omega)
        have HH1 := Lib.hid hh
        have HOP := Lib.hid (hop.base (B' := w.heap.size + 1) (by omega))
        have HOS := Lib.hid (hos.base (B' := w.heap.size + 1) (by omega))
        clear hh hcell hop hos
        rw [hl1.out]
        rw [hl2.out]
        rw [hl1.out] at HOP
        rw [hl2.out] at HOS
        go_wp2_with fail
        go_roundw
        case rel =>
          refine ⟨j + 1, _, by omega, by go_num, blk_set (blk_set (blk_set (blk_set (blk_set HH1.out _ _) _ _) _ _) _ _) _ _, by simp [hcs], ((((((hB.trans hg1).setCell (Nat.le_refl _) _).setCell (Nat.le_refl _) _).setCell (Nat.le_refl _) _).setCell (Nat.le_refl _) _).setCell (Nat.le_refl _) _), fun i y hi hy => ?_⟩
          rcases Nat.lt_or_ge i j with hk | hk
          · obtain ⟨p1, p2, q1, q2, q3⟩ := HD.out i y hk hy
            exact ⟨p1, p2, q1.keep hk, own_set (own_set (own_set (own_set (own_set (q2.grew hg1) (by omega)) (by omega)) (by omega)) (by omega)) (by omega), own_set (own_set (own_set (own_set (own_set (q3.grew hg1) (by omega)) (by omega)) (by omega)) (by omega)) (by omega)⟩
          · obtain rfl : i = j := by omega
            have hxy : x = y := Option.some.inj (hx'.out.symm.trans hy)
            subst hxy
            exact ⟨_, _, HNW.out _ _, own_set (own_set (own_set (own_set (own_set HOP.out (by omega)) (by omega)) (by omega)) (by omega)) (by omega), own_set (own_set (own_set (own_set (own_set HOS.out (by omega)) (by omega)) (by omega)) (by omega)) (by omega)⟩
        case measure => simp [intOf]; omega
      · obtain rfl : j = n := by omega
        go_wp2_with fail
        go_ret
        exact ⟨_, rfl, HE.out _ _ HH.out hcs HD.out, hB⟩
  · have hp0 : xs.length ≤ 0 := by omega
    have HNEW := Lib.hid hnew
    clear hnew hS hp hfit
    have HAL := Lib.hid hal
    clear hal
    generalize hN : xs.length = n at *
    clear hN
    go_enter Tryz.func8, Tryz.ntmps8
    go_wp2_with fail
    refine wp_loop_rounds 1 ?_; rw [rounds_succ]
    go_wp2_with fail
    go_ret
    exact ⟨_, rfl, HE.out _ _ HNEW.out hsz (fun i x hi => absurd hi (by omega)), HAL.out⟩

theorem eqInference_c (x : Jf) (up ua vp va : Value) (w : World) (h1 : Ints w up x.2.1) (h2 : Strs w ua x.2.2.1) (h3 : Ints w vp x.2.1) (h4 : Strs w va x.2.2.1) (n1 : x.2.1.length ≤ 1048576) (n2 : x.2.2.1.length ≤ 1048576) :
    Calls Tryz.prog 25 #[.agg #[.int .i64 x.1, up, ua, .string x.2.2.2.1, .string x.2.2.2.2], .agg #[.int .i64 x.1, vp, va, .string x.2.2.2.1, .string x.2.2.2.2]] w fun e w' => e = .returned (.bool true) ∧ Grew w w' := by
  have KI := Lib.hid (fun W (hW : Grew w W) => eqInt64S_yes up vp x.2.1 W (h1.grew hW) (h3.grew hW) (by omega))
  have KS := Lib.hid (fun W (hW : Grew w W) => eqStringS_yes ua va x.2.2.1 W (h2.grew hW) (h4.grew hW) (by omega))
  obtain ⟨A, c, rfl⟩ := ints_slice h1
  obtain ⟨B, d, rfl⟩ := strs_slice h2
  obtain ⟨A2, c2, rfl⟩ := ints_slice h3
  obtain ⟨B2, d2, rfl⟩ := strs_slice h4
  clear h1 h2 h3 h4 n1 n2
  have hal := ((Grew.refl w).alloc (.cells #[.int .i64 x.1, .slice A x.2.1.length c, .slice B x.2.2.1.length d, .string x.2.2.2.1, .string x.2.2.2.2] 42)).alloc (.cells #[.int .i64 x.1, .slice A2 x.2.1.length c2, .slice B2 x.2.2.1.length d2, .string x.2.2.2.1, .string x.2.2.2.2] 42)
  have hal1 := (Grew.refl w).alloc (.cells #[.int .i64 x.1, .slice A x.2.1.length c, .slice B x.2.2.1.length d, .string x.2.2.2.1, .string x.2.2.2.2] 42)
  generalize x.1 = xr at *
  generalize x.2.1.length = l1 at *
  generalize x.2.2.1.length = l2 at *
  generalize x.2.2.2.1 = xc at *
  generalize x.2.2.2.2 = xn at *
  have e1 : (xr != xr) = false := by simp
  have e2 : (xc.toList != xc.toList) = false := by simp
  have e3 : (xn.toList != xn.toList) = false := by simp
  have hW0 : ((w.alloc (.cells #[.int .i64 xr, .slice A l1 c, .slice B l2 d, .string xc, .string xn] 42)).alloc (.cells #[.int .i64 xr, .slice A2 l1 c2, .slice B2 l2 d2, .string xc, .string xn] 42)).heap.size = w.heap.size + 1 + 1 := by simp
  have hA0 : ((w.alloc (.cells #[.int .i64 xr, .slice A l1 c, .slice B l2 d, .string xc, .string xn] 42)).alloc (.cells #[.int .i64 xr, .slice A2 l1 c2, .slice B2 l2 d2, .string xc, .string xn] 42)).heap[w.heap.size]? = some (.cells #[.int .i64 xr, .slice A l1 c, .slice B l2 d, .string xc, .string xn] 42 (0, 0)) := by
    rw [((Grew.refl (w.alloc (.cells #[.int .i64 xr, .slice A l1 c, .slice B l2 d, .string xc, .string xn] 42))).alloc _).block (k := w.heap.size) (by simp)]
    exact blk_new w _
  have hB0 := blk_new (w.alloc (.cells #[.int .i64 xr, .slice A l1 c, .slice B l2 d, .string xc, .string xn] 42)) (.cells #[.int .i64 xr, .slice A2 l1 c2, .slice B2 l2 d2, .string xc, .string xn] 42)
  have hsz : (w.alloc (.cells #[.int .i64 xr, .slice A l1 c, .slice B l2 d, .string xc, .string xn] 42)).heap.size = w.heap.size + 1 := by simp
  rw [hsz] at hB0
  have HW0 := Lib.hid hW0
  have HA0 := Lib.hid hA0
  have HB0 := Lib.hid hB0
  clear hW0 hA0 hB0 hsz
  go_enter Tryz.func25, Tryz.ntmps25
  go_wp2_with fail
  refine (KI.out _ hal).mono ?_
  rintro e w1 ⟨rfl, hg1⟩
  have g1 := hal.trans hg1
  have hA1 := (hg1.block (k := w.heap.size) (by rw [HW0.out]; omega)).trans HA0.out
  have hB1 := (hg1.block (k := w.heap.size + 1) (by rw [HW0.out]; omega)).trans HB0.out
  have a2 : w1.cell? ⟨w.heap.size, 2, none⟩ = some (.slice B l2 d) := (blk_cell hA1 2).trans rfl
  have b2 : w1.cell? ⟨w.heap.size + 1, 2, none⟩ = some (.slice B2 l2 d2) := (blk_cell hB1 2).trans rfl
  have HA1 := Lib.hid hA1
  have HB1 := Lib.hid hB1
  have l1 := blk_lt hA1
  have l2' := blk_lt hB1
  clear hA1 hB1
  go_wp2_with fail
  refine (KS.out _ g1).mono ?_
  rintro e w2 ⟨rfl, hg2⟩
  have g2 := g1.trans hg2
  have hA2 := (hg2.block l1).trans HA1.out
  have hB2 := (hg2.block l2').trans HB1.out
  have a3 : w2.cell? ⟨w.heap.size, 3, none⟩ = some (.string xc) := (blk_cell hA2 3).trans rfl
  have b3 : w2.cell? ⟨w.heap.size + 1, 3, none⟩ = some (.string xc) := (blk_cell hB2 3).trans rfl
  have a4 : w2.cell? ⟨w.heap.size, 4, none⟩ = some (.string xn) := (blk_cell hA2 4).trans rfl
  have b4 : w2.cell? ⟨w.heap.size + 1, 4, none⟩ = some (.string xn) := (blk_cell hB2 4).trans rfl
  clear hA2 hB2
  go_wp2_with fail
  go_ret
  exact ⟨rfl, g2⟩

/-- Two lists that are equal. -/
theorem eqInferenceS_yes (v1 v2 : Value) (xs : List Jf) (w : World) (h1 : Jfs w v1 xs) (h2 : Jfs w v2 xs) (hn : xs.length ≤ 1099511627776) (hf : FitsJf xs) :
    Calls Tryz.prog 10 #[v1, v2] w fun e w' => e = .returned (.bool true) ∧ Grew w w' := by
  by_cases hp : 0 < xs.length
  · obtain ⟨b1, o1, c1, rfl, hc1, hm1, hb1, hcl1⟩ := JfRd.open_ h1 hp
    obtain ⟨b2, o2, c2, rfl, hc2, hm2, hb2, hcl2⟩ := JfRd.open_ h2 hp
    clear h1 h2
    have H1 := Lib.hid hcl1
    have H2 := Lib.hid hcl2
    have HX := Lib.hid (fun j (hj : j < xs.length) => (⟨xs[j], List.getElem?_eq_getElem hj, hf _ (List.getElem_mem hj)⟩ : ∃ x, xs[j]? = some x ∧ FitJf x))
    clear hcl1 hcl2 hf
    generalize hN : xs.length = n at *
    clear hN
    go_enter Tryz.func10, Tryz.ntmps10
    go_wp2_with fail
    go_loopw [5] (fun i wr => ∃ j : Nat, j ≤ n ∧ i = .int .i64 j ∧ Grew w wr) (fun i _ => n - (intOf i).toNat)
    case atStart => exact ⟨0, Nat.zero_le _, rfl, Grew.refl _⟩
    case round =>
      obtain ⟨j, hj, rfl, hB⟩ := hrel
      by_cases hlt : j < n
      · obtain ⟨x, hx, hfx⟩ := HX.out j hlt
        obtain ⟨up, ua, q1, q2, q3⟩ := H1.out j x hx
        obtain ⟨vp, va, r1, r2, r3⟩ := H2.out j x hx
        have KE := Lib.hid (fun W (hW : Grew w W) => eqInference_c x up ua vp va W (q2.grew hW) (q3.grew hW) (r2.grew hW) (r3.grew hW) hfx.1 hfx.2.1)
        obtain ⟨U1, cu1, rfl⟩ := ints_slice q2
        obtain ⟨U2, cu2, rfl⟩ := strs_slice q3
        obtain ⟨V1, cv1, rfl⟩ := ints_slice r2
        obtain ⟨V2, cv2, rfl⟩ := strs_slice r3
        have s0 := fun W (hW : Grew w W) => (q1 W hW).1
        have s1 := fun W (hW : Grew w W) => (q1 W hW).2.1
        have s2 := fun W (hW : Grew w W) => (q1 W hW).2.2.1
        have s3 := fun W (hW : Grew w W) => (q1 W hW).2.2.2.1
        have s4 := fun W (hW : Grew w W) => (q1 W hW).2.2.2.2
        have t0 := fun W (hW : Grew w W) => (r1 W hW).1
        have t1 := fun W (hW : Grew w W) => (r1 W hW).2.1
        have t2 := fun W (hW : Grew w W) => (r1 W hW).2.2.1
        have t3 := fun W (hW : Grew w W) => (r1 W hW).2.2.2.1
        have t4 := fun W (hW : Grew w W) => (r1 W hW).2.2.2.2
        have hd := hB.drew
        clear hx q1 q2 q3 r1 r2 r3 hfx
        generalize x.1 = xr at *
        generalize x.2.1.length = l1 at *
        generalize x.2.2.1.length = l2 at *
        generalize x.2.2.2.1 = xc at *
        generalize x.2.2.2.2 = xn at *
        go_wp2_with fail
        go_region_held3 (fun w' => Grew w w') (with_reducible assumption)
          (first | (go_at_call 25; refine (KE.out _ hd).mono ?_; rintro e w1 ⟨rfl, hg1⟩; have hk1 := hd.trans hg1))
        go_wp2_with fail
        go_roundw
        case rel => exact ⟨j + 1, by omega, by go_num, hk1⟩
        case measure => simp [intOf]; omega
      · obtain rfl : j = n := by omega
        go_wp2_with fail
        go_ret
        exact ⟨rfl, hB⟩
  · obtain rfl : xs = [] := List.eq_nil_of_length_eq_zero (by omega)
    obtain ⟨A, c, rfl⟩ := Jfs_slice h1
    obtain ⟨B, d, rfl⟩ := Jfs_slice h2
    simp only [List.length_nil]
    clear h1 h2 hp hf hn
    go_enter Tryz.func10, Tryz.ntmps10
    go_wp2_with fail
    refine wp_loop_rounds 1 ?_; rw [rounds_succ]
    go_wp2_with fail
    go_ret
    exact ⟨rfl, Grew.refl _⟩
end Go.Proofs.YtkjmfkllmljdeaaGreat

/- The laws' own helpers on slices of Inferences: szInferenceS, toInferenceS, eqInferenceS. -/
namespace Go.Proofs.YtkjmfkllmljdeaaGreat
open Go.RowKit

/-- The sizes of one. -/
def SizeJf (x : Jf) (r : Int) : Prop := r ≤ 1048576 ∧ (0 ≤ r → FitJf x)
theorem szInference_c (x : Jf) (up ua : Value) (left : Int) (w : World) (hp : ArgI w up x.2.1) (hs : ArgS w ua x.2.2.1) (hz : x.2.2.2.1.size ≤ 9223372036854775807) (hz2 : x.2.2.2.2.size ≤ 9223372036854775807) (h0 : 0 ≤ left) (h1 : left ≤ 1048576) :
    Calls Tryz.prog 19 #[.agg #[.int .i64 x.1, up, ua, .string x.2.2.2.1, .string x.2.2.2.2], .int .i64 left] w fun e w' => ∃ r : Int, e = .returned (.int .i64 r) ∧ SizeJf x r ∧ Grew w w' := by
  have hal := (Grew.refl w).alloc (.cells #[.int .i64 x.1, up, ua, .string x.2.2.2.1, .string x.2.2.2.2] 39)
  have HE : Hid (∀ r : Int, (r ≤ 1048576 ∧ (0 ≤ r → FitJf x)) → SizeJf x r) := Lib.hid (fun _ h => h)
  have HF : Hid (FitJf x ↔ (x.2.1.length ≤ 1048576 ∧ x.2.2.1.length ≤ 1048576 ∧ Fits x.2.2.1 ∧ x.2.2.2.1.size ≤ 1048576 ∧ x.2.2.2.2.size ≤ 1048576)) := Lib.hid Iff.rfl
  have KI := Lib.hid (fun l W (hW : Grew w W) (a0 : 0 ≤ l) (a1 : l ≤ 1048576) => szInt64S_c up x.2.1 l W (hp.grew hW) a0 a1)
  have KS := Lib.hid (fun l W (hW : Grew w W) (a0 : 0 ≤ l) (a1 : l ≤ 1048576) => szStringS_c ua x.2.2.1 l W (hs.grew hW) a0 a1)
  obtain ⟨⟨A, c, rfl, hm1⟩, _⟩ := hp
  obtain ⟨⟨A2, c2, rfl, hm2⟩, _, _⟩ := hs
  generalize FitJf x = FIT at *
  obtain ⟨r0, P, S, C, N⟩ := x
  simp only at *
  generalize P.length = pl at *
  generalize hsl : S.length = sl at *
  replace hsl := Lib.hid hsl
  go_enter Tryz.func19, Tryz.ntmps19
  go_wp2_with fail
  refine (KI.out _ _ hal (by omega) (by omega)).mono ?_
  rintro e w1 ⟨r1, rfl, ⟨hr1, hf1⟩, hg1⟩
  have k1 := hal.trans hg1
  by_cases h1 : r1 < 0
  · go_wp2_with fail
    go_ret
    exact ⟨_, rfl, HE.out _ ⟨by omega, fun h => absurd h (by omega)⟩, k1⟩
  have f2 : ∀ W, Grew w1 W → W.cell? ⟨w.heap.size, 2, none⟩ = some (.slice A2 sl c2) := fun W hW => ((hg1.trans hW).cell (p := ⟨w.heap.size, 2, none⟩) (by simp)).trans (by simp)
  have rr1 := Grew.refl w1
  go_wp2_with fail
  refine (KS.out _ _ k1 (by omega) (by omega)).mono ?_
  rintro e w2 ⟨r2, rfl, hs2, hg2⟩
  have HS2 := Lib.hid hs2
  have hr2 := hs2.1
  clear hs2
  have k2 := k1.trans hg2
  by_cases h2 : r2 < 0
  · go_wp2_with fail
    go_ret
    exact ⟨_, rfl, HE.out _ ⟨by omega, fun h => absurd h (by omega)⟩, k2⟩
  have f3 : ∀ W, Grew w2 W → W.cell? ⟨w.heap.size, 3, none⟩ = some (.string C) := fun W hW => (((hg1.trans hg2).trans hW).cell (p := ⟨w.heap.size, 3, none⟩) (by simp)).trans (by simp)
  have f4 : ∀ W, Grew w2 W → W.cell? ⟨w.heap.size, 4, none⟩ = some (.string N) := fun W hW => (((hg1.trans hg2).trans hW).cell (p := ⟨w.heap.size, 4, none⟩) (by simp)).trans (by simp)
  have rr2 := Grew.refl w2
  have hsm := Lib.hid (HS2.out.2 (by omega))
  have hf1' := hf1 (by omega)
  clear hf1
  by_cases h3 : r2 < C.size
  · go_wp2_with fail
    go_ret
    exact ⟨_, rfl, HE.out _ ⟨by omega, fun h => absurd h (by omega)⟩, k2⟩
  · by_cases h4 : r2 - C.size < N.size
    · go_wp2_with fail
      go_ret
      exact ⟨_, rfl, HE.out _ ⟨by omega, fun h => absurd h (by omega)⟩, k2⟩
    · go_wp2_with fail
      go_ret
      exact ⟨_, rfl, HE.out _ ⟨by omega, fun h => HF.out.2 ⟨hf1', (by have h7 := hsm.out.1; have h8 := hsl.out; omega), small_fits hsm.out.2, by omega, by omega⟩⟩, k2⟩

/-- The first k are small. -/
def SmallJf (xs : List Jf) (k : Nat) : Prop := ∀ i x, i < k → xs[i]? = some x → FitJf x
theorem SmallJf.zero (xs : List Jf) : SmallJf xs 0 := fun i x hi => absurd hi (by omega)
theorem SmallJf.succ {xs : List Jf} {k : Nat} {x : Jf} (h : SmallJf xs k) (hx : xs[k]? = some x) (h1 : FitJf x) : SmallJf xs (k + 1) := by
  intro i y hi hy
  rcases Nat.lt_or_ge i k with hk | hk
  · exact h i y hk hy
  · obtain rfl : i = k := by omega
    rw [hx] at hy
    injection hy with hy
    subst hy
    exact h1
theorem SmallJf.fits {xs : List Jf} (h : SmallJf xs xs.length) : FitsJf xs := by
  intro x hx
  obtain ⟨i, hi, rfl⟩ := List.getElem_of_mem hx
  exact h i _ hi (List.getElem?_eq_getElem hi)

theorem szInferenceS_c (v : Value) (xs : List Jf) (left : Int) (w : World) (h : ArgJf w v xs) (h0 : 0 ≤ left) (h1 : left ≤ 1048576) :
    Calls Tryz.prog 6 #[v, .int .i64 left] w fun e w' => ∃ r : Int, e = .returned (.int .i64 r) ∧ SizesJf xs r ∧ Grew w w' := by
  obtain ⟨⟨A, c, rfl, hmax⟩, hS, hz⟩ := h
  have HE : Hid (∀ r : Int, (r ≤ 1048576 ∧ (0 ≤ r → xs.length ≤ 1048576 ∧ FitsJf xs)) → SizesJf xs r) := Lib.hid (fun _ h => h)
  by_cases hlong : left < xs.length
  · clear hS hz
    generalize xs.length = n at *
    go_enter Tryz.func6, Tryz.ntmps6
    go_wp2_with fail
    go_ret
    exact ⟨_, rfl, HE.out _ ⟨by omega, fun h => absurd h (by omega)⟩, Grew.refl _⟩
  · by_cases hp : 0 < xs.length
    · obtain ⟨b, o, c', hv, hc, hm, hb, hcell⟩ := (hS hp).open_ hp
      obtain ⟨rfl, rfl⟩ : A = some ⟨b, o, none⟩ ∧ c = c' := by simpa using hv
      clear hS hv
      have HC := Lib.hid hcell
      have HZ := Lib.hid hz
      have HX := Lib.hid (fun j (hj : j < xs.length) => (⟨xs[j], List.getElem?_eq_getElem hj, List.getElem_mem hj⟩ : ∃ x, xs[j]? = some x ∧ x ∈ xs))
      have HFIN := Lib.hid (fun (h : SmallJf xs xs.length) => h.fits)
      clear hcell hz
      generalize hN : xs.length = n at *
      clear hN
      go_enter Tryz.func6, Tryz.ntmps6
      go_wp2_with fail
      go_loopw [1, 5] (fun kk i wr => ∃ (j : Nat) (l : Int), j ≤ n ∧ i = .int .i64 j ∧ kk = .int .i64 l ∧ 0 ≤ l ∧ l ≤ 1048576 ∧ Grew w wr ∧ Hid (SmallJf xs j)) (fun _ i _ => n - (intOf i).toNat)
      case atStart => exact ⟨0, left - n, Nat.zero_le _, rfl, rfl, by omega, by omega, Grew.refl _, SmallJf.zero _⟩
      case round =>
        obtain ⟨j, l, hj, rfl, rfl, hl0, hl1, hB, HJ⟩ := hrel
        by_cases hlt : j < n
        · obtain ⟨x, hx, hxm⟩ := HX.out j hlt
          obtain ⟨up, ua, hcs, hpi, hps⟩ := HC.out j x hx
          obtain ⟨k1, k2, k3, k4, k5⟩ := hcs _ hB
          have hz1 := HZ.out x hxm
          have HS := Lib.hid (fun h => HJ.out.succ hx h)
          have HW := Lib.hid (fun W (hW : Grew w W) => szInference_c x up ua l W (hpi.grew hW) (hps.grew hW) hz1.1 hz1.2 hl0 (by omega))
          clear hcs hpi hps hx hxm hz1
          generalize hxx : x = y at HS HW
          obtain ⟨r0, P, S, C, N⟩ := x
          simp only at k1 k2 k3 k4 k5
          subst hxx
          simp only at HW
          go_wp2_with fail
          refine (HW.out _ hB).mono ?_
          rintro e w1 ⟨r, rfl, ⟨hr1, hr2⟩, hg1⟩
          by_cases hbig : r < 0
          · clear hr2
            go_wp2_with fail
            go_ret
            exact ⟨_, rfl, HE.out _ ⟨by omega, fun h => absurd h (by omega)⟩, hB.trans hg1⟩
          · have hs := Lib.hid (HS.out (hr2 (by omega)))
            clear hr2
            go_wp2_with fail
            go_roundw
            case rel => exact ⟨j + 1, r, by omega, by go_num, rfl, by omega, by omega, hB.trans hg1, hs⟩
            case measure => simp [intOf]; omega
        · obtain rfl : j = n := by omega
          go_wp2_with fail
          go_ret
          exact ⟨_, rfl, HE.out _ ⟨by omega, fun _ => ⟨by omega, HFIN.out HJ.out⟩⟩, hB⟩
    · obtain rfl : xs = [] := List.eq_nil_of_length_eq_zero (by omega)
      simp only [List.length_nil] at *
      go_enter Tryz.func6, Tryz.ntmps6
      go_wp2_with fail
      refine wp_loop_rounds 1 ?_; rw [rounds_succ]
      go_wp2_with fail
      go_ret
      exact ⟨_, rfl, HE.out _ ⟨by omega, fun _ => ⟨by simp, fun i hi => absurd hi (by simp)⟩⟩, Grew.refl _⟩
end Go.Proofs.YtkjmfkllmljdeaaGreat

/- The law FnExactFirstBadInference, walked. -/
namespace Go.Proofs.YtkjmfkllmljdeaaGreat
open Go.RowKit

theorem lawFb_c (v0 : Value) (L0 : List Jf) (w : World) (h0 : ArgJf w v0 L0) :
    Calls Tryz.prog 3 #[v0] w fun e w' => e = .returned (.bool true) ∧ Grew w w' := by
  have Z0 := Lib.hid (fun W l (hW : Grew w W) (a0 : 0 ≤ l) (a1 : l ≤ 1048576) => szInferenceS_c v0 L0 l W (h0.grew hW) a0 a1)
  have T0 := Lib.hid (fun W (hW : Grew w W) => toInferenceS_c v0 L0 W (h0.grew hW))
  clear h0
  go_enter Tryz.func3, Tryz.ntmps3
  go_wp2_with fail
  refine (Z0.out _ _ (Grew.refl w) (by omega) (by omega)).mono ?_
  rintro e w1 ⟨r0, rfl, ⟨hm0, hs0⟩, hg1⟩
  have z1 := Lib.hid hg1.size
  have g1 : Grew w w1 := (Grew.refl w).trans hg1
  clear hg1
  by_cases hr0 : r0 < 0
  · clear hs0
    go_wp2_with fail
    go_ret
    exact ⟨rfl, g1⟩
  obtain ⟨hn0, hf0⟩ := hs0 (by omega)
  have F0 : Hid (FitsJf L0) := Lib.hid hf0
  clear hs0 hf0
  have KS := Lib.hid (fun u0 W x0 => specFb_c u0 L0 W x0 F0.out (by omega))
  have KI := Lib.hid (fun u0 W x0 => implFb_c u0 L0 W x0 F0.out (by omega))
  unfold GivesFb at KS KI
  generalize fbF L0 = rr at *
  obtain ⟨ra, rc⟩ := rr
  simp only at KS KI
  have hc1 : (rc != rc) = false := by simp
  have ha1 : (ra != ra) = false := by simp
  go_wp2_with fail
  refine (T0.out _ g1 hn0 F0.out).mono ?_
  rintro e w2 ⟨a0, rfl, oa0, hg2⟩
  have z2 := Lib.hid hg2.size
  have g2 : Grew w w2 := g1.trans hg2
  clear hg2
  go_wp2_with fail
  refine (KS.out _ _ oa0.rd).mono ?_
  rintro e w3 ⟨rfl, hg3⟩
  have z3 := Lib.hid hg3.size
  have g3 : Grew w w3 := g2.trans hg3
  clear hg3 oa0
  go_wp2_with fail
  refine (T0.out _ g3 hn0 F0.out).mono ?_
  rintro e w4 ⟨x0, rfl, ox0, hg4⟩
  have z4 := Lib.hid hg4.size
  have g4 : Grew w w4 := g3.trans hg4
  clear hg4
  go_wp2_with fail
  refine (KI.out _ _ ox0.rd).mono ?_
  rintro e w5 ⟨rfl, hg5⟩
  have z5 := Lib.hid hg5.size
  have g5 : Grew w w5 := g4.trans hg5
  replace ox0 := ox0.grew hg5
  clear hg5
  go_wp2_with fail
  refine (T0.out _ g5 hn0 F0.out).mono ?_
  rintro e w6 ⟨y0, rfl, oy0, hg6⟩
  have z6 := Lib.hid hg6.size
  have g6 : Grew w w6 := g5.trans hg6
  replace ox0 := ox0.grew hg6
  clear hg6
  go_wp2_with fail
  refine (eqInferenceS_yes _ _ L0 _ ox0.rd oy0.rd (by omega) F0.out).mono ?_
  rintro e w7 ⟨rfl, hg7⟩
  have z7 := Lib.hid hg7.size
  have g7 : Grew w w7 := g6.trans hg7
  replace ox0 := ox0.grew hg7
  clear hg7 oy0
  go_wp2_with fail
  go_ret
  exact ⟨rfl, g7⟩
end Go.Proofs.YtkjmfkllmljdeaaGreat

/- An argument that is a list of strings, or a struct of two such lists. -/
namespace Go.Proofs.YtkjmfkllmljdeaaGreat
open Go.RowKit

theorem cell_lt {w : World} {a : Addr} {u : Value} (h : w.cell? a = some u) : a.block < w.heap.size := by
  unfold World.cell? at h
  split at h
  · rename_i hh
    exact (Array.getElem?_eq_some_iff.1 hh).1
  · cases h

theorem argS_of_trod {H : Type} {enc : TypeId × Value → H} {P : Program} {W : World} {sp : Nat → Bool} {held : Bool} {n : Nat} {t e : TypeId} {v : Value} {y : DataW H × List MemPlace}
    (ht : P.underlying t = some (.slice e)) (he : P.underlying e = some .string) (hc : P.cellsOf e = 1) (h : DataW.trod enc P W 0 sp held n t [v] = some y) : ∃ L, ArgS W v L := by
  rcases Go.Deep.open_strs ht he hc h with ⟨hv, _⟩ | ⟨a, len, cap, m, Sx, hv, _, hl, hm, hmm, _, hcell⟩
  · obtain rfl : v = .slice none 0 0 := by simpa using hv
    exact ⟨[], ⟨none, 0, rfl, by simp⟩, fun h => absurd h (by simp), fun i hi => absurd hi (by simp)⟩
  · obtain rfl : v = .slice (some a) len cap := by simpa using hv
    have hlm : len ≤ m := by rw [hmm]; split <;> omega
    have hmax : maxLen = 9223372036854775807 := by decide
    rw [hmax] at hm
    have hlen : ((List.range len).map Sx).length = len := by simp
    have hst : ∀ i, i < len → st ((List.range len).map Sx) i = Sx i := fun i hi => by simp [st, List.getD, hi]
    refine ⟨(List.range len).map Sx, ⟨some a, cap, by rw [hlen], by rw [hlen]; omega⟩, fun hp => ?_, fun i hi => ?_⟩
    · rw [hlen] at hp
      obtain ⟨b, off, spot⟩ := a
      have h0 := (hcell 0 (by omega)).1
      have hspot : spot = none := by simpa [Addr.add] using World.cell?_spot h0
      subst hspot
      have hb := cell_lt h0
      have hadd : ∀ i, (⟨b, off, none⟩ : Addr).add i = ⟨b, off + i, none⟩ := fun i => by
        unfold Addr.add
        split
        · subst_vars; rfl
        · rfl
      rw [hadd] at hb
      unfold Strs Rd
      rw [hlen]
      refine ⟨by rw [scells_length, hlen], by omega, .inr ⟨b, off, cap, rfl, hl, hm, hb, fun j u hu => ?_⟩⟩
      have hj : j < len := by
        have := (List.getElem?_eq_some_iff.1 hu).1
        rw [scells_length, hlen] at this
        omega
      rw [scells_at (by rw [hlen]; exact hj), hst j hj] at hu
      rw [← hadd, (hcell j (by omega)).1]
      exact hu
    · rw [hlen] at hi
      rw [hst i hi, ← hmax]
      exact (hcell i (by omega)).2
end Go.Proofs.YtkjmfkllmljdeaaGreat

/- An argument that is a list of numbers. -/
namespace Go.Proofs.YtkjmfkllmljdeaaGreat
open Go.RowKit

theorem argI_of_trod {H : Type} {enc : TypeId × Value → H} {P : Program} {W : World} {sp : Nat → Bool} {held : Bool} {n : Nat} {t e : TypeId} {v : Value} {y : DataW H × List MemPlace}
    (ht : P.underlying t = some (.slice e)) (he : P.underlying e = some (.int .i64)) (hc : P.cellsOf e = 1) (h : DataW.trod enc P W 0 sp held n t [v] = some y) : ∃ L, ArgI W v L := by
  rcases Go.Deep.open_slice ht h with ⟨hv, _⟩ | ⟨a, len, cap, m, k, D, Pl, hv, _, hl, hm, hmm, _, hcell⟩
  · obtain rfl : v = .slice none 0 0 := by simpa using hv
    exact ⟨[], ⟨none, 0, rfl, by simp⟩, fun h => absurd h (by simp)⟩
  · obtain rfl : v = .slice (some a) len cap := by simpa using hv
    have hlm : len ≤ m := by rw [hmm]; split <;> omega
    have hmax : maxLen = 9223372036854775807 := by decide
    rw [hmax] at hm
    have each : ∀ i, i < len → ∃ q : Int, W.cell? (a.add i) = some (.int .i64 q) := fun i hi => by
      obtain ⟨cs', h1, h2⟩ := hcell i (by omega)
      rw [hc] at h1
      obtain ⟨_, hlen, hc1⟩ := World.cells?_some h1
      match cs', hlen with
      | [v0], _ =>
        obtain ⟨x, hx, _⟩ := DataW.trod_int he h2
        obtain rfl : v0 = .int .i64 x := by simpa using hx
        have e0 := hc1 0 (by omega)
        rw [Go.Deep.add_add] at e0
        exact ⟨x, by simpa [hc] using e0⟩
    obtain ⟨q, hq⟩ := Go.Deep.choose_lt each
    have hlen : ((List.range len).map q).length = len := by simp
    refine ⟨(List.range len).map q, ⟨some a, cap, by rw [hlen], by rw [hlen]; omega⟩, fun hp => ?_⟩
    rw [hlen] at hp
    obtain ⟨b, off, spot⟩ := a
    have h0 := hq 0 (by omega)
    have hspot : spot = none := by simpa [Addr.add] using World.cell?_spot h0
    subst hspot
    have hb := cell_lt h0
    have hadd : ∀ i, (⟨b, off, none⟩ : Addr).add i = ⟨b, off + i, none⟩ := fun i => by
      unfold Addr.add
      split
      · subst_vars; rfl
      · rfl
    rw [hadd] at hb
    unfold Ints Rd
    rw [hlen]
    refine ⟨by rw [icells_length, hlen], by omega, .inr ⟨b, off, cap, rfl, hl, hm, hb, fun j u hu => ?_⟩⟩
    have hj : j < len := by
      have := (List.getElem?_eq_some_iff.1 hu).1
      rw [icells_length, hlen] at this
      omega
    have h1 := icells_at (L := (List.range len).map q) (i := j) (by rw [hlen]; exact hj)
    rw [h1] at hu
    rw [← hadd, hq j hj, ← hu]
    simp [it, List.getD, hj]
end Go.Proofs.YtkjmfkllmljdeaaGreat

/- An argument that is a list of Inferences. -/
namespace Go.Proofs.YtkjmfkllmljdeaaGreat
open Go.RowKit


theorem argJf_of_trod {H : Type} {enc : TypeId × Value → H} {P : Program} {W : World} {sp : Nat → Bool} {held : Bool} {n : Nat} {t e ei es : TypeId} {f0 f1 f2 f3 f4 : Field} {v : Value} {y : DataW H × List MemPlace}
    (ht : P.underlying t = some (.slice e)) (he : P.underlying e = some (.struct #[f0, f1, f2, f3, f4])) (ce : P.cellsOf e = 5) (o0 : f0.offset = 0) (o1 : f1.offset = 1) (o2 : f2.offset = 2) (o3 : f3.offset = 3) (o4 : f4.offset = 4)
    (c0 : P.cellsOf f0.type = 1) (c1 : P.cellsOf f1.type = 1) (c2 : P.cellsOf f2.type = 1) (c3 : P.cellsOf f3.type = 1) (c4 : P.cellsOf f4.type = 1)
    (u0 : P.underlying f0.type = some (.int .i64)) (u1 : P.underlying f1.type = some (.slice ei)) (u2 : P.underlying f2.type = some (.slice es)) (u3 : P.underlying f3.type = some .string) (u4 : P.underlying f4.type = some .string)
    (ui : P.underlying ei = some (.int .i64)) (ci : P.cellsOf ei = 1) (us : P.underlying es = some .string) (cs : P.cellsOf es = 1) (h : DataW.trod enc P W 0 sp held n t [v] = some y) : ∃ xs, ArgJf W v xs := by
  rcases Go.Deep.open_slice ht h with ⟨hv, _⟩ | ⟨a, len, cap, m, k, D, Pl, hv, _, hl, hm, hmm, _, hcell⟩
  · obtain rfl : v = .slice none 0 0 := by simpa using hv
    exact ⟨[], ⟨none, 0, rfl, by simp⟩, fun h => absurd h (by simp), fun x hx => absurd hx (by simp)⟩
  · obtain rfl : v = .slice (some a) len cap := by simpa using hv
    have hlm : len ≤ m := by rw [hmm]; split <;> omega
    have hmax : maxLen = 9223372036854775807 := by decide
    rw [hmax] at hm
    have each : ∀ i, i < len → ∃ q : (Value × Value) × Jf, W.cell? (a.add (i * 5)) = some (.int .i64 q.2.1) ∧ W.cell? (a.add (i * 5 + 1)) = some q.1.1 ∧ W.cell? (a.add (i * 5 + 2)) = some q.1.2 ∧ W.cell? (a.add (i * 5 + 3)) = some (.string q.2.2.2.2.1) ∧ W.cell? (a.add (i * 5 + 4)) = some (.string q.2.2.2.2.2) ∧ ArgI W q.1.1 q.2.2.1 ∧ ArgS W q.1.2 q.2.2.2.1 ∧ q.2.2.2.2.1.size ≤ maxLen ∧ q.2.2.2.2.2.size ≤ maxLen := fun i hi => by
      obtain ⟨cs', h1, h2⟩ := hcell i (by omega)
      rw [ce] at h1
      obtain ⟨_, hlen, hc⟩ := World.cells?_some h1
      obtain ⟨xs, k', hk, hxy, _, hxl, hf⟩ := DataW.trod_struct he h2
      match xs, hxl, cs', hlen with
      | [y0, y1, y2, y3, y4], _, [v0, v1, v2, v3, v4], _ =>
        have g0 := hf 0 f0 rfl
        have g1 := hf 1 f1 rfl
        have g2 := hf 2 f2 rfl
        have g3 := hf 3 f3 rfl
        have g4 := hf 4 f4 rfl
        simp [o0, o1, o2, o3, o4, c0, c1, c2, c3, c4] at g0 g1 g2 g3 g4
        have e0 := hc 0 (by omega)
        have e1 := hc 1 (by omega)
        have e2 := hc 2 (by omega)
        have e3 := hc 3 (by omega)
        have e4 := hc 4 (by omega)
        rw [Go.Deep.add_add] at e0 e1 e2 e3 e4
        obtain ⟨x, hx, _⟩ := DataW.trod_int u0 g0
        obtain ⟨L1, hL1⟩ := argI_of_trod u1 ui ci g1
        obtain ⟨L2, hL2⟩ := argS_of_trod u2 us cs g2
        obtain ⟨s, hs, _, hsz⟩ := DataW.trod_string u3 g3
        obtain ⟨z, hz, _, hzz⟩ := DataW.trod_string u4 g4
        obtain rfl : v0 = .int .i64 x := by simpa using hx
        obtain rfl : v3 = .string s := by simpa using hs
        obtain rfl : v4 = .string z := by simpa using hz
        exact ⟨((v1, v2), (x, L1, L2, s, z)), by simpa using e0, by simpa using e1, by simpa using e2, by simpa using e3, by simpa using e4, hL1, hL2, hsz, hzz⟩
    obtain ⟨q, hq⟩ := Go.Deep.choose_lt each
    have hlen : ((List.range len).map fun i => (q i).2).length = len := by simp
    refine ⟨(List.range len).map fun i => (q i).2, ⟨some a, cap, by rw [hlen], by rw [hlen]; omega⟩, fun hp => ?_, fun x hx => ?_⟩
    · rw [hlen] at hp
      obtain ⟨b, off, spot⟩ := a
      have h0 := (hq 0 (by omega)).1
      have hspot : spot = none := by simpa [Addr.add] using World.cell?_spot h0
      subst hspot
      have hb := cell_lt h0
      have hadd : ∀ i, (⟨b, off, none⟩ : Addr).add i = ⟨b, off + i, none⟩ := fun i => by
        unfold Addr.add
        split
        · subst_vars; rfl
        · rfl
      rw [hadd] at hb
      refine .inr ⟨b, off, cap, by rw [hlen], by rw [hlen]; exact hl, hm, hb, fun i x hx => ?_⟩
      have hi : i < len := by
        have := (List.getElem?_eq_some_iff.1 hx).1
        rw [hlen] at this
        exact this
      have hxe : x = (q i).2 := by
        rw [List.getElem?_map, List.getElem?_range hi] at hx
        simp at hx
        exact hx.symm
      subst hxe
      obtain ⟨e0, e1, e2, e3, e4, e5, e6, _⟩ := hq i hi
      rw [hadd] at e0 e1 e2 e3 e4
      exact ⟨_, _, ⟨e0, by rw [← e1, Nat.add_assoc], by rw [← e2, Nat.add_assoc], by rw [← e3, Nat.add_assoc], by rw [← e4, Nat.add_assoc]⟩, e5, e6⟩
    · rw [List.mem_map] at hx
      obtain ⟨i, hi, rfl⟩ := hx
      rw [← hmax]
      exact (hq i (by simpa using hi)).2.2.2.2.2.2.2
end Go.Proofs.YtkjmfkllmljdeaaGreat

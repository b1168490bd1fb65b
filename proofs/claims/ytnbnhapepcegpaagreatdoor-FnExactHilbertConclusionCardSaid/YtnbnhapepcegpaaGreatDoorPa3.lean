/- Texts in one file: Nl HfS FcN. -/
import Derived.Deep.RegionHeld3
import Derived.Test.YtnbnhapepcegpaaGreatDoorPa1
import Derived.Test.YtnbnhapepcegpaaGreatDoorPa2
set_option linter.all false

/- Slices of lists of nodes in memory: as arguments and as rows of the call's own. -/
namespace Go.Proofs.YtnbnhapepcegpaaGreatDoor
open Go.RowKit
open Fm (Nd)

/-- The value reads as the lists; the inner lists are read by PN. -/
def NlRd (PN : World → Value → List Nd → Prop) (w : World) (v : Value) (xs : List (List Nd)) : Prop :=
  (v = .slice none 0 0 ∧ xs = []) ∨ ∃ b o c, v = .slice (some ⟨b, o, none⟩) xs.length c ∧ xs.length ≤ c ∧ c ≤ 9223372036854775807 ∧ b < w.heap.size ∧
    ∀ (i : Nat) (x : List Nd), xs[i]? = some x → ∃ u, w.cell? ⟨b, o + i, none⟩ = some u ∧ PN w u x
theorem NlRd.grew {PN : World → Value → List Nd → Prop} (hN : ∀ w w' v L, Grew w w' → PN w v L → PN w' v L) {w w' : World} {v : Value} {xs : List (List Nd)} (h : NlRd PN w v xs) (hg : Grew w w') : NlRd PN w' v xs := by
  rcases h with h | ⟨b, o, c, h1, h2, h3, h4, h5⟩
  · exact .inl h
  · refine .inr ⟨b, o, c, h1, h2, h3, Nat.lt_of_lt_of_le h4 hg.size, fun i x hx => ?_⟩
    obtain ⟨u, k1, k2⟩ := h5 i x hx
    exact ⟨u, (hg.cell (p := ⟨b, o + i, none⟩) h4).trans k1, hN _ _ _ _ hg k2⟩
/-- The value reads as the lists. -/
def Nls (w : World) (v : Value) (xs : List (List Nd)) : Prop := NlRd Nodes w v xs
theorem Nls.grew {w w' : World} {v : Value} {xs : List (List Nd)} (h : Nls w v xs) (hg : Grew w w') : Nls w' v xs := NlRd.grew (fun _ _ _ _ g k => k.grew g) h hg
/-- A list that came in. -/
def ArgNl (w : World) (v : Value) (xs : List (List Nd)) : Prop :=
  (∃ A c, v = .slice A xs.length c ∧ xs.length ≤ 9223372036854775807) ∧ (0 < xs.length → NlRd ArgN w v xs)
theorem ArgNl.grew {w w' : World} {v : Value} {xs : List (List Nd)} (h : ArgNl w v xs) (hg : Grew w w') : ArgNl w' v xs := ⟨h.1, fun hp => NlRd.grew (fun _ _ _ _ g k => k.grew g) (h.2 hp) hg⟩
theorem Nls_slice {w : World} {v : Value} {xs : List (List Nd)} (h : Nls w v xs) : ∃ A c, v = .slice A xs.length c := by
  rcases h with ⟨rfl, rfl⟩ | ⟨b, o, c, rfl, _⟩
  · exact ⟨_, _, rfl⟩
  · exact ⟨_, _, rfl⟩
theorem NlRd.open_ {PN : World → Value → List Nd → Prop} {w : World} {v : Value} {xs : List (List Nd)} (h : NlRd PN w v xs) (hp : 0 < xs.length) : ∃ b o c, v = .slice (some ⟨b, o, none⟩) xs.length c ∧ xs.length ≤ c ∧ c ≤ 9223372036854775807 ∧ b < w.heap.size ∧
    ∀ (i : Nat) (x : List Nd), xs[i]? = some x → ∃ u, (∀ W, Grew w W → W.cell? ⟨b, o + i, none⟩ = some u) ∧ PN w u x := by
  rcases h with ⟨_, h⟩ | ⟨b, o, c, h1, h2, h3, h4, h5⟩
  · rw [h] at hp; cases hp
  · refine ⟨b, o, c, h1, h2, h3, h4, fun i x hx => ?_⟩
    obtain ⟨u, k1, k2⟩ := h5 i x hx
    exact ⟨u, fun W hW => (hW.cell (p := ⟨b, o + i, none⟩) h4).trans k1, k2⟩
/-- A row of the call's own, with rows of the call's own. -/
def OwnNl (w : World) (B : Nat) (v : Value) (xs : List (List Nd)) : Prop :=
  (v = .slice none 0 0 ∧ xs = []) ∨ ∃ (g c : Nat) (cur : Array Value), v = .slice (some ⟨g, 0, none⟩) xs.length c ∧ B ≤ g ∧ w.heap[g]? = some (.cells cur 35 (0, 0)) ∧ xs.length ≤ c ∧ c ≤ 9223372036854775807 ∧ cur.size = c ∧
    ∀ (i : Nat) (x : List Nd), xs[i]? = some x → ∃ u, cur[i]? = some u ∧ Own w B u x
theorem OwnNl.grew {w w' : World} {B : Nat} {v : Value} {xs : List (List Nd)} (h : OwnNl w B v xs) (hg : Grew w w') : OwnNl w' B v xs := by
  rcases h with h | ⟨g, c, cur, h1, h2, h3, h4, h5, h6, h7⟩
  · exact .inl h
  · refine .inr ⟨g, c, cur, h1, h2, (hg.block (blk_lt h3)).trans h3, h4, h5, h6, fun i x hx => ?_⟩
    obtain ⟨u, k1, k2⟩ := h7 i x hx
    exact ⟨u, k1, k2.grew hg⟩
theorem OwnNl.base {w : World} {B B' : Nat} {v : Value} {xs : List (List Nd)} (h : OwnNl w B v xs) (hb : B' ≤ B) : OwnNl w B' v xs := by
  rcases h with h | ⟨g, c, cur, h1, h2, h3, h4, h5, h6, h7⟩
  · exact .inl h
  · refine .inr ⟨g, c, cur, h1, Nat.le_trans hb h2, h3, h4, h5, h6, fun i x hx => ?_⟩
    obtain ⟨u, k1, k2⟩ := h7 i x hx
    exact ⟨u, k1, k2.base hb⟩
theorem OwnNl.rd {w : World} {B : Nat} {v : Value} {xs : List (List Nd)} (h : OwnNl w B v xs) : Nls w v xs := by
  rcases h with h | ⟨g, c, cur, h1, h2, h3, h4, h5, h6, h7⟩
  · exact .inl h
  · refine .inr ⟨g, 0, c, h1, h4, h5, blk_lt h3, fun i x hx => ?_⟩
    obtain ⟨u, k1, k2⟩ := h7 i x hx
    refine ⟨u, ?_, k2.nodes⟩
    rw [Nat.zero_add]
    exact (blk_cell h3 _).trans k1
/-- None is larger than memory. -/
def FitNl (x : List Nd) : Prop := x.length ≤ 1048576
def FitsNl (xs : List (List Nd)) : Prop := ∀ x ∈ xs, FitNl x
/-- The sizes' walk. -/
def SizesNl (xs : List (List Nd)) (r : Int) : Prop := r ≤ 1048576 ∧ (0 ≤ r → xs.length ≤ 1048576 ∧ FitsNl xs)
theorem infoNl : (Tryz.prog.info? 35).map (fun i => (i.zero, i.size, i.bytes)) = some (some (.slice none 0 0), 1, 24) := by kernel_rfl
end Go.Proofs.YtnbnhapepcegpaaGreatDoor

/- l13Fine of the reference: is a line as in a proof? -/
namespace Go.Proofs.YtnbnhapepcegpaaGreatDoor
open Go.RowKit
open Fm (Nd)

theorem hl_mem {L : List Hl} {k : Nat} (h : k < L.length) : hl L k ∈ L := by
  have e : L[k] = hl L k := by simp [hl, List.getD, h]
  rw [← e]; exact List.getElem_mem h
theorem nlD_mem {H : List (List Nd)} {k : Nat} (h : k < H.length) : H.getD k [] ∈ H := by
  have e : H[k] = H.getD k [] := by simp [List.getD, h]
  rw [← e]; exact List.getElem_mem h
theorem nlD_some {H : List (List Nd)} {k : Nat} (h : k < H.length) : H[k]? = some (H.getD k []) := by
  rw [List.getElem?_eq_getElem h]; simp [List.getD, h]
theorem nls_at {w : World} {v : Value} {H : List (List Nd)} (h : Nls w v H) {i : Nat} (hi : i < H.length) : ∃ bH oH cH u, v = .slice (some ⟨bH, oH, none⟩) H.length cH ∧ (∀ W, Grew w W → W.cell? ⟨bH, oH + i, none⟩ = some u) ∧ Nodes w u (H.getD i []) := by
  obtain ⟨b, o, c, h1, _, _, _, h5⟩ := NlRd.open_ h (by omega)
  obtain ⟨u, k1, k2⟩ := h5 i _ (nlD_some hi)
  exact ⟨b, o, c, u, h1, k1, k2⟩

set_option maxHeartbeats 2000000 in
set_option maxRecDepth 100000 in
theorem l13Fine_c (s : ByteArray) (vH vL : Value) (H : List (List Nd)) (L : List Hl) (k : Nat) (w : World) (hH : Nls w vH H) (hL : Hls w vL L) (hfH : FitsNl H) (hfL : FitsHl L) (hk : k < L.length) (hn : L.length ≤ 200) (hHn : H.length ≤ 1048576) (hP : FineTo (fine s H L) k) :
    Calls Tryz.prog 37 #[.string s, vH, vL, .int .i64 k] w fun e w' => e = .returned (.bool (fine s H L k)) ∧ Grew w w' := by
  obtain ⟨R, hR⟩ : ∃ R, R = fine s H L k := ⟨_, rfl⟩
  rw [← hR]
  obtain ⟨b, o, c, rfl, hc, hm, hb, hcell⟩ := HlRd.open_ hL (by omega)
  obtain ⟨u, hcl, hu⟩ := hcell k _ (hl_some hk)
  have hfx : (hl L k).2.2.2.length ≤ 1048576 := hfL _ (hl_mem hk)
  have HX := Lib.hid (fun i (hi : i < L.length) => (⟨hcell i _ (hl_some hi), hfL _ (hl_mem hi)⟩ : (∃ u, (∀ W, Grew w W → HlCells W b (o + i * 4) (hl L i) u) ∧ Nodes w u (hl L i).2.2.2) ∧ (hl L i).2.2.2.length ≤ 1048576))
  have HHY := Lib.hid (fun i (hi : i < H.length) => (⟨nls_at hH hi, hfH _ (nlD_mem hi)⟩ : (∃ bH oH cH u, vH = .slice (some ⟨bH, oH, none⟩) H.length cH ∧ (∀ W, Grew w W → W.cell? ⟨bH, oH + i, none⟩ = some u) ∧ Nodes w u (H.getD i [])) ∧ (H.getD i []).length ≤ 1048576))
  obtain ⟨AH, cH, rfl⟩ := Nls_slice hH
  have hHl := hHn
  have HPR := Lib.hid hP.prem
  unfold fine at hR
  clear hcell hL hH hfL hfH hP
  obtain ⟨x, hx⟩ : ∃ x, x = hl L k := ⟨_, rfl⟩
  rw [← hx] at hcl hu hfx hR
  clear hx
  obtain ⟨rr, fi, se, fo⟩ := x
  simp only at hu hfx
  obtain ⟨A0, c0, rfl⟩ := nodes_slice hu
  have q0 := fun W (hW : Grew w W) => (hcl W hW).1
  have q1 := fun W (hW : Grew w W) => (hcl W hW).2.1
  have q2 := fun W (hW : Grew w W) => (hcl W hW).2.2.1
  have q3 := fun W (hW : Grew w W) => (hcl W hW).2.2.2
  simp only at q0 q1 q2 q3
  have KF := Lib.hid (fun W (hW : Grew w W) => l02Is_c _ fo W (hu.grew hW) (by omega))
  have HU := Lib.hid (fun W (hW : Grew w W) => hu.grew hW)
  clear hcl hu
  obtain ⟨fl, hfl⟩ : ∃ fl, fl = fo.length := ⟨_, rfl⟩
  rw [← hfl] at q3 hfx KF HU
  replace hfl := Lib.hid hfl
  have hal := (Grew.refl w).alloc (.cells #[.int .i64 rr, .int .i64 fi, .int .i64 se, .slice A0 fl c0] 51)
  have f0 : ∀ W, Grew (w.alloc (.cells #[.int .i64 rr, .int .i64 fi, .int .i64 se, .slice A0 fl c0] 51)) W → W.cell? ⟨w.heap.size, 0, none⟩ = some (.int .i64 rr) := fun W hW => (hW.cell (p := ⟨w.heap.size, 0, none⟩) (by simp)).trans (by simp)
  have f1 : ∀ W, Grew (w.alloc (.cells #[.int .i64 rr, .int .i64 fi, .int .i64 se, .slice A0 fl c0] 51)) W → W.cell? ⟨w.heap.size, 1, none⟩ = some (.int .i64 fi) := fun W hW => (hW.cell (p := ⟨w.heap.size, 1, none⟩) (by simp)).trans (by simp)
  have f2 : ∀ W, Grew (w.alloc (.cells #[.int .i64 rr, .int .i64 fi, .int .i64 se, .slice A0 fl c0] 51)) W → W.cell? ⟨w.heap.size, 2, none⟩ = some (.int .i64 se) := fun W hW => (hW.cell (p := ⟨w.heap.size, 2, none⟩) (by simp)).trans (by simp)
  have f3 : ∀ W, Grew (w.alloc (.cells #[.int .i64 rr, .int .i64 fi, .int .i64 se, .slice A0 fl c0] 51)) W → W.cell? ⟨w.heap.size, 3, none⟩ = some (.slice A0 fl c0) := fun W hW => (hW.cell (p := ⟨w.heap.size, 3, none⟩) (by simp)).trans (by simp)
  generalize hwb : w.alloc (.cells #[.int .i64 rr, .int .i64 fi, .int .i64 se, .slice A0 fl c0] 51) = wb at *
  have rb := Grew.refl wb
  have rbd := rb.drew
  replace hwb := hwb.symm
  have hwr := Grew.refl w
  have KN := Lib.hid (fun (a : Int) W => l01In_c a 0 ((k : Int) - 1) W)
  have hkc : (k : Int) < (L.length : Int) := by omega
  generalize hln : L.length = ln at *
  replace hln := Lib.hid hln
  go_enter Tryz.func37, Tryz.ntmps37
  go_wp2_with fail
  rw [← hwb]
  clear hwb
  refine (KF.out _ hal).mono ?_
  rintro e w1 ⟨rfl, hg1⟩
  have h1 : Grew wb w1 := hg1
  have r1 := Grew.refl w1
  have r1d := r1.drew
  have e0 := fun W (hW : Grew w1 W) => f0 W (h1.trans hW)
  have e1 := fun W (hW : Grew w1 W) => f1 W (h1.trans hW)
  have e2 := fun W (hW : Grew w1 W) => f2 W (h1.trans hW)
  have e3 := fun W (hW : Grew w1 W) => f3 W (h1.trans hW)
  have g1 : Grew w w1 := hal.trans h1
  clear f0 f1 f2 f3 q0 q1 q2 q3 KF
  cases hf : fmB fo with
  | false =>
    rw [fx_no hf] at hR
    go_wp2_with fail
    go_ret
    exact ⟨by rw [hR]; rfl, g1⟩
  | true =>
  go_wp2_with fail
  refine (KN.out fi _).mono ?_
  rintro e w2 ⟨rfl, hg2⟩
  have h2 : Grew w1 w2 := hg2
  have r2 := Grew.refl w2
  have r2d := r2.drew
  have g2 := g1.trans h2
  have a0 := fun W (hW : Grew w2 W) => e0 W (h2.trans hW)
  have a1 := fun W (hW : Grew w2 W) => e1 W (h2.trans hW)
  have a2 := fun W (hW : Grew w2 W) => e2 W (h2.trans hW)
  have a3 := fun W (hW : Grew w2 W) => e3 W (h2.trans hW)
  clear e0 e1 e2 e3 r1d
  by_cases h1r : rr = 1
  · subst h1r
    rw [fx_1 hf] at hR
    cases hse : (se == 0) with
    | false =>
      rw [hse, Bool.false_and] at hR
      go_wp2_with fail
      refine wp_region_held_drew (S := fun w' => Grew w2 w') (by kernel_rfl) r2d (fun hHeld => ?_)
      refine wpAnyH_take (i := 0) (oi := ?on1) (v := ?vn1) ?hin1 ?an1 ?bn1 ?cn1 ?qn1 (Or.inl ⟨?dn1, ?hyn1⟩) hHeld ?restn1
      case hin1 => (simp only [List.getElem?_toArray, List.getElem?_cons_zero]; exact rfl)
      case an1 => kernel_rfl
      case bn1 => kernel_rfl
      case cn1 => kernel_rfl
      case qn1 => exact fun _ _ _ h => h
      case dn1 => rfl
      case hyn1 => (intro z hSw; (try dsimp only at hSw); go_simp; (try with_reducible rfl))
      try simp only [Act.put, List.setIfInBounds_toArray, List.set_cons_zero, List.set_cons_succ]
      refine wpAnyH_take (i := 1) (oi := ?on2) (v := ?vn2) ?hin2 ?an2 ?bn2 ?cn2 ?qn2 (Or.inl ⟨?dn2, ?hyn2⟩) hHeld ?restn2
      case hin2 => (simp only [List.getElem?_toArray, List.getElem?_cons_succ, List.getElem?_cons_zero]; exact rfl)
      case an2 => kernel_rfl
      case bn2 => kernel_rfl
      case cn2 => kernel_rfl
      case qn2 => exact fun _ _ _ h => h
      case dn2 => rfl
      case hyn2 => (intro z hSw; (try dsimp only at hSw); go_simp; (try with_reducible rfl))
      try simp only [Act.put, List.setIfInBounds_toArray, List.set_cons_zero, List.set_cons_succ]
      refine wpAnyH_take (i := 2) (oi := ?on3) (v := ?vn3) ?hin3 ?an3 ?bn3 ?cn3 ?qn3 (Or.inl ⟨?dn3, ?hyn3⟩) hHeld ?restn3
      case hin3 => (simp only [List.getElem?_toArray, List.getElem?_cons_succ, List.getElem?_cons_zero]; exact rfl)
      case an3 => kernel_rfl
      case bn3 => kernel_rfl
      case cn3 => kernel_rfl
      case qn3 => exact fun _ _ _ h => h
      case dn3 => rfl
      case hyn3 => (intro z hSw; (try dsimp only at hSw); go_simp; (try with_reducible rfl))
      try simp only [Act.put, List.setIfInBounds_toArray, List.set_cons_zero, List.set_cons_succ]
      refine wpAnyH_take (i := 3) (oi := ?on4) (v := ?vn4) ?hin4 ?an4 ?bn4 ?cn4 ?qn4 (Or.inl ⟨?dn4, ?hyn4⟩) hHeld ?restn4
      case hin4 => (simp only [List.getElem?_toArray, List.getElem?_cons_succ, List.getElem?_cons_zero]; exact rfl)
      case an4 => kernel_rfl
      case bn4 => kernel_rfl
      case cn4 => kernel_rfl
      case qn4 => exact fun _ _ _ h => h
      case dn4 => rfl
      case hyn4 => (intro z hSw; (try dsimp only at hSw); go_simp; (try with_reducible rfl))
      try simp only [Act.put, List.setIfInBounds_toArray, List.set_cons_zero, List.set_cons_succ]
      refine wpAnyH_take (i := 4) (oi := ?on5) ?hin5 ?an5 ?bn5 ?cn5 ?qn5 (Or.inr ⟨?dn5, rfl⟩) hHeld ?restn5
      case hin5 => (simp only [List.getElem?_toArray, List.getElem?_cons_succ, List.getElem?_cons_zero]; exact rfl)
      case an5 => kernel_rfl
      case bn5 => kernel_rfl
      case cn5 => kernel_rfl
      case qn5 => exact fun _ _ _ h => h
      case dn5 => rfl
      try simp only [Act.put, List.setIfInBounds_toArray, List.set_cons_zero, List.set_cons_succ]
      refine wpAnyH_take (i := 5) (oi := ?on6) ?hin6 ?an6 ?bn6 ?cn6 ?qn6 (Or.inr ⟨?dn6, rfl⟩) hHeld ?restn6
      case hin6 => (simp only [List.getElem?_toArray, List.getElem?_cons_succ, List.getElem?_cons_zero]; exact rfl)
      case an6 => kernel_rfl
      case bn6 => kernel_rfl
      case cn6 => kernel_rfl
      case qn6 => exact fun _ _ _ h => h
      case dn6 => rfl
      try simp only [Act.put, List.setIfInBounds_toArray, List.set_cons_zero, List.set_cons_succ]
      refine wpAnyH_take (i := 6) (oi := ?on7) ?hin7 ?an7 ?bn7 ?cn7 ?qn7 (Or.inr ⟨?dn7, rfl⟩) hHeld ?restn7
      case hin7 => (simp only [List.getElem?_toArray, List.getElem?_cons_succ, List.getElem?_cons_zero]; exact rfl)
      case an7 => kernel_rfl
      case bn7 => kernel_rfl
      case cn7 => kernel_rfl
      case qn7 => exact fun _ _ _ h => h
      case dn7 => rfl
      try simp only [Act.put, List.setIfInBounds_toArray, List.set_cons_zero, List.set_cons_succ]
      refine wpAnyH_take (i := 7) (oi := ?on8) ?hin8 ?an8 ?bn8 ?cn8 ?qn8 (Or.inr ⟨?dn8, rfl⟩) hHeld ?restn8
      case hin8 => (simp only [List.getElem?_toArray, List.getElem?_cons_succ, List.getElem?_cons_zero]; exact rfl)
      case an8 => kernel_rfl
      case bn8 => kernel_rfl
      case cn8 => kernel_rfl
      case qn8 => exact fun _ _ _ h => h
      case dn8 => rfl
      try simp only [Act.put, List.setIfInBounds_toArray, List.set_cons_zero, List.set_cons_succ]
      refine wpAnyH_take (i := 8) (oi := ?on9) ?hin9 ?an9 ?bn9 ?cn9 ?qn9 (Or.inr ⟨?dn9, rfl⟩) hHeld ?restn9
      case hin9 => (simp only [List.getElem?_toArray, List.getElem?_cons_succ, List.getElem?_cons_zero]; exact rfl)
      case an9 => kernel_rfl
      case bn9 => kernel_rfl
      case cn9 => kernel_rfl
      case qn9 => exact fun _ _ _ h => h
      case dn9 => rfl
      try simp only [Act.put, List.setIfInBounds_toArray, List.set_cons_zero, List.set_cons_succ]
      refine wpAnyH_take (i := 9) (oi := ?on10) (v := ?vn10) ?hin10 ?an10 ?bn10 ?cn10 ?qn10 (Or.inl ⟨?dn10, ?hyn10⟩) hHeld ?restn10
      case hin10 => (simp only [List.getElem?_toArray, List.getElem?_cons_succ, List.getElem?_cons_zero]; exact rfl)
      case an10 => kernel_rfl
      case bn10 => kernel_rfl
      case cn10 => kernel_rfl
      case qn10 => exact fun _ _ _ h => h
      case dn10 => rfl
      case hyn10 => (intro z hSw; (try dsimp only at hSw); go_simp; (try with_reducible rfl))
      try simp only [Act.put, List.setIfInBounds_toArray, List.set_cons_zero, List.set_cons_succ]
      refine wpAnyH_take (i := 10) (oi := ?on11) (v := ?vn11) ?hin11 ?an11 ?bn11 ?cn11 ?qn11 (Or.inl ⟨?dn11, ?hyn11⟩) hHeld ?restn11
      case hin11 => (simp only [List.getElem?_toArray, List.getElem?_cons_succ, List.getElem?_cons_zero]; exact rfl)
      case an11 => kernel_rfl
      case bn11 => kernel_rfl
      case cn11 => kernel_rfl
      case qn11 => exact fun _ _ _ h => h
      case dn11 => rfl
      case hyn11 => (intro z hSw; (try dsimp only at hSw); go_simp; (try with_reducible rfl))
      try simp only [Act.put, List.setIfInBounds_toArray, List.set_cons_zero, List.set_cons_succ]
      refine wpAnyH_take (i := 11) (oi := ?on12) ?hin12 ?an12 ?bn12 ?cn12 ?qn12 (Or.inr ⟨?dn12, rfl⟩) hHeld ?restn12
      case hin12 => (simp only [List.getElem?_toArray, List.getElem?_cons_succ, List.getElem?_cons_zero]; exact rfl)
      case an12 => kernel_rfl
      case bn12 => kernel_rfl
      case cn12 => kernel_rfl
      case qn12 => exact fun _ _ _ h => h
      case dn12 => rfl
      try simp only [Act.put, List.setIfInBounds_toArray, List.set_cons_zero, List.set_cons_succ]
      refine wpAnyH_take (i := 12) (oi := ?on13) ?hin13 ?an13 ?bn13 ?cn13 ?qn13 (Or.inr ⟨?dn13, rfl⟩) hHeld ?restn13
      case hin13 => (simp only [List.getElem?_toArray, List.getElem?_cons_succ, List.getElem?_cons_zero]; exact rfl)
      case an13 => kernel_rfl
      case bn13 => kernel_rfl
      case cn13 => kernel_rfl
      case qn13 => exact fun _ _ _ h => h
      case dn13 => rfl
      try simp only [Act.put, List.setIfInBounds_toArray, List.set_cons_zero, List.set_cons_succ]
      refine wpAnyH_take (i := 13) (oi := ?on14) ?hin14 ?an14 ?bn14 ?cn14 ?qn14 (Or.inr ⟨?dn14, rfl⟩) hHeld ?restn14
      case hin14 => (simp only [List.getElem?_toArray, List.getElem?_cons_succ, List.getElem?_cons_zero]; exact rfl)
      case an14 => kernel_rfl
      case bn14 => kernel_rfl
      case cn14 => kernel_rfl
      case qn14 => exact fun _ _ _ h => h
      case dn14 => rfl
      try simp only [Act.put, List.setIfInBounds_toArray, List.set_cons_zero, List.set_cons_succ]
      refine wpAnyH_take (i := 14) (oi := ?on15) ?hin15 ?an15 ?bn15 ?cn15 ?qn15 (Or.inr ⟨?dn15, rfl⟩) hHeld ?restn15
      case hin15 => (simp only [List.getElem?_toArray, List.getElem?_cons_succ, List.getElem?_cons_zero]; exact rfl)
      case an15 => kernel_rfl
      case bn15 => kernel_rfl
      case cn15 => kernel_rfl
      case qn15 => exact fun _ _ _ h => h
      case dn15 => rfl
      try simp only [Act.put, List.setIfInBounds_toArray, List.set_cons_zero, List.set_cons_succ]
      refine wpAnyH_take (i := 15) (oi := ?on16) ?hin16 ?an16 ?bn16 ?cn16 ?qn16 (Or.inr ⟨?dn16, rfl⟩) hHeld ?restn16
      case hin16 => (simp only [List.getElem?_toArray, List.getElem?_cons_succ, List.getElem?_cons_zero]; exact rfl)
      case an16 => kernel_rfl
      case bn16 => kernel_rfl
      case cn16 => kernel_rfl
      case qn16 => exact fun _ _ _ h => h
      case dn16 => rfl
      try simp only [Act.put, List.setIfInBounds_toArray, List.set_cons_zero, List.set_cons_succ]
      refine wpAnyH_take (i := 16) (oi := ?on17) (v := ?vn17) ?hin17 ?an17 ?bn17 ?cn17 ?qn17 (Or.inl ⟨?dn17, ?hyn17⟩) hHeld ?restn17
      case hin17 => (simp only [List.getElem?_toArray, List.getElem?_cons_succ, List.getElem?_cons_zero]; exact rfl)
      case an17 => kernel_rfl
      case bn17 => kernel_rfl
      case cn17 => kernel_rfl
      case qn17 => exact fun _ _ _ h => h
      case dn17 => rfl
      case hyn17 => (intro z hSw; (try dsimp only at hSw); go_simp; (try with_reducible rfl))
      try simp only [Act.put, List.setIfInBounds_toArray, List.set_cons_zero, List.set_cons_succ]
      refine wpAnyH_take (i := 17) (oi := ?on18) (v := ?vn18) ?hin18 ?an18 ?bn18 ?cn18 ?qn18 (Or.inl ⟨?dn18, ?hyn18⟩) hHeld ?restn18
      case hin18 => (simp only [List.getElem?_toArray, List.getElem?_cons_succ, List.getElem?_cons_zero]; exact rfl)
      case an18 => kernel_rfl
      case bn18 => kernel_rfl
      case cn18 => kernel_rfl
      case qn18 => exact fun _ _ _ h => h
      case dn18 => rfl
      case hyn18 => (intro z hSw; (try dsimp only at hSw); go_simp; (try with_reducible rfl))
      try simp only [Act.put, List.setIfInBounds_toArray, List.set_cons_zero, List.set_cons_succ]
      refine wpAnyH_done (by kernel_rfl) ?_ _
      go_wp2_with fail
      go_ret
      exact ⟨by rw [hR]; rfl, g2.trans (by first | assumption | exact r2d)⟩
    | true =>
      rw [hse, Bool.true_and] at hR
      cases hhas : decide (fi ∈ (sysL s).getD []) with
      | false =>
        rw [hhas, Bool.false_and] at hR
        go_wp2_with fail
        refine wp_region_held_drew (S := fun w' => Grew w2 w') (by kernel_rfl) r2d (fun hHeld => ?_)
        refine wpAnyH_take (i := 0) (oi := ?on19) (v := ?vn19) ?hin19 ?an19 ?bn19 ?cn19 ?qn19 (Or.inl ⟨?dn19, ?hyn19⟩) hHeld ?restn19
        case hin19 => (simp only [List.getElem?_toArray, List.getElem?_cons_zero]; exact rfl)
        case an19 => kernel_rfl
        case bn19 => kernel_rfl
        case cn19 => kernel_rfl
        case qn19 => exact fun _ _ _ h => h
        case dn19 => rfl
        case hyn19 => (intro z hSw; (try dsimp only at hSw); go_simp; (try with_reducible rfl))
        try simp only [Act.put, List.setIfInBounds_toArray, List.set_cons_zero, List.set_cons_succ]
        refine wpAnyH_take (i := 1) (oi := ?on20) (v := ?vn20) ?hin20 ?an20 ?bn20 ?cn20 ?qn20 (Or.inl ⟨?dn20, ?hyn20⟩) hHeld ?restn20
        case hin20 => (simp only [List.getElem?_toArray, List.getElem?_cons_succ, List.getElem?_cons_zero]; exact rfl)
        case an20 => kernel_rfl
        case bn20 => kernel_rfl
        case cn20 => kernel_rfl
        case qn20 => exact fun _ _ _ h => h
        case dn20 => rfl
        case hyn20 => (intro z hSw; (try dsimp only at hSw); go_simp; (try with_reducible rfl))
        try simp only [Act.put, List.setIfInBounds_toArray, List.set_cons_zero, List.set_cons_succ]
        refine wpAnyH_take (i := 2) (oi := ?on21) (v := ?vn21) ?hin21 ?an21 ?bn21 ?cn21 ?qn21 (Or.inl ⟨?dn21, ?hyn21⟩) hHeld ?restn21
        case hin21 => (simp only [List.getElem?_toArray, List.getElem?_cons_succ, List.getElem?_cons_zero]; exact rfl)
        case an21 => kernel_rfl
        case bn21 => kernel_rfl
        case cn21 => kernel_rfl
        case qn21 => exact fun _ _ _ h => h
        case dn21 => rfl
        case hyn21 => (intro z hSw; (try dsimp only at hSw); go_simp; (try with_reducible rfl))
        try simp only [Act.put, List.setIfInBounds_toArray, List.set_cons_zero, List.set_cons_succ]
        refine wpAnyH_take (i := 3) (oi := ?on22) (v := ?vn22) ?hin22 ?an22 ?bn22 ?cn22 ?qn22 (Or.inl ⟨?dn22, ?hyn22⟩) hHeld ?restn22
        case hin22 => (simp only [List.getElem?_toArray, List.getElem?_cons_succ, List.getElem?_cons_zero]; exact rfl)
        case an22 => kernel_rfl
        case bn22 => kernel_rfl
        case cn22 => kernel_rfl
        case qn22 => exact fun _ _ _ h => h
        case dn22 => rfl
        case hyn22 => (intro z hSw; (try dsimp only at hSw); go_simp; (try with_reducible rfl))
        try simp only [Act.put, List.setIfInBounds_toArray, List.set_cons_zero, List.set_cons_succ]
        refine wpAnyH_take (i := 4) (oi := ?on23) (v := ?vn23) ?hin23 ?an23 ?bn23 ?cn23 ?qn23 (Or.inl ⟨?dn23, ?hyn23⟩) hHeld ?restn23
        case hin23 => (simp only [List.getElem?_toArray, List.getElem?_cons_succ, List.getElem?_cons_zero]; exact rfl)
        case an23 => kernel_rfl
        case bn23 => kernel_rfl
        case cn23 => kernel_rfl
        case qn23 => exact fun _ _ _ h => h
        case dn23 => rfl
        case hyn23 => (intro z hSw; (try dsimp only at hSw); go_simp; (try with_reducible rfl))
        try simp only [Act.put, List.setIfInBounds_toArray, List.set_cons_zero, List.set_cons_succ]
        refine wpAnyH_take (i := 6) (oi := ?on24) (v := ?vn24) ?hin24 ?an24 ?bn24 ?cn24 ?qn24 (Or.inl ⟨?dn24, ?hyn24⟩) hHeld ?restn24
        case hin24 => (simp only [List.getElem?_toArray, List.getElem?_cons_succ, List.getElem?_cons_zero]; exact rfl)
        case an24 => kernel_rfl
        case bn24 => kernel_rfl
        case cn24 => kernel_rfl
        case qn24 => exact fun _ _ _ h => h
        case dn24 => rfl
        case hyn24 => (intro z hSw; (try dsimp only at hSw); go_simp; (try with_reducible rfl))
        try simp only [Act.put, List.setIfInBounds_toArray, List.set_cons_zero, List.set_cons_succ]
        refine wpAnyH_take (i := 7) (oi := ?on25) (v := ?vn25) ?hin25 ?an25 ?bn25 ?cn25 ?qn25 (Or.inl ⟨?dn25, ?hyn25⟩) hHeld ?restn25
        case hin25 => (simp only [List.getElem?_toArray, List.getElem?_cons_succ, List.getElem?_cons_zero]; exact rfl)
        case an25 => kernel_rfl
        case bn25 => kernel_rfl
        case cn25 => kernel_rfl
        case qn25 => exact fun _ _ _ h => h
        case dn25 => rfl
        case hyn25 => (intro z hSw; (try dsimp only at hSw); go_simp; (try with_reducible rfl))
        try simp only [Act.put, List.setIfInBounds_toArray, List.set_cons_zero, List.set_cons_succ]
        refine wpAnyH_ready (rs := [5]) (by kernel_rfl) (by simp) ?_
        refine AllReadyH.cons (o := ?on26) ?hin26 ?restn26 AllReadyH.nil
        case hin26 => (simp only [List.getElem?_toArray, List.getElem?_cons_succ, List.getElem?_cons_zero]; exact rfl)
        intro K hK
        go_simp
        go_at_call 35
        refine (l13Schemes_c s _).mono ?_
        rintro e w3 ⟨v3, rfl, ho3, hg3⟩
        have h3 : Grew w2 w3 := Grew.trans (by repeat (first | with_reducible assumption | with_reducible refine Grew.alloc ?_ _ | with_reducible refine Grew.drew ?_ | with_reducible refine Grew.drewN ?_ _)) hg3
        obtain ⟨A3, c3, rfl⟩ := ints_slice ho3.ints
        refine hK.out _ _ ?_ (fun hHeld => ?_)
        · (try dsimp only); first | with_reducible assumption | exact Grew.alloc ‹_› _
        clear hK K
        try simp only [Act.put, List.setIfInBounds_toArray, List.set_cons_zero, List.set_cons_succ]
        refine wpAnyH_ready (rs := [8]) (by kernel_rfl) (by simp) ?_
        refine AllReadyH.cons (o := ?on27) ?hin27 ?restn27 AllReadyH.nil
        case hin27 => (simp only [List.getElem?_toArray, List.getElem?_cons_succ, List.getElem?_cons_zero]; exact rfl)
        intro K hK
        go_simp
        have KHs := l01Has_c _ _ fi w3 ho3.ints
        rw [hhas] at KHs
        go_at_call 47
        refine (KHs).mono ?_
        rintro e w4 ⟨rfl, hg4⟩
        have h4 : Grew w2 w4 := h3.trans hg4
        refine hK.out _ _ ?_ (fun hHeld => ?_)
        · (try dsimp only); first | with_reducible assumption | exact Grew.alloc ‹_› _
        clear hK K
        try simp only [Act.put, List.setIfInBounds_toArray, List.set_cons_zero, List.set_cons_succ]
        refine wpAnyH_take (i := 9) (oi := ?on28) (v := ?vn28) ?hin28 ?an28 ?bn28 ?cn28 ?qn28 (Or.inl ⟨?dn28, ?hyn28⟩) hHeld ?restn28
        case hin28 => (simp only [List.getElem?_toArray, List.getElem?_cons_succ, List.getElem?_cons_zero]; exact rfl)
        case an28 => kernel_rfl
        case bn28 => kernel_rfl
        case cn28 => kernel_rfl
        case qn28 => exact fun _ _ _ h => h
        case dn28 => rfl
        case hyn28 => (intro z hSw; (try dsimp only at hSw); go_simp; (try with_reducible rfl))
        try simp only [Act.put, List.setIfInBounds_toArray, List.set_cons_zero, List.set_cons_succ]
        refine wpAnyH_take (i := 10) (oi := ?on29) (v := ?vn29) ?hin29 ?an29 ?bn29 ?cn29 ?qn29 (Or.inl ⟨?dn29, ?hyn29⟩) hHeld ?restn29
        case hin29 => (simp only [List.getElem?_toArray, List.getElem?_cons_succ, List.getElem?_cons_zero]; exact rfl)
        case an29 => kernel_rfl
        case bn29 => kernel_rfl
        case cn29 => kernel_rfl
        case qn29 => exact fun _ _ _ h => h
        case dn29 => rfl
        case hyn29 => (intro z hSw; (try dsimp only at hSw); go_simp; (try with_reducible rfl))
        try simp only [Act.put, List.setIfInBounds_toArray, List.set_cons_zero, List.set_cons_succ]
        refine wpAnyH_take (i := 11) (oi := ?on30) ?hin30 ?an30 ?bn30 ?cn30 ?qn30 (Or.inr ⟨?dn30, rfl⟩) hHeld ?restn30
        case hin30 => (simp only [List.getElem?_toArray, List.getElem?_cons_succ, List.getElem?_cons_zero]; exact rfl)
        case an30 => kernel_rfl
        case bn30 => kernel_rfl
        case cn30 => kernel_rfl
        case qn30 => exact fun _ _ _ h => h
        case dn30 => rfl
        try simp only [Act.put, List.setIfInBounds_toArray, List.set_cons_zero, List.set_cons_succ]
        refine wpAnyH_take (i := 12) (oi := ?on31) ?hin31 ?an31 ?bn31 ?cn31 ?qn31 (Or.inr ⟨?dn31, rfl⟩) hHeld ?restn31
        case hin31 => (simp only [List.getElem?_toArray, List.getElem?_cons_succ, List.getElem?_cons_zero]; exact rfl)
        case an31 => kernel_rfl
        case bn31 => kernel_rfl
        case cn31 => kernel_rfl
        case qn31 => exact fun _ _ _ h => h
        case dn31 => rfl
        try simp only [Act.put, List.setIfInBounds_toArray, List.set_cons_zero, List.set_cons_succ]
        refine wpAnyH_take (i := 13) (oi := ?on32) ?hin32 ?an32 ?bn32 ?cn32 ?qn32 (Or.inr ⟨?dn32, rfl⟩) hHeld ?restn32
        case hin32 => (simp only [List.getElem?_toArray, List.getElem?_cons_succ, List.getElem?_cons_zero]; exact rfl)
        case an32 => kernel_rfl
        case bn32 => kernel_rfl
        case cn32 => kernel_rfl
        case qn32 => exact fun _ _ _ h => h
        case dn32 => rfl
        try simp only [Act.put, List.setIfInBounds_toArray, List.set_cons_zero, List.set_cons_succ]
        refine wpAnyH_take (i := 14) (oi := ?on33) ?hin33 ?an33 ?bn33 ?cn33 ?qn33 (Or.inr ⟨?dn33, rfl⟩) hHeld ?restn33
        case hin33 => (simp only [List.getElem?_toArray, List.getElem?_cons_succ, List.getElem?_cons_zero]; exact rfl)
        case an33 => kernel_rfl
        case bn33 => kernel_rfl
        case cn33 => kernel_rfl
        case qn33 => exact fun _ _ _ h => h
        case dn33 => rfl
        try simp only [Act.put, List.setIfInBounds_toArray, List.set_cons_zero, List.set_cons_succ]
        refine wpAnyH_take (i := 15) (oi := ?on34) ?hin34 ?an34 ?bn34 ?cn34 ?qn34 (Or.inr ⟨?dn34, rfl⟩) hHeld ?restn34
        case hin34 => (simp only [List.getElem?_toArray, List.getElem?_cons_succ, List.getElem?_cons_zero]; exact rfl)
        case an34 => kernel_rfl
        case bn34 => kernel_rfl
        case cn34 => kernel_rfl
        case qn34 => exact fun _ _ _ h => h
        case dn34 => rfl
        try simp only [Act.put, List.setIfInBounds_toArray, List.set_cons_zero, List.set_cons_succ]
        refine wpAnyH_take (i := 16) (oi := ?on35) (v := ?vn35) ?hin35 ?an35 ?bn35 ?cn35 ?qn35 (Or.inl ⟨?dn35, ?hyn35⟩) hHeld ?restn35
        case hin35 => (simp only [List.getElem?_toArray, List.getElem?_cons_succ, List.getElem?_cons_zero]; exact rfl)
        case an35 => kernel_rfl
        case bn35 => kernel_rfl
        case cn35 => kernel_rfl
        case qn35 => exact fun _ _ _ h => h
        case dn35 => rfl
        case hyn35 => (intro z hSw; (try dsimp only at hSw); go_simp; (try with_reducible rfl))
        try simp only [Act.put, List.setIfInBounds_toArray, List.set_cons_zero, List.set_cons_succ]
        refine wpAnyH_take (i := 17) (oi := ?on36) (v := ?vn36) ?hin36 ?an36 ?bn36 ?cn36 ?qn36 (Or.inl ⟨?dn36, ?hyn36⟩) hHeld ?restn36
        case hin36 => (simp only [List.getElem?_toArray, List.getElem?_cons_succ, List.getElem?_cons_zero]; exact rfl)
        case an36 => kernel_rfl
        case bn36 => kernel_rfl
        case cn36 => kernel_rfl
        case qn36 => exact fun _ _ _ h => h
        case dn36 => rfl
        case hyn36 => (intro z hSw; (try dsimp only at hSw); go_simp; (try with_reducible rfl))
        try simp only [Act.put, List.setIfInBounds_toArray, List.set_cons_zero, List.set_cons_succ]
        refine wpAnyH_done (by kernel_rfl) ?_ _
        go_wp2_with fail
        go_ret
        exact ⟨by rw [hR]; rfl, g2.trans h4⟩
      | true =>
        rw [hhas, Bool.true_and] at hR
        obtain ⟨t, rfl, htl⟩ := fmB_tree hf
        have hmem : fi ∈ (sysL s).getD [] := by simpa using hhas
        have hfi : 0 ≤ fi ∧ fi < 19 := by
          cases hsy : sysL s with
          | none => rw [hsy] at hmem; simp at hmem
          | some Ls => rw [hsy] at hmem; exact (sysL_mem hsy).2.2 fi hmem
        obtain ⟨a, rfl⟩ : ∃ a : Nat, fi = (a : Int) := ⟨fi.toNat, by omega⟩
        rw [Int.toNat_natCast] at hR
        have KI := Lib.hid (fun W (hW : Grew w W) => l13Instance_c a _ t W (by omega) (HU.out W hW) htl)
        generalize instB a (Fm.enc t) = ib at *
        go_wp2_with fail
        refine wp_region_held_drew (S := fun w' => Grew w2 w') (by kernel_rfl) r2d (fun hHeld => ?_)
        refine wpAnyH_take (i := 0) (oi := ?on37) (v := ?vn37) ?hin37 ?an37 ?bn37 ?cn37 ?qn37 (Or.inl ⟨?dn37, ?hyn37⟩) hHeld ?restn37
        case hin37 => (simp only [List.getElem?_toArray, List.getElem?_cons_zero]; exact rfl)
        case an37 => kernel_rfl
        case bn37 => kernel_rfl
        case cn37 => kernel_rfl
        case qn37 => exact fun _ _ _ h => h
        case dn37 => rfl
        case hyn37 => (intro z hSw; (try dsimp only at hSw); go_simp; (try with_reducible rfl))
        try simp only [Act.put, List.setIfInBounds_toArray, List.set_cons_zero, List.set_cons_succ]
        refine wpAnyH_take (i := 1) (oi := ?on38) (v := ?vn38) ?hin38 ?an38 ?bn38 ?cn38 ?qn38 (Or.inl ⟨?dn38, ?hyn38⟩) hHeld ?restn38
        case hin38 => (simp only [List.getElem?_toArray, List.getElem?_cons_succ, List.getElem?_cons_zero]; exact rfl)
        case an38 => kernel_rfl
        case bn38 => kernel_rfl
        case cn38 => kernel_rfl
        case qn38 => exact fun _ _ _ h => h
        case dn38 => rfl
        case hyn38 => (intro z hSw; (try dsimp only at hSw); go_simp; (try with_reducible rfl))
        try simp only [Act.put, List.setIfInBounds_toArray, List.set_cons_zero, List.set_cons_succ]
        refine wpAnyH_take (i := 2) (oi := ?on39) (v := ?vn39) ?hin39 ?an39 ?bn39 ?cn39 ?qn39 (Or.inl ⟨?dn39, ?hyn39⟩) hHeld ?restn39
        case hin39 => (simp only [List.getElem?_toArray, List.getElem?_cons_succ, List.getElem?_cons_zero]; exact rfl)
        case an39 => kernel_rfl
        case bn39 => kernel_rfl
        case cn39 => kernel_rfl
        case qn39 => exact fun _ _ _ h => h
        case dn39 => rfl
        case hyn39 => (intro z hSw; (try dsimp only at hSw); go_simp; (try with_reducible rfl))
        try simp only [Act.put, List.setIfInBounds_toArray, List.set_cons_zero, List.set_cons_succ]
        refine wpAnyH_take (i := 3) (oi := ?on40) (v := ?vn40) ?hin40 ?an40 ?bn40 ?cn40 ?qn40 (Or.inl ⟨?dn40, ?hyn40⟩) hHeld ?restn40
        case hin40 => (simp only [List.getElem?_toArray, List.getElem?_cons_succ, List.getElem?_cons_zero]; exact rfl)
        case an40 => kernel_rfl
        case bn40 => kernel_rfl
        case cn40 => kernel_rfl
        case qn40 => exact fun _ _ _ h => h
        case dn40 => rfl
        case hyn40 => (intro z hSw; (try dsimp only at hSw); go_simp; (try with_reducible rfl))
        try simp only [Act.put, List.setIfInBounds_toArray, List.set_cons_zero, List.set_cons_succ]
        refine wpAnyH_take (i := 4) (oi := ?on41) (v := ?vn41) ?hin41 ?an41 ?bn41 ?cn41 ?qn41 (Or.inl ⟨?dn41, ?hyn41⟩) hHeld ?restn41
        case hin41 => (simp only [List.getElem?_toArray, List.getElem?_cons_succ, List.getElem?_cons_zero]; exact rfl)
        case an41 => kernel_rfl
        case bn41 => kernel_rfl
        case cn41 => kernel_rfl
        case qn41 => exact fun _ _ _ h => h
        case dn41 => rfl
        case hyn41 => (intro z hSw; (try dsimp only at hSw); go_simp; (try with_reducible rfl))
        try simp only [Act.put, List.setIfInBounds_toArray, List.set_cons_zero, List.set_cons_succ]
        refine wpAnyH_take (i := 6) (oi := ?on42) (v := ?vn42) ?hin42 ?an42 ?bn42 ?cn42 ?qn42 (Or.inl ⟨?dn42, ?hyn42⟩) hHeld ?restn42
        case hin42 => (simp only [List.getElem?_toArray, List.getElem?_cons_succ, List.getElem?_cons_zero]; exact rfl)
        case an42 => kernel_rfl
        case bn42 => kernel_rfl
        case cn42 => kernel_rfl
        case qn42 => exact fun _ _ _ h => h
        case dn42 => rfl
        case hyn42 => (intro z hSw; (try dsimp only at hSw); go_simp; (try with_reducible rfl))
        try simp only [Act.put, List.setIfInBounds_toArray, List.set_cons_zero, List.set_cons_succ]
        refine wpAnyH_take (i := 7) (oi := ?on43) (v := ?vn43) ?hin43 ?an43 ?bn43 ?cn43 ?qn43 (Or.inl ⟨?dn43, ?hyn43⟩) hHeld ?restn43
        case hin43 => (simp only [List.getElem?_toArray, List.getElem?_cons_succ, List.getElem?_cons_zero]; exact rfl)
        case an43 => kernel_rfl
        case bn43 => kernel_rfl
        case cn43 => kernel_rfl
        case qn43 => exact fun _ _ _ h => h
        case dn43 => rfl
        case hyn43 => (intro z hSw; (try dsimp only at hSw); go_simp; (try with_reducible rfl))
        try simp only [Act.put, List.setIfInBounds_toArray, List.set_cons_zero, List.set_cons_succ]
        refine wpAnyH_ready (rs := [5]) (by kernel_rfl) (by simp) ?_
        refine AllReadyH.cons (o := ?on44) ?hin44 ?restn44 AllReadyH.nil
        case hin44 => (simp only [List.getElem?_toArray, List.getElem?_cons_succ, List.getElem?_cons_zero]; exact rfl)
        intro K hK
        go_simp
        go_at_call 35
        refine (l13Schemes_c s _).mono ?_
        rintro e w3 ⟨v3, rfl, ho3, hg3⟩
        have h3 : Grew w2 w3 := Grew.trans (by repeat (first | with_reducible assumption | with_reducible refine Grew.alloc ?_ _ | with_reducible refine Grew.drew ?_ | with_reducible refine Grew.drewN ?_ _)) hg3
        obtain ⟨A3, c3, rfl⟩ := ints_slice ho3.ints
        refine hK.out _ _ ?_ (fun hHeld => ?_)
        · (try dsimp only); first | with_reducible assumption | exact Grew.alloc ‹_› _
        clear hK K
        try simp only [Act.put, List.setIfInBounds_toArray, List.set_cons_zero, List.set_cons_succ]
        refine wpAnyH_ready (rs := [8]) (by kernel_rfl) (by simp) ?_
        refine AllReadyH.cons (o := ?on45) ?hin45 ?restn45 AllReadyH.nil
        case hin45 => (simp only [List.getElem?_toArray, List.getElem?_cons_succ, List.getElem?_cons_zero]; exact rfl)
        intro K hK
        go_simp
        have KHs := l01Has_c _ _ (a : Int) w3 ho3.ints
        rw [hhas] at KHs
        go_at_call 47
        refine (KHs).mono ?_
        rintro e w4 ⟨rfl, hg4⟩
        have h4 : Grew w2 w4 := h3.trans hg4
        refine hK.out _ _ ?_ (fun hHeld => ?_)
        · (try dsimp only); first | with_reducible assumption | exact Grew.alloc ‹_› _
        clear hK K
        try simp only [Act.put, List.setIfInBounds_toArray, List.set_cons_zero, List.set_cons_succ]
        refine wpAnyH_take (i := 9) (oi := ?on46) (v := ?vn46) ?hin46 ?an46 ?bn46 ?cn46 ?qn46 (Or.inl ⟨?dn46, ?hyn46⟩) hHeld ?restn46
        case hin46 => (simp only [List.getElem?_toArray, List.getElem?_cons_succ, List.getElem?_cons_zero]; exact rfl)
        case an46 => kernel_rfl
        case bn46 => kernel_rfl
        case cn46 => kernel_rfl
        case qn46 => exact fun _ _ _ h => h
        case dn46 => rfl
        case hyn46 => (intro z hSw; (try dsimp only at hSw); go_simp; (try with_reducible rfl))
        try simp only [Act.put, List.setIfInBounds_toArray, List.set_cons_zero, List.set_cons_succ]
        refine wpAnyH_take (i := 10) (oi := ?on47) (v := ?vn47) ?hin47 ?an47 ?bn47 ?cn47 ?qn47 (Or.inl ⟨?dn47, ?hyn47⟩) hHeld ?restn47
        case hin47 => (simp only [List.getElem?_toArray, List.getElem?_cons_succ, List.getElem?_cons_zero]; exact rfl)
        case an47 => kernel_rfl
        case bn47 => kernel_rfl
        case cn47 => kernel_rfl
        case qn47 => exact fun _ _ _ h => h
        case dn47 => rfl
        case hyn47 => (intro z hSw; (try dsimp only at hSw); go_simp; (try with_reducible rfl))
        try simp only [Act.put, List.setIfInBounds_toArray, List.set_cons_zero, List.set_cons_succ]
        refine wpAnyH_take (i := 11) (oi := ?on48) (v := ?vn48) ?hin48 ?an48 ?bn48 ?cn48 ?qn48 (Or.inl ⟨?dn48, ?hyn48⟩) hHeld ?restn48
        case hin48 => (simp only [List.getElem?_toArray, List.getElem?_cons_succ, List.getElem?_cons_zero]; exact rfl)
        case an48 => kernel_rfl
        case bn48 => kernel_rfl
        case cn48 => kernel_rfl
        case qn48 => exact fun _ _ _ h => h
        case dn48 => rfl
        case hyn48 => (intro z hSw; (try dsimp only at hSw); go_simp; (try with_reducible rfl))
        try simp only [Act.put, List.setIfInBounds_toArray, List.set_cons_zero, List.set_cons_succ]
        refine wpAnyH_take (i := 12) (oi := ?on49) (v := ?vn49) ?hin49 ?an49 ?bn49 ?cn49 ?qn49 (Or.inl ⟨?dn49, ?hyn49⟩) hHeld ?restn49
        case hin49 => (simp only [List.getElem?_toArray, List.getElem?_cons_succ, List.getElem?_cons_zero]; exact rfl)
        case an49 => kernel_rfl
        case bn49 => kernel_rfl
        case cn49 => kernel_rfl
        case qn49 => exact fun _ _ _ h => h
        case dn49 => rfl
        case hyn49 => (intro z hSw; (try dsimp only at hSw); go_simp; (try with_reducible rfl))
        try simp only [Act.put, List.setIfInBounds_toArray, List.set_cons_zero, List.set_cons_succ]
        refine wpAnyH_take (i := 13) (oi := ?on50) (v := ?vn50) ?hin50 ?an50 ?bn50 ?cn50 ?qn50 (Or.inl ⟨?dn50, ?hyn50⟩) hHeld ?restn50
        case hin50 => (simp only [List.getElem?_toArray, List.getElem?_cons_succ, List.getElem?_cons_zero]; exact rfl)
        case an50 => kernel_rfl
        case bn50 => kernel_rfl
        case cn50 => kernel_rfl
        case qn50 => exact fun _ _ _ h => h
        case dn50 => rfl
        case hyn50 => (intro z hSw; (try dsimp only at hSw); go_simp; (try with_reducible rfl))
        try simp only [Act.put, List.setIfInBounds_toArray, List.set_cons_zero, List.set_cons_succ]
        refine wpAnyH_take (i := 14) (oi := ?on51) (v := ?vn51) ?hin51 ?an51 ?bn51 ?cn51 ?qn51 (Or.inl ⟨?dn51, ?hyn51⟩) hHeld ?restn51
        case hin51 => (simp only [List.getElem?_toArray, List.getElem?_cons_succ, List.getElem?_cons_zero]; exact rfl)
        case an51 => kernel_rfl
        case bn51 => kernel_rfl
        case cn51 => kernel_rfl
        case qn51 => exact fun _ _ _ h => h
        case dn51 => rfl
        case hyn51 => (intro z hSw; (try dsimp only at hSw); go_simp; (try with_reducible rfl))
        try simp only [Act.put, List.setIfInBounds_toArray, List.set_cons_zero, List.set_cons_succ]
        refine wpAnyH_ready (rs := [15]) (by kernel_rfl) (by simp) ?_
        refine AllReadyH.cons (o := ?on52) ?hin52 ?restn52 AllReadyH.nil
        case hin52 => (simp only [List.getElem?_toArray, List.getElem?_cons_succ, List.getElem?_cons_zero]; exact rfl)
        intro K hK
        go_simp
        go_at_call 48
        refine (KI.out _ (g2.trans h4)).mono ?_
        rintro e w5 ⟨rfl, hg5⟩
        have h5 : Grew w2 w5 := h4.trans hg5
        refine hK.out _ _ ?_ (fun hHeld => ?_)
        · (try dsimp only); first | with_reducible assumption | exact Grew.alloc ‹_› _
        clear hK K
        try simp only [Act.put, List.setIfInBounds_toArray, List.set_cons_zero, List.set_cons_succ]
        refine wpAnyH_take (i := 16) (oi := ?on53) (v := ?vn53) ?hin53 ?an53 ?bn53 ?cn53 ?qn53 (Or.inl ⟨?dn53, ?hyn53⟩) hHeld ?restn53
        case hin53 => (simp only [List.getElem?_toArray, List.getElem?_cons_succ, List.getElem?_cons_zero]; exact rfl)
        case an53 => kernel_rfl
        case bn53 => kernel_rfl
        case cn53 => kernel_rfl
        case qn53 => exact fun _ _ _ h => h
        case dn53 => rfl
        case hyn53 => (intro z hSw; (try dsimp only at hSw); go_simp; (try with_reducible rfl))
        try simp only [Act.put, List.setIfInBounds_toArray, List.set_cons_zero, List.set_cons_succ]
        refine wpAnyH_take (i := 17) (oi := ?on54) (v := ?vn54) ?hin54 ?an54 ?bn54 ?cn54 ?qn54 (Or.inl ⟨?dn54, ?hyn54⟩) hHeld ?restn54
        case hin54 => (simp only [List.getElem?_toArray, List.getElem?_cons_succ, List.getElem?_cons_zero]; exact rfl)
        case an54 => kernel_rfl
        case bn54 => kernel_rfl
        case cn54 => kernel_rfl
        case qn54 => exact fun _ _ _ h => h
        case dn54 => rfl
        case hyn54 => (intro z hSw; (try dsimp only at hSw); go_simp; (try with_reducible rfl))
        try simp only [Act.put, List.setIfInBounds_toArray, List.set_cons_zero, List.set_cons_succ]
        refine wpAnyH_done (by kernel_rfl) ?_ _
        go_wp2_with fail
        go_ret
        exact ⟨by rw [hR]; rfl, g2.trans h5⟩
  by_cases h2r : rr = 2
  · subst h2r
    rw [fx_2 hf] at hR
    cases hse : (se == 0) with
    | false =>
      rw [hse, Bool.false_and] at hR
      go_wp2_with fail
      refine wp_region_held_drew (S := fun w' => Grew w2 w') (by kernel_rfl) r2d (fun hHeld => ?_)
      refine wpAnyH_take (i := 0) (oi := ?on55) (v := ?vn55) ?hin55 ?an55 ?bn55 ?cn55 ?qn55 (Or.inl ⟨?dn55, ?hyn55⟩) hHeld ?restn55
      case hin55 => (simp only [List.getElem?_toArray, List.getElem?_cons_zero]; exact rfl)
      case an55 => kernel_rfl
      case bn55 => kernel_rfl
      case cn55 => kernel_rfl
      case qn55 => exact fun _ _ _ h => h
      case dn55 => rfl
      case hyn55 => (intro z hSw; (try dsimp only at hSw); go_simp; (try with_reducible rfl))
      try simp only [Act.put, List.setIfInBounds_toArray, List.set_cons_zero, List.set_cons_succ]
      refine wpAnyH_take (i := 1) (oi := ?on56) (v := ?vn56) ?hin56 ?an56 ?bn56 ?cn56 ?qn56 (Or.inl ⟨?dn56, ?hyn56⟩) hHeld ?restn56
      case hin56 => (simp only [List.getElem?_toArray, List.getElem?_cons_succ, List.getElem?_cons_zero]; exact rfl)
      case an56 => kernel_rfl
      case bn56 => kernel_rfl
      case cn56 => kernel_rfl
      case qn56 => exact fun _ _ _ h => h
      case dn56 => rfl
      case hyn56 => (intro z hSw; (try dsimp only at hSw); go_simp; (try with_reducible rfl))
      try simp only [Act.put, List.setIfInBounds_toArray, List.set_cons_zero, List.set_cons_succ]
      refine wpAnyH_take (i := 2) (oi := ?on57) (v := ?vn57) ?hin57 ?an57 ?bn57 ?cn57 ?qn57 (Or.inl ⟨?dn57, ?hyn57⟩) hHeld ?restn57
      case hin57 => (simp only [List.getElem?_toArray, List.getElem?_cons_succ, List.getElem?_cons_zero]; exact rfl)
      case an57 => kernel_rfl
      case bn57 => kernel_rfl
      case cn57 => kernel_rfl
      case qn57 => exact fun _ _ _ h => h
      case dn57 => rfl
      case hyn57 => (intro z hSw; (try dsimp only at hSw); go_simp; (try with_reducible rfl))
      try simp only [Act.put, List.setIfInBounds_toArray, List.set_cons_zero, List.set_cons_succ]
      refine wpAnyH_take (i := 3) (oi := ?on58) (v := ?vn58) ?hin58 ?an58 ?bn58 ?cn58 ?qn58 (Or.inl ⟨?dn58, ?hyn58⟩) hHeld ?restn58
      case hin58 => (simp only [List.getElem?_toArray, List.getElem?_cons_succ, List.getElem?_cons_zero]; exact rfl)
      case an58 => kernel_rfl
      case bn58 => kernel_rfl
      case cn58 => kernel_rfl
      case qn58 => exact fun _ _ _ h => h
      case dn58 => rfl
      case hyn58 => (intro z hSw; (try dsimp only at hSw); go_simp; (try with_reducible rfl))
      try simp only [Act.put, List.setIfInBounds_toArray, List.set_cons_zero, List.set_cons_succ]
      refine wpAnyH_take (i := 4) (oi := ?on59) ?hin59 ?an59 ?bn59 ?cn59 ?qn59 (Or.inr ⟨?dn59, rfl⟩) hHeld ?restn59
      case hin59 => (simp only [List.getElem?_toArray, List.getElem?_cons_succ, List.getElem?_cons_zero]; exact rfl)
      case an59 => kernel_rfl
      case bn59 => kernel_rfl
      case cn59 => kernel_rfl
      case qn59 => exact fun _ _ _ h => h
      case dn59 => rfl
      try simp only [Act.put, List.setIfInBounds_toArray, List.set_cons_zero, List.set_cons_succ]
      refine wpAnyH_take (i := 5) (oi := ?on60) ?hin60 ?an60 ?bn60 ?cn60 ?qn60 (Or.inr ⟨?dn60, rfl⟩) hHeld ?restn60
      case hin60 => (simp only [List.getElem?_toArray, List.getElem?_cons_succ, List.getElem?_cons_zero]; exact rfl)
      case an60 => kernel_rfl
      case bn60 => kernel_rfl
      case cn60 => kernel_rfl
      case qn60 => exact fun _ _ _ h => h
      case dn60 => rfl
      try simp only [Act.put, List.setIfInBounds_toArray, List.set_cons_zero, List.set_cons_succ]
      refine wpAnyH_take (i := 6) (oi := ?on61) ?hin61 ?an61 ?bn61 ?cn61 ?qn61 (Or.inr ⟨?dn61, rfl⟩) hHeld ?restn61
      case hin61 => (simp only [List.getElem?_toArray, List.getElem?_cons_succ, List.getElem?_cons_zero]; exact rfl)
      case an61 => kernel_rfl
      case bn61 => kernel_rfl
      case cn61 => kernel_rfl
      case qn61 => exact fun _ _ _ h => h
      case dn61 => rfl
      try simp only [Act.put, List.setIfInBounds_toArray, List.set_cons_zero, List.set_cons_succ]
      refine wpAnyH_take (i := 7) (oi := ?on62) ?hin62 ?an62 ?bn62 ?cn62 ?qn62 (Or.inr ⟨?dn62, rfl⟩) hHeld ?restn62
      case hin62 => (simp only [List.getElem?_toArray, List.getElem?_cons_succ, List.getElem?_cons_zero]; exact rfl)
      case an62 => kernel_rfl
      case bn62 => kernel_rfl
      case cn62 => kernel_rfl
      case qn62 => exact fun _ _ _ h => h
      case dn62 => rfl
      try simp only [Act.put, List.setIfInBounds_toArray, List.set_cons_zero, List.set_cons_succ]
      refine wpAnyH_take (i := 8) (oi := ?on63) ?hin63 ?an63 ?bn63 ?cn63 ?qn63 (Or.inr ⟨?dn63, rfl⟩) hHeld ?restn63
      case hin63 => (simp only [List.getElem?_toArray, List.getElem?_cons_succ, List.getElem?_cons_zero]; exact rfl)
      case an63 => kernel_rfl
      case bn63 => kernel_rfl
      case cn63 => kernel_rfl
      case qn63 => exact fun _ _ _ h => h
      case dn63 => rfl
      try simp only [Act.put, List.setIfInBounds_toArray, List.set_cons_zero, List.set_cons_succ]
      refine wpAnyH_take (i := 9) (oi := ?on64) ?hin64 ?an64 ?bn64 ?cn64 ?qn64 (Or.inr ⟨?dn64, rfl⟩) hHeld ?restn64
      case hin64 => (simp only [List.getElem?_toArray, List.getElem?_cons_succ, List.getElem?_cons_zero]; exact rfl)
      case an64 => kernel_rfl
      case bn64 => kernel_rfl
      case cn64 => kernel_rfl
      case qn64 => exact fun _ _ _ h => h
      case dn64 => rfl
      try simp only [Act.put, List.setIfInBounds_toArray, List.set_cons_zero, List.set_cons_succ]
      refine wpAnyH_take (i := 10) (oi := ?on65) (v := ?vn65) ?hin65 ?an65 ?bn65 ?cn65 ?qn65 (Or.inl ⟨?dn65, ?hyn65⟩) hHeld ?restn65
      case hin65 => (simp only [List.getElem?_toArray, List.getElem?_cons_succ, List.getElem?_cons_zero]; exact rfl)
      case an65 => kernel_rfl
      case bn65 => kernel_rfl
      case cn65 => kernel_rfl
      case qn65 => exact fun _ _ _ h => h
      case dn65 => rfl
      case hyn65 => (intro z hSw; (try dsimp only at hSw); go_simp; (try with_reducible rfl))
      try simp only [Act.put, List.setIfInBounds_toArray, List.set_cons_zero, List.set_cons_succ]
      refine wpAnyH_take (i := 11) (oi := ?on66) (v := ?vn66) ?hin66 ?an66 ?bn66 ?cn66 ?qn66 (Or.inl ⟨?dn66, ?hyn66⟩) hHeld ?restn66
      case hin66 => (simp only [List.getElem?_toArray, List.getElem?_cons_succ, List.getElem?_cons_zero]; exact rfl)
      case an66 => kernel_rfl
      case bn66 => kernel_rfl
      case cn66 => kernel_rfl
      case qn66 => exact fun _ _ _ h => h
      case dn66 => rfl
      case hyn66 => (intro z hSw; (try dsimp only at hSw); go_simp; (try with_reducible rfl))
      try simp only [Act.put, List.setIfInBounds_toArray, List.set_cons_zero, List.set_cons_succ]
      refine wpAnyH_take (i := 12) (oi := ?on67) ?hin67 ?an67 ?bn67 ?cn67 ?qn67 (Or.inr ⟨?dn67, rfl⟩) hHeld ?restn67
      case hin67 => (simp only [List.getElem?_toArray, List.getElem?_cons_succ, List.getElem?_cons_zero]; exact rfl)
      case an67 => kernel_rfl
      case bn67 => kernel_rfl
      case cn67 => kernel_rfl
      case qn67 => exact fun _ _ _ h => h
      case dn67 => rfl
      try simp only [Act.put, List.setIfInBounds_toArray, List.set_cons_zero, List.set_cons_succ]
      refine wpAnyH_take (i := 13) (oi := ?on68) ?hin68 ?an68 ?bn68 ?cn68 ?qn68 (Or.inr ⟨?dn68, rfl⟩) hHeld ?restn68
      case hin68 => (simp only [List.getElem?_toArray, List.getElem?_cons_succ, List.getElem?_cons_zero]; exact rfl)
      case an68 => kernel_rfl
      case bn68 => kernel_rfl
      case cn68 => kernel_rfl
      case qn68 => exact fun _ _ _ h => h
      case dn68 => rfl
      try simp only [Act.put, List.setIfInBounds_toArray, List.set_cons_zero, List.set_cons_succ]
      refine wpAnyH_take (i := 14) (oi := ?on69) ?hin69 ?an69 ?bn69 ?cn69 ?qn69 (Or.inr ⟨?dn69, rfl⟩) hHeld ?restn69
      case hin69 => (simp only [List.getElem?_toArray, List.getElem?_cons_succ, List.getElem?_cons_zero]; exact rfl)
      case an69 => kernel_rfl
      case bn69 => kernel_rfl
      case cn69 => kernel_rfl
      case qn69 => exact fun _ _ _ h => h
      case dn69 => rfl
      try simp only [Act.put, List.setIfInBounds_toArray, List.set_cons_zero, List.set_cons_succ]
      refine wpAnyH_take (i := 15) (oi := ?on70) ?hin70 ?an70 ?bn70 ?cn70 ?qn70 (Or.inr ⟨?dn70, rfl⟩) hHeld ?restn70
      case hin70 => (simp only [List.getElem?_toArray, List.getElem?_cons_succ, List.getElem?_cons_zero]; exact rfl)
      case an70 => kernel_rfl
      case bn70 => kernel_rfl
      case cn70 => kernel_rfl
      case qn70 => exact fun _ _ _ h => h
      case dn70 => rfl
      try simp only [Act.put, List.setIfInBounds_toArray, List.set_cons_zero, List.set_cons_succ]
      refine wpAnyH_take (i := 16) (oi := ?on71) ?hin71 ?an71 ?bn71 ?cn71 ?qn71 (Or.inr ⟨?dn71, rfl⟩) hHeld ?restn71
      case hin71 => (simp only [List.getElem?_toArray, List.getElem?_cons_succ, List.getElem?_cons_zero]; exact rfl)
      case an71 => kernel_rfl
      case bn71 => kernel_rfl
      case cn71 => kernel_rfl
      case qn71 => exact fun _ _ _ h => h
      case dn71 => rfl
      try simp only [Act.put, List.setIfInBounds_toArray, List.set_cons_zero, List.set_cons_succ]
      refine wpAnyH_take (i := 17) (oi := ?on72) ?hin72 ?an72 ?bn72 ?cn72 ?qn72 (Or.inr ⟨?dn72, rfl⟩) hHeld ?restn72
      case hin72 => (simp only [List.getElem?_toArray, List.getElem?_cons_succ, List.getElem?_cons_zero]; exact rfl)
      case an72 => kernel_rfl
      case bn72 => kernel_rfl
      case cn72 => kernel_rfl
      case qn72 => exact fun _ _ _ h => h
      case dn72 => rfl
      try simp only [Act.put, List.setIfInBounds_toArray, List.set_cons_zero, List.set_cons_succ]
      refine wpAnyH_take (i := 18) (oi := ?on73) ?hin73 ?an73 ?bn73 ?cn73 ?qn73 (Or.inr ⟨?dn73, rfl⟩) hHeld ?restn73
      case hin73 => (simp only [List.getElem?_toArray, List.getElem?_cons_succ, List.getElem?_cons_zero]; exact rfl)
      case an73 => kernel_rfl
      case bn73 => kernel_rfl
      case cn73 => kernel_rfl
      case qn73 => exact fun _ _ _ h => h
      case dn73 => rfl
      try simp only [Act.put, List.setIfInBounds_toArray, List.set_cons_zero, List.set_cons_succ]
      refine wpAnyH_take (i := 19) (oi := ?on74) ?hin74 ?an74 ?bn74 ?cn74 ?qn74 (Or.inr ⟨?dn74, rfl⟩) hHeld ?restn74
      case hin74 => (simp only [List.getElem?_toArray, List.getElem?_cons_succ, List.getElem?_cons_zero]; exact rfl)
      case an74 => kernel_rfl
      case bn74 => kernel_rfl
      case cn74 => kernel_rfl
      case qn74 => exact fun _ _ _ h => h
      case dn74 => rfl
      try simp only [Act.put, List.setIfInBounds_toArray, List.set_cons_zero, List.set_cons_succ]
      refine wpAnyH_take (i := 20) (oi := ?on75) (v := ?vn75) ?hin75 ?an75 ?bn75 ?cn75 ?qn75 (Or.inl ⟨?dn75, ?hyn75⟩) hHeld ?restn75
      case hin75 => (simp only [List.getElem?_toArray, List.getElem?_cons_succ, List.getElem?_cons_zero]; exact rfl)
      case an75 => kernel_rfl
      case bn75 => kernel_rfl
      case cn75 => kernel_rfl
      case qn75 => exact fun _ _ _ h => h
      case dn75 => rfl
      case hyn75 => (intro z hSw; (try dsimp only at hSw); go_simp; (try with_reducible rfl))
      try simp only [Act.put, List.setIfInBounds_toArray, List.set_cons_zero, List.set_cons_succ]
      refine wpAnyH_take (i := 21) (oi := ?on76) (v := ?vn76) ?hin76 ?an76 ?bn76 ?cn76 ?qn76 (Or.inl ⟨?dn76, ?hyn76⟩) hHeld ?restn76
      case hin76 => (simp only [List.getElem?_toArray, List.getElem?_cons_succ, List.getElem?_cons_zero]; exact rfl)
      case an76 => kernel_rfl
      case bn76 => kernel_rfl
      case cn76 => kernel_rfl
      case qn76 => exact fun _ _ _ h => h
      case dn76 => rfl
      case hyn76 => (intro z hSw; (try dsimp only at hSw); go_simp; (try with_reducible rfl))
      try simp only [Act.put, List.setIfInBounds_toArray, List.set_cons_zero, List.set_cons_succ]
      refine wpAnyH_done (by kernel_rfl) ?_ _
      go_wp2_with fail
      go_ret
      exact ⟨by rw [hR]; rfl, g2.trans (by first | assumption | exact r2d)⟩
    | true =>
      rw [hse, Bool.true_and] at hR
      cases hin : decide (0 ≤ fi ∧ fi ≤ (H.length : Int) - 1) with
      | false =>
        rw [hin, Bool.false_and] at hR
        have KNH := fun W => l01In_c fi 0 ((H.length : Int) - 1) W
        rw [hin] at KNH
        generalize H.length = hlen at *
        have iw : IntKind.i64.wrap ((hlen : Int) - 1) = (hlen : Int) - 1 := by rw [IntKind.wrap_i64]; omega
        replace KNH := Lib.hid KNH
        go_wp2_with fail
        refine wp_region_held_drew (S := fun w' => Grew w2 w') (by kernel_rfl) r2d (fun hHeld => ?_)
        refine wpAnyH_take (i := 0) (oi := ?on77) (v := ?vn77) ?hin77 ?an77 ?bn77 ?cn77 ?qn77 (Or.inl ⟨?dn77, ?hyn77⟩) hHeld ?restn77
        case hin77 => (simp only [List.getElem?_toArray, List.getElem?_cons_zero]; exact rfl)
        case an77 => kernel_rfl
        case bn77 => kernel_rfl
        case cn77 => kernel_rfl
        case qn77 => exact fun _ _ _ h => h
        case dn77 => rfl
        case hyn77 => (intro z hSw; (try dsimp only at hSw); go_simp; (try with_reducible rfl))
        try simp only [Act.put, List.setIfInBounds_toArray, List.set_cons_zero, List.set_cons_succ]
        refine wpAnyH_take (i := 1) (oi := ?on78) (v := ?vn78) ?hin78 ?an78 ?bn78 ?cn78 ?qn78 (Or.inl ⟨?dn78, ?hyn78⟩) hHeld ?restn78
        case hin78 => (simp only [List.getElem?_toArray, List.getElem?_cons_succ, List.getElem?_cons_zero]; exact rfl)
        case an78 => kernel_rfl
        case bn78 => kernel_rfl
        case cn78 => kernel_rfl
        case qn78 => exact fun _ _ _ h => h
        case dn78 => rfl
        case hyn78 => (intro z hSw; (try dsimp only at hSw); go_simp; (try with_reducible rfl))
        try simp only [Act.put, List.setIfInBounds_toArray, List.set_cons_zero, List.set_cons_succ]
        refine wpAnyH_take (i := 2) (oi := ?on79) (v := ?vn79) ?hin79 ?an79 ?bn79 ?cn79 ?qn79 (Or.inl ⟨?dn79, ?hyn79⟩) hHeld ?restn79
        case hin79 => (simp only [List.getElem?_toArray, List.getElem?_cons_succ, List.getElem?_cons_zero]; exact rfl)
        case an79 => kernel_rfl
        case bn79 => kernel_rfl
        case cn79 => kernel_rfl
        case qn79 => exact fun _ _ _ h => h
        case dn79 => rfl
        case hyn79 => (intro z hSw; (try dsimp only at hSw); go_simp; (try with_reducible rfl))
        try simp only [Act.put, List.setIfInBounds_toArray, List.set_cons_zero, List.set_cons_succ]
        refine wpAnyH_take (i := 3) (oi := ?on80) (v := ?vn80) ?hin80 ?an80 ?bn80 ?cn80 ?qn80 (Or.inl ⟨?dn80, ?hyn80⟩) hHeld ?restn80
        case hin80 => (simp only [List.getElem?_toArray, List.getElem?_cons_succ, List.getElem?_cons_zero]; exact rfl)
        case an80 => kernel_rfl
        case bn80 => kernel_rfl
        case cn80 => kernel_rfl
        case qn80 => exact fun _ _ _ h => h
        case dn80 => rfl
        case hyn80 => (intro z hSw; (try dsimp only at hSw); go_simp; (try with_reducible rfl))
        try simp only [Act.put, List.setIfInBounds_toArray, List.set_cons_zero, List.set_cons_succ]
        refine wpAnyH_take (i := 4) (oi := ?on81) (v := ?vn81) ?hin81 ?an81 ?bn81 ?cn81 ?qn81 (Or.inl ⟨?dn81, ?hyn81⟩) hHeld ?restn81
        case hin81 => (simp only [List.getElem?_toArray, List.getElem?_cons_succ, List.getElem?_cons_zero]; exact rfl)
        case an81 => kernel_rfl
        case bn81 => kernel_rfl
        case cn81 => kernel_rfl
        case qn81 => exact fun _ _ _ h => h
        case dn81 => rfl
        case hyn81 => (intro z hSw; (try dsimp only at hSw); go_simp; (try with_reducible rfl))
        try simp only [Act.put, List.setIfInBounds_toArray, List.set_cons_zero, List.set_cons_succ]
        refine wpAnyH_take (i := 5) (oi := ?on82) (v := ?vn82) ?hin82 ?an82 ?bn82 ?cn82 ?qn82 (Or.inl ⟨?dn82, ?hyn82⟩) hHeld ?restn82
        case hin82 => (simp only [List.getElem?_toArray, List.getElem?_cons_succ, List.getElem?_cons_zero]; exact rfl)
        case an82 => kernel_rfl
        case bn82 => kernel_rfl
        case cn82 => kernel_rfl
        case qn82 => exact fun _ _ _ h => h
        case dn82 => rfl
        case hyn82 => (intro z hSw; (try dsimp only at hSw); go_simp; (try with_reducible rfl))
        try simp only [Act.put, List.setIfInBounds_toArray, List.set_cons_zero, List.set_cons_succ]
        refine wpAnyH_take (i := 6) (oi := ?on83) (v := ?vn83) ?hin83 ?an83 ?bn83 ?cn83 ?qn83 (Or.inl ⟨?dn83, ?hyn83⟩) hHeld ?restn83
        case hin83 => (simp only [List.getElem?_toArray, List.getElem?_cons_succ, List.getElem?_cons_zero]; exact rfl)
        case an83 => kernel_rfl
        case bn83 => kernel_rfl
        case cn83 => kernel_rfl
        case qn83 => exact fun _ _ _ h => h
        case dn83 => rfl
        case hyn83 => (intro z hSw; (try dsimp only at hSw); go_simp; (try with_reducible rfl))
        try simp only [Act.put, List.setIfInBounds_toArray, List.set_cons_zero, List.set_cons_succ]
        refine wpAnyH_take (i := 7) (oi := ?on84) (v := ?vn84) ?hin84 ?an84 ?bn84 ?cn84 ?qn84 (Or.inl ⟨?dn84, ?hyn84⟩) hHeld ?restn84
        case hin84 => (simp only [List.getElem?_toArray, List.getElem?_cons_succ, List.getElem?_cons_zero]; exact rfl)
        case an84 => kernel_rfl
        case bn84 => kernel_rfl
        case cn84 => kernel_rfl
        case qn84 => exact fun _ _ _ h => h
        case dn84 => rfl
        case hyn84 => (intro z hSw; (try dsimp only at hSw); go_simp; (try with_reducible rfl))
        try simp only [Act.put, List.setIfInBounds_toArray, List.set_cons_zero, List.set_cons_succ]
        refine wpAnyH_take (i := 8) (oi := ?on85) (v := ?vn85) ?hin85 ?an85 ?bn85 ?cn85 ?qn85 (Or.inl ⟨?dn85, ?hyn85⟩) hHeld ?restn85
        case hin85 => (simp only [List.getElem?_toArray, List.getElem?_cons_succ, List.getElem?_cons_zero]; exact rfl)
        case an85 => kernel_rfl
        case bn85 => kernel_rfl
        case cn85 => kernel_rfl
        case qn85 => exact fun _ _ _ h => h
        case dn85 => rfl
        case hyn85 => (intro z hSw; (try dsimp only at hSw); go_simp; (try with_reducible rfl))
        try simp only [Act.put, List.setIfInBounds_toArray, List.set_cons_zero, List.set_cons_succ]
        refine wpAnyH_ready (rs := [9]) (by kernel_rfl) (by simp) ?_
        refine AllReadyH.cons (o := ?on86) ?hin86 ?restn86 AllReadyH.nil
        case hin86 => (simp only [List.getElem?_toArray, List.getElem?_cons_succ, List.getElem?_cons_zero]; exact rfl)
        intro K hK
        go_simp
        go_at_call 46
        refine (KNH.out _).mono ?_
        rintro e w3 ⟨rfl, hg3⟩
        have h3 : Grew w2 w3 := Grew.trans (by repeat (first | with_reducible assumption | with_reducible refine Grew.alloc ?_ _ | with_reducible refine Grew.drew ?_ | with_reducible refine Grew.drewN ?_ _)) hg3
        refine hK.out _ _ ?_ (fun hHeld => ?_)
        · (try dsimp only); first | with_reducible assumption | exact Grew.alloc ‹_› _
        clear hK K
        try simp only [Act.put, List.setIfInBounds_toArray, List.set_cons_zero, List.set_cons_succ]
        refine wpAnyH_take (i := 10) (oi := ?on87) (v := ?vn87) ?hin87 ?an87 ?bn87 ?cn87 ?qn87 (Or.inl ⟨?dn87, ?hyn87⟩) hHeld ?restn87
        case hin87 => (simp only [List.getElem?_toArray, List.getElem?_cons_succ, List.getElem?_cons_zero]; exact rfl)
        case an87 => kernel_rfl
        case bn87 => kernel_rfl
        case cn87 => kernel_rfl
        case qn87 => exact fun _ _ _ h => h
        case dn87 => rfl
        case hyn87 => (intro z hSw; (try dsimp only at hSw); go_simp; (try with_reducible rfl))
        try simp only [Act.put, List.setIfInBounds_toArray, List.set_cons_zero, List.set_cons_succ]
        refine wpAnyH_take (i := 11) (oi := ?on88) (v := ?vn88) ?hin88 ?an88 ?bn88 ?cn88 ?qn88 (Or.inl ⟨?dn88, ?hyn88⟩) hHeld ?restn88
        case hin88 => (simp only [List.getElem?_toArray, List.getElem?_cons_succ, List.getElem?_cons_zero]; exact rfl)
        case an88 => kernel_rfl
        case bn88 => kernel_rfl
        case cn88 => kernel_rfl
        case qn88 => exact fun _ _ _ h => h
        case dn88 => rfl
        case hyn88 => (intro z hSw; (try dsimp only at hSw); go_simp; (try with_reducible rfl))
        try simp only [Act.put, List.setIfInBounds_toArray, List.set_cons_zero, List.set_cons_succ]
        refine wpAnyH_take (i := 12) (oi := ?on89) ?hin89 ?an89 ?bn89 ?cn89 ?qn89 (Or.inr ⟨?dn89, rfl⟩) hHeld ?restn89
        case hin89 => (simp only [List.getElem?_toArray, List.getElem?_cons_succ, List.getElem?_cons_zero]; exact rfl)
        case an89 => kernel_rfl
        case bn89 => kernel_rfl
        case cn89 => kernel_rfl
        case qn89 => exact fun _ _ _ h => h
        case dn89 => rfl
        try simp only [Act.put, List.setIfInBounds_toArray, List.set_cons_zero, List.set_cons_succ]
        refine wpAnyH_take (i := 13) (oi := ?on90) ?hin90 ?an90 ?bn90 ?cn90 ?qn90 (Or.inr ⟨?dn90, rfl⟩) hHeld ?restn90
        case hin90 => (simp only [List.getElem?_toArray, List.getElem?_cons_succ, List.getElem?_cons_zero]; exact rfl)
        case an90 => kernel_rfl
        case bn90 => kernel_rfl
        case cn90 => kernel_rfl
        case qn90 => exact fun _ _ _ h => h
        case dn90 => rfl
        try simp only [Act.put, List.setIfInBounds_toArray, List.set_cons_zero, List.set_cons_succ]
        refine wpAnyH_take (i := 14) (oi := ?on91) ?hin91 ?an91 ?bn91 ?cn91 ?qn91 (Or.inr ⟨?dn91, rfl⟩) hHeld ?restn91
        case hin91 => (simp only [List.getElem?_toArray, List.getElem?_cons_succ, List.getElem?_cons_zero]; exact rfl)
        case an91 => kernel_rfl
        case bn91 => kernel_rfl
        case cn91 => kernel_rfl
        case qn91 => exact fun _ _ _ h => h
        case dn91 => rfl
        try simp only [Act.put, List.setIfInBounds_toArray, List.set_cons_zero, List.set_cons_succ]
        refine wpAnyH_take (i := 15) (oi := ?on92) ?hin92 ?an92 ?bn92 ?cn92 ?qn92 (Or.inr ⟨?dn92, rfl⟩) hHeld ?restn92
        case hin92 => (simp only [List.getElem?_toArray, List.getElem?_cons_succ, List.getElem?_cons_zero]; exact rfl)
        case an92 => kernel_rfl
        case bn92 => kernel_rfl
        case cn92 => kernel_rfl
        case qn92 => exact fun _ _ _ h => h
        case dn92 => rfl
        try simp only [Act.put, List.setIfInBounds_toArray, List.set_cons_zero, List.set_cons_succ]
        refine wpAnyH_take (i := 16) (oi := ?on93) ?hin93 ?an93 ?bn93 ?cn93 ?qn93 (Or.inr ⟨?dn93, rfl⟩) hHeld ?restn93
        case hin93 => (simp only [List.getElem?_toArray, List.getElem?_cons_succ, List.getElem?_cons_zero]; exact rfl)
        case an93 => kernel_rfl
        case bn93 => kernel_rfl
        case cn93 => kernel_rfl
        case qn93 => exact fun _ _ _ h => h
        case dn93 => rfl
        try simp only [Act.put, List.setIfInBounds_toArray, List.set_cons_zero, List.set_cons_succ]
        refine wpAnyH_take (i := 17) (oi := ?on94) ?hin94 ?an94 ?bn94 ?cn94 ?qn94 (Or.inr ⟨?dn94, rfl⟩) hHeld ?restn94
        case hin94 => (simp only [List.getElem?_toArray, List.getElem?_cons_succ, List.getElem?_cons_zero]; exact rfl)
        case an94 => kernel_rfl
        case bn94 => kernel_rfl
        case cn94 => kernel_rfl
        case qn94 => exact fun _ _ _ h => h
        case dn94 => rfl
        try simp only [Act.put, List.setIfInBounds_toArray, List.set_cons_zero, List.set_cons_succ]
        refine wpAnyH_take (i := 18) (oi := ?on95) ?hin95 ?an95 ?bn95 ?cn95 ?qn95 (Or.inr ⟨?dn95, rfl⟩) hHeld ?restn95
        case hin95 => (simp only [List.getElem?_toArray, List.getElem?_cons_succ, List.getElem?_cons_zero]; exact rfl)
        case an95 => kernel_rfl
        case bn95 => kernel_rfl
        case cn95 => kernel_rfl
        case qn95 => exact fun _ _ _ h => h
        case dn95 => rfl
        try simp only [Act.put, List.setIfInBounds_toArray, List.set_cons_zero, List.set_cons_succ]
        refine wpAnyH_take (i := 19) (oi := ?on96) ?hin96 ?an96 ?bn96 ?cn96 ?qn96 (Or.inr ⟨?dn96, rfl⟩) hHeld ?restn96
        case hin96 => (simp only [List.getElem?_toArray, List.getElem?_cons_succ, List.getElem?_cons_zero]; exact rfl)
        case an96 => kernel_rfl
        case bn96 => kernel_rfl
        case cn96 => kernel_rfl
        case qn96 => exact fun _ _ _ h => h
        case dn96 => rfl
        try simp only [Act.put, List.setIfInBounds_toArray, List.set_cons_zero, List.set_cons_succ]
        refine wpAnyH_take (i := 20) (oi := ?on97) (v := ?vn97) ?hin97 ?an97 ?bn97 ?cn97 ?qn97 (Or.inl ⟨?dn97, ?hyn97⟩) hHeld ?restn97
        case hin97 => (simp only [List.getElem?_toArray, List.getElem?_cons_succ, List.getElem?_cons_zero]; exact rfl)
        case an97 => kernel_rfl
        case bn97 => kernel_rfl
        case cn97 => kernel_rfl
        case qn97 => exact fun _ _ _ h => h
        case dn97 => rfl
        case hyn97 => (intro z hSw; (try dsimp only at hSw); go_simp; (try with_reducible rfl))
        try simp only [Act.put, List.setIfInBounds_toArray, List.set_cons_zero, List.set_cons_succ]
        refine wpAnyH_take (i := 21) (oi := ?on98) (v := ?vn98) ?hin98 ?an98 ?bn98 ?cn98 ?qn98 (Or.inl ⟨?dn98, ?hyn98⟩) hHeld ?restn98
        case hin98 => (simp only [List.getElem?_toArray, List.getElem?_cons_succ, List.getElem?_cons_zero]; exact rfl)
        case an98 => kernel_rfl
        case bn98 => kernel_rfl
        case cn98 => kernel_rfl
        case qn98 => exact fun _ _ _ h => h
        case dn98 => rfl
        case hyn98 => (intro z hSw; (try dsimp only at hSw); go_simp; (try with_reducible rfl))
        try simp only [Act.put, List.setIfInBounds_toArray, List.set_cons_zero, List.set_cons_succ]
        refine wpAnyH_done (by kernel_rfl) ?_ _
        go_wp2_with fail
        go_ret
        exact ⟨by rw [hR]; rfl, g2.trans h3⟩
      | true =>
        rw [hin, Bool.true_and] at hR
        have KNH := fun W => l01In_c fi 0 ((H.length : Int) - 1) W
        rw [hin] at KNH
        have hin2 : 0 ≤ fi ∧ fi ≤ (H.length : Int) - 1 := by simpa using hin
        obtain ⟨a, rfl⟩ : ∃ a : Nat, fi = (a : Int) := ⟨fi.toNat, by omega⟩
        rw [Int.toNat_natCast] at hR
        obtain ⟨⟨bH, oH, cH', uH, hvH, hcH, hnH⟩, hfa⟩ := HHY.out a (by omega)
        obtain ⟨rfl, rfl⟩ : AH = some ⟨bH, oH, none⟩ ∧ cH = cH' := by simpa using hvH
        have KE := Lib.hid (fun W (hW : Grew w W) => l02Equal_c _ _ _ _ W (hnH.grew hW) (HU.out W hW) (by omega))
        obtain ⟨AU, cU, rfl⟩ := nodes_slice hnH
        have hcH2 := fun W (hW : Grew w2 W) => hcH W (g2.trans hW)
        have hah : (a : Int) < (H.length : Int) := by omega
        clear hvH hcH hnH HHY
        generalize decide (H.getD a [] = fo) = eb at *
        generalize (H.getD a []).length = ul at *
        generalize H.length = hlen at *
        have iw : IntKind.i64.wrap ((hlen : Int) - 1) = (hlen : Int) - 1 := by rw [IntKind.wrap_i64]; omega
        replace KNH := Lib.hid KNH
        go_wp2_with fail
        refine wp_region_held_drew (S := fun w' => Grew w2 w') (by kernel_rfl) r2d (fun hHeld => ?_)
        refine wpAnyH_take (i := 0) (oi := ?on99) (v := ?vn99) ?hin99 ?an99 ?bn99 ?cn99 ?qn99 (Or.inl ⟨?dn99, ?hyn99⟩) hHeld ?restn99
        case hin99 => (simp only [List.getElem?_toArray, List.getElem?_cons_zero]; exact rfl)
        case an99 => kernel_rfl
        case bn99 => kernel_rfl
        case cn99 => kernel_rfl
        case qn99 => exact fun _ _ _ h => h
        case dn99 => rfl
        case hyn99 => (intro z hSw; (try dsimp only at hSw); go_simp; (try with_reducible rfl))
        try simp only [Act.put, List.setIfInBounds_toArray, List.set_cons_zero, List.set_cons_succ]
        refine wpAnyH_take (i := 1) (oi := ?on100) (v := ?vn100) ?hin100 ?an100 ?bn100 ?cn100 ?qn100 (Or.inl ⟨?dn100, ?hyn100⟩) hHeld ?restn100
        case hin100 => (simp only [List.getElem?_toArray, List.getElem?_cons_succ, List.getElem?_cons_zero]; exact rfl)
        case an100 => kernel_rfl
        case bn100 => kernel_rfl
        case cn100 => kernel_rfl
        case qn100 => exact fun _ _ _ h => h
        case dn100 => rfl
        case hyn100 => (intro z hSw; (try dsimp only at hSw); go_simp; (try with_reducible rfl))
        try simp only [Act.put, List.setIfInBounds_toArray, List.set_cons_zero, List.set_cons_succ]
        refine wpAnyH_take (i := 2) (oi := ?on101) (v := ?vn101) ?hin101 ?an101 ?bn101 ?cn101 ?qn101 (Or.inl ⟨?dn101, ?hyn101⟩) hHeld ?restn101
        case hin101 => (simp only [List.getElem?_toArray, List.getElem?_cons_succ, List.getElem?_cons_zero]; exact rfl)
        case an101 => kernel_rfl
        case bn101 => kernel_rfl
        case cn101 => kernel_rfl
        case qn101 => exact fun _ _ _ h => h
        case dn101 => rfl
        case hyn101 => (intro z hSw; (try dsimp only at hSw); go_simp; (try with_reducible rfl))
        try simp only [Act.put, List.setIfInBounds_toArray, List.set_cons_zero, List.set_cons_succ]
        refine wpAnyH_take (i := 3) (oi := ?on102) (v := ?vn102) ?hin102 ?an102 ?bn102 ?cn102 ?qn102 (Or.inl ⟨?dn102, ?hyn102⟩) hHeld ?restn102
        case hin102 => (simp only [List.getElem?_toArray, List.getElem?_cons_succ, List.getElem?_cons_zero]; exact rfl)
        case an102 => kernel_rfl
        case bn102 => kernel_rfl
        case cn102 => kernel_rfl
        case qn102 => exact fun _ _ _ h => h
        case dn102 => rfl
        case hyn102 => (intro z hSw; (try dsimp only at hSw); go_simp; (try with_reducible rfl))
        try simp only [Act.put, List.setIfInBounds_toArray, List.set_cons_zero, List.set_cons_succ]
        refine wpAnyH_take (i := 4) (oi := ?on103) (v := ?vn103) ?hin103 ?an103 ?bn103 ?cn103 ?qn103 (Or.inl ⟨?dn103, ?hyn103⟩) hHeld ?restn103
        case hin103 => (simp only [List.getElem?_toArray, List.getElem?_cons_succ, List.getElem?_cons_zero]; exact rfl)
        case an103 => kernel_rfl
        case bn103 => kernel_rfl
        case cn103 => kernel_rfl
        case qn103 => exact fun _ _ _ h => h
        case dn103 => rfl
        case hyn103 => (intro z hSw; (try dsimp only at hSw); go_simp; (try with_reducible rfl))
        try simp only [Act.put, List.setIfInBounds_toArray, List.set_cons_zero, List.set_cons_succ]
        refine wpAnyH_take (i := 5) (oi := ?on104) (v := ?vn104) ?hin104 ?an104 ?bn104 ?cn104 ?qn104 (Or.inl ⟨?dn104, ?hyn104⟩) hHeld ?restn104
        case hin104 => (simp only [List.getElem?_toArray, List.getElem?_cons_succ, List.getElem?_cons_zero]; exact rfl)
        case an104 => kernel_rfl
        case bn104 => kernel_rfl
        case cn104 => kernel_rfl
        case qn104 => exact fun _ _ _ h => h
        case dn104 => rfl
        case hyn104 => (intro z hSw; (try dsimp only at hSw); go_simp; (try with_reducible rfl))
        try simp only [Act.put, List.setIfInBounds_toArray, List.set_cons_zero, List.set_cons_succ]
        refine wpAnyH_take (i := 6) (oi := ?on105) (v := ?vn105) ?hin105 ?an105 ?bn105 ?cn105 ?qn105 (Or.inl ⟨?dn105, ?hyn105⟩) hHeld ?restn105
        case hin105 => (simp only [List.getElem?_toArray, List.getElem?_cons_succ, List.getElem?_cons_zero]; exact rfl)
        case an105 => kernel_rfl
        case bn105 => kernel_rfl
        case cn105 => kernel_rfl
        case qn105 => exact fun _ _ _ h => h
        case dn105 => rfl
        case hyn105 => (intro z hSw; (try dsimp only at hSw); go_simp; (try with_reducible rfl))
        try simp only [Act.put, List.setIfInBounds_toArray, List.set_cons_zero, List.set_cons_succ]
        refine wpAnyH_take (i := 7) (oi := ?on106) (v := ?vn106) ?hin106 ?an106 ?bn106 ?cn106 ?qn106 (Or.inl ⟨?dn106, ?hyn106⟩) hHeld ?restn106
        case hin106 => (simp only [List.getElem?_toArray, List.getElem?_cons_succ, List.getElem?_cons_zero]; exact rfl)
        case an106 => kernel_rfl
        case bn106 => kernel_rfl
        case cn106 => kernel_rfl
        case qn106 => exact fun _ _ _ h => h
        case dn106 => rfl
        case hyn106 => (intro z hSw; (try dsimp only at hSw); go_simp; (try with_reducible rfl))
        try simp only [Act.put, List.setIfInBounds_toArray, List.set_cons_zero, List.set_cons_succ]
        refine wpAnyH_take (i := 8) (oi := ?on107) (v := ?vn107) ?hin107 ?an107 ?bn107 ?cn107 ?qn107 (Or.inl ⟨?dn107, ?hyn107⟩) hHeld ?restn107
        case hin107 => (simp only [List.getElem?_toArray, List.getElem?_cons_succ, List.getElem?_cons_zero]; exact rfl)
        case an107 => kernel_rfl
        case bn107 => kernel_rfl
        case cn107 => kernel_rfl
        case qn107 => exact fun _ _ _ h => h
        case dn107 => rfl
        case hyn107 => (intro z hSw; (try dsimp only at hSw); go_simp; (try with_reducible rfl))
        try simp only [Act.put, List.setIfInBounds_toArray, List.set_cons_zero, List.set_cons_succ]
        refine wpAnyH_ready (rs := [9]) (by kernel_rfl) (by simp) ?_
        refine AllReadyH.cons (o := ?on108) ?hin108 ?restn108 AllReadyH.nil
        case hin108 => (simp only [List.getElem?_toArray, List.getElem?_cons_succ, List.getElem?_cons_zero]; exact rfl)
        intro K hK
        go_simp
        go_at_call 46
        refine (KNH.out _).mono ?_
        rintro e w3 ⟨rfl, hg3⟩
        have h3 : Grew w2 w3 := Grew.trans (by repeat (first | with_reducible assumption | with_reducible refine Grew.alloc ?_ _ | with_reducible refine Grew.drew ?_ | with_reducible refine Grew.drewN ?_ _)) hg3
        refine hK.out _ _ ?_ (fun hHeld => ?_)
        · (try dsimp only); first | with_reducible assumption | exact Grew.alloc ‹_› _
        clear hK K
        try simp only [Act.put, List.setIfInBounds_toArray, List.set_cons_zero, List.set_cons_succ]
        refine wpAnyH_take (i := 10) (oi := ?on109) (v := ?vn109) ?hin109 ?an109 ?bn109 ?cn109 ?qn109 (Or.inl ⟨?dn109, ?hyn109⟩) hHeld ?restn109
        case hin109 => (simp only [List.getElem?_toArray, List.getElem?_cons_succ, List.getElem?_cons_zero]; exact rfl)
        case an109 => kernel_rfl
        case bn109 => kernel_rfl
        case cn109 => kernel_rfl
        case qn109 => exact fun _ _ _ h => h
        case dn109 => rfl
        case hyn109 => (intro z hSw; (try dsimp only at hSw); go_simp; (try with_reducible rfl))
        try simp only [Act.put, List.setIfInBounds_toArray, List.set_cons_zero, List.set_cons_succ]
        refine wpAnyH_take (i := 11) (oi := ?on110) (v := ?vn110) ?hin110 ?an110 ?bn110 ?cn110 ?qn110 (Or.inl ⟨?dn110, ?hyn110⟩) hHeld ?restn110
        case hin110 => (simp only [List.getElem?_toArray, List.getElem?_cons_succ, List.getElem?_cons_zero]; exact rfl)
        case an110 => kernel_rfl
        case bn110 => kernel_rfl
        case cn110 => kernel_rfl
        case qn110 => exact fun _ _ _ h => h
        case dn110 => rfl
        case hyn110 => (intro z hSw; (try dsimp only at hSw); go_simp; (try with_reducible rfl))
        try simp only [Act.put, List.setIfInBounds_toArray, List.set_cons_zero, List.set_cons_succ]
        refine wpAnyH_take (i := 12) (oi := ?on111) (v := ?vn111) ?hin111 ?an111 ?bn111 ?cn111 ?qn111 (Or.inl ⟨?dn111, ?hyn111⟩) hHeld ?restn111
        case hin111 => (simp only [List.getElem?_toArray, List.getElem?_cons_succ, List.getElem?_cons_zero]; exact rfl)
        case an111 => kernel_rfl
        case bn111 => kernel_rfl
        case cn111 => kernel_rfl
        case qn111 => exact fun _ _ _ h => h
        case dn111 => rfl
        case hyn111 => (intro z hSw; (try dsimp only at hSw); go_simp; (try with_reducible rfl))
        try simp only [Act.put, List.setIfInBounds_toArray, List.set_cons_zero, List.set_cons_succ]
        refine wpAnyH_take (i := 13) (oi := ?on112) (v := ?vn112) ?hin112 ?an112 ?bn112 ?cn112 ?qn112 (Or.inl ⟨?dn112, ?hyn112⟩) hHeld ?restn112
        case hin112 => (simp only [List.getElem?_toArray, List.getElem?_cons_succ, List.getElem?_cons_zero]; exact rfl)
        case an112 => kernel_rfl
        case bn112 => kernel_rfl
        case cn112 => kernel_rfl
        case qn112 => exact fun _ _ _ h => h
        case dn112 => rfl
        case hyn112 => (intro z hSw; (try dsimp only at hSw); go_simp; (try with_reducible rfl))
        try simp only [Act.put, List.setIfInBounds_toArray, List.set_cons_zero, List.set_cons_succ]
        refine wpAnyH_take (i := 14) (oi := ?on113) (v := ?vn113) ?hin113 ?an113 ?bn113 ?cn113 ?qn113 (Or.inl ⟨?dn113, ?hyn113⟩) hHeld ?restn113
        case hin113 => (simp only [List.getElem?_toArray, List.getElem?_cons_succ, List.getElem?_cons_zero]; exact rfl)
        case an113 => kernel_rfl
        case bn113 => kernel_rfl
        case cn113 => kernel_rfl
        case qn113 => exact fun _ _ _ h => h
        case dn113 => rfl
        case hyn113 => (intro z hSw; (try dsimp only at hSw); go_simp; (try with_reducible rfl))
        try simp only [Act.put, List.setIfInBounds_toArray, List.set_cons_zero, List.set_cons_succ]
        refine wpAnyH_take (i := 15) (oi := ?on114) (v := ?vn114) ?hin114 ?an114 ?bn114 ?cn114 ?qn114 (Or.inl ⟨?dn114, ?hyn114⟩) hHeld ?restn114
        case hin114 => (simp only [List.getElem?_toArray, List.getElem?_cons_succ, List.getElem?_cons_zero]; exact rfl)
        case an114 => kernel_rfl
        case bn114 => kernel_rfl
        case cn114 => kernel_rfl
        case qn114 => exact fun _ _ _ h => h
        case dn114 => rfl
        case hyn114 => (intro z hSw; (try dsimp only at hSw); go_simp; (try with_reducible rfl))
        try simp only [Act.put, List.setIfInBounds_toArray, List.set_cons_zero, List.set_cons_succ]
        refine wpAnyH_take (i := 16) (oi := ?on115) (v := ?vn115) ?hin115 ?an115 ?bn115 ?cn115 ?qn115 (Or.inl ⟨?dn115, ?hyn115⟩) hHeld ?restn115
        case hin115 => (simp only [List.getElem?_toArray, List.getElem?_cons_succ, List.getElem?_cons_zero]; exact rfl)
        case an115 => kernel_rfl
        case bn115 => kernel_rfl
        case cn115 => kernel_rfl
        case qn115 => exact fun _ _ _ h => h
        case dn115 => rfl
        case hyn115 => (intro z hSw; (try dsimp only at hSw); go_simp; (try with_reducible rfl))
        try simp only [Act.put, List.setIfInBounds_toArray, List.set_cons_zero, List.set_cons_succ]
        refine wpAnyH_take (i := 17) (oi := ?on116) (v := ?vn116) ?hin116 ?an116 ?bn116 ?cn116 ?qn116 (Or.inl ⟨?dn116, ?hyn116⟩) hHeld ?restn116
        case hin116 => (simp only [List.getElem?_toArray, List.getElem?_cons_succ, List.getElem?_cons_zero]; exact rfl)
        case an116 => kernel_rfl
        case bn116 => kernel_rfl
        case cn116 => kernel_rfl
        case qn116 => exact fun _ _ _ h => h
        case dn116 => rfl
        case hyn116 => (intro z hSw; (try dsimp only at hSw); go_simp; (try with_reducible rfl))
        try simp only [Act.put, List.setIfInBounds_toArray, List.set_cons_zero, List.set_cons_succ]
        refine wpAnyH_take (i := 18) (oi := ?on117) (v := ?vn117) ?hin117 ?an117 ?bn117 ?cn117 ?qn117 (Or.inl ⟨?dn117, ?hyn117⟩) hHeld ?restn117
        case hin117 => (simp only [List.getElem?_toArray, List.getElem?_cons_succ, List.getElem?_cons_zero]; exact rfl)
        case an117 => kernel_rfl
        case bn117 => kernel_rfl
        case cn117 => kernel_rfl
        case qn117 => exact fun _ _ _ h => h
        case dn117 => rfl
        case hyn117 => (intro z hSw; (try dsimp only at hSw); go_simp; (try with_reducible rfl))
        try simp only [Act.put, List.setIfInBounds_toArray, List.set_cons_zero, List.set_cons_succ]
        refine wpAnyH_ready (rs := [19]) (by kernel_rfl) (by simp) ?_
        refine AllReadyH.cons (o := ?on118) ?hin118 ?restn118 AllReadyH.nil
        case hin118 => (simp only [List.getElem?_toArray, List.getElem?_cons_succ, List.getElem?_cons_zero]; exact rfl)
        intro K hK
        go_simp
        go_at_call 49
        refine (KE.out _ (g2.trans h3)).mono ?_
        rintro e w5 ⟨rfl, hg5⟩
        have h5 : Grew w2 w5 := h3.trans hg5
        refine hK.out _ _ ?_ (fun hHeld => ?_)
        · (try dsimp only); first | with_reducible assumption | exact Grew.alloc ‹_› _
        clear hK K
        try simp only [Act.put, List.setIfInBounds_toArray, List.set_cons_zero, List.set_cons_succ]
        refine wpAnyH_take (i := 20) (oi := ?on119) (v := ?vn119) ?hin119 ?an119 ?bn119 ?cn119 ?qn119 (Or.inl ⟨?dn119, ?hyn119⟩) hHeld ?restn119
        case hin119 => (simp only [List.getElem?_toArray, List.getElem?_cons_succ, List.getElem?_cons_zero]; exact rfl)
        case an119 => kernel_rfl
        case bn119 => kernel_rfl
        case cn119 => kernel_rfl
        case qn119 => exact fun _ _ _ h => h
        case dn119 => rfl
        case hyn119 => (intro z hSw; (try dsimp only at hSw); go_simp; (try with_reducible rfl))
        try simp only [Act.put, List.setIfInBounds_toArray, List.set_cons_zero, List.set_cons_succ]
        refine wpAnyH_take (i := 21) (oi := ?on120) (v := ?vn120) ?hin120 ?an120 ?bn120 ?cn120 ?qn120 (Or.inl ⟨?dn120, ?hyn120⟩) hHeld ?restn120
        case hin120 => (simp only [List.getElem?_toArray, List.getElem?_cons_succ, List.getElem?_cons_zero]; exact rfl)
        case an120 => kernel_rfl
        case bn120 => kernel_rfl
        case cn120 => kernel_rfl
        case qn120 => exact fun _ _ _ h => h
        case dn120 => rfl
        case hyn120 => (intro z hSw; (try dsimp only at hSw); go_simp; (try with_reducible rfl))
        try simp only [Act.put, List.setIfInBounds_toArray, List.set_cons_zero, List.set_cons_succ]
        refine wpAnyH_done (by kernel_rfl) ?_ _
        go_wp2_with fail
        go_ret
        exact ⟨by rw [hR]; rfl, g2.trans h5⟩
  by_cases h3r : rr = 3
  · subst h3r
    rw [fx_3 hf] at hR
    cases hin : decide (0 ≤ fi ∧ fi ≤ (k : Int) - 1) with
    | false =>
      rw [hin, Bool.false_and] at hR
      go_wp2_with fail
      go_ret
      exact ⟨by rw [hR]; rfl, g2⟩
    | true =>
    rw [hin, Bool.true_and] at hR
    have hin1 : 0 ≤ fi ∧ fi ≤ (k : Int) - 1 := by simpa using hin
    have KN2 := fun W => l01In_c se 0 ((k : Int) - 1) W
    cases hin2 : decide (0 ≤ se ∧ se ≤ (k : Int) - 1) with
    | false =>
      rw [hin2, Bool.false_and] at hR
      rw [hin2] at KN2
      replace KN2 := Lib.hid KN2
      go_wp2_with fail
      refine (KN2.out _).mono ?_
      rintro e w3 ⟨rfl, hg3⟩
      go_wp2_with fail
      go_ret
      exact ⟨by rw [hR]; rfl, g2.trans hg3⟩
    | true =>
    rw [hin2, Bool.true_and] at hR
    rw [hin2] at KN2
    replace KN2 := Lib.hid KN2
    have hin3 : 0 ≤ se ∧ se ≤ (k : Int) - 1 := by simpa using hin2
    obtain ⟨a, rfl⟩ : ∃ a : Nat, fi = (a : Int) := ⟨fi.toNat, by omega⟩
    obtain ⟨d, rfl⟩ : ∃ d : Nat, se = (d : Int) := ⟨se.toNat, by omega⟩
    rw [Int.toNat_natCast, Int.toNat_natCast] at hR
    obtain ⟨⟨ua, hca, hna⟩, hfa⟩ := HX.out a (by omega)
    obtain ⟨⟨ud, hcd, hnd⟩, hfd⟩ := HX.out d (by omega)
    have KJ := Lib.hid (fun W (hW : Grew w W) => l02Pair_c 4 _ _ _ fo W (hnd.grew hW) (HU.out W hW) (by have := hfl.out; omega))
    have KE := Lib.hid (fun W (hW : Grew w W) v2 ys (h2 : Nodes W v2 ys) => l02Equal_c _ v2 _ ys W (hna.grew hW) h2 (by omega))
    obtain ⟨Aa, ca, rfl⟩ := nodes_slice hna
    obtain ⟨Ad, cd, rfl⟩ := nodes_slice hnd
    have ha3 := fun W (hW : Grew w2 W) => (hca W (g2.trans hW)).2.2.2
    have hd3 := fun W (hW : Grew w2 W) => (hcd W (g2.trans hW)).2.2.2
    have haln : (a : Int) < (ln : Int) := by omega
    have hdln : (d : Int) < (ln : Int) := by omega
    clear hca hcd hna hnd HX
    generalize (hl L a).2.2.2 = xa at *
    generalize (hl L d).2.2.2 = xd at *
    generalize xa.length = la at *
    generalize xd.length = ld at *
    go_wp2_with fail
    refine (KN2.out _).mono ?_
    rintro e w3 ⟨rfl, hg3⟩
    have h3 : Grew w2 w3 := hg3
    have r3d := h3.drew
    have r33 := Grew.refl w3
    go_wp2_with fail
    refine wp_region_held_drew (S := fun w' => Grew w2 w') (by kernel_rfl) r3d (fun hHeld => ?_)
    refine wpAnyH_take (i := 0) (oi := ?on121) (v := ?vn121) ?hin121 ?an121 ?bn121 ?cn121 ?qn121 (Or.inl ⟨?dn121, ?hyn121⟩) hHeld ?restn121
    case hin121 => (simp only [List.getElem?_toArray, List.getElem?_cons_zero]; exact rfl)
    case an121 => kernel_rfl
    case bn121 => kernel_rfl
    case cn121 => kernel_rfl
    case qn121 => exact fun _ _ _ h => h
    case dn121 => rfl
    case hyn121 => (intro z hSw; (try dsimp only at hSw); go_simp; (try with_reducible rfl))
    try simp only [Act.put, List.setIfInBounds_toArray, List.set_cons_zero, List.set_cons_succ]
    refine wpAnyH_take (i := 1) (oi := ?on122) (v := ?vn122) ?hin122 ?an122 ?bn122 ?cn122 ?qn122 (Or.inl ⟨?dn122, ?hyn122⟩) hHeld ?restn122
    case hin122 => (simp only [List.getElem?_toArray, List.getElem?_cons_succ, List.getElem?_cons_zero]; exact rfl)
    case an122 => kernel_rfl
    case bn122 => kernel_rfl
    case cn122 => kernel_rfl
    case qn122 => exact fun _ _ _ h => h
    case dn122 => rfl
    case hyn122 => (intro z hSw; (try dsimp only at hSw); go_simp; (try with_reducible rfl))
    try simp only [Act.put, List.setIfInBounds_toArray, List.set_cons_zero, List.set_cons_succ]
    refine wpAnyH_take (i := 2) (oi := ?on123) (v := ?vn123) ?hin123 ?an123 ?bn123 ?cn123 ?qn123 (Or.inl ⟨?dn123, ?hyn123⟩) hHeld ?restn123
    case hin123 => (simp only [List.getElem?_toArray, List.getElem?_cons_succ, List.getElem?_cons_zero]; exact rfl)
    case an123 => kernel_rfl
    case bn123 => kernel_rfl
    case cn123 => kernel_rfl
    case qn123 => exact fun _ _ _ h => h
    case dn123 => rfl
    case hyn123 => (intro z hSw; (try dsimp only at hSw); go_simp; (try with_reducible rfl))
    try simp only [Act.put, List.setIfInBounds_toArray, List.set_cons_zero, List.set_cons_succ]
    refine wpAnyH_take (i := 3) (oi := ?on124) (v := ?vn124) ?hin124 ?an124 ?bn124 ?cn124 ?qn124 (Or.inl ⟨?dn124, ?hyn124⟩) hHeld ?restn124
    case hin124 => (simp only [List.getElem?_toArray, List.getElem?_cons_succ, List.getElem?_cons_zero]; exact rfl)
    case an124 => kernel_rfl
    case bn124 => kernel_rfl
    case cn124 => kernel_rfl
    case qn124 => exact fun _ _ _ h => h
    case dn124 => rfl
    case hyn124 => (intro z hSw; (try dsimp only at hSw); go_simp; (try with_reducible rfl))
    try simp only [Act.put, List.setIfInBounds_toArray, List.set_cons_zero, List.set_cons_succ]
    refine wpAnyH_take (i := 4) (oi := ?on125) (v := ?vn125) ?hin125 ?an125 ?bn125 ?cn125 ?qn125 (Or.inl ⟨?dn125, ?hyn125⟩) hHeld ?restn125
    case hin125 => (simp only [List.getElem?_toArray, List.getElem?_cons_succ, List.getElem?_cons_zero]; exact rfl)
    case an125 => kernel_rfl
    case bn125 => kernel_rfl
    case cn125 => kernel_rfl
    case qn125 => exact fun _ _ _ h => h
    case dn125 => rfl
    case hyn125 => (intro z hSw; (try dsimp only at hSw); go_simp; (try with_reducible rfl))
    try simp only [Act.put, List.setIfInBounds_toArray, List.set_cons_zero, List.set_cons_succ]
    refine wpAnyH_take (i := 5) (oi := ?on126) (v := ?vn126) ?hin126 ?an126 ?bn126 ?cn126 ?qn126 (Or.inl ⟨?dn126, ?hyn126⟩) hHeld ?restn126
    case hin126 => (simp only [List.getElem?_toArray, List.getElem?_cons_succ, List.getElem?_cons_zero]; exact rfl)
    case an126 => kernel_rfl
    case bn126 => kernel_rfl
    case cn126 => kernel_rfl
    case qn126 => exact fun _ _ _ h => h
    case dn126 => rfl
    case hyn126 => (intro z hSw; (try dsimp only at hSw); go_simp; (try with_reducible rfl))
    try simp only [Act.put, List.setIfInBounds_toArray, List.set_cons_zero, List.set_cons_succ]
    refine wpAnyH_take (i := 6) (oi := ?on127) (v := ?vn127) ?hin127 ?an127 ?bn127 ?cn127 ?qn127 (Or.inl ⟨?dn127, ?hyn127⟩) hHeld ?restn127
    case hin127 => (simp only [List.getElem?_toArray, List.getElem?_cons_succ, List.getElem?_cons_zero]; exact rfl)
    case an127 => kernel_rfl
    case bn127 => kernel_rfl
    case cn127 => kernel_rfl
    case qn127 => exact fun _ _ _ h => h
    case dn127 => rfl
    case hyn127 => (intro z hSw; (try dsimp only at hSw); go_simp; (try with_reducible rfl))
    try simp only [Act.put, List.setIfInBounds_toArray, List.set_cons_zero, List.set_cons_succ]
    refine wpAnyH_take (i := 7) (oi := ?on128) (v := ?vn128) ?hin128 ?an128 ?bn128 ?cn128 ?qn128 (Or.inl ⟨?dn128, ?hyn128⟩) hHeld ?restn128
    case hin128 => (simp only [List.getElem?_toArray, List.getElem?_cons_succ, List.getElem?_cons_zero]; exact rfl)
    case an128 => kernel_rfl
    case bn128 => kernel_rfl
    case cn128 => kernel_rfl
    case qn128 => exact fun _ _ _ h => h
    case dn128 => rfl
    case hyn128 => (intro z hSw; (try dsimp only at hSw); go_simp; (try with_reducible rfl))
    try simp only [Act.put, List.setIfInBounds_toArray, List.set_cons_zero, List.set_cons_succ]
    refine wpAnyH_take (i := 8) (oi := ?on129) (v := ?vn129) ?hin129 ?an129 ?bn129 ?cn129 ?qn129 (Or.inl ⟨?dn129, ?hyn129⟩) hHeld ?restn129
    case hin129 => (simp only [List.getElem?_toArray, List.getElem?_cons_succ, List.getElem?_cons_zero]; exact rfl)
    case an129 => kernel_rfl
    case bn129 => kernel_rfl
    case cn129 => kernel_rfl
    case qn129 => exact fun _ _ _ h => h
    case dn129 => rfl
    case hyn129 => (intro z hSw; (try dsimp only at hSw); go_simp; (try with_reducible rfl))
    try simp only [Act.put, List.setIfInBounds_toArray, List.set_cons_zero, List.set_cons_succ]
    refine wpAnyH_ready (rs := [9]) (by kernel_rfl) (by simp) ?_
    refine AllReadyH.cons (o := ?on130) ?hin130 ?restn130 AllReadyH.nil
    case hin130 => (simp only [List.getElem?_toArray, List.getElem?_cons_succ, List.getElem?_cons_zero]; exact rfl)
    intro K hK
    go_simp
    go_at_call 50
    refine (KJ.out _ (g2.trans (by repeat (first | with_reducible assumption | with_reducible refine Grew.alloc ?_ _ | with_reducible refine Grew.drew ?_ | with_reducible refine Grew.drewN ?_ _)))).mono ?_
    rintro e w4 ⟨v4, rfl, ho4, hg4⟩
    have h4 : Grew w2 w4 := Grew.trans (by repeat (first | with_reducible assumption | with_reducible refine Grew.alloc ?_ _ | with_reducible refine Grew.drew ?_ | with_reducible refine Grew.drewN ?_ _)) hg4
    obtain ⟨A4, c4, rfl⟩ := nodes_slice ho4.nodes
    refine hK.out _ _ ?_ (fun hHeld => ?_)
    · (try dsimp only); first | with_reducible assumption | exact Grew.alloc ‹_› _
    clear hK K
    try simp only [Act.put, List.setIfInBounds_toArray, List.set_cons_zero, List.set_cons_succ]
    refine wpAnyH_ready (rs := [10]) (by kernel_rfl) (by simp) ?_
    refine AllReadyH.cons (o := ?on131) ?hin131 ?restn131 AllReadyH.nil
    case hin131 => (simp only [List.getElem?_toArray, List.getElem?_cons_succ, List.getElem?_cons_zero]; exact rfl)
    intro K hK
    go_simp
    go_at_call 49
    refine (KE.out _ (g2.trans h4) _ _ ho4.nodes).mono ?_
    rintro e w5 ⟨rfl, hg5⟩
    have h5 : Grew w2 w5 := h4.trans hg5
    refine hK.out _ _ ?_ (fun hHeld => ?_)
    · (try dsimp only); first | with_reducible assumption | exact Grew.alloc ‹_› _
    clear hK K
    try simp only [Act.put, List.setIfInBounds_toArray, List.set_cons_zero, List.set_cons_succ]
    refine wpAnyH_take (i := 11) (oi := ?on132) (v := ?vn132) ?hin132 ?an132 ?bn132 ?cn132 ?qn132 (Or.inl ⟨?dn132, ?hyn132⟩) hHeld ?restn132
    case hin132 => (simp only [List.getElem?_toArray, List.getElem?_cons_succ, List.getElem?_cons_zero]; exact rfl)
    case an132 => kernel_rfl
    case bn132 => kernel_rfl
    case cn132 => kernel_rfl
    case qn132 => exact fun _ _ _ h => h
    case dn132 => rfl
    case hyn132 => (intro z hSw; (try dsimp only at hSw); go_simp; (try with_reducible rfl))
    try simp only [Act.put, List.setIfInBounds_toArray, List.set_cons_zero, List.set_cons_succ]
    refine wpAnyH_done (by kernel_rfl) ?_ _
    go_wp2_with fail
    go_ret
    exact ⟨by rw [hR]; rfl, g2.trans h5⟩
  by_cases h4r : rr = 4
  · subst h4r
    rw [fx_4 hf] at hR
    cases hse : (se == 0) with
    | false =>
      have hne : (se != 0) = true := by simpa using hse
      simp only [hse, Bool.false_and, Bool.and_false] at hR
      go_wp2_with fail
      refine wp_region_held_drew (S := fun w' => Grew w2 w') (by kernel_rfl) r2d (fun hHeld => ?_)
      refine wpAnyH_take (i := 0) (oi := ?on133) (v := ?vn133) ?hin133 ?an133 ?bn133 ?cn133 ?qn133 (Or.inl ⟨?dn133, ?hyn133⟩) hHeld ?restn133
      case hin133 => (simp only [List.getElem?_toArray, List.getElem?_cons_zero]; exact rfl)
      case an133 => kernel_rfl
      case bn133 => kernel_rfl
      case cn133 => kernel_rfl
      case qn133 => exact fun _ _ _ h => h
      case dn133 => rfl
      case hyn133 => (intro z hSw; (try dsimp only at hSw); go_simp; (try with_reducible rfl))
      try simp only [Act.put, List.setIfInBounds_toArray, List.set_cons_zero, List.set_cons_succ]
      refine wpAnyH_take (i := 1) (oi := ?on134) (v := ?vn134) ?hin134 ?an134 ?bn134 ?cn134 ?qn134 (Or.inl ⟨?dn134, ?hyn134⟩) hHeld ?restn134
      case hin134 => (simp only [List.getElem?_toArray, List.getElem?_cons_succ, List.getElem?_cons_zero]; exact rfl)
      case an134 => kernel_rfl
      case bn134 => kernel_rfl
      case cn134 => kernel_rfl
      case qn134 => exact fun _ _ _ h => h
      case dn134 => rfl
      case hyn134 => (intro z hSw; (try dsimp only at hSw); go_simp; (try with_reducible rfl))
      try simp only [Act.put, List.setIfInBounds_toArray, List.set_cons_zero, List.set_cons_succ]
      refine wpAnyH_take (i := 2) (oi := ?on135) (v := ?vn135) ?hin135 ?an135 ?bn135 ?cn135 ?qn135 (Or.inl ⟨?dn135, ?hyn135⟩) hHeld ?restn135
      case hin135 => (simp only [List.getElem?_toArray, List.getElem?_cons_succ, List.getElem?_cons_zero]; exact rfl)
      case an135 => kernel_rfl
      case bn135 => kernel_rfl
      case cn135 => kernel_rfl
      case qn135 => exact fun _ _ _ h => h
      case dn135 => rfl
      case hyn135 => (intro z hSw; (try dsimp only at hSw); go_simp; (try with_reducible rfl))
      try simp only [Act.put, List.setIfInBounds_toArray, List.set_cons_zero, List.set_cons_succ]
      refine wpAnyH_take (i := 3) (oi := ?on136) (v := ?vn136) ?hin136 ?an136 ?bn136 ?cn136 ?qn136 (Or.inl ⟨?dn136, ?hyn136⟩) hHeld ?restn136
      case hin136 => (simp only [List.getElem?_toArray, List.getElem?_cons_succ, List.getElem?_cons_zero]; exact rfl)
      case an136 => kernel_rfl
      case bn136 => kernel_rfl
      case cn136 => kernel_rfl
      case qn136 => exact fun _ _ _ h => h
      case dn136 => rfl
      case hyn136 => (intro z hSw; (try dsimp only at hSw); go_simp; (try with_reducible rfl))
      try simp only [Act.put, List.setIfInBounds_toArray, List.set_cons_zero, List.set_cons_succ]
      refine wpAnyH_take (i := 4) (oi := ?on137) ?hin137 ?an137 ?bn137 ?cn137 ?qn137 (Or.inr ⟨?dn137, rfl⟩) hHeld ?restn137
      case hin137 => (simp only [List.getElem?_toArray, List.getElem?_cons_succ, List.getElem?_cons_zero]; exact rfl)
      case an137 => kernel_rfl
      case bn137 => kernel_rfl
      case cn137 => kernel_rfl
      case qn137 => exact fun _ _ _ h => h
      case dn137 => rfl
      try simp only [Act.put, List.setIfInBounds_toArray, List.set_cons_zero, List.set_cons_succ]
      refine wpAnyH_take (i := 5) (oi := ?on138) ?hin138 ?an138 ?bn138 ?cn138 ?qn138 (Or.inr ⟨?dn138, rfl⟩) hHeld ?restn138
      case hin138 => (simp only [List.getElem?_toArray, List.getElem?_cons_succ, List.getElem?_cons_zero]; exact rfl)
      case an138 => kernel_rfl
      case bn138 => kernel_rfl
      case cn138 => kernel_rfl
      case qn138 => exact fun _ _ _ h => h
      case dn138 => rfl
      try simp only [Act.put, List.setIfInBounds_toArray, List.set_cons_zero, List.set_cons_succ]
      refine wpAnyH_take (i := 6) (oi := ?on139) (v := ?vn139) ?hin139 ?an139 ?bn139 ?cn139 ?qn139 (Or.inl ⟨?dn139, ?hyn139⟩) hHeld ?restn139
      case hin139 => (simp only [List.getElem?_toArray, List.getElem?_cons_succ, List.getElem?_cons_zero]; exact rfl)
      case an139 => kernel_rfl
      case bn139 => kernel_rfl
      case cn139 => kernel_rfl
      case qn139 => exact fun _ _ _ h => h
      case dn139 => rfl
      case hyn139 => (intro z hSw; (try dsimp only at hSw); go_simp; (try with_reducible rfl))
      try simp only [Act.put, List.setIfInBounds_toArray, List.set_cons_zero, List.set_cons_succ]
      refine wpAnyH_take (i := 7) (oi := ?on140) (v := ?vn140) ?hin140 ?an140 ?bn140 ?cn140 ?qn140 (Or.inl ⟨?dn140, ?hyn140⟩) hHeld ?restn140
      case hin140 => (simp only [List.getElem?_toArray, List.getElem?_cons_succ, List.getElem?_cons_zero]; exact rfl)
      case an140 => kernel_rfl
      case bn140 => kernel_rfl
      case cn140 => kernel_rfl
      case qn140 => exact fun _ _ _ h => h
      case dn140 => rfl
      case hyn140 => (intro z hSw; (try dsimp only at hSw); go_simp; (try with_reducible rfl))
      try simp only [Act.put, List.setIfInBounds_toArray, List.set_cons_zero, List.set_cons_succ]
      refine wpAnyH_take (i := 8) (oi := ?on141) ?hin141 ?an141 ?bn141 ?cn141 ?qn141 (Or.inr ⟨?dn141, rfl⟩) hHeld ?restn141
      case hin141 => (simp only [List.getElem?_toArray, List.getElem?_cons_succ, List.getElem?_cons_zero]; exact rfl)
      case an141 => kernel_rfl
      case bn141 => kernel_rfl
      case cn141 => kernel_rfl
      case qn141 => exact fun _ _ _ h => h
      case dn141 => rfl
      try simp only [Act.put, List.setIfInBounds_toArray, List.set_cons_zero, List.set_cons_succ]
      refine wpAnyH_take (i := 9) (oi := ?on142) ?hin142 ?an142 ?bn142 ?cn142 ?qn142 (Or.inr ⟨?dn142, rfl⟩) hHeld ?restn142
      case hin142 => (simp only [List.getElem?_toArray, List.getElem?_cons_succ, List.getElem?_cons_zero]; exact rfl)
      case an142 => kernel_rfl
      case bn142 => kernel_rfl
      case cn142 => kernel_rfl
      case qn142 => exact fun _ _ _ h => h
      case dn142 => rfl
      try simp only [Act.put, List.setIfInBounds_toArray, List.set_cons_zero, List.set_cons_succ]
      refine wpAnyH_take (i := 10) (oi := ?on143) (v := ?vn143) ?hin143 ?an143 ?bn143 ?cn143 ?qn143 (Or.inl ⟨?dn143, ?hyn143⟩) hHeld ?restn143
      case hin143 => (simp only [List.getElem?_toArray, List.getElem?_cons_succ, List.getElem?_cons_zero]; exact rfl)
      case an143 => kernel_rfl
      case bn143 => kernel_rfl
      case cn143 => kernel_rfl
      case qn143 => exact fun _ _ _ h => h
      case dn143 => rfl
      case hyn143 => (intro z hSw; (try dsimp only at hSw); go_simp; (try with_reducible rfl))
      try simp only [Act.put, List.setIfInBounds_toArray, List.set_cons_zero, List.set_cons_succ]
      refine wpAnyH_take (i := 11) (oi := ?on144) (v := ?vn144) ?hin144 ?an144 ?bn144 ?cn144 ?qn144 (Or.inl ⟨?dn144, ?hyn144⟩) hHeld ?restn144
      case hin144 => (simp only [List.getElem?_toArray, List.getElem?_cons_succ, List.getElem?_cons_zero]; exact rfl)
      case an144 => kernel_rfl
      case bn144 => kernel_rfl
      case cn144 => kernel_rfl
      case qn144 => exact fun _ _ _ h => h
      case dn144 => rfl
      case hyn144 => (intro z hSw; (try dsimp only at hSw); go_simp; (try with_reducible rfl))
      try simp only [Act.put, List.setIfInBounds_toArray, List.set_cons_zero, List.set_cons_succ]
      refine wpAnyH_take (i := 12) (oi := ?on145) ?hin145 ?an145 ?bn145 ?cn145 ?qn145 (Or.inr ⟨?dn145, rfl⟩) hHeld ?restn145
      case hin145 => (simp only [List.getElem?_toArray, List.getElem?_cons_succ, List.getElem?_cons_zero]; exact rfl)
      case an145 => kernel_rfl
      case bn145 => kernel_rfl
      case cn145 => kernel_rfl
      case qn145 => exact fun _ _ _ h => h
      case dn145 => rfl
      try simp only [Act.put, List.setIfInBounds_toArray, List.set_cons_zero, List.set_cons_succ]
      refine wpAnyH_take (i := 13) (oi := ?on146) ?hin146 ?an146 ?bn146 ?cn146 ?qn146 (Or.inr ⟨?dn146, rfl⟩) hHeld ?restn146
      case hin146 => (simp only [List.getElem?_toArray, List.getElem?_cons_succ, List.getElem?_cons_zero]; exact rfl)
      case an146 => kernel_rfl
      case bn146 => kernel_rfl
      case cn146 => kernel_rfl
      case qn146 => exact fun _ _ _ h => h
      case dn146 => rfl
      try simp only [Act.put, List.setIfInBounds_toArray, List.set_cons_zero, List.set_cons_succ]
      refine wpAnyH_take (i := 14) (oi := ?on147) (v := ?vn147) ?hin147 ?an147 ?bn147 ?cn147 ?qn147 (Or.inl ⟨?dn147, ?hyn147⟩) hHeld ?restn147
      case hin147 => (simp only [List.getElem?_toArray, List.getElem?_cons_succ, List.getElem?_cons_zero]; exact rfl)
      case an147 => kernel_rfl
      case bn147 => kernel_rfl
      case cn147 => kernel_rfl
      case qn147 => exact fun _ _ _ h => h
      case dn147 => rfl
      case hyn147 => (intro z hSw; (try dsimp only at hSw); go_simp; (try with_reducible rfl))
      try simp only [Act.put, List.setIfInBounds_toArray, List.set_cons_zero, List.set_cons_succ]
      refine wpAnyH_take (i := 15) (oi := ?on148) (v := ?vn148) ?hin148 ?an148 ?bn148 ?cn148 ?qn148 (Or.inl ⟨?dn148, ?hyn148⟩) hHeld ?restn148
      case hin148 => (simp only [List.getElem?_toArray, List.getElem?_cons_succ, List.getElem?_cons_zero]; exact rfl)
      case an148 => kernel_rfl
      case bn148 => kernel_rfl
      case cn148 => kernel_rfl
      case qn148 => exact fun _ _ _ h => h
      case dn148 => rfl
      case hyn148 => (intro z hSw; (try dsimp only at hSw); go_simp; (try with_reducible rfl))
      try simp only [Act.put, List.setIfInBounds_toArray, List.set_cons_zero, List.set_cons_succ]
      refine wpAnyH_take (i := 16) (oi := ?on149) ?hin149 ?an149 ?bn149 ?cn149 ?qn149 (Or.inr ⟨?dn149, rfl⟩) hHeld ?restn149
      case hin149 => (simp only [List.getElem?_toArray, List.getElem?_cons_succ, List.getElem?_cons_zero]; exact rfl)
      case an149 => kernel_rfl
      case bn149 => kernel_rfl
      case cn149 => kernel_rfl
      case qn149 => exact fun _ _ _ h => h
      case dn149 => rfl
      try simp only [Act.put, List.setIfInBounds_toArray, List.set_cons_zero, List.set_cons_succ]
      refine wpAnyH_take (i := 17) (oi := ?on150) ?hin150 ?an150 ?bn150 ?cn150 ?qn150 (Or.inr ⟨?dn150, rfl⟩) hHeld ?restn150
      case hin150 => (simp only [List.getElem?_toArray, List.getElem?_cons_succ, List.getElem?_cons_zero]; exact rfl)
      case an150 => kernel_rfl
      case bn150 => kernel_rfl
      case cn150 => kernel_rfl
      case qn150 => exact fun _ _ _ h => h
      case dn150 => rfl
      try simp only [Act.put, List.setIfInBounds_toArray, List.set_cons_zero, List.set_cons_succ]
      refine wpAnyH_take (i := 18) (oi := ?on151) ?hin151 ?an151 ?bn151 ?cn151 ?qn151 (Or.inr ⟨?dn151, rfl⟩) hHeld ?restn151
      case hin151 => (simp only [List.getElem?_toArray, List.getElem?_cons_succ, List.getElem?_cons_zero]; exact rfl)
      case an151 => kernel_rfl
      case bn151 => kernel_rfl
      case cn151 => kernel_rfl
      case qn151 => exact fun _ _ _ h => h
      case dn151 => rfl
      try simp only [Act.put, List.setIfInBounds_toArray, List.set_cons_zero, List.set_cons_succ]
      refine wpAnyH_take (i := 19) (oi := ?on152) ?hin152 ?an152 ?bn152 ?cn152 ?qn152 (Or.inr ⟨?dn152, rfl⟩) hHeld ?restn152
      case hin152 => (simp only [List.getElem?_toArray, List.getElem?_cons_succ, List.getElem?_cons_zero]; exact rfl)
      case an152 => kernel_rfl
      case bn152 => kernel_rfl
      case cn152 => kernel_rfl
      case qn152 => exact fun _ _ _ h => h
      case dn152 => rfl
      try simp only [Act.put, List.setIfInBounds_toArray, List.set_cons_zero, List.set_cons_succ]
      refine wpAnyH_take (i := 20) (oi := ?on153) ?hin153 ?an153 ?bn153 ?cn153 ?qn153 (Or.inr ⟨?dn153, rfl⟩) hHeld ?restn153
      case hin153 => (simp only [List.getElem?_toArray, List.getElem?_cons_succ, List.getElem?_cons_zero]; exact rfl)
      case an153 => kernel_rfl
      case bn153 => kernel_rfl
      case cn153 => kernel_rfl
      case qn153 => exact fun _ _ _ h => h
      case dn153 => rfl
      try simp only [Act.put, List.setIfInBounds_toArray, List.set_cons_zero, List.set_cons_succ]
      refine wpAnyH_take (i := 21) (oi := ?on154) ?hin154 ?an154 ?bn154 ?cn154 ?qn154 (Or.inr ⟨?dn154, rfl⟩) hHeld ?restn154
      case hin154 => (simp only [List.getElem?_toArray, List.getElem?_cons_succ, List.getElem?_cons_zero]; exact rfl)
      case an154 => kernel_rfl
      case bn154 => kernel_rfl
      case cn154 => kernel_rfl
      case qn154 => exact fun _ _ _ h => h
      case dn154 => rfl
      try simp only [Act.put, List.setIfInBounds_toArray, List.set_cons_zero, List.set_cons_succ]
      refine wpAnyH_take (i := 22) (oi := ?on155) ?hin155 ?an155 ?bn155 ?cn155 ?qn155 (Or.inr ⟨?dn155, rfl⟩) hHeld ?restn155
      case hin155 => (simp only [List.getElem?_toArray, List.getElem?_cons_succ, List.getElem?_cons_zero]; exact rfl)
      case an155 => kernel_rfl
      case bn155 => kernel_rfl
      case cn155 => kernel_rfl
      case qn155 => exact fun _ _ _ h => h
      case dn155 => rfl
      try simp only [Act.put, List.setIfInBounds_toArray, List.set_cons_zero, List.set_cons_succ]
      refine wpAnyH_take (i := 23) (oi := ?on156) ?hin156 ?an156 ?bn156 ?cn156 ?qn156 (Or.inr ⟨?dn156, rfl⟩) hHeld ?restn156
      case hin156 => (simp only [List.getElem?_toArray, List.getElem?_cons_succ, List.getElem?_cons_zero]; exact rfl)
      case an156 => kernel_rfl
      case bn156 => kernel_rfl
      case cn156 => kernel_rfl
      case qn156 => exact fun _ _ _ h => h
      case dn156 => rfl
      try simp only [Act.put, List.setIfInBounds_toArray, List.set_cons_zero, List.set_cons_succ]
      refine wpAnyH_take (i := 24) (oi := ?on157) ?hin157 ?an157 ?bn157 ?cn157 ?qn157 (Or.inr ⟨?dn157, rfl⟩) hHeld ?restn157
      case hin157 => (simp only [List.getElem?_toArray, List.getElem?_cons_succ, List.getElem?_cons_zero]; exact rfl)
      case an157 => kernel_rfl
      case bn157 => kernel_rfl
      case cn157 => kernel_rfl
      case qn157 => exact fun _ _ _ h => h
      case dn157 => rfl
      try simp only [Act.put, List.setIfInBounds_toArray, List.set_cons_zero, List.set_cons_succ]
      refine wpAnyH_take (i := 25) (oi := ?on158) ?hin158 ?an158 ?bn158 ?cn158 ?qn158 (Or.inr ⟨?dn158, rfl⟩) hHeld ?restn158
      case hin158 => (simp only [List.getElem?_toArray, List.getElem?_cons_succ, List.getElem?_cons_zero]; exact rfl)
      case an158 => kernel_rfl
      case bn158 => kernel_rfl
      case cn158 => kernel_rfl
      case qn158 => exact fun _ _ _ h => h
      case dn158 => rfl
      try simp only [Act.put, List.setIfInBounds_toArray, List.set_cons_zero, List.set_cons_succ]
      refine wpAnyH_take (i := 26) (oi := ?on159) ?hin159 ?an159 ?bn159 ?cn159 ?qn159 (Or.inr ⟨?dn159, rfl⟩) hHeld ?restn159
      case hin159 => (simp only [List.getElem?_toArray, List.getElem?_cons_succ, List.getElem?_cons_zero]; exact rfl)
      case an159 => kernel_rfl
      case bn159 => kernel_rfl
      case cn159 => kernel_rfl
      case qn159 => exact fun _ _ _ h => h
      case dn159 => rfl
      try simp only [Act.put, List.setIfInBounds_toArray, List.set_cons_zero, List.set_cons_succ]
      refine wpAnyH_take (i := 27) (oi := ?on160) (v := ?vn160) ?hin160 ?an160 ?bn160 ?cn160 ?qn160 (Or.inl ⟨?dn160, ?hyn160⟩) hHeld ?restn160
      case hin160 => (simp only [List.getElem?_toArray, List.getElem?_cons_succ, List.getElem?_cons_zero]; exact rfl)
      case an160 => kernel_rfl
      case bn160 => kernel_rfl
      case cn160 => kernel_rfl
      case qn160 => exact fun _ _ _ h => h
      case dn160 => rfl
      case hyn160 => (intro z hSw; (try dsimp only at hSw); go_simp; (try with_reducible rfl))
      try simp only [Act.put, List.setIfInBounds_toArray, List.set_cons_zero, List.set_cons_succ]
      refine wpAnyH_done (by kernel_rfl) ?_ _
      go_wp2_with fail
      go_ret
      exact ⟨by rw [hR]; rfl, g2.trans (by first | assumption | exact r2d)⟩
    | true =>
    have hne : (se != 0) = false := by simpa using hse
    cases hin : decide (0 ≤ fi ∧ fi ≤ (k : Int) - 1) with
    | false =>
      simp only [hin, Bool.false_and, Bool.and_false] at hR
      go_wp2_with fail
      refine wp_region_held_drew (S := fun w' => Grew w2 w') (by kernel_rfl) r2d (fun hHeld => ?_)
      refine wpAnyH_take (i := 0) (oi := ?on161) (v := ?vn161) ?hin161 ?an161 ?bn161 ?cn161 ?qn161 (Or.inl ⟨?dn161, ?hyn161⟩) hHeld ?restn161
      case hin161 => (simp only [List.getElem?_toArray, List.getElem?_cons_zero]; exact rfl)
      case an161 => kernel_rfl
      case bn161 => kernel_rfl
      case cn161 => kernel_rfl
      case qn161 => exact fun _ _ _ h => h
      case dn161 => rfl
      case hyn161 => (intro z hSw; (try dsimp only at hSw); go_simp; (try with_reducible rfl))
      try simp only [Act.put, List.setIfInBounds_toArray, List.set_cons_zero, List.set_cons_succ]
      refine wpAnyH_take (i := 1) (oi := ?on162) (v := ?vn162) ?hin162 ?an162 ?bn162 ?cn162 ?qn162 (Or.inl ⟨?dn162, ?hyn162⟩) hHeld ?restn162
      case hin162 => (simp only [List.getElem?_toArray, List.getElem?_cons_succ, List.getElem?_cons_zero]; exact rfl)
      case an162 => kernel_rfl
      case bn162 => kernel_rfl
      case cn162 => kernel_rfl
      case qn162 => exact fun _ _ _ h => h
      case dn162 => rfl
      case hyn162 => (intro z hSw; (try dsimp only at hSw); go_simp; (try with_reducible rfl))
      try simp only [Act.put, List.setIfInBounds_toArray, List.set_cons_zero, List.set_cons_succ]
      refine wpAnyH_take (i := 2) (oi := ?on163) (v := ?vn163) ?hin163 ?an163 ?bn163 ?cn163 ?qn163 (Or.inl ⟨?dn163, ?hyn163⟩) hHeld ?restn163
      case hin163 => (simp only [List.getElem?_toArray, List.getElem?_cons_succ, List.getElem?_cons_zero]; exact rfl)
      case an163 => kernel_rfl
      case bn163 => kernel_rfl
      case cn163 => kernel_rfl
      case qn163 => exact fun _ _ _ h => h
      case dn163 => rfl
      case hyn163 => (intro z hSw; (try dsimp only at hSw); go_simp; (try with_reducible rfl))
      try simp only [Act.put, List.setIfInBounds_toArray, List.set_cons_zero, List.set_cons_succ]
      refine wpAnyH_take (i := 3) (oi := ?on164) (v := ?vn164) ?hin164 ?an164 ?bn164 ?cn164 ?qn164 (Or.inl ⟨?dn164, ?hyn164⟩) hHeld ?restn164
      case hin164 => (simp only [List.getElem?_toArray, List.getElem?_cons_succ, List.getElem?_cons_zero]; exact rfl)
      case an164 => kernel_rfl
      case bn164 => kernel_rfl
      case cn164 => kernel_rfl
      case qn164 => exact fun _ _ _ h => h
      case dn164 => rfl
      case hyn164 => (intro z hSw; (try dsimp only at hSw); go_simp; (try with_reducible rfl))
      try simp only [Act.put, List.setIfInBounds_toArray, List.set_cons_zero, List.set_cons_succ]
      refine wpAnyH_take (i := 4) (oi := ?on165) (v := ?vn165) ?hin165 ?an165 ?bn165 ?cn165 ?qn165 (Or.inl ⟨?dn165, ?hyn165⟩) hHeld ?restn165
      case hin165 => (simp only [List.getElem?_toArray, List.getElem?_cons_succ, List.getElem?_cons_zero]; exact rfl)
      case an165 => kernel_rfl
      case bn165 => kernel_rfl
      case cn165 => kernel_rfl
      case qn165 => exact fun _ _ _ h => h
      case dn165 => rfl
      case hyn165 => (intro z hSw; (try dsimp only at hSw); go_simp; (try with_reducible rfl))
      try simp only [Act.put, List.setIfInBounds_toArray, List.set_cons_zero, List.set_cons_succ]
      refine wpAnyH_take (i := 5) (oi := ?on166) (v := ?vn166) ?hin166 ?an166 ?bn166 ?cn166 ?qn166 (Or.inl ⟨?dn166, ?hyn166⟩) hHeld ?restn166
      case hin166 => (simp only [List.getElem?_toArray, List.getElem?_cons_succ, List.getElem?_cons_zero]; exact rfl)
      case an166 => kernel_rfl
      case bn166 => kernel_rfl
      case cn166 => kernel_rfl
      case qn166 => exact fun _ _ _ h => h
      case dn166 => rfl
      case hyn166 => (intro z hSw; (try dsimp only at hSw); go_simp; (try with_reducible rfl))
      try simp only [Act.put, List.setIfInBounds_toArray, List.set_cons_zero, List.set_cons_succ]
      refine wpAnyH_take (i := 6) (oi := ?on167) (v := ?vn167) ?hin167 ?an167 ?bn167 ?cn167 ?qn167 (Or.inl ⟨?dn167, ?hyn167⟩) hHeld ?restn167
      case hin167 => (simp only [List.getElem?_toArray, List.getElem?_cons_succ, List.getElem?_cons_zero]; exact rfl)
      case an167 => kernel_rfl
      case bn167 => kernel_rfl
      case cn167 => kernel_rfl
      case qn167 => exact fun _ _ _ h => h
      case dn167 => rfl
      case hyn167 => (intro z hSw; (try dsimp only at hSw); go_simp; (try with_reducible rfl))
      try simp only [Act.put, List.setIfInBounds_toArray, List.set_cons_zero, List.set_cons_succ]
      refine wpAnyH_take (i := 7) (oi := ?on168) (v := ?vn168) ?hin168 ?an168 ?bn168 ?cn168 ?qn168 (Or.inl ⟨?dn168, ?hyn168⟩) hHeld ?restn168
      case hin168 => (simp only [List.getElem?_toArray, List.getElem?_cons_succ, List.getElem?_cons_zero]; exact rfl)
      case an168 => kernel_rfl
      case bn168 => kernel_rfl
      case cn168 => kernel_rfl
      case qn168 => exact fun _ _ _ h => h
      case dn168 => rfl
      case hyn168 => (intro z hSw; (try dsimp only at hSw); go_simp; (try with_reducible rfl))
      try simp only [Act.put, List.setIfInBounds_toArray, List.set_cons_zero, List.set_cons_succ]
      refine wpAnyH_take (i := 8) (oi := ?on169) ?hin169 ?an169 ?bn169 ?cn169 ?qn169 (Or.inr ⟨?dn169, rfl⟩) hHeld ?restn169
      case hin169 => (simp only [List.getElem?_toArray, List.getElem?_cons_succ, List.getElem?_cons_zero]; exact rfl)
      case an169 => kernel_rfl
      case bn169 => kernel_rfl
      case cn169 => kernel_rfl
      case qn169 => exact fun _ _ _ h => h
      case dn169 => rfl
      try simp only [Act.put, List.setIfInBounds_toArray, List.set_cons_zero, List.set_cons_succ]
      refine wpAnyH_take (i := 9) (oi := ?on170) ?hin170 ?an170 ?bn170 ?cn170 ?qn170 (Or.inr ⟨?dn170, rfl⟩) hHeld ?restn170
      case hin170 => (simp only [List.getElem?_toArray, List.getElem?_cons_succ, List.getElem?_cons_zero]; exact rfl)
      case an170 => kernel_rfl
      case bn170 => kernel_rfl
      case cn170 => kernel_rfl
      case qn170 => exact fun _ _ _ h => h
      case dn170 => rfl
      try simp only [Act.put, List.setIfInBounds_toArray, List.set_cons_zero, List.set_cons_succ]
      refine wpAnyH_take (i := 10) (oi := ?on171) (v := ?vn171) ?hin171 ?an171 ?bn171 ?cn171 ?qn171 (Or.inl ⟨?dn171, ?hyn171⟩) hHeld ?restn171
      case hin171 => (simp only [List.getElem?_toArray, List.getElem?_cons_succ, List.getElem?_cons_zero]; exact rfl)
      case an171 => kernel_rfl
      case bn171 => kernel_rfl
      case cn171 => kernel_rfl
      case qn171 => exact fun _ _ _ h => h
      case dn171 => rfl
      case hyn171 => (intro z hSw; (try dsimp only at hSw); go_simp; (try with_reducible rfl))
      try simp only [Act.put, List.setIfInBounds_toArray, List.set_cons_zero, List.set_cons_succ]
      refine wpAnyH_take (i := 11) (oi := ?on172) (v := ?vn172) ?hin172 ?an172 ?bn172 ?cn172 ?qn172 (Or.inl ⟨?dn172, ?hyn172⟩) hHeld ?restn172
      case hin172 => (simp only [List.getElem?_toArray, List.getElem?_cons_succ, List.getElem?_cons_zero]; exact rfl)
      case an172 => kernel_rfl
      case bn172 => kernel_rfl
      case cn172 => kernel_rfl
      case qn172 => exact fun _ _ _ h => h
      case dn172 => rfl
      case hyn172 => (intro z hSw; (try dsimp only at hSw); go_simp; (try with_reducible rfl))
      try simp only [Act.put, List.setIfInBounds_toArray, List.set_cons_zero, List.set_cons_succ]
      refine wpAnyH_take (i := 12) (oi := ?on173) ?hin173 ?an173 ?bn173 ?cn173 ?qn173 (Or.inr ⟨?dn173, rfl⟩) hHeld ?restn173
      case hin173 => (simp only [List.getElem?_toArray, List.getElem?_cons_succ, List.getElem?_cons_zero]; exact rfl)
      case an173 => kernel_rfl
      case bn173 => kernel_rfl
      case cn173 => kernel_rfl
      case qn173 => exact fun _ _ _ h => h
      case dn173 => rfl
      try simp only [Act.put, List.setIfInBounds_toArray, List.set_cons_zero, List.set_cons_succ]
      refine wpAnyH_take (i := 13) (oi := ?on174) ?hin174 ?an174 ?bn174 ?cn174 ?qn174 (Or.inr ⟨?dn174, rfl⟩) hHeld ?restn174
      case hin174 => (simp only [List.getElem?_toArray, List.getElem?_cons_succ, List.getElem?_cons_zero]; exact rfl)
      case an174 => kernel_rfl
      case bn174 => kernel_rfl
      case cn174 => kernel_rfl
      case qn174 => exact fun _ _ _ h => h
      case dn174 => rfl
      try simp only [Act.put, List.setIfInBounds_toArray, List.set_cons_zero, List.set_cons_succ]
      refine wpAnyH_take (i := 14) (oi := ?on175) (v := ?vn175) ?hin175 ?an175 ?bn175 ?cn175 ?qn175 (Or.inl ⟨?dn175, ?hyn175⟩) hHeld ?restn175
      case hin175 => (simp only [List.getElem?_toArray, List.getElem?_cons_succ, List.getElem?_cons_zero]; exact rfl)
      case an175 => kernel_rfl
      case bn175 => kernel_rfl
      case cn175 => kernel_rfl
      case qn175 => exact fun _ _ _ h => h
      case dn175 => rfl
      case hyn175 => (intro z hSw; (try dsimp only at hSw); go_simp; (try with_reducible rfl))
      try simp only [Act.put, List.setIfInBounds_toArray, List.set_cons_zero, List.set_cons_succ]
      refine wpAnyH_take (i := 15) (oi := ?on176) (v := ?vn176) ?hin176 ?an176 ?bn176 ?cn176 ?qn176 (Or.inl ⟨?dn176, ?hyn176⟩) hHeld ?restn176
      case hin176 => (simp only [List.getElem?_toArray, List.getElem?_cons_succ, List.getElem?_cons_zero]; exact rfl)
      case an176 => kernel_rfl
      case bn176 => kernel_rfl
      case cn176 => kernel_rfl
      case qn176 => exact fun _ _ _ h => h
      case dn176 => rfl
      case hyn176 => (intro z hSw; (try dsimp only at hSw); go_simp; (try with_reducible rfl))
      try simp only [Act.put, List.setIfInBounds_toArray, List.set_cons_zero, List.set_cons_succ]
      refine wpAnyH_take (i := 16) (oi := ?on177) ?hin177 ?an177 ?bn177 ?cn177 ?qn177 (Or.inr ⟨?dn177, rfl⟩) hHeld ?restn177
      case hin177 => (simp only [List.getElem?_toArray, List.getElem?_cons_succ, List.getElem?_cons_zero]; exact rfl)
      case an177 => kernel_rfl
      case bn177 => kernel_rfl
      case cn177 => kernel_rfl
      case qn177 => exact fun _ _ _ h => h
      case dn177 => rfl
      try simp only [Act.put, List.setIfInBounds_toArray, List.set_cons_zero, List.set_cons_succ]
      refine wpAnyH_take (i := 17) (oi := ?on178) ?hin178 ?an178 ?bn178 ?cn178 ?qn178 (Or.inr ⟨?dn178, rfl⟩) hHeld ?restn178
      case hin178 => (simp only [List.getElem?_toArray, List.getElem?_cons_succ, List.getElem?_cons_zero]; exact rfl)
      case an178 => kernel_rfl
      case bn178 => kernel_rfl
      case cn178 => kernel_rfl
      case qn178 => exact fun _ _ _ h => h
      case dn178 => rfl
      try simp only [Act.put, List.setIfInBounds_toArray, List.set_cons_zero, List.set_cons_succ]
      refine wpAnyH_take (i := 18) (oi := ?on179) ?hin179 ?an179 ?bn179 ?cn179 ?qn179 (Or.inr ⟨?dn179, rfl⟩) hHeld ?restn179
      case hin179 => (simp only [List.getElem?_toArray, List.getElem?_cons_succ, List.getElem?_cons_zero]; exact rfl)
      case an179 => kernel_rfl
      case bn179 => kernel_rfl
      case cn179 => kernel_rfl
      case qn179 => exact fun _ _ _ h => h
      case dn179 => rfl
      try simp only [Act.put, List.setIfInBounds_toArray, List.set_cons_zero, List.set_cons_succ]
      refine wpAnyH_take (i := 19) (oi := ?on180) ?hin180 ?an180 ?bn180 ?cn180 ?qn180 (Or.inr ⟨?dn180, rfl⟩) hHeld ?restn180
      case hin180 => (simp only [List.getElem?_toArray, List.getElem?_cons_succ, List.getElem?_cons_zero]; exact rfl)
      case an180 => kernel_rfl
      case bn180 => kernel_rfl
      case cn180 => kernel_rfl
      case qn180 => exact fun _ _ _ h => h
      case dn180 => rfl
      try simp only [Act.put, List.setIfInBounds_toArray, List.set_cons_zero, List.set_cons_succ]
      refine wpAnyH_take (i := 20) (oi := ?on181) ?hin181 ?an181 ?bn181 ?cn181 ?qn181 (Or.inr ⟨?dn181, rfl⟩) hHeld ?restn181
      case hin181 => (simp only [List.getElem?_toArray, List.getElem?_cons_succ, List.getElem?_cons_zero]; exact rfl)
      case an181 => kernel_rfl
      case bn181 => kernel_rfl
      case cn181 => kernel_rfl
      case qn181 => exact fun _ _ _ h => h
      case dn181 => rfl
      try simp only [Act.put, List.setIfInBounds_toArray, List.set_cons_zero, List.set_cons_succ]
      refine wpAnyH_take (i := 21) (oi := ?on182) ?hin182 ?an182 ?bn182 ?cn182 ?qn182 (Or.inr ⟨?dn182, rfl⟩) hHeld ?restn182
      case hin182 => (simp only [List.getElem?_toArray, List.getElem?_cons_succ, List.getElem?_cons_zero]; exact rfl)
      case an182 => kernel_rfl
      case bn182 => kernel_rfl
      case cn182 => kernel_rfl
      case qn182 => exact fun _ _ _ h => h
      case dn182 => rfl
      try simp only [Act.put, List.setIfInBounds_toArray, List.set_cons_zero, List.set_cons_succ]
      refine wpAnyH_take (i := 22) (oi := ?on183) ?hin183 ?an183 ?bn183 ?cn183 ?qn183 (Or.inr ⟨?dn183, rfl⟩) hHeld ?restn183
      case hin183 => (simp only [List.getElem?_toArray, List.getElem?_cons_succ, List.getElem?_cons_zero]; exact rfl)
      case an183 => kernel_rfl
      case bn183 => kernel_rfl
      case cn183 => kernel_rfl
      case qn183 => exact fun _ _ _ h => h
      case dn183 => rfl
      try simp only [Act.put, List.setIfInBounds_toArray, List.set_cons_zero, List.set_cons_succ]
      refine wpAnyH_take (i := 23) (oi := ?on184) ?hin184 ?an184 ?bn184 ?cn184 ?qn184 (Or.inr ⟨?dn184, rfl⟩) hHeld ?restn184
      case hin184 => (simp only [List.getElem?_toArray, List.getElem?_cons_succ, List.getElem?_cons_zero]; exact rfl)
      case an184 => kernel_rfl
      case bn184 => kernel_rfl
      case cn184 => kernel_rfl
      case qn184 => exact fun _ _ _ h => h
      case dn184 => rfl
      try simp only [Act.put, List.setIfInBounds_toArray, List.set_cons_zero, List.set_cons_succ]
      refine wpAnyH_take (i := 24) (oi := ?on185) ?hin185 ?an185 ?bn185 ?cn185 ?qn185 (Or.inr ⟨?dn185, rfl⟩) hHeld ?restn185
      case hin185 => (simp only [List.getElem?_toArray, List.getElem?_cons_succ, List.getElem?_cons_zero]; exact rfl)
      case an185 => kernel_rfl
      case bn185 => kernel_rfl
      case cn185 => kernel_rfl
      case qn185 => exact fun _ _ _ h => h
      case dn185 => rfl
      try simp only [Act.put, List.setIfInBounds_toArray, List.set_cons_zero, List.set_cons_succ]
      refine wpAnyH_take (i := 25) (oi := ?on186) ?hin186 ?an186 ?bn186 ?cn186 ?qn186 (Or.inr ⟨?dn186, rfl⟩) hHeld ?restn186
      case hin186 => (simp only [List.getElem?_toArray, List.getElem?_cons_succ, List.getElem?_cons_zero]; exact rfl)
      case an186 => kernel_rfl
      case bn186 => kernel_rfl
      case cn186 => kernel_rfl
      case qn186 => exact fun _ _ _ h => h
      case dn186 => rfl
      try simp only [Act.put, List.setIfInBounds_toArray, List.set_cons_zero, List.set_cons_succ]
      refine wpAnyH_take (i := 26) (oi := ?on187) ?hin187 ?an187 ?bn187 ?cn187 ?qn187 (Or.inr ⟨?dn187, rfl⟩) hHeld ?restn187
      case hin187 => (simp only [List.getElem?_toArray, List.getElem?_cons_succ, List.getElem?_cons_zero]; exact rfl)
      case an187 => kernel_rfl
      case bn187 => kernel_rfl
      case cn187 => kernel_rfl
      case qn187 => exact fun _ _ _ h => h
      case dn187 => rfl
      try simp only [Act.put, List.setIfInBounds_toArray, List.set_cons_zero, List.set_cons_succ]
      refine wpAnyH_take (i := 27) (oi := ?on188) (v := ?vn188) ?hin188 ?an188 ?bn188 ?cn188 ?qn188 (Or.inl ⟨?dn188, ?hyn188⟩) hHeld ?restn188
      case hin188 => (simp only [List.getElem?_toArray, List.getElem?_cons_succ, List.getElem?_cons_zero]; exact rfl)
      case an188 => kernel_rfl
      case bn188 => kernel_rfl
      case cn188 => kernel_rfl
      case qn188 => exact fun _ _ _ h => h
      case dn188 => rfl
      case hyn188 => (intro z hSw; (try dsimp only at hSw); go_simp; (try with_reducible rfl))
      try simp only [Act.put, List.setIfInBounds_toArray, List.set_cons_zero, List.set_cons_succ]
      refine wpAnyH_done (by kernel_rfl) ?_ _
      go_wp2_with fail
      go_ret
      exact ⟨by rw [hR]; rfl, g2.trans (by first | assumption | exact r2d)⟩
    | true =>
    have hin1 : 0 ≤ fi ∧ fi ≤ (k : Int) - 1 := by simpa using hin
    cases hs1 : (s.toList == [73, 110, 116]) with
    | true =>
      simp only [hs1, Bool.not_true, Bool.false_and] at hR
      go_wp2_with fail
      refine wp_region_held_drew (S := fun w' => Grew w2 w') (by kernel_rfl) r2d (fun hHeld => ?_)
      refine wpAnyH_take (i := 0) (oi := ?on189) (v := ?vn189) ?hin189 ?an189 ?bn189 ?cn189 ?qn189 (Or.inl ⟨?dn189, ?hyn189⟩) hHeld ?restn189
      case hin189 => (simp only [List.getElem?_toArray, List.getElem?_cons_zero]; exact rfl)
      case an189 => kernel_rfl
      case bn189 => kernel_rfl
      case cn189 => kernel_rfl
      case qn189 => exact fun _ _ _ h => h
      case dn189 => rfl
      case hyn189 => (intro z hSw; (try dsimp only at hSw); go_simp; (try with_reducible rfl))
      try simp only [Act.put, List.setIfInBounds_toArray, List.set_cons_zero, List.set_cons_succ]
      refine wpAnyH_take (i := 1) (oi := ?on190) (v := ?vn190) ?hin190 ?an190 ?bn190 ?cn190 ?qn190 (Or.inl ⟨?dn190, ?hyn190⟩) hHeld ?restn190
      case hin190 => (simp only [List.getElem?_toArray, List.getElem?_cons_succ, List.getElem?_cons_zero]; exact rfl)
      case an190 => kernel_rfl
      case bn190 => kernel_rfl
      case cn190 => kernel_rfl
      case qn190 => exact fun _ _ _ h => h
      case dn190 => rfl
      case hyn190 => (intro z hSw; (try dsimp only at hSw); go_simp; (try with_reducible rfl))
      try simp only [Act.put, List.setIfInBounds_toArray, List.set_cons_zero, List.set_cons_succ]
      refine wpAnyH_take (i := 2) (oi := ?on191) (v := ?vn191) ?hin191 ?an191 ?bn191 ?cn191 ?qn191 (Or.inl ⟨?dn191, ?hyn191⟩) hHeld ?restn191
      case hin191 => (simp only [List.getElem?_toArray, List.getElem?_cons_succ, List.getElem?_cons_zero]; exact rfl)
      case an191 => kernel_rfl
      case bn191 => kernel_rfl
      case cn191 => kernel_rfl
      case qn191 => exact fun _ _ _ h => h
      case dn191 => rfl
      case hyn191 => (intro z hSw; (try dsimp only at hSw); go_simp; (try with_reducible rfl))
      try simp only [Act.put, List.setIfInBounds_toArray, List.set_cons_zero, List.set_cons_succ]
      refine wpAnyH_take (i := 3) (oi := ?on192) (v := ?vn192) ?hin192 ?an192 ?bn192 ?cn192 ?qn192 (Or.inl ⟨?dn192, ?hyn192⟩) hHeld ?restn192
      case hin192 => (simp only [List.getElem?_toArray, List.getElem?_cons_succ, List.getElem?_cons_zero]; exact rfl)
      case an192 => kernel_rfl
      case bn192 => kernel_rfl
      case cn192 => kernel_rfl
      case qn192 => exact fun _ _ _ h => h
      case dn192 => rfl
      case hyn192 => (intro z hSw; (try dsimp only at hSw); go_simp; (try with_reducible rfl))
      try simp only [Act.put, List.setIfInBounds_toArray, List.set_cons_zero, List.set_cons_succ]
      refine wpAnyH_take (i := 4) (oi := ?on193) (v := ?vn193) ?hin193 ?an193 ?bn193 ?cn193 ?qn193 (Or.inl ⟨?dn193, ?hyn193⟩) hHeld ?restn193
      case hin193 => (simp only [List.getElem?_toArray, List.getElem?_cons_succ, List.getElem?_cons_zero]; exact rfl)
      case an193 => kernel_rfl
      case bn193 => kernel_rfl
      case cn193 => kernel_rfl
      case qn193 => exact fun _ _ _ h => h
      case dn193 => rfl
      case hyn193 => (intro z hSw; (try dsimp only at hSw); go_simp; (try with_reducible rfl))
      try simp only [Act.put, List.setIfInBounds_toArray, List.set_cons_zero, List.set_cons_succ]
      refine wpAnyH_take (i := 5) (oi := ?on194) (v := ?vn194) ?hin194 ?an194 ?bn194 ?cn194 ?qn194 (Or.inl ⟨?dn194, ?hyn194⟩) hHeld ?restn194
      case hin194 => (simp only [List.getElem?_toArray, List.getElem?_cons_succ, List.getElem?_cons_zero]; exact rfl)
      case an194 => kernel_rfl
      case bn194 => kernel_rfl
      case cn194 => kernel_rfl
      case qn194 => exact fun _ _ _ h => h
      case dn194 => rfl
      case hyn194 => (intro z hSw; (try dsimp only at hSw); go_simp; (try with_reducible rfl))
      try simp only [Act.put, List.setIfInBounds_toArray, List.set_cons_zero, List.set_cons_succ]
      refine wpAnyH_take (i := 6) (oi := ?on195) (v := ?vn195) ?hin195 ?an195 ?bn195 ?cn195 ?qn195 (Or.inl ⟨?dn195, ?hyn195⟩) hHeld ?restn195
      case hin195 => (simp only [List.getElem?_toArray, List.getElem?_cons_succ, List.getElem?_cons_zero]; exact rfl)
      case an195 => kernel_rfl
      case bn195 => kernel_rfl
      case cn195 => kernel_rfl
      case qn195 => exact fun _ _ _ h => h
      case dn195 => rfl
      case hyn195 => (intro z hSw; (try dsimp only at hSw); go_simp; (try with_reducible rfl))
      try simp only [Act.put, List.setIfInBounds_toArray, List.set_cons_zero, List.set_cons_succ]
      refine wpAnyH_take (i := 7) (oi := ?on196) (v := ?vn196) ?hin196 ?an196 ?bn196 ?cn196 ?qn196 (Or.inl ⟨?dn196, ?hyn196⟩) hHeld ?restn196
      case hin196 => (simp only [List.getElem?_toArray, List.getElem?_cons_succ, List.getElem?_cons_zero]; exact rfl)
      case an196 => kernel_rfl
      case bn196 => kernel_rfl
      case cn196 => kernel_rfl
      case qn196 => exact fun _ _ _ h => h
      case dn196 => rfl
      case hyn196 => (intro z hSw; (try dsimp only at hSw); go_simp; (try with_reducible rfl))
      try simp only [Act.put, List.setIfInBounds_toArray, List.set_cons_zero, List.set_cons_succ]
      refine wpAnyH_take (i := 8) (oi := ?on197) (v := ?vn197) ?hin197 ?an197 ?bn197 ?cn197 ?qn197 (Or.inl ⟨?dn197, ?hyn197⟩) hHeld ?restn197
      case hin197 => (simp only [List.getElem?_toArray, List.getElem?_cons_succ, List.getElem?_cons_zero]; exact rfl)
      case an197 => kernel_rfl
      case bn197 => kernel_rfl
      case cn197 => kernel_rfl
      case qn197 => exact fun _ _ _ h => h
      case dn197 => rfl
      case hyn197 => (intro z hSw; (try dsimp only at hSw); go_simp; (try with_reducible rfl))
      try simp only [Act.put, List.setIfInBounds_toArray, List.set_cons_zero, List.set_cons_succ]
      refine wpAnyH_take (i := 9) (oi := ?on198) (v := ?vn198) ?hin198 ?an198 ?bn198 ?cn198 ?qn198 (Or.inl ⟨?dn198, ?hyn198⟩) hHeld ?restn198
      case hin198 => (simp only [List.getElem?_toArray, List.getElem?_cons_succ, List.getElem?_cons_zero]; exact rfl)
      case an198 => kernel_rfl
      case bn198 => kernel_rfl
      case cn198 => kernel_rfl
      case qn198 => exact fun _ _ _ h => h
      case dn198 => rfl
      case hyn198 => (intro z hSw; (try dsimp only at hSw); go_simp; (try with_reducible rfl))
      try simp only [Act.put, List.setIfInBounds_toArray, List.set_cons_zero, List.set_cons_succ]
      refine wpAnyH_take (i := 10) (oi := ?on199) (v := ?vn199) ?hin199 ?an199 ?bn199 ?cn199 ?qn199 (Or.inl ⟨?dn199, ?hyn199⟩) hHeld ?restn199
      case hin199 => (simp only [List.getElem?_toArray, List.getElem?_cons_succ, List.getElem?_cons_zero]; exact rfl)
      case an199 => kernel_rfl
      case bn199 => kernel_rfl
      case cn199 => kernel_rfl
      case qn199 => exact fun _ _ _ h => h
      case dn199 => rfl
      case hyn199 => (intro z hSw; (try dsimp only at hSw); go_simp; (try with_reducible rfl))
      try simp only [Act.put, List.setIfInBounds_toArray, List.set_cons_zero, List.set_cons_succ]
      refine wpAnyH_take (i := 11) (oi := ?on200) (v := ?vn200) ?hin200 ?an200 ?bn200 ?cn200 ?qn200 (Or.inl ⟨?dn200, ?hyn200⟩) hHeld ?restn200
      case hin200 => (simp only [List.getElem?_toArray, List.getElem?_cons_succ, List.getElem?_cons_zero]; exact rfl)
      case an200 => kernel_rfl
      case bn200 => kernel_rfl
      case cn200 => kernel_rfl
      case qn200 => exact fun _ _ _ h => h
      case dn200 => rfl
      case hyn200 => (intro z hSw; (try dsimp only at hSw); go_simp; (try with_reducible rfl))
      try simp only [Act.put, List.setIfInBounds_toArray, List.set_cons_zero, List.set_cons_succ]
      refine wpAnyH_take (i := 12) (oi := ?on201) ?hin201 ?an201 ?bn201 ?cn201 ?qn201 (Or.inr ⟨?dn201, rfl⟩) hHeld ?restn201
      case hin201 => (simp only [List.getElem?_toArray, List.getElem?_cons_succ, List.getElem?_cons_zero]; exact rfl)
      case an201 => kernel_rfl
      case bn201 => kernel_rfl
      case cn201 => kernel_rfl
      case qn201 => exact fun _ _ _ h => h
      case dn201 => rfl
      try simp only [Act.put, List.setIfInBounds_toArray, List.set_cons_zero, List.set_cons_succ]
      refine wpAnyH_take (i := 13) (oi := ?on202) ?hin202 ?an202 ?bn202 ?cn202 ?qn202 (Or.inr ⟨?dn202, rfl⟩) hHeld ?restn202
      case hin202 => (simp only [List.getElem?_toArray, List.getElem?_cons_succ, List.getElem?_cons_zero]; exact rfl)
      case an202 => kernel_rfl
      case bn202 => kernel_rfl
      case cn202 => kernel_rfl
      case qn202 => exact fun _ _ _ h => h
      case dn202 => rfl
      try simp only [Act.put, List.setIfInBounds_toArray, List.set_cons_zero, List.set_cons_succ]
      refine wpAnyH_take (i := 14) (oi := ?on203) (v := ?vn203) ?hin203 ?an203 ?bn203 ?cn203 ?qn203 (Or.inl ⟨?dn203, ?hyn203⟩) hHeld ?restn203
      case hin203 => (simp only [List.getElem?_toArray, List.getElem?_cons_succ, List.getElem?_cons_zero]; exact rfl)
      case an203 => kernel_rfl
      case bn203 => kernel_rfl
      case cn203 => kernel_rfl
      case qn203 => exact fun _ _ _ h => h
      case dn203 => rfl
      case hyn203 => (intro z hSw; (try dsimp only at hSw); go_simp; (try with_reducible rfl))
      try simp only [Act.put, List.setIfInBounds_toArray, List.set_cons_zero, List.set_cons_succ]
      refine wpAnyH_take (i := 15) (oi := ?on204) (v := ?vn204) ?hin204 ?an204 ?bn204 ?cn204 ?qn204 (Or.inl ⟨?dn204, ?hyn204⟩) hHeld ?restn204
      case hin204 => (simp only [List.getElem?_toArray, List.getElem?_cons_succ, List.getElem?_cons_zero]; exact rfl)
      case an204 => kernel_rfl
      case bn204 => kernel_rfl
      case cn204 => kernel_rfl
      case qn204 => exact fun _ _ _ h => h
      case dn204 => rfl
      case hyn204 => (intro z hSw; (try dsimp only at hSw); go_simp; (try with_reducible rfl))
      try simp only [Act.put, List.setIfInBounds_toArray, List.set_cons_zero, List.set_cons_succ]
      refine wpAnyH_take (i := 16) (oi := ?on205) ?hin205 ?an205 ?bn205 ?cn205 ?qn205 (Or.inr ⟨?dn205, rfl⟩) hHeld ?restn205
      case hin205 => (simp only [List.getElem?_toArray, List.getElem?_cons_succ, List.getElem?_cons_zero]; exact rfl)
      case an205 => kernel_rfl
      case bn205 => kernel_rfl
      case cn205 => kernel_rfl
      case qn205 => exact fun _ _ _ h => h
      case dn205 => rfl
      try simp only [Act.put, List.setIfInBounds_toArray, List.set_cons_zero, List.set_cons_succ]
      refine wpAnyH_take (i := 17) (oi := ?on206) ?hin206 ?an206 ?bn206 ?cn206 ?qn206 (Or.inr ⟨?dn206, rfl⟩) hHeld ?restn206
      case hin206 => (simp only [List.getElem?_toArray, List.getElem?_cons_succ, List.getElem?_cons_zero]; exact rfl)
      case an206 => kernel_rfl
      case bn206 => kernel_rfl
      case cn206 => kernel_rfl
      case qn206 => exact fun _ _ _ h => h
      case dn206 => rfl
      try simp only [Act.put, List.setIfInBounds_toArray, List.set_cons_zero, List.set_cons_succ]
      refine wpAnyH_take (i := 18) (oi := ?on207) ?hin207 ?an207 ?bn207 ?cn207 ?qn207 (Or.inr ⟨?dn207, rfl⟩) hHeld ?restn207
      case hin207 => (simp only [List.getElem?_toArray, List.getElem?_cons_succ, List.getElem?_cons_zero]; exact rfl)
      case an207 => kernel_rfl
      case bn207 => kernel_rfl
      case cn207 => kernel_rfl
      case qn207 => exact fun _ _ _ h => h
      case dn207 => rfl
      try simp only [Act.put, List.setIfInBounds_toArray, List.set_cons_zero, List.set_cons_succ]
      refine wpAnyH_take (i := 19) (oi := ?on208) ?hin208 ?an208 ?bn208 ?cn208 ?qn208 (Or.inr ⟨?dn208, rfl⟩) hHeld ?restn208
      case hin208 => (simp only [List.getElem?_toArray, List.getElem?_cons_succ, List.getElem?_cons_zero]; exact rfl)
      case an208 => kernel_rfl
      case bn208 => kernel_rfl
      case cn208 => kernel_rfl
      case qn208 => exact fun _ _ _ h => h
      case dn208 => rfl
      try simp only [Act.put, List.setIfInBounds_toArray, List.set_cons_zero, List.set_cons_succ]
      refine wpAnyH_take (i := 20) (oi := ?on209) ?hin209 ?an209 ?bn209 ?cn209 ?qn209 (Or.inr ⟨?dn209, rfl⟩) hHeld ?restn209
      case hin209 => (simp only [List.getElem?_toArray, List.getElem?_cons_succ, List.getElem?_cons_zero]; exact rfl)
      case an209 => kernel_rfl
      case bn209 => kernel_rfl
      case cn209 => kernel_rfl
      case qn209 => exact fun _ _ _ h => h
      case dn209 => rfl
      try simp only [Act.put, List.setIfInBounds_toArray, List.set_cons_zero, List.set_cons_succ]
      refine wpAnyH_take (i := 21) (oi := ?on210) ?hin210 ?an210 ?bn210 ?cn210 ?qn210 (Or.inr ⟨?dn210, rfl⟩) hHeld ?restn210
      case hin210 => (simp only [List.getElem?_toArray, List.getElem?_cons_succ, List.getElem?_cons_zero]; exact rfl)
      case an210 => kernel_rfl
      case bn210 => kernel_rfl
      case cn210 => kernel_rfl
      case qn210 => exact fun _ _ _ h => h
      case dn210 => rfl
      try simp only [Act.put, List.setIfInBounds_toArray, List.set_cons_zero, List.set_cons_succ]
      refine wpAnyH_take (i := 22) (oi := ?on211) ?hin211 ?an211 ?bn211 ?cn211 ?qn211 (Or.inr ⟨?dn211, rfl⟩) hHeld ?restn211
      case hin211 => (simp only [List.getElem?_toArray, List.getElem?_cons_succ, List.getElem?_cons_zero]; exact rfl)
      case an211 => kernel_rfl
      case bn211 => kernel_rfl
      case cn211 => kernel_rfl
      case qn211 => exact fun _ _ _ h => h
      case dn211 => rfl
      try simp only [Act.put, List.setIfInBounds_toArray, List.set_cons_zero, List.set_cons_succ]
      refine wpAnyH_take (i := 23) (oi := ?on212) ?hin212 ?an212 ?bn212 ?cn212 ?qn212 (Or.inr ⟨?dn212, rfl⟩) hHeld ?restn212
      case hin212 => (simp only [List.getElem?_toArray, List.getElem?_cons_succ, List.getElem?_cons_zero]; exact rfl)
      case an212 => kernel_rfl
      case bn212 => kernel_rfl
      case cn212 => kernel_rfl
      case qn212 => exact fun _ _ _ h => h
      case dn212 => rfl
      try simp only [Act.put, List.setIfInBounds_toArray, List.set_cons_zero, List.set_cons_succ]
      refine wpAnyH_take (i := 24) (oi := ?on213) ?hin213 ?an213 ?bn213 ?cn213 ?qn213 (Or.inr ⟨?dn213, rfl⟩) hHeld ?restn213
      case hin213 => (simp only [List.getElem?_toArray, List.getElem?_cons_succ, List.getElem?_cons_zero]; exact rfl)
      case an213 => kernel_rfl
      case bn213 => kernel_rfl
      case cn213 => kernel_rfl
      case qn213 => exact fun _ _ _ h => h
      case dn213 => rfl
      try simp only [Act.put, List.setIfInBounds_toArray, List.set_cons_zero, List.set_cons_succ]
      refine wpAnyH_take (i := 25) (oi := ?on214) ?hin214 ?an214 ?bn214 ?cn214 ?qn214 (Or.inr ⟨?dn214, rfl⟩) hHeld ?restn214
      case hin214 => (simp only [List.getElem?_toArray, List.getElem?_cons_succ, List.getElem?_cons_zero]; exact rfl)
      case an214 => kernel_rfl
      case bn214 => kernel_rfl
      case cn214 => kernel_rfl
      case qn214 => exact fun _ _ _ h => h
      case dn214 => rfl
      try simp only [Act.put, List.setIfInBounds_toArray, List.set_cons_zero, List.set_cons_succ]
      refine wpAnyH_take (i := 26) (oi := ?on215) ?hin215 ?an215 ?bn215 ?cn215 ?qn215 (Or.inr ⟨?dn215, rfl⟩) hHeld ?restn215
      case hin215 => (simp only [List.getElem?_toArray, List.getElem?_cons_succ, List.getElem?_cons_zero]; exact rfl)
      case an215 => kernel_rfl
      case bn215 => kernel_rfl
      case cn215 => kernel_rfl
      case qn215 => exact fun _ _ _ h => h
      case dn215 => rfl
      try simp only [Act.put, List.setIfInBounds_toArray, List.set_cons_zero, List.set_cons_succ]
      refine wpAnyH_take (i := 27) (oi := ?on216) (v := ?vn216) ?hin216 ?an216 ?bn216 ?cn216 ?qn216 (Or.inl ⟨?dn216, ?hyn216⟩) hHeld ?restn216
      case hin216 => (simp only [List.getElem?_toArray, List.getElem?_cons_succ, List.getElem?_cons_zero]; exact rfl)
      case an216 => kernel_rfl
      case bn216 => kernel_rfl
      case cn216 => kernel_rfl
      case qn216 => exact fun _ _ _ h => h
      case dn216 => rfl
      case hyn216 => (intro z hSw; (try dsimp only at hSw); go_simp; (try with_reducible rfl))
      try simp only [Act.put, List.setIfInBounds_toArray, List.set_cons_zero, List.set_cons_succ]
      refine wpAnyH_done (by kernel_rfl) ?_ _
      go_wp2_with fail
      go_ret
      exact ⟨by rw [hR]; rfl, g2.trans (by first | assumption | exact r2d)⟩
    | false =>
    cases hs2 : (s.toList == [67, 76]) with
    | true =>
      simp only [hs2, Bool.not_true, Bool.false_and, Bool.and_false] at hR
      go_wp2_with fail
      refine wp_region_held_drew (S := fun w' => Grew w2 w') (by kernel_rfl) r2d (fun hHeld => ?_)
      refine wpAnyH_take (i := 0) (oi := ?on217) (v := ?vn217) ?hin217 ?an217 ?bn217 ?cn217 ?qn217 (Or.inl ⟨?dn217, ?hyn217⟩) hHeld ?restn217
      case hin217 => (simp only [List.getElem?_toArray, List.getElem?_cons_zero]; exact rfl)
      case an217 => kernel_rfl
      case bn217 => kernel_rfl
      case cn217 => kernel_rfl
      case qn217 => exact fun _ _ _ h => h
      case dn217 => rfl
      case hyn217 => (intro z hSw; (try dsimp only at hSw); go_simp; (try with_reducible rfl))
      try simp only [Act.put, List.setIfInBounds_toArray, List.set_cons_zero, List.set_cons_succ]
      refine wpAnyH_take (i := 1) (oi := ?on218) (v := ?vn218) ?hin218 ?an218 ?bn218 ?cn218 ?qn218 (Or.inl ⟨?dn218, ?hyn218⟩) hHeld ?restn218
      case hin218 => (simp only [List.getElem?_toArray, List.getElem?_cons_succ, List.getElem?_cons_zero]; exact rfl)
      case an218 => kernel_rfl
      case bn218 => kernel_rfl
      case cn218 => kernel_rfl
      case qn218 => exact fun _ _ _ h => h
      case dn218 => rfl
      case hyn218 => (intro z hSw; (try dsimp only at hSw); go_simp; (try with_reducible rfl))
      try simp only [Act.put, List.setIfInBounds_toArray, List.set_cons_zero, List.set_cons_succ]
      refine wpAnyH_take (i := 2) (oi := ?on219) (v := ?vn219) ?hin219 ?an219 ?bn219 ?cn219 ?qn219 (Or.inl ⟨?dn219, ?hyn219⟩) hHeld ?restn219
      case hin219 => (simp only [List.getElem?_toArray, List.getElem?_cons_succ, List.getElem?_cons_zero]; exact rfl)
      case an219 => kernel_rfl
      case bn219 => kernel_rfl
      case cn219 => kernel_rfl
      case qn219 => exact fun _ _ _ h => h
      case dn219 => rfl
      case hyn219 => (intro z hSw; (try dsimp only at hSw); go_simp; (try with_reducible rfl))
      try simp only [Act.put, List.setIfInBounds_toArray, List.set_cons_zero, List.set_cons_succ]
      refine wpAnyH_take (i := 3) (oi := ?on220) (v := ?vn220) ?hin220 ?an220 ?bn220 ?cn220 ?qn220 (Or.inl ⟨?dn220, ?hyn220⟩) hHeld ?restn220
      case hin220 => (simp only [List.getElem?_toArray, List.getElem?_cons_succ, List.getElem?_cons_zero]; exact rfl)
      case an220 => kernel_rfl
      case bn220 => kernel_rfl
      case cn220 => kernel_rfl
      case qn220 => exact fun _ _ _ h => h
      case dn220 => rfl
      case hyn220 => (intro z hSw; (try dsimp only at hSw); go_simp; (try with_reducible rfl))
      try simp only [Act.put, List.setIfInBounds_toArray, List.set_cons_zero, List.set_cons_succ]
      refine wpAnyH_take (i := 4) (oi := ?on221) (v := ?vn221) ?hin221 ?an221 ?bn221 ?cn221 ?qn221 (Or.inl ⟨?dn221, ?hyn221⟩) hHeld ?restn221
      case hin221 => (simp only [List.getElem?_toArray, List.getElem?_cons_succ, List.getElem?_cons_zero]; exact rfl)
      case an221 => kernel_rfl
      case bn221 => kernel_rfl
      case cn221 => kernel_rfl
      case qn221 => exact fun _ _ _ h => h
      case dn221 => rfl
      case hyn221 => (intro z hSw; (try dsimp only at hSw); go_simp; (try with_reducible rfl))
      try simp only [Act.put, List.setIfInBounds_toArray, List.set_cons_zero, List.set_cons_succ]
      refine wpAnyH_take (i := 5) (oi := ?on222) (v := ?vn222) ?hin222 ?an222 ?bn222 ?cn222 ?qn222 (Or.inl ⟨?dn222, ?hyn222⟩) hHeld ?restn222
      case hin222 => (simp only [List.getElem?_toArray, List.getElem?_cons_succ, List.getElem?_cons_zero]; exact rfl)
      case an222 => kernel_rfl
      case bn222 => kernel_rfl
      case cn222 => kernel_rfl
      case qn222 => exact fun _ _ _ h => h
      case dn222 => rfl
      case hyn222 => (intro z hSw; (try dsimp only at hSw); go_simp; (try with_reducible rfl))
      try simp only [Act.put, List.setIfInBounds_toArray, List.set_cons_zero, List.set_cons_succ]
      refine wpAnyH_take (i := 6) (oi := ?on223) (v := ?vn223) ?hin223 ?an223 ?bn223 ?cn223 ?qn223 (Or.inl ⟨?dn223, ?hyn223⟩) hHeld ?restn223
      case hin223 => (simp only [List.getElem?_toArray, List.getElem?_cons_succ, List.getElem?_cons_zero]; exact rfl)
      case an223 => kernel_rfl
      case bn223 => kernel_rfl
      case cn223 => kernel_rfl
      case qn223 => exact fun _ _ _ h => h
      case dn223 => rfl
      case hyn223 => (intro z hSw; (try dsimp only at hSw); go_simp; (try with_reducible rfl))
      try simp only [Act.put, List.setIfInBounds_toArray, List.set_cons_zero, List.set_cons_succ]
      refine wpAnyH_take (i := 7) (oi := ?on224) (v := ?vn224) ?hin224 ?an224 ?bn224 ?cn224 ?qn224 (Or.inl ⟨?dn224, ?hyn224⟩) hHeld ?restn224
      case hin224 => (simp only [List.getElem?_toArray, List.getElem?_cons_succ, List.getElem?_cons_zero]; exact rfl)
      case an224 => kernel_rfl
      case bn224 => kernel_rfl
      case cn224 => kernel_rfl
      case qn224 => exact fun _ _ _ h => h
      case dn224 => rfl
      case hyn224 => (intro z hSw; (try dsimp only at hSw); go_simp; (try with_reducible rfl))
      try simp only [Act.put, List.setIfInBounds_toArray, List.set_cons_zero, List.set_cons_succ]
      refine wpAnyH_take (i := 8) (oi := ?on225) (v := ?vn225) ?hin225 ?an225 ?bn225 ?cn225 ?qn225 (Or.inl ⟨?dn225, ?hyn225⟩) hHeld ?restn225
      case hin225 => (simp only [List.getElem?_toArray, List.getElem?_cons_succ, List.getElem?_cons_zero]; exact rfl)
      case an225 => kernel_rfl
      case bn225 => kernel_rfl
      case cn225 => kernel_rfl
      case qn225 => exact fun _ _ _ h => h
      case dn225 => rfl
      case hyn225 => (intro z hSw; (try dsimp only at hSw); go_simp; (try with_reducible rfl))
      try simp only [Act.put, List.setIfInBounds_toArray, List.set_cons_zero, List.set_cons_succ]
      refine wpAnyH_take (i := 9) (oi := ?on226) (v := ?vn226) ?hin226 ?an226 ?bn226 ?cn226 ?qn226 (Or.inl ⟨?dn226, ?hyn226⟩) hHeld ?restn226
      case hin226 => (simp only [List.getElem?_toArray, List.getElem?_cons_succ, List.getElem?_cons_zero]; exact rfl)
      case an226 => kernel_rfl
      case bn226 => kernel_rfl
      case cn226 => kernel_rfl
      case qn226 => exact fun _ _ _ h => h
      case dn226 => rfl
      case hyn226 => (intro z hSw; (try dsimp only at hSw); go_simp; (try with_reducible rfl))
      try simp only [Act.put, List.setIfInBounds_toArray, List.set_cons_zero, List.set_cons_succ]
      refine wpAnyH_take (i := 10) (oi := ?on227) (v := ?vn227) ?hin227 ?an227 ?bn227 ?cn227 ?qn227 (Or.inl ⟨?dn227, ?hyn227⟩) hHeld ?restn227
      case hin227 => (simp only [List.getElem?_toArray, List.getElem?_cons_succ, List.getElem?_cons_zero]; exact rfl)
      case an227 => kernel_rfl
      case bn227 => kernel_rfl
      case cn227 => kernel_rfl
      case qn227 => exact fun _ _ _ h => h
      case dn227 => rfl
      case hyn227 => (intro z hSw; (try dsimp only at hSw); go_simp; (try with_reducible rfl))
      try simp only [Act.put, List.setIfInBounds_toArray, List.set_cons_zero, List.set_cons_succ]
      refine wpAnyH_take (i := 11) (oi := ?on228) (v := ?vn228) ?hin228 ?an228 ?bn228 ?cn228 ?qn228 (Or.inl ⟨?dn228, ?hyn228⟩) hHeld ?restn228
      case hin228 => (simp only [List.getElem?_toArray, List.getElem?_cons_succ, List.getElem?_cons_zero]; exact rfl)
      case an228 => kernel_rfl
      case bn228 => kernel_rfl
      case cn228 => kernel_rfl
      case qn228 => exact fun _ _ _ h => h
      case dn228 => rfl
      case hyn228 => (intro z hSw; (try dsimp only at hSw); go_simp; (try with_reducible rfl))
      try simp only [Act.put, List.setIfInBounds_toArray, List.set_cons_zero, List.set_cons_succ]
      refine wpAnyH_take (i := 12) (oi := ?on229) (v := ?vn229) ?hin229 ?an229 ?bn229 ?cn229 ?qn229 (Or.inl ⟨?dn229, ?hyn229⟩) hHeld ?restn229
      case hin229 => (simp only [List.getElem?_toArray, List.getElem?_cons_succ, List.getElem?_cons_zero]; exact rfl)
      case an229 => kernel_rfl
      case bn229 => kernel_rfl
      case cn229 => kernel_rfl
      case qn229 => exact fun _ _ _ h => h
      case dn229 => rfl
      case hyn229 => (intro z hSw; (try dsimp only at hSw); go_simp; (try with_reducible rfl))
      try simp only [Act.put, List.setIfInBounds_toArray, List.set_cons_zero, List.set_cons_succ]
      refine wpAnyH_take (i := 13) (oi := ?on230) (v := ?vn230) ?hin230 ?an230 ?bn230 ?cn230 ?qn230 (Or.inl ⟨?dn230, ?hyn230⟩) hHeld ?restn230
      case hin230 => (simp only [List.getElem?_toArray, List.getElem?_cons_succ, List.getElem?_cons_zero]; exact rfl)
      case an230 => kernel_rfl
      case bn230 => kernel_rfl
      case cn230 => kernel_rfl
      case qn230 => exact fun _ _ _ h => h
      case dn230 => rfl
      case hyn230 => (intro z hSw; (try dsimp only at hSw); go_simp; (try with_reducible rfl))
      try simp only [Act.put, List.setIfInBounds_toArray, List.set_cons_zero, List.set_cons_succ]
      refine wpAnyH_take (i := 14) (oi := ?on231) (v := ?vn231) ?hin231 ?an231 ?bn231 ?cn231 ?qn231 (Or.inl ⟨?dn231, ?hyn231⟩) hHeld ?restn231
      case hin231 => (simp only [List.getElem?_toArray, List.getElem?_cons_succ, List.getElem?_cons_zero]; exact rfl)
      case an231 => kernel_rfl
      case bn231 => kernel_rfl
      case cn231 => kernel_rfl
      case qn231 => exact fun _ _ _ h => h
      case dn231 => rfl
      case hyn231 => (intro z hSw; (try dsimp only at hSw); go_simp; (try with_reducible rfl))
      try simp only [Act.put, List.setIfInBounds_toArray, List.set_cons_zero, List.set_cons_succ]
      refine wpAnyH_take (i := 15) (oi := ?on232) (v := ?vn232) ?hin232 ?an232 ?bn232 ?cn232 ?qn232 (Or.inl ⟨?dn232, ?hyn232⟩) hHeld ?restn232
      case hin232 => (simp only [List.getElem?_toArray, List.getElem?_cons_succ, List.getElem?_cons_zero]; exact rfl)
      case an232 => kernel_rfl
      case bn232 => kernel_rfl
      case cn232 => kernel_rfl
      case qn232 => exact fun _ _ _ h => h
      case dn232 => rfl
      case hyn232 => (intro z hSw; (try dsimp only at hSw); go_simp; (try with_reducible rfl))
      try simp only [Act.put, List.setIfInBounds_toArray, List.set_cons_zero, List.set_cons_succ]
      refine wpAnyH_take (i := 16) (oi := ?on233) ?hin233 ?an233 ?bn233 ?cn233 ?qn233 (Or.inr ⟨?dn233, rfl⟩) hHeld ?restn233
      case hin233 => (simp only [List.getElem?_toArray, List.getElem?_cons_succ, List.getElem?_cons_zero]; exact rfl)
      case an233 => kernel_rfl
      case bn233 => kernel_rfl
      case cn233 => kernel_rfl
      case qn233 => exact fun _ _ _ h => h
      case dn233 => rfl
      try simp only [Act.put, List.setIfInBounds_toArray, List.set_cons_zero, List.set_cons_succ]
      refine wpAnyH_take (i := 17) (oi := ?on234) ?hin234 ?an234 ?bn234 ?cn234 ?qn234 (Or.inr ⟨?dn234, rfl⟩) hHeld ?restn234
      case hin234 => (simp only [List.getElem?_toArray, List.getElem?_cons_succ, List.getElem?_cons_zero]; exact rfl)
      case an234 => kernel_rfl
      case bn234 => kernel_rfl
      case cn234 => kernel_rfl
      case qn234 => exact fun _ _ _ h => h
      case dn234 => rfl
      try simp only [Act.put, List.setIfInBounds_toArray, List.set_cons_zero, List.set_cons_succ]
      refine wpAnyH_take (i := 18) (oi := ?on235) ?hin235 ?an235 ?bn235 ?cn235 ?qn235 (Or.inr ⟨?dn235, rfl⟩) hHeld ?restn235
      case hin235 => (simp only [List.getElem?_toArray, List.getElem?_cons_succ, List.getElem?_cons_zero]; exact rfl)
      case an235 => kernel_rfl
      case bn235 => kernel_rfl
      case cn235 => kernel_rfl
      case qn235 => exact fun _ _ _ h => h
      case dn235 => rfl
      try simp only [Act.put, List.setIfInBounds_toArray, List.set_cons_zero, List.set_cons_succ]
      refine wpAnyH_take (i := 19) (oi := ?on236) ?hin236 ?an236 ?bn236 ?cn236 ?qn236 (Or.inr ⟨?dn236, rfl⟩) hHeld ?restn236
      case hin236 => (simp only [List.getElem?_toArray, List.getElem?_cons_succ, List.getElem?_cons_zero]; exact rfl)
      case an236 => kernel_rfl
      case bn236 => kernel_rfl
      case cn236 => kernel_rfl
      case qn236 => exact fun _ _ _ h => h
      case dn236 => rfl
      try simp only [Act.put, List.setIfInBounds_toArray, List.set_cons_zero, List.set_cons_succ]
      refine wpAnyH_take (i := 20) (oi := ?on237) ?hin237 ?an237 ?bn237 ?cn237 ?qn237 (Or.inr ⟨?dn237, rfl⟩) hHeld ?restn237
      case hin237 => (simp only [List.getElem?_toArray, List.getElem?_cons_succ, List.getElem?_cons_zero]; exact rfl)
      case an237 => kernel_rfl
      case bn237 => kernel_rfl
      case cn237 => kernel_rfl
      case qn237 => exact fun _ _ _ h => h
      case dn237 => rfl
      try simp only [Act.put, List.setIfInBounds_toArray, List.set_cons_zero, List.set_cons_succ]
      refine wpAnyH_take (i := 21) (oi := ?on238) ?hin238 ?an238 ?bn238 ?cn238 ?qn238 (Or.inr ⟨?dn238, rfl⟩) hHeld ?restn238
      case hin238 => (simp only [List.getElem?_toArray, List.getElem?_cons_succ, List.getElem?_cons_zero]; exact rfl)
      case an238 => kernel_rfl
      case bn238 => kernel_rfl
      case cn238 => kernel_rfl
      case qn238 => exact fun _ _ _ h => h
      case dn238 => rfl
      try simp only [Act.put, List.setIfInBounds_toArray, List.set_cons_zero, List.set_cons_succ]
      refine wpAnyH_take (i := 22) (oi := ?on239) ?hin239 ?an239 ?bn239 ?cn239 ?qn239 (Or.inr ⟨?dn239, rfl⟩) hHeld ?restn239
      case hin239 => (simp only [List.getElem?_toArray, List.getElem?_cons_succ, List.getElem?_cons_zero]; exact rfl)
      case an239 => kernel_rfl
      case bn239 => kernel_rfl
      case cn239 => kernel_rfl
      case qn239 => exact fun _ _ _ h => h
      case dn239 => rfl
      try simp only [Act.put, List.setIfInBounds_toArray, List.set_cons_zero, List.set_cons_succ]
      refine wpAnyH_take (i := 23) (oi := ?on240) ?hin240 ?an240 ?bn240 ?cn240 ?qn240 (Or.inr ⟨?dn240, rfl⟩) hHeld ?restn240
      case hin240 => (simp only [List.getElem?_toArray, List.getElem?_cons_succ, List.getElem?_cons_zero]; exact rfl)
      case an240 => kernel_rfl
      case bn240 => kernel_rfl
      case cn240 => kernel_rfl
      case qn240 => exact fun _ _ _ h => h
      case dn240 => rfl
      try simp only [Act.put, List.setIfInBounds_toArray, List.set_cons_zero, List.set_cons_succ]
      refine wpAnyH_take (i := 24) (oi := ?on241) ?hin241 ?an241 ?bn241 ?cn241 ?qn241 (Or.inr ⟨?dn241, rfl⟩) hHeld ?restn241
      case hin241 => (simp only [List.getElem?_toArray, List.getElem?_cons_succ, List.getElem?_cons_zero]; exact rfl)
      case an241 => kernel_rfl
      case bn241 => kernel_rfl
      case cn241 => kernel_rfl
      case qn241 => exact fun _ _ _ h => h
      case dn241 => rfl
      try simp only [Act.put, List.setIfInBounds_toArray, List.set_cons_zero, List.set_cons_succ]
      refine wpAnyH_take (i := 25) (oi := ?on242) ?hin242 ?an242 ?bn242 ?cn242 ?qn242 (Or.inr ⟨?dn242, rfl⟩) hHeld ?restn242
      case hin242 => (simp only [List.getElem?_toArray, List.getElem?_cons_succ, List.getElem?_cons_zero]; exact rfl)
      case an242 => kernel_rfl
      case bn242 => kernel_rfl
      case cn242 => kernel_rfl
      case qn242 => exact fun _ _ _ h => h
      case dn242 => rfl
      try simp only [Act.put, List.setIfInBounds_toArray, List.set_cons_zero, List.set_cons_succ]
      refine wpAnyH_take (i := 26) (oi := ?on243) ?hin243 ?an243 ?bn243 ?cn243 ?qn243 (Or.inr ⟨?dn243, rfl⟩) hHeld ?restn243
      case hin243 => (simp only [List.getElem?_toArray, List.getElem?_cons_succ, List.getElem?_cons_zero]; exact rfl)
      case an243 => kernel_rfl
      case bn243 => kernel_rfl
      case cn243 => kernel_rfl
      case qn243 => exact fun _ _ _ h => h
      case dn243 => rfl
      try simp only [Act.put, List.setIfInBounds_toArray, List.set_cons_zero, List.set_cons_succ]
      refine wpAnyH_take (i := 27) (oi := ?on244) (v := ?vn244) ?hin244 ?an244 ?bn244 ?cn244 ?qn244 (Or.inl ⟨?dn244, ?hyn244⟩) hHeld ?restn244
      case hin244 => (simp only [List.getElem?_toArray, List.getElem?_cons_succ, List.getElem?_cons_zero]; exact rfl)
      case an244 => kernel_rfl
      case bn244 => kernel_rfl
      case cn244 => kernel_rfl
      case qn244 => exact fun _ _ _ h => h
      case dn244 => rfl
      case hyn244 => (intro z hSw; (try dsimp only at hSw); go_simp; (try with_reducible rfl))
      try simp only [Act.put, List.setIfInBounds_toArray, List.set_cons_zero, List.set_cons_succ]
      refine wpAnyH_done (by kernel_rfl) ?_ _
      go_wp2_with fail
      go_ret
      exact ⟨by rw [hR]; rfl, g2.trans (by first | assumption | exact r2d)⟩
    | false =>
    simp only [hs1, hs2, hin, hse, Bool.not_false, Bool.true_and] at hR
    obtain ⟨a, rfl⟩ : ∃ a : Nat, fi = (a : Int) := ⟨fi.toNat, by omega⟩
    rw [Int.toNat_natCast] at hR
    obtain ⟨⟨ua, hca, hna⟩, hfa⟩ := HX.out a (by omega)
    have KJ := Lib.hid (fun W (hW : Grew w W) => l02Pre_c 5 _ _ W (hna.grew hW) (by omega))
    have KE := fun W (hW : Grew w W) v2 (h2 : Nodes W v2 (Fm.pre 5 (hl L a).2.2.2)) => l02Equal_c _ v2 _ _ W (HU.out W hW) h2 (by have := hfl.out; omega)
    have ha3 := fun W (hW : Grew w2 W) => (hca W (g2.trans hW)).2.2.2
    obtain ⟨Aa, ca, rfl⟩ := nodes_slice hna
    have haln : (a : Int) < (ln : Int) := by omega
    have HQ := Lib.hid (fun i (hi : i < ln) W (hW : Grew w W) => (by
      obtain ⟨⟨ui, hci, _⟩, _⟩ := HX.out i hi
      have := hci W hW
      exact ⟨this.1, this.2.1, this.2.2.1⟩ : W.cell? ⟨b, o + i * 4, none⟩ = some (.int .i64 (hl L i).1) ∧ W.cell? ⟨b, o + i * 4 + 1, none⟩ = some (.int .i64 (hl L i).2.1) ∧ W.cell? ⟨b, o + i * 4 + 2, none⟩ = some (.int .i64 (hl L i).2.2.1)))
    have KD := Lib.hid (fun W (hW : Grew w W) => l13Depends_c (some ⟨b, o, none⟩) c L k W (by rw [hln.out]; omega) (by omega) (by omega) HPR.out (fun _ => ⟨b, o, rfl, fun i hi W' hW' => HQ.out i (by omega) W' (hW.trans hW')⟩))
    clear hca hna HX
    generalize hxa : (hl L a).2.2.2 = xa at *
    clear hxa
    generalize xa.length = la at *
    have hkc1 : (k : Int) ≤ (c : Int) := by omega
    have hak : (a : Int) < (k : Int) := by omega
    cases heq : decide (fo = Fm.pre 5 xa) with
    | false =>
      simp only [heq, Bool.and_false] at hR
      rw [heq] at KE
      replace KE := Lib.hid KE
      go_wp2_with fail
      refine wp_region_held_drew (S := fun w' => Grew w2 w') (by kernel_rfl) r2d (fun hHeld => ?_)
      refine wpAnyH_take (i := 0) (oi := ?on245) (v := ?vn245) ?hin245 ?an245 ?bn245 ?cn245 ?qn245 (Or.inl ⟨?dn245, ?hyn245⟩) hHeld ?restn245
      case hin245 => (simp only [List.getElem?_toArray, List.getElem?_cons_zero]; exact rfl)
      case an245 => kernel_rfl
      case bn245 => kernel_rfl
      case cn245 => kernel_rfl
      case qn245 => exact fun _ _ _ h => h
      case dn245 => rfl
      case hyn245 => (intro z hSw; (try dsimp only at hSw); go_simp; (try with_reducible rfl))
      try simp only [Act.put, List.setIfInBounds_toArray, List.set_cons_zero, List.set_cons_succ]
      refine wpAnyH_take (i := 1) (oi := ?on246) (v := ?vn246) ?hin246 ?an246 ?bn246 ?cn246 ?qn246 (Or.inl ⟨?dn246, ?hyn246⟩) hHeld ?restn246
      case hin246 => (simp only [List.getElem?_toArray, List.getElem?_cons_succ, List.getElem?_cons_zero]; exact rfl)
      case an246 => kernel_rfl
      case bn246 => kernel_rfl
      case cn246 => kernel_rfl
      case qn246 => exact fun _ _ _ h => h
      case dn246 => rfl
      case hyn246 => (intro z hSw; (try dsimp only at hSw); go_simp; (try with_reducible rfl))
      try simp only [Act.put, List.setIfInBounds_toArray, List.set_cons_zero, List.set_cons_succ]
      refine wpAnyH_take (i := 2) (oi := ?on247) (v := ?vn247) ?hin247 ?an247 ?bn247 ?cn247 ?qn247 (Or.inl ⟨?dn247, ?hyn247⟩) hHeld ?restn247
      case hin247 => (simp only [List.getElem?_toArray, List.getElem?_cons_succ, List.getElem?_cons_zero]; exact rfl)
      case an247 => kernel_rfl
      case bn247 => kernel_rfl
      case cn247 => kernel_rfl
      case qn247 => exact fun _ _ _ h => h
      case dn247 => rfl
      case hyn247 => (intro z hSw; (try dsimp only at hSw); go_simp; (try with_reducible rfl))
      try simp only [Act.put, List.setIfInBounds_toArray, List.set_cons_zero, List.set_cons_succ]
      refine wpAnyH_take (i := 3) (oi := ?on248) (v := ?vn248) ?hin248 ?an248 ?bn248 ?cn248 ?qn248 (Or.inl ⟨?dn248, ?hyn248⟩) hHeld ?restn248
      case hin248 => (simp only [List.getElem?_toArray, List.getElem?_cons_succ, List.getElem?_cons_zero]; exact rfl)
      case an248 => kernel_rfl
      case bn248 => kernel_rfl
      case cn248 => kernel_rfl
      case qn248 => exact fun _ _ _ h => h
      case dn248 => rfl
      case hyn248 => (intro z hSw; (try dsimp only at hSw); go_simp; (try with_reducible rfl))
      try simp only [Act.put, List.setIfInBounds_toArray, List.set_cons_zero, List.set_cons_succ]
      refine wpAnyH_take (i := 4) (oi := ?on249) (v := ?vn249) ?hin249 ?an249 ?bn249 ?cn249 ?qn249 (Or.inl ⟨?dn249, ?hyn249⟩) hHeld ?restn249
      case hin249 => (simp only [List.getElem?_toArray, List.getElem?_cons_succ, List.getElem?_cons_zero]; exact rfl)
      case an249 => kernel_rfl
      case bn249 => kernel_rfl
      case cn249 => kernel_rfl
      case qn249 => exact fun _ _ _ h => h
      case dn249 => rfl
      case hyn249 => (intro z hSw; (try dsimp only at hSw); go_simp; (try with_reducible rfl))
      try simp only [Act.put, List.setIfInBounds_toArray, List.set_cons_zero, List.set_cons_succ]
      refine wpAnyH_take (i := 5) (oi := ?on250) (v := ?vn250) ?hin250 ?an250 ?bn250 ?cn250 ?qn250 (Or.inl ⟨?dn250, ?hyn250⟩) hHeld ?restn250
      case hin250 => (simp only [List.getElem?_toArray, List.getElem?_cons_succ, List.getElem?_cons_zero]; exact rfl)
      case an250 => kernel_rfl
      case bn250 => kernel_rfl
      case cn250 => kernel_rfl
      case qn250 => exact fun _ _ _ h => h
      case dn250 => rfl
      case hyn250 => (intro z hSw; (try dsimp only at hSw); go_simp; (try with_reducible rfl))
      try simp only [Act.put, List.setIfInBounds_toArray, List.set_cons_zero, List.set_cons_succ]
      refine wpAnyH_take (i := 6) (oi := ?on251) (v := ?vn251) ?hin251 ?an251 ?bn251 ?cn251 ?qn251 (Or.inl ⟨?dn251, ?hyn251⟩) hHeld ?restn251
      case hin251 => (simp only [List.getElem?_toArray, List.getElem?_cons_succ, List.getElem?_cons_zero]; exact rfl)
      case an251 => kernel_rfl
      case bn251 => kernel_rfl
      case cn251 => kernel_rfl
      case qn251 => exact fun _ _ _ h => h
      case dn251 => rfl
      case hyn251 => (intro z hSw; (try dsimp only at hSw); go_simp; (try with_reducible rfl))
      try simp only [Act.put, List.setIfInBounds_toArray, List.set_cons_zero, List.set_cons_succ]
      refine wpAnyH_take (i := 7) (oi := ?on252) (v := ?vn252) ?hin252 ?an252 ?bn252 ?cn252 ?qn252 (Or.inl ⟨?dn252, ?hyn252⟩) hHeld ?restn252
      case hin252 => (simp only [List.getElem?_toArray, List.getElem?_cons_succ, List.getElem?_cons_zero]; exact rfl)
      case an252 => kernel_rfl
      case bn252 => kernel_rfl
      case cn252 => kernel_rfl
      case qn252 => exact fun _ _ _ h => h
      case dn252 => rfl
      case hyn252 => (intro z hSw; (try dsimp only at hSw); go_simp; (try with_reducible rfl))
      try simp only [Act.put, List.setIfInBounds_toArray, List.set_cons_zero, List.set_cons_succ]
      refine wpAnyH_take (i := 8) (oi := ?on253) (v := ?vn253) ?hin253 ?an253 ?bn253 ?cn253 ?qn253 (Or.inl ⟨?dn253, ?hyn253⟩) hHeld ?restn253
      case hin253 => (simp only [List.getElem?_toArray, List.getElem?_cons_succ, List.getElem?_cons_zero]; exact rfl)
      case an253 => kernel_rfl
      case bn253 => kernel_rfl
      case cn253 => kernel_rfl
      case qn253 => exact fun _ _ _ h => h
      case dn253 => rfl
      case hyn253 => (intro z hSw; (try dsimp only at hSw); go_simp; (try with_reducible rfl))
      try simp only [Act.put, List.setIfInBounds_toArray, List.set_cons_zero, List.set_cons_succ]
      refine wpAnyH_take (i := 9) (oi := ?on254) (v := ?vn254) ?hin254 ?an254 ?bn254 ?cn254 ?qn254 (Or.inl ⟨?dn254, ?hyn254⟩) hHeld ?restn254
      case hin254 => (simp only [List.getElem?_toArray, List.getElem?_cons_succ, List.getElem?_cons_zero]; exact rfl)
      case an254 => kernel_rfl
      case bn254 => kernel_rfl
      case cn254 => kernel_rfl
      case qn254 => exact fun _ _ _ h => h
      case dn254 => rfl
      case hyn254 => (intro z hSw; (try dsimp only at hSw); go_simp; (try with_reducible rfl))
      try simp only [Act.put, List.setIfInBounds_toArray, List.set_cons_zero, List.set_cons_succ]
      refine wpAnyH_take (i := 10) (oi := ?on255) (v := ?vn255) ?hin255 ?an255 ?bn255 ?cn255 ?qn255 (Or.inl ⟨?dn255, ?hyn255⟩) hHeld ?restn255
      case hin255 => (simp only [List.getElem?_toArray, List.getElem?_cons_succ, List.getElem?_cons_zero]; exact rfl)
      case an255 => kernel_rfl
      case bn255 => kernel_rfl
      case cn255 => kernel_rfl
      case qn255 => exact fun _ _ _ h => h
      case dn255 => rfl
      case hyn255 => (intro z hSw; (try dsimp only at hSw); go_simp; (try with_reducible rfl))
      try simp only [Act.put, List.setIfInBounds_toArray, List.set_cons_zero, List.set_cons_succ]
      refine wpAnyH_take (i := 11) (oi := ?on256) (v := ?vn256) ?hin256 ?an256 ?bn256 ?cn256 ?qn256 (Or.inl ⟨?dn256, ?hyn256⟩) hHeld ?restn256
      case hin256 => (simp only [List.getElem?_toArray, List.getElem?_cons_succ, List.getElem?_cons_zero]; exact rfl)
      case an256 => kernel_rfl
      case bn256 => kernel_rfl
      case cn256 => kernel_rfl
      case qn256 => exact fun _ _ _ h => h
      case dn256 => rfl
      case hyn256 => (intro z hSw; (try dsimp only at hSw); go_simp; (try with_reducible rfl))
      try simp only [Act.put, List.setIfInBounds_toArray, List.set_cons_zero, List.set_cons_succ]
      refine wpAnyH_take (i := 12) (oi := ?on257) (v := ?vn257) ?hin257 ?an257 ?bn257 ?cn257 ?qn257 (Or.inl ⟨?dn257, ?hyn257⟩) hHeld ?restn257
      case hin257 => (simp only [List.getElem?_toArray, List.getElem?_cons_succ, List.getElem?_cons_zero]; exact rfl)
      case an257 => kernel_rfl
      case bn257 => kernel_rfl
      case cn257 => kernel_rfl
      case qn257 => exact fun _ _ _ h => h
      case dn257 => rfl
      case hyn257 => (intro z hSw; (try dsimp only at hSw); go_simp; (try with_reducible rfl))
      try simp only [Act.put, List.setIfInBounds_toArray, List.set_cons_zero, List.set_cons_succ]
      refine wpAnyH_take (i := 13) (oi := ?on258) (v := ?vn258) ?hin258 ?an258 ?bn258 ?cn258 ?qn258 (Or.inl ⟨?dn258, ?hyn258⟩) hHeld ?restn258
      case hin258 => (simp only [List.getElem?_toArray, List.getElem?_cons_succ, List.getElem?_cons_zero]; exact rfl)
      case an258 => kernel_rfl
      case bn258 => kernel_rfl
      case cn258 => kernel_rfl
      case qn258 => exact fun _ _ _ h => h
      case dn258 => rfl
      case hyn258 => (intro z hSw; (try dsimp only at hSw); go_simp; (try with_reducible rfl))
      try simp only [Act.put, List.setIfInBounds_toArray, List.set_cons_zero, List.set_cons_succ]
      refine wpAnyH_take (i := 14) (oi := ?on259) (v := ?vn259) ?hin259 ?an259 ?bn259 ?cn259 ?qn259 (Or.inl ⟨?dn259, ?hyn259⟩) hHeld ?restn259
      case hin259 => (simp only [List.getElem?_toArray, List.getElem?_cons_succ, List.getElem?_cons_zero]; exact rfl)
      case an259 => kernel_rfl
      case bn259 => kernel_rfl
      case cn259 => kernel_rfl
      case qn259 => exact fun _ _ _ h => h
      case dn259 => rfl
      case hyn259 => (intro z hSw; (try dsimp only at hSw); go_simp; (try with_reducible rfl))
      try simp only [Act.put, List.setIfInBounds_toArray, List.set_cons_zero, List.set_cons_succ]
      refine wpAnyH_take (i := 15) (oi := ?on260) (v := ?vn260) ?hin260 ?an260 ?bn260 ?cn260 ?qn260 (Or.inl ⟨?dn260, ?hyn260⟩) hHeld ?restn260
      case hin260 => (simp only [List.getElem?_toArray, List.getElem?_cons_succ, List.getElem?_cons_zero]; exact rfl)
      case an260 => kernel_rfl
      case bn260 => kernel_rfl
      case cn260 => kernel_rfl
      case qn260 => exact fun _ _ _ h => h
      case dn260 => rfl
      case hyn260 => (intro z hSw; (try dsimp only at hSw); go_simp; (try with_reducible rfl))
      try simp only [Act.put, List.setIfInBounds_toArray, List.set_cons_zero, List.set_cons_succ]
      refine wpAnyH_take (i := 16) (oi := ?on261) (v := ?vn261) ?hin261 ?an261 ?bn261 ?cn261 ?qn261 (Or.inl ⟨?dn261, ?hyn261⟩) hHeld ?restn261
      case hin261 => (simp only [List.getElem?_toArray, List.getElem?_cons_succ, List.getElem?_cons_zero]; exact rfl)
      case an261 => kernel_rfl
      case bn261 => kernel_rfl
      case cn261 => kernel_rfl
      case qn261 => exact fun _ _ _ h => h
      case dn261 => rfl
      case hyn261 => (intro z hSw; (try dsimp only at hSw); go_simp; (try with_reducible rfl))
      try simp only [Act.put, List.setIfInBounds_toArray, List.set_cons_zero, List.set_cons_succ]
      refine wpAnyH_take (i := 17) (oi := ?on262) (v := ?vn262) ?hin262 ?an262 ?bn262 ?cn262 ?qn262 (Or.inl ⟨?dn262, ?hyn262⟩) hHeld ?restn262
      case hin262 => (simp only [List.getElem?_toArray, List.getElem?_cons_succ, List.getElem?_cons_zero]; exact rfl)
      case an262 => kernel_rfl
      case bn262 => kernel_rfl
      case cn262 => kernel_rfl
      case qn262 => exact fun _ _ _ h => h
      case dn262 => rfl
      case hyn262 => (intro z hSw; (try dsimp only at hSw); go_simp; (try with_reducible rfl))
      try simp only [Act.put, List.setIfInBounds_toArray, List.set_cons_zero, List.set_cons_succ]
      refine wpAnyH_take (i := 18) (oi := ?on263) (v := ?vn263) ?hin263 ?an263 ?bn263 ?cn263 ?qn263 (Or.inl ⟨?dn263, ?hyn263⟩) hHeld ?restn263
      case hin263 => (simp only [List.getElem?_toArray, List.getElem?_cons_succ, List.getElem?_cons_zero]; exact rfl)
      case an263 => kernel_rfl
      case bn263 => kernel_rfl
      case cn263 => kernel_rfl
      case qn263 => exact fun _ _ _ h => h
      case dn263 => rfl
      case hyn263 => (intro z hSw; (try dsimp only at hSw); go_simp; (try with_reducible rfl))
      try simp only [Act.put, List.setIfInBounds_toArray, List.set_cons_zero, List.set_cons_succ]
      refine wpAnyH_take (i := 19) (oi := ?on264) (v := ?vn264) ?hin264 ?an264 ?bn264 ?cn264 ?qn264 (Or.inl ⟨?dn264, ?hyn264⟩) hHeld ?restn264
      case hin264 => (simp only [List.getElem?_toArray, List.getElem?_cons_succ, List.getElem?_cons_zero]; exact rfl)
      case an264 => kernel_rfl
      case bn264 => kernel_rfl
      case cn264 => kernel_rfl
      case qn264 => exact fun _ _ _ h => h
      case dn264 => rfl
      case hyn264 => (intro z hSw; (try dsimp only at hSw); go_simp; (try with_reducible rfl))
      try simp only [Act.put, List.setIfInBounds_toArray, List.set_cons_zero, List.set_cons_succ]
      refine wpAnyH_take (i := 20) (oi := ?on265) (v := ?vn265) ?hin265 ?an265 ?bn265 ?cn265 ?qn265 (Or.inl ⟨?dn265, ?hyn265⟩) hHeld ?restn265
      case hin265 => (simp only [List.getElem?_toArray, List.getElem?_cons_succ, List.getElem?_cons_zero]; exact rfl)
      case an265 => kernel_rfl
      case bn265 => kernel_rfl
      case cn265 => kernel_rfl
      case qn265 => exact fun _ _ _ h => h
      case dn265 => rfl
      case hyn265 => (intro z hSw; (try dsimp only at hSw); go_simp; (try with_reducible rfl))
      try simp only [Act.put, List.setIfInBounds_toArray, List.set_cons_zero, List.set_cons_succ]
      refine wpAnyH_take (i := 21) (oi := ?on266) (v := ?vn266) ?hin266 ?an266 ?bn266 ?cn266 ?qn266 (Or.inl ⟨?dn266, ?hyn266⟩) hHeld ?restn266
      case hin266 => (simp only [List.getElem?_toArray, List.getElem?_cons_succ, List.getElem?_cons_zero]; exact rfl)
      case an266 => kernel_rfl
      case bn266 => kernel_rfl
      case cn266 => kernel_rfl
      case qn266 => exact fun _ _ _ h => h
      case dn266 => rfl
      case hyn266 => (intro z hSw; (try dsimp only at hSw); go_simp; (try with_reducible rfl))
      try simp only [Act.put, List.setIfInBounds_toArray, List.set_cons_zero, List.set_cons_succ]
      refine wpAnyH_take (i := 22) (oi := ?on267) (v := ?vn267) ?hin267 ?an267 ?bn267 ?cn267 ?qn267 (Or.inl ⟨?dn267, ?hyn267⟩) hHeld ?restn267
      case hin267 => (simp only [List.getElem?_toArray, List.getElem?_cons_succ, List.getElem?_cons_zero]; exact rfl)
      case an267 => kernel_rfl
      case bn267 => kernel_rfl
      case cn267 => kernel_rfl
      case qn267 => exact fun _ _ _ h => h
      case dn267 => rfl
      case hyn267 => (intro z hSw; (try dsimp only at hSw); go_simp; (try with_reducible rfl))
      try simp only [Act.put, List.setIfInBounds_toArray, List.set_cons_zero, List.set_cons_succ]
      refine wpAnyH_take (i := 23) (oi := ?on268) (v := ?vn268) ?hin268 ?an268 ?bn268 ?cn268 ?qn268 (Or.inl ⟨?dn268, ?hyn268⟩) hHeld ?restn268
      case hin268 => (simp only [List.getElem?_toArray, List.getElem?_cons_succ, List.getElem?_cons_zero]; exact rfl)
      case an268 => kernel_rfl
      case bn268 => kernel_rfl
      case cn268 => kernel_rfl
      case qn268 => exact fun _ _ _ h => h
      case dn268 => rfl
      case hyn268 => (intro z hSw; (try dsimp only at hSw); go_simp; (try with_reducible rfl))
      try simp only [Act.put, List.setIfInBounds_toArray, List.set_cons_zero, List.set_cons_succ]
      refine wpAnyH_ready (rs := [24]) (by kernel_rfl) (by simp) ?_
      refine AllReadyH.cons (o := ?on269) ?hin269 ?restn269 AllReadyH.nil
      case hin269 => (simp only [List.getElem?_toArray, List.getElem?_cons_succ, List.getElem?_cons_zero]; exact rfl)
      intro K hK
      go_simp
      go_at_call 51
      refine (KJ.out _ (g2.trans (by repeat (first | with_reducible assumption | with_reducible refine Grew.alloc ?_ _ | with_reducible refine Grew.drew ?_ | with_reducible refine Grew.drewN ?_ _)))).mono ?_
      rintro e w4 ⟨v4, rfl, ho4, hg4⟩
      have h4 : Grew w2 w4 := Grew.trans (by repeat (first | with_reducible assumption | with_reducible refine Grew.alloc ?_ _ | with_reducible refine Grew.drew ?_ | with_reducible refine Grew.drewN ?_ _)) hg4
      have hn4 := ho4.nodes
      obtain ⟨A4, c4, rfl⟩ := nodes_slice ho4.nodes
      refine hK.out _ _ ?_ (fun hHeld => ?_)
      · (try dsimp only); first | with_reducible assumption | exact Grew.alloc ‹_› _
      clear hK K
      try simp only [Act.put, List.setIfInBounds_toArray, List.set_cons_zero, List.set_cons_succ]
      refine wpAnyH_ready (rs := [25]) (by kernel_rfl) (by simp) ?_
      refine AllReadyH.cons (o := ?on270) ?hin270 ?restn270 AllReadyH.nil
      case hin270 => (simp only [List.getElem?_toArray, List.getElem?_cons_succ, List.getElem?_cons_zero]; exact rfl)
      intro K hK
      go_simp
      go_at_call 49
      refine (KE.out _ (g2.trans h4) _ hn4).mono ?_
      rintro e w5 ⟨rfl, hg5⟩
      have h5 : Grew w2 w5 := h4.trans hg5
      refine hK.out _ _ ?_ (fun hHeld => ?_)
      · (try dsimp only); first | with_reducible assumption | exact Grew.alloc ‹_› _
      clear hK K
      try simp only [Act.put, List.setIfInBounds_toArray, List.set_cons_zero, List.set_cons_succ]
      refine wpAnyH_take (i := 26) (oi := ?on271) (v := ?vn271) ?hin271 ?an271 ?bn271 ?cn271 ?qn271 (Or.inl ⟨?dn271, ?hyn271⟩) hHeld ?restn271
      case hin271 => (simp only [List.getElem?_toArray, List.getElem?_cons_succ, List.getElem?_cons_zero]; exact rfl)
      case an271 => kernel_rfl
      case bn271 => kernel_rfl
      case cn271 => kernel_rfl
      case qn271 => exact fun _ _ _ h => h
      case dn271 => rfl
      case hyn271 => (intro z hSw; (try dsimp only at hSw); go_simp; (try with_reducible rfl))
      try simp only [Act.put, List.setIfInBounds_toArray, List.set_cons_zero, List.set_cons_succ]
      refine wpAnyH_take (i := 27) (oi := ?on272) (v := ?vn272) ?hin272 ?an272 ?bn272 ?cn272 ?qn272 (Or.inl ⟨?dn272, ?hyn272⟩) hHeld ?restn272
      case hin272 => (simp only [List.getElem?_toArray, List.getElem?_cons_succ, List.getElem?_cons_zero]; exact rfl)
      case an272 => kernel_rfl
      case bn272 => kernel_rfl
      case cn272 => kernel_rfl
      case qn272 => exact fun _ _ _ h => h
      case dn272 => rfl
      case hyn272 => (intro z hSw; (try dsimp only at hSw); go_simp; (try with_reducible rfl))
      try simp only [Act.put, List.setIfInBounds_toArray, List.set_cons_zero, List.set_cons_succ]
      refine wpAnyH_done (by kernel_rfl) ?_ _
      go_wp2_with fail
      go_ret
      exact ⟨by rw [hR]; rfl, g2.trans h5⟩
    | true =>
      simp only [heq, Bool.and_true] at hR
      rw [heq] at KE
      replace KE := Lib.hid KE
      go_wp2_with fail
      refine wp_region_held_drew (S := fun w' => Grew w2 w') (by kernel_rfl) r2d (fun hHeld => ?_)
      refine wpAnyH_take (i := 0) (oi := ?on284) (v := ?vn284) ?hin284 ?an284 ?bn284 ?cn284 ?qn284 (Or.inl ⟨?dn284, ?hyn284⟩) hHeld ?restn284
      case hin284 => (simp only [List.getElem?_toArray, List.getElem?_cons_zero]; exact rfl)
      case an284 => kernel_rfl
      case bn284 => kernel_rfl
      case cn284 => kernel_rfl
      case qn284 => exact fun _ _ _ h => h
      case dn284 => rfl
      case hyn284 => (intro z hSw; (try dsimp only at hSw); go_simp; (try with_reducible rfl))
      try simp only [Act.put, List.setIfInBounds_toArray, List.set_cons_zero, List.set_cons_succ]
      refine wpAnyH_take (i := 1) (oi := ?on285) (v := ?vn285) ?hin285 ?an285 ?bn285 ?cn285 ?qn285 (Or.inl ⟨?dn285, ?hyn285⟩) hHeld ?restn285
      case hin285 => (simp only [List.getElem?_toArray, List.getElem?_cons_succ, List.getElem?_cons_zero]; exact rfl)
      case an285 => kernel_rfl
      case bn285 => kernel_rfl
      case cn285 => kernel_rfl
      case qn285 => exact fun _ _ _ h => h
      case dn285 => rfl
      case hyn285 => (intro z hSw; (try dsimp only at hSw); go_simp; (try with_reducible rfl))
      try simp only [Act.put, List.setIfInBounds_toArray, List.set_cons_zero, List.set_cons_succ]
      refine wpAnyH_take (i := 2) (oi := ?on286) (v := ?vn286) ?hin286 ?an286 ?bn286 ?cn286 ?qn286 (Or.inl ⟨?dn286, ?hyn286⟩) hHeld ?restn286
      case hin286 => (simp only [List.getElem?_toArray, List.getElem?_cons_succ, List.getElem?_cons_zero]; exact rfl)
      case an286 => kernel_rfl
      case bn286 => kernel_rfl
      case cn286 => kernel_rfl
      case qn286 => exact fun _ _ _ h => h
      case dn286 => rfl
      case hyn286 => (intro z hSw; (try dsimp only at hSw); go_simp; (try with_reducible rfl))
      try simp only [Act.put, List.setIfInBounds_toArray, List.set_cons_zero, List.set_cons_succ]
      refine wpAnyH_take (i := 3) (oi := ?on287) (v := ?vn287) ?hin287 ?an287 ?bn287 ?cn287 ?qn287 (Or.inl ⟨?dn287, ?hyn287⟩) hHeld ?restn287
      case hin287 => (simp only [List.getElem?_toArray, List.getElem?_cons_succ, List.getElem?_cons_zero]; exact rfl)
      case an287 => kernel_rfl
      case bn287 => kernel_rfl
      case cn287 => kernel_rfl
      case qn287 => exact fun _ _ _ h => h
      case dn287 => rfl
      case hyn287 => (intro z hSw; (try dsimp only at hSw); go_simp; (try with_reducible rfl))
      try simp only [Act.put, List.setIfInBounds_toArray, List.set_cons_zero, List.set_cons_succ]
      refine wpAnyH_take (i := 4) (oi := ?on288) (v := ?vn288) ?hin288 ?an288 ?bn288 ?cn288 ?qn288 (Or.inl ⟨?dn288, ?hyn288⟩) hHeld ?restn288
      case hin288 => (simp only [List.getElem?_toArray, List.getElem?_cons_succ, List.getElem?_cons_zero]; exact rfl)
      case an288 => kernel_rfl
      case bn288 => kernel_rfl
      case cn288 => kernel_rfl
      case qn288 => exact fun _ _ _ h => h
      case dn288 => rfl
      case hyn288 => (intro z hSw; (try dsimp only at hSw); go_simp; (try with_reducible rfl))
      try simp only [Act.put, List.setIfInBounds_toArray, List.set_cons_zero, List.set_cons_succ]
      refine wpAnyH_take (i := 5) (oi := ?on289) (v := ?vn289) ?hin289 ?an289 ?bn289 ?cn289 ?qn289 (Or.inl ⟨?dn289, ?hyn289⟩) hHeld ?restn289
      case hin289 => (simp only [List.getElem?_toArray, List.getElem?_cons_succ, List.getElem?_cons_zero]; exact rfl)
      case an289 => kernel_rfl
      case bn289 => kernel_rfl
      case cn289 => kernel_rfl
      case qn289 => exact fun _ _ _ h => h
      case dn289 => rfl
      case hyn289 => (intro z hSw; (try dsimp only at hSw); go_simp; (try with_reducible rfl))
      try simp only [Act.put, List.setIfInBounds_toArray, List.set_cons_zero, List.set_cons_succ]
      refine wpAnyH_take (i := 6) (oi := ?on290) (v := ?vn290) ?hin290 ?an290 ?bn290 ?cn290 ?qn290 (Or.inl ⟨?dn290, ?hyn290⟩) hHeld ?restn290
      case hin290 => (simp only [List.getElem?_toArray, List.getElem?_cons_succ, List.getElem?_cons_zero]; exact rfl)
      case an290 => kernel_rfl
      case bn290 => kernel_rfl
      case cn290 => kernel_rfl
      case qn290 => exact fun _ _ _ h => h
      case dn290 => rfl
      case hyn290 => (intro z hSw; (try dsimp only at hSw); go_simp; (try with_reducible rfl))
      try simp only [Act.put, List.setIfInBounds_toArray, List.set_cons_zero, List.set_cons_succ]
      refine wpAnyH_take (i := 7) (oi := ?on291) (v := ?vn291) ?hin291 ?an291 ?bn291 ?cn291 ?qn291 (Or.inl ⟨?dn291, ?hyn291⟩) hHeld ?restn291
      case hin291 => (simp only [List.getElem?_toArray, List.getElem?_cons_succ, List.getElem?_cons_zero]; exact rfl)
      case an291 => kernel_rfl
      case bn291 => kernel_rfl
      case cn291 => kernel_rfl
      case qn291 => exact fun _ _ _ h => h
      case dn291 => rfl
      case hyn291 => (intro z hSw; (try dsimp only at hSw); go_simp; (try with_reducible rfl))
      try simp only [Act.put, List.setIfInBounds_toArray, List.set_cons_zero, List.set_cons_succ]
      refine wpAnyH_take (i := 8) (oi := ?on292) (v := ?vn292) ?hin292 ?an292 ?bn292 ?cn292 ?qn292 (Or.inl ⟨?dn292, ?hyn292⟩) hHeld ?restn292
      case hin292 => (simp only [List.getElem?_toArray, List.getElem?_cons_succ, List.getElem?_cons_zero]; exact rfl)
      case an292 => kernel_rfl
      case bn292 => kernel_rfl
      case cn292 => kernel_rfl
      case qn292 => exact fun _ _ _ h => h
      case dn292 => rfl
      case hyn292 => (intro z hSw; (try dsimp only at hSw); go_simp; (try with_reducible rfl))
      try simp only [Act.put, List.setIfInBounds_toArray, List.set_cons_zero, List.set_cons_succ]
      refine wpAnyH_take (i := 9) (oi := ?on293) (v := ?vn293) ?hin293 ?an293 ?bn293 ?cn293 ?qn293 (Or.inl ⟨?dn293, ?hyn293⟩) hHeld ?restn293
      case hin293 => (simp only [List.getElem?_toArray, List.getElem?_cons_succ, List.getElem?_cons_zero]; exact rfl)
      case an293 => kernel_rfl
      case bn293 => kernel_rfl
      case cn293 => kernel_rfl
      case qn293 => exact fun _ _ _ h => h
      case dn293 => rfl
      case hyn293 => (intro z hSw; (try dsimp only at hSw); go_simp; (try with_reducible rfl))
      try simp only [Act.put, List.setIfInBounds_toArray, List.set_cons_zero, List.set_cons_succ]
      refine wpAnyH_take (i := 10) (oi := ?on294) (v := ?vn294) ?hin294 ?an294 ?bn294 ?cn294 ?qn294 (Or.inl ⟨?dn294, ?hyn294⟩) hHeld ?restn294
      case hin294 => (simp only [List.getElem?_toArray, List.getElem?_cons_succ, List.getElem?_cons_zero]; exact rfl)
      case an294 => kernel_rfl
      case bn294 => kernel_rfl
      case cn294 => kernel_rfl
      case qn294 => exact fun _ _ _ h => h
      case dn294 => rfl
      case hyn294 => (intro z hSw; (try dsimp only at hSw); go_simp; (try with_reducible rfl))
      try simp only [Act.put, List.setIfInBounds_toArray, List.set_cons_zero, List.set_cons_succ]
      refine wpAnyH_take (i := 11) (oi := ?on295) (v := ?vn295) ?hin295 ?an295 ?bn295 ?cn295 ?qn295 (Or.inl ⟨?dn295, ?hyn295⟩) hHeld ?restn295
      case hin295 => (simp only [List.getElem?_toArray, List.getElem?_cons_succ, List.getElem?_cons_zero]; exact rfl)
      case an295 => kernel_rfl
      case bn295 => kernel_rfl
      case cn295 => kernel_rfl
      case qn295 => exact fun _ _ _ h => h
      case dn295 => rfl
      case hyn295 => (intro z hSw; (try dsimp only at hSw); go_simp; (try with_reducible rfl))
      try simp only [Act.put, List.setIfInBounds_toArray, List.set_cons_zero, List.set_cons_succ]
      refine wpAnyH_take (i := 12) (oi := ?on296) (v := ?vn296) ?hin296 ?an296 ?bn296 ?cn296 ?qn296 (Or.inl ⟨?dn296, ?hyn296⟩) hHeld ?restn296
      case hin296 => (simp only [List.getElem?_toArray, List.getElem?_cons_succ, List.getElem?_cons_zero]; exact rfl)
      case an296 => kernel_rfl
      case bn296 => kernel_rfl
      case cn296 => kernel_rfl
      case qn296 => exact fun _ _ _ h => h
      case dn296 => rfl
      case hyn296 => (intro z hSw; (try dsimp only at hSw); go_simp; (try with_reducible rfl))
      try simp only [Act.put, List.setIfInBounds_toArray, List.set_cons_zero, List.set_cons_succ]
      refine wpAnyH_take (i := 13) (oi := ?on297) (v := ?vn297) ?hin297 ?an297 ?bn297 ?cn297 ?qn297 (Or.inl ⟨?dn297, ?hyn297⟩) hHeld ?restn297
      case hin297 => (simp only [List.getElem?_toArray, List.getElem?_cons_succ, List.getElem?_cons_zero]; exact rfl)
      case an297 => kernel_rfl
      case bn297 => kernel_rfl
      case cn297 => kernel_rfl
      case qn297 => exact fun _ _ _ h => h
      case dn297 => rfl
      case hyn297 => (intro z hSw; (try dsimp only at hSw); go_simp; (try with_reducible rfl))
      try simp only [Act.put, List.setIfInBounds_toArray, List.set_cons_zero, List.set_cons_succ]
      refine wpAnyH_take (i := 14) (oi := ?on298) (v := ?vn298) ?hin298 ?an298 ?bn298 ?cn298 ?qn298 (Or.inl ⟨?dn298, ?hyn298⟩) hHeld ?restn298
      case hin298 => (simp only [List.getElem?_toArray, List.getElem?_cons_succ, List.getElem?_cons_zero]; exact rfl)
      case an298 => kernel_rfl
      case bn298 => kernel_rfl
      case cn298 => kernel_rfl
      case qn298 => exact fun _ _ _ h => h
      case dn298 => rfl
      case hyn298 => (intro z hSw; (try dsimp only at hSw); go_simp; (try with_reducible rfl))
      try simp only [Act.put, List.setIfInBounds_toArray, List.set_cons_zero, List.set_cons_succ]
      refine wpAnyH_take (i := 15) (oi := ?on299) (v := ?vn299) ?hin299 ?an299 ?bn299 ?cn299 ?qn299 (Or.inl ⟨?dn299, ?hyn299⟩) hHeld ?restn299
      case hin299 => (simp only [List.getElem?_toArray, List.getElem?_cons_succ, List.getElem?_cons_zero]; exact rfl)
      case an299 => kernel_rfl
      case bn299 => kernel_rfl
      case cn299 => kernel_rfl
      case qn299 => exact fun _ _ _ h => h
      case dn299 => rfl
      case hyn299 => (intro z hSw; (try dsimp only at hSw); go_simp; (try with_reducible rfl))
      try simp only [Act.put, List.setIfInBounds_toArray, List.set_cons_zero, List.set_cons_succ]
      refine wpAnyH_take (i := 16) (oi := ?on300) (v := ?vn300) ?hin300 ?an300 ?bn300 ?cn300 ?qn300 (Or.inl ⟨?dn300, ?hyn300⟩) hHeld ?restn300
      case hin300 => (simp only [List.getElem?_toArray, List.getElem?_cons_succ, List.getElem?_cons_zero]; exact rfl)
      case an300 => kernel_rfl
      case bn300 => kernel_rfl
      case cn300 => kernel_rfl
      case qn300 => exact fun _ _ _ h => h
      case dn300 => rfl
      case hyn300 => (intro z hSw; (try dsimp only at hSw); go_simp; (try with_reducible rfl))
      try simp only [Act.put, List.setIfInBounds_toArray, List.set_cons_zero, List.set_cons_succ]
      refine wpAnyH_take (i := 17) (oi := ?on301) (v := ?vn301) ?hin301 ?an301 ?bn301 ?cn301 ?qn301 (Or.inl ⟨?dn301, ?hyn301⟩) hHeld ?restn301
      case hin301 => (simp only [List.getElem?_toArray, List.getElem?_cons_succ, List.getElem?_cons_zero]; exact rfl)
      case an301 => kernel_rfl
      case bn301 => kernel_rfl
      case cn301 => kernel_rfl
      case qn301 => exact fun _ _ _ h => h
      case dn301 => rfl
      case hyn301 => (intro z hSw; (try dsimp only at hSw); go_simp; (try with_reducible rfl))
      try simp only [Act.put, List.setIfInBounds_toArray, List.set_cons_zero, List.set_cons_succ]
      refine wpAnyH_take (i := 18) (oi := ?on302) (v := ?vn302) ?hin302 ?an302 ?bn302 ?cn302 ?qn302 (Or.inl ⟨?dn302, ?hyn302⟩) hHeld ?restn302
      case hin302 => (simp only [List.getElem?_toArray, List.getElem?_cons_succ, List.getElem?_cons_zero]; exact rfl)
      case an302 => kernel_rfl
      case bn302 => kernel_rfl
      case cn302 => kernel_rfl
      case qn302 => exact fun _ _ _ h => h
      case dn302 => rfl
      case hyn302 => (intro z hSw; (try dsimp only at hSw); go_simp; (try with_reducible rfl))
      try simp only [Act.put, List.setIfInBounds_toArray, List.set_cons_zero, List.set_cons_succ]
      refine wpAnyH_take (i := 19) (oi := ?on303) (v := ?vn303) ?hin303 ?an303 ?bn303 ?cn303 ?qn303 (Or.inl ⟨?dn303, ?hyn303⟩) hHeld ?restn303
      case hin303 => (simp only [List.getElem?_toArray, List.getElem?_cons_succ, List.getElem?_cons_zero]; exact rfl)
      case an303 => kernel_rfl
      case bn303 => kernel_rfl
      case cn303 => kernel_rfl
      case qn303 => exact fun _ _ _ h => h
      case dn303 => rfl
      case hyn303 => (intro z hSw; (try dsimp only at hSw); go_simp; (try with_reducible rfl))
      try simp only [Act.put, List.setIfInBounds_toArray, List.set_cons_zero, List.set_cons_succ]
      refine wpAnyH_take (i := 20) (oi := ?on304) (v := ?vn304) ?hin304 ?an304 ?bn304 ?cn304 ?qn304 (Or.inl ⟨?dn304, ?hyn304⟩) hHeld ?restn304
      case hin304 => (simp only [List.getElem?_toArray, List.getElem?_cons_succ, List.getElem?_cons_zero]; exact rfl)
      case an304 => kernel_rfl
      case bn304 => kernel_rfl
      case cn304 => kernel_rfl
      case qn304 => exact fun _ _ _ h => h
      case dn304 => rfl
      case hyn304 => (intro z hSw; (try dsimp only at hSw); go_simp; (try with_reducible rfl))
      try simp only [Act.put, List.setIfInBounds_toArray, List.set_cons_zero, List.set_cons_succ]
      refine wpAnyH_take (i := 21) (oi := ?on305) (v := ?vn305) ?hin305 ?an305 ?bn305 ?cn305 ?qn305 (Or.inl ⟨?dn305, ?hyn305⟩) hHeld ?restn305
      case hin305 => (simp only [List.getElem?_toArray, List.getElem?_cons_succ, List.getElem?_cons_zero]; exact rfl)
      case an305 => kernel_rfl
      case bn305 => kernel_rfl
      case cn305 => kernel_rfl
      case qn305 => exact fun _ _ _ h => h
      case dn305 => rfl
      case hyn305 => (intro z hSw; (try dsimp only at hSw); go_simp; (try with_reducible rfl))
      try simp only [Act.put, List.setIfInBounds_toArray, List.set_cons_zero, List.set_cons_succ]
      refine wpAnyH_take (i := 22) (oi := ?on306) (v := ?vn306) ?hin306 ?an306 ?bn306 ?cn306 ?qn306 (Or.inl ⟨?dn306, ?hyn306⟩) hHeld ?restn306
      case hin306 => (simp only [List.getElem?_toArray, List.getElem?_cons_succ, List.getElem?_cons_zero]; exact rfl)
      case an306 => kernel_rfl
      case bn306 => kernel_rfl
      case cn306 => kernel_rfl
      case qn306 => exact fun _ _ _ h => h
      case dn306 => rfl
      case hyn306 => (intro z hSw; (try dsimp only at hSw); go_simp; (try with_reducible rfl))
      try simp only [Act.put, List.setIfInBounds_toArray, List.set_cons_zero, List.set_cons_succ]
      refine wpAnyH_take (i := 23) (oi := ?on307) (v := ?vn307) ?hin307 ?an307 ?bn307 ?cn307 ?qn307 (Or.inl ⟨?dn307, ?hyn307⟩) hHeld ?restn307
      case hin307 => (simp only [List.getElem?_toArray, List.getElem?_cons_succ, List.getElem?_cons_zero]; exact rfl)
      case an307 => kernel_rfl
      case bn307 => kernel_rfl
      case cn307 => kernel_rfl
      case qn307 => exact fun _ _ _ h => h
      case dn307 => rfl
      case hyn307 => (intro z hSw; (try dsimp only at hSw); go_simp; (try with_reducible rfl))
      try simp only [Act.put, List.setIfInBounds_toArray, List.set_cons_zero, List.set_cons_succ]
      refine wpAnyH_ready (rs := [24]) (by kernel_rfl) (by simp) ?_
      refine AllReadyH.cons (o := ?on308) ?hin308 ?restn308 AllReadyH.nil
      case hin308 => (simp only [List.getElem?_toArray, List.getElem?_cons_succ, List.getElem?_cons_zero]; exact rfl)
      intro K hK
      go_simp
      go_at_call 51
      refine (KJ.out _ (g2.trans (by repeat (first | with_reducible assumption | with_reducible refine Grew.alloc ?_ _ | with_reducible refine Grew.drew ?_ | with_reducible refine Grew.drewN ?_ _)))).mono ?_
      rintro e w4 ⟨v4, rfl, ho4, hg4⟩
      have h4 : Grew w2 w4 := Grew.trans (by repeat (first | with_reducible assumption | with_reducible refine Grew.alloc ?_ _ | with_reducible refine Grew.drew ?_ | with_reducible refine Grew.drewN ?_ _)) hg4
      have hn4 := ho4.nodes
      obtain ⟨A4, c4, rfl⟩ := nodes_slice ho4.nodes
      refine hK.out _ _ ?_ (fun hHeld => ?_)
      · (try dsimp only); first | with_reducible assumption | exact Grew.alloc ‹_› _
      clear hK K
      try simp only [Act.put, List.setIfInBounds_toArray, List.set_cons_zero, List.set_cons_succ]
      refine wpAnyH_ready (rs := [25]) (by kernel_rfl) (by simp) ?_
      refine AllReadyH.cons (o := ?on309) ?hin309 ?restn309 AllReadyH.nil
      case hin309 => (simp only [List.getElem?_toArray, List.getElem?_cons_succ, List.getElem?_cons_zero]; exact rfl)
      intro K hK
      go_simp
      go_at_call 49
      refine (KE.out _ (g2.trans h4) _ hn4).mono ?_
      rintro e w5 ⟨rfl, hg5⟩
      have h5 : Grew w2 w5 := h4.trans hg5
      refine hK.out _ _ ?_ (fun hHeld => ?_)
      · (try dsimp only); first | with_reducible assumption | exact Grew.alloc ‹_› _
      clear hK K
      try simp only [Act.put, List.setIfInBounds_toArray, List.set_cons_zero, List.set_cons_succ]
      refine wpAnyH_take (i := 26) (oi := ?on310) (v := ?vn310) ?hin310 ?an310 ?bn310 ?cn310 ?qn310 (Or.inl ⟨?dn310, ?hyn310⟩) hHeld ?restn310
      case hin310 => (simp only [List.getElem?_toArray, List.getElem?_cons_succ, List.getElem?_cons_zero]; exact rfl)
      case an310 => kernel_rfl
      case bn310 => kernel_rfl
      case cn310 => kernel_rfl
      case qn310 => exact fun _ _ _ h => h
      case dn310 => rfl
      case hyn310 => (intro z hSw; (try dsimp only at hSw); go_simp; (try with_reducible rfl))
      try simp only [Act.put, List.setIfInBounds_toArray, List.set_cons_zero, List.set_cons_succ]
      refine wpAnyH_take (i := 27) (oi := ?on311) (v := ?vn311) ?hin311 ?an311 ?bn311 ?cn311 ?qn311 (Or.inl ⟨?dn311, ?hyn311⟩) hHeld ?restn311
      case hin311 => (simp only [List.getElem?_toArray, List.getElem?_cons_succ, List.getElem?_cons_zero]; exact rfl)
      case an311 => kernel_rfl
      case bn311 => kernel_rfl
      case cn311 => kernel_rfl
      case qn311 => exact fun _ _ _ h => h
      case dn311 => rfl
      case hyn311 => (intro z hSw; (try dsimp only at hSw); go_simp; (try with_reducible rfl))
      try simp only [Act.put, List.setIfInBounds_toArray, List.set_cons_zero, List.set_cons_succ]
      refine wpAnyH_done (by kernel_rfl) ?_ _
      have r5d := h5.drew
      go_wp2_with fail
      refine wp_region_held_drew (S := fun w' => Grew w2 w') (by kernel_rfl) r5d (fun hHeld => ?_)
      refine wpAnyH_take (i := 0) (oi := ?on273) (v := ?vn273) ?hin273 ?an273 ?bn273 ?cn273 ?qn273 (Or.inl ⟨?dn273, ?hyn273⟩) hHeld ?restn273
      case hin273 => (simp only [List.getElem?_toArray, List.getElem?_cons_zero]; exact rfl)
      case an273 => kernel_rfl
      case bn273 => kernel_rfl
      case cn273 => kernel_rfl
      case qn273 => exact fun _ _ _ h => h
      case dn273 => rfl
      case hyn273 => (intro z hSw; (try dsimp only at hSw); go_simp; (try with_reducible rfl))
      try simp only [Act.put, List.setIfInBounds_toArray, List.set_cons_zero, List.set_cons_succ]
      refine wpAnyH_take (i := 1) (oi := ?on274) (v := ?vn274) ?hin274 ?an274 ?bn274 ?cn274 ?qn274 (Or.inl ⟨?dn274, ?hyn274⟩) hHeld ?restn274
      case hin274 => (simp only [List.getElem?_toArray, List.getElem?_cons_succ, List.getElem?_cons_zero]; exact rfl)
      case an274 => kernel_rfl
      case bn274 => kernel_rfl
      case cn274 => kernel_rfl
      case qn274 => exact fun _ _ _ h => h
      case dn274 => rfl
      case hyn274 => (intro z hSw; (try dsimp only at hSw); go_simp; (try with_reducible rfl))
      try simp only [Act.put, List.setIfInBounds_toArray, List.set_cons_zero, List.set_cons_succ]
      refine wpAnyH_take (i := 2) (oi := ?on275) (v := ?vn275) ?hin275 ?an275 ?bn275 ?cn275 ?qn275 (Or.inl ⟨?dn275, ?hyn275⟩) hHeld ?restn275
      case hin275 => (simp only [List.getElem?_toArray, List.getElem?_cons_succ, List.getElem?_cons_zero]; exact rfl)
      case an275 => kernel_rfl
      case bn275 => kernel_rfl
      case cn275 => kernel_rfl
      case qn275 => exact fun _ _ _ h => h
      case dn275 => rfl
      case hyn275 => (intro z hSw; (try dsimp only at hSw); go_simp; (try with_reducible rfl))
      try simp only [Act.put, List.setIfInBounds_toArray, List.set_cons_zero, List.set_cons_succ]
      refine wpAnyH_take (i := 4) (oi := ?on276) (v := ?vn276) ?hin276 ?an276 ?bn276 ?cn276 ?qn276 (Or.inl ⟨?dn276, ?hyn276⟩) hHeld ?restn276
      case hin276 => (simp only [List.getElem?_toArray, List.getElem?_cons_succ, List.getElem?_cons_zero]; exact rfl)
      case an276 => kernel_rfl
      case bn276 => kernel_rfl
      case cn276 => kernel_rfl
      case qn276 => exact fun _ _ _ h => h
      case dn276 => rfl
      case hyn276 => (intro z hSw; (try dsimp only at hSw); go_simp; (try with_reducible rfl))
      try simp only [Act.put, List.setIfInBounds_toArray, List.set_cons_zero, List.set_cons_succ]
      refine wpAnyH_take (i := 5) (oi := ?on277) (v := ?vn277) ?hin277 ?an277 ?bn277 ?cn277 ?qn277 (Or.inl ⟨?dn277, ?hyn277⟩) hHeld ?restn277
      case hin277 => (simp only [List.getElem?_toArray, List.getElem?_cons_succ, List.getElem?_cons_zero]; exact rfl)
      case an277 => kernel_rfl
      case bn277 => kernel_rfl
      case cn277 => kernel_rfl
      case qn277 => exact fun _ _ _ h => h
      case dn277 => rfl
      case hyn277 => (intro z hSw; (try dsimp only at hSw); go_simp; (try with_reducible rfl))
      try simp only [Act.put, List.setIfInBounds_toArray, List.set_cons_zero, List.set_cons_succ]
      refine wpAnyH_ready (rs := [3]) (by kernel_rfl) (by simp) ?_
      refine AllReadyH.cons (o := ?on278) ?hin278 ?restn278 AllReadyH.nil
      case hin278 => (simp only [List.getElem?_toArray, List.getElem?_cons_succ, List.getElem?_cons_zero]; exact rfl)
      intro K hK
      go_simp
      go_at_call 52
      refine (KD.out _ (g2.trans (by repeat (first | with_reducible assumption | with_reducible refine Grew.alloc ?_ _ | with_reducible refine Grew.drew ?_ | with_reducible refine Grew.drewN ?_ _)))).mono ?_
      rintro e w6 ⟨v6, Us, rfl, ho6, hU6, hD6, hg6⟩
      have h6 : Grew w2 w6 := Grew.trans (by repeat (first | with_reducible assumption | with_reducible refine Grew.alloc ?_ _ | with_reducible refine Grew.drew ?_ | with_reducible refine Grew.drewN ?_ _)) hg6
      obtain ⟨g7, c7, u7, rfl, hc7, ho7⟩ := ho6.at_ (i := a) (by omega)
      have hE7 := (hD6 a (by omega)).emp
      obtain ⟨A7, d7, rfl⟩ := ints_slice ho7.ints
      rw [hU6]
      have t7 := hc7 _ (Grew.refl w6)
      have hL7 : (((Us.getD a []).length : Int) == 0) = R := by
        rw [hR]
        cases hne7 : ne L a with
        | true =>
          have : Us.getD a [] ≠ [] := fun h => by rw [hE7.1 h] at hne7; cases hne7
          have h0 := List.length_pos_iff.2 this
          rw [beq_eq_false_iff_ne.2 (by omega : ((Us.getD a []).length : Int) ≠ 0)]; rfl
        | false => rw [hE7.2 hne7]; rfl
      generalize (Us.getD a []).length = l7 at *
      clear hE7 ho7 ho6
      refine hK.out _ _ ?_ (fun hHeld => ?_)
      · (try dsimp only); first | with_reducible assumption | exact Grew.alloc ‹_› _
      clear hK K
      try simp only [Act.put, List.setIfInBounds_toArray, List.set_cons_zero, List.set_cons_succ]
      refine wpAnyH_take (i := 6) (oi := ?on279) (v := ?vn279) ?hin279 ?an279 ?bn279 ?cn279 ?qn279 (Or.inl ⟨?dn279, ?hyn279⟩) hHeld ?restn279
      case hin279 => (simp only [List.getElem?_toArray, List.getElem?_cons_succ, List.getElem?_cons_zero]; exact rfl)
      case an279 => kernel_rfl
      case bn279 => kernel_rfl
      case cn279 => kernel_rfl
      case qn279 => exact fun _ _ _ h => h
      case dn279 => rfl
      case hyn279 => (intro z hSw; (try dsimp only at hSw); go_simp; (try with_reducible rfl))
      try simp only [Act.put, List.setIfInBounds_toArray, List.set_cons_zero, List.set_cons_succ]
      refine wpAnyH_ready (rs := [7]) (by kernel_rfl) (by simp) ?_
      refine AllReadyH.cons (o := ?on280) ?hin280 ?restn280 AllReadyH.nil
      case hin280 => (simp only [List.getElem?_toArray, List.getElem?_cons_succ, List.getElem?_cons_zero]; exact rfl)
      intro K hK
      go_simp
      refine hK.out _ _ ?_ (fun hHeld => ?_)
      · (try dsimp only); first | with_reducible assumption | exact Grew.alloc ‹_› _
      clear hK K
      try simp only [Act.put, List.setIfInBounds_toArray, List.set_cons_zero, List.set_cons_succ]
      refine wpAnyH_take (i := 8) (oi := ?on281) (v := ?vn281) ?hin281 ?an281 ?bn281 ?cn281 ?qn281 (Or.inl ⟨?dn281, ?hyn281⟩) hHeld ?restn281
      case hin281 => (simp only [List.getElem?_toArray, List.getElem?_cons_succ, List.getElem?_cons_zero]; exact rfl)
      case an281 => kernel_rfl
      case bn281 => kernel_rfl
      case cn281 => kernel_rfl
      case qn281 => exact fun _ _ _ h => h
      case dn281 => rfl
      case hyn281 => (intro z hSw; (try dsimp only at hSw); go_simp; (try with_reducible rfl))
      try simp only [Act.put, List.setIfInBounds_toArray, List.set_cons_zero, List.set_cons_succ]
      refine wpAnyH_take (i := 9) (oi := ?on282) (v := ?vn282) ?hin282 ?an282 ?bn282 ?cn282 ?qn282 (Or.inl ⟨?dn282, ?hyn282⟩) hHeld ?restn282
      case hin282 => (simp only [List.getElem?_toArray, List.getElem?_cons_succ, List.getElem?_cons_zero]; exact rfl)
      case an282 => kernel_rfl
      case bn282 => kernel_rfl
      case cn282 => kernel_rfl
      case qn282 => exact fun _ _ _ h => h
      case dn282 => rfl
      case hyn282 => (intro z hSw; (try dsimp only at hSw); go_simp; (try with_reducible rfl))
      try simp only [Act.put, List.setIfInBounds_toArray, List.set_cons_zero, List.set_cons_succ]
      refine wpAnyH_take (i := 10) (oi := ?on283) (v := ?vn283) ?hin283 ?an283 ?bn283 ?cn283 ?qn283 (Or.inl ⟨?dn283, ?hyn283⟩) hHeld ?restn283
      case hin283 => (simp only [List.getElem?_toArray, List.getElem?_cons_succ, List.getElem?_cons_zero]; exact rfl)
      case an283 => kernel_rfl
      case bn283 => kernel_rfl
      case cn283 => kernel_rfl
      case qn283 => exact fun _ _ _ h => h
      case dn283 => rfl
      case hyn283 => (intro z hSw; (try dsimp only at hSw); go_simp; (try with_reducible rfl))
      try simp only [Act.put, List.setIfInBounds_toArray, List.set_cons_zero, List.set_cons_succ]
      refine wpAnyH_done (by kernel_rfl) ?_ _
      go_wp2_with fail
      go_ret
      exact ⟨by first | (rw [hR]; rfl) | (rw [hL7]; rfl), g2.trans h6⟩
  rw [fx_0 h1r h2r h3r h4r] at hR
  have z1 : (rr == 1) = false := by simpa using h1r
  have z2 : (rr == 2) = false := by simpa using h2r
  have z3 : (rr == 3) = false := by simpa using h3r
  have z4 : (rr == 4) = false := by simpa using h4r
  go_wp2_with fail
  go_ret
  exact ⟨by rw [hR]; rfl, g2⟩
end Go.Proofs.YtnbnhapepcegpaaGreatDoor

/- Lists of lists of nodes: slices.ContainsFunc over them; areFormulas. -/
namespace Go.Proofs.YtnbnhapepcegpaaGreatDoor
open Go.RowKit
open Fm (Nd Tree)

/-- A list of lists of nodes. -/
def nl (Ls : List (List Nd)) (i : Nat) : List Nd := Ls.getD i []
/-- The value reads as the list of lists. -/
def NL (w : World) (v : Value) (Ls : List (List Nd)) : Prop :=
  ∃ b o c, v = .slice (some ⟨b, o, none⟩) Ls.length c ∧ Ls.length ≤ c ∧ c ≤ 9223372036854775807 ∧
    ∀ i, i < Ls.length → ∃ u, (∀ W, Grew w W → W.cell? ⟨b, o + i, none⟩ = some u) ∧ Nodes w u (nl Ls i)
theorem NL.grew {w w' : World} {v : Value} {Ls : List (List Nd)} (h : NL w v Ls) (hg : Grew w w') : NL w' v Ls := by
  obtain ⟨b, o, c, h1, h2, h3, h4⟩ := h
  refine ⟨b, o, c, h1, h2, h3, fun i hi => ?_⟩
  obtain ⟨u, k1, k2⟩ := h4 i hi
  exact ⟨u, fun W hW => k1 W (hg.trans hW), k2.grew hg⟩
theorem NL.one {w : World} {T : TypeId} {u : Value} {xs : List Nd} (h : Nodes w u xs) : NL (w.alloc (.cells #[u] T)) (.slice (some ⟨w.heap.size, 0, none⟩) 1 1) [xs] := by
  refine ⟨w.heap.size, 0, 1, rfl, Nat.le_refl _, by omega, fun i hi => ?_⟩
  obtain rfl : i = 0 := by simpa using hi
  exact ⟨u, fun W hW => (hW.cell (p := ⟨w.heap.size, 0 + 0, none⟩) (by simp)).trans (by simp), h.grew ((Grew.refl w).alloc _)⟩
theorem NL.two {w : World} {T : TypeId} {u u2 : Value} {xs ys : List Nd} (h : Nodes w u xs) (h2 : Nodes w u2 ys) : NL (w.alloc (.cells #[u, u2] T)) (.slice (some ⟨w.heap.size, 0, none⟩) 2 2) [xs, ys] := by
  refine ⟨w.heap.size, 0, 2, rfl, Nat.le_refl _, by omega, fun i hi => ?_⟩
  have hi2 : i < 2 := by simpa using hi
  match i, hi2 with
  | 0, _ => exact ⟨u, fun W hW => (hW.cell (p := ⟨w.heap.size, 0 + 0, none⟩) (by simp)).trans (by simp), h.grew ((Grew.refl w).alloc _)⟩
  | 1, _ => exact ⟨u2, fun W hW => (hW.cell (p := ⟨w.heap.size, 0 + 1, none⟩) (by simp)).trans (by simp), h2.grew ((Grew.refl w).alloc _)⟩

/-- None of the first k lists meets the predicate. -/
def NoneN (p : List Nd → Bool) (Ls : List (List Nd)) (k : Nat) : Prop := ∀ i, i < k → p (nl Ls i) = false
theorem NoneN.zero (p : List Nd → Bool) (Ls : List (List Nd)) : NoneN p Ls 0 := fun i hi => absurd hi (by omega)
theorem NoneN.succ {p : List Nd → Bool} {Ls : List (List Nd)} {k : Nat} (h : NoneN p Ls k) (h1 : p (nl Ls k) = false) : NoneN p Ls (k + 1) := by
  intro i hi
  rcases Nat.lt_or_ge i k with hk | hk
  · exact h i hk
  · obtain rfl : i = k := by omega
    exact h1
theorem nl_get {Ls : List (List Nd)} {i : Nat} (h : i < Ls.length) : Ls[i] = nl Ls i := by simp [nl, List.getD, h]
theorem noneN_any {p : List Nd → Bool} {Ls : List (List Nd)} (h : NoneN p Ls Ls.length) : Ls.any p = false := by
  rw [List.any_eq_false]
  intro x hx
  obtain ⟨i, hi, rfl⟩ := List.getElem_of_mem hx
  rw [nl_get hi, h i hi]
  simp
theorem anyN_at {p : List Nd → Bool} {Ls : List (List Nd)} {k : Nat} (hk : k < Ls.length) (h : p (nl Ls k) = true) : Ls.any p = true := by
  rw [List.any_eq_true]
  exact ⟨Ls[k], List.getElem_mem hk, by rw [nl_get hk]; exact h⟩
theorem noneN_of {p : List Nd → Bool} {Ls : List (List Nd)} (h : Ls.any p = false) {i : Nat} (hi : i < Ls.length) : p (nl Ls i) = false := by
  rw [List.any_eq_false] at h
  have := h _ (List.getElem_mem hi)
  rw [nl_get hi] at this
  simpa using this

theorem indexFuncN_c (v : Value) (Ls : List (List Nd)) (f : Nat) (p : List Nd → Bool) (w : World) (h : NL w v Ls)
    (hf : ∀ i, i < Ls.length → ∀ u W, Nodes W u (nl Ls i) → Calls Tryz.prog f #[u] W fun e W' => e = .returned (.bool (p (nl Ls i))) ∧ Grew W W') (eg : ∀ args w, (callFunc f args).run Tryz.prog w = .ok (.enter f args) w) :
    Calls Tryz.prog 71 #[v, .func (.func f) #[] #[]] w fun e w' => ∃ r : Int, e = .returned (.int .i64 r) ∧ Grew w w' ∧ decide (0 ≤ r) = Ls.any p := by
  obtain ⟨b, o, c, rfl, hc, hm, hcell⟩ := h
  obtain ⟨R, hR⟩ : ∃ R, R = Ls.any p := ⟨_, rfl⟩
  rw [← hR]
  have HA := Lib.hid (fun k hk h => hR.trans (@anyN_at p Ls k hk h))
  have HZ := Lib.hid (fun h => hR.trans (@noneN_any p Ls h))
  have HC := Lib.hid hcell
  have HF := Lib.hid hf
  clear hcell hf hR
  generalize hN : Ls.length = n at *
  clear hN
  go_enter Tryz.func71, Tryz.ntmps71
  go_wp2_with fail
  go_loopw [5, 8] (fun _ i wr => ∃ j : Nat, j ≤ n ∧ i = .int .i64 j ∧ Grew w wr ∧ Hid (NoneN p Ls j)) (fun _ i _ => n - (intOf i).toNat)
  case atStart => exact ⟨0, Nat.zero_le _, rfl, Grew.refl _, NoneN.zero _ _⟩
  case round =>
    obtain ⟨j, hj, rfl, hB, HJ⟩ := hrel
    by_cases hlt : j < n
    · obtain ⟨u, k0, hd⟩ := HC.out j hlt
      have k1 := k0 _ hB
      have hz := Lib.hid (fun W (hW : Grew w W) => HF.out j hlt u W (hd.grew hW))
      have hA := Lib.hid (HA.out j hlt)
      have hS := Lib.hid (fun h => HJ.out.succ (k := j) h)
      obtain ⟨A, c', rfl⟩ := nodes_slice hd
      clear k0 hd
      generalize nl Ls j = x at *
      go_wp2_with fail
      go_at_fn f
      refine (hz.out _ hB).mono ?_
      rintro e w1 ⟨rfl, hg1⟩
      have hB1 := hB.trans hg1
      cases hp : p x with
      | true =>
        have hv := hA.out hp
        go_wp2_with fail
        go_ret
        exact ⟨_, rfl, hB1, by rw [hv]; simp⟩
      | false =>
        have hs := Lib.hid (hS.out hp)
        go_wp2_with fail
        go_roundw
        case rel => exact ⟨j + 1, by omega, by go_num, hB1, hs⟩
        case measure => simp [intOf]; omega
    · obtain rfl : j = n := by omega
      have hv := Lib.hid (HZ.out HJ.out)
      go_wp2_with fail
      go_ret
      exact ⟨_, rfl, hB, by rw [hv.out]; rfl⟩

theorem containsFuncN_c (v : Value) (Ls : List (List Nd)) (f : Nat) (p : List Nd → Bool) (w : World) (h : NL w v Ls)
    (hf : ∀ i, i < Ls.length → ∀ u W, Nodes W u (nl Ls i) → Calls Tryz.prog f #[u] W fun e W' => e = .returned (.bool (p (nl Ls i))) ∧ Grew W W') (eg : ∀ args w, (callFunc f args).run Tryz.prog w = .ok (.enter f args) w) :
    Calls Tryz.prog 53 #[v, .func (.func f) #[] #[]] w fun e w' => e = .returned (.bool (Ls.any p)) ∧ Grew w w' := by
  have HI := Lib.hid (indexFuncN_c v Ls f p w h hf eg)
  clear h hf eg
  generalize Ls.any p = R at *
  go_enter Tryz.func53, Tryz.ntmps53
  go_wp2_with fail
  refine HI.out.mono ?_
  rintro e w1 ⟨r, rfl, hg1, hr⟩
  go_wp2_with fail
  go_ret
  exact ⟨by rw [← hr]; rfl, hg1⟩


noncomputable def badF (xs : List Nd) : Bool := !fmB xs
theorem badF_le {xs : List Nd} (h : badF xs = false) : 1 ≤ xs.length ∧ xs.length ≤ 40 := by
  unfold badF fmB at h
  simp only [Bool.not_eq_false', Bool.and_eq_true, decide_eq_true_eq] at h
  exact h.1.1
theorem areF1_c (u : Value) (xs : List Nd) (W : World) (h : Nodes W u xs) (hn : xs.length ≤ 1099511627776) : Calls Tryz.prog 54 #[u] W fun e W' => e = .returned (.bool (badF xs)) ∧ Grew W W' := by
  have K := Lib.hid (isFormula_g u xs W h hn)
  obtain ⟨A, c, rfl⟩ := nodes_slice h
  unfold badF
  clear h
  generalize fmB xs = d at *
  go_enter Tryz.func54, Tryz.ntmps54
  go_wp2_with fail
  refine (K.out).mono ?_
  rintro e w1 ⟨rfl, hg1⟩
  go_wp2_with fail
  go_ret
  exact ⟨rfl, hg1⟩
theorem areFormulas_c (v : Value) (Ls : List (List Nd)) (w : World) (h : NL w v Ls) (hf : ∀ i, i < Ls.length → (nl Ls i).length ≤ 1099511627776) :
    Calls Tryz.prog 40 #[v] w fun e w' => e = .returned (.bool (!Ls.any badF)) ∧ Grew w w' := by
  have e1 : ∀ args w, (callFunc 54 args).run Tryz.prog w = .ok (.enter 54 args) w := enters_of Tryz.func54 (by kernel_rfl) rfl
  have K1 := Lib.hid (containsFuncN_c v Ls 54 badF w h (fun i hi u W hu => areF1_c u _ W hu (hf i hi)) e1)
  clear h hf e1
  generalize Ls.any badF = R at *
  go_enter Tryz.func40, Tryz.ntmps40
  go_wp2_with fail
  refine (K1.out).mono ?_
  rintro e w1 ⟨rfl, hg1⟩
  go_wp2_with fail
  go_ret
  exact ⟨rfl, hg1⟩
end Go.Proofs.YtnbnhapepcegpaaGreatDoor

/- A sequent of texts: toModalSequent, eqModalSequent, IsModalSequent of both. -/
import Derived.Test.YtpbaiadaanpllaaModal
namespace Go.Proofs.Ytpbaiadaanpllaa
open Go.RowKit
open Fm (Nd)

/-- The call gives a sequent whose sides read as the lists. -/
def GivesM (w : World) (L1 L2 : List ByteArray) (e : Ending) (w' : World) : Prop := ∃ a b, e = .returned (.agg #[a, b]) ∧ Strs w' a L1 ∧ Strs w' b L2 ∧ Grew w w'

/-- The same, the sides rows of the call's own. -/
def GivesMO (w : World) (L1 L2 : List ByteArray) (e : Ending) (w' : World) : Prop := ∃ a b, e = .returned (.agg #[a, b]) ∧ OwnS w' w.heap.size a L1 ∧ OwnS w' w.heap.size b L2 ∧ (∀ g, a.ownBlock = some g → b.ownBlock ≠ some g) ∧ Grew w w'

theorem blk_3 (w : World) (o1 o2 o3 : Obj) : (((w.alloc o1).alloc o2).alloc o3).heap[w.heap.size + 1 + 1]? = some o3 := by
  have h := blk_new ((w.alloc o1).alloc o2) o3
  rwa [World.size_alloc, World.size_alloc] at h
theorem blk_2 (w : World) (o1 o2 o3 : Obj) : (((w.alloc o1).alloc o2).alloc o3).heap[w.heap.size + 1]? = some o2 := by
  have h := blk_new (w.alloc o1) o2
  rw [World.size_alloc] at h
  exact (((Grew.refl ((w.alloc o1).alloc o2)).alloc o3).block (by simp)).trans h

theorem blk_1 (w : World) (o1 o2 o3 : Obj) : (((w.alloc o1).alloc o2).alloc o3).heap[w.heap.size]? = some o1 :=
  ((((Grew.refl (w.alloc o1)).alloc o2).alloc o3).block (by simp)).trans (blk_new w o1)

theorem toModalSequent_o (v1 v2 : Value) (L1 L2 : List ByteArray) (w : World) (h1 : ArgS w v1 L1) (h2 : ArgS w v2 L2) (hn1 : L1.length ≤ 1048576) (hn2 : L2.length ≤ 1048576) :
    Calls Try.prog 19 #[.agg #[v1, v2]] w (GivesMO w L1 L2) := by
  have H1 := Lib.hid h1
  have H2 := Lib.hid h2
  clear h1 h2
  go_enter Try.func19, Try.ntmps19
  go_wp2_with fail
  refine (toStringS_c _ L1 _ (H1.out.grew ((((Grew.refl w).alloc _).alloc _).alloc _)) (by omega)).mono ?_
  rintro e w1 ⟨a1, rfl, ho1, hg1⟩
  have hb3 : w1.heap[w.heap.size + 1 + 1]? = some (.cells #[.slice none 0 0, .slice none 0 0] 33 (0, 0)) := (hg1.block (by simp)).trans (blk_3 _ _ _ _)
  have hb2 : w1.heap[w.heap.size + 1]? = some (.cells #[.slice none 0 0, .slice none 0 0] 33 (0, 0)) := (hg1.block (by simp)).trans (blk_2 _ _ _ _)
  have c10 : w1.cell? ⟨w.heap.size + 1 + 1, 0, none⟩ = some (.slice none 0 0) := by rw [blk_cell hb3]; rfl
  have f10 := blk_frozen hb3 0
  have hb1 : w1.heap[w.heap.size]? = some (.cells #[v1, v2] 30 (0, 0)) := (hg1.block (by simp; omega)).trans (blk_1 _ _ _ _)
  have c11 : w1.cell? ⟨w.heap.size, 1, none⟩ = some v2 := by rw [blk_cell hb1]; rfl
  have hgW : Grew w (w1.setCell ⟨w.heap.size + 1 + 1, 0, none⟩ a1) := (((Grew.of_alloc (Grew.of_alloc (Grew.of_alloc hg1)))).setCell (by show w.heap.size ≤ w.heap.size + 1 + 1; omega) _)
  have hG1 := hg1.size
  simp only [World.size_alloc] at hG1 ho1
  obtain ⟨A1, k1, rfl⟩ := strs_slice ho1.strs
  have HO1 := Lib.hid ho1
  have HB3 := Lib.hid hb3
  have HB2 := Lib.hid hb2
  clear ho1 hb3 hb2 hb1
  go_wp2_with fail
  refine (toStringS_c _ L2 _ (H2.out.grew hgW) (by omega)).mono ?_
  rintro e w2 ⟨a2, rfl, ho2, hg2⟩
  have hb4 := (hg2.block (by simp; omega)).trans (blk_set HB3.out 0 (.slice A1 L1.length k1))
  have hb5 := (hg2.block (k := w.heap.size + 1) (by simp; omega)).trans ((Below.heap_setCell _ _ _ _ (by simp)).trans HB2.out)
  have c20 : w2.cell? ⟨w.heap.size + 1 + 1, 0, none⟩ = some (.slice A1 L1.length k1) := by rw [blk_cell hb4]; rfl
  have c21 : w2.cell? ⟨w.heap.size + 1 + 1, 1, none⟩ = some (.slice none 0 0) := by rw [blk_cell hb4]; rfl
  have c22 : w2.cell? ⟨w.heap.size + 1, 0, none⟩ = some (.slice none 0 0) := by rw [blk_cell hb5]; rfl
  have c23 : w2.cell? ⟨w.heap.size + 1, 1, none⟩ = some (.slice none 0 0) := by rw [blk_cell hb5]; rfl
  have f21 := blk_frozen hb4 1
  have f22 := blk_frozen hb5 0
  have f23 := blk_frozen hb5 1
  have ho1' := own_grew (own_only HO1.out ((Only.refl (w.heap.size + 1 + 1) w1).setCell (o := 0) (.slice A1 L1.length k1)) (fun h => by have := own_of_ge HO1.out h; omega)) hg2
  have hG2 := hg2.size
  simp only [World.size_setCell] at hG2 ho2
  obtain ⟨A2, k2, rfl⟩ := strs_slice ho2.strs
  have HO1' := Lib.hid ho1'
  have HO2 := Lib.hid ho2
  have hgW2 := hgW.trans hg2
  have HB5 := Lib.hid hb5
  clear ho1' ho2 hb4 hb5
  go_wp2_with fail
  (try simp only [Exit.inBlock, Exit.then])
  have hinfo : (Try.prog.info? 33).map (·.size) = some 2 := by kernel_rfl
  have hb6 : (((w2.setCell ⟨w.heap.size + 1 + 1, 1, none⟩ (.slice A2 L2.length k2)).setCell ⟨w.heap.size + 1, 0, none⟩ (.slice A1 L1.length k1)).setCell ⟨w.heap.size + 1, 1, none⟩ (.slice A2 L2.length k2)).heap[w.heap.size + 1]? = some (.cells #[.slice A1 L1.length k1, .slice A2 L2.length k2] 33 (0, 0)) :=
    blk_set (blk_set ((Below.heap_setCell _ _ _ _ (by simp)).trans HB5.out) _ _) _ _
  refine bodyPost_ret (results_cell_row rfl _ _ (w.heap.size + 1) _ _ _ _ rfl hb6 Try.underlying33 rfl hinfo) rfl ?_
  have e1 := own_only (own_only HO1'.out ((Only.refl (w.heap.size + 1 + 1) w2).setCell (o := 1) (.slice A2 L2.length k2)) (fun h => by have := own_of_ge HO1'.out h; omega)) (((Only.refl (w.heap.size + 1) _).setCell (o := 0) (.slice A1 L1.length k1)).setCell (o := 1) (.slice A2 L2.length k2)) (fun h => by have := own_of_ge HO1'.out h; omega)
  have e2 := own_only (own_only HO2.out ((Only.refl (w.heap.size + 1 + 1) w2).setCell (o := 1) (.slice A2 L2.length k2)) (fun h => by have := own_of_ge HO2.out h; omega)) (((Only.refl (w.heap.size + 1) _).setCell (o := 0) (.slice A1 L1.length k1)).setCell (o := 1) (.slice A2 L2.length k2)) (fun h => by have := own_of_ge HO2.out h; omega)
  exact ⟨_, _, rfl, own_base e1 (by omega), own_base e2 (by omega), fun g hg hg' => by have h1 := (HO1.out.lt g hg).2; have h2 := (HO2.out.lt g hg').1; omega, ((hgW2.setCell (by show w.heap.size ≤ w.heap.size + 1 + 1; omega) _).setCell (by show w.heap.size ≤ w.heap.size + 1; omega) _).setCell (by show w.heap.size ≤ w.heap.size + 1; omega) _⟩

theorem toModalSequent_c (v1 v2 : Value) (L1 L2 : List ByteArray) (w : World) (h1 : ArgS w v1 L1) (h2 : ArgS w v2 L2) (hn1 : L1.length ≤ 1048576) (hn2 : L2.length ≤ 1048576) :
    Calls Try.prog 19 #[.agg #[v1, v2]] w (GivesM w L1 L2) :=
  (toModalSequent_o v1 v2 L1 L2 w h1 h2 hn1 hn2).mono fun _ _ ⟨a, b, e, h1, h2, _, hg⟩ => ⟨a, b, e, h1.strs, h2.strs, hg⟩

theorem eqModalSequent_yes (a1 b1 a2 b2 : Value) (L1 L2 : List ByteArray) (w : World) (h1 : Strs w a1 L1) (h2 : Strs w b1 L2) (h3 : Strs w a2 L1) (h4 : Strs w b2 L2) (hn1 : L1.length ≤ 1048576) (hn2 : L2.length ≤ 1048576) :
    Calls Try.prog 21 #[.agg #[a1, b1], .agg #[a2, b2]] w fun e w' => e = .returned (.bool true) ∧ Grew w w' := by
  have hG : ∀ o1 o2, Grew w ((w.alloc o1).alloc o2) := fun _ _ => ((Grew.refl w).alloc _).alloc _
  go_enter Try.func21, Try.ntmps21
  go_wp2_with fail
  refine (eqStringS_yes _ _ L1 _ (h1.grew (hG _ _)) (h3.grew (hG _ _)) (by omega)).mono ?_
  rintro e w1 ⟨rfl, hg1⟩
  have hc1 : w1.cell? ⟨w.heap.size, 1, none⟩ = some b1 := (hg1.cell (by simp; omega)).trans (by simp)
  have hc2 : w1.cell? ⟨w.heap.size + 1, 1, none⟩ = some b2 := (hg1.cell (by simp)).trans (by simp)
  have hg2 := (hG _ _).trans hg1
  go_wp2_with fail
  refine (eqStringS_yes _ _ L2 _ (h2.grew hg2) (h4.grew hg2) (by omega)).mono ?_
  rintro e w2 ⟨rfl, hg3⟩
  go_wp2_with fail
  go_ret
  exact ⟨rfl, hg2.trans hg3⟩

theorem l11Is_c (a b : Value) (L1 L2 : List ByteArray) (w : World) (h1 : Strs w a L1) (h2 : Strs w b L2) (f1 : Fits L1) (f2 : Fits L2) (hn1 : L1.length ≤ 1048576) (hn2 : L2.length ≤ 1048576) :
    Calls Try.prog 59 #[.agg #[a, b]] w fun e w' => e = .returned (.bool ((decide (L1.length ≤ 16) && asc L1) && (decide (L2.length ≤ 16) && asc L2))) ∧ Grew w w' := by
  have K1 := Lib.hid (fun W (hW : Grew w W) => l11Side_c a L1 W (h1.grew hW) f1 hn1)
  have K2 := Lib.hid (fun W (hW : Grew w W) => l11Side_c b L2 W (h2.grew hW) f2 hn2)
  clear h1 h2 f1 f2 hn1 hn2
  generalize (decide (L2.length ≤ 16) && asc L2) = r2 at *
  generalize (decide (L1.length ≤ 16) && asc L1) = r1 at *
  cases r1 with
  | false =>
    go_enter Try.func59, Try.ntmps59
    go_wp2_with fail
    refine (K1.out _ ((Grew.refl w).alloc _)).mono ?_
    rintro e w1 ⟨rfl, hg1⟩
    go_wp2_with fail
    go_ret
    exact ⟨rfl, Grew.of_alloc hg1⟩
  | true =>
    go_enter Try.func59, Try.ntmps59
    go_wp2_with fail
    refine (K1.out _ ((Grew.refl w).alloc _)).mono ?_
    rintro e w1 ⟨rfl, hg1⟩
    have hc1 : w1.cell? ⟨w.heap.size, 1, none⟩ = some b := (hg1.cell (by simp)).trans (by simp)
    go_wp2_with fail
    refine (K2.out _ (Grew.of_alloc hg1)).mono ?_
    rintro e w2 ⟨rfl, hg2⟩
    go_wp2_with fail
    go_ret
    exact ⟨by simp, Grew.of_alloc (hg1.trans hg2)⟩

theorem specIs_c (a b : Value) (L1 L2 : List ByteArray) (w : World) (h1 : Strs w a L1) (h2 : Strs w b L2) (f1 : Fits L1) (f2 : Fits L2) (hn1 : L1.length ≤ 1048576) (hn2 : L2.length ≤ 1048576) :
    Calls Try.prog 18 #[.agg #[a, b]] w fun e w' => e = .returned (.bool ((decide (L1.length ≤ 16) && asc L1) && (decide (L2.length ≤ 16) && asc L2))) ∧ Grew w w' := by
  have K1 := Lib.hid (fun W (hW : Grew w W) => l11Is_c a b L1 L2 W (h1.grew hW) (h2.grew hW) f1 f2 hn1 hn2)
  clear h1 h2 f1 f2 hn1 hn2
  generalize ((decide (L1.length ≤ 16) && asc L1) && (decide (L2.length ≤ 16) && asc L2)) = r at *
  go_enter Try.func18, Try.ntmps18
  go_wp2_with fail
  refine (K1.out _ ((Grew.refl w).alloc _)).mono ?_
  rintro e w1 ⟨rfl, hg1⟩
  go_wp2_with fail
  go_ret
  exact ⟨rfl, Grew.of_alloc hg1⟩

theorem isModalSequent_c (a b : Value) (L1 L2 : List ByteArray) (w : World) (h1 : Strs w a L1) (h2 : Strs w b L2) (f1 : Fits L1) (f2 : Fits L2) (hn1 : L1.length ≤ 1048576) (hn2 : L2.length ≤ 1048576) :
    Calls Try.prog 60 #[.agg #[a, b]] w fun e w' => e = .returned (.bool ((decide (L1.length ≤ 16) && asc L1) && (decide (L2.length ≤ 16) && asc L2))) ∧ Grew w w' := by
  have K1 := Lib.hid (fun W (hW : Grew w W) => isSide_c a L1 W (h1.grew hW) f1 hn1)
  have K2 := Lib.hid (fun W (hW : Grew w W) => isSide_c b L2 W (h2.grew hW) f2 hn2)
  obtain ⟨A1, c1, rfl⟩ := strs_slice h1
  obtain ⟨A2, c2, rfl⟩ := strs_slice h2
  clear h1 h2 f1 f2
  generalize asc L1 = r1 at *
  generalize asc L2 = r2 at *
  generalize L1.length = n1 at *
  generalize L2.length = n2 at *
  by_cases hb1 : n1 ≤ 16
  · by_cases hb2 : n2 ≤ 16
    · have hE : ((decide (n1 ≤ 16) && r1) && (decide (n2 ≤ 16) && r2)) = (r1 && r2) := by simp [hb1, hb2]
      rw [hE]
      clear hE
      cases r1 with
      | false =>
        go_enter Try.func60, Try.ntmps60
        go_wp2_with fail
        refine (K1.out _ ((Grew.refl w).alloc _)).mono ?_
        rintro e w1 ⟨rfl, hg1⟩
        go_wp2_with fail
        go_ret
        exact ⟨rfl, Grew.of_alloc hg1⟩
      | true =>
        go_enter Try.func60, Try.ntmps60
        go_wp2_with fail
        refine (K1.out _ ((Grew.refl w).alloc _)).mono ?_
        rintro e w1 ⟨rfl, hg1⟩
        have hc1 : w1.cell? ⟨w.heap.size, 1, none⟩ = some (.slice A2 n2 c2) := (hg1.cell (by simp)).trans (by simp)
        go_wp2_with fail
        refine (K2.out _ (Grew.of_alloc hg1)).mono ?_
        rintro e w2 ⟨rfl, hg2⟩
        go_wp2_with fail
        go_ret
        exact ⟨by simp, Grew.of_alloc (hg1.trans hg2)⟩
    · have hE : ((decide (n1 ≤ 16) && r1) && (decide (n2 ≤ 16) && r2)) = false := by simp [hb2]
      rw [hE]
      clear hE
      go_enter Try.func60, Try.ntmps60
      go_wp2_with fail
      go_ret
      exact ⟨rfl, (Grew.refl w).alloc _⟩
  · have hE : ((decide (n1 ≤ 16) && r1) && (decide (n2 ≤ 16) && r2)) = false := by simp [hb1]
    rw [hE]
    clear hE
    go_enter Try.func60, Try.ntmps60
    go_wp2_with fail
    go_ret
    exact ⟨rfl, (Grew.refl w).alloc _⟩

theorem implIs_c (a b : Value) (L1 L2 : List ByteArray) (w : World) (h1 : Strs w a L1) (h2 : Strs w b L2) (f1 : Fits L1) (f2 : Fits L2) (hn1 : L1.length ≤ 1048576) (hn2 : L2.length ≤ 1048576) :
    Calls Try.prog 20 #[.agg #[a, b]] w fun e w' => e = .returned (.bool ((decide (L1.length ≤ 16) && asc L1) && (decide (L2.length ≤ 16) && asc L2))) ∧ Grew w w' := by
  have K1 := Lib.hid (fun W (hW : Grew w W) => isModalSequent_c a b L1 L2 W (h1.grew hW) (h2.grew hW) f1 f2 hn1 hn2)
  clear h1 h2 f1 f2 hn1 hn2
  generalize ((decide (L1.length ≤ 16) && asc L1) && (decide (L2.length ≤ 16) && asc L2)) = r at *
  go_enter Try.func20, Try.ntmps20
  go_wp2_with fail
  refine (K1.out _ ((Grew.refl w).alloc _)).mono ?_
  rintro e w1 ⟨rfl, hg1⟩
  go_wp2_with fail
  go_ret
  exact ⟨rfl, Grew.of_alloc hg1⟩
end Go.Proofs.Ytpbaiadaanpllaa

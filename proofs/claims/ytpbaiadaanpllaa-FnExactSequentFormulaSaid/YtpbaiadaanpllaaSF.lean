/- SequentFormula of both. -/
import Derived.Test.YtpbaiadaanpllaaJoinAll
import Derived.Test.YtpbaiadaanpllaaModalB
namespace Go.Proofs.Ytpbaiadaanpllaa
open Go.RowKit
open Fm (Nd)

/-- Are the two sides a sequent? -/
noncomputable def isM (L1 L2 : List ByteArray) : Bool := (decide (L1.length ≤ 16) && asc L1) && (decide (L2.length ≤ 16) && asc L2)
/-- The sequent's formula. -/
def sfL (L1 L2 : List ByteArray) : List Nd := Fm.join 4 (allF 2 (lf L1)) (allF 3 (lf L2))
/-- What SequentFormula gives. -/
noncomputable def sfF (L1 L2 : List ByteArray) : List Nd × Int := if isM L1 L2 then lim (sfL L1 L2) else ([], 1)
def GivesC2 (w : World) (r : List Nd × Int) (e : Ending) (w' : World) : Prop := ∃ v, e = .returned (.tuple #[v, .int .i64 r.2]) ∧ Own w' w.heap.size v r.1 ∧ Grew w w'

theorem lf_flat (L : List ByteArray) (h : L.length ≤ 16) : (lf L).flatten.length ≤ 640 := by
  have : ∀ L : List ByteArray, (lf L).flatten.length ≤ L.length * 40 := by
    intro L
    induction L with
    | nil => simp [lf]
    | cons s L ih =>
      have := Fm.pf_len s
      simp only [lf, List.map_cons, List.flatten_cons, List.length_append, List.length_cons] at ih ⊢
      omega
  have := this L
  omega
theorem allF_len (k : Int) (L : List ByteArray) (h : L.length ≤ 16) : (allF k (lf L)).length ≤ 1000 := by
  unfold allF
  split
  · split <;> simp [Fm.truth, Fm.falsum]
  · rw [upto_length]
    have h1 := lf_flat L h
    have h2 := total_mono (L := lf L) (k := (lf L).length)
    have h3 := lf_length L
    omega
theorem isM_len {L1 L2 : List ByteArray} (h : isM L1 L2 = true) : L1.length ≤ 16 ∧ L2.length ≤ 16 := by
  simp only [isM, Bool.and_eq_true, decide_eq_true_eq] at h
  exact ⟨h.1.1, h.2.1⟩

theorem implSF_c (a b : Value) (L1 L2 : List ByteArray) (w : World) (h1 : Strs w a L1) (h2 : Strs w b L2) (f1 : Fits L1) (f2 : Fits L2) (hn1 : L1.length ≤ 1048576) (hn2 : L2.length ≤ 1048576) :
    Calls Try.prog 49 #[.agg #[a, b]] w (GivesC2 w (sfF L1 L2)) := by
  have HI := fun W (hW : Grew w W) => isModalSequent_c a b L1 L2 W (h1.grew hW) (h2.grew hW) f1 f2 hn1 hn2
  rw [show ((decide (L1.length ≤ 16) && asc L1) && (decide (L2.length ≤ 16) && asc L2)) = isM L1 L2 from rfl] at HI
  cases hM : isM L1 L2 with
  | false =>
    rw [hM] at HI
    have hE : sfF L1 L2 = ([], 1) := by unfold sfF; rw [hM]; rfl
    rw [hE]
    replace HI := Lib.hid HI
    clear h1 h2 hM hE f1 f2
    go_enter Try.func49, Try.ntmps49
    go_wp2_with fail
    refine (HI.out _ ((Grew.refl w).alloc _)).mono ?_
    rintro e w1 ⟨rfl, hg1⟩
    go_wp2_with fail
    go_ret2
    exact ⟨.slice none 0 0, rfl, Own.nil_ _ _, Grew.of_alloc hg1⟩
  | true =>
    rw [hM] at HI
    obtain ⟨l1, l2⟩ := isM_len hM
    have hE : sfF L1 L2 = lim (sfL L1 L2) := by unfold sfF; rw [hM]; rfl
    rw [hE]
    replace HI := Lib.hid HI
    have K1 := Lib.hid (fun W (hW : Grew w W) => formulasOf_c a L1 W (h1.grew hW) f1 hn1)
    have K2 := Lib.hid (fun W (hW : Grew w W) => formulasOf_c b L2 W (h2.grew hW) f2 hn2)
    have J1 := Lib.hid (fun v W h => joinAll_c 2 v (lf L1) W h (by rw [lf_length]; omega) (by have := lf_flat L1 l1; omega))
    have J2 := Lib.hid (fun v W h => joinAll_c 3 v (lf L2) W h (by rw [lf_length]; omega) (by have := lf_flat L2 l2; omega))
    have A1 := allF_len 2 L1 l1
    have A2 := allF_len 3 L2 l2
    obtain ⟨R, hR⟩ : ∃ R, R = lim (sfL L1 L2) := ⟨_, rfl⟩
    rw [← hR]
    unfold sfL at hR
    have HR := Lib.hid hR
    clear hR
    clear h1 h2 hM hE f1 f2
    generalize allF 2 (lf L1) = X1 at *
    generalize allF 3 (lf L2) = X2 at *
    go_enter Try.func49, Try.ntmps49
    go_wp2_with fail
    refine (HI.out _ ((Grew.refl w).alloc _)).mono ?_
    rintro e w1 ⟨rfl, hg1⟩
    have hgw := Grew.of_alloc hg1
    have c0 : ∀ W, Grew w1 W → W.cell? ⟨w.heap.size, 0, none⟩ = some a := fun W hW => ((hg1.trans hW).cell (by simp)).trans (by simp)
    have c1 : ∀ W, Grew w1 W → W.cell? ⟨w.heap.size, 1, none⟩ = some b := fun W hW => ((hg1.trans hW).cell (by simp)).trans (by simp)
    have hr1 := Grew.refl w1
    have hd1 := (Grew.refl w1).drew
    clear hg1
    go_wp2_with fail
    go_region_held3 (fun w' => Grew w1 w') (with_reducible assumption)
      (first
        | (go_at_call 93; refine (K2.out _ (hgw.trans ((hd1.trans hg2).trans hg3))).mono ?_; rintro e w4 ⟨q3, rfl, hl4, hg4⟩; have hk4 := ((hd1.trans hg2).trans hg3).trans hg4)
        | (go_at_call 92; refine (J2.out _ _ hl4).mono ?_; rintro e w5 ⟨q4, rfl, ho5, hg5⟩; have hk5 := (((hd1.trans hg2).trans hg3).trans hg4).trans hg5)
        | (go_at_call 93; refine (K1.out _ (hgw.trans hd1)).mono ?_; rintro e w2 ⟨q1, rfl, hl1, hg2⟩; have hk2 : Grew w1 w2 := hd1.trans hg2)
        | (go_at_call 92; refine (J1.out _ _ hl1).mono ?_; rintro e w3 ⟨q2, rfl, ho3, hg3⟩; have hk3 := (hd1.trans hg2).trans hg3)
        | (go_at_call 91; refine (join_c 4 _ _ X1 X2 _ ((ho3.grew hg4).grew hg5).nodes ho5.nodes (by omega)).mono ?_; rintro e w6 ⟨q5, rfl, ho6, hg6⟩; have hk6 := ((((hd1.trans hg2).trans hg3).trans hg4).trans hg5).trans hg6)
        | (go_at_call 90; refine (limited_c _ _ _ _ ho6).mono ?_; rintro e w7 ⟨q6, rfl, ho7, hg7⟩; have hk7 := (((((hd1.trans hg2).trans hg3).trans hg4).trans hg5).trans hg6).trans hg7))
    go_wp2_with fail
    go_ret2
    exact ⟨q6, by rw [HR.out]; rfl, by rw [HR.out]; exact ho7.base (hgw.trans hk5).size, (hgw.trans hk6).trans hg7⟩
theorem specSF_c (a b : Value) (L1 L2 : List ByteArray) (w : World) (h1 : Strs w a L1) (h2 : Strs w b L2) (f1 : Fits L1) (f2 : Fits L2) (hn1 : L1.length ≤ 1048576) (hn2 : L2.length ≤ 1048576) :
    Calls Try.prog 48 #[.agg #[a, b]] w (GivesC2 w (sfF L1 L2)) := by
  have HI := fun W (hW : Grew w W) => l11Is_c a b L1 L2 W (h1.grew hW) (h2.grew hW) f1 f2 hn1 hn2
  rw [show ((decide (L1.length ≤ 16) && asc L1) && (decide (L2.length ≤ 16) && asc L2)) = isM L1 L2 from rfl] at HI
  cases hM : isM L1 L2 with
  | false =>
    rw [hM] at HI
    have hE : sfF L1 L2 = ([], 1) := by unfold sfF; rw [hM]; rfl
    rw [hE]
    replace HI := Lib.hid HI
    clear h1 h2 hM hE f1 f2
    go_enter Try.func48, Try.ntmps48
    go_wp2_with fail
    refine (HI.out _ ((Grew.refl w).alloc _)).mono ?_
    rintro e w1 ⟨rfl, hg1⟩
    go_wp2_with fail
    go_ret2
    exact ⟨.slice none 0 0, rfl, Own.nil_ _ _, Grew.of_alloc hg1⟩
  | true =>
    rw [hM] at HI
    obtain ⟨l1, l2⟩ := isM_len hM
    have hE : sfF L1 L2 = lim (sfL L1 L2) := by unfold sfF; rw [hM]; rfl
    rw [hE]
    replace HI := Lib.hid HI
    have K1 := Lib.hid (fun W (hW : Grew w W) => l11Read_c a L1 W (h1.grew hW) f1 hn1)
    have K2 := Lib.hid (fun W (hW : Grew w W) => l11Read_c b L2 W (h2.grew hW) f2 hn2)
    have J1 := Lib.hid (fun v W h => l02All_c 2 v (lf L1) W h (by rw [lf_length]; omega) (by have := lf_flat L1 l1; omega))
    have J2 := Lib.hid (fun v W h => l02All_c 3 v (lf L2) W h (by rw [lf_length]; omega) (by have := lf_flat L2 l2; omega))
    have A1 := allF_len 2 L1 l1
    have A2 := allF_len 3 L2 l2
    obtain ⟨R, hR⟩ : ∃ R, R = lim (sfL L1 L2) := ⟨_, rfl⟩
    rw [← hR]
    unfold sfL at hR
    have HR := Lib.hid hR
    clear hR
    clear h1 h2 hM hE f1 f2
    generalize allF 2 (lf L1) = X1 at *
    generalize allF 3 (lf L2) = X2 at *
    go_enter Try.func48, Try.ntmps48
    go_wp2_with fail
    refine (HI.out _ ((Grew.refl w).alloc _)).mono ?_
    rintro e w1 ⟨rfl, hg1⟩
    have hgw := Grew.of_alloc hg1
    have c0 : ∀ W, Grew w1 W → W.cell? ⟨w.heap.size, 0, none⟩ = some a := fun W hW => ((hg1.trans hW).cell (by simp)).trans (by simp)
    have c1 : ∀ W, Grew w1 W → W.cell? ⟨w.heap.size, 1, none⟩ = some b := fun W hW => ((hg1.trans hW).cell (by simp)).trans (by simp)
    have hr1 := Grew.refl w1
    have hd1 := (Grew.refl w1).drew
    clear hg1
    go_wp2_with fail
    go_region_held3 (fun w' => Grew w1 w') (with_reducible assumption)
      (first
        | (go_at_call 89; refine (K2.out _ (hgw.trans ((hd1.trans hg2).trans hg3))).mono ?_; rintro e w4 ⟨q3, rfl, hl4, hg4⟩; have hk4 := ((hd1.trans hg2).trans hg3).trans hg4)
        | (go_at_call 88; refine (J2.out _ _ hl4).mono ?_; rintro e w5 ⟨q4, rfl, ho5, hg5⟩; have hk5 := (((hd1.trans hg2).trans hg3).trans hg4).trans hg5)
        | (go_at_call 89; refine (K1.out _ (hgw.trans hd1)).mono ?_; rintro e w2 ⟨q1, rfl, hl1, hg2⟩; have hk2 : Grew w1 w2 := hd1.trans hg2)
        | (go_at_call 88; refine (J1.out _ _ hl1).mono ?_; rintro e w3 ⟨q2, rfl, ho3, hg3⟩; have hk3 := (hd1.trans hg2).trans hg3)
        | (go_at_call 87; refine (l02Pair_c 4 _ _ X1 X2 _ ((ho3.grew hg4).grew hg5).nodes ho5.nodes (by omega)).mono ?_; rintro e w6 ⟨q5, rfl, ho6, hg6⟩; have hk6 := ((((hd1.trans hg2).trans hg3).trans hg4).trans hg5).trans hg6)
        | (go_at_call 86; refine (l02Made_c _ _ _ _ ho6).mono ?_; rintro e w7 ⟨q6, rfl, ho7, hg7⟩; have hk7 := (((((hd1.trans hg2).trans hg3).trans hg4).trans hg5).trans hg6).trans hg7))
    go_wp2_with fail
    go_ret2
    exact ⟨q6, by rw [HR.out]; rfl, by rw [HR.out]; exact ho7.base (hgw.trans hk5).size, (hgw.trans hk6).trans hg7⟩
end Go.Proofs.Ytpbaiadaanpllaa

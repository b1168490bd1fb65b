/- InsertNumber of both. -/
import Derived.Test.YthofkdpmgjkgkaaTmRaise
import Derived.Test.YthofkdpmgjkgkaaTmLim
import Derived.Test.YthofkdpmgjkgkaaTmFits2
namespace Go.Proofs.Ythofkdpmgjkgkaa
open Go.RowKit
open Tr (Tm)

theorem tnB_num0 {k n : Int} {s : ByteArray} (h : tnB k n s = true) : 0 ≤ n ∧ n ≤ 99 := by
  by_cases hn : 0 ≤ n ∧ n ≤ 99
  · exact hn
  · rw [tnB_range hn] at h; cases h
theorem tm_nodes {xs : List Tn} (h : tmB xs = true) (i : Nat) (hi : i < xs.length) : tnB (tk xs i) (tn xs i) (tt xs i) = true := by
  unfold tmB at h
  simp only [Bool.and_eq_true, Bool.not_eq_true'] at h
  have := anyT_none h.1.2 hi
  simpa [noTn] using this
theorem tm_numOk {xs : List Tn} (h : tmB xs = true) : NumOk xs := fun i hi => by
  have := tnB_num0 (tm_nodes h i hi)
  omega
theorem raise_fits {k d : Int} {xs : List Tn} (h : FitsT xs) : FitsT (raiseL k d xs) := fun i hi => by
  rw [raiseL_length] at hi
  rw [raise_tt hi]
  exact h i hi
def GivesT2 (w : World) (r : List Tn × Int) (e : Ending) (w' : World) : Prop := ∃ v, e = .returned (.tuple #[v, .int .i64 r.2]) ∧ OwnT w' w.heap.size v r.1 ∧ Grew w w'

/-- What InsertNumber gives. -/
noncomputable def insF (xs : List Tn) (n k : Int) : List Tn × Int := if tmB xs then (if (0 ≤ n ∧ n ≤ 12) ∧ (0 ≤ k ∧ k ≤ n) then (if Tr.evN ltP (tmT xs) n then limT (raiseL k 1 xs) else ([], 5)) else ([], 2)) else ([], 1)
theorem insF_len (xs : List Tn) (n k : Int) : (insF xs n k).1.length ≤ 1048576 := by
  unfold insF
  split
  · split
    · split
      · have := limT_len (xs := raiseL k 1 xs); omega
      · simp
    · simp
  · simp

theorem implIns_c (v : Value) (xs : List Tn) (n k : Int) (w : World) (h : Tms w v xs) (hfit : FitsT xs) (hn : xs.length ≤ 1048576) :
    Calls Try.prog 16 #[v, .int .i64 n, .int .i64 k] w (GivesT2 w (insF xs n k)) := by
  unfold GivesT2 insF
  have HI := fun W (hW : Grew w W) => isTerm_c v xs W (h.grew hW) hfit hn
  cases hb : tmB xs with
  | false =>
    rw [hb] at HI
    rw [if_neg (by simp)]
    replace HI := Lib.hid HI
    clear h hfit hb
    go_enter Try.func16, Try.ntmps16
    go_wp2_with fail
    refine (HI.out _ (Grew.refl _)).mono ?_
    rintro e w1 ⟨rfl, hg1⟩
    go_wp2_with fail
    go_ret2
    exact ⟨.slice none 0 0, rfl, OwnT.nil_ _ _, hg1⟩
  | true =>
    rw [hb] at HI
    rw [if_pos rfl]
    replace HI := Lib.hid HI
    have HR1 := fun w => inRange_c n 0 12 w
    have HR2 := fun w => inRange_c k 0 n w
    by_cases hr1 : 0 ≤ n ∧ n ≤ 12
    · rw [decide_eq_true hr1] at HR1
      replace HR1 := Lib.hid HR1
      by_cases hr2 : 0 ≤ k ∧ k ≤ n
      · rw [decide_eq_true hr2] at HR2
        replace HR2 := Lib.hid HR2
        rw [if_pos ⟨hr1, hr2⟩]
        obtain ⟨t1, t2, t3⟩ := tmT_ok hb
        have HF := fun W (hW : Grew w W) => fitsContext_c v (tmT xs) n W (by rw [t2]; exact h.grew hW) t1 (by rw [t2]; omega) hr1.1 (by rw [t2]; omega)
        have HRA := Lib.hid (fun W (hW : Grew w W) => raised_c v xs k 1 W (h.grew hW) hn (tm_numOk hb) (by omega) (by omega))
        have HL := Lib.hid (fun u W B (ho : OwnT W B u (raiseL k 1 xs)) => by
          have hl := limitedTerm_c u _ W B ho (raise_fits hfit) (by rw [raiseL_length]; omega)
          unfold LimG at hl
          exact hl)
        clear hb t1 t2 t3 h hfit hr1 hr2
        generalize limT (raiseL k 1 xs) = rr at *
        cases hq : Tr.evN ltP (tmT xs) n with
        | true =>
          rw [hq] at HF
          rw [if_pos rfl]
          replace HF := Lib.hid HF
          clear hq
          go_enter Try.func16, Try.ntmps16
          go_wp2_with fail
          refine (HI.out _ (Grew.refl _)).mono ?_
          rintro e w1 ⟨rfl, hg1⟩
          go_wp2_with fail
          refine (HR1.out _).mono ?_
          rintro e w2 ⟨rfl, hg2⟩
          go_wp2_with fail
          refine (HR2.out _).mono ?_
          rintro e w3 ⟨rfl, hg3⟩
          have hk3 := (hg1.trans hg2).trans hg3
          go_wp2_with fail
          refine (HF.out _ hk3).mono ?_
          rintro e w4 ⟨rfl, hg4⟩
          have hk4 := hk3.trans hg4
          go_wp2_with fail
          refine (HRA.out _ hk4).mono ?_
          rintro e w5 ⟨u, rfl, ho, hg5⟩
          have hk5 := hk4.trans hg5
          go_wp2_with fail
          refine (HL.out _ _ _ ho).mono ?_
          rintro e w6 ⟨q, rfl, hoq, hg6⟩
          go_wp2_with fail
          go_ret2
          exact ⟨_, rfl, hoq.base hk4.size, hk5.trans hg6⟩
        | false =>
          rw [hq] at HF
          rw [if_neg (by simp)]
          replace HF := Lib.hid HF
          clear hq
          go_enter Try.func16, Try.ntmps16
          go_wp2_with fail
          refine (HI.out _ (Grew.refl _)).mono ?_
          rintro e w1 ⟨rfl, hg1⟩
          go_wp2_with fail
          refine (HR1.out _).mono ?_
          rintro e w2 ⟨rfl, hg2⟩
          go_wp2_with fail
          refine (HR2.out _).mono ?_
          rintro e w3 ⟨rfl, hg3⟩
          have hk3 := (hg1.trans hg2).trans hg3
          go_wp2_with fail
          refine (HF.out _ hk3).mono ?_
          rintro e w4 ⟨rfl, hg4⟩
          go_wp2_with fail
          go_ret2
          exact ⟨.slice none 0 0, rfl, OwnT.nil_ _ _, hk3.trans hg4⟩
      · rw [decide_eq_false hr2] at HR2
        replace HR2 := Lib.hid HR2
        rw [if_neg (fun h => hr2 h.2)]
        clear h hfit hb hr1 hr2
        go_enter Try.func16, Try.ntmps16
        go_wp2_with fail
        refine (HI.out _ (Grew.refl _)).mono ?_
        rintro e w1 ⟨rfl, hg1⟩
        go_wp2_with fail
        refine (HR1.out _).mono ?_
        rintro e w2 ⟨rfl, hg2⟩
        go_wp2_with fail
        refine (HR2.out _).mono ?_
        rintro e w3 ⟨rfl, hg3⟩
        go_wp2_with fail
        go_ret2
        exact ⟨.slice none 0 0, rfl, OwnT.nil_ _ _, (hg1.trans hg2).trans hg3⟩
    · rw [decide_eq_false hr1] at HR1
      replace HR1 := Lib.hid HR1
      rw [if_neg (fun h => hr1 h.1)]
      clear h hfit hb hr1
      go_enter Try.func16, Try.ntmps16
      go_wp2_with fail
      refine (HI.out _ (Grew.refl _)).mono ?_
      rintro e w1 ⟨rfl, hg1⟩
      go_wp2_with fail
      refine (HR1.out _).mono ?_
      rintro e w2 ⟨rfl, hg2⟩
      go_wp2_with fail
      go_ret2
      exact ⟨.slice none 0 0, rfl, OwnT.nil_ _ _, hg1.trans hg2⟩

theorem specIns_c (v : Value) (xs : List Tn) (n k : Int) (w : World) (h : Tms w v xs) (hfit : FitsT xs) (hn : xs.length ≤ 1048576) :
    Calls Try.prog 15 #[v, .int .i64 n, .int .i64 k] w (GivesT2 w (insF xs n k)) := by
  unfold GivesT2 insF
  have HI := fun W (hW : Grew w W) => l26Is_c v xs W (h.grew hW) hfit hn
  cases hb : tmB xs with
  | false =>
    rw [hb] at HI
    rw [if_neg (by simp)]
    replace HI := Lib.hid HI
    clear h hfit hb
    go_enter Try.func15, Try.ntmps15
    go_wp2_with fail
    refine (HI.out _ (Grew.refl _)).mono ?_
    rintro e w1 ⟨rfl, hg1⟩
    go_wp2_with fail
    go_ret2
    exact ⟨.slice none 0 0, rfl, OwnT.nil_ _ _, hg1⟩
  | true =>
    rw [hb] at HI
    rw [if_pos rfl]
    replace HI := Lib.hid HI
    have HR1 := fun w => l01In_c n 0 12 w
    have HR2 := fun w => l01In_c k 0 n w
    by_cases hr1 : 0 ≤ n ∧ n ≤ 12
    · rw [decide_eq_true hr1] at HR1
      replace HR1 := Lib.hid HR1
      by_cases hr2 : 0 ≤ k ∧ k ≤ n
      · rw [decide_eq_true hr2] at HR2
        replace HR2 := Lib.hid HR2
        rw [if_pos ⟨hr1, hr2⟩]
        obtain ⟨t1, t2, t3⟩ := tmT_ok hb
        have HF := fun W (hW : Grew w W) => l26Fits_c (tmT xs) t1 v n W (by rw [t2]; exact h.grew hW) (by rw [t2]; omega) hr1.1 (by rw [t2]; omega)
        have HRA := Lib.hid (fun W (hW : Grew w W) => l26Shift_c v xs k 1 W (h.grew hW) hn (tm_numOk hb) (by omega) (by omega))
        have HL := Lib.hid (fun u W B (ho : OwnT W B u (raiseL k 1 xs)) => by
          have hl := l26Made_c u _ W B ho (by rw [raiseL_length]; omega)
          unfold LimG at hl
          exact hl)
        clear hb t1 t2 t3 h hfit hr1 hr2
        generalize limT (raiseL k 1 xs) = rr at *
        cases hq : Tr.evN ltP (tmT xs) n with
        | true =>
          rw [hq] at HF
          rw [if_pos rfl]
          replace HF := Lib.hid HF
          clear hq
          go_enter Try.func15, Try.ntmps15
          go_wp2_with fail
          refine (HI.out _ (Grew.refl _)).mono ?_
          rintro e w1 ⟨rfl, hg1⟩
          go_wp2_with fail
          refine (HR1.out _).mono ?_
          rintro e w2 ⟨rfl, hg2⟩
          go_wp2_with fail
          refine (HR2.out _).mono ?_
          rintro e w3 ⟨rfl, hg3⟩
          have hk3 := (hg1.trans hg2).trans hg3
          go_wp2_with fail
          refine (HF.out _ hk3).mono ?_
          rintro e w4 ⟨rfl, hg4⟩
          have hk4 := hk3.trans hg4
          go_wp2_with fail
          refine (HRA.out _ hk4).mono ?_
          rintro e w5 ⟨u, rfl, ho, hg5⟩
          have hk5 := hk4.trans hg5
          go_wp2_with fail
          refine (HL.out _ _ _ ho).mono ?_
          rintro e w6 ⟨q, rfl, hoq, hg6⟩
          go_wp2_with fail
          go_ret2
          exact ⟨_, rfl, hoq.base hk4.size, hk5.trans hg6⟩
        | false =>
          rw [hq] at HF
          rw [if_neg (by simp)]
          replace HF := Lib.hid HF
          clear hq
          go_enter Try.func15, Try.ntmps15
          go_wp2_with fail
          refine (HI.out _ (Grew.refl _)).mono ?_
          rintro e w1 ⟨rfl, hg1⟩
          go_wp2_with fail
          refine (HR1.out _).mono ?_
          rintro e w2 ⟨rfl, hg2⟩
          go_wp2_with fail
          refine (HR2.out _).mono ?_
          rintro e w3 ⟨rfl, hg3⟩
          have hk3 := (hg1.trans hg2).trans hg3
          go_wp2_with fail
          refine (HF.out _ hk3).mono ?_
          rintro e w4 ⟨rfl, hg4⟩
          go_wp2_with fail
          go_ret2
          exact ⟨.slice none 0 0, rfl, OwnT.nil_ _ _, hk3.trans hg4⟩
      · rw [decide_eq_false hr2] at HR2
        replace HR2 := Lib.hid HR2
        rw [if_neg (fun h => hr2 h.2)]
        clear h hfit hb hr1 hr2
        go_enter Try.func15, Try.ntmps15
        go_wp2_with fail
        refine (HI.out _ (Grew.refl _)).mono ?_
        rintro e w1 ⟨rfl, hg1⟩
        go_wp2_with fail
        refine (HR1.out _).mono ?_
        rintro e w2 ⟨rfl, hg2⟩
        go_wp2_with fail
        refine (HR2.out _).mono ?_
        rintro e w3 ⟨rfl, hg3⟩
        go_wp2_with fail
        go_ret2
        exact ⟨.slice none 0 0, rfl, OwnT.nil_ _ _, (hg1.trans hg2).trans hg3⟩
    · rw [decide_eq_false hr1] at HR1
      replace HR1 := Lib.hid HR1
      rw [if_neg (fun h => hr1 h.1)]
      clear h hfit hb hr1
      go_enter Try.func15, Try.ntmps15
      go_wp2_with fail
      refine (HI.out _ (Grew.refl _)).mono ?_
      rintro e w1 ⟨rfl, hg1⟩
      go_wp2_with fail
      refine (HR1.out _).mono ?_
      rintro e w2 ⟨rfl, hg2⟩
      go_wp2_with fail
      go_ret2
      exact ⟨.slice none 0 0, rfl, OwnT.nil_ _ _, hg1.trans hg2⟩
end Go.Proofs.Ythofkdpmgjkgkaa

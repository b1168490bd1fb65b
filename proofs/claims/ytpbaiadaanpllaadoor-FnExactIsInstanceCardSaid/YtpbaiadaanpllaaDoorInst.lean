/- IsInstance of both, and the law FnExactIsInstance, walked. -/
import Derived.Test.YtpbaiadaanpllaaDoorMatchP
import Derived.Test.YtpbaiadaanpllaaDoorMatchS
import Derived.Test.YtpbaiadaanpllaaDoorFmTree
import Derived.Test.YtpbaiadaanpllaaDoorIsS
import Derived.Test.YtpbaiadaanpllaaDoorScheme
import Derived.Test.YtpbaiadaanpllaaDoorNdLaw
namespace Go.Proofs.YtpbaiadaanpllaaDoor
open Go.RowKit
open Fm (Nd Tree)

/-- Does the scheme match the formula? -/
def instB (k : Nat) (xs : List Nd) : Bool := mrun xs (Fm.enc (schTree k)) 0 (fun _ => [])
/-- What IsInstance gives. -/
noncomputable def instF (k : Int) (xs : List Nd) : Bool × Int := if 0 ≤ k ∧ k ≤ 18 then (if fmB xs then (instB k.toNat xs, 0) else (false, 1)) else (false, 2)
theorem instF_out {k : Int} (h : ¬ (0 ≤ k ∧ k ≤ 18)) (xs : List Nd) : instF k xs = (false, 2) := by rw [instF, if_neg h]
theorem instF_bad {k : Int} (h : 0 ≤ k ∧ k ≤ 18) {xs : List Nd} (hf : fmB xs = false) : instF k xs = (false, 1) := by rw [instF, if_pos h, hf]; rfl
theorem instF_in {k : Nat} (h : k < 19) {xs : List Nd} (hf : fmB xs = true) : instF (k : Int) xs = (instB k xs, 0) := by
  rw [instF, if_pos (by omega), hf]; rfl
def GivesBI (r : Bool × Int) (w : World) (e : Ending) (w' : World) : Prop := e = .returned (.tuple #[.bool r.1, .int .i64 r.2]) ∧ Grew w w'

theorem isInstance_c (k : Nat) (v : Value) (t : Tree) (w : World) (hk : k < 19) (hX : TabAt w 2 schTexts) (h : Nodes w v (Fm.enc t)) (hn : (Fm.enc t).length ≤ 40) :
    Calls Tryd.prog 31 #[.int .i64 k, v] w fun e w' => e = .returned (.bool (instB k (Fm.enc t))) ∧ Grew w w' := by
  have hl := schTree_len hk
  have HS := Lib.hid (scheme_c k w hk hX)
  have HM := Lib.hid (fun W u (hW : Grew w W) (hu : Nodes W u (Fm.enc (schTree k))) => match_c u v (schTree k) t W hu (h.grew hW) (by omega) (by omega))
  unfold instB
  generalize mrun (Fm.enc t) (Fm.enc (schTree k)) 0 (fun _ => []) = R at *
  generalize Fm.enc (schTree k) = a at *
  clear h hX
  go_enter Tryd.func31, Tryd.ntmps31
  go_wp2_with fail
  refine HS.out.mono ?_
  rintro e w1 ⟨u, rfl, ho1, hg1⟩
  go_wp2_with fail
  refine (HM.out _ _ hg1 ho1.nodes).mono ?_
  rintro e w2 ⟨q, rfl, hg2⟩
  go_wp2_with fail
  go_ret
  exact ⟨rfl, hg1.trans hg2⟩
theorem l13Instance_c (k : Nat) (v : Value) (t : Tree) (w : World) (hk : k < 19) (h : Nodes w v (Fm.enc t)) (hn : (Fm.enc t).length ≤ 40) :
    Calls Tryd.prog 28 #[.int .i64 k, v] w fun e w' => e = .returned (.bool (instB k (Fm.enc t))) ∧ Grew w w' := by
  have hl := schTree_len hk
  have HS := Lib.hid (l13Scheme_c k w hk)
  have HM := Lib.hid (fun W u (hW : Grew w W) (hu : Nodes W u (Fm.enc (schTree k))) => l03Match_c u v (schTree k) t W hu (h.grew hW) (by omega) (by omega))
  unfold instB
  generalize mrun (Fm.enc t) (Fm.enc (schTree k)) 0 (fun _ => []) = R at *
  generalize Fm.enc (schTree k) = a at *
  clear h
  go_enter Tryd.func28, Tryd.ntmps28
  go_wp2_with fail
  refine HS.out.mono ?_
  rintro e w1 ⟨u, rfl, ho1, hg1⟩
  go_wp2_with fail
  refine (HM.out _ _ hg1 ho1.nodes).mono ?_
  rintro e w2 ⟨q, rfl, hg2⟩
  go_wp2_with fail
  go_ret
  exact ⟨rfl, hg1.trans hg2⟩

theorem implInst_c (k : Int) (v : Value) (xs : List Nd) (w : World) (hX : TabAt w 2 schTexts) (h : Nodes w v xs) (hn : xs.length ≤ 1099511627776) :
    Calls Tryd.prog 16 #[.int .i64 k, v] w (GivesBI (instF k xs) w) := by
  unfold GivesBI
  by_cases hin : 0 ≤ k ∧ k ≤ 18
  · obtain ⟨j, rfl⟩ : ∃ j : Nat, k = (j : Int) := ⟨k.toNat, by omega⟩
    have hj : j < 19 := by omega
    have HR := fun w => inRange_c (j : Int) 0 18 w
    rw [show decide ((0 : Int) ≤ j ∧ (j : Int) ≤ 18) = true from by simp; omega] at HR
    replace HR := Lib.hid HR
    have HF := fun W (hW : Grew w W) => isFormula_g v xs W (h.grew hW) hn
    cases hf : fmB xs with
    | false =>
      rw [instF_bad (by omega) hf]
      rw [hf] at HF
      replace HF := Lib.hid HF
      clear hin hX hf h
      go_enter Tryd.func16, Tryd.ntmps16
      go_wp2_with fail
      refine (HR.out _).mono ?_
      rintro e w1 ⟨rfl, hg1⟩
      go_wp2_with fail
      refine (HF.out _ hg1).mono ?_
      rintro e w2 ⟨rfl, hg2⟩
      go_wp2_with fail
      go_ret2
      exact ⟨rfl, hg1.trans hg2⟩
    | true =>
      rw [instF_in hj hf]
      rw [hf] at HF
      replace HF := Lib.hid HF
      obtain ⟨t, rfl, hl⟩ := fmB_tree hf
      have HI := Lib.hid (fun W (hW : Grew w W) => isInstance_c j v t W hj (hX.grew hW) (h.grew hW) hl)
      generalize instB j (Fm.enc t) = R at *
      clear hin hX hf h
      go_enter Tryd.func16, Tryd.ntmps16
      go_wp2_with fail
      refine (HR.out _).mono ?_
      rintro e w1 ⟨rfl, hg1⟩
      go_wp2_with fail
      refine (HF.out _ hg1).mono ?_
      rintro e w2 ⟨rfl, hg2⟩
      go_wp2_with fail
      refine (HI.out _ (hg1.trans hg2)).mono ?_
      rintro e w3 ⟨rfl, hg3⟩
      go_wp2_with fail
      go_ret2
      exact ⟨rfl, (hg1.trans hg2).trans hg3⟩
  · rw [instF_out hin]
    have HR := fun w => inRange_c k 0 18 w
    rw [decide_eq_false hin] at HR
    replace HR := Lib.hid HR
    clear hin hX h
    go_enter Tryd.func16, Tryd.ntmps16
    go_wp2_with fail
    refine (HR.out _).mono ?_
    rintro e w1 ⟨rfl, hg1⟩
    go_wp2_with fail
    go_ret2
    exact ⟨rfl, hg1⟩
theorem specInst_c (k : Int) (v : Value) (xs : List Nd) (w : World) (h : Nodes w v xs) (hn : xs.length ≤ 1099511627776) :
    Calls Tryd.prog 14 #[.int .i64 k, v] w (GivesBI (instF k xs) w) := by
  unfold GivesBI
  by_cases hin : 0 ≤ k ∧ k ≤ 18
  · obtain ⟨j, rfl⟩ : ∃ j : Nat, k = (j : Int) := ⟨k.toNat, by omega⟩
    have hj : j < 19 := by omega
    have HR := fun w => l01In_c (j : Int) 0 18 w
    rw [show decide ((0 : Int) ≤ j ∧ (j : Int) ≤ 18) = true from by simp; omega] at HR
    replace HR := Lib.hid HR
    have HF := fun W (hW : Grew w W) => l02Is_c v xs W (h.grew hW) hn
    cases hf : fmB xs with
    | false =>
      rw [instF_bad (by omega) hf]
      rw [hf] at HF
      replace HF := Lib.hid HF
      clear hin hf h
      go_enter Tryd.func14, Tryd.ntmps14
      go_wp2_with fail
      refine (HR.out _).mono ?_
      rintro e w1 ⟨rfl, hg1⟩
      go_wp2_with fail
      refine (HF.out _ hg1).mono ?_
      rintro e w2 ⟨rfl, hg2⟩
      go_wp2_with fail
      go_ret2
      exact ⟨rfl, hg1.trans hg2⟩
    | true =>
      rw [instF_in hj hf]
      rw [hf] at HF
      replace HF := Lib.hid HF
      obtain ⟨t, rfl, hl⟩ := fmB_tree hf
      have HI := Lib.hid (fun W (hW : Grew w W) => l13Instance_c j v t W hj (h.grew hW) hl)
      generalize instB j (Fm.enc t) = R at *
      clear hin hf h
      go_enter Tryd.func14, Tryd.ntmps14
      go_wp2_with fail
      refine (HR.out _).mono ?_
      rintro e w1 ⟨rfl, hg1⟩
      go_wp2_with fail
      refine (HF.out _ hg1).mono ?_
      rintro e w2 ⟨rfl, hg2⟩
      go_wp2_with fail
      refine (HI.out _ (hg1.trans hg2)).mono ?_
      rintro e w3 ⟨rfl, hg3⟩
      go_wp2_with fail
      go_ret2
      exact ⟨rfl, (hg1.trans hg2).trans hg3⟩
  · rw [instF_out hin]
    have HR := fun w => l01In_c k 0 18 w
    rw [decide_eq_false hin] at HR
    replace HR := Lib.hid HR
    clear hin h
    go_enter Tryd.func14, Tryd.ntmps14
    go_wp2_with fail
    refine (HR.out _).mono ?_
    rintro e w1 ⟨rfl, hg1⟩
    go_wp2_with fail
    go_ret2
    exact ⟨rfl, hg1⟩

theorem lawInst_c (k : Int) (v : Value) (xs : List Nd) (w : World) (hX : TabAt w 2 schTexts) (h : ArgN w v xs) :
    Calls Tryd.prog 5 #[.int .i64 k, v] w fun e w' => e = .returned (.bool true) ∧ Grew w w' := by
  have K0 := Lib.hid (szNodeS_c v xs 1048576 w h (by omega) (by omega))
  have K1 := Lib.hid (fun W (hW : Grew w W) => toNodeS_c v xs W (h.grew hW))
  clear h
  have KS := Lib.hid (fun v W h hn => specInst_c k v xs W h hn)
  have KI := Lib.hid (fun v W (hW : Grew w W) h hn => implInst_c k v xs W (hX.grew hW) h hn)
  clear hX
  unfold GivesBI at KS KI
  generalize instF k xs = r at *
  obtain ⟨rb, rc⟩ := r
  simp only at KS KI
  have hb1 : (rb != rb) = false := by simp
  have hc1 : (rc != rc) = false := by simp
  go_enter Tryd.func5, Tryd.ntmps5
  go_wp2_with fail
  refine K0.out.mono ?_
  rintro e w1 ⟨r, rfl, ⟨_, hs⟩, hg1⟩
  by_cases hr : r < 0
  · clear hs
    go_wp2_with fail
    go_ret
    exact ⟨rfl, hg1⟩
  have hn := hs (by omega)
  clear hs
  go_wp2_with fail
  refine (K1.out _ hg1 hn).mono ?_
  rintro e w2 ⟨a1, rfl, ho1, hg2⟩
  go_wp2_with fail
  refine (KS.out _ _ ho1.nodes (by omega)).mono ?_
  rintro e w3 ⟨rfl, hg3⟩
  have hg13 := (hg1.trans hg2).trans hg3
  clear ho1 hg1 hg2 hg3
  go_wp2_with fail
  refine (K1.out _ hg13 hn).mono ?_
  rintro e w4 ⟨a3, rfl, ho3, hg4⟩
  go_wp2_with fail
  refine (KI.out _ _ (hg13.trans hg4) ho3.nodes (by omega)).mono ?_
  rintro e w5 ⟨rfl, hg5⟩
  have hs5 := ho3.nodes.grew hg5
  have hg15 := (hg13.trans hg4).trans hg5
  clear ho3 hg4 hg5 hg13 KS KI
  go_wp2_with fail
  refine (K1.out _ hg15 hn).mono ?_
  rintro e w6 ⟨a6, rfl, ho6, hg6⟩
  go_wp2_with fail
  refine (eqNodeS_yes _ _ xs _ (hs5.grew hg6) ho6.nodes (by omega)).mono ?_
  rintro e w7 ⟨rfl, hg7⟩
  go_wp2_with fail
  go_ret
  exact ⟨rfl, (hg15.trans hg6).trans hg7⟩
end Go.Proofs.YtpbaiadaanpllaaDoor

/- The law FnExactAxiomFormula, walked. -/
import Derived.Test.YtpbaiadaanpllaaDoorAxiom
import Derived.Test.YtpbaiadaanpllaaDoorParsed
import Derived.Test.YtpbaiadaanpllaaDoorEq
namespace Go.Proofs.YtpbaiadaanpllaaDoor
open Go.RowKit
open Fm (Nd)

/-- A new list and a code, the list nil where it is empty. -/
def GivesC (w : World) (r : List Nd × Int) (e : Ending) (w' : World) : Prop := ∃ v, e = .returned (.tuple #[v, .int .i64 r.2]) ∧ Own w' w.heap.size v r.1 ∧ Grew w w'

theorem axF_none {s : ByteArray} (h : findS axNames s = -1) : axF s = ([], 4) := by rw [axF, h]; rfl
theorem axF_some {s : ByteArray} {k : Nat} (h : findS axNames s = (k : Int)) : axF s = (Fm.enc (axTree k), 0) := by
  rw [axF, h, if_neg (by omega)]; rfl

theorem specAxiom_c (s : ByteArray) (w : World) :
    Calls Tryd.prog 6 #[.string s] w (GivesC w (axF s)) := by
  have hF := fun v w h => l09Find_c v axNames s w h (by rw [axNames_len]; omega)
  rcases findS_range axNames s with hf | ⟨k, hk, hf⟩
  · rw [axF_none hf]
    rw [hf] at hF
    have HF := Lib.hid hF
    clear hF hf
    go_enter Tryd.func6, Tryd.ntmps6
    go_wp2_with fail
    refine (l09Names_c _).mono ?_
    rintro e w1 ⟨v1, rfl, ho1, hg1⟩
    go_wp2_with fail
    refine (HF.out _ _ ho1.strs).mono ?_
    rintro e w2 ⟨rfl, hg2⟩
    go_wp2_with fail
    go_ret2
    exact ⟨_, rfl, Own.nil_ _ _, hg1.trans hg2⟩
  · rw [axF_some hf]
    have HL := Lib.hid (fun w => l09Formula_c s k w hk hf)
    rw [hf] at hF
    have HF := Lib.hid hF
    clear hF hf
    go_enter Tryd.func6, Tryd.ntmps6
    go_wp2_with fail
    refine (l09Names_c _).mono ?_
    rintro e w1 ⟨v1, rfl, ho1, hg1⟩
    go_wp2_with fail
    refine (HF.out _ _ ho1.strs).mono ?_
    rintro e w2 ⟨rfl, hg2⟩
    go_wp2_with fail
    refine (HL.out _).mono ?_
    rintro e w3 ⟨v3, rfl, ho3, hg3⟩
    go_wp2_with fail
    go_ret2
    exact ⟨_, rfl, ho3.base (hg1.trans hg2).size, (hg1.trans hg2).trans hg3⟩

theorem axiomAt_c (s : ByteArray) (w : World) (hT : TabAt w 1 axNames) :
    Calls Tryd.prog 20 #[.string s] w fun e w' => e = .returned (.int .i64 (findS axNames s)) ∧ Grew w w' := by
  obtain ⟨t, hT⟩ := hT
  obtain ⟨R, hR⟩ : ∃ R, R = findS axNames s := ⟨_, rfl⟩
  rw [← hR]
  have HA := Lib.hid (fun k hk h1 h2 => hR.trans (@findS_at axNames s k hk h1 h2))
  have HZ := Lib.hid (fun h => hR.trans (@findS_none axNames s h))
  have HI := Lib.hid index_names
  have hinfo : (Tryd.prog.info? 41).map (·.size) = some (scells axNames).toArray.size := by kernel_rfl
  have HF := Lib.hid hinfo
  have HT := Lib.hid hT
  rw [axNames_len] at HA HZ
  clear hR hinfo hT
  generalize hC : (scells axNames).toArray = C at *
  clear hC
  go_enter Tryd.func20, Tryd.ntmps20
  go_wp2_with (with_reducible refine wpList_load_row rfl 41 _ rfl 1 rfl t C _ _ HT.out Tryd.underlying41 rfl HF.out ?_)
  go_loopg [3, 4, 6] 13 (fun k _ _ i wr => ∃ j : Nat, j ≤ 13 ∧ k = 13 - j ∧ i = .int .i64 j ∧ Grew w wr ∧ Hid (NotIn axNames s j))
  case atStart => exact ⟨0, by omega, by omega, rfl, Grew.refl _, NotIn.zero _ _⟩
  case round =>
    obtain ⟨j, hj, rfl, rfl, hB, HJ⟩ := hrel
    by_cases hlt : j < 13
    · have hix := fun W => HI.out j hlt W
      cases he : ((st axNames j).toList == s.toList) with
      | true =>
        have hv := Lib.hid (HA.out j hlt HJ.out he)
        generalize st axNames j = x at *
        go_wp2_with fail
        go_ret
        rw [hv.out]
        exact ⟨rfl, hB⟩
      | false =>
        have HS := Lib.hid (HJ.out.succ he)
        generalize st axNames j = x at *
        go_wp2_with fail
        go_roundg (13 - (j + 1))
        case measure => omega
        case rel => exact ⟨j + 1, by omega, rfl, by go_num, hB, HS⟩
    · have hjn : j = 13 := by omega
      subst hjn
      have hv := Lib.hid (HZ.out HJ.out)
      go_wp2_with fail
      go_ret
      rw [hv.out]
      exact ⟨rfl, hB⟩

theorem implAxiom_c (s : ByteArray) (w : World) (hN : TabAt w 1 axNames) (hX : TabAt w 0 axTexts) :
    Calls Tryd.prog 7 #[.string s] w (GivesC w (axF s)) := by
  have hF := axiomAt_c s w hN
  rcases findS_range axNames s with hf | ⟨k, hk, hf⟩
  · rw [axF_none hf]
    rw [hf] at hF
    have HF := Lib.hid hF
    clear hF hf
    go_enter Tryd.func7, Tryd.ntmps7
    go_wp2_with fail
    refine HF.out.mono ?_
    rintro e w1 ⟨rfl, hg1⟩
    go_wp2_with fail
    go_ret2
    exact ⟨_, rfl, Own.nil_ _ _, hg1⟩
  · rw [axF_some hf]
    have hP := fun w => parsed_c (st axTexts k) w (by have := axTexts_small hk; omega)
    rw [ax_pf hk] at hP
    have k1 : ∀ W, Grew w W → W.cell? ⟨0, k, none⟩ = some (.string (st axTexts k)) := fun W hW => (hX.grew hW).cell hk
    rw [hf] at hF
    have HF := Lib.hid hF
    have HP := Lib.hid hP
    have hk13 : k < 13 := hk
    clear hF hf hP
    generalize st axTexts k = tx at *
    go_enter Tryd.func7, Tryd.ntmps7
    go_wp2_with fail
    refine HF.out.mono ?_
    rintro e w1 ⟨rfl, hg1⟩
    go_wp2_with fail
    refine (HP.out _).mono ?_
    rintro e w3 ⟨v3, rfl, ho3, hg3, _⟩
    go_wp2_with fail
    go_ret2
    exact ⟨_, rfl, ho3.base hg1.size, hg1.trans hg3⟩

theorem axF_len (s : ByteArray) : (axF s).1.length ≤ 40 := by
  rcases findS_range axNames s with hf | ⟨k, hk, hf⟩
  · rw [axF_none hf]; simp
  · rw [axF_some hf]; exact (axTree_len hk).1

theorem lawAxiom_c (s : ByteArray) (w : World) (hN : TabAt w 1 axNames) (hX : TabAt w 0 axTexts) :
    Calls Tryd.prog 3 #[.string s] w fun e w' => e = .returned (.bool true) ∧ Grew w w' := by
  by_cases hbig : 1048576 < s.size
  · clear hN hX
    go_enter Tryd.func3, Tryd.ntmps3
    go_wp2_with fail
    go_ret
    exact ⟨rfl, Grew.refl _⟩
  · have hl := axF_len s
    have HS := Lib.hid (fun w => specAxiom_c s w)
    have HI := Lib.hid (fun W (hW : Grew w W) => implAxiom_c s W (hN.grew hW) (hX.grew hW))
    clear hN hX
    generalize axF s = r at *
    obtain ⟨xs, c⟩ := r
    simp only at hl
    go_enter Tryd.func3, Tryd.ntmps3
    go_wp2_with fail
    refine (HS.out _).mono ?_
    rintro e w1 ⟨v1, rfl, ho1, hg1⟩
    go_wp2_with fail
    refine (HI.out _ hg1).mono ?_
    rintro e w2 ⟨v2, rfl, ho2, hg2⟩
    go_wp2_with fail
    refine (eqNodeS_yes _ _ xs _ ho2.nodes (ho1.grew hg2).nodes (by omega)).mono ?_
    rintro e w3 ⟨rfl, hg3⟩
    go_wp2_with fail
    refine (markNodeS_g v2 xs w1.heap.size 1 _ (ho2.grew hg3) (by omega) (by omega) (by omega)).mono ?_
    rintro e w4 ⟨rfl, ho4, hm4⟩
    have hg4 := hm4 w1 (Nat.le_refl _) (hg2.trans hg3)
    clear hm4 ho2
    go_wp2_with fail
    refine (heldNodeS_c v2 xs.length 1 _ ho4.nodes (by omega) (by omega) (by omega)).mono ?_
    rintro e w5 ⟨rfl, hg5⟩
    go_wp2_with fail
    refine (HI.out _ ((hg1.trans hg4).trans hg5)).mono ?_
    rintro e w6 ⟨v6, rfl, ho6, hg6⟩
    go_wp2_with fail
    refine (eqNodeS_yes _ _ xs _ ho6.nodes (ho1.grew ((hg4.trans hg5).trans hg6)).nodes (by omega)).mono ?_
    rintro e w7 ⟨rfl, hg7⟩
    go_wp2_with fail
    refine (heldNodeS_c v2 xs.length 1 _ (ho4.grew ((hg5.trans hg6).trans hg7)).nodes (by omega) (by omega) (by omega)).mono ?_
    rintro e w8 ⟨rfl, hg8⟩
    go_wp2_with fail
    go_ret
    exact ⟨rfl, hg1.trans ((((hg4.trans hg5).trans hg6).trans hg7).trans hg8)⟩
end Go.Proofs.YtpbaiadaanpllaaDoor

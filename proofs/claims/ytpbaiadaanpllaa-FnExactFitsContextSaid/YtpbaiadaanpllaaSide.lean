/- A side of a sequent of texts: every text is good and stands above the one before. -/
import Derived.Test.YtpbaiadaanpllaaGood
import Derived.Test.YtpbaiadaanpllaaText
import Derived.Test.YtpbaiadaanpllaaParsed
import Derived.Test.YtpbaiadaanpllaaStrs
import Derived.Deep.RegionHeld3
import Derived.Deep.QuietTactic
import Derived.BigQuiet
import Derived.Deep.LoopGhost
import Derived.WalkSpells
import Derived.WalkLawsBesides
import Derived.Outline
namespace Go.Proofs.Ytpbaiadaanpllaa
open Go.RowKit
open Fm (Nd)

theorem text0_c (t : Fm.Tree) (v : Value) (w : World) (h : Nodes w v (Fm.enc t)) (hn : (Fm.enc t).length ≤ 1048576) :
    Calls Try.prog 69 #[v] w (Says w (Fm.txt t 0)) := text_c t v w h hn

theorem isText_c (s : ByteArray) (w : World) (hs : s.size ≤ 140737488355328) :
    Calls Try.prog 149 #[.string s] w fun e w' => e = .returned (.bool (gd s)) ∧ Grew w w' := by
  have HP := fun w => parsed_c s w hs
  rcases pf_cases s with ⟨t, ht⟩ | ⟨p, c, hp, hc⟩
  · have hn := Fm.pf_len s
    have hpos := Fm.enc_pos t
    rw [gd_tree ht]
    rw [ht] at HP hn
    simp only at HP hn
    replace HP := Lib.hid HP
    have HT := Lib.hid (fun v w h => text0_c t v w h (by omega))
    have HO := Lib.hid (fun w (v : Value) (h : Own w w.heap.size v (Fm.enc t)) => h)
    clear ht HO
    have hne := fun w (b : Option Addr) n c => run_neq_slice_nil_any (P := Try.prog) w 22 83 b n c 0 0 Try.underlying22
    generalize Fm.enc t = xs at *
    go_enter Try.func149, Try.ntmps149
    go_wp2_with fail
    refine (HP.out _).mono ?_
    rintro e w1 ⟨v1, rfl, ho1, hg1, _⟩
    rcases ho1.open_ with ⟨rfl, h0⟩ | ⟨g, c, cur, rfl, _⟩
    · rw [h0] at hpos; cases hpos
    go_wp2_with fail
    refine (HT.out _ _ ho1.nodes).mono ?_
    rintro e w2 ⟨rfl, hg2⟩
    go_wp2_with fail
    go_ret
    exact ⟨rfl, hg1.trans hg2⟩
  · rw [gd_bad hp hc]
    rw [hp] at HP
    replace HP := Lib.hid HP
    clear hp
    go_enter Try.func149, Try.ntmps149
    go_wp2_with fail
    refine (HP.out _).mono ?_
    rintro e w1 ⟨v1, rfl, ho1, hg1, hz1⟩
    obtain rfl := hz1 rfl
    go_wp2_with fail
    go_ret
    exact ⟨rfl, hg1⟩

theorem above_iff : ∀ (x y : List UInt8), (Op.bytesLess x y || x == y) = !Op.bytesLess y x
  | [], [] => by simp [Op.bytesLess]
  | _ :: _, [] => by simp [Op.bytesLess]
  | [], _ :: _ => by simp [Op.bytesLess]
  | a :: x, b :: y => by
    have ih := above_iff x y
    rw [Op.bytesLess, Op.bytesLess]
    by_cases h1 : a < b
    · have h2 : ¬ b < a := by simp only [UInt8.lt_iff_toNat_lt] at *; omega
      have h3 : ¬ b = a := by rintro rfl; exact h2 h1
      simp [h1, h2, h3]
    · by_cases h2 : a = b
      · subst h2
        have h3 : ¬ a < a := h1
        simp only [h3, decide_false, Bool.false_or, beq_self_eq_true, Bool.true_and]
        rw [← ih]
        simp
      · have h3 : b < a := by
          simp only [UInt8.lt_iff_toNat_lt, ← UInt8.toNat_inj] at *
          omega
        have h4 : ¬ b = a := fun h => h2 h.symm
        simp [h1, h2, h3, h4]

/-- The first k are good texts, each above the one before. -/
def Asc (L : List ByteArray) (k : Nat) : Prop := ∀ i, i < k → gd (st L i) = true ∧ (0 < i → Op.bytesLess (st L (i - 1)).toList (st L i).toList = true)
noncomputable def asc (L : List ByteArray) : Bool := @decide (Asc L L.length) (Classical.propDecidable _)
theorem Asc.zero (L : List ByteArray) : Asc L 0 := fun i hi => absurd hi (by omega)
theorem Asc.succ {L : List ByteArray} {k : Nat} (h : Asc L k) (h1 : gd (st L k) = true) (h2 : 0 < k → Op.bytesLess (st L (k - 1)).toList (st L k).toList = true) : Asc L (k + 1) := by
  intro i hi
  rcases Nat.lt_or_ge i k with hk | hk
  · exact h i hk
  · obtain rfl : i = k := by omega
    exact ⟨h1, h2⟩
theorem asc_true {L : List ByteArray} (h : Asc L L.length) : asc L = true := by
  unfold asc
  exact @decide_eq_true _ (Classical.propDecidable _) h
theorem asc_bad {L : List ByteArray} {k : Nat} (hk : k < L.length) (h : gd (st L k) = false) : asc L = false := by
  unfold asc
  refine @decide_eq_false _ (Classical.propDecidable _) fun H => ?_
  rw [(H k hk).1] at h
  cases h
theorem asc_low {L : List ByteArray} {k : Nat} (hk : k + 1 < L.length) (h : Op.bytesLess (st L k).toList (st L (k + 1)).toList = false) : asc L = false := by
  unfold asc
  refine @decide_eq_false _ (Classical.propDecidable _) fun H => ?_
  have := (H (k + 1) hk).2 (by omega)
  rw [Nat.add_sub_cancel, h] at this
  cases this
/-- No text of the list is long. -/
def Fits (L : List ByteArray) : Prop := ∀ i, i < L.length → (st L i).size ≤ 1048576

theorem l11Side_c (v : Value) (L : List ByteArray) (w : World) (h : Strs w v L) (hs : Fits L) (hn : L.length ≤ 1048576) :
    Calls Try.prog 103 #[v] w fun e w' => e = .returned (.bool (decide (L.length ≤ 16) && asc L)) ∧ Grew w w' := by
  by_cases h16 : 16 < L.length
  · have hd : (decide (L.length ≤ 16) && asc L) = false := by simp; omega
    rw [hd]
    obtain ⟨A, c, rfl⟩ := strs_slice h
    clear h hs hd
    go_enter Try.func103, Try.ntmps103
    go_wp2_with fail
    go_ret
    exact ⟨rfl, Grew.refl _⟩
  have hd : (decide (L.length ≤ 16) && asc L) = asc L := by rw [decide_eq_true (by omega)]; rfl
  rw [hd]
  clear hd
  rcases h.open_ with ⟨rfl, rfl⟩ | ⟨b, o, c, rfl, hc, hm, hb, hcell⟩
  · rw [asc_true (Asc.zero _)]
    clear h hs
    go_enter Try.func103, Try.ntmps103
    go_wp2_with fail
    refine wp_loop_rounds 1 ?_; rw [rounds_succ]
    go_wp2_with fail
    go_ret
    exact ⟨rfl, Grew.refl _⟩
  obtain ⟨R, hR⟩ : ∃ R, R = asc L := ⟨_, rfl⟩
  rw [← hR]
  have HT := Lib.hid (fun h => hR.trans (@asc_true L h))
  have HB := Lib.hid (fun k hk h => hR.trans (@asc_bad L k hk h))
  have HL := Lib.hid (fun k hk h => hR.trans (@asc_low L k hk h))
  have HC := Lib.hid hcell
  have HS := Lib.hid hs
  clear hcell h hs hR
  unfold Fits at HS
  generalize hN : L.length = n at *
  clear hN
  go_enter Try.func103, Try.ntmps103
  go_wp2_with fail
  go_loopw [3] (fun i wr => ∃ j : Nat, j ≤ n ∧ i = .int .i64 j ∧ Grew w wr ∧ Hid (Asc L j)) (fun i _ => n - (intOf i).toNat)
  case atStart => exact ⟨0, Nat.zero_le _, rfl, Grew.refl _, Asc.zero _⟩
  case round =>
    obtain ⟨j, hj, rfl, hB, HJ⟩ := hrel
    by_cases hlt : j < n
    · have k1 : ∀ W, Grew w W → W.cell? ⟨b, o + j, none⟩ = some (.string (st L j)) := fun W hW => HC.out j hlt W hW
      have hsz := HS.out j hlt
      have hG := Lib.hid (fun w => l02Good_c (st L j) w (by omega))
      have k2 := k1 _ hB
      go_wp2_with fail
      refine (hG.out _).mono ?_
      rintro e w1 ⟨v1, rfl, _, hg1⟩
      have hB1 := hB.trans hg1
      cases hgd : gd (st L j) with
      | false =>
        have hv := Lib.hid (HB.out j hlt hgd)
        generalize st L j = x at *
        go_wp2_with fail
        go_quiet (fail)
        go_wp2_with fail
        go_ret
        rw [hv.out]
        exact ⟨rfl, by first | assumption | exact hB1.drewN _⟩
      | true =>
        cases j with
        | zero =>
          have HS1 := Lib.hid (HJ.out.succ hgd (fun h => absurd h (by omega)))
          generalize st L 0 = x at *
          go_wp2_with fail
          go_quiet (fail)
          go_wp2_with fail
          go_roundw
          case rel => exact ⟨1, by omega, by go_num, by first | assumption | exact hB1.drewN _, HS1⟩
          case measure => simp [intOf]; omega
        | succ m =>
          have k3 := HC.out m (by omega) _ hB1
          have k4 := k1 _ hB1
          cases hlo : Op.bytesLess (st L m).toList (st L (m + 1)).toList with
          | false =>
            have hv := Lib.hid (HL.out m hlt hlo)
            have hab : (Op.bytesLess (st L (m + 1)).toList (st L m).toList || (st L (m + 1)).toList == (st L m).toList) = true := by rw [above_iff, hlo]; rfl
            generalize st L m = y at *
            generalize st L (m + 1) = x at *
            go_wp2_with fail
            go_quiet (fail)
            go_wp2_with fail
            go_ret
            rw [hv.out]
            exact ⟨rfl, by first | assumption | exact hB1.drewN _⟩
          | true =>
            have HS1 := Lib.hid (HJ.out.succ hgd (fun _ => hlo))
            have hab : (Op.bytesLess (st L (m + 1)).toList (st L m).toList || (st L (m + 1)).toList == (st L m).toList) = false := by rw [above_iff, hlo]; rfl
            generalize st L m = y at *
            generalize st L (m + 1) = x at *
            go_wp2_with fail
            go_quiet (fail)
            go_wp2_with fail
            go_roundw
            case rel => exact ⟨m + 1 + 1, by omega, by go_num, by first | assumption | exact hB1.drewN _, HS1⟩
            case measure => simp [intOf]; omega
    · obtain rfl : j = n := by omega
      have hv := Lib.hid (HT.out HJ.out)
      go_wp2_with fail
      go_ret
      rw [hv.out]
      exact ⟨rfl, hB⟩
end Go.Proofs.Ytpbaiadaanpllaa

/- The law FnParsing, walked. -/
import Derived.Test.YtpbaiadaanpllaaDrawParse
import Derived.Test.YtpbaiadaanpllaaForm
import Derived.Test.YtpbaiadaanpllaaSame
import Derived.Test.YtpbaiadaanpllaaParseF
import Derived.Test.YtpbaiadaanpllaaGood
namespace Go.Proofs.Ytpbaiadaanpllaa
open Go.RowKit
open Fm (Nd Tree)

theorem pf_three (s : ByteArray) : (∃ t, Fm.pf s = (Fm.enc t, 0, 0) ∧ (Fm.enc t).length ≤ 40) ∨ (∃ p, Fm.pf s = ([], p, 6) ∧ p ≤ s.size) ∨ Fm.pf s = ([], 0, 3) := by
  have hn := Fm.pf_len s
  have hr := Fm.read_ok s
  unfold Fm.pf at hn ⊢
  split
  · exact .inr (.inr rfl)
  · split
    · exact .inr (.inl ⟨_, rfl, hr.1⟩)
    · split
      · exact .inr (.inr rfl)
      · obtain ⟨t, ht⟩ := Fm.parse_enc s.data.toList Fm.fuel
        refine .inl ⟨t, ?_, ?_⟩
        · rw [← ht]; rfl
        · rw [← ht]
          rename_i h
          exact Nat.le_of_not_lt h

theorem same_yes (v1 v2 : Value) (xs : List Nd) (w : World) (h1 : Nodes w v1 xs) (h2 : Nodes w v2 xs) (hn : xs.length ≤ 1099511627776) :
    Calls Try.prog 29 #[v1, v2] w fun e w' => e = .returned (.bool true) ∧ Grew w w' := by
  have := sameNodes9_c v1 v2 xs xs w h1 h2 hn
  rwa [decide_eq_true (rfl : xs = xs)] at this

theorem big_c (v : Value) (N : Nat) (w : World) (h : ∃ A c, v = .slice A N c) :
    Calls Try.prog 27 #[v] w fun e w' => e = .returned (.bool (decide (4096 < N))) ∧ Grew w w' := by
  obtain ⟨A, c, rfl⟩ := h
  by_cases hb : 4096 < N
  · rw [decide_eq_true hb]
    go_enter Try.func27, Try.ntmps27
    go_wp2_with fail
    go_ret
    exact ⟨by simp; omega, Grew.refl _⟩
  · rw [decide_eq_false hb]
    go_enter Try.func27, Try.ntmps27
    go_wp2_with fail
    go_ret
    exact ⟨by simp; omega, Grew.refl _⟩

theorem lawParsing_c (v : Value) (N : Nat) (w : World) (h : ArgB w v N) :
    Calls Try.prog 6 #[v] w fun e w' => e = .returned (.bool true) ∧ Grew w w' := by
  have HB := big_c v N w h.1
  by_cases hbig : 4096 < N
  · rw [decide_eq_true hbig] at HB
    replace HB := Lib.hid HB
    clear h
    go_enter Try.func6, Try.ntmps6
    go_wp2_with fail
    refine HB.out.mono ?_
    rintro e w1 ⟨rfl, hg1⟩
    go_wp2_with fail
    go_ret
    exact ⟨rfl, hg1⟩
  rw [decide_eq_false hbig] at HB
  replace HB := Lib.hid HB
  have HD := Lib.hid (fun W (hW : Grew w W) (h : ArgB W v N) => drawParse_c v N W h (by omega))
  have HA : Hid (∀ W, Grew w W → ArgB W v N) := Lib.hid (fun W hW => by
    obtain ⟨h1, h2, h3⟩ := h
    refine ⟨h1, h2, fun hp => ?_⟩
    obtain ⟨b, o, c, e, hb, hc, hm, hx⟩ := h3 hp
    refine ⟨b, o, c, e, Nat.lt_of_lt_of_le hb hW.size, hc, hm, fun j hj => ?_⟩
    obtain ⟨x, x0, x1, hcell⟩ := hx j hj
    exact ⟨x, x0, x1, (hW.cell (p := ⟨b, o + j, none⟩) hb).trans hcell⟩)
  clear h
  go_enter Try.func6, Try.ntmps6
  go_wp2_with fail
  refine HB.out.mono ?_
  rintro e w1 ⟨rfl, hg1⟩
  go_wp2_with fail
  refine (HD.out _ hg1 (HA.out _ hg1)).mono ?_
  rintro e w2 ⟨s, rfl, hs, hg2⟩
  have hg12 := hg1.trans hg2
  clear HB HD HA hg1 hg2
  have HI := fun w => parse_c s w (by omega)
  have HS := fun w => specParse_c s w (by omega)
  rcases pf_three s with ⟨t, ht, htl⟩ | ⟨p, hp, hps⟩ | hp
  · rw [ht] at HI HS
    replace HI := Lib.hid HI
    replace HS := Lib.hid HS
    have hn := Fm.pf_len s
    clear ht
    have hpos := Fm.enc_pos t
    have htx := Fm.txt_len t 0
    have HI2 := fun w => parse_c (bs (Fm.txt t 0)) w (by rw [bs_size]; omega)
    rw [Fm.pf_txt t (by omega) htl] at HI2
    replace HI2 := Lib.hid HI2
    have HF := Lib.hid (fun v w h => formulaText_c v t w h htl)
    have HE := Lib.hid (fun v w h => partEnd0_c v t w h htl)
    clear htx hn
    generalize bs (Fm.txt t 0) = tx at *
    generalize Fm.enc t = xs at *
    go_wp2_with fail
    refine (HI.out _).mono ?_
    rintro e w3 ⟨a, rfl, ho3, hg3, _⟩
    go_wp2_with fail
    refine (HS.out _).mono ?_
    rintro e w4 ⟨b, rfl, ho4, hg4, _⟩
    go_wp2_with fail
    refine (same_yes a b xs _ (ho3.grew hg4).nodes ho4.nodes (by omega)).mono ?_
    rintro e w5 ⟨rfl, hg5⟩
    have hN5 := (ho3.nodes.grew hg4).grew hg5
    have hg15 := ((hg12.trans hg3).trans hg4).trans hg5
    clear ho3 ho4 hg3 hg4 hg5 HI HS hg12
    go_wp2_with fail
    refine (HF.out a _ hN5).mono ?_
    rintro e w6 ⟨rfl, hg6⟩
    go_wp2_with fail
    refine (HI2.out _).mono ?_
    rintro e w7 ⟨d, rfl, ho7, hg7, _⟩
    have hN7 := (hN5.grew hg6).grew hg7
    go_wp2_with fail
    refine (HE.out a _ hN7).mono ?_
    rintro e w8 ⟨rfl, hg8⟩
    have hN8 := hN7.grew hg8
    have hg18 := ((hg15.trans hg6).trans hg7).trans hg8
    go_wp2_with fail
    refine (same_yes d a xs _ (ho7.grew hg8).nodes hN8 (by omega)).mono ?_
    rintro e w9 ⟨rfl, hg9⟩
    obtain ⟨A, c, rfl⟩ := nodes_slice hN8
    go_wp2_with fail
    go_ret
    exact ⟨by simp, hg18.trans hg9⟩
  · rw [hp] at HI HS
    replace HI := Lib.hid HI
    replace HS := Lib.hid HS
    clear hp
    go_wp2_with fail
    refine (HI.out _).mono ?_
    rintro e w3 ⟨a, rfl, ho3, hg3, hz3⟩
    obtain rfl := hz3 rfl
    go_wp2_with fail
    refine (HS.out _).mono ?_
    rintro e w4 ⟨b, rfl, ho4, hg4, hz4⟩
    obtain rfl := hz4 rfl
    have hSame := Lib.hid (same_yes (.slice none 0 0) (.slice none 0 0) [] w4 (Nodes.nil_ _) (Nodes.nil_ _) (Nat.zero_le _))
    clear ho4 hz3 hz4
    go_wp2_with fail
    refine hSame.out.mono ?_
    rintro e w5 ⟨rfl, hg5⟩
    go_wp2_with fail
    go_ret
    refine ⟨?_, ((hg12.trans hg3).trans hg4).trans hg5⟩
    first | rfl | (refine congrArg Ending.returned (congrArg Value.bool ?_); first | rfl | (simp; done) | (simp; omega) | omega)
  · rw [hp] at HI HS
    replace HI := Lib.hid HI
    replace HS := Lib.hid HS
    clear hp
    go_wp2_with fail
    refine (HI.out _).mono ?_
    rintro e w3 ⟨a, rfl, ho3, hg3, hz3⟩
    obtain rfl := hz3 rfl
    go_wp2_with fail
    refine (HS.out _).mono ?_
    rintro e w4 ⟨b, rfl, ho4, hg4, hz4⟩
    obtain rfl := hz4 rfl
    have hSame := Lib.hid (same_yes (.slice none 0 0) (.slice none 0 0) [] w4 (Nodes.nil_ _) (Nodes.nil_ _) (Nat.zero_le _))
    clear ho4 hz3 hz4
    go_wp2_with fail
    refine hSame.out.mono ?_
    rintro e w5 ⟨rfl, hg5⟩
    go_wp2_with fail
    go_ret
    refine ⟨?_, ((hg12.trans hg3).trans hg4).trans hg5⟩
    first | rfl | (refine congrArg Ending.returned (congrArg Value.bool ?_); first | rfl | (simp; done) | (simp; omega) | omega)
end Go.Proofs.Ytpbaiadaanpllaa

/- FitsContext of both. -/
import Derived.Test.YthofkdpmgjkgkaaGreatTmPart
namespace Go.Proofs.YthofkdpmgjkgkaaGreat
open Go.RowKit
open Tr (Tm)

theorem good_kind {t : Tm} (h : Good t) : 0 ≤ (Tr.hd t).1 ∧ (Tr.hd t).1 ≤ 9 := by
  by_cases hk : 0 ≤ (Tr.hd t).1 ∧ (Tr.hd t).1 ≤ 9
  · exact hk
  · have h1 := Tr.hd_wf h
    unfold GoodN at h1
    rw [tnB_kind hk] at h1
    cases h1
theorem good_leaf {t : Tm} (h : Good t) : Tr.kids t = [] ↔ (Tr.hd t).1 = 0 := by
  have h1 := Tr.kids_len h
  have h2 := good_kind h
  constructor
  · intro h3
    rw [h3] at h1
    unfold Tr.ar at h1
    simp only [List.length_nil] at h1
    split at h1
    · omega
    · split at h1
      · omega
      · split at h1 <;> omega
  · intro h3
    rw [h3] at h1
    exact List.eq_nil_of_length_eq_zero (by rw [h1]; rfl)

theorem one_c (b : Bool) (w : World) : Calls Tryz.prog 137 #[.bool b] w fun e w' => e = .returned (.int .i64 (if b then 1 else 0)) ∧ Grew w w' := by
  cases b
  all_goals
    go_enter Tryz.func137, Tryz.ntmps137
    go_wp2_with fail
    go_ret
    exact ⟨rfl, Grew.refl _⟩
theorem bindsIn_c (k : Int) (i : Nat) (w : World) (hi : i ≤ 1048576) : Calls Tryz.prog 111 #[.int .i64 k, .int .i64 i] w fun e w' => e = .returned (.int .i64 (Tr.bd k i)) ∧ Grew w w' := by
  cases h1 : (k == 1) with
  | true =>
    have hv : Tr.bd k i = 1 := by unfold Tr.bd; rw [if_pos (.inl (by simpa using h1))]
    rw [hv]
    have HO := Lib.hid (fun w => one_c true w)
    go_enter Tryz.func111, Tryz.ntmps111
    go_wp2_with fail
    refine (HO.out _).mono ?_
    rintro e w1 ⟨rfl, hg1⟩
    go_wp2_with fail
    go_ret
    exact ⟨rfl, hg1⟩
  | false =>
    have n1 : k ≠ 1 := by simpa using h1
    cases h8 : (k == 8) with
    | true =>
      have e8 : k = 8 := by simpa using h8
      by_cases hp : 0 < i
      · have hv : Tr.bd k i = 1 := by unfold Tr.bd; rw [if_pos (.inr ⟨e8, hp⟩)]
        rw [hv]
        have HO := Lib.hid (fun w => one_c true w)
        have hp' : decide ((0 : Int) < (i : Int)) = true := by simp; omega
        go_enter Tryz.func111, Tryz.ntmps111
        go_wp2_with fail
        refine (HO.out _).mono ?_
        rintro e w1 ⟨rfl, hg1⟩
        go_wp2_with fail
        go_ret
        exact ⟨rfl, hg1⟩
      · have hv : Tr.bd k i = 0 := by unfold Tr.bd; rw [if_neg (by omega)]
        rw [hv]
        have HO := Lib.hid (fun w => one_c false w)
        obtain rfl : i = 0 := by omega
        go_enter Tryz.func111, Tryz.ntmps111
        go_wp2_with fail
        refine (HO.out _).mono ?_
        rintro e w1 ⟨rfl, hg1⟩
        go_wp2_with fail
        go_ret
        exact ⟨rfl, hg1⟩
    | false =>
      have n8 : k ≠ 8 := by simpa using h8
      have hv : Tr.bd k i = 0 := by unfold Tr.bd; rw [if_neg (by omega)]
      rw [hv]
      have HO := Lib.hid (fun w => one_c false w)
      go_enter Tryz.func111, Tryz.ntmps111
      go_wp2_with fail
      refine (HO.out _).mono ?_
      rintro e w1 ⟨rfl, hg1⟩
      go_wp2_with fail
      go_ret
      exact ⟨rfl, hg1⟩

theorem l26Part_c (v : Value) (t : Tm) (k : Nat) (w : World) (h : Tms w v (Tr.enc t)) (hg : Good t) (hn : (Tr.enc t).length ≤ 1048576) (hk : k < (Tr.kids t).length) :
    Calls Tryz.prog 85 #[v, .int .i64 k] w fun e w' => ∃ u, e = .returned u ∧ Tms w' u (Tr.enc (Tr.kid t k)) ∧ Grew w w' := by
  obtain ⟨b, o, c, rfl, hc, hm, hb, hf⟩ := tms_head h
  have HE := Lib.hid (fun i (hi : i < (Tr.kids t).length) W (hW : Grew w W) => by
    have h1 := l26End_c _ (Tr.enc t) (Tr.enc t).length (Tr.off t i) W (by omega) (h.grew hW) hn (by have := Tr.off_end hi; omega)
    rw [Tr.pend_kid hg hi, Int.natCast_add] at h1
    exact h1)
  have HL := Lib.hid (fun i (hi : i < (Tr.kids t).length) => (⟨Tr.off_end hi, Tr.off_next hi, Tr.enc_pos (Tr.kid t i)⟩ : Tr.off t i + (Tr.enc (Tr.kid t i)).length ≤ (Tr.enc t).length ∧ Tr.off t (i + 1) = Tr.off t i + (Tr.enc (Tr.kid t i)).length ∧ 1 ≤ (Tr.enc (Tr.kid t i)).length))
  have HS := Lib.hid (fun i (hi : i < (Tr.kids t).length) (c' : Nat) (hc1 : (Tr.enc (Tr.kid t i)).length ≤ c') (hc2 : c' ≤ 9223372036854775807) => by
    have h1 := h.sub (Tr.off t i) (Tr.enc (Tr.kid t i)).length c' (Tr.off_end hi) hc1 hc2
    rw [Tr.take_kid hi] at h1
    exact h1)
  have hz := Tr.off_zero t
  have hk3 : k ≤ 3 := by have := Tr.kids_len hg; have := Tr.ar_le (Tr.hd t).1; omega
  clear hf h hg
  generalize hN : (Tr.enc t).length = n at *
  clear hN
  generalize hM : (Tr.kids t).length = m at *
  clear hM
  go_enter Tryz.func85, Tryz.ntmps85
  go_wp2_with fail
  go_loopw [1, 5] (fun x y wr => ∃ j : Nat, j ≤ k ∧ x = .int .i64 ((k - j : Nat) : Int) ∧ y = .int .i64 (Tr.off t j) ∧ Grew w wr) (fun x _ _ => (intOf x).toNat)
  case atStart => exact ⟨0, Nat.zero_le _, rfl, by rw [hz]; rfl, Grew.refl _⟩
  case round =>
    obtain ⟨j, hj, rfl, rfl, hB⟩ := hrel
    obtain ⟨hl1, hl2, hl3⟩ := HL.out j (by omega)
    have hE := Lib.hid (HE.out j (by omega))
    have hS := Lib.hid (HS.out j (by omega))
    have HL2 := Lib.hid hl2
    clear hl2
    by_cases hlt : j < k
    · obtain ⟨r, hr⟩ : ∃ r, k - j = r + 1 := ⟨k - j - 1, by omega⟩
      have hr3 : r ≤ 3 := by omega
      rw [hr]
      generalize Tr.enc (Tr.kid t j) = X at *
      generalize Tr.off t j = oj at *
      have hr0 : (0 : Int) < ((r + 1 : Nat) : Int) := by omega
      go_wp2_with fail
      refine (hE.out _ hB).mono ?_
      rintro e w2 ⟨rfl, hg2⟩
      have hB2 := hB.trans hg2
      go_wp2_with fail
      go_roundw
      case rel => exact ⟨j + 1, by omega, by rw [show k - (j + 1) = r by omega]; try go_num, by rw [HL2.out]; try go_num, hB2⟩
      case measure => (simp [intOf]; try omega)
    · obtain rfl : j = k := by omega
      rw [Nat.sub_self]
      generalize hX : Tr.enc (Tr.kid t j) = X at *
      generalize Tr.off t j = oj at *
      have hq0 : (0 : Int) ≤ (oj : Int) := by omega
      have hq1 : (oj : Int) ≤ (oj : Int) + (X.length : Int) := by omega
      have hq2 : (oj : Int) + (X.length : Int) ≤ (c : Int) := by omega
      have hT := Lib.hid (hS.out (c - oj) (by omega) (by omega))
      go_wp2_with fail
      refine (hE.out _ hB).mono ?_
      rintro e w2 ⟨rfl, hg2⟩
      have hB2 := hB.trans hg2
      go_wp2_with fail
      go_ret
      exact ⟨_, rfl, by
        rw [hX]
        show Tms w2 (.slice (some ⟨b, o + oj * 3, none⟩) (oj + X.length - oj) (c - oj)) X
        rw [Nat.add_sub_cancel_left]
        exact hT.out.grew hB2, hB2⟩

/-- What the function value gives at a number and what it is read with. -/
def HoldsOk (f : Nat) (p : Int → Int → Bool) : Prop := ∀ a b W, Calls Tryz.prog f #[.int .i64 a, .int .i64 b] W fun e w' => e = .returned (.bool (p a b)) ∧ Grew W w'

theorem everyNumber_c (f : Nat) (p : Int → Int → Bool) (hf : HoldsOk f p) (eg : ∀ args w, (callFunc f args).run Tryz.prog w = .ok (.enter f args) w) :
    ∀ t : Tm, Good t → ∀ (v : Value) (n : Int) (w : World), Tms w v (Tr.enc t) → (Tr.enc t).length ≤ 100000 → 0 ≤ n → n + (Tr.enc t).length ≤ 1000000 →
    Calls Tryz.prog 92 #[v, .int .i64 n, .func (.func f) #[] #[]] w fun e w' => e = .returned (.bool (Tr.evN p t n)) ∧ Grew w w' := by
  intro t
  refine Tr.ind (P := fun t => Good t → ∀ (v : Value) (n : Int) (w : World), Tms w v (Tr.enc t) → (Tr.enc t).length ≤ 100000 → 0 ≤ n → n + (Tr.enc t).length ≤ 1000000 →
    Calls Tryz.prog 92 #[v, .int .i64 n, .func (.func f) #[] #[]] w fun e w' => e = .returned (.bool (Tr.evN p t n)) ∧ Grew w w') ?_ t
  intro t ih hg v n w h hlen hn0 hn1
  obtain ⟨b, o, c, rfl, hc, hm, hb, hcl⟩ := tms_head h
  have hpos := Tr.enc_pos t
  obtain ⟨k1, k2, _⟩ := hcl _ (Grew.refl w)
  by_cases hleaf : Tr.kids t = []
  · have hk := (good_leaf hg).1 hleaf
    rw [Tr.evN_leaf hleaf]
    rw [hk] at k1
    generalize (Tr.hd t).2.1 = a at *
    have HF := Lib.hid (hf a n)
    clear hcl ih hg h hf hk hleaf
    generalize (Tr.enc t).length = nn at *
    generalize p a n = R at *
    go_enter Tryz.func92, Tryz.ntmps92
    go_wp2_with fail
    go_at_fn f
    refine (HF.out _).mono ?_
    rintro e w1 ⟨rfl, hg1⟩
    go_wp2_with fail
    go_ret
    exact ⟨rfl, hg1⟩
  · have hk : ((Tr.hd t).1 == 0) = false := by
      have := mt (good_leaf hg).2 hleaf
      simpa using this
    have hm1 : 0 < (Tr.kids t).length := List.length_pos_iff.2 hleaf
    have hkl := Tr.kids_len hg
    have har := Tr.ar_le (Tr.hd t).1
    rw [Tr.evN_kids hleaf]
    obtain ⟨R, hR⟩ : ∃ R, R = Tr.evL p (Tr.hd t).1 (Tr.kids t) 0 n := ⟨_, rfl⟩
    rw [← hR]
    have HI := Lib.hid (fun W (hW : Grew w W) => inner_c _ t W (h.grew hW) hg (by omega))
    have HK := Lib.hid (fun W (hW : Grew w W) => (hcl W hW).1)
    have HR : Hid (R = Tr.evL p (Tr.hd t).1 ((Tr.kids t).drop 0) 0 n) := hR
    have HS := Lib.hid (fun i (hi : i < (Tr.kids t).length) => @Tr.evL_kid p (Tr.hd t).1 t i n hi)
    have HZ := Lib.hid (fun i (hi : (Tr.kids t).length ≤ i) => @Tr.evL_end p (Tr.hd t).1 (Tr.kids t) i n hi)
    have HIH := Lib.hid (fun i (hi : i < (Tr.kids t).length) u d W (hd0 : 0 ≤ d) (hd1 : d ≤ 1) hu => ih _ (Tr.kid_mem hi) (Tr.kids_wf hg _ (Tr.kid_mem hi)) u (n + d) W hu (by have := Tr.kid_small hi; omega) (by omega) (by have := Tr.kid_small hi; omega))
    have HBD := Lib.hid (fun i (hi : i < (Tr.kids t).length) w => bindsIn_c (Tr.hd t).1 i w (by omega))
    have HB2 := Lib.hid (fun i => (by unfold Tr.bd; split <;> omega : 0 ≤ Tr.bd (Tr.hd t).1 i ∧ Tr.bd (Tr.hd t).1 i ≤ 1))
    clear hcl ih hg h hf hR hleaf
    generalize (Tr.hd t).1 = kk at *
    generalize (Tr.enc t).length = nn at *
    generalize hM : (Tr.kids t).length = m at *
    go_enter Tryz.func92, Tryz.ntmps92
    go_wp2_with fail
    refine (HI.out _ (Grew.refl w)).mono ?_
    rintro e w1 ⟨u, rfl, hp1, hg1⟩
    rcases hp1 with ⟨rfl, h0⟩ | ⟨b2, o2, c2, rfl, hc2, hm2, hb2, hcell⟩
    · rw [h0] at hM; simp at hM; omega
    rw [hM] at hc2 hcell ⊢
    have HC := Lib.hid hcell
    clear hcell
    go_wp2_with fail
    go_loopw [7, 8, 24] (fun _ _ i wr => ∃ j : Nat, j ≤ m ∧ i = .int .i64 j ∧ Grew w1 wr ∧ Hid (R = Tr.evL p kk ((Tr.kids t).drop j) j n)) (fun _ _ i _ => m - (intOf i).toNat)
    case atStart => exact ⟨0, Nat.zero_le _, rfl, Grew.refl _, HR.out⟩
    case round =>
      obtain ⟨j, hj, rfl, hB, HJ⟩ := hrel
      clear HR
      by_cases hlt : j < m
      · obtain ⟨x, hx1, hx2⟩ := HC.out j hlt
        have e1 : wr.cell? ⟨b2, o2 + j, none⟩ = some x := (hB.cell (p := ⟨b2, o2 + j, none⟩) hb2).trans hx1
        have e2 : wr.cell? ⟨b, o, none⟩ = some (.int .i64 kk) := HK.out _ (hg1.trans hB)
        obtain ⟨A3, c3, rfl⟩ := tms_slice hx2
        have hs := HS.out j hlt
        rw [← HJ.out] at hs
        have HSS := Lib.hid hs
        have hih := Lib.hid (fun W (hW : Grew w1 W) => HIH.out j hlt _ (Tr.bd kk j) W (HB2.out j).1 (HB2.out j).2 (hx2.grew hW))
        have hbd := Lib.hid (HBD.out j hlt)
        have hb01 := HB2.out j
        clear hs hx1 hx2 HJ
        generalize Tr.bd kk j = d at *
        generalize (Tr.enc (Tr.kid t j)).length = ln at *
        generalize Tr.evN p (Tr.kid t j) (n + d) = q at *
        obtain ⟨hb0, hb1⟩ := hb01
        go_wp2_with fail
        refine (hbd.out _).mono ?_
        rintro e w2 ⟨rfl, hg2⟩
        go_wp2_with fail
        refine (hih.out _ (hB.trans hg2)).mono ?_
        rintro e w3 ⟨rfl, hg3⟩
        have hB3 := (hB.trans hg2).trans hg3
        cases q with
        | true =>
          have hv : Hid (R = Tr.evL p kk ((Tr.kids t).drop (j + 1)) (j + 1) n) := Lib.hid (by rw [HSS.out, Bool.true_and])
          go_wp2_with fail
          go_roundw
          case rel => exact ⟨j + 1, by omega, by go_num, hB3, hv⟩
          case measure => simp [intOf]; omega
        | false =>
          have hv : Hid (R = false) := Lib.hid (by rw [HSS.out, Bool.false_and])
          go_wp2_with fail
          go_ret
          rw [hv.out]
          exact ⟨rfl, hg1.trans hB3⟩
      · obtain rfl : j = m := by omega
        have hv : Hid (R = true) := Lib.hid (by rw [HJ.out, HZ.out]; omega)
        go_wp2_with fail
        go_ret
        rw [hv.out]
        exact ⟨rfl, hg1.trans hB⟩
end Go.Proofs.YthofkdpmgjkgkaaGreat

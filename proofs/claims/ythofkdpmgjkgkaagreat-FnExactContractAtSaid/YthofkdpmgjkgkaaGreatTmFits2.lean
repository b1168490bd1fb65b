/- Does a term fit: fitsContext, contextCode, FitsContext of the program; l26Fits, FitsContext of the reference. -/
import Derived.Test.YthofkdpmgjkgkaaGreatTmFits
namespace Go.Proofs.YthofkdpmgjkgkaaGreat
open Go.RowKit
open Tr (Tm)

theorem tmB_tree {xs : List Tn} (h : tmB xs = true) : ∃ t, Good t ∧ Tr.enc t = xs ∧ xs.length ≤ 60 := by
  unfold tmB at h
  simp only [Bool.and_eq_true, decide_eq_true_eq, Bool.not_eq_true', beq_iff_eq] at h
  obtain ⟨⟨⟨h1, h2⟩, h3⟩, h4⟩ := h
  have hall : ∀ x ∈ xs, GoodN x := by
    intro x hx
    obtain ⟨i, hi, rfl⟩ := List.getElem_of_mem hx
    have := anyT_none h3 hi
    unfold GoodN
    rw [tk_lt hi]
    simpa [noTn] using this
  have hs : Tr.scan xs 1 = some xs.length := by
    unfold Tr.pend at h4
    rw [List.drop_zero] at h4
    cases hz : Tr.scan xs 1 with
    | none => rw [hz] at h4; simp only [Tr.pval] at h4; omega
    | some n => rw [hz] at h4; simp only [Tr.pval] at h4; congr 1; omega
  obtain ⟨t, ht, he⟩ := Tr.tree_of hs hall
  exact ⟨t, ht, he, h2⟩
/-- The tree of a list that is a term's. -/
noncomputable def tmT (xs : List Tn) : Tm := @dite _ (tmB xs = true) (Classical.propDecidable _) (fun h => Classical.choose (tmB_tree h)) (fun _ => .t0 (0, 0, ByteArray.empty))
theorem tmT_ok {xs : List Tn} (h : tmB xs = true) : Good (tmT xs) ∧ Tr.enc (tmT xs) = xs ∧ xs.length ≤ 60 := by
  unfold tmT
  rw [dif_pos h]
  exact Classical.choose_spec (tmB_tree h)

def ltP (a b : Int) : Bool := decide (a < b)
theorem fitsContext1_ok : HoldsOk 93 ltP := by
  intro a b w
  unfold ltP
  go_enter Tryz.func93, Tryz.ntmps93
  go_wp2_with fail
  go_ret
  exact ⟨rfl, Grew.refl _⟩
theorem fitsContext_c (v : Value) (t : Tm) (n : Int) (w : World) (h : Tms w v (Tr.enc t)) (hg : Good t) (hn : (Tr.enc t).length ≤ 100000) (h0 : 0 ≤ n) (h1 : n + (Tr.enc t).length ≤ 1000000) :
    Calls Tryz.prog 53 #[v, .int .i64 n] w fun e w' => e = .returned (.bool (Tr.evN ltP t n)) ∧ Grew w w' := by
  have HE := Lib.hid (everyNumber_c _ _ fitsContext1_ok (enters_of Tryz.func93 (by kernel_rfl) rfl) t hg v n w h hn h0 h1)
  clear h hg
  generalize Tr.evN ltP t n = R at *
  go_enter Tryz.func53, Tryz.ntmps53
  go_wp2_with fail
  refine HE.out.mono ?_
  rintro e w1 ⟨rfl, hg1⟩
  go_wp2_with fail
  go_ret
  exact ⟨rfl, hg1⟩

/-- The rest of a term with one part. -/
theorem sub_one {w : World} {b o c : Nat} {x : Tn} {a : Tm} (h : Tms w (.slice (some ⟨b, o, none⟩) ((Tr.enc a).length + 1) c) (x :: Tr.enc a)) (hc : (Tr.enc a).length + 1 ≤ c) (hc2 : c ≤ 9223372036854775807) : Tms w (.slice (some ⟨b, o + 3, none⟩) (Tr.enc a).length (c - 1)) (Tr.enc a) := by
  have := h.sub 1 (Tr.enc a).length (c - 1) (by simp; omega) (by omega) (by omega)
  simpa using this
theorem ar_one {k : Int} (h : Tr.ar k = 1) : k = 1 ∨ k = 4 ∨ k = 5 ∨ k = 6 ∨ k = 7 ∨ k = 9 := by
  unfold Tr.ar at h
  split at h
  · assumption
  · split at h
    · omega
    · split at h <;> omega
theorem ar_two {k : Int} (h : Tr.ar k = 2) : k = 2 ∨ k = 3 := by
  unfold Tr.ar at h
  split at h
  · omega
  · split at h
    · assumption
    · split at h <;> omega
theorem ar_three {k : Int} (h : Tr.ar k = 3) : k = 8 := by
  unfold Tr.ar at h
  split at h
  · omega
  · split at h
    · omega
    · split at h
      · assumption
      · omega
theorem l26Fits_c : ∀ t : Tm, Good t → ∀ (v : Value) (n : Int) (w : World), Tms w v (Tr.enc t) → (Tr.enc t).length ≤ 100000 → 0 ≤ n → n + (Tr.enc t).length ≤ 1000000 →
    Calls Tryz.prog 47 #[v, .int .i64 n] w fun e w' => e = .returned (.bool (Tr.evN ltP t n)) ∧ Grew w w' := by
  intro t
  refine Tr.ind (P := fun t => Good t → ∀ (v : Value) (n : Int) (w : World), Tms w v (Tr.enc t) → (Tr.enc t).length ≤ 100000 → 0 ≤ n → n + (Tr.enc t).length ≤ 1000000 →
    Calls Tryz.prog 47 #[v, .int .i64 n] w fun e w' => e = .returned (.bool (Tr.evN ltP t n)) ∧ Grew w w') ?_ t
  intro t ih hg v n w h hlen hn0 hn1
  have HP := fun k (hk : k < (Tr.kids t).length) W (hW : Grew w W) => l26Part_c v t k W (h.grew hW) hg (by omega) hk
  have IH := fun k (hk : k < (Tr.kids t).length) u d W (hd0 : 0 ≤ d) (hd1 : d ≤ 1) hu => ih _ (Tr.kid_mem hk) (Tr.kids_wf hg _ (Tr.kid_mem hk)) u (n + d) W hu (by have := Tr.kid_small hk; omega) (by omega) (by have := Tr.kid_small hk; omega)
  have hgk := good_leaf hg
  obtain ⟨b, o, c, rfl, hc, hm, hb, hcl⟩ := tms_head h
  have k0 := (hcl _ (Grew.refl w)).1
  cases t with
  | t0 x =>
    have hx : x.1 = 0 := hgk.1 rfl
    have k1 := (hcl _ (Grew.refl w)).2.1
    simp only [Tr.hd, hx] at k0 k1
    show Calls _ _ _ _ (fun e w' => e = .returned (.bool (ltP x.2.1 n)) ∧ Grew w w')
    unfold ltP
    generalize x.2.1 = a at *
    clear hcl HP IH h hgk hg ih
    simp only [Tr.enc, List.length_singleton] at *
    go_enter Tryz.func47, Tryz.ntmps47
    go_wp2_with fail
    go_ret
    exact ⟨rfl, Grew.refl _⟩
  | t1 x a =>
    have hx := ar_one (show Tr.ar x.1 = 1 from hg.1.1)
    have hpos := Tr.enc_pos a
    simp only [Tr.hd] at k0
    have hsub := sub_one (x := x) (a := a) (by simpa [Tr.enc] using h) (by simpa [Tr.enc] using hc) hm
    have I := Lib.hid (fun d W hd0 hd1 hu => IH 0 (by simp [Tr.kids]) (.slice (some ⟨b, o + 3, none⟩) (Tr.enc a).length (c - 1)) d W hd0 hd1 hu)
    simp only [Tr.kid, Tr.kids, List.getD_cons_zero] at I
    show Calls _ _ _ _ (fun e w' => e = .returned (.bool (Tr.evN ltP a (n + Tr.bd x.1 0))) ∧ Grew w w')
    have hlc : (Tr.enc (.t1 x a)).length = (Tr.enc a).length + 1 := by simp [Tr.enc]
    rw [hlc] at hc hlen hn1 ⊢
    have HS := Lib.hid hsub
    clear hsub hcl HP IH h hgk hg ih hlc
    generalize x.1 = k at *
    have hc1 : ¬ c = 1 := by omega
    rcases hx with rfl | rfl | rfl | rfl | rfl | rfl
    · have II := Lib.hid (I.out 1 w (by omega) (by omega) HS.out)
      rw [show Tr.bd 1 0 = 1 from rfl]
      clear I HS
      generalize Tr.evN ltP a (n + 1) = R at *
      generalize (Tr.enc a).length = la at *
      go_enter Tryz.func47, Tryz.ntmps47
      go_wp2_with fail
      refine II.out.mono ?_
      rintro e w1 ⟨rfl, hg1⟩
      go_wp2_with fail
      go_ret
      exact ⟨rfl, hg1⟩
    all_goals
      have II := I.out 0 w (by omega) (by omega) HS.out
      rw [Int.add_zero] at II
      replace II := Lib.hid II
      rw [show n + Tr.bd _ 0 = n from by rw [show Tr.bd _ 0 = 0 from rfl, Int.add_zero]]
      clear I HS
      generalize Tr.evN ltP a n = R at *
      generalize (Tr.enc a).length = la at *
      go_enter Tryz.func47, Tryz.ntmps47
      go_wp2_with fail
      refine II.out.mono ?_
      rintro e w1 ⟨rfl, hg1⟩
      go_wp2_with fail
      go_ret
      exact ⟨rfl, hg1⟩
  | t2 x a b' =>
    have hx := ar_two (show Tr.ar x.1 = 2 from hg.1.1)
    simp only [Tr.hd] at k0
    have P0 := Lib.hid (HP 0 (by simp [Tr.kids]))
    have P1 := Lib.hid (HP 1 (by simp [Tr.kids]))
    have I0 := Lib.hid (fun u W hu => IH 0 (by simp [Tr.kids]) u 0 W (by omega) (by omega) hu)
    have I1 := Lib.hid (fun u W hu => IH 1 (by simp [Tr.kids]) u 0 W (by omega) (by omega) hu)
    simp only [Tr.kid, Tr.kids, List.getD_cons_zero, List.getD_cons_succ, Int.add_zero] at I0 I1 P0 P1
    show Calls _ _ _ _ (fun e w' => e = .returned (.bool (Tr.evN ltP a (n + Tr.bd x.1 0) && Tr.evN ltP b' (n + Tr.bd x.1 1))) ∧ Grew w w')
    have hpos := Tr.enc_pos (.t2 x a b')
    clear hcl HP IH h hgk hg ih
    generalize (Tr.enc (.t2 x a b')).length = ll at *
    generalize x.1 = k at *
    rcases hx with rfl | rfl
    all_goals
      rw [show n + Tr.bd _ 0 = n from by rw [show Tr.bd _ 0 = 0 from rfl, Int.add_zero], show n + Tr.bd _ 1 = n from by rw [show Tr.bd _ 1 = 0 from rfl, Int.add_zero]]
      generalize Tr.evN ltP a n = R0 at *
      generalize Tr.evN ltP b' n = R1 at *
      cases R0 with
      | true =>
        go_enter Tryz.func47, Tryz.ntmps47
        go_wp2_with fail
        refine (P0.out _ (Grew.refl w)).mono ?_
        rintro e w1 ⟨u0, rfl, hu0, hg1⟩
        go_wp2_with fail
        refine (I0.out _ _ hu0).mono ?_
        rintro e w2 ⟨rfl, hg2⟩
        go_wp2_with fail
        refine (P1.out _ (hg1.trans hg2)).mono ?_
        rintro e w3 ⟨u1, rfl, hu1, hg3⟩
        go_wp2_with fail
        refine (I1.out _ _ hu1).mono ?_
        rintro e w4 ⟨rfl, hg4⟩
        go_wp2_with fail
        go_ret
        exact ⟨by simp, ((hg1.trans hg2).trans hg3).trans hg4⟩
      | false =>
        go_enter Tryz.func47, Tryz.ntmps47
        go_wp2_with fail
        refine (P0.out _ (Grew.refl w)).mono ?_
        rintro e w1 ⟨u0, rfl, hu0, hg1⟩
        go_wp2_with fail
        refine (I0.out _ _ hu0).mono ?_
        rintro e w2 ⟨rfl, hg2⟩
        go_wp2_with fail
        go_ret
        exact ⟨by simp, hg1.trans hg2⟩
  | t3 x a b' c' =>
    have hx := ar_three (show Tr.ar x.1 = 3 from hg.1.1)
    simp only [Tr.hd] at k0
    have P0 := Lib.hid (HP 0 (by simp [Tr.kids]))
    have P1 := Lib.hid (HP 1 (by simp [Tr.kids]))
    have P2 := Lib.hid (HP 2 (by simp [Tr.kids]))
    have I0 := Lib.hid (fun u W hu => IH 0 (by simp [Tr.kids]) u 0 W (by omega) (by omega) hu)
    have I1 := Lib.hid (fun u W hu => IH 1 (by simp [Tr.kids]) u 1 W (by omega) (by omega) hu)
    have I2 := Lib.hid (fun u W hu => IH 2 (by simp [Tr.kids]) u 1 W (by omega) (by omega) hu)
    simp only [Tr.kid, Tr.kids, List.getD_cons_zero, List.getD_cons_succ, Int.add_zero] at I0 I1 I2 P0 P1 P2
    show Calls _ _ _ _ (fun e w' => e = .returned (.bool (Tr.evN ltP a (n + Tr.bd x.1 0) && (Tr.evN ltP b' (n + Tr.bd x.1 1) && Tr.evN ltP c' (n + Tr.bd x.1 2)))) ∧ Grew w w')
    have hpos := Tr.enc_pos (.t3 x a b' c')
    clear hcl HP IH h hgk hg ih
    generalize (Tr.enc (.t3 x a b' c')).length = ll at *
    generalize x.1 = k at *
    subst hx
    rw [show n + Tr.bd _ 0 = n from by rw [show Tr.bd _ 0 = 0 from rfl, Int.add_zero], show Tr.bd 8 1 = 1 from rfl, show Tr.bd 8 2 = 1 from rfl]
    generalize Tr.evN ltP a n = R0 at *
    generalize Tr.evN ltP b' (n + 1) = R1 at *
    generalize Tr.evN ltP c' (n + 1) = R2 at *
    cases R0 with
    | true =>
      cases R1 with
      | true =>
        go_enter Tryz.func47, Tryz.ntmps47
        go_wp2_with fail
        refine (P0.out _ (Grew.refl w)).mono ?_
        rintro e w1 ⟨u0, rfl, hu0, hg1⟩
        go_wp2_with fail
        refine (I0.out _ _ hu0).mono ?_
        rintro e w2 ⟨rfl, hg2⟩
        go_wp2_with fail
        refine (P1.out _ (hg1.trans hg2)).mono ?_
        rintro e w3 ⟨u1, rfl, hu1, hg3⟩
        go_wp2_with fail
        refine (I1.out _ _ hu1).mono ?_
        rintro e w4 ⟨rfl, hg4⟩
        have hk4 := ((hg1.trans hg2).trans hg3).trans hg4
        go_wp2_with fail
        refine (P2.out _ hk4).mono ?_
        rintro e w5 ⟨u2, rfl, hu2, hg5⟩
        go_wp2_with fail
        refine (I2.out _ _ hu2).mono ?_
        rintro e w6 ⟨rfl, hg6⟩
        go_wp2_with fail
        go_ret
        exact ⟨by simp, (hk4.trans hg5).trans hg6⟩
      | false =>
        go_enter Tryz.func47, Tryz.ntmps47
        go_wp2_with fail
        refine (P0.out _ (Grew.refl w)).mono ?_
        rintro e w1 ⟨u0, rfl, hu0, hg1⟩
        go_wp2_with fail
        refine (I0.out _ _ hu0).mono ?_
        rintro e w2 ⟨rfl, hg2⟩
        go_wp2_with fail
        refine (P1.out _ (hg1.trans hg2)).mono ?_
        rintro e w3 ⟨u1, rfl, hu1, hg3⟩
        go_wp2_with fail
        refine (I1.out _ _ hu1).mono ?_
        rintro e w4 ⟨rfl, hg4⟩
        go_wp2_with fail
        go_ret
        exact ⟨by simp, ((hg1.trans hg2).trans hg3).trans hg4⟩
    | false =>
      go_enter Tryz.func47, Tryz.ntmps47
      go_wp2_with fail
      refine (P0.out _ (Grew.refl w)).mono ?_
      rintro e w1 ⟨u0, rfl, hu0, hg1⟩
      go_wp2_with fail
      refine (I0.out _ _ hu0).mono ?_
      rintro e w2 ⟨rfl, hg2⟩
      go_wp2_with fail
      go_ret
      exact ⟨by simp, hg1.trans hg2⟩
end Go.Proofs.YthofkdpmgjkgkaaGreat

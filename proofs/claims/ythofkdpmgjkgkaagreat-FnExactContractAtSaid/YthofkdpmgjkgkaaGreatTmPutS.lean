/- l26Put of the reference. -/
import Derived.Test.YthofkdpmgjkgkaaGreatTmMap
import Derived.Test.YthofkdpmgjkgkaaGreatTmIns0
namespace Go.Proofs.YthofkdpmgjkgkaaGreat
open Go.RowKit
open Tr (Tm)

set_option maxHeartbeats 800000 in
theorem l26Put_c (n : Int) (us : List Tn) (hl : us.length ≤ 900) (hok : NumOk us) (hn0 : 0 ≤ n) (hn1 : n ≤ 1000) :
    ∀ t : Tm, Good t → ∀ (v u : Value) (d : Int) (w : World), Tms w v (Tr.enc t) → (Tr.enc t).length ≤ 1000 → Tms w u us → 0 ≤ d → d + (Tr.enc t).length ≤ 2000 →
    Calls Tryz.prog 49 #[v, .int .i64 n, .int .i64 d, u] w (GivesT w (Tr.mapN (putN n us) t (n + 1 + d))) := by
  intro t
  refine Tr.ind (P := fun t => Good t → ∀ (v u : Value) (d : Int) (w : World), Tms w v (Tr.enc t) → (Tr.enc t).length ≤ 1000 → Tms w u us → 0 ≤ d → d + (Tr.enc t).length ≤ 2000 →
    Calls Tryz.prog 49 #[v, .int .i64 n, .int .i64 d, u] w (GivesT w (Tr.mapN (putN n us) t (n + 1 + d)))) ?_ t
  intro t ih hg v u d w h hlen hu hd0 hd1
  obtain ⟨b, o, c, rfl, hc, hm, hb, hcl⟩ := tms_head h
  have hpos := Tr.enc_pos t
  obtain ⟨k1, k2, k3⟩ := hcl _ (Grew.refl w)
  have hnum := tnB_num0 (Tr.hd_wf hg)
  obtain ⟨A, cu, rfl⟩ := tms_slice hu
  by_cases hleaf : Tr.kids t = []
  · have hk := (good_leaf hg).1 hleaf
    rw [Tr.mapN_leaf hleaf]
    have HR := Lib.hid (fun W (hW : Grew w W) => l26Shift_c _ us n d W (hu.grew hW) (by omega) hok hd0 (by omega))
    rw [hk] at k1
    have hhd : Tr.hd t = (0, (Tr.hd t).2.1, (Tr.hd t).2.2) := by rw [← hk]
    rw [hhd]
    generalize (Tr.hd t).2.1 = xn at *
    generalize (Tr.hd t).2.2 = xs at *
    have hal := (Grew.refl w).alloc (.cells #[.int .i64 0, .int .i64 xn, .string xs] 66)
    clear hcl ih hg h hk hleaf hu hok hhd
    generalize (Tr.enc t).length = nn at *
    by_cases he : xn = n
    · have hp : putN n us (0, xn, xs) (n + 1 + d) = raiseL n d us := by unfold putN; rw [if_pos he, show n + 1 + d - n - 1 = d by omega]
      rw [hp]
      clear hp
      subst he
      generalize raiseL xn d us = R at *
      generalize us.length = ul at *
      go_enter Tryz.func49, Tryz.ntmps49
      go_wp2_with fail
      refine (HR.out _ hal).mono ?_
      rintro e w1 ⟨q, rfl, hq, hg1⟩
      go_wp2_with fail
      go_ret
      exact ⟨_, rfl, hq.base hal.size, hal.trans hg1⟩
    · have hne : (xn == n) = false := by simpa using he
      by_cases hgt : n < xn
      · have hp : putN n us (0, xn, xs) (n + 1 + d) = [(0, xn - 1, xs)] := by unfold putN; rw [if_neg he, if_pos hgt]
        rw [hp]
        clear hp HR
        generalize us.length = ul at *
        have hone := fun W => OwnT.one W w.heap.size (0, xn - 1, xs)
        go_enter Tryz.func49, Tryz.ntmps49
        go_wp2_with fail
        go_ret
        have hal2 := (Grew.refl w).alloc (.cells #[.int .i64 0, .int .i64 (xn - 1), .string xs] 66)
        have h1 := hone _ hal2.size
        rw [World.size_alloc] at h1
        exact ⟨_, rfl, h1, hal2.alloc _⟩
      · have hp : putN n us (0, xn, xs) (n + 1 + d) = [(0, xn, xs)] := by unfold putN; rw [if_neg he, if_neg hgt]
        rw [hp]
        clear hp HR
        generalize us.length = ul at *
        have hone := fun W => OwnT.one W w.heap.size (0, xn, xs)
        go_enter Tryz.func49, Tryz.ntmps49
        go_wp2_with fail
        go_ret
        have h1 := hone _ hal.size
        rw [World.size_alloc] at h1
        exact ⟨_, rfl, h1, hal.alloc _⟩
  · have hk : ((Tr.hd t).1 == 0) = false := by
      have := mt (good_leaf hg).2 hleaf
      simpa using this
    have hm1 : 0 < (Tr.kids t).length := List.length_pos_iff.2 hleaf
    have hkl := Tr.kids_len hg
    have har := Tr.ar_le (Tr.hd t).1
    have hgk := good_kind hg
    have hpv : (if 0 ≤ (Tr.hd t).1 ∧ (Tr.hd t).1 ≤ 9 then (Tr.ar (Tr.hd t).1 : Int) else -1) = (((Tr.kids t).length : Nat) : Int) := by rw [if_pos hgk, hkl]
    have HPT := Lib.hid (fun w => l26Parts_c (Tr.hd t).1 w)
    rw [Tr.mapN_kids hleaf]
    have HP := Lib.hid (fun j (hj : j < (Tr.kids t).length) W (hW : Grew w W) => l26Part_c _ t j W (h.grew hW) hg (by omega) hj)
    have hFl : ∀ x m, (putN n us x m).length ≤ us.length + 1 := fun x m => putN_len n us x m
    have hM2 : us.length + 1 ≤ 1000 := by omega
    have HLN := Lib.hid (fun j hj => Nat.le_trans (Tr.mapL_len (by omega) hFl (t := t) (n := n + 1 + d) j hj) (Nat.mul_le_mul (show Tr.off t j ≤ 1000 from by
      rcases Nat.lt_or_ge j (Tr.kids t).length with hh | hh
      · have := Tr.off_end hh; omega
      · have e : Tr.off t j = Tr.off t (Tr.kids t).length := by unfold Tr.off; rw [List.take_of_length_le hh, List.take_length]
        rw [e]
        have := Tr.off_end (t := t) (i := (Tr.kids t).length - 1) (by omega)
        have e2 := Tr.off_next (t := t) (i := (Tr.kids t).length - 1) (by omega)
        rw [show (Tr.kids t).length - 1 + 1 = (Tr.kids t).length by omega] at e2
        omega) hM2))
    have HLN2 := Lib.hid (fun j m (hj : j < (Tr.kids t).length) => Nat.le_trans (Tr.mapN_len (by omega) hFl (Tr.kid t j) m) (Nat.mul_le_mul (show (Tr.enc (Tr.kid t j)).length ≤ 1000 from by have := Tr.kid_small hj; omega) hM2))
    have HIH := Lib.hid (fun i (hi : i < (Tr.kids t).length) x m W (hW : Grew w W) (hd0' : 0 ≤ m) (hd1' : m ≤ 1) hx => ih _ (Tr.kid_mem hi) (Tr.kids_wf hg _ (Tr.kid_mem hi)) x _ (d + m) W hx (by have := Tr.kid_small hi; omega) (hu.grew hW) (by omega) (by have := Tr.kid_small hi; omega))
    obtain ⟨ML, hML⟩ : ∃ ML, ML = Tr.mapL (putN n us) t (n + 1 + d) := ⟨_, rfl⟩
    have HST := Lib.hid (fun j => (by rw [hML, show Tr.mapL (putN n us) t (n + 1 + d) (j + 1) = Tr.mapL (putN n us) t (n + 1 + d) j ++ Tr.mapN (putN n us) (Tr.kid t j) (n + 1 + d + Tr.bd (Tr.hd t).1 j) from rfl, Int.add_assoc (n + 1)] : ML (j + 1) = ML j ++ Tr.mapN (putN n us) (Tr.kid t j) (n + 1 + (d + Tr.bd (Tr.hd t).1 j))))
    have HS0 : Hid (ML 0 = [((Tr.hd t).1, (Tr.hd t).2.1, (Tr.hd t).2.2)]) := Lib.hid (by rw [hML]; rfl)
    rw [← hML] at HLN ⊢
    clear hML hcl ih hg h hleaf hFl hgk hkl hu hok
    generalize (Tr.hd t).1 = kk at *
    generalize (Tr.hd t).2.1 = aa at *
    generalize (Tr.hd t).2.2 = zz at *
    generalize (Tr.enc t).length = nn at *
    generalize hMM : (Tr.kids t).length = m at *
    have hm3 : m ≤ 3 := by have h9 := hpv; split at h9 <;> omega
    generalize hpp : (if 0 ≤ kk ∧ kk ≤ 9 then (Tr.ar kk : Int) else -1) = pp at *
    clear hpp
    generalize us.length = ul at *
    have hal := (Grew.refl w).alloc (.cells #[.int .i64 kk, .int .i64 aa, .string zz] 66)
    have hone := OwnT.one (w.alloc (.cells #[.int .i64 kk, .int .i64 aa, .string zz] 66)) (w.alloc (.cells #[.int .i64 kk, .int .i64 aa, .string zz] 66)).heap.size (kk, aa, zz) (Nat.le_refl _)
    have hg0 := (Grew.refl (w.alloc (.cells #[.int .i64 kk, .int .i64 aa, .string zz] 66))).alloc (.cells #[.int .i64 kk, .int .i64 aa, .string zz] 66)
    have HC0 := Lib.hid (fun W (hW : Grew (w.alloc (.cells #[.int .i64 kk, .int .i64 aa, .string zz] 66)) W) => ((hW.cell (p := ⟨w.heap.size, 0, none⟩) (by simp)).trans (by simp) : W.cell? ⟨w.heap.size, 0, none⟩ = some (.int .i64 kk)))
    go_enter Tryz.func49, Tryz.ntmps49
    go_wp2_with fail
    go_loopw [10, 11] (fun vv i wr => ∃ j : Nat, j ≤ m ∧ i = .int .i64 j ∧ Grew (w.alloc (.cells #[.int .i64 kk, .int .i64 aa, .string zz] 66)) wr ∧ OwnT wr (w.alloc (.cells #[.int .i64 kk, .int .i64 aa, .string zz] 66)).heap.size vv (ML j)) (fun _ i _ => m - (intOf i).toNat)
    case atStart => exact ⟨0, Nat.zero_le _, rfl, hg0, by rw [HS0.out]; simpa using hone⟩
    case round =>
      clear hone hg0
      obtain ⟨j, hj, rfl, hB, hO⟩ := hrel
      have e0 : ∀ W, Grew wr W → W.cell? ⟨w.heap.size, 0, none⟩ = some (.int .i64 kk) := fun W hW => HC0.out W (hB.trans hW)
      have hrr := Grew.refl wr
      by_cases hlt : j < m
      · have hP := Lib.hid (fun W (hW : Grew (w.alloc (.cells #[.int .i64 kk, .int .i64 aa, .string zz] 66)) W) => HP.out j hlt W (hal.trans hW))
        have hl1 := HLN.out j hj
        have hl2 := HLN2.out j (n + 1 + (d + Tr.bd kk j)) hlt
        have hst := Lib.hid (HST.out j)
        have hltI : (j : Int) < (m : Int) := by omega
        cases h1 : (kk == 1) with
        | true =>
          have hbd : Tr.bd kk j = 1 := by unfold Tr.bd; rw [if_pos (.inl (by simpa using h1))]
          rw [hbd] at hst hl2
          have hih := Lib.hid (fun x W (hW : Grew (w.alloc (.cells #[.int .i64 kk, .int .i64 aa, .string zz] 66)) W) hx => HIH.out j hlt x 1 W (hal.trans hW) (by omega) (by omega) hx)
          clear hbd
          generalize Tr.mapN (putN n us) (Tr.kid t j) (n + 1 + (d + 1)) = X at *
          generalize ML j = Y at *
          go_wp2_with fail
          refine (HPT.out _).mono ?_
          rintro e w2 ⟨rfl, hg2⟩
          rw [hpv]
          have hB2 := hB.trans hg2
          go_wp2_with fail
          refine (hP.out _ hB2).mono ?_
          rintro e w3 ⟨x, rfl, hx, hg3⟩
          have hB3 := hB2.trans hg3
          go_wp2_with fail
          refine (hih.out _ _ hB3 hx).mono ?_
          rintro e w4 ⟨q, rfl, hq, hg4⟩
          have hk4 := (hg2.trans hg3).trans hg4
          have hO4 := hO.grew hk4
          have hB4 := hB.trans hk4
          go_wp2_with (first | (at_builtin; refine wpList_appT (w0 := w.alloc (.cells #[.int .i64 kk, .int .i64 aa, .string zz] 66)) _ _ rfl rfl _ Y rfl hO4 hB4 _ X rfl hq.tms (by omega) ?_; intro v5 w5 hown5 hg5 hgr5))
          go_roundw
          case rel => exact ⟨j + 1, by omega, by go_num, hg5, by rw [hst.out]; exact hown5⟩
          case measure => simp [intOf]; omega
        | false =>
          have n1 : kk ≠ 1 := by simpa using h1
          cases h8 : (kk == 8) with
          | true =>
            have e8 : kk = 8 := by simpa using h8
            by_cases hj0 : 0 < j
            · have hbd : Tr.bd kk j = 1 := by unfold Tr.bd; rw [if_pos (.inr ⟨e8, hj0⟩)]
              rw [hbd] at hst hl2
              have hih := Lib.hid (fun x W (hW : Grew (w.alloc (.cells #[.int .i64 kk, .int .i64 aa, .string zz] 66)) W) hx => HIH.out j hlt x 1 W (hal.trans hW) (by omega) (by omega) hx)
              have hj0' : decide ((0 : Int) < (j : Int)) = true := by simp; omega
              clear hbd e8 n1
              generalize Tr.mapN (putN n us) (Tr.kid t j) (n + 1 + (d + 1)) = X at *
              generalize ML j = Y at *
              go_wp2_with fail
              refine (HPT.out _).mono ?_
              rintro e w2 ⟨rfl, hg2⟩
              rw [hpv]
              have hB2 := hB.trans hg2
              go_wp2_with fail
              refine (hP.out _ hB2).mono ?_
              rintro e w3 ⟨x, rfl, hx, hg3⟩
              have hB3 := hB2.trans hg3
              go_wp2_with fail
              refine (hih.out _ _ hB3 hx).mono ?_
              rintro e w4 ⟨q, rfl, hq, hg4⟩
              have hk4 := (hg2.trans hg3).trans hg4
              have hO4 := hO.grew hk4
              have hB4 := hB.trans hk4
              go_wp2_with (first | (at_builtin; refine wpList_appT (w0 := w.alloc (.cells #[.int .i64 kk, .int .i64 aa, .string zz] 66)) _ _ rfl rfl _ Y rfl hO4 hB4 _ X rfl hq.tms (by omega) ?_; intro v5 w5 hown5 hg5 hgr5))
              go_roundw
              case rel => exact ⟨j + 1, by omega, by go_num, hg5, by rw [hst.out]; exact hown5⟩
              case measure => simp [intOf]; omega
            · have hbd : Tr.bd kk j = 0 := by unfold Tr.bd; rw [if_neg (by omega)]
              rw [hbd, Int.add_zero] at hst hl2
              have hih := fun x W (hW : Grew (w.alloc (.cells #[.int .i64 kk, .int .i64 aa, .string zz] 66)) W) hx => HIH.out j hlt x 0 W (hal.trans hW) (by omega) (by omega) hx
              rw [Int.add_zero] at hih
              replace hih := Lib.hid hih
              have hj0' : decide ((0 : Int) < (j : Int)) = false := by simp; omega
              clear hbd e8 n1
              generalize Tr.mapN (putN n us) (Tr.kid t j) (n + 1 + d) = X at *
              generalize ML j = Y at *
              go_wp2_with fail
              refine (HPT.out _).mono ?_
              rintro e w2 ⟨rfl, hg2⟩
              rw [hpv]
              have hB2 := hB.trans hg2
              go_wp2_with fail
              refine (hP.out _ hB2).mono ?_
              rintro e w3 ⟨x, rfl, hx, hg3⟩
              have hB3 := hB2.trans hg3
              go_wp2_with fail
              refine (hih.out _ _ hB3 hx).mono ?_
              rintro e w4 ⟨q, rfl, hq, hg4⟩
              have hk4 := (hg2.trans hg3).trans hg4
              have hO4 := hO.grew hk4
              have hB4 := hB.trans hk4
              go_wp2_with (first | (at_builtin; refine wpList_appT (w0 := w.alloc (.cells #[.int .i64 kk, .int .i64 aa, .string zz] 66)) _ _ rfl rfl _ Y rfl hO4 hB4 _ X rfl hq.tms (by omega) ?_; intro v5 w5 hown5 hg5 hgr5))
              go_roundw
              case rel => exact ⟨j + 1, by omega, by go_num, hg5, by rw [hst.out]; exact hown5⟩
              case measure => simp [intOf]; omega
          | false =>
            have n8 : kk ≠ 8 := by simpa using h8
            have hbd : Tr.bd kk j = 0 := by unfold Tr.bd; rw [if_neg (by omega)]
            rw [hbd, Int.add_zero] at hst hl2
            have hih := fun x W (hW : Grew (w.alloc (.cells #[.int .i64 kk, .int .i64 aa, .string zz] 66)) W) hx => HIH.out j hlt x 0 W (hal.trans hW) (by omega) (by omega) hx
            rw [Int.add_zero] at hih
            replace hih := Lib.hid hih
            clear hbd n8 n1
            generalize Tr.mapN (putN n us) (Tr.kid t j) (n + 1 + d) = X at *
            generalize ML j = Y at *
            go_wp2_with fail
            refine (HPT.out _).mono ?_
            rintro e w2 ⟨rfl, hg2⟩
            rw [hpv]
            have hB2 := hB.trans hg2
            go_wp2_with fail
            refine (hP.out _ hB2).mono ?_
            rintro e w3 ⟨x, rfl, hx, hg3⟩
            have hB3 := hB2.trans hg3
            go_wp2_with fail
            refine (hih.out _ _ hB3 hx).mono ?_
            rintro e w4 ⟨q, rfl, hq, hg4⟩
            have hk4 := (hg2.trans hg3).trans hg4
            have hO4 := hO.grew hk4
            have hB4 := hB.trans hk4
            go_wp2_with (first | (at_builtin; refine wpList_appT (w0 := w.alloc (.cells #[.int .i64 kk, .int .i64 aa, .string zz] 66)) _ _ rfl rfl _ Y rfl hO4 hB4 _ X rfl hq.tms (by omega) ?_; intro v5 w5 hown5 hg5 hgr5))
            go_roundw
            case rel => exact ⟨j + 1, by omega, by go_num, hg5, by rw [hst.out]; exact hown5⟩
            case measure => simp [intOf]; omega
      · obtain rfl : j = m := by omega
        go_wp2_with fail
        refine (HPT.out _).mono ?_
        rintro e w2 ⟨rfl, hg2⟩
        rw [hpv]
        go_wp2_with fail
        go_ret
        exact ⟨_, rfl, (hO.grew hg2).base hal.size, (hal.trans hB).trans hg2⟩
end Go.Proofs.YthofkdpmgjkgkaaGreat

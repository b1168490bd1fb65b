/- Texts in one file: LawMs. -/
import Derived.Test.YtmdbhcoioimlmaaGreatPc1
import Derived.Test.YtmdbhcoioimlmaaGreatPc2
import Derived.Test.YtmdbhcoioimlmaaGreatPc3
import Derived.Test.YtmdbhcoioimlmaaGreatPc4
set_option linter.all false

/- The law FnMinimalSides, walked. Printed by msgen.py. -/
namespace Go.Proofs.YtmdbhcoioimlmaaGreat
open Go.RowKit
open Fm (Nd Tree)

/-- Two lists of texts that are equal. -/
theorem words19_yes (v1 v2 : Value) (L : List ByteArray) (w : World) (h1 : Strs w v1 L) (h2 : Strs w v2 L) (hn : L.length ≤ 1099511627776) :
    Calls Tryz.prog 28 #[v1, v2] w fun e w' => e = .returned (.bool true) ∧ Grew w w' := by
  rcases h1.open_ with ⟨rfl, rfl⟩ | ⟨b1, o1, c1, rfl, hc1, hm1, hb1, hf⟩
  · obtain ⟨A, c, rfl⟩ := strs_slice h2
    go_enter Tryz.func28, Tryz.ntmps28
    go_wp2_with fail
    refine wp_loop_rounds 1 ?_; rw [rounds_succ]
    go_wp2_with fail
    go_ret
    exact ⟨rfl, Grew.refl _⟩
  · rcases h2.open_ with ⟨rfl, rfl⟩ | ⟨b2, o2, c2, rfl, hc2, hm2, hb2, hh⟩
    · go_enter Tryz.func28, Tryz.ntmps28
      go_wp2_with fail
      refine wp_loop_rounds 1 ?_; rw [rounds_succ]
      go_wp2_with fail
      go_ret
      exact ⟨rfl, Grew.refl _⟩
    · clear h1 h2
      have HF := Lib.hid hf
      have HH := Lib.hid hh
      clear hf hh
      generalize hN : L.length = n at *
      clear hN
      go_enter Tryz.func28, Tryz.ntmps28
      go_wp2_with fail
      go_loopw [5] (fun i wr => ∃ j : Nat, j ≤ n ∧ i = .int .i64 j ∧ Grew w wr) (fun i _ => n - (intOf i).toNat)
      case atStart => exact ⟨0, Nat.zero_le _, rfl, Grew.refl _⟩
      case round =>
        obtain ⟨j, hj, rfl, hB⟩ := hrel
        by_cases hlt : j < n
        · have k1 : ∀ W, Grew w W → W.cell? ⟨b1, o1 + j, none⟩ = some (.string (st L j)) := fun W hW => HF.out j hlt W hW
          have k2 : ∀ W, Grew w W → W.cell? ⟨b2, o2 + j, none⟩ = some (.string (st L j)) := fun W hW => HH.out j hlt W hW
          have k3 := k1 _ hB
          have k4 := k2 _ hB
          generalize st L j = x at *
          have hx : (x.toList != x.toList) = false := by simp
          go_wp2_with fail
          go_quiet (fail)
          go_wp2_with fail
          go_roundw
          case rel => exact ⟨j + 1, by omega, by go_num, by first | assumption | exact hB.drewN _⟩
          case measure => simp [intOf]; omega
        · go_wp2_with fail
          go_ret
          exact ⟨rfl, by assumption⟩

set_option maxHeartbeats 4000000 in
theorem lawMs_c (v : Value) (N : Nat) (w : World) (h : ArgB w v N) :
    Calls Tryz.prog 9 #[v] w fun e w' => e = .returned (.bool true) ∧ Grew w w' := by
  have HB := big_c v N w h.1
  by_cases hbig : 4096 < N
  · rw [decide_eq_true hbig] at HB
    replace HB := Lib.hid HB
    obtain ⟨⟨A, c, rfl⟩, _⟩ := h
    go_enter Tryz.func9, Tryz.ntmps9
    go_wp2_with fail
    refine HB.out.mono ?_
    rintro e w1 ⟨rfl, hg1⟩
    go_wp2_with fail
    go_ret
    exact ⟨rfl, hg1⟩
  rw [decide_eq_false hbig] at HB
  replace HB := Lib.hid HB
  have HD := Lib.hid (fun W (hW : Grew w W) => drawMl_c v N W (h.grew hW) (by omega))
  unfold DrawnMl at HD
  obtain ⟨⟨A, c, rfl⟩, _⟩ := h
  go_enter Tryz.func9, Tryz.ntmps9
  go_wp2_with fail
  refine HB.out.mono ?_
  rintro e w1 ⟨rfl, hg1⟩
  go_wp2_with fail
  refine (HD.out _ hg1).mono ?_
  rintro e w2 ⟨u, L, s, rfl, hL, hft, hlen, hsz, hg2⟩
  have g2 := hg1.trans hg2
  have HL := Lib.hid hL
  have hfit := Lib.hid hft
  have KI := Lib.hid (fun W (hW : Grew w2 W) => implMl_c u L s W (hL.grew hW) hfit.out (by omega) (by omega))
  have KS := Lib.hid (fun W (hW : Grew w2 W) => specMl_c u L s W (hL.grew hW) hfit.out (by omega) (by omega))
  have P1 := Lib.hid (fun W (hW : Grew w2 W) => implPv_c u L s W (hL.grew hW) hfit.out (by omega) (by omega))
  have PM := Lib.hid (fun x M W (hx : Strs W x M) (hf : Fits M) (hl : M.length ≤ 1048576) => implPv_c x M s W hx hf hl (by omega))
  have KD := Lib.hid (fun W (hW : Grew w2 W) => implId_c u L s W (hL.grew hW) hfit.out (by omega) (by omega))
  have KC := Lib.hid (fun W (hW : Grew w2 W) => implCo_c u L _ [s] (W.alloc (.cells #[.string s] 9)) ((hL.grew hW).grew ((Grew.refl W).alloc _)) (strs_litQ s W) hfit.out (by omega) (fits_one (by omega)) (by simp))
  have hcs := ms_cases L s
  have r2 := Grew.refl w2
  obtain ⟨A2, c2, rfl⟩ := strs_slice hL
  unfold GivesS2 at KI KS KC
  unfold GivesBI at P1 KD PM
  clear hL hft HB HD
  generalize L.length = n at *
  rcases hcs with ⟨q, hml, hq, hpv⟩ | ⟨M, D, hms⟩
  · rw [hml] at KI KS
    clear hml KD KC PM HL
    have hqq : (q != q) = false := by simp
    obtain ⟨pr, hpr⟩ : ∃ pr, pr = pvF L s := ⟨_, rfl⟩
    rw [← hpr] at P1 hpv
    clear hpr
    obtain ⟨pa, pb⟩ := pr
    simp only at P1 KI KS
    have hfin : Hid ((q != 4) = true ∨ (q = 4 ∧ pa = false ∧ pb = 0)) := Lib.hid (hpv.imp id (fun ⟨h1, h2⟩ => ⟨h1, by cases h2; exact ⟨rfl, rfl⟩⟩))
    clear hpv
    go_wp2_with fail
    refine (KI.out _ r2).mono ?_
    rintro e w3 ⟨x3, rfl, ho3, hg3⟩
    have HO3 := Lib.hid ho3.strs
    obtain ⟨A3, c3, rfl⟩ := strs_slice ho3.strs
    clear ho3
    go_wp2_with fail
    refine (KS.out _ hg3).mono ?_
    rintro e w4 ⟨x4, rfl, ho4, hg4⟩
    have KW := Lib.hid (words19_yes _ _ [] w4 (HO3.out.grew hg4) ho4.strs (by simp))
    obtain ⟨A4, c4, rfl⟩ := strs_slice ho4.strs
    clear ho4
    have k4 := hg3.trans hg4
    simp only [List.length_nil] at *
    go_wp2_with fail
    refine (KW.out).mono ?_
    rintro e w5 ⟨rfl, hg5⟩
    have k5 := k4.trans hg5
    go_wp2_with fail
    refine (P1.out _ k5).mono ?_
    rintro e w6 ⟨rfl, hg6⟩
    rcases hfin.out with h4 | ⟨rfl, rfl, rfl⟩
    · go_wp2_with fail
      go_ret
      exact ⟨by first | rfl | simp_all, g2.trans (k5.trans hg6)⟩
    · go_wp2_with fail
      go_ret
      exact ⟨by first | rfl | simp_all, g2.trans (k5.trans hg6)⟩
  obtain ⟨h1, h2, h3, h4, h5, h6, h7, h8⟩ := hms
  rw [h1] at KI KS
  rw [h2] at P1
  rw [h5] at KD
  rw [h6] at KC
  simp only at KI KS P1 KD KC
  have HPM := Lib.hid (fun x W (hx : Strs W x M) => (by have := PM.out x M W hx h8 (by omega); rw [h3] at this; exact this : Calls Tryz.prog 13 #[x, .string s] W fun e w' => e = .returned (.tuple #[.bool true, .int .i64 0]) ∧ Grew W w'))
  have HPR := Lib.hid (fun i (hi : i < M.length) x W (hx : Strs W x (M.eraseIdx i)) => (by
    have := PM.out x (M.eraseIdx i) W hx (fun j hj => h8.erase i j hj) (by rw [List.length_eraseIdx]; split <;> omega)
    rw [h4 i hi] at this; exact this : Calls Tryz.prog 13 #[x, .string s] W fun e w' => e = .returned (.tuple #[.bool false, .int .i64 0]) ∧ Grew W w'))
  clear h1 h2 h3 h4 h5 h6 h8 HL PM
  generalize hm : M.length = m at *
  have HM := Lib.hid hm
  clear hm
  go_wp2_with fail
  refine (KI.out _ r2).mono ?_
  rintro e w3 ⟨x3, rfl, ho3, hg3⟩
  have HO3 := Lib.hid ho3.strs
  obtain ⟨A3, c3, rfl⟩ := strs_slice ho3.strs
  clear ho3
  rw [HM.out] at HO3 ⊢
  go_wp2_with fail
  refine (KS.out _ hg3).mono ?_
  rintro e w4 ⟨x4, rfl, ho4, hg4⟩
  have KW := Lib.hid (words19_yes _ _ M w4 (HO3.out.grew hg4) ho4.strs (by rw [HM.out]; omega))
  obtain ⟨A4, c4, rfl⟩ := strs_slice ho4.strs
  rw [HM.out] at KW ⊢
  clear ho4
  have k4 := hg3.trans hg4
  go_wp2_with fail
  refine (KW.out).mono ?_
  rintro e w5 ⟨rfl, hg5⟩
  have k5 := k4.trans hg5
  go_wp2_with fail
  refine (P1.out _ k5).mono ?_
  rintro e w6 ⟨rfl, hg6⟩
  have k6 := k5.trans hg6
  have HO6 := Lib.hid (HO3.out.grew ((hg4.trans hg5).trans hg6))
  go_wp2_with fail
  refine (HPM.out _ _ HO6.out).mono ?_
  rintro e w7 ⟨rfl, hg7⟩
  have k7 := Lib.hid (k6.trans hg7)
  have HO7 := Lib.hid (HO6.out.grew hg7)
  have HCL := Lib.hid (HO7.out.openA HM.out)
  have r7 := Lib.hid (Grew.refl w7)
  clear hg1 hg2 hg3 hg4 hg5 hg6 hg7 k4 k5 k6 HO3 HO6
  have G2 := Lib.hid g2
  clear g2 r2
  go_wp2_with fail
  go_loopw [13] (fun i wr => ∃ j : Nat, j ≤ m ∧ i = .int .i64 j ∧ Hid (Grew w7 wr)) (fun i _ => m - (intOf i).toNat)
  case atStart => exact ⟨0, Nat.zero_le _, rfl, r7⟩
  case round =>
    obtain ⟨j, hj, rfl, hB⟩ := hrel
    by_cases hlt : j < m
    · obtain ⟨b, o, rfl, hc, hcm, hb, hcell⟩ := HCL.out j hlt
      clear hcell
      have HR : Hid (∀ W, Grew w7 W → Rd W 1 (.slice (some ⟨b, o, none⟩) m c3) m (scells M)) := Lib.hid (fun W hW => by
        have := HO7.out.grew hW
        unfold Strs at this
        rwa [HM.out] at this)
      have R1 := Lib.hid (fun W (hW : Grew wr W) => rdS_take (HR.out W (hB.out.trans hW)) HM.out j hj)
      have R2 := Lib.hid (fun W (hW : Grew wr W) => rdS_tail (HR.out W (hB.out.trans hW)) HM.out (j + 1) (by omega) hc)
      have L1 := Lib.hid (show (M.take j).length ≤ m by rw [List.length_take, HM.out]; omega)
      have L2 := Lib.hid (show (M.drop (j + 1)).length ≤ m by rw [List.length_drop, HM.out]; omega)
      have i0 : (0 : Int) ≤ (j : Int) := by omega
      have i1 : (j : Int) ≤ (c3 : Int) := by omega
      have i2 : (j : Int) + 1 ≤ (m : Int) := by omega
      have i3 : (0 : Int) ≤ (j : Int) + 1 := by omega
      have i4 : IntKind.i64.wrap ((j : Int) + 1) = (j : Int) + 1 := by rw [IntKind.wrap_i64]; omega
      have hown0 : OwnS (wr.alloc (.cells #[] 9)).drew wr.heap.size (.slice (some ⟨wr.heap.size, 0, none⟩) 0 0) [] := own_emptyS' wr
      have hal := (Grew.refl wr).alloc (.cells #[] 9)
      have hg0 : Grew wr (wr.alloc (.cells #[] 9)).drew := hal.drew
      have hr0 := Grew.refl wr
      have hd0 := hr0.drew
      go_wp2_with fail
      go_region_held3 (fun w' => Grew wr w') (first | with_reducible assumption | exact Grew.alloc ‹_› _)
        (first
         | (have hz := hown1; refine step_appSs (w0 := wr) rfl _ _ rfl _ _ rfl hown1 hgq _ (M.drop (j + 1)) rfl (R2.out _ hgq) (by have := L1.out; have := L2.out; simp only [List.nil_append]; omega) ?_; intro v17 w17 hown2 hg17)
         | (refine step_appSs (w0 := wr) rfl _ _ rfl _ [] rfl hown0 hg0 _ (M.take j) rfl (R1.out _ hg0) (by have := L1.out; simp only [List.length_nil, Nat.zero_add]; omega) ?_; intro v16 w16 hown1 hgq))
      clear R2
      generalize (if c3 = j + 1 then some (⟨b, o, none⟩ : Addr) else some ⟨b, o + (j + 1), none⟩) = tl
      rw [List.nil_append, ← List.eraseIdx_eq_take_drop_succ] at hown2
      have KR := Lib.hid (HPR.out j hlt _ _ hown2.strs)
      obtain ⟨A8, c8, rfl⟩ := strs_slice hown2.strs
      have HG := Lib.hid (hB.out.trans hg17)
      clear hown2 hown0 hal hg0 hr0 hd0 R1 hown1 hz hgq L1 L2 hg17
      generalize (M.eraseIdx j).length = m8 at *
      go_wp2_with fail
      refine (KR.out).mono ?_
      rintro e w18 ⟨rfl, hg18⟩
      have HG18 := Lib.hid (HG.out.trans hg18)
      go_wp2_with fail
      go_roundw
      case rel => exact ⟨j + 1, by omega, by go_num, HG18⟩
      case measure => simp [intOf]; omega
    · obtain rfl : j = m := by omega
      have kr := Lib.hid (k7.out.trans hB.out)
      go_wp2_with fail
      refine (KD.out _ kr.out).mono ?_
      rintro e w8 ⟨rfl, hg8⟩
      have k8 := Lib.hid (kr.out.trans hg8)
      go_wp2_with fail
      refine (KC.out _ k8.out).mono ?_
      rintro e w9 ⟨x9, rfl, ho9, hg9⟩
      obtain ⟨A9, c9, rfl⟩ := strs_slice ho9.strs
      rw [List.length_singleton]
      have HG9 := Lib.hid (G2.out.trans ((k8.out.alloc _).trans hg9))
      clear ho9
      cases D with
      | true =>
        go_wp2_with fail
        go_ret
        exact ⟨by first | rfl | simp_all, HG9.out⟩
      | false =>
        go_wp2_with fail
        go_ret
        exact ⟨by first | rfl | simp_all, HG9.out⟩
end Go.Proofs.YtmdbhcoioimlmaaGreat

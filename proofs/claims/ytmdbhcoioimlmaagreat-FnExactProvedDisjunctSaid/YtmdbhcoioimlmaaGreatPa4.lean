/- Texts in one file: Dir Id LawId Pd LawPd. -/
import Derived.Test.YtmdbhcoioimlmaaGreatPa1
import Derived.Test.YtmdbhcoioimlmaaGreatPa2
import Derived.Test.YtmdbhcoioimlmaaGreatPa3
set_option linter.all false

/- isDirect of the program, l23Direct of the reference. Printed by dirgen.py. -/
namespace Go.Proofs.YtmdbhcoioimlmaaGreat
open Go.RowKit
open Fm (Nd Tree)

/-- Is a formula direct for a left side? -/
noncomputable def dirB (Ts : List Tree) : Tree → Bool
  | .and x y => hasL Ts (.and x y) || (hasL Ts .fls || (dirB Ts x && dirB Ts y))
  | .or x y => hasL Ts (.or x y) || (hasL Ts .fls || (dirB Ts x || dirB Ts y))
  | .imp x y => hasL Ts (.imp x y) || (hasL Ts .fls || (if hasL Ts x = true then dirB Ts y else dc (EntL (Ts ++ [x]) y)))
  | t => hasL Ts t || hasL Ts .fls
theorem dirB_has {Ts : List Tree} {a : Tree} (h : hasL Ts a = true) : dirB Ts a = true := by cases a <;> simp [dirB, h]
theorem dirB_fls {Ts : List Tree} {a : Tree} (h : hasL Ts .fls = true) : dirB Ts a = true := by cases a <;> simp [dirB, h]
theorem dirB_and {Ts : List Tree} {x y : Tree} (h : hasL Ts (.and x y) = false) (h2 : hasL Ts .fls = false) : dirB Ts (.and x y) = (dirB Ts x && dirB Ts y) := by rw [dirB, h, h2]; rfl
theorem dirB_or {Ts : List Tree} {x y : Tree} (h : hasL Ts (.or x y) = false) (h2 : hasL Ts .fls = false) : dirB Ts (.or x y) = (dirB Ts x || dirB Ts y) := by rw [dirB, h, h2]; rfl
theorem dirB_imp {Ts : List Tree} {x y : Tree} (h : hasL Ts (.imp x y) = false) (h2 : hasL Ts .fls = false) : dirB Ts (.imp x y) = if hasL Ts x = true then dirB Ts y else dc (EntL (Ts ++ [x]) y) := by rw [dirB, h, h2]; rfl
theorem dirB_var {Ts : List Tree} {v : Fin 6} (h : hasL Ts (.var v) = false) (h2 : hasL Ts .fls = false) : dirB Ts (.var v) = false := by simp [dirB, h, h2]
theorem fls_ok : FmOk .fls := ⟨by show (1 : Nat) ≤ 40; omega, anyP_no (fun i hi => by
    have h1 : i < 1 := hi
    obtain rfl : i = 0 := by omega
    rfl)⟩
theorem putOf_ok' {M P : List Tree} {c : Tree} (hS : OkS M c) (h : PutOf M P) : OkS P c ∧ dc (EntL P c) = dc (EntL M c) := by
  have h2 := h.tot f2
  exact ⟨⟨h.ok, hS.2.1, by have := hS.2.2; unfold nu at *; omega⟩, dc_congr (entL_congr h.mem)⟩
theorem okS_imp {Ts : List Tree} {x y : Tree} (hL : ∀ t ∈ Ts, FmOk t) (h : FmOk (.imp x y)) (hl : tot nn Ts + nn (.imp x y) ≤ 20) : OkS (Ts ++ [x]) y := by
  obtain ⟨hx, hy⟩ := fmOk_imp h
  rw [nn_imp] at hl
  exact okS_mk (fun a ha => (List.mem_append.1 ha).elim (hL a) (ok_one hx a)) hy (by rw [tot_app, tot_one]; omega)

set_option maxHeartbeats 4000000 in
theorem isDirect_c (D M : Nat) (Ts : List Tree) (hL : ∀ t ∈ Ts, FmOk t) (v : Value) : ∀ (m : Nat) (a : Tree) (va : Value) (w : World), nn a < m → FmOk a → tot nn Ts + nn a ≤ 20 → Dec w D M → TL w v Ts → Nodes w va (Fm.enc a) →
    Calls Tryz.prog 36 #[.pointer (some ⟨D, 0, none⟩), v, va] w (Decides w D M (dirB Ts a)) := by
  intro m
  induction m with
  | zero => intro a va w h; omega
  | succ m ih =>
  intro a va w hm hf hl hD h ha
  unfold Decides at *
  have hn : Ts.length ≤ 1048576 := by
    have := Nat.le_trans (len_nu Ts a) (okS_mk hL hf hl).2.2
    exact this
  have HIH := Lib.hid ih
  have HF := Lib.hid hf
  have HL := Lib.hid hL
  have hFt : tx .fls = ⟨#[70]⟩ := rfl
  have KC := Lib.hid (fun W (hW : Grew w W) => contains_t v Ts a W (h.grew hW) hL hf (by omega))
  have KF := Lib.hid (fun W (hW : Grew w W) => contains_t v Ts .fls W (h.grew hW) hL fls_ok (by omega))
  rw [hFt] at KF
  have KT := Lib.hid (fun W (hW : Grew w W) => text_t a va W hf (ha.grew hW))
  have HT := Lib.hid h
  have HA := Lib.hid ha
  have HD := Lib.hid hD
  obtain ⟨Av, nv, cv, rfl⟩ := h.slice
  obtain ⟨bx, ox, nx, cx, rfl, hnx, hnxe, hkx⟩ := head_t ha
  have hnnx : (0 : Int) < (nx : Int) := by omega
  clear ih hf h ha hD hnxe hFt
  obtain ⟨q1, hq1⟩ : ∃ q, hasL Ts a = q := ⟨_, rfl⟩
  obtain ⟨q2, hq2⟩ : ∃ q, hasL Ts .fls = q := ⟨_, rfl⟩
  rw [hq1] at KC
  rw [hq2] at KF
  have HQ1 := Lib.hid hq1
  have HQ2 := Lib.hid hq2
  clear hq1 hq2
  cases q1 with
  | true =>
    rw [dirB_has HQ1.out]
    clear hkx HIH
    go_enter Tryz.func36, Tryz.ntmps36
    go_wp2_with fail
    refine (KT.out _ (Grew.refl w)).mono ?_
    rintro e w1 ⟨rfl, hg1⟩
    go_wp2_with fail
    refine (KC.out _ hg1).mono ?_
    rintro e w2 ⟨rfl, hg2⟩
    have g2 := hg1.trans hg2
    go_wp2_with fail
    go_ret
    exact ⟨rfl, DF.of_grew HD.out g2⟩
  | false =>
  cases q2 with
  | true =>
    rw [dirB_fls HQ2.out]
    clear hkx HIH
    go_enter Tryz.func36, Tryz.ntmps36
    go_wp2_with fail
    refine (KT.out _ (Grew.refl w)).mono ?_
    rintro e w1 ⟨rfl, hg1⟩
    go_wp2_with fail
    refine (KC.out _ hg1).mono ?_
    rintro e w2 ⟨rfl, hg2⟩
    have g2 := hg1.trans hg2
    go_wp2_with fail
    refine (KF.out _ g2).mono ?_
    rintro e w3 ⟨rfl, hg3⟩
    have g3 := g2.trans hg3
    go_wp2_with fail
    go_ret
    exact ⟨rfl, DF.of_grew HD.out g3⟩
  | false =>
  rcases fm_five HF.out with ⟨x, rfl⟩ | rfl | ⟨x, y, rfl⟩ | ⟨x, y, rfl⟩ | ⟨x, y, rfl⟩
  · rw [dirB_var HQ1.out HQ2.out]
    clear HIH
    go_enter Tryz.func36, Tryz.ntmps36
    go_wp2_with fail
    refine (KT.out _ (Grew.refl w)).mono ?_
    rintro e w1 ⟨rfl, hg1⟩
    go_wp2_with fail
    refine (KC.out _ hg1).mono ?_
    rintro e w2 ⟨rfl, hg2⟩
    have g2 := hg1.trans hg2
    go_wp2_with fail
    refine (KF.out _ g2).mono ?_
    rintro e w3 ⟨rfl, hg3⟩
    have g3 := g2.trans hg3
    have k0 := hkx _ g3
    simp only [kindOf] at k0
    go_wp2_with fail
    go_ret
    exact ⟨rfl, DF.of_grew HD.out g3⟩
  · have : dirB Ts .fls = false := by simp [dirB, HQ1.out]
    rw [this]
    clear HIH this
    go_enter Tryz.func36, Tryz.ntmps36
    go_wp2_with fail
    refine (KT.out _ (Grew.refl w)).mono ?_
    rintro e w1 ⟨rfl, hg1⟩
    go_wp2_with fail
    refine (KC.out _ hg1).mono ?_
    rintro e w2 ⟨rfl, hg2⟩
    have g2 := hg1.trans hg2
    go_wp2_with fail
    refine (KF.out _ g2).mono ?_
    rintro e w3 ⟨rfl, hg3⟩
    have g3 := g2.trans hg3
    have k0 := hkx _ g3
    simp only [kindOf] at k0
    go_wp2_with fail
    go_ret
    exact ⟨rfl, DF.of_grew HD.out g3⟩
  · rw [dirB_and HQ1.out HQ2.out]
    obtain ⟨hfx, hfy⟩ := fmOk_and HF.out
    have hnn := nn_and x y
    have KL := Lib.hid (fun W (hW : Grew w W) => first_t (two_and x y) HF.out _ W (HA.out.grew hW))
    have KR := Lib.hid (fun W (hW : DF w D M W) => second_t (two_and x y) HF.out _ W (nodes_df HA.out HD.out hW))
    have KX := Lib.hid (fun u W (hW : DF w D M W) (hu : Nodes W u (Fm.enc x)) => HIH.out x u W (by omega) hfx (by omega) hW.dec (HT.out.df HD.out hW) hu)
    have KY := Lib.hid (fun u W (hW : DF w D M W) (hu : Nodes W u (Fm.enc y)) => HIH.out y u W (by omega) hfy (by omega) hW.dec (HT.out.df HD.out hW) hu)
    clear HIH hnn hl hm
    generalize dirB Ts x = R at *
    generalize dirB Ts y = R2 at *
    cases R with
    | true =>
      go_enter Tryz.func36, Tryz.ntmps36
      go_wp2_with fail
      refine (KT.out _ (Grew.refl w)).mono ?_
      rintro e w1 ⟨rfl, hg1⟩
      go_wp2_with fail
      refine (KC.out _ hg1).mono ?_
      rintro e w2 ⟨rfl, hg2⟩
      have g2 := hg1.trans hg2
      go_wp2_with fail
      refine (KF.out _ g2).mono ?_
      rintro e w3 ⟨rfl, hg3⟩
      have g3 := g2.trans hg3
      have k0 := hkx _ g3
      simp only [kindOf] at k0
      go_wp2_with fail
      refine (KL.out _ g3).mono ?_
      rintro e w4 ⟨u, rfl, hu, hg4⟩
      have g4 := g3.trans hg4
      have HU := Lib.hid hu
      obtain ⟨A1, n1, c1, rfl⟩ := slice3 hu
      clear hu
      go_wp2_with fail
      refine (KX.out _ _ (DF.of_grew HD.out g4) HU.out).mono ?_
      rintro e w5 ⟨rfl, h5⟩
      have f5 := (DF.of_grew HD.out g4).trans h5
      go_wp2_with fail
      refine (KR.out _ f5).mono ?_
      rintro e w6 ⟨u2, rfl, hu2, hg6⟩
      have f6 := f5.grew hg6
      have HU2 := Lib.hid hu2
      obtain ⟨A2, n2, c2, rfl⟩ := slice3 hu2
      clear hu2
      go_wp2_with fail
      refine (KY.out _ _ f6 HU2.out).mono ?_
      rintro e w7 ⟨rfl, h7⟩
      go_wp2_with fail
      go_ret
      exact ⟨rfl, f6.trans h7⟩
    | false =>
      go_enter Tryz.func36, Tryz.ntmps36
      go_wp2_with fail
      refine (KT.out _ (Grew.refl w)).mono ?_
      rintro e w1 ⟨rfl, hg1⟩
      go_wp2_with fail
      refine (KC.out _ hg1).mono ?_
      rintro e w2 ⟨rfl, hg2⟩
      have g2 := hg1.trans hg2
      go_wp2_with fail
      refine (KF.out _ g2).mono ?_
      rintro e w3 ⟨rfl, hg3⟩
      have g3 := g2.trans hg3
      have k0 := hkx _ g3
      simp only [kindOf] at k0
      go_wp2_with fail
      refine (KL.out _ g3).mono ?_
      rintro e w4 ⟨u, rfl, hu, hg4⟩
      have g4 := g3.trans hg4
      have HU := Lib.hid hu
      obtain ⟨A1, n1, c1, rfl⟩ := slice3 hu
      clear hu
      go_wp2_with fail
      refine (KX.out _ _ (DF.of_grew HD.out g4) HU.out).mono ?_
      rintro e w5 ⟨rfl, h5⟩
      have f5 := (DF.of_grew HD.out g4).trans h5
      go_wp2_with fail
      go_ret
      exact ⟨rfl, f5⟩
  · rw [dirB_or HQ1.out HQ2.out]
    obtain ⟨hfx, hfy⟩ := fmOk_or HF.out
    have hnn := nn_or x y
    have KL := Lib.hid (fun W (hW : Grew w W) => first_t (two_or x y) HF.out _ W (HA.out.grew hW))
    have KR := Lib.hid (fun W (hW : DF w D M W) => second_t (two_or x y) HF.out _ W (nodes_df HA.out HD.out hW))
    have KX := Lib.hid (fun u W (hW : DF w D M W) (hu : Nodes W u (Fm.enc x)) => HIH.out x u W (by omega) hfx (by omega) hW.dec (HT.out.df HD.out hW) hu)
    have KY := Lib.hid (fun u W (hW : DF w D M W) (hu : Nodes W u (Fm.enc y)) => HIH.out y u W (by omega) hfy (by omega) hW.dec (HT.out.df HD.out hW) hu)
    clear HIH hnn hl hm
    generalize dirB Ts x = R at *
    generalize dirB Ts y = R2 at *
    cases R with
    | true =>
      go_enter Tryz.func36, Tryz.ntmps36
      go_wp2_with fail
      refine (KT.out _ (Grew.refl w)).mono ?_
      rintro e w1 ⟨rfl, hg1⟩
      go_wp2_with fail
      refine (KC.out _ hg1).mono ?_
      rintro e w2 ⟨rfl, hg2⟩
      have g2 := hg1.trans hg2
      go_wp2_with fail
      refine (KF.out _ g2).mono ?_
      rintro e w3 ⟨rfl, hg3⟩
      have g3 := g2.trans hg3
      have k0 := hkx _ g3
      simp only [kindOf] at k0
      go_wp2_with fail
      refine (KL.out _ g3).mono ?_
      rintro e w4 ⟨u, rfl, hu, hg4⟩
      have g4 := g3.trans hg4
      have HU := Lib.hid hu
      obtain ⟨A1, n1, c1, rfl⟩ := slice3 hu
      clear hu
      go_wp2_with fail
      refine (KX.out _ _ (DF.of_grew HD.out g4) HU.out).mono ?_
      rintro e w5 ⟨rfl, h5⟩
      have f5 := (DF.of_grew HD.out g4).trans h5
      go_wp2_with fail
      go_ret
      exact ⟨rfl, f5⟩
    | false =>
      go_enter Tryz.func36, Tryz.ntmps36
      go_wp2_with fail
      refine (KT.out _ (Grew.refl w)).mono ?_
      rintro e w1 ⟨rfl, hg1⟩
      go_wp2_with fail
      refine (KC.out _ hg1).mono ?_
      rintro e w2 ⟨rfl, hg2⟩
      have g2 := hg1.trans hg2
      go_wp2_with fail
      refine (KF.out _ g2).mono ?_
      rintro e w3 ⟨rfl, hg3⟩
      have g3 := g2.trans hg3
      have k0 := hkx _ g3
      simp only [kindOf] at k0
      go_wp2_with fail
      refine (KL.out _ g3).mono ?_
      rintro e w4 ⟨u, rfl, hu, hg4⟩
      have g4 := g3.trans hg4
      have HU := Lib.hid hu
      obtain ⟨A1, n1, c1, rfl⟩ := slice3 hu
      clear hu
      go_wp2_with fail
      refine (KX.out _ _ (DF.of_grew HD.out g4) HU.out).mono ?_
      rintro e w5 ⟨rfl, h5⟩
      have f5 := (DF.of_grew HD.out g4).trans h5
      go_wp2_with fail
      refine (KR.out _ f5).mono ?_
      rintro e w6 ⟨u2, rfl, hu2, hg6⟩
      have f6 := f5.grew hg6
      have HU2 := Lib.hid hu2
      obtain ⟨A2, n2, c2, rfl⟩ := slice3 hu2
      clear hu2
      go_wp2_with fail
      refine (KY.out _ _ f6 HU2.out).mono ?_
      rintro e w7 ⟨rfl, h7⟩
      go_wp2_with fail
      go_ret
      exact ⟨rfl, f6.trans h7⟩
  · rw [dirB_imp HQ1.out HQ2.out]
    obtain ⟨hfx, hfy⟩ := fmOk_imp HF.out
    have hS := okS_imp HL.out HF.out hl
    have hnn := nn_imp x y
    have KL := Lib.hid (fun W (hW : Grew w W) => first_t (two_imp x y) HF.out _ W (HA.out.grew hW))
    have KR := Lib.hid (fun W (hW : Grew w W) => second_t (two_imp x y) HF.out _ W (HA.out.grew hW))
    have KY := Lib.hid (fun u W (hW : DF w D M W) (hu : Nodes W u (Fm.enc y)) => HIH.out y u W (by omega) hfy (by omega) hW.dec (HT.out.df HD.out hW) hu)
    have KTx := Lib.hid (fun u W (hu : Nodes W u (Fm.enc x)) => text_t x u W hfx hu)
    have KTy := Lib.hid (fun u W (hu : Nodes W u (Fm.enc y)) => text_t y u W hfy hu)
    have KCx := Lib.hid (fun W (hW : Grew w W) => contains_t _ Ts x W (HT.out.grew hW) HL.out hfx (by omega))
    have KPut := Lib.hid (fun W (hW : Grew w W) => put_t _ _ Ts [x] (W.alloc (.cells #[.string (tx x)] 9)) ((HT.out.grew hW).grew ((Grew.refl W).alloc _)) TL.one HL.out (ok_one hfx) (by simp; omega))
    have KPr := Lib.hid (fun P u W (hP : PutOf (Ts ++ [x]) P) (hW : Dec W D M) (hu : TL W u P) => by
      have hm := putOf_ok' hS hP
      have := dprovable_c D M P y u W hm.1 hW hu
      rw [hm.2] at this
      exact this)
    unfold Decides at KPr
    clear HIH hnn hl hm hS
    generalize dirB Ts y = R at *
    generalize dc (EntL (Ts ++ [x]) y) = R2 at *
    generalize hasL Ts x = qx at *
    cases qx with
    | true =>
      go_enter Tryz.func36, Tryz.ntmps36
      go_wp2_with fail
      refine (KT.out _ (Grew.refl w)).mono ?_
      rintro e w1 ⟨rfl, hg1⟩
      go_wp2_with fail
      refine (KC.out _ hg1).mono ?_
      rintro e w2 ⟨rfl, hg2⟩
      have g2 := hg1.trans hg2
      go_wp2_with fail
      refine (KF.out _ g2).mono ?_
      rintro e w3 ⟨rfl, hg3⟩
      have g3 := g2.trans hg3
      have k0 := hkx _ g3
      simp only [kindOf] at k0
      go_wp2_with fail
      refine (KL.out _ g3).mono ?_
      rintro e w4 ⟨u, rfl, hu, hg4⟩
      have g4 := g3.trans hg4
      have HU := Lib.hid hu
      obtain ⟨A1, n1, c1, rfl⟩ := slice3 hu
      clear hu
      go_wp2_with fail
      refine (KTx.out _ _ HU.out).mono ?_
      rintro e w5 ⟨rfl, hg5⟩
      have g5 := g4.trans hg5
      go_wp2_with fail
      refine (KCx.out _ g5).mono ?_
      rintro e w6 ⟨rfl, hg6⟩
      have g6 := g5.trans hg6
      go_wp2_with fail
      refine (KR.out _ g6).mono ?_
      rintro e w7 ⟨u2, rfl, hu2, hg7⟩
      have g7 := g6.trans hg7
      have HU2 := Lib.hid hu2
      obtain ⟨A2, n2, c2, rfl⟩ := slice3 hu2
      clear hu2
      go_wp2_with fail
      refine (KY.out _ _ (DF.of_grew HD.out g7) HU2.out).mono ?_
      rintro e w8 ⟨rfl, h8⟩
      go_wp2_with fail
      go_ret
      exact ⟨rfl, (DF.of_grew HD.out g7).trans h8⟩
    | false =>
      go_enter Tryz.func36, Tryz.ntmps36
      go_wp2_with fail
      refine (KT.out _ (Grew.refl w)).mono ?_
      rintro e w1 ⟨rfl, hg1⟩
      go_wp2_with fail
      refine (KC.out _ hg1).mono ?_
      rintro e w2 ⟨rfl, hg2⟩
      have g2 := hg1.trans hg2
      go_wp2_with fail
      refine (KF.out _ g2).mono ?_
      rintro e w3 ⟨rfl, hg3⟩
      have g3 := g2.trans hg3
      have k0 := hkx _ g3
      simp only [kindOf] at k0
      go_wp2_with fail
      refine (KL.out _ g3).mono ?_
      rintro e w4 ⟨u, rfl, hu, hg4⟩
      have g4 := g3.trans hg4
      have HU := Lib.hid hu
      obtain ⟨A1, n1, c1, rfl⟩ := slice3 hu
      clear hu
      go_wp2_with fail
      refine (KTx.out _ _ HU.out).mono ?_
      rintro e w5 ⟨rfl, hg5⟩
      have g5 := g4.trans hg5
      go_wp2_with fail
      refine (KCx.out _ g5).mono ?_
      rintro e w6 ⟨rfl, hg6⟩
      have g6 := g5.trans hg6
      go_wp2_with fail
      refine (KL.out _ g6).mono ?_
      rintro e w7 ⟨u3, rfl, hu3, hg7⟩
      have g7 := g6.trans hg7
      have HU3 := Lib.hid hu3
      obtain ⟨A3, n3, c3, rfl⟩ := slice3 hu3
      clear hu3
      go_wp2_with fail
      refine (KTx.out _ _ HU3.out).mono ?_
      rintro e w8 ⟨rfl, hg8⟩
      have g8 := g7.trans hg8
      go_wp2_with fail
      refine (KPut.out _ g8).mono ?_
      rintro e w9 ⟨up, P, rfl, hP, hup, hg9⟩
      have g9 := (g8.alloc _).trans hg9
      have hTP : TL w9 up P := hup.strs
      have HUP := Lib.hid hTP
      obtain ⟨Ap, np, cp, rfl⟩ := hTP.slice
      clear hup hTP
      go_wp2_with fail
      refine (KR.out _ g9).mono ?_
      rintro e w10 ⟨u2, rfl, hu2, hg10⟩
      have g10 := g9.trans hg10
      have HU2 := Lib.hid hu2
      obtain ⟨A2, n2, c2, rfl⟩ := slice3 hu2
      clear hu2
      go_wp2_with fail
      refine (KTy.out _ _ HU2.out).mono ?_
      rintro e w11 ⟨rfl, hg11⟩
      have g11 := g10.trans hg11
      go_wp2_with fail
      refine (KPr.out P _ _ hP (HD.out.grew g11) (HUP.out.grew (hg10.trans hg11))).mono ?_
      rintro e w12 ⟨rfl, h12⟩
      go_wp2_with fail
      go_ret
      exact ⟨rfl, (DF.of_grew HD.out g11).trans h12⟩

/-! The reference's helpers by trees. -/
theorem says_t (v : Value) (L : List Tree) (a : Tree) (w : World) (h : TL w v L) (hL : ∀ b ∈ L, FmOk b) (ha : FmOk a) (hn : L.length ≤ 1099511627776) :
    Calls Tryz.prog 69 #[v, .string (tx a)] w fun e w' => e = .returned (.bool (hasL L a)) ∧ Grew w w' := by
  have h1 := l01Says_c v (L.map tx) (tx a) w h (by simpa using hn)
  rw [dc_congr (mem_tx hL ha)] at h1
  exact h1
theorem ltext_t (a : Tree) (v : Value) (w : World) (ha : FmOk a) (h : Nodes w v (Fm.enc a)) : Calls Tryz.prog 64 #[v] w fun e w' => e = .returned (.string (tx a)) ∧ Grew w w' :=
  (l02Text_c a v w h (by have := ha.1; omega)).mono fun _ _ h => h
theorem insB_put {L : List Tree} {x : Tree} {K : List ByteArray} (hL : ∀ b ∈ L, FmOk b) (hx : FmOk x) (h : InsB (L.map tx) (tx x) K) : ∃ P, K = P.map tx ∧ PutOf (L ++ [x]) P := by
  rcases h with ⟨rfl, hm⟩ | ⟨j, hj, rfl⟩
  · refine ⟨L, rfl, hL, fun a => ?_, fun f => by rw [tot_app]; omega⟩
    rw [List.mem_append, List.mem_singleton]
    exact ⟨.inl, fun h => h.elim id (fun e => e ▸ (mem_tx hL hx).1 hm)⟩
  · refine ⟨L.take j ++ [x] ++ L.drop j, by simp [List.map_take, List.map_drop], ?_, ?_, ?_⟩
    · intro a ha
      rw [List.mem_append, List.mem_append, List.mem_singleton] at ha
      rcases ha with (h | rfl) | h
      · exact hL a (List.mem_of_mem_take h)
      · exact hx
      · exact hL a (List.mem_of_mem_drop h)
    · intro a
      have e : a ∈ L ↔ a ∈ L.take j ∨ a ∈ L.drop j := by rw [← List.mem_append, List.take_append_drop]
      rw [List.mem_append, List.mem_append, List.mem_append, e]
      constructor
      · rintro ((h | h) | h)
        · exact .inl (.inl h)
        · exact .inr h
        · exact .inl (.inr h)
      · rintro ((h | h) | h)
        · exact .inl (.inl h)
        · exact .inr h
        · exact .inl (.inr h)
    · intro f
      have e : tot f (L.take j) + tot f (L.drop j) = tot f L := by rw [← tot_app, List.take_append_drop]
      rw [tot_app, tot_app, tot_app]
      omega
theorem lwith_t (v vt : Value) (L : List Tree) (x : Tree) (w : World) (h : TL w v L) (hk : TL w vt [x]) (hL : ∀ a ∈ L, FmOk a) (hx : FmOk x) (hn : L.length ≤ 1048576) :
    Calls Tryz.prog 72 #[v, vt] w fun e w' => ∃ u P, e = .returned u ∧ PutOf (L ++ [x]) P ∧ TL w' u P ∧ Grew w w' := by
  refine (l22With_c v vt (L.map tx) (tx x) w h hk (by simpa using hn)).mono ?_
  rintro e w' ⟨u, K, rfl, hu, hK, hg⟩
  obtain ⟨P, rfl, hP⟩ := insB_put hL hx hK
  exact ⟨u, P, rfl, hP, hu, hg⟩

set_option maxHeartbeats 4000000 in
theorem l23Direct_c (Ts : List Tree) (hL : ∀ t ∈ Ts, FmOk t) (v : Value) : ∀ (m : Nat) (a : Tree) (va : Value) (w : World), nn a < m → FmOk a → tot nn Ts + nn a ≤ 20 → TL w v Ts → Nodes w va (Fm.enc a) →
    Calls Tryz.prog 34 #[v, va] w fun e w' => e = .returned (.bool (dirB Ts a)) ∧ Grew w w' := by
  intro m
  induction m with
  | zero => intro a va w h; omega
  | succ m ih =>
  intro a va w hm hf hl h ha
  have hn : Ts.length ≤ 1048576 := by
    have := Nat.le_trans (len_nu Ts a) (okS_mk hL hf hl).2.2
    exact this
  have HIH := Lib.hid ih
  have HF := Lib.hid hf
  have HL := Lib.hid hL
  have hFt : tx .fls = ⟨#[70]⟩ := rfl
  have KC := Lib.hid (fun W (hW : Grew w W) => says_t v Ts a W (h.grew hW) hL hf (by omega))
  have KF := Lib.hid (fun W (hW : Grew w W) => says_t v Ts .fls W (h.grew hW) hL fls_ok (by omega))
  rw [hFt] at KF
  have KT := Lib.hid (fun W (hW : Grew w W) => ltext_t a va W hf (ha.grew hW))
  have HT := Lib.hid h
  have HA := Lib.hid ha
  obtain ⟨Av, nv, cv, rfl⟩ := h.slice
  obtain ⟨bx, ox, nx, cx, rfl, hnx, hnxe, hkx⟩ := head_t ha
  have hnnx : (0 : Int) < (nx : Int) := by omega
  clear ih hf h ha hnxe hFt
  obtain ⟨q1, hq1⟩ : ∃ q, hasL Ts a = q := ⟨_, rfl⟩
  obtain ⟨q2, hq2⟩ : ∃ q, hasL Ts .fls = q := ⟨_, rfl⟩
  rw [hq1] at KC
  rw [hq2] at KF
  have HQ1 := Lib.hid hq1
  have HQ2 := Lib.hid hq2
  clear hq1 hq2
  cases q1 with
  | true =>
    rw [dirB_has HQ1.out]
    clear hkx HIH
    go_enter Tryz.func34, Tryz.ntmps34
    go_wp2_with fail
    refine (KT.out _ (Grew.refl w)).mono ?_
    rintro e w1 ⟨rfl, hg1⟩
    go_wp2_with fail
    refine (KC.out _ hg1).mono ?_
    rintro e w2 ⟨rfl, hg2⟩
    have g2 := hg1.trans hg2
    go_wp2_with fail
    go_ret
    exact ⟨rfl, g2⟩
  | false =>
  cases q2 with
  | true =>
    rw [dirB_fls HQ2.out]
    clear hkx HIH
    go_enter Tryz.func34, Tryz.ntmps34
    go_wp2_with fail
    refine (KT.out _ (Grew.refl w)).mono ?_
    rintro e w1 ⟨rfl, hg1⟩
    go_wp2_with fail
    refine (KC.out _ hg1).mono ?_
    rintro e w2 ⟨rfl, hg2⟩
    have g2 := hg1.trans hg2
    go_wp2_with fail
    refine (KF.out _ g2).mono ?_
    rintro e w3 ⟨rfl, hg3⟩
    have g3 := g2.trans hg3
    go_wp2_with fail
    go_ret
    exact ⟨rfl, g3⟩
  | false =>
  rcases fm_five HF.out with ⟨x, rfl⟩ | rfl | ⟨x, y, rfl⟩ | ⟨x, y, rfl⟩ | ⟨x, y, rfl⟩
  · rw [dirB_var HQ1.out HQ2.out]
    clear HIH
    go_enter Tryz.func34, Tryz.ntmps34
    go_wp2_with fail
    refine (KT.out _ (Grew.refl w)).mono ?_
    rintro e w1 ⟨rfl, hg1⟩
    go_wp2_with fail
    refine (KC.out _ hg1).mono ?_
    rintro e w2 ⟨rfl, hg2⟩
    have g2 := hg1.trans hg2
    go_wp2_with fail
    refine (KF.out _ g2).mono ?_
    rintro e w3 ⟨rfl, hg3⟩
    have g3 := g2.trans hg3
    have k0 := hkx _ g3
    simp only [kindOf] at k0
    go_wp2_with fail
    go_ret
    exact ⟨rfl, g3⟩
  · have : dirB Ts .fls = false := by simp [dirB, HQ1.out]
    rw [this]
    clear HIH this
    go_enter Tryz.func34, Tryz.ntmps34
    go_wp2_with fail
    refine (KT.out _ (Grew.refl w)).mono ?_
    rintro e w1 ⟨rfl, hg1⟩
    go_wp2_with fail
    refine (KC.out _ hg1).mono ?_
    rintro e w2 ⟨rfl, hg2⟩
    have g2 := hg1.trans hg2
    go_wp2_with fail
    refine (KF.out _ g2).mono ?_
    rintro e w3 ⟨rfl, hg3⟩
    have g3 := g2.trans hg3
    have k0 := hkx _ g3
    simp only [kindOf] at k0
    go_wp2_with fail
    go_ret
    exact ⟨rfl, g3⟩
  · rw [dirB_and HQ1.out HQ2.out]
    obtain ⟨hfx, hfy⟩ := fmOk_and HF.out
    have hnn := nn_and x y
    have KL := Lib.hid (fun W (hW : Grew w W) => left_t (two_and x y) HF.out _ W (HA.out.grew hW))
    have KR := Lib.hid (fun W (hW : Grew w W) => right_t (two_and x y) HF.out _ W (HA.out.grew hW))
    have KX := Lib.hid (fun u W (hW : Grew w W) (hu : Nodes W u (Fm.enc x)) => HIH.out x u W (by omega) hfx (by omega) (HT.out.grew hW) hu)
    have KY := Lib.hid (fun u W (hW : Grew w W) (hu : Nodes W u (Fm.enc y)) => HIH.out y u W (by omega) hfy (by omega) (HT.out.grew hW) hu)
    unfold Cuts at KL KR
    clear HIH hnn hl hm
    generalize dirB Ts x = R at *
    generalize dirB Ts y = R2 at *
    cases R with
    | true =>
      go_enter Tryz.func34, Tryz.ntmps34
      go_wp2_with fail
      refine (KT.out _ (Grew.refl w)).mono ?_
      rintro e w1 ⟨rfl, hg1⟩
      go_wp2_with fail
      refine (KC.out _ hg1).mono ?_
      rintro e w2 ⟨rfl, hg2⟩
      have g2 := hg1.trans hg2
      go_wp2_with fail
      refine (KF.out _ g2).mono ?_
      rintro e w3 ⟨rfl, hg3⟩
      have g3 := g2.trans hg3
      have k0 := hkx _ g3
      simp only [kindOf] at k0
      go_wp2_with fail
      refine (KL.out _ g3).mono ?_
      rintro e w4 ⟨u, rfl, hu, hg4⟩
      have g4 := g3.trans hg4
      have HU := Lib.hid hu
      obtain ⟨A1, n1, c1, rfl⟩ := slice3 hu
      clear hu
      go_wp2_with fail
      refine (KX.out _ _ g4 HU.out).mono ?_
      rintro e w5 ⟨rfl, h5⟩
      have f5 := g4.trans h5
      go_wp2_with fail
      refine (KR.out _ f5).mono ?_
      rintro e w6 ⟨u2, rfl, hu2, hg6⟩
      have f6 := f5.trans hg6
      have HU2 := Lib.hid hu2
      obtain ⟨A2, n2, c2, rfl⟩ := slice3 hu2
      clear hu2
      go_wp2_with fail
      refine (KY.out _ _ f6 HU2.out).mono ?_
      rintro e w7 ⟨rfl, h7⟩
      go_wp2_with fail
      go_ret
      exact ⟨rfl, f6.trans h7⟩
    | false =>
      go_enter Tryz.func34, Tryz.ntmps34
      go_wp2_with fail
      refine (KT.out _ (Grew.refl w)).mono ?_
      rintro e w1 ⟨rfl, hg1⟩
      go_wp2_with fail
      refine (KC.out _ hg1).mono ?_
      rintro e w2 ⟨rfl, hg2⟩
      have g2 := hg1.trans hg2
      go_wp2_with fail
      refine (KF.out _ g2).mono ?_
      rintro e w3 ⟨rfl, hg3⟩
      have g3 := g2.trans hg3
      have k0 := hkx _ g3
      simp only [kindOf] at k0
      go_wp2_with fail
      refine (KL.out _ g3).mono ?_
      rintro e w4 ⟨u, rfl, hu, hg4⟩
      have g4 := g3.trans hg4
      have HU := Lib.hid hu
      obtain ⟨A1, n1, c1, rfl⟩ := slice3 hu
      clear hu
      go_wp2_with fail
      refine (KX.out _ _ g4 HU.out).mono ?_
      rintro e w5 ⟨rfl, h5⟩
      have f5 := g4.trans h5
      go_wp2_with fail
      go_ret
      exact ⟨rfl, f5⟩
  · rw [dirB_or HQ1.out HQ2.out]
    obtain ⟨hfx, hfy⟩ := fmOk_or HF.out
    have hnn := nn_or x y
    have KL := Lib.hid (fun W (hW : Grew w W) => left_t (two_or x y) HF.out _ W (HA.out.grew hW))
    have KR := Lib.hid (fun W (hW : Grew w W) => right_t (two_or x y) HF.out _ W (HA.out.grew hW))
    have KX := Lib.hid (fun u W (hW : Grew w W) (hu : Nodes W u (Fm.enc x)) => HIH.out x u W (by omega) hfx (by omega) (HT.out.grew hW) hu)
    have KY := Lib.hid (fun u W (hW : Grew w W) (hu : Nodes W u (Fm.enc y)) => HIH.out y u W (by omega) hfy (by omega) (HT.out.grew hW) hu)
    unfold Cuts at KL KR
    clear HIH hnn hl hm
    generalize dirB Ts x = R at *
    generalize dirB Ts y = R2 at *
    cases R with
    | true =>
      go_enter Tryz.func34, Tryz.ntmps34
      go_wp2_with fail
      refine (KT.out _ (Grew.refl w)).mono ?_
      rintro e w1 ⟨rfl, hg1⟩
      go_wp2_with fail
      refine (KC.out _ hg1).mono ?_
      rintro e w2 ⟨rfl, hg2⟩
      have g2 := hg1.trans hg2
      go_wp2_with fail
      refine (KF.out _ g2).mono ?_
      rintro e w3 ⟨rfl, hg3⟩
      have g3 := g2.trans hg3
      have k0 := hkx _ g3
      simp only [kindOf] at k0
      go_wp2_with fail
      refine (KL.out _ g3).mono ?_
      rintro e w4 ⟨u, rfl, hu, hg4⟩
      have g4 := g3.trans hg4
      have HU := Lib.hid hu
      obtain ⟨A1, n1, c1, rfl⟩ := slice3 hu
      clear hu
      go_wp2_with fail
      refine (KX.out _ _ g4 HU.out).mono ?_
      rintro e w5 ⟨rfl, h5⟩
      have f5 := g4.trans h5
      go_wp2_with fail
      go_ret
      exact ⟨rfl, f5⟩
    | false =>
      go_enter Tryz.func34, Tryz.ntmps34
      go_wp2_with fail
      refine (KT.out _ (Grew.refl w)).mono ?_
      rintro e w1 ⟨rfl, hg1⟩
      go_wp2_with fail
      refine (KC.out _ hg1).mono ?_
      rintro e w2 ⟨rfl, hg2⟩
      have g2 := hg1.trans hg2
      go_wp2_with fail
      refine (KF.out _ g2).mono ?_
      rintro e w3 ⟨rfl, hg3⟩
      have g3 := g2.trans hg3
      have k0 := hkx _ g3
      simp only [kindOf] at k0
      go_wp2_with fail
      refine (KL.out _ g3).mono ?_
      rintro e w4 ⟨u, rfl, hu, hg4⟩
      have g4 := g3.trans hg4
      have HU := Lib.hid hu
      obtain ⟨A1, n1, c1, rfl⟩ := slice3 hu
      clear hu
      go_wp2_with fail
      refine (KX.out _ _ g4 HU.out).mono ?_
      rintro e w5 ⟨rfl, h5⟩
      have f5 := g4.trans h5
      go_wp2_with fail
      refine (KR.out _ f5).mono ?_
      rintro e w6 ⟨u2, rfl, hu2, hg6⟩
      have f6 := f5.trans hg6
      have HU2 := Lib.hid hu2
      obtain ⟨A2, n2, c2, rfl⟩ := slice3 hu2
      clear hu2
      go_wp2_with fail
      refine (KY.out _ _ f6 HU2.out).mono ?_
      rintro e w7 ⟨rfl, h7⟩
      go_wp2_with fail
      go_ret
      exact ⟨rfl, f6.trans h7⟩
  · rw [dirB_imp HQ1.out HQ2.out]
    obtain ⟨hfx, hfy⟩ := fmOk_imp HF.out
    have hS := okS_imp HL.out HF.out hl
    have hnn := nn_imp x y
    have KL := Lib.hid (fun W (hW : Grew w W) => left_t (two_imp x y) HF.out _ W (HA.out.grew hW))
    have KR := Lib.hid (fun W (hW : Grew w W) => right_t (two_imp x y) HF.out _ W (HA.out.grew hW))
    have KY := Lib.hid (fun u W (hW : Grew w W) (hu : Nodes W u (Fm.enc y)) => HIH.out y u W (by omega) hfy (by omega) (HT.out.grew hW) hu)
    have KTx := Lib.hid (fun u W (hu : Nodes W u (Fm.enc x)) => ltext_t x u W hfx hu)
    have KTy := Lib.hid (fun u W (hu : Nodes W u (Fm.enc y)) => ltext_t y u W hfy hu)
    have KCx := Lib.hid (fun W (hW : Grew w W) => says_t _ Ts x W (HT.out.grew hW) HL.out hfx (by omega))
    have KPut := Lib.hid (fun W (hW : Grew w W) => lwith_t _ _ Ts x (W.alloc (.cells #[.string (tx x)] 9)) ((HT.out.grew hW).grew ((Grew.refl W).alloc _)) TL.one HL.out hfx (by omega))
    have KPr := Lib.hid (fun P u W (hP : PutOf (Ts ++ [x]) P) (hu : TL W u P) => by
      have hm := putOf_ok' hS hP
      have := l23Ok_c u P y W hm.1 hu
      rw [hm.2] at this
      exact this)
    unfold Cuts at KL KR
    clear HIH hnn hl hm hS
    generalize dirB Ts y = R at *
    generalize dc (EntL (Ts ++ [x]) y) = R2 at *
    generalize hasL Ts x = qx at *
    cases qx with
    | true =>
      go_enter Tryz.func34, Tryz.ntmps34
      go_wp2_with fail
      refine (KT.out _ (Grew.refl w)).mono ?_
      rintro e w1 ⟨rfl, hg1⟩
      go_wp2_with fail
      refine (KC.out _ hg1).mono ?_
      rintro e w2 ⟨rfl, hg2⟩
      have g2 := hg1.trans hg2
      go_wp2_with fail
      refine (KF.out _ g2).mono ?_
      rintro e w3 ⟨rfl, hg3⟩
      have g3 := g2.trans hg3
      have k0 := hkx _ g3
      simp only [kindOf] at k0
      go_wp2_with fail
      refine (KL.out _ g3).mono ?_
      rintro e w4 ⟨u, rfl, hu, hg4⟩
      have g4 := g3.trans hg4
      have HU := Lib.hid hu
      obtain ⟨A1, n1, c1, rfl⟩ := slice3 hu
      clear hu
      go_wp2_with fail
      refine (KTx.out _ _ HU.out).mono ?_
      rintro e w5 ⟨rfl, hg5⟩
      have g5 := g4.trans hg5
      go_wp2_with fail
      refine (KCx.out _ g5).mono ?_
      rintro e w6 ⟨rfl, hg6⟩
      have g6 := g5.trans hg6
      go_wp2_with fail
      refine (KR.out _ g6).mono ?_
      rintro e w7 ⟨u2, rfl, hu2, hg7⟩
      have g7 := g6.trans hg7
      have HU2 := Lib.hid hu2
      obtain ⟨A2, n2, c2, rfl⟩ := slice3 hu2
      clear hu2
      go_wp2_with fail
      refine (KY.out _ _ g7 HU2.out).mono ?_
      rintro e w8 ⟨rfl, h8⟩
      go_wp2_with fail
      go_ret
      exact ⟨rfl, g7.trans h8⟩
    | false =>
      go_enter Tryz.func34, Tryz.ntmps34
      go_wp2_with fail
      refine (KT.out _ (Grew.refl w)).mono ?_
      rintro e w1 ⟨rfl, hg1⟩
      go_wp2_with fail
      refine (KC.out _ hg1).mono ?_
      rintro e w2 ⟨rfl, hg2⟩
      have g2 := hg1.trans hg2
      go_wp2_with fail
      refine (KF.out _ g2).mono ?_
      rintro e w3 ⟨rfl, hg3⟩
      have g3 := g2.trans hg3
      have k0 := hkx _ g3
      simp only [kindOf] at k0
      go_wp2_with fail
      refine (KL.out _ g3).mono ?_
      rintro e w4 ⟨u, rfl, hu, hg4⟩
      have g4 := g3.trans hg4
      have HU := Lib.hid hu
      obtain ⟨A1, n1, c1, rfl⟩ := slice3 hu
      clear hu
      go_wp2_with fail
      refine (KTx.out _ _ HU.out).mono ?_
      rintro e w5 ⟨rfl, hg5⟩
      have g5 := g4.trans hg5
      go_wp2_with fail
      refine (KCx.out _ g5).mono ?_
      rintro e w6 ⟨rfl, hg6⟩
      have g6 := g5.trans hg6
      go_wp2_with fail
      refine (KPut.out _ g6).mono ?_
      rintro e w9 ⟨up, P, rfl, hP, hup, hg9⟩
      have g9 := (g6.alloc _).trans hg9
      have hTP : TL w9 up P := hup
      have HUP := Lib.hid hTP
      obtain ⟨Ap, np, cp, rfl⟩ := hTP.slice
      clear hup hTP
      go_wp2_with fail
      refine (KR.out _ g9).mono ?_
      rintro e w10 ⟨u2, rfl, hu2, hg10⟩
      have g10 := g9.trans hg10
      have HU2 := Lib.hid hu2
      obtain ⟨A2, n2, c2, rfl⟩ := slice3 hu2
      clear hu2
      go_wp2_with fail
      refine (KTy.out _ _ HU2.out).mono ?_
      rintro e w11 ⟨rfl, hg11⟩
      have g11 := g10.trans hg11
      go_wp2_with fail
      refine (KPr.out P _ _ hP (HUP.out.grew (hg10.trans hg11))).mono ?_
      rintro e w12 ⟨rfl, h12⟩
      go_wp2_with fail
      go_ret
      exact ⟨rfl, g11.trans h12⟩
end Go.Proofs.YtmdbhcoioimlmaaGreat

/- IsDirect of both sides. -/
namespace Go.Proofs.YtmdbhcoioimlmaaGreat
open Go.RowKit
open Fm (Nd Tree)

noncomputable def idF (L : List ByteArray) (s : ByteArray) : Bool × Int := if qcode L s = 0 then (dirB (L.map fo) (fo s), 0) else (false, qcode L s)
theorem idF_bad {L : List ByteArray} {s : ByteArray} (h : qcode L s ≠ 0) : idF L s = (false, qcode L s) := by unfold idF; rw [if_neg h]
theorem idF_ok {L : List ByteArray} {s : ByteArray} {Ts : List Tree} {c : Tree} (h : qcode L s = 0) (hq : QOk L s Ts c) : idF L s = (dirB Ts c, 0) := by
  unfold idF
  rw [if_pos h, hq.left, hq.right, map_fo_tx hq.ok, fo_tx hq.okc]
set_option maxHeartbeats 2000000 in
theorem implId_c (v : Value) (L : List ByteArray) (s : ByteArray) (w : World) (h : Strs w v L) (hs : Fits L) (hn : L.length ≤ 1048576) (hsz : s.size ≤ 1048576) :
    Calls Tryz.prog 16 #[v, .string s] w (GivesBI w (idF L s)) := by
  unfold GivesBI
  have K1 := Lib.hid (goalCode_c v L s w h hs hn hsz)
  by_cases hz : qcode L s = 0
  · obtain ⟨Ts, c, hq⟩ := qOk_of hz
    rw [idF_ok hz hq]
    rw [hz] at K1
    have hT : TL w v Ts := by have := hq.left; subst this; exact h
    have hpf : (Fm.pf s).1 = Fm.enc c := by rw [hq.right, tx_pf hq.okc.1]
    have KN := Lib.hid newDecider_c
    have KP := Lib.hid (fun W => parsed_c s W (by omega))
    have KD := Lib.hid (fun D M va W (hW : Grew w W) (hD : Dec W D M) (ha : Nodes W va (Fm.enc c)) => isDirect_c D M Ts hq.ok v (nn c + 1) c va W (by omega) hq.okc hq.size hD (hT.grew hW) ha)
    unfold Decides at KD
    unfold GivesN at KP
    rw [hpf] at KP
    obtain ⟨A, k, rfl⟩ := strs_slice h
    clear h hs hz hq hT hpf
    generalize dirB Ts c = R at *
    go_enter Tryz.func16, Tryz.ntmps16
    go_wp2_with fail
    refine (K1.out).mono ?_
    rintro e w1 ⟨rfl, hg1⟩
    go_wp2_with fail
    refine (KN.out _).mono ?_
    rintro e w2 ⟨D, M, rfl, hD, hM, hg2⟩
    have HD := Lib.hid hD
    have HM := Lib.hid hM
    clear hD hM
    go_wp2_with fail
    refine (KP.out _).mono ?_
    rintro e w3 ⟨va, rfl, hva, hg3, _⟩
    have HVA := Lib.hid hva.nodes
    obtain ⟨A3, n3, c3, rfl⟩ := slice3 hva.nodes
    clear hva
    have g3 := (hg1.trans hg2).trans hg3
    go_wp2_with fail
    refine (KD.out D M _ _ g3 (HD.out.grew hg3) HVA.out).mono ?_
    rintro e w4 ⟨rfl, h4⟩
    go_wp2_with fail
    go_ret2
    exact ⟨rfl, h4.only.grew_of g3 (Nat.le_trans hg1.size HM.out)⟩
  · rw [idF_bad hz]
    obtain ⟨A, k, rfl⟩ := strs_slice h
    clear h hs
    generalize qcode L s = q at *
    have hk : (q != 0) = true := by simpa using hz
    go_enter Tryz.func16, Tryz.ntmps16
    go_wp2_with fail
    refine (K1.out).mono ?_
    rintro e w1 ⟨rfl, hg1⟩
    go_wp2_with fail
    go_ret2
    exact ⟨rfl, hg1⟩
set_option maxHeartbeats 2000000 in
theorem specId_c (v : Value) (L : List ByteArray) (s : ByteArray) (w : World) (h : Strs w v L) (hs : Fits L) (hn : L.length ≤ 1048576) (hsz : s.size ≤ 1048576) :
    Calls Tryz.prog 15 #[v, .string s] w (GivesBI w (idF L s)) := by
  unfold GivesBI
  have K1 := Lib.hid (l23Code_c v L s w h hs hn hsz)
  by_cases hz : qcode L s = 0
  · obtain ⟨Ts, c, hq⟩ := qOk_of hz
    rw [idF_ok hz hq]
    rw [hz] at K1
    have hT : TL w v Ts := by have := hq.left; subst this; exact h
    have hpf : (Fm.pf s).1 = Fm.enc c := by rw [hq.right, tx_pf hq.okc.1]
    have KP := Lib.hid (fun W => l22Formula_c s W (by omega))
    have KD := Lib.hid (fun va W (hW : Grew w W) (ha : Nodes W va (Fm.enc c)) => l23Direct_c Ts hq.ok v (nn c + 1) c va W (by omega) hq.okc hq.size (hT.grew hW) ha)
    unfold GivesP at KP
    rw [hpf] at KP
    obtain ⟨A, k, rfl⟩ := strs_slice h
    clear h hs hz hq hT hpf
    generalize dirB Ts c = R at *
    generalize gp s = g at *
    go_enter Tryz.func15, Tryz.ntmps15
    go_wp2_with fail
    refine (K1.out).mono ?_
    rintro e w1 ⟨rfl, hg1⟩
    go_wp2_with fail
    refine (KP.out _).mono ?_
    rintro e w3 ⟨va, rfl, hva, hg3⟩
    have HVA := Lib.hid hva.nodes
    obtain ⟨A3, n3, c3, rfl⟩ := slice3 hva.nodes
    clear hva
    have g3 := hg1.trans hg3
    go_wp2_with fail
    refine (KD.out _ _ g3 HVA.out).mono ?_
    rintro e w4 ⟨rfl, h4⟩
    go_wp2_with fail
    go_ret2
    exact ⟨rfl, g3.trans h4⟩
  · rw [idF_bad hz]
    obtain ⟨A, k, rfl⟩ := strs_slice h
    clear h hs
    generalize qcode L s = q at *
    have hk : (q != 0) = true := by simpa using hz
    go_enter Tryz.func15, Tryz.ntmps15
    go_wp2_with fail
    refine (K1.out).mono ?_
    rintro e w1 ⟨rfl, hg1⟩
    go_wp2_with fail
    go_ret2
    exact ⟨rfl, hg1⟩
end Go.Proofs.YtmdbhcoioimlmaaGreat

/- The law FnExactIsDirect, walked. -/
namespace Go.Proofs.YtmdbhcoioimlmaaGreat
open Go.RowKit

theorem lawId_c (v0 : Value) (L0 : List ByteArray) (s1 : ByteArray) (w : World) (h0 : ArgS w v0 L0) :
    Calls Tryz.prog 4 #[v0, .string s1] w fun e w' => e = .returned (.bool true) ∧ Grew w w' := by
  by_cases hbig1 : 1048576 < s1.size
  · clear h0
    go_enter Tryz.func4, Tryz.ntmps4
    go_wp2_with fail
    go_ret
    exact ⟨rfl, Grew.refl _⟩
  have Z0 := Lib.hid (fun W l (hW : Grew w W) (a0 : 0 ≤ l) (a1 : l ≤ 1048576) => szStringS_c v0 L0 l W (h0.grew hW) a0 a1)
  have T0 := Lib.hid (fun W (hW : Grew w W) => toStringS_c v0 L0 W (h0.grew hW))
  clear h0
  go_enter Tryz.func4, Tryz.ntmps4
  go_wp2_with fail
  refine (Z0.out _ _ (Grew.refl w) (by omega) (by omega)).mono ?_
  rintro e w1 ⟨r0, rfl, ⟨hm0, hs0⟩, hg1⟩
  have z1 := Lib.hid hg1.size
  have g1 : Grew w w1 := (Grew.refl w).trans hg1
  clear hg1
  by_cases hr0 : r0 < 0
  · clear hs0
    go_wp2_with fail
    go_ret
    exact ⟨rfl, g1⟩
  obtain ⟨hn0, hf0⟩ := hs0 (by omega)
  have F0 : Hid (Fits L0) := Lib.hid hf0
  clear hs0 hf0
  have KS := Lib.hid (fun u0 W x0 => specId_c u0 L0 s1 W x0 F0.out (by omega) (by omega))
  have KI := Lib.hid (fun u0 W x0 => implId_c u0 L0 s1 W x0 F0.out (by omega) (by omega))
  unfold GivesBI at KS KI
  generalize idF L0 s1 = rr at *
  obtain ⟨ra, rc⟩ := rr
  simp only at KS KI
  have hc1 : (rc != rc) = false := by simp
  have ha1 : (ra != ra) = false := by simp
  go_wp2_with fail
  refine (T0.out _ g1 hn0).mono ?_
  rintro e w2 ⟨a0, rfl, oa0, hg2⟩
  have z2 := Lib.hid hg2.size
  have g2 : Grew w w2 := g1.trans hg2
  clear hg2
  go_wp2_with fail
  refine (KS.out _ _ oa0.strs).mono ?_
  rintro e w3 ⟨rfl, hg3⟩
  have z3 := Lib.hid hg3.size
  have g3 : Grew w w3 := g2.trans hg3
  clear hg3 oa0
  go_wp2_with fail
  refine (T0.out _ g3 hn0).mono ?_
  rintro e w4 ⟨x0, rfl, ox0, hg4⟩
  have z4 := Lib.hid hg4.size
  have g4 : Grew w w4 := g3.trans hg4
  clear hg4
  go_wp2_with fail
  refine (KI.out _ _ ox0.strs).mono ?_
  rintro e w5 ⟨rfl, hg5⟩
  have z5 := Lib.hid hg5.size
  have g5 : Grew w w5 := g4.trans hg5
  replace ox0 := ox0.grew hg5
  clear hg5
  go_wp2_with fail
  refine (T0.out _ g5 hn0).mono ?_
  rintro e w6 ⟨y0, rfl, oy0, hg6⟩
  have z6 := Lib.hid hg6.size
  have g6 : Grew w w6 := g5.trans hg6
  replace ox0 := ox0.grew hg6
  clear hg6
  go_wp2_with fail
  refine (eqStringS_yes _ _ L0 _ ox0.strs oy0.strs (by omega)).mono ?_
  rintro e w7 ⟨rfl, hg7⟩
  have z7 := Lib.hid hg7.size
  have g7 : Grew w w7 := g6.trans hg7
  replace ox0 := ox0.grew hg7
  clear hg7 oy0
  go_wp2_with fail
  go_ret
  exact ⟨rfl, g7⟩
end Go.Proofs.YtmdbhcoioimlmaaGreat

/- ProvedDisjunct of both sides. Printed by pdgen.py. -/
namespace Go.Proofs.YtmdbhcoioimlmaaGreat
open Go.RowKit
open Fm (Nd Tree)

theorem isQ_of {L : List ByteArray} {s : ByteArray} (h1 : isQ L s = true) : ∃ (Ts : List Tree) (c : Tree), L = Ts.map tx ∧ s = tx c ∧ (∀ a ∈ Ts, FmOk a) ∧ FmOk c := by
  unfold isQ at h1
  simp only [Bool.and_eq_true] at h1
  obtain ⟨hg, ha, _⟩ := h1
  obtain ⟨c, hc, rfl⟩ := gp_tree hg
  have hL : ∀ x ∈ L, gp x = true := by
    intro x hx
    obtain ⟨i, hi, rfl⟩ := List.getElem_of_mem hx
    have h3 : AscP L L.length := by
      unfold ascP at ha
      exact @of_decide_eq_true _ (Classical.propDecidable _) ha
    rw [st_eq hi]
    exact (h3 i hi).1
  refine ⟨L.map fo, c, ?_, rfl, ?_, hc⟩
  · rw [List.map_map]
    have : ∀ x ∈ L, (tx ∘ fo) x = id x := fun x hx => (fo_ok (hL x hx)).2
    rw [List.map_congr_left this, List.map_id]
  · intro a hm
    obtain ⟨x, hx, rfl⟩ := List.mem_map.1 hm
    exact (fo_ok (hL x hx)).1
def orI (r1 r2 r3 : Bool) : Int := if r1 = true then 1 else if r2 = true then 2 else if r3 = true then 0 else -1
noncomputable def pdF (L : List ByteArray) (a b : ByteArray) : Int × Int :=
  if (isQ L a && gp b) = true then
    (if szL L + (1 + (Fm.pf a).1.length + (Fm.pf b).1.length) ≤ 20 then (orI (dc (EntL (L.map fo) (fo a))) (dc (EntL (L.map fo) (fo b))) (dc (EntL (L.map fo) (.or (fo a) (fo b)))), 0) else (0, 3))
  else (0, 1)
theorem pdF_no {L : List ByteArray} {a b : ByteArray} (h : (isQ L a && gp b) = false) : pdF L a b = (0, 1) := by unfold pdF; rw [h]; rfl
theorem pdF_big {L : List ByteArray} {a b : ByteArray} (h : (isQ L a && gp b) = true) (h2 : ¬ szL L + (1 + (Fm.pf a).1.length + (Fm.pf b).1.length) ≤ 20) : pdF L a b = (0, 3) := by unfold pdF; rw [if_pos h, if_neg h2]
theorem pdF_ok {Ts : List Tree} {ta tb : Tree} (hL : ∀ a ∈ Ts, FmOk a) (ha : FmOk ta) (hb : FmOk tb) (h : (isQ (Ts.map tx) (tx ta) && gp (tx tb)) = true) (h2 : szL (Ts.map tx) + (1 + (Fm.pf (tx ta)).1.length + (Fm.pf (tx tb)).1.length) ≤ 20) :
    pdF (Ts.map tx) (tx ta) (tx tb) = (orI (dc (EntL Ts ta)) (dc (EntL Ts tb)) (dc (EntL Ts (.or ta tb))), 0) := by
  unfold pdF
  rw [if_pos h, if_pos h2, map_fo_tx hL, fo_tx ha, fo_tx hb]
theorem fmOk_or_mk {a b : Tree} (ha : FmOk a) (hb : FmOk b) (h : 1 + (Fm.enc a).length + (Fm.enc b).length ≤ 40) : FmOk (.or a b) := FmOk.join (k := 3) rfl (by omega) ha hb (by simp [Fm.enc]; omega)
theorem okS_pd {Ts : List Tree} {ta tb : Tree} (hL : ∀ a ∈ Ts, FmOk a) (ha : FmOk ta) (hb : FmOk tb) (h : tot nn Ts + (1 + (Fm.enc ta).length + (Fm.enc tb).length) ≤ 20) : OkS Ts ta ∧ OkS Ts tb ∧ OkS Ts (.or ta tb) :=
  ⟨okS_mk hL ha (by unfold nn at *; omega), okS_mk hL hb (by unfold nn at *; omega), okS_mk hL (fmOk_or_mk ha hb (by omega)) (by have := nn_or ta tb; unfold nn at *; omega)⟩

set_option maxHeartbeats 4000000 in
theorem implPd_c (v : Value) (L : List ByteArray) (a b : ByteArray) (w : World) (h : Strs w v L) (hs : Fits L) (hn : L.length ≤ 1048576) (ha : a.size ≤ 1048576) (hb : b.size ≤ 1048576) :
    Calls Tryz.prog 18 #[v, .string a, .string b] w (GivesII w (pdF L a b)) := by
  unfold GivesII
  have K1 := Lib.hid (isSequent_c v L a w h hs hn (by omega))
  have hQ : (gp a && (ascP L && decide (L.length ≤ 12))) = isQ L a := rfl
  rw [hQ] at K1
  have K2 := Lib.hid (fun W => isPlainText_c b W (by omega))
  clear hQ
  cases hq : isQ L a with
  | false =>
    rw [pdF_no (by rw [hq]; rfl)]
    rw [hq] at K1
    obtain ⟨A, k, rfl⟩ := strs_slice h
    clear h hs hq
    go_enter Tryz.func18, Tryz.ntmps18
    go_wp2_with fail
    refine (K1.out).mono ?_
    rintro e w1 ⟨rfl, hg1⟩
    go_wp2_with fail
    go_ret2
    exact ⟨rfl, hg1⟩
  | true =>
  cases hgb : gp b with
  | false =>
    rw [pdF_no (by rw [hq, hgb]; rfl)]
    rw [hq] at K1
    rw [hgb] at K2
    obtain ⟨A, k, rfl⟩ := strs_slice h
    clear h hs hq hgb
    go_enter Tryz.func18, Tryz.ntmps18
    go_wp2_with fail
    refine (K1.out).mono ?_
    rintro e w1 ⟨rfl, hg1⟩
    go_wp2_with fail
    refine (K2.out _).mono ?_
    rintro e w2 ⟨rfl, hg2⟩
    have g2 := hg1.trans hg2
    go_wp2_with fail
    go_ret2
    exact ⟨rfl, g2⟩
  | true =>
  rw [hq] at K1
  rw [hgb] at K2
  have hcond : (isQ L a && gp b) = true := by rw [hq, hgb]; rfl
  obtain ⟨Ts, ta, rfl, rfl, hok, hta⟩ := isQ_of hq
  obtain ⟨tb, htb, rfl⟩ := gp_tree hgb
  have hT : TL w v Ts := h
  have K3 := Lib.hid (fun W => parsed_c (tx ta) W (by omega))
  have K4 := Lib.hid (fun W => parsed_c (tx tb) W (by omega))
  have K5 := Lib.hid (fun W (hW : Grew w W) => nodesOf_c v (Ts.map tx) W (h.grew hW) hs hn)
  unfold GivesN at K3 K4
  have p1 := congrArg Prod.fst (tx_pf hta.1)
  have p2 := congrArg Prod.fst (tx_pf htb.1)
  simp only at p1 p2
  rw [p1] at K3
  rw [p2] at K4
  have KJ := Lib.hid (fun u u2 W (hu : Nodes W u (Fm.enc ta)) (hu2 : Nodes W u2 (Fm.enc tb)) => join_c 3 u u2 _ _ W hu hu2 (by have := hta.1; have := htb.1; omega))
  have hj : Fm.join 3 (Fm.enc ta) (Fm.enc tb) = Fm.enc (.or ta tb) := rfl
  rw [hj] at KJ
  unfold Gives at KJ
  have hlj : (Fm.enc (.or ta tb)).length = 1 + (Fm.enc ta).length + (Fm.enc tb).length := by simp [Fm.enc]; omega
  have hz1 := hta.1
  have hz2 := htb.1
  have hm81 : (Fm.enc (.or ta tb)).length ≤ 81 := by omega
  have hzl := szL_le (Ts.map tx)
  have hsz := szL_map hok
  obtain ⟨A, n, k, rfl⟩ := hT.slice
  by_cases hbig : szL (Ts.map tx) + (1 + (Fm.pf (tx ta)).1.length + (Fm.pf (tx tb)).1.length) ≤ 20
  case neg =>
    rw [pdF_big hcond hbig]
    rw [p1, p2, ← hlj] at hbig
    clear h hs hq hgb hcond hT hsz hj p1 p2 hlj
    generalize szL (Ts.map tx) = z at *
    generalize hlo : (Fm.enc (Tree.or ta tb)).length = m at *
    have hlo9 := Lib.hid hlo
    clear hlo
    go_enter Tryz.func18, Tryz.ntmps18
    go_wp2_with fail
    refine (K1.out).mono ?_
    rintro e w1 ⟨rfl, hg1⟩
    go_wp2_with fail
    refine (K2.out _).mono ?_
    rintro e w2 ⟨rfl, hg2⟩
    have g2 := hg1.trans hg2
    go_wp2_with fail
    refine (K3.out _).mono ?_
    rintro e w3 ⟨u3, rfl, hu3, hg3, _⟩
    have HU3 := Lib.hid hu3.nodes
    obtain ⟨A3, n3, c3, rfl⟩ := slice3 hu3.nodes
    clear hu3
    go_wp2_with fail
    refine (K4.out _).mono ?_
    rintro e w4 ⟨u4, rfl, hu4, hg4, _⟩
    have HU4 := Lib.hid hu4.nodes
    obtain ⟨A4, n4, c4, rfl⟩ := slice3 hu4.nodes
    clear hu4
    go_wp2_with fail
    refine (KJ.out _ _ _ (HU3.out.grew hg4) HU4.out).mono ?_
    rintro e w5 ⟨u5, rfl, hu5, hg5⟩
    have HU5 := Lib.hid hu5.nodes
    obtain ⟨A5, c5, rfl⟩ := nodes_slice hu5.nodes
    rw [hlo9.out] at HU5 ⊢
    clear hu5
    have g5 := ((g2.trans hg3).trans hg4).trans hg5
    go_wp2_with fail
    refine (K5.out _ g5).mono ?_
    rintro e w6 ⟨rfl, hg6⟩
    have g6 := g5.trans hg6
    go_wp2_with fail
    go_ret2
    exact ⟨rfl, g6⟩
  case pos =>
  rw [pdF_ok hok hta htb hcond hbig]
  rw [p1, p2] at hbig
  obtain ⟨o1, o2, o3⟩ := okS_pd hok hta htb (by rw [← hsz]; exact hbig)
  rw [← hlj] at hbig
  have P1 := Lib.hid (fun W (hW : Grew w W) => provable_c Ts ta _ W o1 (hT.grew hW))
  have P2 := Lib.hid (fun W (hW : Grew w W) => provable_c Ts tb _ W o2 (hT.grew hW))
  have P3 := Lib.hid (fun W (hW : Grew w W) => provable_c Ts (.or ta tb) _ W o3 (hT.grew hW))
  have KT := Lib.hid (fun u W (hu : Nodes W u (Fm.enc (.or ta tb))) => text_t (.or ta tb) u W o3.2.1 hu)
  clear h hs hq hgb hcond hT hsz hj p1 p2 o1 o2 o3 hlj
  generalize szL (Ts.map tx) = z at *
  generalize dc (EntL Ts ta) = R1 at *
  generalize dc (EntL Ts tb) = R2 at *
  generalize dc (EntL Ts (.or ta tb)) = R3 at *
  generalize hlo : (Fm.enc (Tree.or ta tb)).length = m at *
  have hlo9 := Lib.hid hlo
  clear hlo
  cases R1 with
  | true =>
    have ho : orI true R2 R3 = 1 := by simp [orI]
    rw [ho]
    clear ho
    go_enter Tryz.func18, Tryz.ntmps18
    go_wp2_with fail
    refine (K1.out).mono ?_
    rintro e w1 ⟨rfl, hg1⟩
    go_wp2_with fail
    refine (K2.out _).mono ?_
    rintro e w2 ⟨rfl, hg2⟩
    have g2 := hg1.trans hg2
    go_wp2_with fail
    refine (K3.out _).mono ?_
    rintro e w3 ⟨u3, rfl, hu3, hg3, _⟩
    have HU3 := Lib.hid hu3.nodes
    obtain ⟨A3, n3, c3, rfl⟩ := slice3 hu3.nodes
    clear hu3
    go_wp2_with fail
    refine (K4.out _).mono ?_
    rintro e w4 ⟨u4, rfl, hu4, hg4, _⟩
    have HU4 := Lib.hid hu4.nodes
    obtain ⟨A4, n4, c4, rfl⟩ := slice3 hu4.nodes
    clear hu4
    go_wp2_with fail
    refine (KJ.out _ _ _ (HU3.out.grew hg4) HU4.out).mono ?_
    rintro e w5 ⟨u5, rfl, hu5, hg5⟩
    have HU5 := Lib.hid hu5.nodes
    obtain ⟨A5, c5, rfl⟩ := nodes_slice hu5.nodes
    rw [hlo9.out] at HU5 ⊢
    clear hu5
    have g5 := ((g2.trans hg3).trans hg4).trans hg5
    go_wp2_with fail
    refine (K5.out _ g5).mono ?_
    rintro e w6 ⟨rfl, hg6⟩
    have g6 := g5.trans hg6
    go_wp2_with fail
    refine (P1.out _ g6).mono ?_
    rintro e w7 ⟨rfl, hg7⟩
    have g7 := g6.trans hg7
    go_wp2_with fail
    go_ret2
    exact ⟨rfl, g7⟩
  | false =>
  cases R2 with
  | true =>
    have ho : orI false true R3 = 2 := by simp [orI]
    rw [ho]
    clear ho
    go_enter Tryz.func18, Tryz.ntmps18
    go_wp2_with fail
    refine (K1.out).mono ?_
    rintro e w1 ⟨rfl, hg1⟩
    go_wp2_with fail
    refine (K2.out _).mono ?_
    rintro e w2 ⟨rfl, hg2⟩
    have g2 := hg1.trans hg2
    go_wp2_with fail
    refine (K3.out _).mono ?_
    rintro e w3 ⟨u3, rfl, hu3, hg3, _⟩
    have HU3 := Lib.hid hu3.nodes
    obtain ⟨A3, n3, c3, rfl⟩ := slice3 hu3.nodes
    clear hu3
    go_wp2_with fail
    refine (K4.out _).mono ?_
    rintro e w4 ⟨u4, rfl, hu4, hg4, _⟩
    have HU4 := Lib.hid hu4.nodes
    obtain ⟨A4, n4, c4, rfl⟩ := slice3 hu4.nodes
    clear hu4
    go_wp2_with fail
    refine (KJ.out _ _ _ (HU3.out.grew hg4) HU4.out).mono ?_
    rintro e w5 ⟨u5, rfl, hu5, hg5⟩
    have HU5 := Lib.hid hu5.nodes
    obtain ⟨A5, c5, rfl⟩ := nodes_slice hu5.nodes
    rw [hlo9.out] at HU5 ⊢
    clear hu5
    have g5 := ((g2.trans hg3).trans hg4).trans hg5
    go_wp2_with fail
    refine (K5.out _ g5).mono ?_
    rintro e w6 ⟨rfl, hg6⟩
    have g6 := g5.trans hg6
    go_wp2_with fail
    refine (P1.out _ g6).mono ?_
    rintro e w7 ⟨rfl, hg7⟩
    have g7 := g6.trans hg7
    go_wp2_with fail
    refine (P2.out _ g7).mono ?_
    rintro e w8 ⟨rfl, hg8⟩
    have g8 := g7.trans hg8
    go_wp2_with fail
    go_ret2
    exact ⟨rfl, g8⟩
  | false =>
  cases R3 with
  | true =>
    have ho : orI false false true = 0 := by simp [orI]
    rw [ho]
    clear ho
    go_enter Tryz.func18, Tryz.ntmps18
    go_wp2_with fail
    refine (K1.out).mono ?_
    rintro e w1 ⟨rfl, hg1⟩
    go_wp2_with fail
    refine (K2.out _).mono ?_
    rintro e w2 ⟨rfl, hg2⟩
    have g2 := hg1.trans hg2
    go_wp2_with fail
    refine (K3.out _).mono ?_
    rintro e w3 ⟨u3, rfl, hu3, hg3, _⟩
    have HU3 := Lib.hid hu3.nodes
    obtain ⟨A3, n3, c3, rfl⟩ := slice3 hu3.nodes
    clear hu3
    go_wp2_with fail
    refine (K4.out _).mono ?_
    rintro e w4 ⟨u4, rfl, hu4, hg4, _⟩
    have HU4 := Lib.hid hu4.nodes
    obtain ⟨A4, n4, c4, rfl⟩ := slice3 hu4.nodes
    clear hu4
    go_wp2_with fail
    refine (KJ.out _ _ _ (HU3.out.grew hg4) HU4.out).mono ?_
    rintro e w5 ⟨u5, rfl, hu5, hg5⟩
    have HU5 := Lib.hid hu5.nodes
    obtain ⟨A5, c5, rfl⟩ := nodes_slice hu5.nodes
    rw [hlo9.out] at HU5 ⊢
    clear hu5
    have g5 := ((g2.trans hg3).trans hg4).trans hg5
    go_wp2_with fail
    refine (K5.out _ g5).mono ?_
    rintro e w6 ⟨rfl, hg6⟩
    have g6 := g5.trans hg6
    go_wp2_with fail
    refine (P1.out _ g6).mono ?_
    rintro e w7 ⟨rfl, hg7⟩
    have g7 := g6.trans hg7
    go_wp2_with fail
    refine (P2.out _ g7).mono ?_
    rintro e w8 ⟨rfl, hg8⟩
    have g8 := g7.trans hg8
    go_wp2_with fail
    refine (KT.out _ _ (HU5.out.grew (hg6.trans (hg7.trans hg8)))).mono ?_
    rintro e w9 ⟨rfl, hg9⟩
    have g9 := g8.trans hg9
    go_wp2_with fail
    refine (P3.out _ g9).mono ?_
    rintro e w10 ⟨rfl, hg10⟩
    have g10 := g9.trans hg10
    go_wp2_with fail
    go_ret2
    exact ⟨rfl, g10⟩
  | false =>
    have ho : orI false false false = -1 := by simp [orI]
    rw [ho]
    clear ho
    go_enter Tryz.func18, Tryz.ntmps18
    go_wp2_with fail
    refine (K1.out).mono ?_
    rintro e w1 ⟨rfl, hg1⟩
    go_wp2_with fail
    refine (K2.out _).mono ?_
    rintro e w2 ⟨rfl, hg2⟩
    have g2 := hg1.trans hg2
    go_wp2_with fail
    refine (K3.out _).mono ?_
    rintro e w3 ⟨u3, rfl, hu3, hg3, _⟩
    have HU3 := Lib.hid hu3.nodes
    obtain ⟨A3, n3, c3, rfl⟩ := slice3 hu3.nodes
    clear hu3
    go_wp2_with fail
    refine (K4.out _).mono ?_
    rintro e w4 ⟨u4, rfl, hu4, hg4, _⟩
    have HU4 := Lib.hid hu4.nodes
    obtain ⟨A4, n4, c4, rfl⟩ := slice3 hu4.nodes
    clear hu4
    go_wp2_with fail
    refine (KJ.out _ _ _ (HU3.out.grew hg4) HU4.out).mono ?_
    rintro e w5 ⟨u5, rfl, hu5, hg5⟩
    have HU5 := Lib.hid hu5.nodes
    obtain ⟨A5, c5, rfl⟩ := nodes_slice hu5.nodes
    rw [hlo9.out] at HU5 ⊢
    clear hu5
    have g5 := ((g2.trans hg3).trans hg4).trans hg5
    go_wp2_with fail
    refine (K5.out _ g5).mono ?_
    rintro e w6 ⟨rfl, hg6⟩
    have g6 := g5.trans hg6
    go_wp2_with fail
    refine (P1.out _ g6).mono ?_
    rintro e w7 ⟨rfl, hg7⟩
    have g7 := g6.trans hg7
    go_wp2_with fail
    refine (P2.out _ g7).mono ?_
    rintro e w8 ⟨rfl, hg8⟩
    have g8 := g7.trans hg8
    go_wp2_with fail
    refine (KT.out _ _ (HU5.out.grew (hg6.trans (hg7.trans hg8)))).mono ?_
    rintro e w9 ⟨rfl, hg9⟩
    have g9 := g8.trans hg9
    go_wp2_with fail
    refine (P3.out _ g9).mono ?_
    rintro e w10 ⟨rfl, hg10⟩
    have g10 := g9.trans hg10
    go_wp2_with fail
    go_ret2
    exact ⟨rfl, g10⟩
set_option maxHeartbeats 4000000 in
theorem specPd_c (v : Value) (L : List ByteArray) (a b : ByteArray) (w : World) (h : Strs w v L) (hs : Fits L) (hn : L.length ≤ 1048576) (ha : a.size ≤ 1048576) (hb : b.size ≤ 1048576) :
    Calls Tryz.prog 17 #[v, .string a, .string b] w (GivesII w (pdF L a b)) := by
  unfold GivesII
  have K1 := Lib.hid (fun W => l22Formula_c a W (by omega))
  have K2 := Lib.hid (fun W => l22Formula_c b W (by omega))
  have K3 := Lib.hid (fun W (hW : Grew w W) => l22Left_c v L W (h.grew hW) hs hn)
  have hQ : isQ L a = (gp a && (ascP L && decide (L.length ≤ 12))) := rfl
  unfold GivesP at K1 K2
  have hl1 := Fm.pf_len a
  have hl2 := Fm.pf_len b
  cases hq : (isQ L a && gp b) with
  | false =>
    rw [pdF_no hq]
    rw [hQ] at hq
    obtain ⟨A, k, rfl⟩ := strs_slice h
    clear h hs hQ hl1 hl2
    generalize (ascP L && decide (L.length ≤ 12)) = al at *
    generalize gp a = ga at *
    generalize gp b = gb at *
    generalize (Fm.pf a).1 = ya at *
    generalize (Fm.pf b).1 = yb at *
    cases al <;> cases ga <;> cases gb
    all_goals first
      | (exact absurd hq (by decide))
      | (clear hq
         go_enter Tryz.func17, Tryz.ntmps17
         go_wp2_with fail
         refine (K1.out _).mono ?_
         rintro e w1 ⟨u1, rfl, hu1, hg1⟩
         have HU1 := Lib.hid hu1.nodes
         obtain ⟨A1, n1, c1, rfl⟩ := slice3 hu1.nodes
         clear hu1
         go_wp2_with fail
         refine (K2.out _).mono ?_
         rintro e w2 ⟨u2, rfl, hu2, hg2⟩
         have HU2 := Lib.hid hu2.nodes
         obtain ⟨A2, n2, c2, rfl⟩ := slice3 hu2.nodes
         clear hu2
         have g2 := hg1.trans hg2
         go_wp2_with fail
         refine (K3.out _ g2).mono ?_
         rintro e w3 ⟨rfl, hg3⟩
         have g3 := g2.trans hg3
         go_wp2_with fail
         go_ret2
         exact ⟨rfl, g3⟩)
  | true =>
  have hcond := hq
  rw [Bool.and_eq_true] at hq
  obtain ⟨hq1, hgb⟩ := hq
  have hq2 := hq1
  rw [hQ, Bool.and_eq_true] at hq2
  obtain ⟨hga, hal⟩ := hq2
  rw [hga] at K1
  rw [hgb] at K2
  rw [hal] at K3
  obtain ⟨Ts, ta, rfl, rfl, hok, hta⟩ := isQ_of hq1
  obtain ⟨tb, htb, rfl⟩ := gp_tree hgb
  have hT : TL w v Ts := h
  have hfit := hs
  have K5 := Lib.hid (fun W (hW : Grew w W) => l23Size_c v (Ts.map tx) W (h.grew hW) hs hn)
  have p1 := congrArg Prod.fst (tx_pf hta.1)
  have p2 := congrArg Prod.fst (tx_pf htb.1)
  simp only at p1 p2
  rw [p1] at K1
  rw [p2] at K2
  have KJ := Lib.hid (fun u u2 W (hu : Nodes W u (Fm.enc ta)) (hu2 : Nodes W u2 (Fm.enc tb)) => l02Pair_c 3 u u2 _ _ W hu hu2 (by have := hta.1; have := htb.1; omega))
  have hj : Fm.join 3 (Fm.enc ta) (Fm.enc tb) = Fm.enc (.or ta tb) := rfl
  rw [hj] at KJ
  unfold Gives at KJ
  have hlj : (Fm.enc (.or ta tb)).length = 1 + (Fm.enc ta).length + (Fm.enc tb).length := by simp [Fm.enc]; omega
  have hz1 := hta.1
  have hz2 := htb.1
  have hm81 : (Fm.enc (.or ta tb)).length ≤ 81 := by omega
  have hzl := szL_le (Ts.map tx)
  have hsz := szL_map hok
  obtain ⟨A, n, k, rfl⟩ := hT.slice
  by_cases hbig : szL (Ts.map tx) + (1 + (Fm.pf (tx ta)).1.length + (Fm.pf (tx tb)).1.length) ≤ 20
  case neg =>
    rw [pdF_big hcond hbig]
    rw [p1, p2, ← hlj] at hbig
    clear h hs hq1 hgb hcond hT hsz hj p1 p2 hQ hga hal hfit hl1 hl2 hlj
    generalize szL (Ts.map tx) = z at *
    generalize hlo : (Fm.enc (Tree.or ta tb)).length = m at *
    have hlo9 := Lib.hid hlo
    clear hlo
    go_enter Tryz.func17, Tryz.ntmps17
    go_wp2_with fail
    refine (K1.out _).mono ?_
    rintro e w1 ⟨u1, rfl, hu1, hg1⟩
    have HU1 := Lib.hid hu1.nodes
    obtain ⟨A1, n1, c1, rfl⟩ := slice3 hu1.nodes
    clear hu1
    go_wp2_with fail
    refine (K2.out _).mono ?_
    rintro e w2 ⟨u2, rfl, hu2, hg2⟩
    have HU2 := Lib.hid hu2.nodes
    obtain ⟨A2, n2, c2, rfl⟩ := slice3 hu2.nodes
    clear hu2
    have g2 := hg1.trans hg2
    go_wp2_with fail
    refine (K3.out _ g2).mono ?_
    rintro e w3 ⟨rfl, hg3⟩
    have g3 := g2.trans hg3
    go_wp2_with fail
    refine (KJ.out _ _ _ (HU1.out.grew (hg2.trans hg3)) (HU2.out.grew hg3)).mono ?_
    rintro e w5 ⟨u5, rfl, hu5, hg5⟩
    have HU5 := Lib.hid hu5.nodes
    obtain ⟨A5, c5, rfl⟩ := nodes_slice hu5.nodes
    rw [hlo9.out] at HU5 ⊢
    clear hu5
    have g5 := g3.trans hg5
    go_wp2_with fail
    refine (K5.out _ g5).mono ?_
    rintro e w6 ⟨rfl, hg6⟩
    have g6 := g5.trans hg6
    go_wp2_with fail
    go_ret2
    exact ⟨rfl, g6⟩
  case pos =>
  rw [pdF_ok hok hta htb hcond hbig]
  rw [p1, p2] at hbig
  obtain ⟨o1, o2, o3⟩ := okS_pd hok hta htb (by rw [← hsz]; exact hbig)
  rw [← hlj] at hbig
  have P1 := Lib.hid (fun W (hW : Grew w W) => l23Ok_c _ Ts ta W o1 (hT.grew hW))
  have P2 := Lib.hid (fun W (hW : Grew w W) => l23Ok_c _ Ts tb W o2 (hT.grew hW))
  have P3 := Lib.hid (fun u uc W (hu : Lists W u (lf (Ts.map tx))) (hc : Nodes W uc (Fm.enc (.or ta tb))) => l23Search_c (mu Ts (.or ta tb) + 1) Ts (.or ta tb) u uc W (by omega) o3 (LT.of_lists (by rwa [lf_map hok] at hu) (by simpa using hn)) hc)
  have KF := Lib.hid (fun W (hW : Grew w W) => l22Formulas_c _ (Ts.map tx) W (h.grew hW) hfit hn)
  unfold GivesL at KF
  clear h hs hq1 hgb hcond hT hsz hj p1 p2 o1 o2 o3 hQ hga hal hfit hl1 hl2 hlj
  generalize szL (Ts.map tx) = z at *
  generalize lf (Ts.map tx) = Q at *
  generalize dc (EntL Ts ta) = R1 at *
  generalize dc (EntL Ts tb) = R2 at *
  generalize dc (EntL Ts (.or ta tb)) = R3 at *
  generalize hlo : (Fm.enc (Tree.or ta tb)).length = m at *
  have hlo9 := Lib.hid hlo
  clear hlo
  cases R1 with
  | true =>
    have ho : orI true R2 R3 = 1 := by simp [orI]
    rw [ho]
    clear ho
    go_enter Tryz.func17, Tryz.ntmps17
    go_wp2_with fail
    refine (K1.out _).mono ?_
    rintro e w1 ⟨u1, rfl, hu1, hg1⟩
    have HU1 := Lib.hid hu1.nodes
    obtain ⟨A1, n1, c1, rfl⟩ := slice3 hu1.nodes
    clear hu1
    go_wp2_with fail
    refine (K2.out _).mono ?_
    rintro e w2 ⟨u2, rfl, hu2, hg2⟩
    have HU2 := Lib.hid hu2.nodes
    obtain ⟨A2, n2, c2, rfl⟩ := slice3 hu2.nodes
    clear hu2
    have g2 := hg1.trans hg2
    go_wp2_with fail
    refine (K3.out _ g2).mono ?_
    rintro e w3 ⟨rfl, hg3⟩
    have g3 := g2.trans hg3
    go_wp2_with fail
    refine (KJ.out _ _ _ (HU1.out.grew (hg2.trans hg3)) (HU2.out.grew hg3)).mono ?_
    rintro e w5 ⟨u5, rfl, hu5, hg5⟩
    have HU5 := Lib.hid hu5.nodes
    obtain ⟨A5, c5, rfl⟩ := nodes_slice hu5.nodes
    rw [hlo9.out] at HU5 ⊢
    clear hu5
    have g5 := g3.trans hg5
    go_wp2_with fail
    refine (K5.out _ g5).mono ?_
    rintro e w6 ⟨rfl, hg6⟩
    have g6 := g5.trans hg6
    go_wp2_with fail
    refine (P1.out _ g6).mono ?_
    rintro e w7 ⟨rfl, hg7⟩
    have g7 := g6.trans hg7
    go_wp2_with fail
    go_ret2
    exact ⟨rfl, g7⟩
  | false =>
  cases R2 with
  | true =>
    have ho : orI false true R3 = 2 := by simp [orI]
    rw [ho]
    clear ho
    go_enter Tryz.func17, Tryz.ntmps17
    go_wp2_with fail
    refine (K1.out _).mono ?_
    rintro e w1 ⟨u1, rfl, hu1, hg1⟩
    have HU1 := Lib.hid hu1.nodes
    obtain ⟨A1, n1, c1, rfl⟩ := slice3 hu1.nodes
    clear hu1
    go_wp2_with fail
    refine (K2.out _).mono ?_
    rintro e w2 ⟨u2, rfl, hu2, hg2⟩
    have HU2 := Lib.hid hu2.nodes
    obtain ⟨A2, n2, c2, rfl⟩ := slice3 hu2.nodes
    clear hu2
    have g2 := hg1.trans hg2
    go_wp2_with fail
    refine (K3.out _ g2).mono ?_
    rintro e w3 ⟨rfl, hg3⟩
    have g3 := g2.trans hg3
    go_wp2_with fail
    refine (KJ.out _ _ _ (HU1.out.grew (hg2.trans hg3)) (HU2.out.grew hg3)).mono ?_
    rintro e w5 ⟨u5, rfl, hu5, hg5⟩
    have HU5 := Lib.hid hu5.nodes
    obtain ⟨A5, c5, rfl⟩ := nodes_slice hu5.nodes
    rw [hlo9.out] at HU5 ⊢
    clear hu5
    have g5 := g3.trans hg5
    go_wp2_with fail
    refine (K5.out _ g5).mono ?_
    rintro e w6 ⟨rfl, hg6⟩
    have g6 := g5.trans hg6
    go_wp2_with fail
    refine (P1.out _ g6).mono ?_
    rintro e w7 ⟨rfl, hg7⟩
    have g7 := g6.trans hg7
    go_wp2_with fail
    refine (P2.out _ g7).mono ?_
    rintro e w8 ⟨rfl, hg8⟩
    have g8 := g7.trans hg8
    go_wp2_with fail
    go_ret2
    exact ⟨rfl, g8⟩
  | false =>
  cases R3 with
  | true =>
    have ho : orI false false true = 0 := by simp [orI]
    rw [ho]
    clear ho
    go_enter Tryz.func17, Tryz.ntmps17
    go_wp2_with fail
    refine (K1.out _).mono ?_
    rintro e w1 ⟨u1, rfl, hu1, hg1⟩
    have HU1 := Lib.hid hu1.nodes
    obtain ⟨A1, n1, c1, rfl⟩ := slice3 hu1.nodes
    clear hu1
    go_wp2_with fail
    refine (K2.out _).mono ?_
    rintro e w2 ⟨u2, rfl, hu2, hg2⟩
    have HU2 := Lib.hid hu2.nodes
    obtain ⟨A2, n2, c2, rfl⟩ := slice3 hu2.nodes
    clear hu2
    have g2 := hg1.trans hg2
    go_wp2_with fail
    refine (K3.out _ g2).mono ?_
    rintro e w3 ⟨rfl, hg3⟩
    have g3 := g2.trans hg3
    go_wp2_with fail
    refine (KJ.out _ _ _ (HU1.out.grew (hg2.trans hg3)) (HU2.out.grew hg3)).mono ?_
    rintro e w5 ⟨u5, rfl, hu5, hg5⟩
    have HU5 := Lib.hid hu5.nodes
    obtain ⟨A5, c5, rfl⟩ := nodes_slice hu5.nodes
    rw [hlo9.out] at HU5 ⊢
    clear hu5
    have g5 := g3.trans hg5
    go_wp2_with fail
    refine (K5.out _ g5).mono ?_
    rintro e w6 ⟨rfl, hg6⟩
    have g6 := g5.trans hg6
    go_wp2_with fail
    refine (P1.out _ g6).mono ?_
    rintro e w7 ⟨rfl, hg7⟩
    have g7 := g6.trans hg7
    go_wp2_with fail
    refine (P2.out _ g7).mono ?_
    rintro e w8 ⟨rfl, hg8⟩
    have g8 := g7.trans hg8
    go_wp2_with fail
    refine (KF.out _ g8).mono ?_
    rintro e w9 ⟨uf, rfl, huf, hg9⟩
    have HUF := Lib.hid huf
    obtain ⟨Au, nu9, cu, rfl⟩ : ∃ A n c, uf = .slice A n c := by
      rcases huf with ⟨rfl, _⟩ | ⟨b, o, c, rfl, _⟩
      · exact ⟨_, _, _, rfl⟩
      · exact ⟨_, _, _, rfl⟩
    clear huf
    have g9 := g8.trans hg9
    go_wp2_with fail
    refine (P3.out _ _ _ HUF.out (HU5.out.grew ((hg6.trans (hg7.trans hg8)).trans hg9))).mono ?_
    rintro e w10 ⟨rfl, hg10⟩
    have g10 := g9.trans hg10
    go_wp2_with fail
    go_ret2
    exact ⟨rfl, g10⟩
  | false =>
    have ho : orI false false false = -1 := by simp [orI]
    rw [ho]
    clear ho
    go_enter Tryz.func17, Tryz.ntmps17
    go_wp2_with fail
    refine (K1.out _).mono ?_
    rintro e w1 ⟨u1, rfl, hu1, hg1⟩
    have HU1 := Lib.hid hu1.nodes
    obtain ⟨A1, n1, c1, rfl⟩ := slice3 hu1.nodes
    clear hu1
    go_wp2_with fail
    refine (K2.out _).mono ?_
    rintro e w2 ⟨u2, rfl, hu2, hg2⟩
    have HU2 := Lib.hid hu2.nodes
    obtain ⟨A2, n2, c2, rfl⟩ := slice3 hu2.nodes
    clear hu2
    have g2 := hg1.trans hg2
    go_wp2_with fail
    refine (K3.out _ g2).mono ?_
    rintro e w3 ⟨rfl, hg3⟩
    have g3 := g2.trans hg3
    go_wp2_with fail
    refine (KJ.out _ _ _ (HU1.out.grew (hg2.trans hg3)) (HU2.out.grew hg3)).mono ?_
    rintro e w5 ⟨u5, rfl, hu5, hg5⟩
    have HU5 := Lib.hid hu5.nodes
    obtain ⟨A5, c5, rfl⟩ := nodes_slice hu5.nodes
    rw [hlo9.out] at HU5 ⊢
    clear hu5
    have g5 := g3.trans hg5
    go_wp2_with fail
    refine (K5.out _ g5).mono ?_
    rintro e w6 ⟨rfl, hg6⟩
    have g6 := g5.trans hg6
    go_wp2_with fail
    refine (P1.out _ g6).mono ?_
    rintro e w7 ⟨rfl, hg7⟩
    have g7 := g6.trans hg7
    go_wp2_with fail
    refine (P2.out _ g7).mono ?_
    rintro e w8 ⟨rfl, hg8⟩
    have g8 := g7.trans hg8
    go_wp2_with fail
    refine (KF.out _ g8).mono ?_
    rintro e w9 ⟨uf, rfl, huf, hg9⟩
    have HUF := Lib.hid huf
    obtain ⟨Au, nu9, cu, rfl⟩ : ∃ A n c, uf = .slice A n c := by
      rcases huf with ⟨rfl, _⟩ | ⟨b, o, c, rfl, _⟩
      · exact ⟨_, _, _, rfl⟩
      · exact ⟨_, _, _, rfl⟩
    clear huf
    have g9 := g8.trans hg9
    go_wp2_with fail
    refine (P3.out _ _ _ HUF.out (HU5.out.grew ((hg6.trans (hg7.trans hg8)).trans hg9))).mono ?_
    rintro e w10 ⟨rfl, hg10⟩
    have g10 := g9.trans hg10
    go_wp2_with fail
    go_ret2
    exact ⟨rfl, g10⟩
end Go.Proofs.YtmdbhcoioimlmaaGreat

/- The law FnExactProvedDisjunct, walked. -/
namespace Go.Proofs.YtmdbhcoioimlmaaGreat
open Go.RowKit

theorem lawPd_c (v0 : Value) (L0 : List ByteArray) (s1 : ByteArray) (s2 : ByteArray) (w : World) (h0 : ArgS w v0 L0) :
    Calls Tryz.prog 5 #[v0, .string s1, .string s2] w fun e w' => e = .returned (.bool true) ∧ Grew w w' := by
  by_cases hbig1 : 1048576 < s1.size
  · clear h0
    go_enter Tryz.func5, Tryz.ntmps5
    go_wp2_with fail
    go_ret
    exact ⟨rfl, Grew.refl _⟩
  by_cases hbig2 : 1048576 < s2.size
  · clear h0
    go_enter Tryz.func5, Tryz.ntmps5
    go_wp2_with fail
    go_ret
    exact ⟨rfl, Grew.refl _⟩
  have Z0 := Lib.hid (fun W l (hW : Grew w W) (a0 : 0 ≤ l) (a1 : l ≤ 1048576) => szStringS_c v0 L0 l W (h0.grew hW) a0 a1)
  have T0 := Lib.hid (fun W (hW : Grew w W) => toStringS_c v0 L0 W (h0.grew hW))
  clear h0
  go_enter Tryz.func5, Tryz.ntmps5
  go_wp2_with fail
  refine (Z0.out _ _ (Grew.refl w) (by omega) (by omega)).mono ?_
  rintro e w1 ⟨r0, rfl, ⟨hm0, hs0⟩, hg1⟩
  have z1 := Lib.hid hg1.size
  have g1 : Grew w w1 := (Grew.refl w).trans hg1
  clear hg1
  by_cases hr0 : r0 < 0
  · clear hs0
    go_wp2_with fail
    go_ret
    exact ⟨rfl, g1⟩
  obtain ⟨hn0, hf0⟩ := hs0 (by omega)
  have F0 : Hid (Fits L0) := Lib.hid hf0
  clear hs0 hf0
  have KS := Lib.hid (fun u0 W x0 => specPd_c u0 L0 s1 s2 W x0 F0.out (by omega) (by omega) (by omega))
  have KI := Lib.hid (fun u0 W x0 => implPd_c u0 L0 s1 s2 W x0 F0.out (by omega) (by omega) (by omega))
  unfold GivesII at KS KI
  generalize pdF L0 s1 s2 = rr at *
  obtain ⟨ra, rc⟩ := rr
  simp only at KS KI
  have hc1 : (rc != rc) = false := by simp
  have ha1 : (ra != ra) = false := by simp
  go_wp2_with fail
  refine (T0.out _ g1 hn0).mono ?_
  rintro e w2 ⟨a0, rfl, oa0, hg2⟩
  have z2 := Lib.hid hg2.size
  have g2 : Grew w w2 := g1.trans hg2
  clear hg2
  go_wp2_with fail
  refine (KS.out _ _ oa0.strs).mono ?_
  rintro e w3 ⟨rfl, hg3⟩
  have z3 := Lib.hid hg3.size
  have g3 : Grew w w3 := g2.trans hg3
  clear hg3 oa0
  go_wp2_with fail
  refine (T0.out _ g3 hn0).mono ?_
  rintro e w4 ⟨x0, rfl, ox0, hg4⟩
  have z4 := Lib.hid hg4.size
  have g4 : Grew w w4 := g3.trans hg4
  clear hg4
  go_wp2_with fail
  refine (KI.out _ _ ox0.strs).mono ?_
  rintro e w5 ⟨rfl, hg5⟩
  have z5 := Lib.hid hg5.size
  have g5 : Grew w w5 := g4.trans hg5
  replace ox0 := ox0.grew hg5
  clear hg5
  go_wp2_with fail
  refine (T0.out _ g5 hn0).mono ?_
  rintro e w6 ⟨y0, rfl, oy0, hg6⟩
  have z6 := Lib.hid hg6.size
  have g6 : Grew w w6 := g5.trans hg6
  replace ox0 := ox0.grew hg6
  clear hg6
  go_wp2_with fail
  refine (eqStringS_yes _ _ L0 _ ox0.strs oy0.strs (by omega)).mono ?_
  rintro e w7 ⟨rfl, hg7⟩
  have z7 := Lib.hid hg7.size
  have g7 : Grew w w7 := g6.trans hg7
  replace ox0 := ox0.grew hg7
  clear hg7 oy0
  go_wp2_with fail
  go_ret
  exact ⟨rfl, g7⟩
end Go.Proofs.YtmdbhcoioimlmaaGreat

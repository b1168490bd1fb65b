/- The reference's reader: l02Prefix and l02Imply. -/
import Derived.Test.YthofkdpmgjkgkaaGreatWalkQ
namespace Go.Proofs.YthofkdpmgjkgkaaGreat
open Go.RowKit
open Fm (Nd)

theorem index_letter (w : World) (i : Nat) (hi : i < 6) :
    (Instr.index 9 (.string ⟨#[112, 113, 114, 115, 116, 117]⟩) (.int .i64 i)).run Tryz.prog w = .ok (.int .u8 (112 + (i : Int))) w := by
  have h6 : i = 0 ∨ i = 1 ∨ i = 2 ∨ i = 3 ∨ i = 4 ∨ i = 5 := by omega
  rcases h6 with rfl | rfl | rfl | rfl | rfl | rfl <;> (simp [Instr.index, run_underlying Tryz.underlying9, go_sem]; rfl)
theorem letter_byte2 {i : Nat} (hi : i < 6) : 112 + (i : Int) = ((UInt8.ofNat (112 + i)).toNat : Int) := by
  rw [UInt8.toNat_ofNat']; omega

set_option maxHeartbeats 1000000 in
theorem l02Prefix_step (T : TypeId) (hT : 135 ≠ T) (s : ByteArray) (f m : Nat) (hs : s.size ≤ 1048576)
    (himp : Sub 180 T s f (Fm.impF s.data.toList m (Fm.preF s.data.toList m f) m)) (hp : Sub 199 T s f (Fm.preF s.data.toList m f))
    (g : Nat) (st : Fm.St) (w : World) (hR : Rdr w g T s st) (hat : st.1 ≤ s.size) (hfu : s.size - st.1 < f + 1) :
    Calls Tryz.prog 199 #[.pointer (some ⟨g, 0, none⟩)] w (Reads w g T s (Fm.preF s.data.toList m (f + 1) st)) := by
  have HI := Lib.hid himp
  have HP := Lib.hid hp
  have HZ := Lib.hid (size_toList s)
  clear himp hp
  cases hl : Fm.letter s.data.toList st with
  | some v =>
    rw [Fm.preF_var hl]
    have hv := (Fm.letter_some hl).1
    have hvs := (Fm.letter_some hl).2
    have HN := Lib.hid (fun i hi hne => @Fm.letter_ne s.data.toList st v i hl hi hne)
    clear hl HI HP
    go_enter Tryz.func199, Tryz.ntmps199
    go_wp2_with fail
    go_loopg [4] 6 (fun n x wr => ∃ i : Nat, n = 6 - i ∧ i ≤ v ∧ x = .int .i64 i ∧ Rdr wr g T s st ∧ Only g w wr)
    case atStart => exact ⟨0, rfl, Nat.zero_le _, rfl, hR, Only.refl _ _⟩
    case round =>
      obtain ⟨i, rfl, hiv, rfl, hRr, hOr⟩ := hrel
      have hix := fun w => index_letter w i (by omega)
      by_cases hiv2 : i = v
      · subst hiv2
        go_wp2_with fail
        refine (l02Take_yes g T s st _ _ _ hRr (by omega) hat (letter_byte2 (by omega)) hvs).mono ?_
        rintro e w4 ⟨rfl, hR6, hO6⟩
        go_wp2_with fail
        refine (l02Var_c _ _).mono ?_
        rintro e w5 ⟨v5, rfl, ho5, hg5⟩
        go_wp2_with fail
        go_ret
        exact ⟨_, rfl, ho5.base (hOr.trans hO6).size, hR6.grew hg5, (hOr.trans hO6).grew hg5⟩
      · have hs0 := HN.out i (by omega) hiv2
        go_wp2_with fail
        refine (l02Take_no g T s st _ _ _ hRr (by omega) hat (letter_byte2 (by omega)) hs0).mono ?_
        rintro e w4 ⟨rfl, hR6, hO6⟩
        go_wp2_with fail
        go_roundg (6 - (i + 1))
        case measure => omega
        case rel => exact ⟨i + 1, rfl, by omega, by go_num, hR6, hOr.trans hO6⟩
  | none =>
    have HN := Lib.hid (fun i hi => @Fm.letter_none s.data.toList st hl i hi)
    have HL := Lib.hid hl
    clear hl
    obtain ⟨R, hR0⟩ : ∃ R, R = Fm.preF s.data.toList m (f + 1) st := ⟨_, rfl⟩
    rw [← hR0]
    have HE := Lib.hid hR0
    clear hR0
    go_enter Tryz.func199, Tryz.ntmps199
    go_wp2_with fail
    go_loopg [4] 7 (fun n x wr => ∃ i : Nat, n = 7 - i ∧ i ≤ 6 ∧ x = .int .i64 i ∧ Rdr wr g T s st ∧ Only g w wr)
    case atStart => exact ⟨0, rfl, Nat.zero_le _, rfl, hR, Only.refl _ _⟩
    case round =>
      obtain ⟨i, rfl, hiv, rfl, hRr, hOr⟩ := hrel
      clear hR
      by_cases hi6 : i < 6
      · have hix := fun w => index_letter w i hi6
        have hs0 := HN.out i hi6
        go_wp2_with fail
        refine (l02Take_no g T s st _ _ _ hRr (by omega) hat (letter_byte2 hi6) hs0).mono ?_
        rintro e w4 ⟨rfl, hR6, hO6⟩
        go_wp2_with fail
        go_roundg (7 - (i + 1))
        case measure => omega
        case rel => exact ⟨i + 1, rfl, by omega, by go_num, hR6, hOr.trans hO6⟩
      · have hi66 : i = 6 := by omega
        subst hi66
        clear HN hi6 hiv
        go_wp2_with fail
        by_cases h70 : Fm.sees s.data.toList st 70 = true
        · have hE := HE.out
          rw [Fm.preF_fls h70] at hE
          subst hE
          refine (l02Take_yes g T s st 70 _ _ hRr (by omega) hat rfl h70).mono ?_
          rintro e w101 ⟨rfl, hR101, hO101⟩
          go_wp2_with fail
          refine (l02False_c _).mono ?_
          rintro e wz ⟨vz, rfl, hoz, hgz⟩
          go_wp2_with fail
          go_ret
          exact ⟨_, rfl, hoz.base ((hOr).trans hO101).size, hR101.grew hgz, ((hOr).trans hO101).grew hgz⟩
        have h70' : Fm.sees s.data.toList st 70 = false := by simpa using h70
        clear h70
        refine (l02Take_no g T s st 70 _ _ hRr (by omega) hat rfl h70').mono ?_
        rintro e w1 ⟨rfl, hR1, hO1⟩
        go_wp2_with fail
        by_cases h84 : Fm.sees s.data.toList st 84 = true
        · have hE := HE.out
          rw [Fm.preF_tru h84] at hE
          subst hE
          refine (l02Take_yes g T s st 84 _ _ hR1 (by omega) hat rfl h84).mono ?_
          rintro e w102 ⟨rfl, hR102, hO102⟩
          go_wp2_with fail
          refine (l02True_c _).mono ?_
          rintro e wz ⟨vz, rfl, hoz, hgz⟩
          go_wp2_with fail
          go_ret
          exact ⟨_, rfl, hoz.base (((hOr).trans hO1).trans hO102).size, hR102.grew hgz, (((hOr).trans hO1).trans hO102).grew hgz⟩
        have h84' : Fm.sees s.data.toList st 84 = false := by simpa using h84
        clear h84
        refine (l02Take_no g T s st 84 _ _ hR1 (by omega) hat rfl h84').mono ?_
        rintro e w2 ⟨rfl, hR2, hO2⟩
        go_wp2_with fail
        by_cases h126 : Fm.sees s.data.toList st 126 = true
        · have hE := HE.out
          rw [Fm.preF_not h126] at hE
          subst hE
          have hlt := Fm.sees_lt h126
          rw [HZ.out] at hlt
          have e1 : (Fm.step st).1 = st.1 + 1 := rfl
          have hk : Fm.Ok s.data.toList (Fm.step st) (Fm.preF s.data.toList m f (Fm.step st)) := Fm.preF_ok f (Fm.step st) (by rw [HZ.out]; exact hlt)
          obtain ⟨k1, k2, k3⟩ := hk
          rw [HZ.out] at k2
          rw [e1] at k1 k3
          have hq := HP.out g (Fm.step st)
          rw [e1] at hq
          have HQ := Lib.hid hq
          clear hq e1 HI HP
          generalize Fm.preF s.data.toList m f (Fm.step st) = r at *
          refine (l02Take_yes g T s st 126 _ _ hR2 (by omega) hat rfl h126).mono ?_
          rintro e w103 ⟨rfl, hR103, hO103⟩
          go_wp2_with fail
          refine (HQ.out _ hR103 (by omega) (by omega)).mono ?_
          rintro e wx ⟨vx, rfl, hox, hRx, hOx⟩
          go_wp2_with fail
          refine (l02Not_c _ r.1 _ hox.nodes (by omega)).mono ?_
          rintro e wz ⟨vz, rfl, hoz, hgz⟩
          go_wp2_with fail
          go_ret
          exact ⟨_, rfl, hoz.base (((((hOr).trans hO1).trans hO2).trans hO103).trans hOx).size, hRx.grew hgz, (((((hOr).trans hO1).trans hO2).trans hO103).trans hOx).grew hgz⟩
        have h126' : Fm.sees s.data.toList st 126 = false := by simpa using h126
        clear h126
        refine (l02Take_no g T s st 126 _ _ hR2 (by omega) hat rfl h126').mono ?_
        rintro e w3 ⟨rfl, hR3, hO3⟩
        go_wp2_with fail
        by_cases h91 : Fm.sees s.data.toList st 91 = true
        · have hE := HE.out
          rw [Fm.preF_box h91] at hE
          subst hE
          have hlt := Fm.sees_lt h91
          rw [HZ.out] at hlt
          have e1 : (Fm.step st).1 = st.1 + 1 := rfl
          have hn := Fm.need_pos (s := s.data.toList) (st := Fm.step st) (c := 93) (by rw [HZ.out, e1]; exact hlt)
          rw [HZ.out, e1] at hn
          obtain ⟨n1, n2⟩ := hn
          have hk : Fm.Ok s.data.toList (Fm.need s.data.toList (Fm.step st) 93) (Fm.preF s.data.toList m f (Fm.need s.data.toList (Fm.step st) 93)) := Fm.preF_ok f _ (by rw [HZ.out]; exact n2)
          obtain ⟨k1, k2, k3⟩ := hk
          rw [HZ.out] at k2
          have HQ := Lib.hid (HP.out g (Fm.need s.data.toList (Fm.step st) 93))
          have hat1 : (Fm.step st).1 ≤ s.size := by rw [e1]; omega
          clear e1 HI HP
          refine (l02Take_yes g T s st 91 _ _ hR3 (by omega) hat rfl h91).mono ?_
          rintro e w104 ⟨rfl, hR104, hO104⟩
          go_wp2_with fail
          refine (l02Need_c g T s (Fm.step st) 93 _ _ hR104 (by omega) hat1 rfl).mono ?_
          rintro e wy ⟨rfl, hRy, hOy⟩
          generalize Fm.need s.data.toList (Fm.step st) 93 = st2 at *
          generalize Fm.preF s.data.toList m f st2 = r at *
          go_wp2_with fail
          refine (HQ.out _ hRy (by omega) (by omega)).mono ?_
          rintro e wx ⟨vx, rfl, hox, hRx, hOx⟩
          go_wp2_with fail
          refine (l02Pre_c 5 _ r.1 _ hox.nodes (by omega)).mono ?_
          rintro e wz ⟨vz, rfl, hoz, hgz⟩
          go_wp2_with fail
          go_ret
          exact ⟨_, rfl, hoz.base (((((((hOr).trans hO1).trans hO2).trans hO3).trans hO104).trans hOy).trans hOx).size, hRx.grew hgz, (((((((hOr).trans hO1).trans hO2).trans hO3).trans hO104).trans hOy).trans hOx).grew hgz⟩
        have h91' : Fm.sees s.data.toList st 91 = false := by simpa using h91
        clear h91
        refine (l02Take_no g T s st 91 _ _ hR3 (by omega) hat rfl h91').mono ?_
        rintro e w4 ⟨rfl, hR4, hO4⟩
        go_wp2_with fail
        by_cases h60 : Fm.sees s.data.toList st 60 = true
        · have hE := HE.out
          rw [Fm.preF_dia h60] at hE
          subst hE
          have hlt := Fm.sees_lt h60
          rw [HZ.out] at hlt
          have e1 : (Fm.step st).1 = st.1 + 1 := rfl
          have hn := Fm.need_pos (s := s.data.toList) (st := Fm.step st) (c := 62) (by rw [HZ.out, e1]; exact hlt)
          rw [HZ.out, e1] at hn
          obtain ⟨n1, n2⟩ := hn
          have hk : Fm.Ok s.data.toList (Fm.need s.data.toList (Fm.step st) 62) (Fm.preF s.data.toList m f (Fm.need s.data.toList (Fm.step st) 62)) := Fm.preF_ok f _ (by rw [HZ.out]; exact n2)
          obtain ⟨k1, k2, k3⟩ := hk
          rw [HZ.out] at k2
          have HQ := Lib.hid (HP.out g (Fm.need s.data.toList (Fm.step st) 62))
          have hat1 : (Fm.step st).1 ≤ s.size := by rw [e1]; omega
          clear e1 HI HP
          refine (l02Take_yes g T s st 60 _ _ hR4 (by omega) hat rfl h60).mono ?_
          rintro e w105 ⟨rfl, hR105, hO105⟩
          go_wp2_with fail
          refine (l02Need_c g T s (Fm.step st) 62 _ _ hR105 (by omega) hat1 rfl).mono ?_
          rintro e wy ⟨rfl, hRy, hOy⟩
          generalize Fm.need s.data.toList (Fm.step st) 62 = st2 at *
          generalize Fm.preF s.data.toList m f st2 = r at *
          go_wp2_with fail
          refine (HQ.out _ hRy (by omega) (by omega)).mono ?_
          rintro e wx ⟨vx, rfl, hox, hRx, hOx⟩
          go_wp2_with fail
          refine (l02Pre_c 6 _ r.1 _ hox.nodes (by omega)).mono ?_
          rintro e wz ⟨vz, rfl, hoz, hgz⟩
          go_wp2_with fail
          go_ret
          exact ⟨_, rfl, hoz.base ((((((((hOr).trans hO1).trans hO2).trans hO3).trans hO4).trans hO105).trans hOy).trans hOx).size, hRx.grew hgz, ((((((((hOr).trans hO1).trans hO2).trans hO3).trans hO4).trans hO105).trans hOy).trans hOx).grew hgz⟩
        have h60' : Fm.sees s.data.toList st 60 = false := by simpa using h60
        clear h60
        refine (l02Take_no g T s st 60 _ _ hR4 (by omega) hat rfl h60').mono ?_
        rintro e w5 ⟨rfl, hR5, hO5⟩
        go_wp2_with fail
        by_cases h40 : Fm.sees s.data.toList st 40 = true
        · have hE := HE.out
          rw [Fm.preF_par h40] at hE
          subst hE
          have hlt := Fm.sees_lt h40
          rw [HZ.out] at hlt
          have hk : Fm.Ok s.data.toList (Fm.step st) (Fm.impF s.data.toList m (Fm.preF s.data.toList m f) m (Fm.step st)) := Fm.impF_ok (fun st h => Fm.preF_ok f st h) m (Fm.step st) (by rw [HZ.out]; exact hlt)
          have e1 : (Fm.step st).1 = st.1 + 1 := rfl
          obtain ⟨k1, k2, k3⟩ := hk
          rw [HZ.out] at k2
          rw [e1] at k1 k3
          have hq := HI.out g (Fm.step st)
          rw [e1] at hq
          have HQ := Lib.hid hq
          clear hq e1 HI HP
          generalize Fm.impF s.data.toList m (Fm.preF s.data.toList m f) m (Fm.step st) = r at *
          refine (l02Take_yes g T s st 40 _ _ hR5 (by omega) hat rfl h40).mono ?_
          rintro e w106 ⟨rfl, hR106, hO106⟩
          go_wp2_with fail
          refine (HQ.out _ hR106 (by omega) (by omega)).mono ?_
          rintro e wx ⟨vx, rfl, hox, hRx, hOx⟩
          have hne := own_rdr_ne hox hRx hT
          go_wp2_with fail
          refine (l02Need_c g T s r.2 41 _ _ hRx (by omega) (by omega) rfl).mono ?_
          rintro e wz ⟨rfl, hRz, hOz⟩
          go_wp2_with fail
          go_ret
          exact ⟨_, rfl, (hox.only hOz hne).base (((((((hOr).trans hO1).trans hO2).trans hO3).trans hO4).trans hO5).trans hO106).size, hRz, ((((((((hOr).trans hO1).trans hO2).trans hO3).trans hO4).trans hO5).trans hO106).trans hOx).trans hOz⟩
        have h40' : Fm.sees s.data.toList st 40 = false := by simpa using h40
        clear h40
        refine (l02Take_no g T s st 40 _ _ hR5 (by omega) hat rfl h40').mono ?_
        rintro e w6 ⟨rfl, hR6, hO6⟩
        have hE := HE.out
        have h126x := Fm.preF_bad (m := m) (f := f) h126' h91' h60' h70' h84' h40' HL.out
        rw [h126x] at hE
        subst hE
        clear h126x HL
        have c2 := hR6.bad
        have hf := hR6.free 2
        have HH := Lib.hid hR6
        clear hRr hR1 hR2 hR3 hR4 hR5 hR6
        go_wp2_with fail
        refine (l02False_c _).mono ?_
        rintro e wz ⟨vz, rfl, hoz, hgz⟩
        go_wp2_with fail
        go_ret
        exact ⟨_, rfl, hoz.base ((((((((hOr).trans hO1).trans hO2).trans hO3).trans hO4).trans hO5).trans hO6).setCell _).size, HH.out.spoil.grew hgz, ((((((((hOr).trans hO1).trans hO2).trans hO3).trans hO4).trans hO5).trans hO6).setCell _).grew hgz⟩

theorem l02Prefix_sub (T : TypeId) (hT : 135 ≠ T) (s : ByteArray) (m : Nat) (hs : s.size ≤ 1048576) (hm : s.size < m) : ∀ f, f ≤ m → Sub 199 T s f (Fm.preF s.data.toList m f) := by
  intro f
  induction f with
  | zero => intro _ g st w _ _ h; omega
  | succ f ih =>
    intro hfm g st w hR hat hfu
    have hp := ih (by omega)
    have hok : ∀ st : Fm.St, st.1 ≤ s.data.toList.length → Fm.Ok s.data.toList st (Fm.preF s.data.toList m f st) := fun st h => Fm.preF_ok f st h
    have hand := l02And_c T hT s f m _ hs hm hok hp
    have hor := l02Or_c T hT s f m _ hs hm (fun st h => Fm.andF_ok (m := m) hok st h) hand
    have himp := l02Imply_c T hT s f m _ hs hok hor m
    exact l02Prefix_step T hT s f m hs (fun g st w h1 h2 h3 => himp g st w h1 h2 (by omega) h3) hp g st w hR hat hfu

/-- The reference's reader at a text's beginning. -/
theorem l02Imply_top (T : TypeId) (hT : 135 ≠ T) (s : ByteArray) (m : Nat) (hs : s.size ≤ 1048576) (hm : s.size < m) (g : Nat) (w : World) (hR : Rdr w g T s (0, false)) :
    Calls Tryz.prog 180 #[.pointer (some ⟨g, 0, none⟩)] w (Reads w g T s (Fm.parse s.data.toList m)) := by
  have hok : ∀ st : Fm.St, st.1 ≤ s.data.toList.length → Fm.Ok s.data.toList st (Fm.preF s.data.toList m m st) := fun st h => Fm.preF_ok m st h
  have hand := l02And_c T hT s m m _ hs hm hok (l02Prefix_sub T hT s m hs hm m (Nat.le_refl _))
  have hor := l02Or_c T hT s m m _ hs hm (fun st h => Fm.andF_ok (m := m) hok st h) hand
  exact l02Imply_c T hT s m m _ hs hok hor m g (0, false) w hR (by simp) (by simpa using hm) (by simpa using hm)
end Go.Proofs.YthofkdpmgjkgkaaGreat

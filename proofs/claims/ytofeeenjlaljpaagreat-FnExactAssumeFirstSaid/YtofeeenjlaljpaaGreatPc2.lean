/- Texts in one file: WalkB Tree Round ParseF Part Agree Equal Write Good PartP Text Parsed IsText Cont Plain Gp Fo StCf Lf StCont DdT TwoF TyQ OwnV Pt TyP TyB S12 Pw DdP StEq StQ Range DdR DdRa. -/
import Derived.Deep.QuietTactic
import Derived.BigQuiet
import Derived.Deep.LoopGhost
import Derived.Outline
import Derived.Deep.RegionHeld3
import Derived.Lib.SlicesS
import Derived.WalkSpells
import Derived.WalkLawsBesides
import Derived.Shelf.Abstract
import Derived.Test.YtofeeenjlaljpaaGreatProg
import Derived.ArgAppend
import Derived.Test.YtofeeenjlaljpaaGreatPc1
set_option linter.all false

/- The reference's reader: l02Prefix and l02Imply. -/
namespace Go.Proofs.YtofeeenjlaljpaaGreat
open Go.RowKit
open Fm (Nd)

theorem index_letter (w : World) (i : Nat) (hi : i < 6) :
    (Instr.index 9 (.string ⟨#[112, 113, 114, 115, 116, 117]⟩) (.int .i64 i)).run Tryz.prog w = .ok (.int .u8 (112 + (i : Int))) w := by
  have h6 : i = 0 ∨ i = 1 ∨ i = 2 ∨ i = 3 ∨ i = 4 ∨ i = 5 := by omega
  rcases h6 with rfl | rfl | rfl | rfl | rfl | rfl <;> (simp [Instr.index, run_underlying Tryz.underlying9, go_sem]; rfl)
theorem letter_byte2 {i : Nat} (hi : i < 6) : 112 + (i : Int) = ((UInt8.ofNat (112 + i)).toNat : Int) := by
  rw [UInt8.toNat_ofNat']; omega

set_option maxHeartbeats 1000000 in
theorem l02Prefix_step (T : TypeId) (hT : 87 ≠ T) (s : ByteArray) (f m : Nat) (hs : s.size ≤ 1048576)
    (himp : Sub 164 T s f (Fm.impF s.data.toList m (Fm.preF s.data.toList m f) m)) (hp : Sub 177 T s f (Fm.preF s.data.toList m f))
    (g : Nat) (st : Fm.St) (w : World) (hR : Rdr w g T s st) (hat : st.1 ≤ s.size) (hfu : s.size - st.1 < f + 1) :
    Calls Tryz.prog 177 #[.pointer (some ⟨g, 0, none⟩)] w (Reads w g T s (Fm.preF s.data.toList m (f + 1) st)) := by
  have HI := Lib.hid himp
  have HP := Lib.hid hp
  have HZ := Lib.hid (size_toList s)
  clear himp hp
  cases hl : Fm.letter s.data.toList st with
  | some v =>
    rw [Fm.preF_var hl]
    have hv := (Fm.letter_some hl).1
    have hvs := (Fm.letter_some hl).2
    have HN := Lib.hid (fun i hi hne => @Fm.letter_ne s.data.toList st v i hl hi hne)
    clear hl HI HP
    go_enter Tryz.func177, Tryz.ntmps177
    go_wp2_with fail
    go_loopg [4] 6 (fun n x wr => ∃ i : Nat, n = 6 - i ∧ i ≤ v ∧ x = .int .i64 i ∧ Rdr wr g T s st ∧ Only g w wr)
    case atStart => exact ⟨0, rfl, Nat.zero_le _, rfl, hR, Only.refl _ _⟩
    case round =>
      obtain ⟨i, rfl, hiv, rfl, hRr, hOr⟩ := hrel
      have hix := fun w => index_letter w i (by omega)
      by_cases hiv2 : i = v
      · subst hiv2
        go_wp2_with fail
        refine (l02Take_yes g T s st _ _ _ hRr (by omega) hat (letter_byte2 (by omega)) hvs).mono ?_
        rintro e w4 ⟨rfl, hR6, hO6⟩
        go_wp2_with fail
        refine (l02Var_c _ _).mono ?_
        rintro e w5 ⟨v5, rfl, ho5, hg5⟩
        go_wp2_with fail
        go_ret
        exact ⟨_, rfl, ho5.base (hOr.trans hO6).size, hR6.grew hg5, (hOr.trans hO6).grew hg5⟩
      · have hs0 := HN.out i (by omega) hiv2
        go_wp2_with fail
        refine (l02Take_no g T s st _ _ _ hRr (by omega) hat (letter_byte2 (by omega)) hs0).mono ?_
        rintro e w4 ⟨rfl, hR6, hO6⟩
        go_wp2_with fail
        go_roundg (6 - (i + 1))
        case measure => omega
        case rel => exact ⟨i + 1, rfl, by omega, by go_num, hR6, hOr.trans hO6⟩
  | none =>
    have HN := Lib.hid (fun i hi => @Fm.letter_none s.data.toList st hl i hi)
    have HL := Lib.hid hl
    clear hl
    obtain ⟨R, hR0⟩ : ∃ R, R = Fm.preF s.data.toList m (f + 1) st := ⟨_, rfl⟩
    rw [← hR0]
    have HE := Lib.hid hR0
    clear hR0
    go_enter Tryz.func177, Tryz.ntmps177
    go_wp2_with fail
    go_loopg [4] 7 (fun n x wr => ∃ i : Nat, n = 7 - i ∧ i ≤ 6 ∧ x = .int .i64 i ∧ Rdr wr g T s st ∧ Only g w wr)
    case atStart => exact ⟨0, rfl, Nat.zero_le _, rfl, hR, Only.refl _ _⟩
    case round =>
      obtain ⟨i, rfl, hiv, rfl, hRr, hOr⟩ := hrel
      clear hR
      by_cases hi6 : i < 6
      · have hix := fun w => index_letter w i hi6
        have hs0 := HN.out i hi6
        go_wp2_with fail
        refine (l02Take_no g T s st _ _ _ hRr (by omega) hat (letter_byte2 hi6) hs0).mono ?_
        rintro e w4 ⟨rfl, hR6, hO6⟩
        go_wp2_with fail
        go_roundg (7 - (i + 1))
        case measure => omega
        case rel => exact ⟨i + 1, rfl, by omega, by go_num, hR6, hOr.trans hO6⟩
      · have hi66 : i = 6 := by omega
        subst hi66
        clear HN hi6 hiv
        go_wp2_with fail
        by_cases h70 : Fm.sees s.data.toList st 70 = true
        · have hE := HE.out
          rw [Fm.preF_fls h70] at hE
          subst hE
          refine (l02Take_yes g T s st 70 _ _ hRr (by omega) hat rfl h70).mono ?_
          rintro e w101 ⟨rfl, hR101, hO101⟩
          go_wp2_with fail
          refine (l02False_c _).mono ?_
          rintro e wz ⟨vz, rfl, hoz, hgz⟩
          go_wp2_with fail
          go_ret
          exact ⟨_, rfl, hoz.base ((hOr).trans hO101).size, hR101.grew hgz, ((hOr).trans hO101).grew hgz⟩
        have h70' : Fm.sees s.data.toList st 70 = false := by simpa using h70
        clear h70
        refine (l02Take_no g T s st 70 _ _ hRr (by omega) hat rfl h70').mono ?_
        rintro e w1 ⟨rfl, hR1, hO1⟩
        go_wp2_with fail
        by_cases h84 : Fm.sees s.data.toList st 84 = true
        · have hE := HE.out
          rw [Fm.preF_tru h84] at hE
          subst hE
          refine (l02Take_yes g T s st 84 _ _ hR1 (by omega) hat rfl h84).mono ?_
          rintro e w102 ⟨rfl, hR102, hO102⟩
          go_wp2_with fail
          refine (l02True_c _).mono ?_
          rintro e wz ⟨vz, rfl, hoz, hgz⟩
          go_wp2_with fail
          go_ret
          exact ⟨_, rfl, hoz.base (((hOr).trans hO1).trans hO102).size, hR102.grew hgz, (((hOr).trans hO1).trans hO102).grew hgz⟩
        have h84' : Fm.sees s.data.toList st 84 = false := by simpa using h84
        clear h84
        refine (l02Take_no g T s st 84 _ _ hR1 (by omega) hat rfl h84').mono ?_
        rintro e w2 ⟨rfl, hR2, hO2⟩
        go_wp2_with fail
        by_cases h126 : Fm.sees s.data.toList st 126 = true
        · have hE := HE.out
          rw [Fm.preF_not h126] at hE
          subst hE
          have hlt := Fm.sees_lt h126
          rw [HZ.out] at hlt
          have e1 : (Fm.step st).1 = st.1 + 1 := rfl
          have hk : Fm.Ok s.data.toList (Fm.step st) (Fm.preF s.data.toList m f (Fm.step st)) := Fm.preF_ok f (Fm.step st) (by rw [HZ.out]; exact hlt)
          obtain ⟨k1, k2, k3⟩ := hk
          rw [HZ.out] at k2
          rw [e1] at k1 k3
          have hq := HP.out g (Fm.step st)
          rw [e1] at hq
          have HQ := Lib.hid hq
          clear hq e1 HI HP
          generalize Fm.preF s.data.toList m f (Fm.step st) = r at *
          refine (l02Take_yes g T s st 126 _ _ hR2 (by omega) hat rfl h126).mono ?_
          rintro e w103 ⟨rfl, hR103, hO103⟩
          go_wp2_with fail
          refine (HQ.out _ hR103 (by omega) (by omega)).mono ?_
          rintro e wx ⟨vx, rfl, hox, hRx, hOx⟩
          go_wp2_with fail
          refine (l02Not_c _ r.1 _ hox.nodes (by omega)).mono ?_
          rintro e wz ⟨vz, rfl, hoz, hgz⟩
          go_wp2_with fail
          go_ret
          exact ⟨_, rfl, hoz.base (((((hOr).trans hO1).trans hO2).trans hO103).trans hOx).size, hRx.grew hgz, (((((hOr).trans hO1).trans hO2).trans hO103).trans hOx).grew hgz⟩
        have h126' : Fm.sees s.data.toList st 126 = false := by simpa using h126
        clear h126
        refine (l02Take_no g T s st 126 _ _ hR2 (by omega) hat rfl h126').mono ?_
        rintro e w3 ⟨rfl, hR3, hO3⟩
        go_wp2_with fail
        by_cases h91 : Fm.sees s.data.toList st 91 = true
        · have hE := HE.out
          rw [Fm.preF_box h91] at hE
          subst hE
          have hlt := Fm.sees_lt h91
          rw [HZ.out] at hlt
          have e1 : (Fm.step st).1 = st.1 + 1 := rfl
          have hn := Fm.need_pos (s := s.data.toList) (st := Fm.step st) (c := 93) (by rw [HZ.out, e1]; exact hlt)
          rw [HZ.out, e1] at hn
          obtain ⟨n1, n2⟩ := hn
          have hk : Fm.Ok s.data.toList (Fm.need s.data.toList (Fm.step st) 93) (Fm.preF s.data.toList m f (Fm.need s.data.toList (Fm.step st) 93)) := Fm.preF_ok f _ (by rw [HZ.out]; exact n2)
          obtain ⟨k1, k2, k3⟩ := hk
          rw [HZ.out] at k2
          have HQ := Lib.hid (HP.out g (Fm.need s.data.toList (Fm.step st) 93))
          have hat1 : (Fm.step st).1 ≤ s.size := by rw [e1]; omega
          clear e1 HI HP
          refine (l02Take_yes g T s st 91 _ _ hR3 (by omega) hat rfl h91).mono ?_
          rintro e w104 ⟨rfl, hR104, hO104⟩
          go_wp2_with fail
          refine (l02Need_c g T s (Fm.step st) 93 _ _ hR104 (by omega) hat1 rfl).mono ?_
          rintro e wy ⟨rfl, hRy, hOy⟩
          generalize Fm.need s.data.toList (Fm.step st) 93 = st2 at *
          generalize Fm.preF s.data.toList m f st2 = r at *
          go_wp2_with fail
          refine (HQ.out _ hRy (by omega) (by omega)).mono ?_
          rintro e wx ⟨vx, rfl, hox, hRx, hOx⟩
          go_wp2_with fail
          refine (l02Pre_c 5 _ r.1 _ hox.nodes (by omega)).mono ?_
          rintro e wz ⟨vz, rfl, hoz, hgz⟩
          go_wp2_with fail
          go_ret
          exact ⟨_, rfl, hoz.base (((((((hOr).trans hO1).trans hO2).trans hO3).trans hO104).trans hOy).trans hOx).size, hRx.grew hgz, (((((((hOr).trans hO1).trans hO2).trans hO3).trans hO104).trans hOy).trans hOx).grew hgz⟩
        have h91' : Fm.sees s.data.toList st 91 = false := by simpa using h91
        clear h91
        refine (l02Take_no g T s st 91 _ _ hR3 (by omega) hat rfl h91').mono ?_
        rintro e w4 ⟨rfl, hR4, hO4⟩
        go_wp2_with fail
        by_cases h60 : Fm.sees s.data.toList st 60 = true
        · have hE := HE.out
          rw [Fm.preF_dia h60] at hE
          subst hE
          have hlt := Fm.sees_lt h60
          rw [HZ.out] at hlt
          have e1 : (Fm.step st).1 = st.1 + 1 := rfl
          have hn := Fm.need_pos (s := s.data.toList) (st := Fm.step st) (c := 62) (by rw [HZ.out, e1]; exact hlt)
          rw [HZ.out, e1] at hn
          obtain ⟨n1, n2⟩ := hn
          have hk : Fm.Ok s.data.toList (Fm.need s.data.toList (Fm.step st) 62) (Fm.preF s.data.toList m f (Fm.need s.data.toList (Fm.step st) 62)) := Fm.preF_ok f _ (by rw [HZ.out]; exact n2)
          obtain ⟨k1, k2, k3⟩ := hk
          rw [HZ.out] at k2
          have HQ := Lib.hid (HP.out g (Fm.need s.data.toList (Fm.step st) 62))
          have hat1 : (Fm.step st).1 ≤ s.size := by rw [e1]; omega
          clear e1 HI HP
          refine (l02Take_yes g T s st 60 _ _ hR4 (by omega) hat rfl h60).mono ?_
          rintro e w105 ⟨rfl, hR105, hO105⟩
          go_wp2_with fail
          refine (l02Need_c g T s (Fm.step st) 62 _ _ hR105 (by omega) hat1 rfl).mono ?_
          rintro e wy ⟨rfl, hRy, hOy⟩
          generalize Fm.need s.data.toList (Fm.step st) 62 = st2 at *
          generalize Fm.preF s.data.toList m f st2 = r at *
          go_wp2_with fail
          refine (HQ.out _ hRy (by omega) (by omega)).mono ?_
          rintro e wx ⟨vx, rfl, hox, hRx, hOx⟩
          go_wp2_with fail
          refine (l02Pre_c 6 _ r.1 _ hox.nodes (by omega)).mono ?_
          rintro e wz ⟨vz, rfl, hoz, hgz⟩
          go_wp2_with fail
          go_ret
          exact ⟨_, rfl, hoz.base ((((((((hOr).trans hO1).trans hO2).trans hO3).trans hO4).trans hO105).trans hOy).trans hOx).size, hRx.grew hgz, ((((((((hOr).trans hO1).trans hO2).trans hO3).trans hO4).trans hO105).trans hOy).trans hOx).grew hgz⟩
        have h60' : Fm.sees s.data.toList st 60 = false := by simpa using h60
        clear h60
        refine (l02Take_no g T s st 60 _ _ hR4 (by omega) hat rfl h60').mono ?_
        rintro e w5 ⟨rfl, hR5, hO5⟩
        go_wp2_with fail
        by_cases h40 : Fm.sees s.data.toList st 40 = true
        · have hE := HE.out
          rw [Fm.preF_par h40] at hE
          subst hE
          have hlt := Fm.sees_lt h40
          rw [HZ.out] at hlt
          have hk : Fm.Ok s.data.toList (Fm.step st) (Fm.impF s.data.toList m (Fm.preF s.data.toList m f) m (Fm.step st)) := Fm.impF_ok (fun st h => Fm.preF_ok f st h) m (Fm.step st) (by rw [HZ.out]; exact hlt)
          have e1 : (Fm.step st).1 = st.1 + 1 := rfl
          obtain ⟨k1, k2, k3⟩ := hk
          rw [HZ.out] at k2
          rw [e1] at k1 k3
          have hq := HI.out g (Fm.step st)
          rw [e1] at hq
          have HQ := Lib.hid hq
          clear hq e1 HI HP
          generalize Fm.impF s.data.toList m (Fm.preF s.data.toList m f) m (Fm.step st) = r at *
          refine (l02Take_yes g T s st 40 _ _ hR5 (by omega) hat rfl h40).mono ?_
          rintro e w106 ⟨rfl, hR106, hO106⟩
          go_wp2_with fail
          refine (HQ.out _ hR106 (by omega) (by omega)).mono ?_
          rintro e wx ⟨vx, rfl, hox, hRx, hOx⟩
          have hne := own_rdr_ne hox hRx hT
          go_wp2_with fail
          refine (l02Need_c g T s r.2 41 _ _ hRx (by omega) (by omega) rfl).mono ?_
          rintro e wz ⟨rfl, hRz, hOz⟩
          go_wp2_with fail
          go_ret
          exact ⟨_, rfl, (hox.only hOz hne).base (((((((hOr).trans hO1).trans hO2).trans hO3).trans hO4).trans hO5).trans hO106).size, hRz, ((((((((hOr).trans hO1).trans hO2).trans hO3).trans hO4).trans hO5).trans hO106).trans hOx).trans hOz⟩
        have h40' : Fm.sees s.data.toList st 40 = false := by simpa using h40
        clear h40
        refine (l02Take_no g T s st 40 _ _ hR5 (by omega) hat rfl h40').mono ?_
        rintro e w6 ⟨rfl, hR6, hO6⟩
        have hE := HE.out
        have h126x := Fm.preF_bad (m := m) (f := f) h126' h91' h60' h70' h84' h40' HL.out
        rw [h126x] at hE
        subst hE
        clear h126x HL
        have c2 := hR6.bad
        have hf := hR6.free 2
        have HH := Lib.hid hR6
        clear hRr hR1 hR2 hR3 hR4 hR5 hR6
        go_wp2_with fail
        refine (l02False_c _).mono ?_
        rintro e wz ⟨vz, rfl, hoz, hgz⟩
        go_wp2_with fail
        go_ret
        exact ⟨_, rfl, hoz.base ((((((((hOr).trans hO1).trans hO2).trans hO3).trans hO4).trans hO5).trans hO6).setCell _).size, HH.out.spoil.grew hgz, ((((((((hOr).trans hO1).trans hO2).trans hO3).trans hO4).trans hO5).trans hO6).setCell _).grew hgz⟩

theorem l02Prefix_sub (T : TypeId) (hT : 87 ≠ T) (s : ByteArray) (m : Nat) (hs : s.size ≤ 1048576) (hm : s.size < m) : ∀ f, f ≤ m → Sub 177 T s f (Fm.preF s.data.toList m f) := by
  intro f
  induction f with
  | zero => intro _ g st w _ _ h; omega
  | succ f ih =>
    intro hfm g st w hR hat hfu
    have hp := ih (by omega)
    have hok : ∀ st : Fm.St, st.1 ≤ s.data.toList.length → Fm.Ok s.data.toList st (Fm.preF s.data.toList m f st) := fun st h => Fm.preF_ok f st h
    have hand := l02And_c T hT s f m _ hs hm hok hp
    have hor := l02Or_c T hT s f m _ hs hm (fun st h => Fm.andF_ok (m := m) hok st h) hand
    have himp := l02Imply_c T hT s f m _ hs hok hor m
    exact l02Prefix_step T hT s f m hs (fun g st w h1 h2 h3 => himp g st w h1 h2 (by omega) h3) hp g st w hR hat hfu

/-- The reference's reader at a text's beginning. -/
theorem l02Imply_top (T : TypeId) (hT : 87 ≠ T) (s : ByteArray) (m : Nat) (hs : s.size ≤ 1048576) (hm : s.size < m) (g : Nat) (w : World) (hR : Rdr w g T s (0, false)) :
    Calls Tryz.prog 164 #[.pointer (some ⟨g, 0, none⟩)] w (Reads w g T s (Fm.parse s.data.toList m)) := by
  have hok : ∀ st : Fm.St, st.1 ≤ s.data.toList.length → Fm.Ok s.data.toList st (Fm.preF s.data.toList m m st) := fun st h => Fm.preF_ok m st h
  have hand := l02And_c T hT s m m _ hs hm hok (l02Prefix_sub T hT s m hs hm m (Nat.le_refl _))
  have hor := l02Or_c T hT s m m _ hs hm (fun st h => Fm.andF_ok (m := m) hok st h) hand
  exact l02Imply_c T hT s m m _ hs hok hor m g (0, false) w hR (by simp) (by simpa using hm) (by simpa using hm)
end Go.Proofs.YtofeeenjlaljpaaGreat

/- Formulas as trees, their lists of nodes and their texts. No program is in sight. -/
namespace Go.Proofs.YtofeeenjlaljpaaGreat
namespace Fm

inductive Tree where
  | var (v : Fin 6)
  | fls
  | and (a b : Tree)
  | or (a b : Tree)
  | imp (a b : Tree)
  | box (a : Tree)
  | dia (a : Tree)

/-- The list of the nodes. -/
def enc : Tree → List Nd
  | .var v => [(0, (v.val : Int))]
  | .fls => [(1, 0)]
  | .and a b => (2, 0) :: (enc a ++ enc b)
  | .or a b => (3, 0) :: (enc a ++ enc b)
  | .imp a b => (4, 0) :: (enc a ++ enc b)
  | .box a => (5, 0) :: enc a
  | .dia a => (6, 0) :: enc a

theorem enc_pos (t : Tree) : 1 ≤ (enc t).length := by cases t <;> simp [enc]

def isF : Tree → Bool
  | .fls => true
  | _ => false
theorem isF_eq {t : Tree} (h : isF t = true) : t = .fls := by cases t <;> simp_all [isF]

/-- How many parts the nodes of a kind have. -/
def arity (k : Int) : Nat := if k = 2 ∨ k = 3 ∨ k = 4 then 2 else if k = 5 ∨ k = 6 then 1 else 0
theorem arity_le (k : Int) : arity k ≤ 2 := by unfold arity; split; omega; split <;> omega

/-- How many nodes are read till no part is open. -/
def scan : List Nd → Nat → Option Nat
  | _, 0 => some 0
  | [], _ + 1 => none
  | x :: xs, o + 1 => (scan xs (o + arity x.1)).map (· + 1)

theorem scan_zero (xs : List Nd) : scan xs 0 = some 0 := by cases xs <;> rfl
theorem scan_nil (o : Nat) : scan [] (o + 1) = none := rfl
theorem scan_cons (x : Nd) (xs : List Nd) (o : Nat) : scan (x :: xs) (o + 1) = (scan xs (o + arity x.1)).map (· + 1) := rfl

theorem scan_enc (t : Tree) : ∀ (rest : List Nd) (o : Nat), scan (enc t ++ rest) (o + 1) = (scan rest o).map (· + (enc t).length) := by
  induction t with
  | var v => intro rest o; simp [enc, scan_cons, arity]
  | fls => intro rest o; simp [enc, scan_cons, arity]
  | and a b iha ihb =>
    intro rest o
    simp only [enc, List.cons_append, scan_cons, List.append_assoc]
    rw [show arity 2 = 2 from rfl, show o + 2 = (o + 1) + 1 from rfl, iha, ihb]
    cases scan rest o <;> simp; omega
  | or a b iha ihb =>
    intro rest o
    simp only [enc, List.cons_append, scan_cons, List.append_assoc]
    rw [show arity 3 = 2 from rfl, show o + 2 = (o + 1) + 1 from rfl, iha, ihb]
    cases scan rest o <;> simp; omega
  | imp a b iha ihb =>
    intro rest o
    simp only [enc, List.cons_append, scan_cons, List.append_assoc]
    rw [show arity 4 = 2 from rfl, show o + 2 = (o + 1) + 1 from rfl, iha, ihb]
    cases scan rest o <;> simp; omega
  | box a iha =>
    intro rest o
    simp only [enc, List.cons_append, scan_cons]
    rw [show arity 5 = 1 from rfl, iha]
    cases scan rest o <;> simp; omega
  | dia a iha =>
    intro rest o
    simp only [enc, List.cons_append, scan_cons]
    rw [show arity 6 = 1 from rfl, iha]
    cases scan rest o <;> simp; omega
theorem scan_one (t : Tree) (rest : List Nd) : scan (enc t ++ rest) 1 = some (enc t).length := by
  rw [scan_enc t rest 0, scan_zero]; simp
theorem scan_le : ∀ (xs : List Nd) (o n : Nat), scan xs o = some n → n ≤ xs.length := by
  intro xs
  induction xs with
  | nil => intro o n h; cases o with
    | zero => simp [scan_zero] at h; omega
    | succ o => simp [scan_nil] at h
  | cons x xs ih => intro o n h; cases o with
    | zero => simp [scan_zero] at h; omega
    | succ o =>
      rw [scan_cons] at h
      cases hs : scan xs (o + arity x.1) with
      | none => rw [hs] at h; simp at h
      | some m => rw [hs] at h; simp at h; have := ih _ _ hs; simp; omega

/-- The level of the grammar at which a text stands. -/
def own : Tree → Nat
  | .and _ _ => 2
  | .or _ _ => 1
  | .imp _ b => if isF b then 3 else 0
  | _ => 3
def wrap (l o : Nat) (s : List UInt8) : List UInt8 := if o < l then [40] ++ s ++ [41] else s
/-- The text at a level. -/
def txt : Tree → Nat → List UInt8
  | .var v, _ => [UInt8.ofNat (112 + v.val)]
  | .fls, _ => [70]
  | .and a b, l => wrap l 2 (txt a 2 ++ [38] ++ txt b 3)
  | .or a b, l => wrap l 1 (txt a 1 ++ [124] ++ txt b 2)
  | .imp a b, l => if isF b then (if isF a then [84] else [126] ++ txt a 3) else wrap l 0 (txt a 1 ++ [62] ++ txt b 0)
  | .box a, _ => [91, 93] ++ txt a 3
  | .dia a, _ => [60, 62] ++ txt a 3

theorem wrap_len (l o : Nat) (s : List UInt8) : (wrap l o s).length ≤ s.length + 2 := by
  unfold wrap; split <;> simp
theorem txt_len (t : Tree) : ∀ l, (txt t l).length ≤ 4 * (enc t).length := by
  induction t with
  | var v => intro l; simp [txt, enc]
  | fls => intro l; simp [txt, enc]
  | and a b iha ihb =>
    intro l
    have := wrap_len l 2 (txt a 2 ++ [38] ++ txt b 3)
    have h1 := iha 2
    have h2 := ihb 3
    simp only [txt, enc, List.length_cons, List.length_append, List.length_nil] at *
    omega
  | or a b iha ihb =>
    intro l
    have := wrap_len l 1 (txt a 1 ++ [124] ++ txt b 2)
    have h1 := iha 1
    have h2 := ihb 2
    simp only [txt, enc, List.length_cons, List.length_append, List.length_nil] at *
    omega
  | imp a b iha ihb =>
    intro l
    have := wrap_len l 0 (txt a 1 ++ [62] ++ txt b 0)
    have h1 := iha 1
    have h2 := ihb 0
    have h3 := iha 3
    have h4 := enc_pos a
    simp only [txt]
    split
    · split
      · simp [enc]; omega
      · simp only [enc, List.length_cons, List.length_append, List.length_nil]; omega
    · simp only [enc, List.length_cons, List.length_append, List.length_nil] at *; omega
  | box a iha =>
    intro l
    have h3 := iha 3
    simp only [txt, enc, List.length_cons, List.length_append, List.length_nil]; omega
  | dia a iha =>
    intro l
    have h3 := iha 3
    simp only [txt, enc, List.length_cons, List.length_append, List.length_nil]; omega

theorem arity_enc (t : Tree) : ∃ x rest, enc t = x :: rest := by cases t <;> exact ⟨_, _, rfl⟩

/-- Every list that the parser makes is that of a tree. -/
def IsEnc (xs : List Nd) : Prop := ∃ t, xs = enc t
theorem isEnc_join {k : Int} {a b : List Nd} (hk : k = 2 ∨ k = 3 ∨ k = 4) (ha : IsEnc a) (hb : IsEnc b) : IsEnc (join k a b) := by
  obtain ⟨s, rfl⟩ := ha
  obtain ⟨t, rfl⟩ := hb
  rcases hk with rfl | rfl | rfl
  · exact ⟨.and s t, rfl⟩
  · exact ⟨.or s t, rfl⟩
  · exact ⟨.imp s t, rfl⟩
theorem isEnc_pre {k : Int} {a : List Nd} (hk : k = 5 ∨ k = 6) (ha : IsEnc a) : IsEnc (pre k a) := by
  obtain ⟨s, rfl⟩ := ha
  rcases hk with rfl | rfl
  · exact ⟨.box s, rfl⟩
  · exact ⟨.dia s, rfl⟩
theorem isEnc_falsum : IsEnc falsum := ⟨.fls, rfl⟩
theorem loop_enc {s : List UInt8} {k : Int} {c : UInt8} {sub : St → Res} (hk : k = 2 ∨ k = 3 ∨ k = 4) (hsub : ∀ st, IsEnc (sub st).1) : ∀ (m : Nat) (a : List Nd) (st : St), IsEnc a → IsEnc (loop s k c sub m a st).1 := by
  intro m
  induction m with
  | zero => intro a st h; exact h
  | succ m ih =>
    intro a st h
    unfold loop
    split
    · exact ih _ _ (isEnc_join hk h (hsub _))
    · exact h
theorem andF_enc {s : List UInt8} {m : Nat} {sub : St → Res} (hsub : ∀ st, IsEnc (sub st).1) (st : St) : IsEnc (andF s m sub st).1 := loop_enc (.inl rfl) hsub _ _ _ (hsub st)
theorem orF_enc {s : List UInt8} {m : Nat} {sub : St → Res} (hsub : ∀ st, IsEnc (sub st).1) (st : St) : IsEnc (orF s m sub st).1 := loop_enc (.inr (.inl rfl)) (fun st => andF_enc hsub st) _ _ _ (andF_enc hsub st)
theorem impF_enc {s : List UInt8} {m : Nat} {sub : St → Res} (hsub : ∀ st, IsEnc (sub st).1) : ∀ (i : Nat) (st : St), IsEnc (impF s m sub i st).1 := by
  intro i
  induction i with
  | zero => intro st; exact orF_enc hsub st
  | succ i ih =>
    intro st
    unfold impF
    dsimp only
    split
    · exact isEnc_join (.inr (.inr rfl)) (orF_enc hsub st) (ih _)
    · exact orF_enc hsub st
theorem preF_enc {s : List UInt8} {m : Nat} : ∀ (f : Nat) (st : St), IsEnc (preF s m f st).1 := by
  intro f
  induction f with
  | zero => intro st; exact isEnc_falsum
  | succ f ih =>
    intro st
    unfold preF
    split
    · exact isEnc_join (.inr (.inr rfl)) (ih _) isEnc_falsum
    split
    · exact isEnc_pre (.inl rfl) (ih _)
    split
    · exact isEnc_pre (.inr rfl) (ih _)
    split
    · exact isEnc_falsum
    split
    · exact ⟨.imp .fls .fls, rfl⟩
    split
    · exact impF_enc ih _ _
    split
    · rename_i v hv
      exact ⟨.var ⟨v, (letter_some hv).1⟩, rfl⟩
    · exact isEnc_falsum
theorem parse_enc (s : List UInt8) (m : Nat) : IsEnc (parse s m).1 := impF_enc (fun st => preF_enc m st) m _

end Fm
end Go.Proofs.YtofeeenjlaljpaaGreat

/- The text of a formula is parsed to the formula. No program is in sight. -/
namespace Go.Proofs.YtofeeenjlaljpaaGreat
namespace Fm

theorem sees_drop {s : List UInt8} {i : Nat} {c : UInt8} {r : List UInt8} (h : s.drop i = c :: r) (d : UInt8) : sees s (i, false) d = (c == d) := by
  have h1 : s[i]? = some c := by
    have := congrArg List.head? h
    simpa using this
  unfold sees
  rw [h1]
  rw [Bool.eq_iff_iff]
  simp
theorem sees_none {s : List UInt8} {i : Nat} {r : List UInt8} {d : UInt8} (h : s.drop i = r) (hd : r.head? ≠ some d) : sees s (i, false) d = false := by
  have h1 : s[i]? = r.head? := by rw [← h]; simp
  unfold sees
  rw [h1]
  cases hr : r.head? with
  | none => rfl
  | some c =>
    rw [hr] at hd
    have : c ≠ d := fun e => hd (by rw [e])
    simp [this]
theorem drop_tail {s : List UInt8} {i : Nat} {x r : List UInt8} (h : s.drop i = x ++ r) : s.drop (i + x.length) = r := by
  rw [← List.drop_drop, h, List.drop_left]
theorem drop_len {s : List UInt8} {i : Nat} {x r : List UInt8} (h : s.drop i = x ++ r) (hx : 1 ≤ x.length) : i + x.length ≤ s.length := by
  have := congrArg List.length h
  simp only [List.length_drop, List.length_append] at this
  omega
theorem txt_pos (t : Tree) (l : Nat) : 1 ≤ (txt t l).length := by
  cases t with
  | var v => simp [txt]
  | fls => simp [txt]
  | and a b => simp only [txt, wrap]; split <;> simp <;> omega
  | or a b => simp only [txt, wrap]; split <;> simp <;> omega
  | imp a b => simp only [txt, wrap]; split <;> split <;> simp <;> omega
  | box a => simp only [txt, List.length_append, List.length_cons]; omega
  | dia a => simp only [txt, List.length_append, List.length_cons]; omega

section
variable (s : List UInt8) (m : Nat)
/-- The text at level 3 is read by the lowest level of the parser. -/
def P3 (t : Tree) : Prop := ∀ (f i : Nat) (r : List UInt8), s.drop i = txt t 3 ++ r → s.length - i < f → preF s m f (i, false) = (enc t, (i + (txt t 3).length, false))
def P2 (t : Tree) : Prop := ∀ (f i : Nat) (r : List UInt8), s.drop i = txt t 2 ++ r → s.length - i < f →
  ∃ k, s.length - (i + (txt t 2).length) < k ∧ andF s m (preF s m f) (i, false) = loop s 2 38 (preF s m f) k (enc t) (i + (txt t 2).length, false)
def P1 (t : Tree) : Prop := ∀ (f i : Nat) (r : List UInt8), s.drop i = txt t 1 ++ r → s.length - i < f → r.head? ≠ some 38 →
  ∃ k, s.length - (i + (txt t 1).length) < k ∧ orF s m (preF s m f) (i, false) = loop s 3 124 (andF s m (preF s m f)) k (enc t) (i + (txt t 1).length, false)
def P0 (t : Tree) : Prop := ∀ (f n i : Nat) (r : List UInt8), s.drop i = txt t 0 ++ r → s.length - i < f → s.length - i < n → r.head? ≠ some 38 → r.head? ≠ some 124 → r.head? ≠ some 62 →
  impF s m (preF s m f) n (i, false) = (enc t, (i + (txt t 0).length, false))
end

section
variable {s : List UInt8} {m : Nat}

theorem loop_stop {k : Int} {c : UInt8} {sub : St → Res} {n : Nat} {a : List Nd} {st : St} (h : sees s st c = false) : loop s k c sub n a st = (a, st) := by
  cases n with
  | zero => rfl
  | succ n => rw [loop, if_neg (by rw [h]; decide)]

/-- From the lowest level to the next one, where the text is the same. -/
theorem up2 (hm : s.length < m) {t : Tree} (ht : txt t 2 = txt t 3) (h : P3 s m t) : P2 s m t := by
  intro f i r hd hf
  rw [ht] at hd ⊢
  refine ⟨m, by omega, ?_⟩
  have := h f i r hd hf
  rw [andF, this]
theorem up1 (hm : s.length < m) {t : Tree} (ht : txt t 1 = txt t 2) (h : P2 s m t) : P1 s m t := by
  intro f i r hd hf hr
  rw [ht] at hd ⊢
  obtain ⟨k, hk, he⟩ := h f i r hd hf
  have hs := sees_none (drop_tail hd) hr
  rw [loop_stop hs] at he
  refine ⟨m, by omega, ?_⟩
  rw [orF, he]
theorem up0 {t : Tree} (ht : txt t 0 = txt t 1) (h : P1 s m t) : P0 s m t := by
  intro f n i r hd hf hn h1 h2 h3
  rw [ht] at hd ⊢
  obtain ⟨k, hk, he⟩ := h f i r hd hf h1
  rw [loop_stop (sees_none (drop_tail hd) h2)] at he
  cases n with
  | zero => omega
  | succ n =>
    rw [impF_no (by rw [he]; exact sees_none (drop_tail hd) h3), he]
/-- Brackets. -/
theorem down3 (hm : s.length < m) {t : Tree} (ht : txt t 3 = [40] ++ txt t 0 ++ [41]) (h : P0 s m t) : P3 s m t := by
  intro f i r hd hf
  have hp := txt_pos t 0
  rw [ht] at hd ⊢
  have hlen := drop_len hd (by simp)
  simp only [List.length_append, List.length_cons, List.length_nil] at hlen
  simp only [List.append_assoc, List.cons_append, List.nil_append] at hd
  have h1 : s.drop (i + 1) = txt t 0 ++ (41 :: r) := drop_tail (x := [40]) (r := txt t 0 ++ (41 :: r)) hd
  have h2 : s.drop (i + 1 + (txt t 0).length) = 41 :: r := drop_tail h1
  cases f with
  | zero => omega
  | succ f =>
    have h40 : sees s (i, false) 40 = true := by rw [sees_drop hd]; rfl
    rw [preF_par h40, show step (i, false) = (i + 1, false) from rfl]
    rw [h f m (i + 1) (41 :: r) h1 (by omega) (by omega) (by simp) (by simp) (by simp)]
    have h41 : sees s (i + 1 + (txt t 0).length, false) 41 = true := by rw [sees_drop h2]; rfl
    simp only [need, h41, if_true, step, List.length_append, List.length_cons, List.length_nil]
    congr 2
    omega

theorem all_fls (hm : s.length < m) : P3 s m .fls ∧ P2 s m .fls ∧ P1 s m .fls ∧ P0 s m .fls := by
  have h3 : P3 s m .fls := by
    intro f i r hd hf
    have hd' : s.drop i = 70 :: r := hd
    have hlen := drop_len hd (by simp [txt])
    simp only [txt, List.length_cons, List.length_nil] at hlen
    cases f with
    | zero => omega
    | succ f => rw [preF_fls (by rw [sees_drop hd']; rfl)]; rfl
  have h2 := up2 hm rfl h3
  have h1 := up1 hm rfl h2
  exact ⟨h3, h2, h1, up0 rfl h1⟩
theorem all_tru (hm : s.length < m) : P3 s m (.imp .fls .fls) ∧ P2 s m (.imp .fls .fls) ∧ P1 s m (.imp .fls .fls) ∧ P0 s m (.imp .fls .fls) := by
  have h3 : P3 s m (.imp .fls .fls) := by
    intro f i r hd hf
    have hd' : s.drop i = 84 :: r := hd
    have hlen := drop_len hd (by simp [txt, isF])
    simp only [txt, isF, if_true, List.length_cons, List.length_nil] at hlen
    cases f with
    | zero => omega
    | succ f => rw [preF_tru (by rw [sees_drop hd']; rfl)]; rfl
  have h2 := up2 hm rfl h3
  have h1 := up1 hm rfl h2
  exact ⟨h3, h2, h1, up0 rfl h1⟩
theorem all_var (hm : s.length < m) (v : Fin 6) : P3 s m (.var v) ∧ P2 s m (.var v) ∧ P1 s m (.var v) ∧ P0 s m (.var v) := by
  have h3 : P3 s m (.var v) := by
    intro f i r hd hf
    have hd' : s.drop i = UInt8.ofNat (112 + v.val) :: r := hd
    have hlen := drop_len hd (by simp [txt])
    simp only [txt, List.length_cons, List.length_nil] at hlen
    cases f with
    | zero => omega
    | succ f =>
      have hl : letter s (i, false) = some v.val := letter_of_sees v.isLt (by rw [sees_drop hd']; simp)
      rw [preF_var hl]; rfl
  have h2 := up2 hm rfl h3
  have h1 := up1 hm rfl h2
  exact ⟨h3, h2, h1, up0 rfl h1⟩
theorem all_not (hm : s.length < m) {x : Tree} (hx : isF x = false) (h : P3 s m x) : P3 s m (.imp x .fls) ∧ P2 s m (.imp x .fls) ∧ P1 s m (.imp x .fls) ∧ P0 s m (.imp x .fls) := by
  have ht : ∀ l, txt (.imp x .fls) l = [126] ++ txt x 3 := by intro l; rw [txt, if_pos (show isF .fls = true from rfl), if_neg (by rw [hx]; decide)]
  have h3 : P3 s m (.imp x .fls) := by
    intro f i r hd hf
    rw [ht] at hd ⊢
    have hlen := drop_len hd (by simp)
    simp only [List.length_append, List.length_cons, List.length_nil] at hlen
    have hd' : s.drop i = 126 :: (txt x 3 ++ r) := by simpa using hd
    have h1 : s.drop (i + 1) = txt x 3 ++ r := drop_tail (x := [126]) (r := txt x 3 ++ r) hd'
    cases f with
    | zero => omega
    | succ f =>
      rw [preF_not (by rw [sees_drop hd']; rfl), show step (i, false) = (i + 1, false) from rfl, h f (i + 1) r h1 (by omega)]
      simp only [List.length_append, List.length_cons, List.length_nil]
      refine Prod.ext rfl (Prod.ext (by simp only; omega) rfl)
  have h2 := up2 hm (by rw [ht, ht]) h3
  have h1 := up1 hm (by rw [ht, ht]) h2
  exact ⟨h3, h2, h1, up0 (by rw [ht, ht]) h1⟩
theorem all_box (hm : s.length < m) {x : Tree} (h : P3 s m x) : P3 s m (.box x) ∧ P2 s m (.box x) ∧ P1 s m (.box x) ∧ P0 s m (.box x) := by
  have h3 : P3 s m (.box x) := by
    intro f i r hd hf
    have hd' : s.drop i = 91 :: (93 :: (txt x 3 ++ r)) := by simpa [txt] using hd
    have hlen := drop_len hd (by simp [txt])
    simp only [txt, List.length_append, List.length_cons, List.length_nil] at hlen
    have h1 : s.drop (i + 1) = 93 :: (txt x 3 ++ r) := drop_tail (x := [91]) (r := 93 :: (txt x 3 ++ r)) hd'
    have h2 : s.drop (i + 2) = txt x 3 ++ r := drop_tail (x := [91, 93]) (r := txt x 3 ++ r) hd'
    cases f with
    | zero => omega
    | succ f =>
      have h93 : sees s (i + 1, false) 93 = true := by rw [sees_drop h1]; rfl
      rw [preF_box (by rw [sees_drop hd']; rfl), show step (i, false) = (i + 1, false) from rfl, show need s (i + 1, false) 93 = (i + 2, false) by simp [need, h93, step], h f (i + 2) r h2 (by omega)]
      simp only [txt, List.length_append, List.length_cons, List.length_nil]
      refine Prod.ext rfl (Prod.ext (by simp only; omega) rfl)
  have h2 := up2 hm rfl h3
  have h1 := up1 hm rfl h2
  exact ⟨h3, h2, h1, up0 rfl h1⟩
theorem all_dia (hm : s.length < m) {x : Tree} (h : P3 s m x) : P3 s m (.dia x) ∧ P2 s m (.dia x) ∧ P1 s m (.dia x) ∧ P0 s m (.dia x) := by
  have h3 : P3 s m (.dia x) := by
    intro f i r hd hf
    have hd' : s.drop i = 60 :: (62 :: (txt x 3 ++ r)) := by simpa [txt] using hd
    have hlen := drop_len hd (by simp [txt])
    simp only [txt, List.length_append, List.length_cons, List.length_nil] at hlen
    have h1 : s.drop (i + 1) = 62 :: (txt x 3 ++ r) := drop_tail (x := [60]) (r := 62 :: (txt x 3 ++ r)) hd'
    have h2 : s.drop (i + 2) = txt x 3 ++ r := drop_tail (x := [60, 62]) (r := txt x 3 ++ r) hd'
    cases f with
    | zero => omega
    | succ f =>
      have h93 : sees s (i + 1, false) 62 = true := by rw [sees_drop h1]; rfl
      rw [preF_dia (by rw [sees_drop hd']; rfl), show step (i, false) = (i + 1, false) from rfl, show need s (i + 1, false) 62 = (i + 2, false) by simp [need, h93, step], h f (i + 2) r h2 (by omega)]
      simp only [txt, List.length_append, List.length_cons, List.length_nil]
      refine Prod.ext rfl (Prod.ext (by simp only; omega) rfl)
  have h2 := up2 hm rfl h3
  have h1 := up1 hm rfl h2
  exact ⟨h3, h2, h1, up0 rfl h1⟩

theorem all_and (hm : s.length < m) {x y : Tree} (hx : P2 s m x) (hy : P3 s m y) : P3 s m (.and x y) ∧ P2 s m (.and x y) ∧ P1 s m (.and x y) ∧ P0 s m (.and x y) := by
  have ht : ∀ l, l ≤ 2 → txt (.and x y) l = txt x 2 ++ [38] ++ txt y 3 := by intro l hl; rw [txt, wrap, if_neg (by omega)]
  have h2 : P2 s m (.and x y) := by
    intro f i r hd hf
    rw [ht 2 (by omega)] at hd ⊢
    simp only [List.append_assoc, List.cons_append, List.nil_append] at hd
    obtain ⟨k, hk, he⟩ := hx f i _ hd hf
    have d1 := drop_tail hd
    have d2 : s.drop (i + (txt x 2).length + 1) = txt y 3 ++ r := drop_tail (x := [38]) (r := txt y 3 ++ r) d1
    have hp := txt_pos y 3
    have hlen := drop_len d2 hp
    obtain ⟨q, rfl⟩ : ∃ q, k = q + 1 := ⟨k - 1, by omega⟩
    refine ⟨q, ?_, ?_⟩
    · simp only [List.length_append, List.length_cons, List.length_nil]; omega
    · rw [he, loop, if_pos (by rw [sees_drop d1]; rfl), show step (i + (txt x 2).length, false) = (i + (txt x 2).length + 1, false) from rfl, hy f _ r d2 (by omega)]
      simp only [List.length_append, List.length_cons, List.length_nil]
      rw [show i + (txt x 2).length + 1 + (txt y 3).length = i + ((txt x 2).length + (0 + 1) + (txt y 3).length) by omega]
      rfl
  have h1 := up1 hm (by rw [ht 1 (by omega), ht 2 (by omega)]) h2
  have h0 := up0 (by rw [ht 0 (by omega), ht 1 (by omega)]) h1
  exact ⟨down3 hm (by rw [ht 0 (by omega), txt, wrap, if_pos (by omega)]) h0, h2, h1, h0⟩
theorem all_or (hm : s.length < m) {x y : Tree} (hx : P1 s m x) (hy : P2 s m y) : P3 s m (.or x y) ∧ P2 s m (.or x y) ∧ P1 s m (.or x y) ∧ P0 s m (.or x y) := by
  have ht : ∀ l, l ≤ 1 → txt (.or x y) l = txt x 1 ++ [124] ++ txt y 2 := by intro l hl; rw [txt, wrap, if_neg (by omega)]
  have hw : ∀ l, 2 ≤ l → txt (.or x y) l = [40] ++ txt (.or x y) 0 ++ [41] := by intro l hl; rw [ht 0 (by omega), txt, wrap, if_pos (by omega)]
  have h1 : P1 s m (.or x y) := by
    intro f i r hd hf hr
    rw [ht 1 (by omega)] at hd ⊢
    simp only [List.append_assoc, List.cons_append, List.nil_append] at hd
    obtain ⟨k, hk, he⟩ := hx f i _ hd hf (by simp)
    have d1 := drop_tail hd
    have d2 : s.drop (i + (txt x 1).length + 1) = txt y 2 ++ r := drop_tail (x := [124]) (r := txt y 2 ++ r) d1
    have hp := txt_pos y 2
    have hlen := drop_len d2 hp
    obtain ⟨q, rfl⟩ : ∃ q, k = q + 1 := ⟨k - 1, by omega⟩
    refine ⟨q, ?_, ?_⟩
    · simp only [List.length_append, List.length_cons, List.length_nil]; omega
    · obtain ⟨k2, hk2, he2⟩ := hy f _ r d2 (by omega)
      rw [loop_stop (sees_none (drop_tail d2) hr)] at he2
      rw [he, loop, if_pos (by rw [sees_drop d1]; rfl), show step (i + (txt x 1).length, false) = (i + (txt x 1).length + 1, false) from rfl, he2]
      simp only [List.length_append, List.length_cons, List.length_nil]
      rw [show i + (txt x 1).length + 1 + (txt y 2).length = i + ((txt x 1).length + (0 + 1) + (txt y 2).length) by omega]
      rfl
  have h0 := up0 (by rw [ht 0 (by omega), ht 1 (by omega)]) h1
  have h3 := down3 hm (hw 3 (by omega)) h0
  exact ⟨h3, up2 hm (by rw [hw 2 (by omega), hw 3 (by omega)]) h3, h1, h0⟩
theorem all_imp (hm : s.length < m) {x y : Tree} (hf : isF y = false) (hx : P1 s m x) (hy : P0 s m y) : P3 s m (.imp x y) ∧ P2 s m (.imp x y) ∧ P1 s m (.imp x y) ∧ P0 s m (.imp x y) := by
  have ht : txt (.imp x y) 0 = txt x 1 ++ [62] ++ txt y 0 := by rw [txt, if_neg (by rw [hf]; decide), wrap, if_neg (by omega)]
  have hw : ∀ l, 1 ≤ l → txt (.imp x y) l = [40] ++ txt (.imp x y) 0 ++ [41] := by intro l hl; rw [ht, txt, if_neg (by rw [hf]; decide), wrap, if_pos (by omega)]
  have h0 : P0 s m (.imp x y) := by
    intro f n i r hd hf hn q1 q2 q3
    rw [ht] at hd ⊢
    simp only [List.append_assoc, List.cons_append, List.nil_append] at hd
    obtain ⟨k, hk, he⟩ := hx f i _ hd hf (by simp)
    have d1 := drop_tail hd
    have d2 : s.drop (i + (txt x 1).length + 1) = txt y 0 ++ r := drop_tail (x := [62]) (r := txt y 0 ++ r) d1
    have hp := txt_pos y 0
    have hlen := drop_len d2 hp
    rw [loop_stop (by rw [sees_drop d1]; rfl)] at he
    cases n with
    | zero => omega
    | succ n =>
      have hsee : sees s (orF s m (preF s m f) (i, false)).2 62 = true := by rw [he, sees_drop d1]; rfl
      rw [impF_yes hsee, he]
      dsimp only
      rw [show step (i + (txt x 1).length, false) = (i + (txt x 1).length + 1, false) from rfl, hy f n _ r d2 (by omega) (by omega) q1 q2 q3]
      simp only [List.length_append, List.length_cons, List.length_nil]
      refine Prod.ext rfl (Prod.ext (by simp only; omega) rfl)
  have h3 := down3 hm (hw 3 (by omega)) h0
  have h2 := up2 hm (by rw [hw 2 (by omega), hw 3 (by omega)]) h3
  exact ⟨h3, h2, up1 hm (by rw [hw 1 (by omega), hw 2 (by omega)]) h2, h0⟩

theorem all_levels (hm : s.length < m) (t : Tree) : P3 s m t ∧ P2 s m t ∧ P1 s m t ∧ P0 s m t := by
  induction t with
  | var v => exact all_var hm v
  | fls => exact all_fls hm
  | and x y hx hy => exact all_and hm hx.2.1 hy.1
  | or x y hx hy => exact all_or hm hx.2.2.1 hy.2.1
  | imp x y hx hy =>
    cases hf : isF y with
    | true =>
      obtain rfl := isF_eq hf
      cases hg : isF x with
      | true => obtain rfl := isF_eq hg; exact all_tru hm
      | false => exact all_not hm hg hx.1
    | false => exact all_imp hm hf hx.2.2.1 hy.2.2.2
  | box x hx => exact all_box hm hx.1
  | dia x hx => exact all_dia hm hx.1
end

/-- The text of a formula reads as it. -/
theorem parse_txt (t : Tree) (m : Nat) (hm : (txt t 0).length < m) : parse (txt t 0) m = (enc t, ((txt t 0).length, false)) := by
  have h := (all_levels (s := txt t 0) hm t).2.2.2 m m 0 [] (by simp) (by omega) (by omega) (by simp) (by simp) (by simp)
  rw [parse, h]
  simp

end Fm

/-- A string of bytes. -/
def bs (l : List UInt8) : ByteArray := ⟨l.toArray⟩
theorem bs_append (a b : List UInt8) : bs a ++ bs b = bs (a ++ b) := by
  apply ByteArray.ext
  simp [bs]
theorem bs_size (a : List UInt8) : (bs a).size = a.length := by simp [bs, ByteArray.size]
theorem bs_list (a : List UInt8) : (bs a).data.toList = a := by simp [bs]
theorem bs_eq (s : ByteArray) : bs s.data.toList = s := by
  apply ByteArray.ext
  simp [bs]

namespace Fm
def fuel : Nat := 1048577
/-- What a text reads as. -/
def read (s : ByteArray) : Res := parse s.data.toList fuel
/-- The whole text is a formula of whatever size. -/
def whole (s : ByteArray) : Bool := !(read s).2.2 && decide (s.size ≤ (read s).2.1)
/-- The results of ParseFormula. -/
def pf (s : ByteArray) : List Nd × Nat × Int :=
  if 200 < s.size then ([], 0, 3) else if whole s = false then ([], (read s).2.1, 6) else if 40 < (read s).1.length then ([], 0, 3) else ((read s).1, 0, 0)
theorem read_ok (s : ByteArray) : (read s).2.1 ≤ s.size ∧ (read s).1.length ≤ 3 * s.size + 1 := by
  obtain ⟨h1, h2, h3⟩ := parse_ok s.data.toList fuel
  rw [show s.data.toList.length = s.size from by simp] at h2
  exact ⟨h2, by unfold read; omega⟩
theorem read_ne (s : ByteArray) : (read s).1 ≠ [] := by
  obtain ⟨t, h⟩ := parse_enc s.data.toList fuel
  have := enc_pos t
  unfold read
  rw [h]
  intro h0
  rw [h0] at this
  simp at this
theorem pf_len (s : ByteArray) : (pf s).1.length ≤ 40 := by
  unfold pf
  split
  · simp
  split
  · simp
  split
  · simp
  · simp only; omega
end Fm

/-- What l02Read gives. -/
def Fm.rd (s : ByteArray) : List Nd × Int := if Fm.whole s = false then ([], ((Fm.read s).2.1 : Int)) else ((Fm.read s).1, -1)


namespace Fm
theorem read_txt (t : Tree) (h : (txt t 0).length < fuel) : read (bs (txt t 0)) = (enc t, ((txt t 0).length, false)) := by
  rw [read, bs_list, parse_txt t fuel h]
theorem whole_txt (t : Tree) (h : (txt t 0).length < fuel) : whole (bs (txt t 0)) = true := by
  rw [whole, read_txt t h, bs_size]
  simp
theorem pf_txt (t : Tree) (h : (txt t 0).length ≤ 200) (hn : (enc t).length ≤ 40) : pf (bs (txt t 0)) = (enc t, 0, 0) := by
  have hf : (txt t 0).length < fuel := by unfold fuel; omega
  rw [pf, if_neg (by rw [bs_size]; omega), if_neg (by rw [whole_txt t hf]; decide), read_txt t hf, if_neg (by simp only; omega)]
theorem rd_txt (t : Tree) (h : (txt t 0).length < fuel) : rd (bs (txt t 0)) = (enc t, -1) := by
  rw [rd, if_neg (by rw [whole_txt t h]; decide), read_txt t h]
end Fm
end Go.Proofs.YtofeeenjlaljpaaGreat

/- ParseFormula, of the program and of the reference: both give what the plain parser gives. -/
namespace Go.Proofs.YtofeeenjlaljpaaGreat
open Go.RowKit
open Fm (Nd)

/-- The call returns a new list and two numbers. -/
def Gives3 (w : World) (r : List Nd × Nat × Int) (e : Ending) (w' : World) : Prop := ∃ v, e = .returned (.tuple #[v, .int .i64 r.2.1, .int .i64 r.2.2]) ∧ Own w' w.heap.size v r.1 ∧ Grew w w' ∧ (r.1 = [] → v = .slice none 0 0)

theorem Rdr.new (w : World) (T : TypeId) (s : ByteArray) : Rdr (w.alloc (.cells #[.string s, .int .i64 0, .bool false] T)) w.heap.size T s (0, false) := blk_new w _

/-- A new list and one number: what l02Read returns. -/
def Gives2 (w : World) (xs : List Nd) (n : Int) (e : Ending) (w' : World) : Prop := ∃ v, e = .returned (.tuple #[v, .int .i64 n]) ∧ Own w' w.heap.size v xs ∧ Grew w w'

theorem parse_c (s : ByteArray) (w : World) (hs : s.size ≤ 140737488355328) :
    Calls Tryz.prog 85 #[.string s] w (Gives3 w (Fm.pf s)) := by
  by_cases hbig : 200 < s.size
  · have hp : Fm.pf s = ([], 0, 3) := by unfold Fm.pf; rw [if_pos hbig]
    rw [hp]
    clear hp
    go_enter Tryz.func85, Tryz.ntmps85
    go_wp2_with fail
    go_ret3
    exact ⟨_, rfl, Own.nil_ _ _, Grew.refl _, fun _ => rfl⟩
  obtain ⟨hr1, hr2⟩ := Fm.read_ok s
  have hxs : Hid ((Fm.read s).1 ≠ []) := Fm.read_ne s
  have HT := Lib.hid (fun g w hR => imply_top 112 (by decide) s Fm.fuel (by omega) (by unfold Fm.fuel; omega) g w hR)
  have hpf : Hid (Fm.pf s = if Fm.whole s = false then ([], (Fm.read s).2.1, 6) else if 40 < (Fm.read s).1.length then ([], 0, 3) else ((Fm.read s).1, 0, 0)) := by
    unfold Fm.pf Hid; rw [if_neg hbig]
  have hwh : Hid (Fm.whole s = (!(Fm.read s).2.2 && decide (s.size ≤ (Fm.read s).2.1))) := rfl
  generalize Fm.pf s = P at *
  generalize Fm.whole s = W at *
  have hrd : Fm.parse s.data.toList Fm.fuel = Fm.read s := rfl
  rw [hrd] at HT
  clear hrd
  generalize Fm.read s = r at *
  obtain ⟨xs, p, b⟩ := r
  simp only at hr1 hr2 hpf hwh hxs
  have hR0 := Rdr.new w 112 s
  have HR0 := Lib.hid hR0
  clear hR0
  by_cases hb : b = true
  · subst hb
    have hP : P = ([], p, 6) := by rw [hpf.out, hwh.out]; simp
    subst hP
    clear hpf hwh
    go_enter Tryz.func85, Tryz.ntmps85
    go_wp2_with fail
    refine (HT.out _ _ HR0.out).mono ?_
    rintro e w1 ⟨v1, rfl, ho1, hR1, hO1⟩
    have c1 := hR1.at_
    have c2 := hR1.bad
    have hG := hO1.grew_of ((Grew.refl w).alloc _) (Nat.le_refl _)
    clear hR1 hO1
    go_wp2_with fail
    go_quiet (fail)
    go_wp2_with fail
    go_ret3
    exact ⟨_, rfl, Own.nil_ _ _, hG.drewN _, fun _ => rfl⟩
  have hb' : b = false := by simpa using hb
  subst hb'
  clear hb
  by_cases hlt : p < s.size
  · have hP : P = ([], p, 6) := by
      rw [hpf.out, hwh.out]
      simp [hlt]
    subst hP
    clear hpf hwh
    go_enter Tryz.func85, Tryz.ntmps85
    go_wp2_with fail
    refine (HT.out _ _ HR0.out).mono ?_
    rintro e w1 ⟨v1, rfl, ho1, hR1, hO1⟩
    have c1 := hR1.at_
    have c2 := hR1.bad
    have hG := hO1.grew_of ((Grew.refl w).alloc _) (Nat.le_refl _)
    clear hR1 hO1
    go_wp2_with fail
    go_quiet (fail)
    go_wp2_with fail
    go_ret3
    exact ⟨_, rfl, Own.nil_ _ _, hG.drewN _, fun _ => rfl⟩
  by_cases h40 : 40 < xs.length
  · have hP : P = ([], 0, 3) := by
      rw [hpf.out, hwh.out]
      simp [Nat.le_of_not_lt hlt, h40]
    subst hP
    clear hpf hwh
    go_enter Tryz.func85, Tryz.ntmps85
    go_wp2_with fail
    refine (HT.out _ _ HR0.out).mono ?_
    rintro e w1 ⟨v1, rfl, ho1, hR1, hO1⟩
    have c1 := hR1.at_
    have c2 := hR1.bad
    have hG := hO1.grew_of ((Grew.refl w).alloc _) (Nat.le_refl _)
    obtain ⟨A, ca, rfl⟩ := nodes_slice ho1.nodes
    clear hR1 hO1
    go_wp2_with fail
    go_ret3
    exact ⟨_, rfl, Own.nil_ _ _, hG, fun _ => rfl⟩
  · have hP : P = (xs, 0, 0) := by
      rw [hpf.out, hwh.out]
      simp [Nat.le_of_not_lt hlt, h40]
    subst hP
    clear hpf hwh
    go_enter Tryz.func85, Tryz.ntmps85
    go_wp2_with fail
    refine (HT.out _ _ HR0.out).mono ?_
    rintro e w1 ⟨v1, rfl, ho1, hR1, hO1⟩
    have c1 := hR1.at_
    have c2 := hR1.bad
    have hG := hO1.grew_of ((Grew.refl w).alloc _) (Nat.le_refl _)
    obtain ⟨A, ca, rfl⟩ := nodes_slice ho1.nodes
    clear hR1 hO1
    go_wp2_with fail
    go_ret3
    exact ⟨_, rfl, ho1.base (by simp), hG, fun h => absurd h hxs.out⟩
theorem l02Read_c (s : ByteArray) (w : World) (hs : s.size ≤ 1048576) :
    Calls Tryz.prog 140 #[.string s] w (Gives2 w (Fm.rd s).1 (Fm.rd s).2) := by
  obtain ⟨hr1, hr2⟩ := Fm.read_ok s
  have hxs : Hid ((Fm.read s).1 ≠ []) := Fm.read_ne s
  have HT := Lib.hid (fun g w hR => l02Imply_top 159 (by decide) s Fm.fuel (by omega) (by unfold Fm.fuel; omega) g w hR)
  have hpf : Hid (Fm.rd s = if Fm.whole s = false then ([], ((Fm.read s).2.1 : Int)) else ((Fm.read s).1, -1)) := rfl
  have hwh : Hid (Fm.whole s = (!(Fm.read s).2.2 && decide (s.size ≤ (Fm.read s).2.1))) := rfl
  generalize Fm.rd s = P at *
  generalize Fm.whole s = W at *
  have hrd : Fm.parse s.data.toList Fm.fuel = Fm.read s := rfl
  rw [hrd] at HT
  clear hrd
  generalize Fm.read s = r at *
  obtain ⟨xs, p, b⟩ := r
  simp only at hr1 hr2 hpf hwh
  clear hxs
  have HR0 := Lib.hid (Rdr.new w 159 s)
  by_cases hb : b = true
  · subst hb
    have hP : P = ([], (p : Int)) := by rw [hpf.out, hwh.out]; simp
    subst hP
    clear hpf hwh
    go_enter Tryz.func140, Tryz.ntmps140
    go_wp2_with fail
    refine (HT.out _ _ HR0.out).mono ?_
    rintro e w1 ⟨v1, rfl, ho1, hR1, hO1⟩
    have c1 := hR1.at_
    have c2 := hR1.bad
    have hG := hO1.grew_of ((Grew.refl w).alloc _) (Nat.le_refl _)
    clear hR1 hO1
    go_wp2_with fail
    go_quiet (fail)
    go_wp2_with fail
    go_ret2
    exact ⟨_, rfl, Own.nil_ _ _, hG.drewN _⟩
  have hb' : b = false := by simpa using hb
  subst hb'
  clear hb
  by_cases hlt : p < s.size
  · have hP : P = ([], (p : Int)) := by
      rw [hpf.out, hwh.out]
      simp [hlt]
    subst hP
    clear hpf hwh
    go_enter Tryz.func140, Tryz.ntmps140
    go_wp2_with fail
    refine (HT.out _ _ HR0.out).mono ?_
    rintro e w1 ⟨v1, rfl, ho1, hR1, hO1⟩
    have c1 := hR1.at_
    have c2 := hR1.bad
    have hG := hO1.grew_of ((Grew.refl w).alloc _) (Nat.le_refl _)
    clear hR1 hO1
    go_wp2_with fail
    go_quiet (fail)
    go_wp2_with fail
    go_ret2
    exact ⟨_, rfl, Own.nil_ _ _, hG.drewN _⟩
  · have hP : P = (xs, -1) := by
      rw [hpf.out, hwh.out]
      simp [Nat.le_of_not_lt hlt]
    subst hP
    clear hpf hwh
    go_enter Tryz.func140, Tryz.ntmps140
    go_wp2_with fail
    refine (HT.out _ _ HR0.out).mono ?_
    rintro e w1 ⟨v1, rfl, ho1, hR1, hO1⟩
    have c1 := hR1.at_
    have c2 := hR1.bad
    have hG := hO1.grew_of ((Grew.refl w).alloc _) (Nat.le_refl _)
    obtain ⟨A, ca, rfl⟩ := nodes_slice ho1.nodes
    clear hR1 hO1
    go_wp2_with fail
    go_ret2
    exact ⟨_, rfl, ho1.base (by simp), hG⟩

theorem specParse_c (s : ByteArray) (w : World) (hs : s.size ≤ 140737488355328) :
    Calls Tryz.prog 105 #[.string s] w (Gives3 w (Fm.pf s)) := by
  by_cases hbig : 200 < s.size
  · have hp : Fm.pf s = ([], 0, 3) := by unfold Fm.pf; rw [if_pos hbig]
    rw [hp]
    clear hp
    go_enter Tryz.func105, Tryz.ntmps105
    go_wp2_with fail
    go_ret3
    exact ⟨_, rfl, Own.nil_ _ _, Grew.refl _, fun _ => rfl⟩
  have hL := fun w => l02Read_c s w (by omega)
  have hpf : Hid (Fm.pf s = if Fm.whole s = false then ([], (Fm.read s).2.1, 6) else if 40 < (Fm.read s).1.length then ([], 0, 3) else ((Fm.read s).1, 0, 0)) := by
    unfold Fm.pf Hid; rw [if_neg hbig]
  have hrd : Hid (Fm.rd s = if Fm.whole s = false then ([], ((Fm.read s).2.1 : Int)) else ((Fm.read s).1, -1)) := rfl
  obtain ⟨hr1, hr2⟩ := Fm.read_ok s
  have hxs : Hid ((Fm.read s).1 ≠ []) := Fm.read_ne s
  have HL := Lib.hid hL
  clear hL
  generalize Fm.pf s = P at *
  generalize Fm.rd s = Q at *
  generalize Fm.whole s = W at *
  generalize Fm.read s = r at *
  obtain ⟨xs, p, b⟩ := r
  simp only at hr1 hr2 hpf hrd hxs
  by_cases hW : W = false
  · have hP : P = ([], p, 6) := by rw [hpf.out, if_pos hW]
    have hQ : Q = ([], (p : Int)) := by rw [hrd.out, if_pos hW]
    subst hP hQ
    clear hpf hrd hW
    go_enter Tryz.func105, Tryz.ntmps105
    go_wp2_with fail
    refine (HL.out _).mono ?_
    rintro e w1 ⟨v1, rfl, ho1, hG⟩
    go_wp2_with fail
    go_ret3
    exact ⟨_, rfl, Own.nil_ _ _, hG, fun _ => rfl⟩
  · have hQ : Q = (xs, -1) := by rw [hrd.out, if_neg hW]
    subst hQ
    by_cases h40 : 40 < xs.length
    · have hP : P = ([], 0, 3) := by rw [hpf.out, if_neg hW, if_pos h40]
      subst hP
      clear hpf hrd hW
      go_enter Tryz.func105, Tryz.ntmps105
      go_wp2_with fail
      refine (HL.out _).mono ?_
      rintro e w1 ⟨v1, rfl, ho1, hG⟩
      obtain ⟨A, ca, rfl⟩ := nodes_slice ho1.nodes
      go_wp2_with fail
      go_ret3
      exact ⟨_, rfl, Own.nil_ _ _, hG, fun _ => rfl⟩
    · have hP : P = (xs, 0, 0) := by rw [hpf.out, if_neg hW, if_neg h40]
      subst hP
      clear hpf hrd hW
      go_enter Tryz.func105, Tryz.ntmps105
      go_wp2_with fail
      refine (HL.out _).mono ?_
      rintro e w1 ⟨v1, rfl, ho1, hG⟩
      obtain ⟨A, ca, rfl⟩ := nodes_slice ho1.nodes
      go_wp2_with fail
      go_ret3
      exact ⟨_, rfl, ho1, hG, fun h => absurd h hxs.out⟩
end Go.Proofs.YtofeeenjlaljpaaGreat

/- Where the part at an index ends; the parts of a formula. -/
namespace Go.Proofs.YtofeeenjlaljpaaGreat
open Go.RowKit
open Fm (Nd Tree)

theorem partsOf_c (k : Int) (w : World) :
    Calls Tryz.prog 148 #[.int .i64 k] w fun e w' => e = .returned (.int .i64 (Fm.arity k)) ∧ Grew w w' := by
  by_cases h2 : k = 2 ∨ k = 3 ∨ k = 4
  · have ha : Fm.arity k = 2 := by unfold Fm.arity; rw [if_pos h2]
    rw [ha]
    rcases h2 with rfl | rfl | rfl
    all_goals
      go_enter Tryz.func148, Tryz.ntmps148
      go_wp2_with fail
      go_ret
      exact ⟨rfl, Grew.refl _⟩
  by_cases h1 : k = 5 ∨ k = 6
  · have ha : Fm.arity k = 1 := by unfold Fm.arity; rw [if_neg h2, if_pos h1]
    rw [ha]
    rcases h1 with rfl | rfl
    all_goals
      go_enter Tryz.func148, Tryz.ntmps148
      go_wp2_with fail
      go_ret
      exact ⟨rfl, Grew.refl _⟩
  · have ha : Fm.arity k = 0 := by unfold Fm.arity; rw [if_neg h2, if_neg h1]
    rw [ha]
    have n2 : (k == 2) = false := by simp; omega
    have n3 : (k == 3) = false := by simp; omega
    have n4 : (k == 4) = false := by simp; omega
    have n5 : (k == 5) = false := by simp; omega
    have n6 : (k == 6) = false := by simp; omega
    clear h1 h2 ha
    go_enter Tryz.func148, Tryz.ntmps148
    go_wp2_with fail
    go_ret
    exact ⟨rfl, Grew.refl _⟩

/-- What 'partEnd' gives. -/
def pval (j : Nat) : Option Nat → Int
  | some n => (j : Int) + n
  | none => -1
theorem pval_succ (j : Nat) (o : Option Nat) : pval j (o.map (· + 1)) = pval (j + 1) o := by
  cases o with
  | none => rfl
  | some n => show (j : Int) + ((n + 1 : Nat) : Int) = ((j + 1 : Nat) : Int) + n; omega
def pend (xs : List Nd) (i : Nat) : Int := pval i (Fm.scan (xs.drop i) 1)

theorem scan_step {xs : List Nd} {j o : Nat} (hj : j < xs.length) : Fm.scan (xs.drop j) (o + 1) = (Fm.scan (xs.drop (j + 1)) (o + Fm.arity (kd xs j))).map (· + 1) := by
  rw [List.drop_eq_getElem_cons hj, Fm.scan_cons, kd_lt hj]

theorem partEnd_c (v : Value) (xs : List Nd) (i : Nat) (w : World) (h : Nodes w v xs) (hn : xs.length ≤ 1099511627776) (hi : i ≤ 1099511627776) :
    Calls Tryz.prog 146 #[v, .int .i64 i] w fun e w' => e = .returned (.int .i64 (pend xs i)) ∧ Grew w w' := by
  rcases h.open_ with ⟨rfl, rfl⟩ | ⟨b, o, c, rfl, hc, hm, hb, hf⟩
  · have hp : pend [] i = -1 := by simp [pend, Fm.scan_nil, pval]
    rw [hp]
    clear hp
    go_enter Tryz.func146, Tryz.ntmps146
    go_wp2_with fail
    refine wp_loop_rounds 1 ?_; rw [rounds_succ]
    go_wp2_with fail
    go_ret
    exact ⟨rfl, Grew.refl _⟩
  · clear h
    obtain ⟨P, hP⟩ : ∃ P, P = pend xs i := ⟨_, rfl⟩
    rw [← hP]
    -- the rest of the scan decides the result
    have hstart : Hid (P = pval i (Fm.scan (xs.drop i) 1)) := hP
    have hstep := fun j o hj => @scan_step xs j o hj
    have HS := Lib.hid hstep
    have HL : Hid (∀ j, xs.length ≤ j → xs.drop j = []) := Lib.hid fun j hj => List.drop_eq_nil_of_le hj
    clear hP hstep
    have HF := Lib.hid hf
    clear hf
    generalize hN : xs.length = n at *
    clear hN
    go_enter Tryz.func146, Tryz.ntmps146
    go_wp2_with fail
    go_loopg [1, 5] (n + 1 - i) (fun k x y wr => ∃ j op : Nat, x = .int .i64 j ∧ y = .int .i64 op ∧ Grew w wr ∧ i ≤ j ∧ op ≤ j - i + 1 ∧ k = n + 1 - j ∧ j ≤ i + n ∧ Hid (P = pval j (Fm.scan (xs.drop j) op)))
    case atStart => exact ⟨i, 1, rfl, rfl, Grew.refl _, Nat.le_refl _, by omega, rfl, by omega, hstart⟩
    case round =>
      obtain ⟨j, op, rfl, rfl, hB, hij, hop, rfl, hjn, HP⟩ := hrel
      by_cases hz : op = 0
      · subst hz
        have hv : Hid (P = (j : Int)) := Lib.hid (by rw [HP.out, Fm.scan_zero]; simp [pval])
        clear HP
        go_wp2_with fail
        go_ret
        rw [hv.out]
        exact ⟨rfl, hB⟩
      · obtain ⟨q, rfl⟩ : ∃ q, op = q + 1 := ⟨op - 1, by omega⟩
        by_cases hlt : j < n
        · have k1 : ∀ W, Grew w W → W.cell? ⟨b, o + j * 2, none⟩ = some (.int .i64 (kd xs j)) := fun W hW => (HF.out j hlt W hW).1
          have hv : Hid (P = pval (j + 1) (Fm.scan (xs.drop (j + 1)) (q + Fm.arity (kd xs j)))) := Lib.hid (by rw [HP.out, HS.out j q hlt, pval_succ])
          have har := Fm.arity_le (kd xs j)
          clear HP hz
          go_wp2_with fail
          refine (partsOf_c _ _).mono ?_
          rintro e w1 ⟨rfl, hg1⟩
          generalize Fm.arity (kd xs j) = ar at *
          go_wp2_with fail
          go_roundg (n + 1 - (j + 1))
          case measure => omega
          case rel => exact ⟨j + 1, q + ar, by go_num, by go_num, hB.trans hg1, by omega, by omega, rfl, by omega, hv⟩
        · have hv : Hid (P = -1) := Lib.hid (by rw [HP.out, HL.out j (by omega), Fm.scan_nil]; rfl)
          clear HP
          go_wp2_with fail
          go_ret
          rw [hv.out]
          exact ⟨rfl, hB⟩
theorem l02Parts_c (k : Int) (w : World) :
    Calls Tryz.prog 147 #[.int .i64 k] w fun e w' => e = .returned (.int .i64 (Fm.arity k)) ∧ Grew w w' := by
  by_cases h2 : k = 2 ∨ k = 3 ∨ k = 4
  · have ha : Fm.arity k = 2 := by unfold Fm.arity; rw [if_pos h2]
    rw [ha]
    rcases h2 with rfl | rfl | rfl
    all_goals
      go_enter Tryz.func147, Tryz.ntmps147
      go_wp2_with fail
      go_ret
      exact ⟨rfl, Grew.refl _⟩
  by_cases h1 : k = 5 ∨ k = 6
  · have ha : Fm.arity k = 1 := by unfold Fm.arity; rw [if_neg h2, if_pos h1]
    rw [ha]
    rcases h1 with rfl | rfl
    all_goals
      go_enter Tryz.func147, Tryz.ntmps147
      go_wp2_with fail
      go_ret
      exact ⟨rfl, Grew.refl _⟩
  · have ha : Fm.arity k = 0 := by unfold Fm.arity; rw [if_neg h2, if_neg h1]
    rw [ha]
    have n2 : (k == 2) = false := by simp; omega
    have n3 : (k == 3) = false := by simp; omega
    have n4 : (k == 4) = false := by simp; omega
    have n5 : (k == 5) = false := by simp; omega
    have n6 : (k == 6) = false := by simp; omega
    clear h1 h2 ha
    go_enter Tryz.func147, Tryz.ntmps147
    go_wp2_with fail
    go_ret
    exact ⟨rfl, Grew.refl _⟩

theorem l02Part_c (v : Value) (xs : List Nd) (i : Nat) (w : World) (h : Nodes w v xs) (hn : xs.length ≤ 1099511627776) (hi : i ≤ 1099511627776) :
    Calls Tryz.prog 115 #[v, .int .i64 i] w fun e w' => e = .returned (.int .i64 (pend xs i)) ∧ Grew w w' := by
  rcases h.open_ with ⟨rfl, rfl⟩ | ⟨b, o, c, rfl, hc, hm, hb, hf⟩
  · have hp : pend [] i = -1 := by simp [pend, Fm.scan_nil, pval]
    rw [hp]
    clear hp
    go_enter Tryz.func115, Tryz.ntmps115
    go_wp2_with fail
    refine wp_loop_rounds 1 ?_; rw [rounds_succ]
    go_wp2_with fail
    go_ret
    exact ⟨rfl, Grew.refl _⟩
  · clear h
    obtain ⟨P, hP⟩ : ∃ P, P = pend xs i := ⟨_, rfl⟩
    rw [← hP]
    -- the rest of the scan decides the result
    have hstart : Hid (P = pval i (Fm.scan (xs.drop i) 1)) := hP
    have hstep := fun j o hj => @scan_step xs j o hj
    have HS := Lib.hid hstep
    have HL : Hid (∀ j, xs.length ≤ j → xs.drop j = []) := Lib.hid fun j hj => List.drop_eq_nil_of_le hj
    clear hP hstep
    have HF := Lib.hid hf
    clear hf
    generalize hN : xs.length = n at *
    clear hN
    go_enter Tryz.func115, Tryz.ntmps115
    go_wp2_with fail
    go_loopg [1, 5] (n + 1 - i) (fun k x y wr => ∃ j op : Nat, x = .int .i64 j ∧ y = .int .i64 op ∧ Grew w wr ∧ i ≤ j ∧ op ≤ j - i + 1 ∧ k = n + 1 - j ∧ j ≤ i + n ∧ Hid (P = pval j (Fm.scan (xs.drop j) op)))
    case atStart => exact ⟨i, 1, rfl, rfl, Grew.refl _, Nat.le_refl _, by omega, rfl, by omega, hstart⟩
    case round =>
      obtain ⟨j, op, rfl, rfl, hB, hij, hop, rfl, hjn, HP⟩ := hrel
      by_cases hz : op = 0
      · subst hz
        have hv : Hid (P = (j : Int)) := Lib.hid (by rw [HP.out, Fm.scan_zero]; simp [pval])
        clear HP
        go_wp2_with fail
        go_ret
        rw [hv.out]
        exact ⟨rfl, hB⟩
      · obtain ⟨q, rfl⟩ : ∃ q, op = q + 1 := ⟨op - 1, by omega⟩
        by_cases hlt : j < n
        · have k1 : ∀ W, Grew w W → W.cell? ⟨b, o + j * 2, none⟩ = some (.int .i64 (kd xs j)) := fun W hW => (HF.out j hlt W hW).1
          have hv : Hid (P = pval (j + 1) (Fm.scan (xs.drop (j + 1)) (q + Fm.arity (kd xs j)))) := Lib.hid (by rw [HP.out, HS.out j q hlt, pval_succ])
          have har := Fm.arity_le (kd xs j)
          clear HP hz
          go_wp2_with fail
          refine (l02Parts_c _ _).mono ?_
          rintro e w1 ⟨rfl, hg1⟩
          generalize Fm.arity (kd xs j) = ar at *
          go_wp2_with fail
          go_roundg (n + 1 - (j + 1))
          case measure => omega
          case rel => exact ⟨j + 1, q + ar, by go_num, by go_num, hB.trans hg1, by omega, by omega, rfl, by omega, hv⟩
        · have hv : Hid (P = -1) := Lib.hid (by rw [HP.out, HL.out j (by omega), Fm.scan_nil]; rfl)
          clear HP
          go_wp2_with fail
          go_ret
          rw [hv.out]
          exact ⟨rfl, hB⟩

theorem cells_drop (xs : List Nd) : ∀ i, cells (xs.drop i) = (cells xs).drop (i * 2) := by
  induction xs with
  | nil => intro i; simp [cells]
  | cons x xs ih =>
    intro i
    cases i with
    | zero => simp
    | succ i =>
      rw [List.drop_succ_cons, ih, cells_cons, show (i + 1) * 2 = i * 2 + 1 + 1 by omega]
      rfl
theorem cells_take (xs : List Nd) : ∀ i, cells (xs.take i) = (cells xs).take (i * 2) := by
  induction xs with
  | nil => intro i; simp [cells]
  | cons x xs ih =>
    intro i
    cases i with
    | zero => simp [cells]
    | succ i =>
      rw [List.take_succ_cons, cells_cons, ih, cells_cons, show (i + 1) * 2 = i * 2 + 1 + 1 by omega]
      rfl
/-- A cut of a slice of nodes. -/
theorem Nodes.sub {w : World} {b o n c : Nat} {xs : List Nd} (h : Nodes w (.slice (some ⟨b, o, none⟩) n c) xs) (i m c' : Nat) (him : i + m ≤ xs.length) (hc : m ≤ c') (hc' : c' ≤ 9223372036854775807) :
    Nodes w (.slice (some ⟨b, o + i * 2, none⟩) m c') ((xs.drop i).take m) := by
  obtain ⟨h1, h2, h3⟩ := h
  have hl : ((xs.drop i).take m).length = m := by simp; omega
  refine ⟨cells_length _, by omega, .inr ?_⟩
  rcases h3 with ⟨h4, _⟩ | ⟨b', o', c0, h4, h5, h6, h7, h8⟩
  · cases h4
  · simp only [Value.slice.injEq, Option.some.injEq, Addr.mk.injEq, and_true] at h4
    obtain ⟨⟨rfl, rfl⟩, rfl, rfl⟩ := h4
    refine ⟨b, o + i * 2, c', by rw [hl], by omega, hc', h7, fun j u hu => ?_⟩
    rw [cells_take, List.getElem?_take] at hu
    split at hu
    · rw [cells_drop, List.getElem?_drop] at hu
      have := h8 _ _ hu
      rw [show o + i * 2 + j = o + (i * 2 + j) by omega]
      exact this
    · cases hu

/-- A list that stands in another one from i on. -/
def At (xs : List Nd) (i : Nat) (t : Tree) : Prop := ∃ rest, xs.drop i = Fm.enc t ++ rest
theorem At.pend {xs : List Nd} {i : Nat} {t : Tree} (h : At xs i t) : pend xs i = (i : Int) + (Fm.enc t).length := by
  obtain ⟨rest, h⟩ := h
  rw [Go.Proofs.YtofeeenjlaljpaaGreat.pend, h, Fm.scan_one]; rfl
theorem At.take {xs : List Nd} {i : Nat} {t : Tree} (h : At xs i t) : (xs.drop i).take (Fm.enc t).length = Fm.enc t := by
  obtain ⟨rest, h⟩ := h
  rw [h, List.take_left']; rfl
theorem At.le {xs : List Nd} {i : Nat} {t : Tree} (h : At xs i t) : i + (Fm.enc t).length ≤ xs.length := by
  obtain ⟨rest, h⟩ := h
  have h1 := congrArg List.length h
  have h2 := Fm.enc_pos t
  simp only [List.length_drop, List.length_append] at h1
  omega

/-- The call returns a slice that reads as the list, and changes nothing. -/
def Cuts (w : World) (xs : List Nd) (e : Ending) (w' : World) : Prop := ∃ v, e = .returned v ∧ Nodes w' v xs ∧ Grew w w'

theorem partEnd_at (v : Value) (xs : List Nd) (i : Nat) (t : Tree) (w : World) (h : Nodes w v xs) (hn : xs.length ≤ 1099511627776) (ht : At xs i t) :
    Calls Tryz.prog 146 #[v, .int .i64 i] w fun e w' => e = .returned (.int .i64 ((i : Int) + (Fm.enc t).length)) ∧ Grew w w' := by
  have := partEnd_c v xs i w h hn (by have := ht.le; omega)
  rw [ht.pend] at this
  exact this
theorem l02Part_at (v : Value) (xs : List Nd) (i : Nat) (t : Tree) (w : World) (h : Nodes w v xs) (hn : xs.length ≤ 1099511627776) (ht : At xs i t) :
    Calls Tryz.prog 115 #[v, .int .i64 i] w fun e w' => e = .returned (.int .i64 ((i : Int) + (Fm.enc t).length)) ∧ Grew w w' := by
  have := l02Part_c v xs i w h hn (by have := ht.le; omega)
  rw [ht.pend] at this
  exact this

theorem part_c (v : Value) (xs : List Nd) (i : Nat) (t : Tree) (w : World) (h : Nodes w v xs) (hn : xs.length ≤ 1099511627776) (ht : At xs i t) :
    Calls Tryz.prog 145 #[v, .int .i64 i] w (Cuts w (Fm.enc t)) := by
  have hle := ht.le
  have hpos := Fm.enc_pos t
  rcases h.open_ with ⟨rfl, rfl⟩ | ⟨b, o, c, rfl, hc, hm, hb, hf⟩
  · simp only [List.length_nil] at hle; omega
  · have hsub := h.sub i (Fm.enc t).length (Fm.enc t).length hle (Nat.le_refl _) (by omega)
    rw [ht.take] at hsub
    have HH := Lib.hid h
    have HS := Lib.hid hsub
    have HT := Lib.hid ht
    clear h hf hsub ht
    go_enter Tryz.func145, Tryz.ntmps145
    go_wp2_with fail
    refine (partEnd_at _ xs i t _ HH.out hn HT.out).mono ?_
    rintro e w1 ⟨rfl, hg1⟩
    go_wp2_with fail
    refine (partEnd_at _ xs i t _ (HH.out.grew hg1) hn HT.out).mono ?_
    rintro e w2 ⟨rfl, hg2⟩
    go_wp2_with fail
    go_ret
    refine ⟨_, rfl, ?_, hg1.trans hg2⟩
    rw [Nat.add_sub_cancel_left]
    exact HS.out.grew (hg1.trans hg2)

/-- The kind of the first node. -/
def kindOf : Tree → Int
  | .var _ => 0
  | .fls => 1
  | .and _ _ => 2
  | .or _ _ => 3
  | .imp _ _ => 4
  | .box _ => 5
  | .dia _ => 6

theorem kd_enc (t : Tree) : kd (Fm.enc t) 0 = kindOf t := by cases t <;> rfl
theorem isF_kind (t : Tree) : Fm.isF t = (kindOf t == 1) := by cases t <;> rfl

/-- Is the formula a negation? -/
def isNeg : Tree → Bool
  | .imp _ b => Fm.isF b
  | _ => false

theorem at_first {xs : List Nd} {k : Nd} {a : Tree} {rest : List Nd} (h : xs = k :: (Fm.enc a ++ rest)) : At xs 1 a := ⟨rest, by rw [h]; rfl⟩
theorem at_second {xs : List Nd} {k : Nd} {a b : Tree} (h : xs = k :: (Fm.enc a ++ Fm.enc b)) : At xs (1 + (Fm.enc a).length) b :=
  ⟨[], by rw [h, Nat.add_comm, List.drop_succ_cons, List.drop_left', List.append_nil]; rfl⟩

/-- The call returns the text and changes nothing. -/
def Says (w : World) (s : List UInt8) (e : Ending) (w' : World) : Prop := e = .returned (.string (bs s)) ∧ Grew w w'

theorem nodes_head {w : World} {v : Value} {t : Tree} (h : Nodes w v (Fm.enc t)) : ∃ b o c, v = .slice (some ⟨b, o, none⟩) (Fm.enc t).length c ∧ (Fm.enc t).length ≤ c ∧ c ≤ 9223372036854775807 ∧ ∀ W, Grew w W → W.cell? ⟨b, o, none⟩ = some (.int .i64 (kindOf t)) := by
  have hpos := Fm.enc_pos t
  rcases h.open_ with ⟨rfl, h0⟩ | ⟨b, o, c, rfl, hc, hm, hb, hf⟩
  · rw [h0] at hpos; simp at hpos
  · refine ⟨b, o, c, rfl, hc, hm, fun W hW => ?_⟩
    have := (hf 0 (by omega) W hW).1
    rw [kd_enc] at this
    simpa using this

theorem letter_cut {q : Nat} (h : q < 6) : ByteArray.extract ⟨#[112, 113, 114, 115, 116, 117]⟩ q (q + 1) = bs [UInt8.ofNat (112 + q)] := by
  have h6 : q = 0 ∨ q = 1 ∨ q = 2 ∨ q = 3 ∨ q = 4 ∨ q = 5 := by omega
  rcases h6 with rfl | rfl | rfl | rfl | rfl | rfl <;> decide
end Go.Proofs.YtofeeenjlaljpaaGreat

/- Two lists of nodes that agree as far as k. -/
namespace Go.Proofs.YtofeeenjlaljpaaGreat
open Go.RowKit
open Fm (Nd)

/-- Two lists that agree as far as k. -/
def Agree (xs ys : List Nd) (k : Nat) : Prop := ∀ i, i < k → kd xs i = kd ys i ∧ sy xs i = sy ys i
theorem Agree.zero (xs ys : List Nd) : Agree xs ys 0 := fun i hi => absurd hi (by omega)
theorem Agree.succ {xs ys : List Nd} {k : Nat} (h : Agree xs ys k) (h1 : kd xs k = kd ys k) (h2 : sy xs k = sy ys k) : Agree xs ys (k + 1) := by
  intro i hi
  rcases Nat.lt_or_ge i k with hk | hk
  · exact h i hk
  · obtain rfl : i = k := by omega
    exact ⟨h1, h2⟩
end Go.Proofs.YtofeeenjlaljpaaGreat

/- The reference's l02Equal on lists of nodes. -/
namespace Go.Proofs.YtofeeenjlaljpaaGreat
open Go.RowKit
open Fm (Nd)

theorem agree_all {xs ys : List Nd} (hl : xs.length = ys.length) (h : Agree xs ys xs.length) : xs = ys := nd_ext hl h

theorem l02Equal_c (v1 v2 : Value) (xs ys : List Nd) (w : World) (h1 : Nodes w v1 xs) (h2 : Nodes w v2 ys) (hn : xs.length ≤ 1099511627776) :
    Calls Tryz.prog 106 #[v1, v2] w fun e w' => e = .returned (.bool (decide (xs = ys))) ∧ Grew w w' := by
  by_cases hl : xs.length = ys.length
  · rcases h1.open_ with ⟨rfl, rfl⟩ | ⟨b1, o1, c1, rfl, hc1, hm1, hb1, hf⟩
    · obtain rfl : ys = [] := List.eq_nil_of_length_eq_zero (by simpa using hl.symm)
      obtain ⟨A, c, rfl⟩ := nodes_slice h2
      simp only [List.length_nil]
      clear hl
      go_enter Tryz.func106, Tryz.ntmps106
      go_wp2_with fail
      refine wp_loop_rounds 1 ?_; rw [rounds_succ]
      go_wp2_with fail
      go_ret
      exact ⟨by simp, Grew.refl _⟩
    · rcases h2.open_ with ⟨rfl, rfl⟩ | ⟨b2, o2, c2, rfl, hc2, hm2, hb2, hh⟩
      · obtain rfl : xs = [] := List.eq_nil_of_length_eq_zero (by simpa using hl)
        simp only [List.length_nil]
        clear hl
        go_enter Tryz.func106, Tryz.ntmps106
        go_wp2_with fail
        refine wp_loop_rounds 1 ?_; rw [rounds_succ]
        go_wp2_with fail
        go_ret
        exact ⟨by simp, Grew.refl _⟩
      · clear h1 h2
        have HE := Lib.hid (fun h => agree_all hl h)
        rw [← hl] at hc2 hh ⊢
        have HF := Lib.hid hf
        have HH := Lib.hid hh
        have HX := Lib.hid (fun (h : xs = ys) (i : Nat) => (⟨by rw [h], by rw [h]⟩ : kd xs i = kd ys i ∧ sy xs i = sy ys i))
        obtain ⟨D, hD⟩ : ∃ D, D = decide (xs = ys) := ⟨_, rfl⟩
        rw [← hD]
        have HD := Lib.hid hD
        clear hl hf hh hD
        generalize hN : xs.length = n at *
        clear hN
        go_enter Tryz.func106, Tryz.ntmps106
        go_wp2_with fail
        go_loopg [5] n (fun k i wr => ∃ j : Nat, j ≤ n ∧ k = n - j ∧ i = .int .i64 j ∧ Grew w wr ∧ Hid (Agree xs ys j))
        case atStart => exact ⟨0, Nat.zero_le _, by omega, rfl, Grew.refl _, Agree.zero _ _⟩
        case round =>
          obtain ⟨j, hj, rfl, rfl, hB, HA⟩ := hrel
          by_cases hlt : j < n
          · have k1 : ∀ W, Grew w W → W.cell? ⟨b1, o1 + j * 2, none⟩ = some (.int .i64 (kd xs j)) := fun W hW => (HF.out j hlt W hW).1
            have k2 : ∀ W, Grew w W → W.cell? ⟨b1, o1 + j * 2 + 1, none⟩ = some (.int .i64 (sy xs j)) := fun W hW => (HF.out j hlt W hW).2
            have k3 : ∀ W, Grew w W → W.cell? ⟨b2, o2 + j * 2, none⟩ = some (.int .i64 (kd ys j)) := fun W hW => (HH.out j hlt W hW).1
            have k4 : ∀ W, Grew w W → W.cell? ⟨b2, o2 + j * 2 + 1, none⟩ = some (.int .i64 (sy ys j)) := fun W hW => (HH.out j hlt W hW).2
            have hgd := Tryz.ndGuard
            by_cases he : kd xs j = kd ys j ∧ sy xs j = sy ys j
            · have hq : ∀ W, (binOp .neq 87 (.agg #[.int .i64 (kd xs j), .int .i64 (sy xs j)]) (.agg #[.int .i64 (kd ys j), .int .i64 (sy ys j)])).run Tryz.prog W = .ok (.bool false) W := fun W => by
                rw [Tryz.ndNeq, he.1, he.2]; simp
              have HB := Lib.hid (HA.out.succ he.1 he.2)
              clear he HA
              go_wp2_with fail
              go_quiet (fail)
              go_wp2_with fail
              go_roundg (n - (j + 1))
              case measure => omega
              case rel => exact ⟨j + 1, by omega, rfl, by go_num, hB.drewN _, HB⟩
            · have hq : ∀ W, (binOp .neq 87 (.agg #[.int .i64 (kd xs j), .int .i64 (sy xs j)]) (.agg #[.int .i64 (kd ys j), .int .i64 (sy ys j)])).run Tryz.prog W = .ok (.bool true) W := fun W => by
                have hz : (kd xs j == kd ys j && sy xs j == sy ys j) = false := by
                  cases hz : (kd xs j == kd ys j && sy xs j == sy ys j) with
                  | false => rfl
                  | true => simp at hz; exact absurd hz he
                rw [Tryz.ndNeq, hz]
                simp
              have hv : Hid (D = false) := Lib.hid (by rw [HD.out]; exact decide_eq_false fun h => he (HX.out h j))
              clear he HA
              go_wp2_with fail
              go_quiet (fail)
              go_wp2_with fail
              go_ret
              rw [hv.out]
              exact ⟨rfl, hB.drewN _⟩
          · have hjn : j = n := by omega
            subst hjn
            have hv : Hid (D = true) := Lib.hid (by rw [HD.out]; exact decide_eq_true (HE.out HA.out))
            go_wp2_with fail
            go_ret
            rw [hv.out]
            exact ⟨rfl, hB⟩
  · have hne : xs ≠ ys := fun h => hl (by rw [h])
    rw [decide_eq_false hne]
    obtain ⟨A, c, rfl⟩ := nodes_slice h1
    obtain ⟨B, d, rfl⟩ := nodes_slice h2
    have hl' : (((xs.length : Nat) : Int) != ((ys.length : Nat) : Int)) = true := by simp; omega
    clear hl h1 h2 hne
    go_enter Tryz.func106, Tryz.ntmps106
    go_wp2_with fail
    go_ret
    exact ⟨rfl, Grew.refl _⟩
end Go.Proofs.YtofeeenjlaljpaaGreat

/- The text of a formula: the reference's l02Write. -/
namespace Go.Proofs.YtofeeenjlaljpaaGreat
open Go.RowKit
open Fm (Nd Tree)

theorem l02Left_c (v : Value) (xs : List Nd) (a : Tree) (w : World) (h : Nodes w v xs) (hn : xs.length ≤ 1099511627776) (ha : At xs 1 a) :
    Calls Tryz.prog 88 #[v] w (Cuts w (Fm.enc a)) := by
  have hle := ha.le
  have hpos := Fm.enc_pos a
  rcases h.open_ with ⟨rfl, rfl⟩ | ⟨b, o, c, rfl, hc, hm, hb, hf⟩
  · simp only [List.length_nil] at hle; omega
  · have hsub := h.sub 1 (Fm.enc a).length (c - 1) hle (by omega) (by omega)
    rw [ha.take] at hsub
    have HH := Lib.hid h
    have HS := Lib.hid hsub
    have HT := Lib.hid ha
    clear h hf hsub ha
    go_enter Tryz.func88, Tryz.ntmps88
    go_wp2_with fail
    refine (l02Part_at _ xs 1 a _ HH.out hn HT.out).mono ?_
    rintro e w1 ⟨rfl, hg1⟩
    go_wp2_with fail
    go_ret
    refine ⟨_, rfl, ?_, hg1⟩
    rw [Nat.add_sub_cancel_left]
    exact HS.out.grew hg1

theorem l02Right_c (v : Value) (xs : List Nd) (a t : Tree) (w : World) (h : Nodes w v xs) (hn : xs.length ≤ 1099511627776) (ha : At xs 1 a) (ht : At xs (1 + (Fm.enc a).length) t) (hl : xs.length = 1 + (Fm.enc a).length + (Fm.enc t).length) :
    Calls Tryz.prog 89 #[v] w (Cuts w (Fm.enc t)) := by
  have hle := ha.le
  have hpos := Fm.enc_pos t
  rcases h.open_ with ⟨rfl, rfl⟩ | ⟨b, o, c, rfl, hc, hm, hb, hf⟩
  · simp only [List.length_nil] at hle; omega
  · have hsub := h.sub (1 + (Fm.enc a).length) (Fm.enc t).length (c - (1 + (Fm.enc a).length)) (by omega) (by omega) (by omega)
    rw [ht.take] at hsub
    have HH := Lib.hid h
    have HS := Lib.hid hsub
    have HA := Lib.hid ha
    have hk : (Fm.enc t).length = xs.length - (1 + (Fm.enc a).length) := by omega
    rw [hk] at HS
    have hlt : 1 + (Fm.enc a).length < xs.length := by omega
    clear h hf hsub ha ht hl hk hpos
    go_enter Tryz.func89, Tryz.ntmps89
    go_wp2_with fail
    refine (l02Part_at _ xs 1 a _ HH.out hn HA.out).mono ?_
    rintro e w1 ⟨rfl, hg1⟩
    go_wp2_with fail
    go_ret
    exact ⟨_, rfl, HS.out.grew hg1, hg1⟩

def WriteOk (t : Tree) : Prop := ∀ (l : Nat) (v : Value) (w : World), l ≤ 3 → Nodes w v (Fm.enc t) → (Fm.enc t).length ≤ 1048576 →
  Calls Tryz.prog 83 #[v, .int .i64 l] w (Says w (Fm.txt t l))

theorem enc_fls {t : Tree} (h : Fm.enc t = [(1, 0)]) : t = .fls := by
  cases t <;> simp_all [Fm.enc]
theorem enc_truth {x y : Tree} (h : Fm.enc (.imp x y) = Fm.truth) : x = .fls ∧ y = .fls := by
  have hx := Fm.enc_pos x
  have hy := Fm.enc_pos y
  have h1 : Fm.enc x ++ Fm.enc y = [(1, 0), (1, 0)] := by
    have : (4, 0) :: (Fm.enc x ++ Fm.enc y) = ((4, 0) : Nd) :: [(1, 0), (1, 0)] := h
    injection this
  have hl := congrArg List.length h1
  simp only [List.length_append, List.length_cons, List.length_nil] at hl
  have h2 : Fm.enc x = [(1, 0)] := by
    have := congrArg (List.take 1) h1
    rw [List.take_append_of_le_length hx, List.take_of_length_le (by omega)] at this
    exact this
  have h3 : Fm.enc y = [(1, 0)] := by
    rw [h2] at h1
    simpa using h1
  exact ⟨enc_fls h2, enc_fls h3⟩

theorem write_and_n (x y : Tree) (hx : WriteOk x) (hy : WriteOk y) (l : Nat) (v : Value) (w : World) (hl : l ≤ 2) (h : Nodes w v (Fm.enc (.and x y))) (hn : (Fm.enc (.and x y)).length ≤ 1048576) :
    Calls Tryz.prog 83 #[v, .int .i64 l] w (Says w (Fm.txt (.and x y) l)) := by
  have hE : Fm.txt (.and x y) l = Fm.txt x 2 ++ [38] ++ Fm.txt y 3 := by
    rw [Fm.txt, Fm.wrap, if_neg (by omega)]
  rw [hE]
  obtain ⟨b, o, c, rfl, hc, hm, k1⟩ := nodes_head h
  have hpos := Fm.enc_pos (.and x y)
  have HH := Lib.hid h
  have hg0 := Grew.refl w
  rw [show kindOf (.and x y) = 2 from rfl] at k1
  have HA := Lib.hid (at_first (xs := Fm.enc (.and x y)) (k := (2, 0)) (a := x) (rest := Fm.enc y) rfl)
  have HB := Lib.hid (at_second (xs := Fm.enc (.and x y)) (k := (2, 0)) (a := x) (b := y) rfl)
  have hlen : (Fm.enc (.and x y)).length = 1 + (Fm.enc x).length + (Fm.enc y).length := by simp [Fm.enc]; omega
  have HN := Lib.hid hlen
  have h1 := Fm.txt_len x 2
  have h2 := Fm.txt_len y 3
  have HX := Lib.hid hx
  have HY := Lib.hid hy
  have hn1 : (Fm.enc x).length ≤ 1048576 := by omega
  have hn2 : (Fm.enc y).length ≤ 1048576 := by omega
  have hpy := Fm.enc_pos y
  clear hE h hx hy hlen
  generalize Fm.enc (.and x y) = T at *
  have s1 := bs_size (Fm.txt x 2)
  have s2 := bs_size (Fm.txt y 3)
  have z1 : (bs (Fm.txt x 2)).size ≤ 4194304 := by omega
  have z2 : (bs (Fm.txt y 3)).size ≤ 4194304 := by omega
  have HE : Hid (bs (Fm.txt x 2) ++ bs [38] ++ bs (Fm.txt y 3) = bs (Fm.txt x 2 ++ [38] ++ Fm.txt y 3)) := by unfold Hid; simp only [bs_append]
  clear s1 s2 h1 h2
  generalize Fm.txt x 2 ++ [38] ++ Fm.txt y 3 = Z at *
  go_enter Tryz.func83, Tryz.ntmps83
  go_wp2_with fail
  refine (l02Left_c _ T x _ (HH.out.grew (Grew.refl w)) (by omega) HA.out).mono ?_
  rintro e w2 ⟨v2, rfl, hN2, hg2⟩
  go_wp2_with fail
  refine (HX.out 2 _ _ (by omega) hN2 hn1).mono ?_
  rintro e w3 ⟨rfl, hg3⟩
  go_wp2_with fail
  refine (l02Right_c _ T x y _ (HH.out.grew (((Grew.refl w).trans hg2).trans hg3)) (by omega) HA.out HB.out HN.out).mono ?_
  rintro e w4 ⟨v4, rfl, hN4, hg4⟩
  go_wp2_with fail
  refine (HY.out 3 _ _ (by omega) hN4 hn2).mono ?_
  rintro e w5 ⟨rfl, hg5⟩
  go_wp2_with fail
  go_ret
  exact ⟨congrArg (fun z => Ending.returned (.string z)) HE.out, ((((Grew.refl w).trans hg2).trans hg3).trans hg4).trans hg5⟩

theorem write_or_n (x y : Tree) (hx : WriteOk x) (hy : WriteOk y) (l : Nat) (v : Value) (w : World) (hl : l ≤ 1) (h : Nodes w v (Fm.enc (.or x y))) (hn : (Fm.enc (.or x y)).length ≤ 1048576) :
    Calls Tryz.prog 83 #[v, .int .i64 l] w (Says w (Fm.txt (.or x y) l)) := by
  have hE : Fm.txt (.or x y) l = Fm.txt x 1 ++ [124] ++ Fm.txt y 2 := by
    rw [Fm.txt, Fm.wrap, if_neg (by omega)]
  rw [hE]
  obtain ⟨b, o, c, rfl, hc, hm, k1⟩ := nodes_head h
  have hpos := Fm.enc_pos (.or x y)
  have HH := Lib.hid h
  have hg0 := Grew.refl w
  rw [show kindOf (.or x y) = 3 from rfl] at k1
  have HA := Lib.hid (at_first (xs := Fm.enc (.or x y)) (k := (3, 0)) (a := x) (rest := Fm.enc y) rfl)
  have HB := Lib.hid (at_second (xs := Fm.enc (.or x y)) (k := (3, 0)) (a := x) (b := y) rfl)
  have hlen : (Fm.enc (.or x y)).length = 1 + (Fm.enc x).length + (Fm.enc y).length := by simp [Fm.enc]; omega
  have HN := Lib.hid hlen
  have h1 := Fm.txt_len x 1
  have h2 := Fm.txt_len y 2
  have HX := Lib.hid hx
  have HY := Lib.hid hy
  have hn1 : (Fm.enc x).length ≤ 1048576 := by omega
  have hn2 : (Fm.enc y).length ≤ 1048576 := by omega
  have hpy := Fm.enc_pos y
  clear hE h hx hy hlen
  generalize Fm.enc (.or x y) = T at *
  have s1 := bs_size (Fm.txt x 1)
  have s2 := bs_size (Fm.txt y 2)
  have z1 : (bs (Fm.txt x 1)).size ≤ 4194304 := by omega
  have z2 : (bs (Fm.txt y 2)).size ≤ 4194304 := by omega
  have HE : Hid (bs (Fm.txt x 1) ++ bs [124] ++ bs (Fm.txt y 2) = bs (Fm.txt x 1 ++ [124] ++ Fm.txt y 2)) := by unfold Hid; simp only [bs_append]
  clear s1 s2 h1 h2
  generalize Fm.txt x 1 ++ [124] ++ Fm.txt y 2 = Z at *
  go_enter Tryz.func83, Tryz.ntmps83
  go_wp2_with fail
  refine (l02Left_c _ T x _ (HH.out.grew (Grew.refl w)) (by omega) HA.out).mono ?_
  rintro e w2 ⟨v2, rfl, hN2, hg2⟩
  go_wp2_with fail
  refine (HX.out 1 _ _ (by omega) hN2 hn1).mono ?_
  rintro e w3 ⟨rfl, hg3⟩
  go_wp2_with fail
  refine (l02Right_c _ T x y _ (HH.out.grew (((Grew.refl w).trans hg2).trans hg3)) (by omega) HA.out HB.out HN.out).mono ?_
  rintro e w4 ⟨v4, rfl, hN4, hg4⟩
  go_wp2_with fail
  refine (HY.out 2 _ _ (by omega) hN4 hn2).mono ?_
  rintro e w5 ⟨rfl, hg5⟩
  go_wp2_with fail
  go_ret
  exact ⟨congrArg (fun z => Ending.returned (.string z)) HE.out, ((((Grew.refl w).trans hg2).trans hg3).trans hg4).trans hg5⟩

theorem write_imp_n (x y : Tree) (hf : Fm.isF y = false) (hx : WriteOk x) (hy : WriteOk y) (l : Nat) (v : Value) (w : World) (hl : l ≤ 0) (h : Nodes w v (Fm.enc (.imp x y))) (hn : (Fm.enc (.imp x y)).length ≤ 1048576) :
    Calls Tryz.prog 83 #[v, .int .i64 l] w (Says w (Fm.txt (.imp x y) l)) := by
  have hE : Fm.txt (.imp x y) l = Fm.txt x 1 ++ [62] ++ Fm.txt y 0 := by
    rw [Fm.txt, if_neg (by simp [hf]), Fm.wrap, if_neg (by omega)]
  rw [hE]
  obtain ⟨b, o, c, rfl, hc, hm, k1⟩ := nodes_head h
  have hpos := Fm.enc_pos (.imp x y)
  have HH := Lib.hid h
  have hg0 := Grew.refl w
  have HQ := Lib.hid (fun v2 w h1 h2 => l02Equal_c (.slice (some ⟨b, o, none⟩) (Fm.enc (.imp x y)).length c) v2 (Fm.enc (.imp x y)) Fm.truth w h1 h2 (by omega))
  rw [decide_eq_false (fun h => by have := (enc_truth h).2; rw [this] at hf; cases hf)] at HQ
  have hky : (kindOf y == 1) = false := by rw [← isF_kind]; exact hf
  rw [show kindOf (.imp x y) = 4 from rfl] at k1
  have HA := Lib.hid (at_first (xs := Fm.enc (.imp x y)) (k := (4, 0)) (a := x) (rest := Fm.enc y) rfl)
  have HB := Lib.hid (at_second (xs := Fm.enc (.imp x y)) (k := (4, 0)) (a := x) (b := y) rfl)
  have hlen : (Fm.enc (.imp x y)).length = 1 + (Fm.enc x).length + (Fm.enc y).length := by simp [Fm.enc]; omega
  have HN := Lib.hid hlen
  have h1 := Fm.txt_len x 1
  have h2 := Fm.txt_len y 0
  have HX := Lib.hid hx
  have HY := Lib.hid hy
  have hn1 : (Fm.enc x).length ≤ 1048576 := by omega
  have hn2 : (Fm.enc y).length ≤ 1048576 := by omega
  have hpy := Fm.enc_pos y
  clear hE h hx hy hlen hf
  generalize Fm.enc (.imp x y) = T at *
  have s1 := bs_size (Fm.txt x 1)
  have s2 := bs_size (Fm.txt y 0)
  have z1 : (bs (Fm.txt x 1)).size ≤ 4194304 := by omega
  have z2 : (bs (Fm.txt y 0)).size ≤ 4194304 := by omega
  have HE : Hid (bs (Fm.txt x 1) ++ bs [62] ++ bs (Fm.txt y 0) = bs (Fm.txt x 1 ++ [62] ++ Fm.txt y 0)) := by unfold Hid; simp only [bs_append]
  clear s1 s2 h1 h2
  generalize Fm.txt x 1 ++ [62] ++ Fm.txt y 0 = Z at *
  go_enter Tryz.func83, Tryz.ntmps83
  go_wp2_with fail
  refine (l02True_c _).mono ?_
  rintro e w01 ⟨v01, rfl, ho01, hg01⟩
  go_wp2_with fail
  refine (HQ.out _ _ (HH.out.grew hg01) ho01.nodes).mono ?_
  rintro e w02 ⟨rfl, hg02⟩
  have hg2x := hg01.trans hg02
  go_wp2_with fail
  refine (l02Right_c _ T x y _ (HH.out.grew hg2x) (by omega) HA.out HB.out HN.out).mono ?_
  rintro e w03 ⟨v03, rfl, hN03, hg03⟩
  obtain ⟨b3, o3, c3, rfl, hc3, hm3, k3⟩ := nodes_head hN03
  have hg3x := hg2x.trans hg03
  have hgr3 := Grew.refl w03
  go_wp2_with fail
  clear k3
  refine (l02Left_c _ T x _ (HH.out.grew hg3x) (by omega) HA.out).mono ?_
  rintro e w2 ⟨v2, rfl, hN2, hg2⟩
  go_wp2_with fail
  refine (HX.out 1 _ _ (by omega) hN2 hn1).mono ?_
  rintro e w3 ⟨rfl, hg3⟩
  go_wp2_with fail
  refine (l02Right_c _ T x y _ (HH.out.grew ((hg3x.trans hg2).trans hg3)) (by omega) HA.out HB.out HN.out).mono ?_
  rintro e w4 ⟨v4, rfl, hN4, hg4⟩
  go_wp2_with fail
  refine (HY.out 0 _ _ (by omega) hN4 hn2).mono ?_
  rintro e w5 ⟨rfl, hg5⟩
  go_wp2_with fail
  go_ret
  exact ⟨congrArg (fun z => Ending.returned (.string z)) HE.out, (((hg3x.trans hg2).trans hg3).trans hg4).trans hg5⟩

theorem write_and_w (x y : Tree) (hx : WriteOk x) (hy : WriteOk y) (l : Nat) (v : Value) (w : World) (hl : 2 < l) (h : Nodes w v (Fm.enc (.and x y))) (hn : (Fm.enc (.and x y)).length ≤ 1048576) :
    Calls Tryz.prog 83 #[v, .int .i64 l] w (Says w (Fm.txt (.and x y) l)) := by
  have hE : Fm.txt (.and x y) l = [40] ++ (Fm.txt x 2 ++ [38] ++ Fm.txt y 3) ++ [41] := by
    rw [Fm.txt, Fm.wrap, if_pos (by omega)]
  rw [hE]
  obtain ⟨b, o, c, rfl, hc, hm, k1⟩ := nodes_head h
  have hpos := Fm.enc_pos (.and x y)
  have HH := Lib.hid h
  have hg0 := Grew.refl w
  rw [show kindOf (.and x y) = 2 from rfl] at k1
  have HA := Lib.hid (at_first (xs := Fm.enc (.and x y)) (k := (2, 0)) (a := x) (rest := Fm.enc y) rfl)
  have HB := Lib.hid (at_second (xs := Fm.enc (.and x y)) (k := (2, 0)) (a := x) (b := y) rfl)
  have hlen : (Fm.enc (.and x y)).length = 1 + (Fm.enc x).length + (Fm.enc y).length := by simp [Fm.enc]; omega
  have HN := Lib.hid hlen
  have h1 := Fm.txt_len x 2
  have h2 := Fm.txt_len y 3
  have HX := Lib.hid hx
  have HY := Lib.hid hy
  have hn1 : (Fm.enc x).length ≤ 1048576 := by omega
  have hn2 : (Fm.enc y).length ≤ 1048576 := by omega
  have hpy := Fm.enc_pos y
  clear hE h hx hy hlen
  generalize Fm.enc (.and x y) = T at *
  have s1 := bs_size (Fm.txt x 2)
  have s2 := bs_size (Fm.txt y 3)
  have z1 : (bs (Fm.txt x 2)).size ≤ 4194304 := by omega
  have z2 : (bs (Fm.txt y 3)).size ≤ 4194304 := by omega
  have HE : Hid (bs [40] ++ (bs (Fm.txt x 2) ++ bs [38] ++ bs (Fm.txt y 3)) ++ bs [41] = bs ([40] ++ (Fm.txt x 2 ++ [38] ++ Fm.txt y 3) ++ [41])) := by unfold Hid; simp only [bs_append]
  clear s1 s2 h1 h2
  generalize [40] ++ (Fm.txt x 2 ++ [38] ++ Fm.txt y 3) ++ [41] = Z at *
  go_enter Tryz.func83, Tryz.ntmps83
  go_wp2_with fail
  refine (l02Left_c _ T x _ (HH.out.grew (Grew.refl w)) (by omega) HA.out).mono ?_
  rintro e w2 ⟨v2, rfl, hN2, hg2⟩
  go_wp2_with fail
  refine (HX.out 2 _ _ (by omega) hN2 hn1).mono ?_
  rintro e w3 ⟨rfl, hg3⟩
  go_wp2_with fail
  refine (l02Right_c _ T x y _ (HH.out.grew (((Grew.refl w).trans hg2).trans hg3)) (by omega) HA.out HB.out HN.out).mono ?_
  rintro e w4 ⟨v4, rfl, hN4, hg4⟩
  go_wp2_with fail
  refine (HY.out 3 _ _ (by omega) hN4 hn2).mono ?_
  rintro e w5 ⟨rfl, hg5⟩
  go_wp2_with fail
  go_ret
  exact ⟨congrArg (fun z => Ending.returned (.string z)) HE.out, ((((Grew.refl w).trans hg2).trans hg3).trans hg4).trans hg5⟩

theorem write_or_w (x y : Tree) (hx : WriteOk x) (hy : WriteOk y) (l : Nat) (v : Value) (w : World) (hl : 1 < l) (h : Nodes w v (Fm.enc (.or x y))) (hn : (Fm.enc (.or x y)).length ≤ 1048576) :
    Calls Tryz.prog 83 #[v, .int .i64 l] w (Says w (Fm.txt (.or x y) l)) := by
  have hE : Fm.txt (.or x y) l = [40] ++ (Fm.txt x 1 ++ [124] ++ Fm.txt y 2) ++ [41] := by
    rw [Fm.txt, Fm.wrap, if_pos (by omega)]
  rw [hE]
  obtain ⟨b, o, c, rfl, hc, hm, k1⟩ := nodes_head h
  have hpos := Fm.enc_pos (.or x y)
  have HH := Lib.hid h
  have hg0 := Grew.refl w
  rw [show kindOf (.or x y) = 3 from rfl] at k1
  have HA := Lib.hid (at_first (xs := Fm.enc (.or x y)) (k := (3, 0)) (a := x) (rest := Fm.enc y) rfl)
  have HB := Lib.hid (at_second (xs := Fm.enc (.or x y)) (k := (3, 0)) (a := x) (b := y) rfl)
  have hlen : (Fm.enc (.or x y)).length = 1 + (Fm.enc x).length + (Fm.enc y).length := by simp [Fm.enc]; omega
  have HN := Lib.hid hlen
  have h1 := Fm.txt_len x 1
  have h2 := Fm.txt_len y 2
  have HX := Lib.hid hx
  have HY := Lib.hid hy
  have hn1 : (Fm.enc x).length ≤ 1048576 := by omega
  have hn2 : (Fm.enc y).length ≤ 1048576 := by omega
  have hpy := Fm.enc_pos y
  clear hE h hx hy hlen
  generalize Fm.enc (.or x y) = T at *
  have s1 := bs_size (Fm.txt x 1)
  have s2 := bs_size (Fm.txt y 2)
  have z1 : (bs (Fm.txt x 1)).size ≤ 4194304 := by omega
  have z2 : (bs (Fm.txt y 2)).size ≤ 4194304 := by omega
  have HE : Hid (bs [40] ++ (bs (Fm.txt x 1) ++ bs [124] ++ bs (Fm.txt y 2)) ++ bs [41] = bs ([40] ++ (Fm.txt x 1 ++ [124] ++ Fm.txt y 2) ++ [41])) := by unfold Hid; simp only [bs_append]
  clear s1 s2 h1 h2
  generalize [40] ++ (Fm.txt x 1 ++ [124] ++ Fm.txt y 2) ++ [41] = Z at *
  go_enter Tryz.func83, Tryz.ntmps83
  go_wp2_with fail
  refine (l02Left_c _ T x _ (HH.out.grew (Grew.refl w)) (by omega) HA.out).mono ?_
  rintro e w2 ⟨v2, rfl, hN2, hg2⟩
  go_wp2_with fail
  refine (HX.out 1 _ _ (by omega) hN2 hn1).mono ?_
  rintro e w3 ⟨rfl, hg3⟩
  go_wp2_with fail
  refine (l02Right_c _ T x y _ (HH.out.grew (((Grew.refl w).trans hg2).trans hg3)) (by omega) HA.out HB.out HN.out).mono ?_
  rintro e w4 ⟨v4, rfl, hN4, hg4⟩
  go_wp2_with fail
  refine (HY.out 2 _ _ (by omega) hN4 hn2).mono ?_
  rintro e w5 ⟨rfl, hg5⟩
  go_wp2_with fail
  go_ret
  exact ⟨congrArg (fun z => Ending.returned (.string z)) HE.out, ((((Grew.refl w).trans hg2).trans hg3).trans hg4).trans hg5⟩

theorem write_imp_w (x y : Tree) (hf : Fm.isF y = false) (hx : WriteOk x) (hy : WriteOk y) (l : Nat) (v : Value) (w : World) (hl : 0 < l) (h : Nodes w v (Fm.enc (.imp x y))) (hn : (Fm.enc (.imp x y)).length ≤ 1048576) :
    Calls Tryz.prog 83 #[v, .int .i64 l] w (Says w (Fm.txt (.imp x y) l)) := by
  have hE : Fm.txt (.imp x y) l = [40] ++ (Fm.txt x 1 ++ [62] ++ Fm.txt y 0) ++ [41] := by
    rw [Fm.txt, if_neg (by simp [hf]), Fm.wrap, if_pos (by omega)]
  rw [hE]
  obtain ⟨b, o, c, rfl, hc, hm, k1⟩ := nodes_head h
  have hpos := Fm.enc_pos (.imp x y)
  have HH := Lib.hid h
  have hg0 := Grew.refl w
  have HQ := Lib.hid (fun v2 w h1 h2 => l02Equal_c (.slice (some ⟨b, o, none⟩) (Fm.enc (.imp x y)).length c) v2 (Fm.enc (.imp x y)) Fm.truth w h1 h2 (by omega))
  rw [decide_eq_false (fun h => by have := (enc_truth h).2; rw [this] at hf; cases hf)] at HQ
  have hky : (kindOf y == 1) = false := by rw [← isF_kind]; exact hf
  rw [show kindOf (.imp x y) = 4 from rfl] at k1
  have HA := Lib.hid (at_first (xs := Fm.enc (.imp x y)) (k := (4, 0)) (a := x) (rest := Fm.enc y) rfl)
  have HB := Lib.hid (at_second (xs := Fm.enc (.imp x y)) (k := (4, 0)) (a := x) (b := y) rfl)
  have hlen : (Fm.enc (.imp x y)).length = 1 + (Fm.enc x).length + (Fm.enc y).length := by simp [Fm.enc]; omega
  have HN := Lib.hid hlen
  have h1 := Fm.txt_len x 1
  have h2 := Fm.txt_len y 0
  have HX := Lib.hid hx
  have HY := Lib.hid hy
  have hn1 : (Fm.enc x).length ≤ 1048576 := by omega
  have hn2 : (Fm.enc y).length ≤ 1048576 := by omega
  have hpy := Fm.enc_pos y
  clear hE h hx hy hlen hf
  generalize Fm.enc (.imp x y) = T at *
  have s1 := bs_size (Fm.txt x 1)
  have s2 := bs_size (Fm.txt y 0)
  have z1 : (bs (Fm.txt x 1)).size ≤ 4194304 := by omega
  have z2 : (bs (Fm.txt y 0)).size ≤ 4194304 := by omega
  have HE : Hid (bs [40] ++ (bs (Fm.txt x 1) ++ bs [62] ++ bs (Fm.txt y 0)) ++ bs [41] = bs ([40] ++ (Fm.txt x 1 ++ [62] ++ Fm.txt y 0) ++ [41])) := by unfold Hid; simp only [bs_append]
  clear s1 s2 h1 h2
  generalize [40] ++ (Fm.txt x 1 ++ [62] ++ Fm.txt y 0) ++ [41] = Z at *
  go_enter Tryz.func83, Tryz.ntmps83
  go_wp2_with fail
  refine (l02True_c _).mono ?_
  rintro e w01 ⟨v01, rfl, ho01, hg01⟩
  go_wp2_with fail
  refine (HQ.out _ _ (HH.out.grew hg01) ho01.nodes).mono ?_
  rintro e w02 ⟨rfl, hg02⟩
  have hg2x := hg01.trans hg02
  go_wp2_with fail
  refine (l02Right_c _ T x y _ (HH.out.grew hg2x) (by omega) HA.out HB.out HN.out).mono ?_
  rintro e w03 ⟨v03, rfl, hN03, hg03⟩
  obtain ⟨b3, o3, c3, rfl, hc3, hm3, k3⟩ := nodes_head hN03
  have hg3x := hg2x.trans hg03
  have hgr3 := Grew.refl w03
  go_wp2_with fail
  clear k3
  refine (l02Left_c _ T x _ (HH.out.grew hg3x) (by omega) HA.out).mono ?_
  rintro e w2 ⟨v2, rfl, hN2, hg2⟩
  go_wp2_with fail
  refine (HX.out 1 _ _ (by omega) hN2 hn1).mono ?_
  rintro e w3 ⟨rfl, hg3⟩
  go_wp2_with fail
  refine (l02Right_c _ T x y _ (HH.out.grew ((hg3x.trans hg2).trans hg3)) (by omega) HA.out HB.out HN.out).mono ?_
  rintro e w4 ⟨v4, rfl, hN4, hg4⟩
  go_wp2_with fail
  refine (HY.out 0 _ _ (by omega) hN4 hn2).mono ?_
  rintro e w5 ⟨rfl, hg5⟩
  go_wp2_with fail
  go_ret
  exact ⟨congrArg (fun z => Ending.returned (.string z)) HE.out, (((hg3x.trans hg2).trans hg3).trans hg4).trans hg5⟩

theorem write_box (x : Tree) (hx : WriteOk x) : WriteOk (.box x) := by
  intro l v w hl h hn
  have hE : Fm.txt (.box x) l = [91, 93] ++ Fm.txt x 3 := rfl
  rw [hE]
  obtain ⟨b, o, c, rfl, hc, hm, k1⟩ := nodes_head h
  have hpos := Fm.enc_pos (.box x)
  have HH := Lib.hid h
  have hg0 := Grew.refl w
  rw [show kindOf (.box x) = 5 from rfl] at k1
  have ha := at_first (xs := Fm.enc (.box x)) (k := (5, 0)) (a := x) (rest := []) (by simp [Fm.enc])
  have hlen : (Fm.enc (.box x)).length = 1 + (Fm.enc x).length := by simp [Fm.enc]; omega
  have hsub := h.sub 1 (Fm.enc x).length (c - 1) (by omega) (by omega) (by omega)
  rw [ha.take] at hsub
  have HS := Lib.hid hsub
  have hpx := Fm.enc_pos x
  rw [show (Fm.enc x).length = (Fm.enc (.box x)).length - 1 by omega] at HS
  have h1 := Fm.txt_len x 3
  have HX := Lib.hid hx
  have hn1 : (Fm.enc x).length ≤ 1048576 := by omega
  have hc1 : 1 < (Fm.enc (.box x)).length := by omega
  clear hE h hx hlen ha hsub
  generalize Fm.enc (.box x) = T at *
  have s1 := bs_size (Fm.txt x 3)
  have z1 : (bs (Fm.txt x 3)).size ≤ 4194304 := by omega
  have HE : Hid (bs [91, 93] ++ bs (Fm.txt x 3) = bs ([91, 93] ++ Fm.txt x 3)) := by unfold Hid; rw [bs_append]
  clear s1 h1
  generalize [91, 93] ++ Fm.txt x 3 = Z at *
  go_enter Tryz.func83, Tryz.ntmps83
  go_wp2_with fail
  refine (HX.out 3 _ _ (by omega) HS.out hn1).mono ?_
  rintro e w3 ⟨rfl, hg3⟩
  go_wp2_with fail
  go_ret
  exact ⟨congrArg (fun z => Ending.returned (.string z)) HE.out, hg3⟩

theorem write_dia (x : Tree) (hx : WriteOk x) : WriteOk (.dia x) := by
  intro l v w hl h hn
  have hE : Fm.txt (.dia x) l = [60, 62] ++ Fm.txt x 3 := rfl
  rw [hE]
  obtain ⟨b, o, c, rfl, hc, hm, k1⟩ := nodes_head h
  have hpos := Fm.enc_pos (.dia x)
  have HH := Lib.hid h
  have hg0 := Grew.refl w
  rw [show kindOf (.dia x) = 6 from rfl] at k1
  have ha := at_first (xs := Fm.enc (.dia x)) (k := (6, 0)) (a := x) (rest := []) (by simp [Fm.enc])
  have hlen : (Fm.enc (.dia x)).length = 1 + (Fm.enc x).length := by simp [Fm.enc]; omega
  have hsub := h.sub 1 (Fm.enc x).length (c - 1) (by omega) (by omega) (by omega)
  rw [ha.take] at hsub
  have HS := Lib.hid hsub
  have hpx := Fm.enc_pos x
  rw [show (Fm.enc x).length = (Fm.enc (.dia x)).length - 1 by omega] at HS
  have h1 := Fm.txt_len x 3
  have HX := Lib.hid hx
  have hn1 : (Fm.enc x).length ≤ 1048576 := by omega
  have hc1 : 1 < (Fm.enc (.dia x)).length := by omega
  clear hE h hx hlen ha hsub
  generalize Fm.enc (.dia x) = T at *
  have s1 := bs_size (Fm.txt x 3)
  have z1 : (bs (Fm.txt x 3)).size ≤ 4194304 := by omega
  have HE : Hid (bs [60, 62] ++ bs (Fm.txt x 3) = bs ([60, 62] ++ Fm.txt x 3)) := by unfold Hid; rw [bs_append]
  clear s1 h1
  generalize [60, 62] ++ Fm.txt x 3 = Z at *
  go_enter Tryz.func83, Tryz.ntmps83
  go_wp2_with fail
  refine (HX.out 3 _ _ (by omega) HS.out hn1).mono ?_
  rintro e w3 ⟨rfl, hg3⟩
  go_wp2_with fail
  go_ret
  exact ⟨congrArg (fun z => Ending.returned (.string z)) HE.out, hg3⟩

theorem write_tru (x : Tree) (hf : Fm.isF x = true) : WriteOk (.imp x .fls) := by
  intro l v w hl h hn
  have hE : Fm.txt (.imp x .fls) l = [84] := by
    rw [Fm.txt, if_pos (show Fm.isF .fls = true from rfl), if_pos hf]
  rw [hE]
  obtain ⟨b, o, c, rfl, hc, hm, k1⟩ := nodes_head h
  have hpos := Fm.enc_pos (.imp x .fls)
  have HH := Lib.hid h
  have hg0 := Grew.refl w
  have HQ := Lib.hid (fun v2 w h1 h2 => l02Equal_c (.slice (some ⟨b, o, none⟩) (Fm.enc (.imp x .fls)).length c) v2 (Fm.enc (.imp x .fls)) Fm.truth w h1 h2 (by omega))
  rw [decide_eq_true (by rw [Fm.isF_eq hf]; rfl)] at HQ
  rw [show kindOf (.imp x .fls) = 4 from rfl] at k1
  have HA := Lib.hid (at_first (xs := Fm.enc (.imp x .fls)) (k := (4, 0)) (a := x) (rest := Fm.enc .fls) rfl)
  have HB := Lib.hid (at_second (xs := Fm.enc (.imp x .fls)) (k := (4, 0)) (a := x) (b := .fls) rfl)
  have hlen : (Fm.enc (.imp x .fls)).length = 1 + (Fm.enc x).length + (Fm.enc .fls).length := by simp [Fm.enc]; omega
  have HN := Lib.hid hlen
  have hn1 : (Fm.enc x).length ≤ 1048576 := by omega
  clear hE h hlen hf
  generalize Fm.enc (.imp x .fls) = T at *
  go_enter Tryz.func83, Tryz.ntmps83
  go_wp2_with fail
  refine (l02True_c _).mono ?_
  rintro e w01 ⟨v01, rfl, ho01, hg01⟩
  go_wp2_with fail
  refine (HQ.out _ _ (HH.out.grew hg01) ho01.nodes).mono ?_
  rintro e w02 ⟨rfl, hg02⟩
  have hg2x := hg01.trans hg02
  go_wp2_with fail
  go_ret
  exact ⟨rfl, hg2x⟩

theorem write_not (x : Tree) (hf : Fm.isF x = false) (hx : WriteOk x) : WriteOk (.imp x .fls) := by
  intro l v w hl h hn
  have hE : Fm.txt (.imp x .fls) l = [126] ++ Fm.txt x 3 := by
    rw [Fm.txt, if_pos (show Fm.isF .fls = true from rfl), if_neg (by simp [hf])]
  rw [hE]
  obtain ⟨b, o, c, rfl, hc, hm, k1⟩ := nodes_head h
  have hpos := Fm.enc_pos (.imp x .fls)
  have HH := Lib.hid h
  have hg0 := Grew.refl w
  have HQ := Lib.hid (fun v2 w h1 h2 => l02Equal_c (.slice (some ⟨b, o, none⟩) (Fm.enc (.imp x .fls)).length c) v2 (Fm.enc (.imp x .fls)) Fm.truth w h1 h2 (by omega))
  rw [decide_eq_false (fun h => by have := (enc_truth h).1; rw [this] at hf; cases hf)] at HQ
  rw [show kindOf (.imp x .fls) = 4 from rfl] at k1
  have HA := Lib.hid (at_first (xs := Fm.enc (.imp x .fls)) (k := (4, 0)) (a := x) (rest := Fm.enc .fls) rfl)
  have HB := Lib.hid (at_second (xs := Fm.enc (.imp x .fls)) (k := (4, 0)) (a := x) (b := .fls) rfl)
  have hlen : (Fm.enc (.imp x .fls)).length = 1 + (Fm.enc x).length + (Fm.enc .fls).length := by simp [Fm.enc]; omega
  have HN := Lib.hid hlen
  have hn1 : (Fm.enc x).length ≤ 1048576 := by omega
  have h1 := Fm.txt_len x 3
  have HX := Lib.hid hx
  have s1 := bs_size (Fm.txt x 3)
  have z1 : (bs (Fm.txt x 3)).size ≤ 4194304 := by omega
  have HE : Hid (bs [126] ++ bs (Fm.txt x 3) = bs ([126] ++ Fm.txt x 3)) := by unfold Hid; rw [bs_append]
  clear s1 h1 hx
  generalize [126] ++ Fm.txt x 3 = Z at *
  clear hE h hlen hf
  generalize Fm.enc (.imp x .fls) = T at *
  go_enter Tryz.func83, Tryz.ntmps83
  go_wp2_with fail
  refine (l02True_c _).mono ?_
  rintro e w01 ⟨v01, rfl, ho01, hg01⟩
  go_wp2_with fail
  refine (HQ.out _ _ (HH.out.grew hg01) ho01.nodes).mono ?_
  rintro e w02 ⟨rfl, hg02⟩
  have hg2x := hg01.trans hg02
  go_wp2_with fail
  refine (l02Right_c _ T x .fls _ (HH.out.grew hg2x) (by omega) HA.out HB.out HN.out).mono ?_
  rintro e w03 ⟨v03, rfl, hN03, hg03⟩
  obtain ⟨b3, o3, c3, rfl, hc3, hm3, k3⟩ := nodes_head hN03
  rw [show kindOf .fls = 1 from rfl] at k3
  have hp3 := Fm.enc_pos .fls
  have hg3x := hg2x.trans hg03
  have hgr3 := Grew.refl w03
  go_wp2_with fail
  clear k3
  refine (l02Left_c _ T x _ (HH.out.grew hg3x) (by omega) HA.out).mono ?_
  rintro e w4 ⟨v4, rfl, hN4, hg4⟩
  go_wp2_with fail
  refine (HX.out 3 _ _ (by omega) hN4 hn1).mono ?_
  rintro e w5 ⟨rfl, hg5⟩
  go_wp2_with fail
  go_ret
  exact ⟨congrArg (fun z => Ending.returned (.string z)) HE.out, (hg3x.trans hg4).trans hg5⟩

theorem write_fls : WriteOk .fls := by
  intro l v w hl h hn
  have hE : Fm.txt .fls l = [70] := rfl
  rw [hE]
  obtain ⟨b, o, c, rfl, hc, hm, k1⟩ := nodes_head h
  have hpos := Fm.enc_pos (.fls)
  have HH := Lib.hid h
  have hg0 := Grew.refl w
  rw [show kindOf .fls = 1 from rfl] at k1
  clear hE h
  generalize Fm.enc .fls = T at *
  go_enter Tryz.func83, Tryz.ntmps83
  go_wp2_with fail
  go_ret
  exact ⟨rfl, hg0⟩

theorem write_var (n : Fin 6) : WriteOk (.var n) := by
  intro l v w hl h hn
  have hE : Fm.txt (.var n) l = [UInt8.ofNat (112 + n.val)] := rfl
  rw [hE]
  have k2 : ∃ b o c, v = .slice (some ⟨b, o, none⟩) (Fm.enc (.var n)).length c ∧ ∀ W, Grew w W → W.cell? ⟨b, o + 1, none⟩ = some (.int .i64 (n.val : Int)) := by
    rcases h.open_ with ⟨_, h0⟩ | ⟨b, o, c, hv, _, _, _, hf⟩
    · simp [Fm.enc] at h0
    · refine ⟨b, o, c, hv, fun W hW => ?_⟩
      have := (hf 0 (by simp [Fm.enc]) W hW).2
      rw [show sy (Fm.enc (.var n)) 0 = (n.val : Int) from rfl] at this
      simpa using this
  obtain ⟨b, o, c, rfl, hc, hm, k1⟩ := nodes_head h
  have hpos := Fm.enc_pos (.var n)
  have HH := Lib.hid h
  have hg0 := Grew.refl w
  obtain ⟨b', o', c', hv', k2⟩ := k2
  simp only [Value.slice.injEq, Option.some.injEq, Addr.mk.injEq, and_true, true_and] at hv'
  obtain ⟨⟨rfl, rfl⟩, rfl⟩ := hv'
  rw [show kindOf (.var n) = 0 from rfl] at k1
  have hn6 := n.isLt
  clear hE h
  generalize Fm.enc (.var n) = T at *
  generalize n.val = q at *
  go_enter Tryz.func83, Tryz.ntmps83
  go_wp2_with fail
  go_quiet (fail)
  go_wp2_with fail
  go_ret
  exact ⟨congrArg (fun z => Ending.returned (.string z)) (letter_cut hn6), hg0.drewN _⟩

theorem write_ok (t : Tree) : WriteOk t := by
  induction t with
  | var n => exact write_var n
  | fls => exact write_fls
  | and x y hx hy =>
    intro l v w hl h hn
    rcases Nat.lt_or_ge 2 l with hw | hw
    · exact write_and_w x y hx hy l v w hw h hn
    · exact write_and_n x y hx hy l v w hw h hn
  | or x y hx hy =>
    intro l v w hl h hn
    rcases Nat.lt_or_ge 1 l with hw | hw
    · exact write_or_w x y hx hy l v w hw h hn
    · exact write_or_n x y hx hy l v w hw h hn
  | imp x y hx hy =>
    cases hf : Fm.isF y with
    | true =>
      obtain rfl := Fm.isF_eq hf
      cases hg : Fm.isF x with
      | true => exact write_tru x hg
      | false => exact write_not x hg hx
    | false =>
      intro l v w hl h hn
      rcases Nat.lt_or_ge 0 l with hw | hw
      · exact write_imp_w x y hf hx hy l v w hw h hn
      · exact write_imp_n x y hf hx hy l v w hw h hn
  | box x hx => exact write_box x hx
  | dia x hx => exact write_dia x hx

theorem l02Text_c (t : Tree) (v : Value) (w : World) (h : Nodes w v (Fm.enc t)) (hn : (Fm.enc t).length ≤ 1048576) :
    Calls Tryz.prog 49 #[v] w (Says w (Fm.txt t 0)) := by
  have HT := Lib.hid (write_ok t 0 v w (by omega) h hn)
  go_enter Tryz.func49, Tryz.ntmps49
  go_wp2_with fail
  refine HT.out.mono ?_
  rintro e w1 ⟨rfl, hg1⟩
  go_wp2_with fail
  go_ret
  exact ⟨rfl, hg1⟩
end Go.Proofs.YtofeeenjlaljpaaGreat

/- A text that reads to a tree whose text it is. -/
namespace Go.Proofs.YtofeeenjlaljpaaGreat
open Go.RowKit
open Fm (Nd)

theorem enc_pre (t : Fm.Tree) : ∀ (u : Fm.Tree) (a b : List Nd), Fm.enc t ++ a = Fm.enc u ++ b → t = u ∧ a = b := by
  induction t with
  | var v =>
    intro u a b h
    cases u <;> simp [Fm.enc] at h
    exact ⟨congrArg Fm.Tree.var (Fin.ext (by have := h.1; omega)), h.2⟩
  | fls =>
    intro u a b h
    cases u <;> simp [Fm.enc] at h
    exact ⟨rfl, h⟩
  | and x y hx hy =>
    intro u a b h
    cases u <;> simp [Fm.enc] at h
    obtain ⟨e1, h1⟩ := hx _ _ _ h
    obtain ⟨e2, h2⟩ := hy _ _ _ h1
    exact ⟨by rw [e1, e2], h2⟩
  | or x y hx hy =>
    intro u a b h
    cases u <;> simp [Fm.enc] at h
    obtain ⟨e1, h1⟩ := hx _ _ _ h
    obtain ⟨e2, h2⟩ := hy _ _ _ h1
    exact ⟨by rw [e1, e2], h2⟩
  | imp x y hx hy =>
    intro u a b h
    cases u <;> simp [Fm.enc] at h
    obtain ⟨e1, h1⟩ := hx _ _ _ h
    obtain ⟨e2, h2⟩ := hy _ _ _ h1
    exact ⟨by rw [e1, e2], h2⟩
  | box x hx =>
    intro u a b h
    cases u <;> simp [Fm.enc] at h
    obtain ⟨e1, h1⟩ := hx _ _ _ h
    exact ⟨by rw [e1], h1⟩
  | dia x hx =>
    intro u a b h
    cases u <;> simp [Fm.enc] at h
    obtain ⟨e1, h1⟩ := hx _ _ _ h
    exact ⟨by rw [e1], h1⟩
theorem enc_inj {t u : Fm.Tree} (h : Fm.enc t = Fm.enc u) : t = u := (enc_pre t u [] [] (by simpa using h)).1

/-- The text is the text of a formula. -/
def IsGood (s : ByteArray) : Prop := ∃ t, Fm.pf s = (Fm.enc t, 0, 0) ∧ bs (Fm.txt t 0) = s
noncomputable def gd (s : ByteArray) : Bool := @decide (IsGood s) (Classical.propDecidable _)
theorem gd_true {s : ByteArray} (h : IsGood s) : gd s = true := by
  unfold gd
  exact @decide_eq_true _ (Classical.propDecidable _) h
theorem gd_false {s : ByteArray} (h : ¬ IsGood s) : gd s = false := by
  unfold gd
  exact @decide_eq_false _ (Classical.propDecidable _) h

theorem pf_cases (s : ByteArray) : (∃ t, Fm.pf s = (Fm.enc t, 0, 0)) ∨ ∃ p c, Fm.pf s = ([], p, c) ∧ (c == 0) = false := by
  unfold Fm.pf
  split
  · exact .inr ⟨_, _, rfl, by decide⟩
  · split
    · exact .inr ⟨_, _, rfl, by decide⟩
    · split
      · exact .inr ⟨_, _, rfl, by decide⟩
      · obtain ⟨t, ht⟩ := Fm.parse_enc s.data.toList Fm.fuel
        refine .inl ⟨t, ?_⟩
        rw [← ht]
        rfl
theorem gd_bad {s : ByteArray} {p : Nat} {c : Int} (h : Fm.pf s = ([], p, c)) (hc : (c == 0) = false) : gd s = false := by
  apply gd_false
  rintro ⟨t, ht, _⟩
  rw [h] at ht
  simp only [Prod.mk.injEq] at ht
  rw [ht.2.2] at hc
  cases hc
theorem gd_tree {s : ByteArray} {t : Fm.Tree} (h : Fm.pf s = (Fm.enc t, 0, 0)) : gd s = ((bs (Fm.txt t 0)).toList == s.toList) := by
  have e : ((bs (Fm.txt t 0)).toList == s.toList) = true ↔ bs (Fm.txt t 0) = s := by
    exact Lib.bytes_beq_iff _ _
  cases hb : ((bs (Fm.txt t 0)).toList == s.toList) with
  | true => exact gd_true ⟨t, h, e.1 hb⟩
  | false =>
    apply gd_false
    rintro ⟨u, hu, hs⟩
    rw [h] at hu
    simp only [Prod.mk.injEq, and_true] at hu
    have := enc_inj hu
    subst this
    rw [e.2 hs] at hb
    cases hb

/-- What the reference's test of a text gives. -/
def GivesG (w : World) (s : ByteArray) (e : Ending) (w' : World) : Prop := ∃ v, e = .returned (.tuple #[v, .bool (gd s)]) ∧ Own w' w.heap.size v (Fm.pf s).1 ∧ Grew w w'

theorem l02Good_c (s : ByteArray) (w : World) (hs : s.size ≤ 140737488355328) :
    Calls Tryz.prog 81 #[.string s] w (GivesG w s) := by
  have HP := fun w => specParse_c s w hs
  unfold GivesG
  rcases pf_cases s with ⟨t, ht⟩ | ⟨p, c, hp, hc⟩
  · have hn := Fm.pf_len s
    rw [gd_tree ht]
    rw [ht] at HP hn ⊢
    simp only at HP hn ⊢
    replace HP := Lib.hid HP
    have HT := Lib.hid (fun v w h => l02Text_c t v w h (by omega))
    clear ht
    generalize Fm.enc t = xs at *
    go_enter Tryz.func81, Tryz.ntmps81
    go_wp2_with fail
    refine (HP.out _).mono ?_
    rintro e w1 ⟨v1, rfl, ho1, hg1, _⟩
    go_wp2_with fail
    refine (HT.out _ _ ho1.nodes).mono ?_
    rintro e w2 ⟨rfl, hg2⟩
    go_wp2_with fail
    go_ret2
    exact ⟨_, rfl, ho1.grew hg2, hg1.trans hg2⟩
  · rw [gd_bad hp hc]
    rw [hp] at HP ⊢
    replace HP := Lib.hid HP
    clear hp
    go_enter Tryz.func81, Tryz.ntmps81
    go_wp2_with fail
    refine (HP.out _).mono ?_
    rintro e w1 ⟨v1, rfl, ho1, hg1, _⟩
    go_wp2_with fail
    go_ret2
    exact ⟨.slice none 0 0, rfl, Own.nil_ _ _, hg1⟩
end Go.Proofs.YtofeeenjlaljpaaGreat

/- The parts of a formula, as the program's text needs them. -/
namespace Go.Proofs.YtofeeenjlaljpaaGreat
open Go.RowKit
open Fm (Nd Tree)

theorem first_c (v : Value) (xs : List Nd) (t : Tree) (w : World) (h : Nodes w v xs) (hn : xs.length ≤ 1099511627776) (ht : At xs 1 t) :
    Calls Tryz.prog 111 #[v] w (Cuts w (Fm.enc t)) := by
  have HT := Lib.hid ht
  clear ht
  go_enter Tryz.func111, Tryz.ntmps111
  go_wp2_with fail
  refine (part_c _ xs 1 t _ h hn HT.out).mono ?_
  rintro e w1 ⟨v1, rfl, hN1, hg1⟩
  go_wp2_with fail
  go_ret
  exact ⟨_, rfl, hN1, hg1⟩

theorem second_c (v : Value) (xs : List Nd) (a t : Tree) (w : World) (h : Nodes w v xs) (hn : xs.length ≤ 1099511627776) (ha : At xs 1 a) (ht : At xs (1 + (Fm.enc a).length) t) :
    Calls Tryz.prog 112 #[v] w (Cuts w (Fm.enc t)) := by
  have HA := Lib.hid ha
  have HT := Lib.hid ht
  clear ha ht
  go_enter Tryz.func112, Tryz.ntmps112
  go_wp2_with fail
  refine (partEnd_at _ xs 1 a _ h hn HA.out).mono ?_
  rintro e w1 ⟨rfl, hg1⟩
  go_wp2_with fail
  refine (part_c _ xs (1 + (Fm.enc a).length) t _ (h.grew hg1) hn HT.out).mono ?_
  rintro e w2 ⟨v2, rfl, hN2, hg2⟩
  go_wp2_with fail
  go_ret
  exact ⟨_, rfl, hN2, hg1.trans hg2⟩

theorem isFalsum_c (v : Value) (t : Tree) (w : World) (h : Nodes w v (Fm.enc t)) :
    Calls Tryz.prog 114 #[v] w fun e w' => e = .returned (.bool (Fm.isF t)) ∧ Grew w w' := by
  have hpos := Fm.enc_pos t
  rcases h.open_ with ⟨rfl, h0⟩ | ⟨b, o, c, rfl, hc, hm, hb, hf⟩
  · rw [h0] at hpos; simp at hpos
  · have k1 := (hf 0 (by omega) w (Grew.refl _)).1
    rw [kd_enc] at k1
    rw [isF_kind]
    simp only [Nat.zero_mul, Nat.add_zero] at k1
    clear hf h
    go_enter Tryz.func114, Tryz.ntmps114
    go_wp2_with fail
    go_ret
    exact ⟨rfl, Grew.refl _⟩

theorem isNegation_c (v : Value) (t : Tree) (w : World) (h : Nodes w v (Fm.enc t)) (hn : (Fm.enc t).length ≤ 1099511627776) :
    Calls Tryz.prog 113 #[v] w fun e w' => e = .returned (.bool (isNeg t)) ∧ Grew w w' := by
  have hpos := Fm.enc_pos t
  rcases h.open_ with ⟨rfl, h0⟩ | ⟨b, o, c, rfl, hc, hm, hb, hf⟩
  · rw [h0] at hpos; simp at hpos
  · have k1 := (hf 0 (by omega) w (Grew.refl _)).1
    rw [kd_enc] at k1
    simp only [Nat.zero_mul, Nat.add_zero] at k1
    clear hf
    by_cases hk : kindOf t = 4
    · obtain ⟨x, y, rfl⟩ : ∃ x y, t = .imp x y := by cases t <;> simp_all [kindOf]
      have ha := at_first (xs := Fm.enc (.imp x y)) (k := (4, 0)) (a := x) (rest := Fm.enc y) rfl
      have hb2 := at_second (xs := Fm.enc (.imp x y)) (k := (4, 0)) (a := x) (b := y) rfl
      have HA := Lib.hid ha
      have HB := Lib.hid hb2
      have HH := Lib.hid h
      have hE : isNeg (.imp x y) = Fm.isF y := rfl
      rw [hE]
      rw [hk] at k1
      clear ha hb2 h hE hk
      generalize Fm.enc (.imp x y) = T at *
      go_enter Tryz.func113, Tryz.ntmps113
      go_wp2_with fail
      refine (second_c _ T x y _ HH.out hn HA.out HB.out).mono ?_
      rintro e w1 ⟨v1, rfl, hN1, hg1⟩
      go_wp2_with fail
      refine (isFalsum_c _ y _ hN1).mono ?_
      rintro e w2 ⟨rfl, hg2⟩
      go_wp2_with fail
      go_ret
      exact ⟨by simp, hg1.trans hg2⟩
    · have hE : isNeg t = false := by cases t <;> simp_all [isNeg, kindOf]
      rw [hE]
      have hk' : (kindOf t == 4) = false := by simpa using hk
      clear hE hk h
      generalize kindOf t = K at *
      go_enter Tryz.func113, Tryz.ntmps113
      go_wp2_with fail
      go_ret
      exact ⟨rfl, Grew.refl _⟩

theorem levelOf_c (v : Value) (t : Tree) (w : World) (h : Nodes w v (Fm.enc t)) (hn : (Fm.enc t).length ≤ 1099511627776) :
    Calls Tryz.prog 110 #[v] w fun e w' => e = .returned (.int .i64 (Fm.own t)) ∧ Grew w w' := by
  have hpos := Fm.enc_pos t
  rcases h.open_ with ⟨rfl, h0⟩ | ⟨b, o, c, rfl, hc, hm, hb, hf⟩
  · rw [h0] at hpos; simp at hpos
  · have k1 := fun W hW => (hf 0 (by omega) W hW).1
    rw [kd_enc] at k1
    simp only [Nat.zero_mul, Nat.add_zero] at k1
    have HN := Lib.hid (fun w h => isNegation_c (.slice (some ⟨b, o, none⟩) (Fm.enc t).length c) t w h hn)
    have HH := Lib.hid h
    have hg0 := Grew.refl w
    clear hf h
    by_cases hk : kindOf t = 4
    · rw [hk] at k1
      cases hng : isNeg t with
      | true =>
        have hE : Fm.own t = 3 := by cases t <;> simp_all [isNeg, kindOf, Fm.own]
        rw [hE]
        rw [hng] at HN
        clear hE hk hng
        go_enter Tryz.func110, Tryz.ntmps110
        go_wp2_with fail
        refine (HN.out _ HH.out).mono ?_
        rintro e w1 ⟨rfl, hg1⟩
        go_wp2_with fail
        go_ret
        exact ⟨rfl, hg1⟩
      | false =>
        have hE : Fm.own t = 0 := by cases t <;> simp_all [isNeg, kindOf, Fm.own]
        rw [hE]
        rw [hng] at HN
        clear hE hk hng
        go_enter Tryz.func110, Tryz.ntmps110
        go_wp2_with fail
        refine (HN.out _ HH.out).mono ?_
        rintro e w1 ⟨rfl, hg1⟩
        go_wp2_with fail
        go_ret
        exact ⟨rfl, hg1⟩
    · have hk4 : (kindOf t == 4) = false := by simpa using hk
      by_cases hk3 : kindOf t = 3
      · have hE : Fm.own t = 1 := by cases t <;> simp_all [kindOf, Fm.own]
        rw [hE]
        rw [hk3] at k1
        clear hE hk hk4 hk3
        go_enter Tryz.func110, Tryz.ntmps110
        go_wp2_with fail
        go_ret
        exact ⟨rfl, Grew.refl _⟩
      by_cases hk2 : kindOf t = 2
      · have hE : Fm.own t = 2 := by cases t <;> simp_all [kindOf, Fm.own]
        rw [hE]
        rw [hk2] at k1
        clear hE hk hk4 hk3 hk2
        go_enter Tryz.func110, Tryz.ntmps110
        go_wp2_with fail
        go_ret
        exact ⟨rfl, Grew.refl _⟩
      · have hE : Fm.own t = 3 := by cases t <;> simp_all [kindOf, Fm.own]
        rw [hE]
        have hk3' : (kindOf t == 3) = false := by simpa using hk3
        have hk2' : (kindOf t == 2) = false := by simpa using hk2
        clear hE hk hk3 hk2 HN HH
        generalize kindOf t = K at *
        go_enter Tryz.func110, Tryz.ntmps110
        go_wp2_with fail
        go_ret
        exact ⟨rfl, Grew.refl _⟩
end Go.Proofs.YtofeeenjlaljpaaGreat

/- The text of a formula: the program's textAt. -/
namespace Go.Proofs.YtofeeenjlaljpaaGreat
open Go.RowKit
open Fm (Nd Tree)

def TextOk (t : Tree) : Prop := ∀ (l : Nat) (v : Value) (w : World), l ≤ 3 → Nodes w v (Fm.enc t) → (Fm.enc t).length ≤ 1048576 →
  Calls Tryz.prog 87 #[v, .int .i64 l] w (Says w (Fm.txt t l))
/-- The same where no brackets are needed. -/
def BodyOk (t : Tree) : Prop := ∀ (l : Nat) (v : Value) (w : World), l ≤ Fm.own t → Nodes w v (Fm.enc t) → (Fm.enc t).length ≤ 1048576 →
  Calls Tryz.prog 87 #[v, .int .i64 l] w (Says w (Fm.txt t l))

theorem body_and (x y : Tree) (hx : TextOk x) (hy : TextOk y) : BodyOk (.and x y) := by
  intro l v w hl h hn
  have hown : Fm.own (.and x y) = 2 := by rfl
  have hE : Fm.txt (.and x y) l = Fm.txt x 2 ++ [38] ++ Fm.txt y 3 := by
    rw [Fm.txt, Fm.wrap, if_neg (by omega)]
  rw [hE]
  rw [hown] at hl
  obtain ⟨b, o, c, rfl, hc, hm, k1⟩ := nodes_head h
  have hpos := Fm.enc_pos (.and x y)
  have HL := Lib.hid (levelOf_c _ _ w h (by omega))
  have HH := Lib.hid h
  have hg0 := Grew.refl w
  rw [hown] at HL
  rw [show kindOf (.and x y) = 2 from rfl] at k1
  have HA := Lib.hid (at_first (xs := Fm.enc (.and x y)) (k := (2, 0)) (a := x) (rest := Fm.enc y) rfl)
  have HB := Lib.hid (at_second (xs := Fm.enc (.and x y)) (k := (2, 0)) (a := x) (b := y) rfl)
  have hlen : (Fm.enc (.and x y)).length = 1 + ((Fm.enc x).length + (Fm.enc y).length) := by simp [Fm.enc]; omega
  have h1 := Fm.txt_len x 2
  have h2 := Fm.txt_len y 3
  have HX := Lib.hid hx
  have HY := Lib.hid hy
  have hn1 : (Fm.enc x).length ≤ 1048576 := by omega
  have hn2 : (Fm.enc y).length ≤ 1048576 := by omega
  clear hE h hx hy hlen hown
  generalize Fm.enc (.and x y) = T at *
  have s1 := bs_size (Fm.txt x 2)
  have s2 := bs_size (Fm.txt y 3)
  have z1 : (bs (Fm.txt x 2)).size ≤ 4194304 := by omega
  have z2 : (bs (Fm.txt y 3)).size ≤ 4194304 := by omega
  have HE : Hid (bs (Fm.txt x 2) ++ bs [38] ++ bs (Fm.txt y 3) = bs (Fm.txt x 2 ++ [38] ++ Fm.txt y 3)) := by unfold Hid; rw [bs_append, bs_append]
  clear s1 s2 h1 h2
  generalize Fm.txt x 2 ++ [38] ++ Fm.txt y 3 = Z at *
  go_enter Tryz.func87, Tryz.ntmps87
  go_wp2_with fail
  refine HL.out.mono ?_
  rintro e w1 ⟨rfl, hg1⟩
  go_wp2_with fail
  refine (first_c _ T x _ (HH.out.grew hg1) (by omega) HA.out).mono ?_
  rintro e w2 ⟨v2, rfl, hN2, hg2⟩
  go_wp2_with fail
  refine (HX.out 2 _ _ (by omega) hN2 hn1).mono ?_
  rintro e w3 ⟨rfl, hg3⟩
  go_wp2_with fail
  refine (second_c _ T x y _ (HH.out.grew ((hg1.trans hg2).trans hg3)) (by omega) HA.out HB.out).mono ?_
  rintro e w4 ⟨v4, rfl, hN4, hg4⟩
  go_wp2_with fail
  refine (HY.out 3 _ _ (by omega) hN4 hn2).mono ?_
  rintro e w5 ⟨rfl, hg5⟩
  go_wp2_with fail
  go_ret
  exact ⟨congrArg (fun z => Ending.returned (.string z)) HE.out, (((hg1.trans hg2).trans hg3).trans hg4).trans hg5⟩

theorem body_or (x y : Tree) (hx : TextOk x) (hy : TextOk y) : BodyOk (.or x y) := by
  intro l v w hl h hn
  have hown : Fm.own (.or x y) = 1 := by rfl
  have hE : Fm.txt (.or x y) l = Fm.txt x 1 ++ [124] ++ Fm.txt y 2 := by
    rw [Fm.txt, Fm.wrap, if_neg (by omega)]
  rw [hE]
  rw [hown] at hl
  obtain ⟨b, o, c, rfl, hc, hm, k1⟩ := nodes_head h
  have hpos := Fm.enc_pos (.or x y)
  have HL := Lib.hid (levelOf_c _ _ w h (by omega))
  have HH := Lib.hid h
  have hg0 := Grew.refl w
  rw [hown] at HL
  rw [show kindOf (.or x y) = 3 from rfl] at k1
  have HA := Lib.hid (at_first (xs := Fm.enc (.or x y)) (k := (3, 0)) (a := x) (rest := Fm.enc y) rfl)
  have HB := Lib.hid (at_second (xs := Fm.enc (.or x y)) (k := (3, 0)) (a := x) (b := y) rfl)
  have hlen : (Fm.enc (.or x y)).length = 1 + ((Fm.enc x).length + (Fm.enc y).length) := by simp [Fm.enc]; omega
  have h1 := Fm.txt_len x 1
  have h2 := Fm.txt_len y 2
  have HX := Lib.hid hx
  have HY := Lib.hid hy
  have hn1 : (Fm.enc x).length ≤ 1048576 := by omega
  have hn2 : (Fm.enc y).length ≤ 1048576 := by omega
  clear hE h hx hy hlen hown
  generalize Fm.enc (.or x y) = T at *
  have s1 := bs_size (Fm.txt x 1)
  have s2 := bs_size (Fm.txt y 2)
  have z1 : (bs (Fm.txt x 1)).size ≤ 4194304 := by omega
  have z2 : (bs (Fm.txt y 2)).size ≤ 4194304 := by omega
  have HE : Hid (bs (Fm.txt x 1) ++ bs [124] ++ bs (Fm.txt y 2) = bs (Fm.txt x 1 ++ [124] ++ Fm.txt y 2)) := by unfold Hid; rw [bs_append, bs_append]
  clear s1 s2 h1 h2
  generalize Fm.txt x 1 ++ [124] ++ Fm.txt y 2 = Z at *
  go_enter Tryz.func87, Tryz.ntmps87
  go_wp2_with fail
  refine HL.out.mono ?_
  rintro e w1 ⟨rfl, hg1⟩
  go_wp2_with fail
  refine (first_c _ T x _ (HH.out.grew hg1) (by omega) HA.out).mono ?_
  rintro e w2 ⟨v2, rfl, hN2, hg2⟩
  go_wp2_with fail
  refine (HX.out 1 _ _ (by omega) hN2 hn1).mono ?_
  rintro e w3 ⟨rfl, hg3⟩
  go_wp2_with fail
  refine (second_c _ T x y _ (HH.out.grew ((hg1.trans hg2).trans hg3)) (by omega) HA.out HB.out).mono ?_
  rintro e w4 ⟨v4, rfl, hN4, hg4⟩
  go_wp2_with fail
  refine (HY.out 2 _ _ (by omega) hN4 hn2).mono ?_
  rintro e w5 ⟨rfl, hg5⟩
  go_wp2_with fail
  go_ret
  exact ⟨congrArg (fun z => Ending.returned (.string z)) HE.out, (((hg1.trans hg2).trans hg3).trans hg4).trans hg5⟩

theorem body_imp (x y : Tree) (hf : Fm.isF y = false) (hx : TextOk x) (hy : TextOk y) : BodyOk (.imp x y) := by
  intro l v w hl h hn
  have hown : Fm.own (.imp x y) = 0 := by simp [Fm.own, hf]
  have hE : Fm.txt (.imp x y) l = Fm.txt x 1 ++ [62] ++ Fm.txt y 0 := by
    rw [Fm.txt, if_neg (by simp [hf]), Fm.wrap, if_neg (by omega)]
  rw [hE]
  rw [hown] at hl
  obtain ⟨b, o, c, rfl, hc, hm, k1⟩ := nodes_head h
  have hpos := Fm.enc_pos (.imp x y)
  have HL := Lib.hid (levelOf_c _ _ w h (by omega))
  have HH := Lib.hid h
  have hg0 := Grew.refl w
  have hng : isNeg (.imp x y) = false := hf
  have HG := Lib.hid (fun w h => isNegation_c (.slice (some ⟨b, o, none⟩) (Fm.enc (.imp x y)).length c) (.imp x y) w h (by omega))
  rw [hng] at HG
  rw [hown] at HL
  rw [show kindOf (.imp x y) = 4 from rfl] at k1
  have HA := Lib.hid (at_first (xs := Fm.enc (.imp x y)) (k := (4, 0)) (a := x) (rest := Fm.enc y) rfl)
  have HB := Lib.hid (at_second (xs := Fm.enc (.imp x y)) (k := (4, 0)) (a := x) (b := y) rfl)
  have hlen : (Fm.enc (.imp x y)).length = 1 + ((Fm.enc x).length + (Fm.enc y).length) := by simp [Fm.enc]; omega
  have h1 := Fm.txt_len x 1
  have h2 := Fm.txt_len y 0
  have HX := Lib.hid hx
  have HY := Lib.hid hy
  have hn1 : (Fm.enc x).length ≤ 1048576 := by omega
  have hn2 : (Fm.enc y).length ≤ 1048576 := by omega
  clear hE h hx hy hlen hown hng hf
  generalize Fm.enc (.imp x y) = T at *
  have s1 := bs_size (Fm.txt x 1)
  have s2 := bs_size (Fm.txt y 0)
  have z1 : (bs (Fm.txt x 1)).size ≤ 4194304 := by omega
  have z2 : (bs (Fm.txt y 0)).size ≤ 4194304 := by omega
  have HE : Hid (bs (Fm.txt x 1) ++ bs [62] ++ bs (Fm.txt y 0) = bs (Fm.txt x 1 ++ [62] ++ Fm.txt y 0)) := by unfold Hid; rw [bs_append, bs_append]
  clear s1 s2 h1 h2
  generalize Fm.txt x 1 ++ [62] ++ Fm.txt y 0 = Z at *
  go_enter Tryz.func87, Tryz.ntmps87
  go_wp2_with fail
  refine HL.out.mono ?_
  rintro e w1 ⟨rfl, hg1⟩
  go_wp2_with fail
  refine (HG.out _ (HH.out.grew hg1)).mono ?_
  rintro e w11 ⟨rfl, hg11⟩
  have hg1 := hg1.trans hg11
  go_wp2_with fail
  refine (first_c _ T x _ (HH.out.grew hg1) (by omega) HA.out).mono ?_
  rintro e w2 ⟨v2, rfl, hN2, hg2⟩
  go_wp2_with fail
  refine (HX.out 1 _ _ (by omega) hN2 hn1).mono ?_
  rintro e w3 ⟨rfl, hg3⟩
  go_wp2_with fail
  refine (second_c _ T x y _ (HH.out.grew ((hg1.trans hg2).trans hg3)) (by omega) HA.out HB.out).mono ?_
  rintro e w4 ⟨v4, rfl, hN4, hg4⟩
  go_wp2_with fail
  refine (HY.out 0 _ _ (by omega) hN4 hn2).mono ?_
  rintro e w5 ⟨rfl, hg5⟩
  go_wp2_with fail
  go_ret
  exact ⟨congrArg (fun z => Ending.returned (.string z)) HE.out, (((hg1.trans hg2).trans hg3).trans hg4).trans hg5⟩

theorem body_box (x : Tree) (hx : TextOk x) : BodyOk (.box x) := by
  intro l v w hl h hn
  have hown : Fm.own (.box x) = 3 := rfl
  have hE : Fm.txt (.box x) l = [91, 93] ++ Fm.txt x 3 := rfl
  rw [hE]
  rw [hown] at hl
  obtain ⟨b, o, c, rfl, hc, hm, k1⟩ := nodes_head h
  have hpos := Fm.enc_pos (.box x)
  have HL := Lib.hid (levelOf_c _ _ w h (by omega))
  have HH := Lib.hid h
  have hg0 := Grew.refl w
  rw [hown] at HL
  rw [show kindOf (.box x) = 5 from rfl] at k1
  have HA := Lib.hid (at_first (xs := Fm.enc (.box x)) (k := (5, 0)) (a := x) (rest := []) (by simp [Fm.enc]))
  have hlen : (Fm.enc (.box x)).length = 1 + (Fm.enc x).length := by simp [Fm.enc]; omega
  have h1 := Fm.txt_len x 3
  have HX := Lib.hid hx
  have hn1 : (Fm.enc x).length ≤ 1048576 := by omega
  clear hE h hx hlen hown
  generalize Fm.enc (.box x) = T at *
  have s1 := bs_size (Fm.txt x 3)
  have z1 : (bs (Fm.txt x 3)).size ≤ 4194304 := by omega
  have HE : Hid (bs [91, 93] ++ bs (Fm.txt x 3) = bs ([91, 93] ++ Fm.txt x 3)) := by unfold Hid; rw [bs_append]
  clear s1 h1
  generalize [91, 93] ++ Fm.txt x 3 = Z at *
  go_enter Tryz.func87, Tryz.ntmps87
  go_wp2_with fail
  refine HL.out.mono ?_
  rintro e w1 ⟨rfl, hg1⟩
  go_wp2_with fail
  refine (first_c _ T x _ (HH.out.grew hg1) (by omega) HA.out).mono ?_
  rintro e w2 ⟨v2, rfl, hN2, hg2⟩
  go_wp2_with fail
  refine (HX.out 3 _ _ (by omega) hN2 hn1).mono ?_
  rintro e w3 ⟨rfl, hg3⟩
  go_wp2_with fail
  go_ret
  exact ⟨congrArg (fun z => Ending.returned (.string z)) HE.out, (hg1.trans hg2).trans hg3⟩

theorem body_dia (x : Tree) (hx : TextOk x) : BodyOk (.dia x) := by
  intro l v w hl h hn
  have hown : Fm.own (.dia x) = 3 := rfl
  have hE : Fm.txt (.dia x) l = [60, 62] ++ Fm.txt x 3 := rfl
  rw [hE]
  rw [hown] at hl
  obtain ⟨b, o, c, rfl, hc, hm, k1⟩ := nodes_head h
  have hpos := Fm.enc_pos (.dia x)
  have HL := Lib.hid (levelOf_c _ _ w h (by omega))
  have HH := Lib.hid h
  have hg0 := Grew.refl w
  rw [hown] at HL
  rw [show kindOf (.dia x) = 6 from rfl] at k1
  have HA := Lib.hid (at_first (xs := Fm.enc (.dia x)) (k := (6, 0)) (a := x) (rest := []) (by simp [Fm.enc]))
  have hlen : (Fm.enc (.dia x)).length = 1 + (Fm.enc x).length := by simp [Fm.enc]; omega
  have h1 := Fm.txt_len x 3
  have HX := Lib.hid hx
  have hn1 : (Fm.enc x).length ≤ 1048576 := by omega
  clear hE h hx hlen hown
  generalize Fm.enc (.dia x) = T at *
  have s1 := bs_size (Fm.txt x 3)
  have z1 : (bs (Fm.txt x 3)).size ≤ 4194304 := by omega
  have HE : Hid (bs [60, 62] ++ bs (Fm.txt x 3) = bs ([60, 62] ++ Fm.txt x 3)) := by unfold Hid; rw [bs_append]
  clear s1 h1
  generalize [60, 62] ++ Fm.txt x 3 = Z at *
  go_enter Tryz.func87, Tryz.ntmps87
  go_wp2_with fail
  refine HL.out.mono ?_
  rintro e w1 ⟨rfl, hg1⟩
  go_wp2_with fail
  refine (first_c _ T x _ (HH.out.grew hg1) (by omega) HA.out).mono ?_
  rintro e w2 ⟨v2, rfl, hN2, hg2⟩
  go_wp2_with fail
  refine (HX.out 3 _ _ (by omega) hN2 hn1).mono ?_
  rintro e w3 ⟨rfl, hg3⟩
  go_wp2_with fail
  go_ret
  exact ⟨congrArg (fun z => Ending.returned (.string z)) HE.out, (hg1.trans hg2).trans hg3⟩

theorem body_tru (x : Tree) (hf : Fm.isF x = true) : BodyOk (.imp x .fls) := by
  intro l v w hl h hn
  have hown : Fm.own (.imp x .fls) = 3 := rfl
  have hE : Fm.txt (.imp x .fls) l = [84] := by
    rw [Fm.txt, if_pos (show Fm.isF .fls = true from rfl), if_pos hf]
  rw [hE]
  rw [hown] at hl
  obtain ⟨b, o, c, rfl, hc, hm, k1⟩ := nodes_head h
  have hpos := Fm.enc_pos (.imp x .fls)
  have HL := Lib.hid (levelOf_c _ _ w h (by omega))
  have HH := Lib.hid h
  have hg0 := Grew.refl w
  have HG := Lib.hid (fun w h => isNegation_c (.slice (some ⟨b, o, none⟩) (Fm.enc (.imp x .fls)).length c) (.imp x .fls) w h (by omega))
  rw [show isNeg (.imp x .fls) = true from rfl] at HG
  rw [hown] at HL
  rw [show kindOf (.imp x .fls) = 4 from rfl] at k1
  have HA := Lib.hid (at_first (xs := Fm.enc (.imp x .fls)) (k := (4, 0)) (a := x) (rest := Fm.enc .fls) rfl)
  have hlen : (Fm.enc (.imp x .fls)).length = 2 + (Fm.enc x).length := by simp [Fm.enc]; omega
  have hn1 : (Fm.enc x).length ≤ 1048576 := by omega
  have HI := Lib.hid (fun v w h => isFalsum_c v x w h)
  rw [hf] at HI
  clear hE h hlen hown hf
  generalize Fm.enc (.imp x .fls) = T at *
  go_enter Tryz.func87, Tryz.ntmps87
  go_wp2_with fail
  refine HL.out.mono ?_
  rintro e w1 ⟨rfl, hg1⟩
  go_wp2_with fail
  refine (HG.out _ (HH.out.grew hg1)).mono ?_
  rintro e w11 ⟨rfl, hg11⟩
  have hg1 := hg1.trans hg11
  go_wp2_with fail
  refine (first_c _ T x _ (HH.out.grew hg1) (by omega) HA.out).mono ?_
  rintro e w2 ⟨v2, rfl, hN2, hg2⟩
  go_wp2_with fail
  refine (HI.out _ _ hN2).mono ?_
  rintro e w3 ⟨rfl, hg3⟩
  go_wp2_with fail
  go_ret
  exact ⟨rfl, (hg1.trans hg2).trans hg3⟩

theorem body_not (x : Tree) (hf : Fm.isF x = false) (hx : TextOk x) : BodyOk (.imp x .fls) := by
  intro l v w hl h hn
  have hown : Fm.own (.imp x .fls) = 3 := rfl
  have hE : Fm.txt (.imp x .fls) l = [126] ++ Fm.txt x 3 := by
    rw [Fm.txt, if_pos (show Fm.isF .fls = true from rfl), if_neg (by simp [hf])]
  rw [hE]
  rw [hown] at hl
  obtain ⟨b, o, c, rfl, hc, hm, k1⟩ := nodes_head h
  have hpos := Fm.enc_pos (.imp x .fls)
  have HL := Lib.hid (levelOf_c _ _ w h (by omega))
  have HH := Lib.hid h
  have hg0 := Grew.refl w
  have HG := Lib.hid (fun w h => isNegation_c (.slice (some ⟨b, o, none⟩) (Fm.enc (.imp x .fls)).length c) (.imp x .fls) w h (by omega))
  rw [show isNeg (.imp x .fls) = true from rfl] at HG
  rw [hown] at HL
  rw [show kindOf (.imp x .fls) = 4 from rfl] at k1
  have HA := Lib.hid (at_first (xs := Fm.enc (.imp x .fls)) (k := (4, 0)) (a := x) (rest := Fm.enc .fls) rfl)
  have hlen : (Fm.enc (.imp x .fls)).length = 2 + (Fm.enc x).length := by simp [Fm.enc]; omega
  have hn1 : (Fm.enc x).length ≤ 1048576 := by omega
  have HI := Lib.hid (fun v w h => isFalsum_c v x w h)
  rw [hf] at HI
  have h1 := Fm.txt_len x 3
  have HX := Lib.hid hx
  have s1 := bs_size (Fm.txt x 3)
  have z1 : (bs (Fm.txt x 3)).size ≤ 4194304 := by omega
  have HE : Hid (bs [126] ++ bs (Fm.txt x 3) = bs ([126] ++ Fm.txt x 3)) := by unfold Hid; rw [bs_append]
  clear s1 h1 hx
  generalize [126] ++ Fm.txt x 3 = Z at *
  clear hE h hlen hown hf
  generalize Fm.enc (.imp x .fls) = T at *
  go_enter Tryz.func87, Tryz.ntmps87
  go_wp2_with fail
  refine HL.out.mono ?_
  rintro e w1 ⟨rfl, hg1⟩
  go_wp2_with fail
  refine (HG.out _ (HH.out.grew hg1)).mono ?_
  rintro e w11 ⟨rfl, hg11⟩
  have hg1 := hg1.trans hg11
  go_wp2_with fail
  refine (first_c _ T x _ (HH.out.grew hg1) (by omega) HA.out).mono ?_
  rintro e w2 ⟨v2, rfl, hN2, hg2⟩
  go_wp2_with fail
  refine (HI.out _ _ hN2).mono ?_
  rintro e w3 ⟨rfl, hg3⟩
  go_wp2_with fail
  refine (first_c _ T x _ (HH.out.grew ((hg1.trans hg2).trans hg3)) (by omega) HA.out).mono ?_
  rintro e w4 ⟨v4, rfl, hN4, hg4⟩
  go_wp2_with fail
  refine (HX.out 3 _ _ (by omega) hN4 hn1).mono ?_
  rintro e w5 ⟨rfl, hg5⟩
  go_wp2_with fail
  go_ret
  exact ⟨congrArg (fun z => Ending.returned (.string z)) HE.out, (((hg1.trans hg2).trans hg3).trans hg4).trans hg5⟩

theorem body_fls : BodyOk .fls := by
  intro l v w hl h hn
  have hE : Fm.txt .fls l = [70] := rfl
  rw [hE]
  rw [show Fm.own .fls = 3 from rfl] at hl
  obtain ⟨b, o, c, rfl, hc, hm, k1⟩ := nodes_head h
  have hpos := Fm.enc_pos (.fls)
  have HL := Lib.hid (levelOf_c _ _ w h (by omega))
  have HH := Lib.hid h
  have hg0 := Grew.refl w
  rw [show Fm.own .fls = 3 from rfl] at HL
  rw [show kindOf .fls = 1 from rfl] at k1
  clear hE h
  generalize Fm.enc .fls = T at *
  go_enter Tryz.func87, Tryz.ntmps87
  go_wp2_with fail
  refine HL.out.mono ?_
  rintro e w1 ⟨rfl, hg1⟩
  go_wp2_with fail
  go_ret
  exact ⟨rfl, hg1⟩

theorem body_var (n : Fin 6) : BodyOk (.var n) := by
  intro l v w hl h hn
  have hE : Fm.txt (.var n) l = [UInt8.ofNat (112 + n.val)] := rfl
  rw [hE]
  rw [show Fm.own (.var n) = 3 from rfl] at hl
  have k2 : ∃ b o c, v = .slice (some ⟨b, o, none⟩) (Fm.enc (.var n)).length c ∧ ∀ W, Grew w W → W.cell? ⟨b, o + 1, none⟩ = some (.int .i64 (n.val : Int)) := by
    rcases h.open_ with ⟨_, h0⟩ | ⟨b, o, c, hv, _, _, _, hf⟩
    · simp [Fm.enc] at h0
    · refine ⟨b, o, c, hv, fun W hW => ?_⟩
      have := (hf 0 (by simp [Fm.enc]) W hW).2
      rw [show sy (Fm.enc (.var n)) 0 = (n.val : Int) from rfl] at this
      simpa using this
  obtain ⟨b, o, c, rfl, hc, hm, k1⟩ := nodes_head h
  have hpos := Fm.enc_pos (.var n)
  have HL := Lib.hid (levelOf_c _ _ w h (by omega))
  have HH := Lib.hid h
  have hg0 := Grew.refl w
  obtain ⟨b', o', c', hv', k2⟩ := k2
  simp only [Value.slice.injEq, Option.some.injEq, Addr.mk.injEq, and_true, true_and] at hv'
  obtain ⟨⟨rfl, rfl⟩, rfl⟩ := hv'
  rw [show Fm.own (.var n) = 3 from rfl] at HL
  rw [show kindOf (.var n) = 0 from rfl] at k1
  have hn6 := n.isLt
  clear hE h
  generalize Fm.enc (.var n) = T at *
  generalize n.val = q at *
  go_enter Tryz.func87, Tryz.ntmps87
  go_wp2_with fail
  refine HL.out.mono ?_
  rintro e w1 ⟨rfl, hg1⟩
  go_wp2_with fail
  go_quiet (fail)
  go_wp2_with fail
  go_ret
  exact ⟨congrArg (fun z => Ending.returned (.string z)) (letter_cut hn6), hg1.drewN _⟩

theorem textOk_of (t : Tree) (hb : BodyOk t) : TextOk t := by
  intro l v w hl h hn
  by_cases hw : Fm.own t < l
  · have hE : Fm.txt t l = [40] ++ Fm.txt t 0 ++ [41] := by
      cases t with
      | var n => simp [Fm.own] at hw; omega
      | fls => simp [Fm.own] at hw; omega
      | and x y => simp only [Fm.own] at hw; simp [Fm.txt, Fm.wrap, hw]
      | or x y => simp only [Fm.own] at hw; simp [Fm.txt, Fm.wrap, hw]
      | imp x y =>
        cases hf : Fm.isF y with
        | true => simp [Fm.own, hf] at hw; omega
        | false => simp [Fm.own, hf] at hw; simp [Fm.txt, Fm.wrap, hf, hw]
      | box x => simp [Fm.own] at hw; omega
      | dia x => simp [Fm.own] at hw; omega
    rw [hE]
    have h1 := Fm.txt_len t 0
    have s1 := bs_size (Fm.txt t 0)
    have z1 : (bs (Fm.txt t 0)).size ≤ 4194304 := by omega
    have HL := Lib.hid (levelOf_c _ _ w h (by omega))
    have HB := Lib.hid (fun w h => hb 0 v w (Nat.zero_le _) h hn)
    have HH := Lib.hid h
    have HE : Hid (bs [40] ++ bs (Fm.txt t 0) ++ bs [41] = bs ([40] ++ Fm.txt t 0 ++ [41])) := by unfold Hid; rw [bs_append, bs_append]
    clear hE h1 s1 hb h
    generalize Fm.own t = q at *
    generalize [40] ++ Fm.txt t 0 ++ [41] = Z at *
    go_enter Tryz.func87, Tryz.ntmps87
    go_wp2_with fail
    refine HL.out.mono ?_
    rintro e w1 ⟨rfl, hg1⟩
    go_wp2_with fail
    refine (HB.out _ (HH.out.grew hg1)).mono ?_
    rintro e w2 ⟨rfl, hg2⟩
    go_wp2_with fail
    go_ret
    exact ⟨congrArg (fun z => Ending.returned (.string z)) HE.out, hg1.trans hg2⟩
  · exact hb l v w (by omega) h hn

theorem text_ok (t : Tree) : TextOk t := by
  induction t with
  | var n => exact textOk_of _ (body_var n)
  | fls => exact textOk_of _ body_fls
  | and x y hx hy => exact textOk_of _ (body_and x y hx hy)
  | or x y hx hy => exact textOk_of _ (body_or x y hx hy)
  | imp x y hx hy =>
    cases hf : Fm.isF y with
    | true =>
      obtain rfl := Fm.isF_eq hf
      cases hg : Fm.isF x with
      | true => exact textOk_of _ (body_tru x hg)
      | false => exact textOk_of _ (body_not x hg hx)
    | false => exact textOk_of _ (body_imp x y hf hx hy)
  | box x hx => exact textOk_of _ (body_box x hx)
  | dia x hx => exact textOk_of _ (body_dia x hx)

theorem text_c (t : Tree) (v : Value) (w : World) (h : Nodes w v (Fm.enc t)) (hn : (Fm.enc t).length ≤ 1048576) :
    Calls Tryz.prog 55 #[v] w (Says w (Fm.txt t 0)) := by
  have HT := Lib.hid (text_ok t 0 v w (by omega) h hn)
  go_enter Tryz.func55, Tryz.ntmps55
  go_wp2_with fail
  refine HT.out.mono ?_
  rintro e w1 ⟨rfl, hg1⟩
  go_wp2_with fail
  go_ret
  exact ⟨rfl, hg1⟩
end Go.Proofs.YtofeeenjlaljpaaGreat

/- The program's 'parsed'. -/
namespace Go.Proofs.YtofeeenjlaljpaaGreat
open Go.RowKit
open Fm (Nd)

/-- A new list, nil where it is empty. -/
def GivesN (w : World) (xs : List Nd) (e : Ending) (w' : World) : Prop := ∃ v, e = .returned v ∧ Own w' w.heap.size v xs ∧ Grew w w' ∧ (xs = [] → v = .slice none 0 0)

theorem parsed_c (s : ByteArray) (w : World) (hs : s.size ≤ 140737488355328) :
    Calls Tryz.prog 51 #[.string s] w (GivesN w (Fm.pf s).1) := by
  have HP := Lib.hid (fun w => parse_c s w hs)
  generalize Fm.pf s = r at *
  go_enter Tryz.func51, Tryz.ntmps51
  go_wp2_with fail
  refine (HP.out _).mono ?_
  rintro e w1 ⟨v1, rfl, ho1, hg1, hz1⟩
  have HZ := Lib.hid hz1
  clear hz1
  go_wp2_with fail
  go_ret
  exact ⟨_, rfl, ho1, hg1, HZ.out⟩
end Go.Proofs.YtofeeenjlaljpaaGreat

/- isText of the program. -/
namespace Go.Proofs.YtofeeenjlaljpaaGreat
open Go.RowKit
open Fm (Nd)

theorem text0_c (t : Fm.Tree) (v : Value) (w : World) (h : Nodes w v (Fm.enc t)) (hn : (Fm.enc t).length ≤ 1048576) :
    Calls Tryz.prog 55 #[v] w (Says w (Fm.txt t 0)) := text_c t v w h hn

theorem isText_c (s : ByteArray) (w : World) (hs : s.size ≤ 140737488355328) :
    Calls Tryz.prog 95 #[.string s] w fun e w' => e = .returned (.bool (gd s)) ∧ Grew w w' := by
  have HP := fun w => parsed_c s w hs
  rcases pf_cases s with ⟨t, ht⟩ | ⟨p, c, hp, hc⟩
  · have hn := Fm.pf_len s
    have hpos := Fm.enc_pos t
    rw [gd_tree ht]
    rw [ht] at HP hn
    simp only at HP hn
    replace HP := Lib.hid HP
    have HT := Lib.hid (fun v w h => text0_c t v w h (by omega))
    have HO := Lib.hid (fun w (v : Value) (h : Own w w.heap.size v (Fm.enc t)) => h)
    clear ht HO
    have hne := fun w (b : Option Addr) n c => run_neq_slice_nil_any (P := Tryz.prog) w 56 87 b n c 0 0 Tryz.underlying56
    generalize Fm.enc t = xs at *
    go_enter Tryz.func95, Tryz.ntmps95
    go_wp2_with fail
    refine (HP.out _).mono ?_
    rintro e w1 ⟨v1, rfl, ho1, hg1, _⟩
    rcases ho1.open_ with ⟨rfl, h0⟩ | ⟨g, c, cur, rfl, _⟩
    · rw [h0] at hpos; cases hpos
    go_wp2_with fail
    refine (HT.out _ _ ho1.nodes).mono ?_
    rintro e w2 ⟨rfl, hg2⟩
    go_wp2_with fail
    go_ret
    exact ⟨rfl, hg1.trans hg2⟩
  · rw [gd_bad hp hc]
    rw [hp] at HP
    replace HP := Lib.hid HP
    clear hp
    go_enter Tryz.func95, Tryz.ntmps95
    go_wp2_with fail
    refine (HP.out _).mono ?_
    rintro e w1 ⟨v1, rfl, ho1, hg1, hz1⟩
    obtain rfl := hz1 rfl
    go_wp2_with fail
    go_ret
    exact ⟨rfl, hg1⟩
end Go.Proofs.YtofeeenjlaljpaaGreat

/- A predicate on nodes: IndexFunc, ContainsFunc. -/
namespace Go.Proofs.YtofeeenjlaljpaaGreat
open Go.RowKit
open Fm (Nd)

/-- None of the first k nodes meets the predicate. -/
def NoneP (p : Int → Int → Bool) (xs : List Nd) (k : Nat) : Prop := ∀ i, i < k → p (kd xs i) (sy xs i) = false
theorem NoneP.zero (p : Int → Int → Bool) (xs : List Nd) : NoneP p xs 0 := fun i hi => absurd hi (by omega)
theorem NoneP.succ {p : Int → Int → Bool} {xs : List Nd} {k : Nat} (h : NoneP p xs k) (h1 : p (kd xs k) (sy xs k) = false) : NoneP p xs (k + 1) := by
  intro i hi
  rcases Nat.lt_or_ge i k with hk | hk
  · exact h i hk
  · obtain rfl : i = k := by omega
    exact h1
/-- Some node meets the predicate. -/
noncomputable def anyP (p : Int → Int → Bool) (xs : List Nd) : Bool := !@decide (NoneP p xs xs.length) (Classical.propDecidable _)
theorem anyP_no {p : Int → Int → Bool} {xs : List Nd} (h : NoneP p xs xs.length) : anyP p xs = false := by
  unfold anyP
  rw [@decide_eq_true _ (Classical.propDecidable _) h]
  rfl
theorem anyP_at {p : Int → Int → Bool} {xs : List Nd} {k : Nat} (hk : k < xs.length) (h : p (kd xs k) (sy xs k) = true) : anyP p xs = true := by
  unfold anyP
  rw [@decide_eq_false _ (Classical.propDecidable _) fun H => by rw [H k hk] at h; cases h]
  rfl

/-- What the function value gives at a node. -/
def PredOk (f : Nat) (p : Int → Int → Bool) : Prop := ∀ a b W, Calls Tryz.prog f #[.agg #[.int .i64 a, .int .i64 b]] W fun e w' => e = .returned (.bool (p a b)) ∧ Grew W w'

theorem indexFunc_c (v : Value) (xs : List Nd) (f : Nat) (p : Int → Int → Bool) (w : World) (h : Nodes w v xs) (hn : xs.length ≤ 1099511627776) (hf : PredOk f p) (eg : ∀ args w, (callFunc f args).run Tryz.prog w = .ok (.enter f args) w) :
    Calls Tryz.prog 149 #[v, .func (.func f) #[] #[]] w fun e w' => ∃ r : Int, e = .returned (.int .i64 r) ∧ Grew w w' ∧ decide (0 ≤ r) = anyP p xs := by
  rcases h.open_ with ⟨rfl, rfl⟩ | ⟨b, o, c, rfl, hc, hm, hb, hcell⟩
  · rw [anyP_no (NoneP.zero _ _)]
    clear h hf
    go_enter Tryz.func149, Tryz.ntmps149
    go_wp2_with fail
    refine wp_loop_rounds 1 ?_; rw [rounds_succ]
    go_wp2_with fail
    go_ret
    exact ⟨_, rfl, Grew.refl _, rfl⟩
  obtain ⟨R, hR⟩ : ∃ R, R = anyP p xs := ⟨_, rfl⟩
  rw [← hR]
  have HA := Lib.hid (fun k hk h => hR.trans (@anyP_at p xs k hk h))
  have HZ := Lib.hid (fun h => hR.trans (@anyP_no p xs h))
  have HC := Lib.hid hcell
  have HF := Lib.hid hf
  clear hcell h hf hR
  generalize hN : xs.length = n at *
  clear hN
  go_enter Tryz.func149, Tryz.ntmps149
  go_wp2_with fail
  go_loopw [5, 8] (fun _ i wr => ∃ j : Nat, j ≤ n ∧ i = .int .i64 j ∧ Grew w wr ∧ Hid (NoneP p xs j)) (fun _ i _ => n - (intOf i).toNat)
  case atStart => exact ⟨0, Nat.zero_le _, rfl, Grew.refl _, NoneP.zero _ _⟩
  case round =>
    obtain ⟨j, hj, rfl, hB, HJ⟩ := hrel
    by_cases hlt : j < n
    · have k1 := (HC.out j hlt _ hB).1
      have k2 := (HC.out j hlt _ hB).2
      have hA := Lib.hid (HA.out j hlt)
      have hS := Lib.hid (fun h => HJ.out.succ (k := j) h)
      generalize kd xs j = x at *
      generalize sy xs j = y at *
      go_wp2_with fail
      go_at_fn f
      refine (HF.out x y _).mono ?_
      rintro e w1 ⟨rfl, hg1⟩
      have hB1 := hB.trans hg1
      cases hp : p x y with
      | true =>
        have hv := hA.out hp
        go_wp2_with fail
        go_ret
        exact ⟨_, rfl, hB1, by rw [hv]; simp⟩
      | false =>
        have hs := Lib.hid (hS.out hp)
        go_wp2_with fail
        go_roundw
        case rel => exact ⟨j + 1, by omega, by go_num, hB1, hs⟩
        case measure => simp [intOf]; omega
    · obtain rfl : j = n := by omega
      have hv := Lib.hid (HZ.out HJ.out)
      go_wp2_with fail
      go_ret
      exact ⟨_, rfl, hB, by rw [hv.out]; rfl⟩

theorem containsFunc_c (v : Value) (xs : List Nd) (f : Nat) (p : Int → Int → Bool) (w : World) (h : Nodes w v xs) (hn : xs.length ≤ 1099511627776) (hf : PredOk f p) (eg : ∀ args w, (callFunc f args).run Tryz.prog w = .ok (.enter f args) w) :
    Calls Tryz.prog 117 #[v, .func (.func f) #[] #[]] w fun e w' => e = .returned (.bool (anyP p xs)) ∧ Grew w w' := by
  have HI := Lib.hid (indexFunc_c v xs f p w h hn hf eg)
  clear h hf eg
  generalize anyP p xs = R at *
  go_enter Tryz.func117, Tryz.ntmps117
  go_wp2_with fail
  refine HI.out.mono ?_
  rintro e w1 ⟨r, rfl, hg1, hr⟩
  go_wp2_with fail
  go_ret
  exact ⟨by rw [← hr]; rfl, hg1⟩

end Go.Proofs.YtofeeenjlaljpaaGreat

/- isPlain of the program, l02Plain of the reference. -/
namespace Go.Proofs.YtofeeenjlaljpaaGreat
open Go.RowKit
open Fm (Nd)

def isBD (a _b : Int) : Bool := a == 5 || a == 6
theorem isModal_c (a : Int) (w : World) : Calls Tryz.prog 119 #[.int .i64 a] w fun e w' => e = .returned (.bool (a == 5 || a == 6)) ∧ Grew w w' := by
  cases h : (a == 5) with
  | true =>
    go_enter Tryz.func119, Tryz.ntmps119
    go_wp2_with fail
    go_ret
    exact ⟨rfl, Grew.refl _⟩
  | false =>
    go_enter Tryz.func119, Tryz.ntmps119
    go_wp2_with fail
    go_ret
    exact ⟨by simp, Grew.refl _⟩
theorem isPlain1_ok : PredOk 118 isBD := by
  intro a b w
  go_enter Tryz.func118, Tryz.ntmps118
  go_wp2_with fail
  refine (isModal_c _ _).mono ?_
  rintro e w1 ⟨rfl, hg1⟩
  go_wp2_with fail
  go_ret
  exact ⟨rfl, Grew.of_alloc hg1⟩
theorem isPlain_c (v : Value) (xs : List Nd) (w : World) (h : Nodes w v xs) (hn : xs.length ≤ 1099511627776) :
    Calls Tryz.prog 96 #[v] w fun e w' => e = .returned (.bool (!anyP isBD xs)) ∧ Grew w w' := by
  have HI := Lib.hid (containsFunc_c v xs _ _ w h hn isPlain1_ok (enters_of Tryz.func118 (by kernel_rfl) rfl))
  clear h
  generalize anyP isBD xs = R at *
  go_enter Tryz.func96, Tryz.ntmps96
  go_wp2_with fail
  refine HI.out.mono ?_
  rintro e w1 ⟨rfl, hg1⟩
  go_wp2_with fail
  go_ret
  exact ⟨rfl, hg1⟩

theorem l02Plain_c (v : Value) (xs : List Nd) (w : World) (h : Nodes w v xs) (hn : xs.length ≤ 1099511627776) :
    Calls Tryz.prog 82 #[v] w fun e w' => e = .returned (.bool (!anyP isBD xs)) ∧ Grew w w' := by
  rcases h.open_ with ⟨rfl, rfl⟩ | ⟨b, o, c, rfl, hc, hm, hb, hcell⟩
  · rw [anyP_no (NoneP.zero _ _)]
    clear h
    go_enter Tryz.func82, Tryz.ntmps82
    go_wp2_with fail
    refine wp_loop_rounds 1 ?_; rw [rounds_succ]
    go_wp2_with fail
    go_ret
    exact ⟨rfl, Grew.refl _⟩
  obtain ⟨R, hR⟩ : ∃ R, R = anyP isBD xs := ⟨_, rfl⟩
  rw [← hR]
  have HA := Lib.hid (fun k hk h => hR.trans (@anyP_at isBD xs k hk h))
  have HZ := Lib.hid (fun h => hR.trans (@anyP_no isBD xs h))
  have HC := Lib.hid hcell
  clear hcell h hR
  generalize hN : xs.length = n at *
  clear hN
  go_enter Tryz.func82, Tryz.ntmps82
  go_wp2_with fail
  go_loopw [3] (fun i wr => ∃ j : Nat, j ≤ n ∧ i = .int .i64 j ∧ Grew w wr ∧ Hid (NoneP isBD xs j)) (fun i _ => n - (intOf i).toNat)
  case atStart => exact ⟨0, Nat.zero_le _, rfl, Grew.refl _, NoneP.zero _ _⟩
  case round =>
    obtain ⟨j, hj, rfl, hB, HJ⟩ := hrel
    by_cases hlt : j < n
    · have k1 := (HC.out j hlt _ hB).1
      have hA := Lib.hid (HA.out j hlt)
      have hS := Lib.hid (fun h => HJ.out.succ (k := j) h)
      generalize kd xs j = x at *
      generalize sy xs j = y at *
      cases h5 : (x == 5) with
      | true =>
        have hv := Lib.hid (hA.out (by simp [isBD, h5]))
        go_wp2_with fail
        go_ret
        rw [hv.out]
        exact ⟨rfl, hB⟩
      | false =>
        cases h6 : (x == 6) with
        | true =>
          have hv := Lib.hid (hA.out (by simp [isBD, h6]))
          go_wp2_with fail
          go_ret
          rw [hv.out]
          exact ⟨rfl, hB⟩
        | false =>
          have hs := Lib.hid (hS.out (by simp [isBD, h5, h6]))
          go_wp2_with fail
          go_roundw
          case rel => exact ⟨j + 1, by omega, by go_num, hB, hs⟩
          case measure => simp [intOf]; omega
    · obtain rfl : j = n := by omega
      have hv := Lib.hid (HZ.out HJ.out)
      go_wp2_with fail
      go_ret
      rw [hv.out]
      exact ⟨rfl, hB⟩
end Go.Proofs.YtofeeenjlaljpaaGreat

/- Is a text that of a plain formula? -/
namespace Go.Proofs.YtofeeenjlaljpaaGreat
open Go.RowKit
open Fm (Nd)

/-- The text is the text of a plain formula. -/
noncomputable def gp (s : ByteArray) : Bool := gd s && !anyP isBD (Fm.pf s).1

def GivesP (w : World) (s : ByteArray) (e : Ending) (w' : World) : Prop := ∃ v, e = .returned (.tuple #[v, .bool (gp s)]) ∧ Own w' w.heap.size v (Fm.pf s).1 ∧ Grew w w'

theorem isPlainText_c (s : ByteArray) (w : World) (hs : s.size ≤ 140737488355328) :
    Calls Tryz.prog 64 #[.string s] w fun e w' => e = .returned (.bool (gp s)) ∧ Grew w w' := by
  have HG := fun w => isText_c s w hs
  have HR := fun w => parsed_c s w hs
  have hn := Fm.pf_len s
  unfold gp
  generalize (Fm.pf s).1 = xs at *
  have HP := Lib.hid (fun v w h => isPlain_c v xs w h (by omega))
  replace HR := Lib.hid HR
  generalize anyP isBD xs = q at *
  cases hg : gd s with
  | true =>
    rw [hg] at HG
    replace HG := Lib.hid HG
    clear hg
    go_enter Tryz.func64, Tryz.ntmps64
    go_wp2_with fail
    refine (HG.out _).mono ?_
    rintro e w1 ⟨rfl, hg1⟩
    go_wp2_with fail
    refine (HR.out _).mono ?_
    rintro e w2 ⟨v2, rfl, ho2, hg2, _⟩
    go_wp2_with fail
    refine (HP.out _ _ ho2.nodes).mono ?_
    rintro e w3 ⟨rfl, hg3⟩
    go_wp2_with fail
    go_ret
    exact ⟨rfl, (hg1.trans hg2).trans hg3⟩
  | false =>
    rw [hg] at HG
    replace HG := Lib.hid HG
    clear hg
    go_enter Tryz.func64, Tryz.ntmps64
    go_wp2_with fail
    refine (HG.out _).mono ?_
    rintro e w1 ⟨rfl, hg1⟩
    go_wp2_with fail
    go_ret
    exact ⟨rfl, hg1⟩
end Go.Proofs.YtofeeenjlaljpaaGreat

/- Plain formulas of the size of a text, and their texts. No program is in sight. -/
namespace Go.Proofs.YtofeeenjlaljpaaGreat
open Go.RowKit

/-- The text of a formula. -/
def tx (A : Fm.Tree) : ByteArray := bs (Fm.txt A 0)
/-- A formula of the size of a text. -/
def FmOk (A : Fm.Tree) : Prop := (Fm.enc A).length ≤ 40 ∧ anyP isBD (Fm.enc A) = false
theorem tx_pf {A : Fm.Tree} (h : (Fm.enc A).length ≤ 40) : Fm.pf (tx A) = (Fm.enc A, 0, 0) := Fm.pf_txt A (by have := Fm.txt_len A 0; omega) h
theorem tx_size {A : Fm.Tree} (h : (Fm.enc A).length ≤ 40) : (tx A).size ≤ 160 := by
  unfold tx
  rw [bs_size]
  have := Fm.txt_len A 0
  omega
theorem tx_inj {A B : Fm.Tree} (ha : (Fm.enc A).length ≤ 40) (hb : (Fm.enc B).length ≤ 40) (h : tx A = tx B) : A = B := by
  have h1 := tx_pf ha
  rw [h, tx_pf hb] at h1
  simp only [Prod.mk.injEq, and_true] at h1
  exact (enc_inj h1).symm
theorem gp_tx {A : Fm.Tree} (h : FmOk A) : gp (tx A) = true := by
  unfold gp
  rw [gd_true ⟨A, tx_pf h.1, rfl⟩, tx_pf h.1]
  simp [h.2]
theorem gp_tree {s : ByteArray} (h : gp s = true) : ∃ A, FmOk A ∧ tx A = s := by
  unfold gp at h
  simp only [Bool.and_eq_true, Bool.not_eq_true'] at h
  have hg : IsGood s := by
    by_cases hg : IsGood s
    · exact hg
    · rw [gd_false hg] at h; exact absurd h.1 (by simp)
  obtain ⟨A, h1, h2⟩ := hg
  have hl := Fm.pf_len s
  rw [h1] at hl h
  exact ⟨A, ⟨hl, h.2⟩, h2⟩
theorem tx_ne (A : Fm.Tree) : (tx A).toList.isEmpty = false := by
  have h1 := Fm.txt_pos A 0
  unfold tx
  cases he : Fm.txt A 0 with
  | nil => rw [he] at h1; simp at h1
  | cons x xs =>
    have := Lib.bytes_beq_iff (bs (x :: xs)) ByteArray.empty
    cases hq : (bs (x :: xs)).toList.isEmpty with
    | false => rfl
    | true =>
      exfalso
      have h2 : (bs (x :: xs)).toList = ByteArray.empty.toList := by
        rw [List.isEmpty_iff] at hq
        rw [hq]; exact (by unfold ByteArray.toList ByteArray.toList.loop; rfl : ([] : List UInt8) = ByteArray.empty.toList)
      have h3 := this.1 (by rw [h2]; simp)
      have h4 := congrArg ByteArray.size h3
      rw [bs_size] at h4
      simp at h4

/-- The formula that a text is the text of. -/
noncomputable def fo (s : ByteArray) : Fm.Tree := @dite _ (gp s = true) (Classical.propDecidable _) (fun h => Classical.choose (gp_tree h)) (fun _ => .fls)
theorem fo_ok {s : ByteArray} (h : gp s = true) : FmOk (fo s) ∧ tx (fo s) = s := by
  unfold fo
  rw [dif_pos h]
  exact Classical.choose_spec (gp_tree h)

/-- The formula, if it has not too many nodes. -/
def smallF (A : Fm.Tree) : Option Fm.Tree := if (Fm.enc A).length ≤ 40 then some A else none
theorem anyP_mem {p : Int → Int → Bool} {xs : List Fm.Nd} : anyP p xs = false ↔ ∀ x ∈ xs, p x.1 x.2 = false := by
  constructor
  · intro h x hx
    obtain ⟨i, hi, rfl⟩ := List.getElem_of_mem hx
    cases hq : p xs[i].1 xs[i].2 with
    | false => rfl
    | true =>
      have := anyP_at (p := p) hi (by simpa [kd, sy, List.getD, hi] using hq)
      rw [this] at h; cases h
  · intro h
    apply anyP_no
    intro i hi
    have := h xs[i] (List.getElem_mem hi)
    simpa [kd, sy, List.getD, hi] using this
theorem FmOk.bin {k : Int} {A B : Fm.Tree} {C : Fm.Tree} (he : Fm.enc C = (k, 0) :: (Fm.enc A ++ Fm.enc B)) (h : FmOk C) : FmOk A ∧ FmOk B := by
  obtain ⟨h1, h2⟩ := h
  rw [he] at h1 h2
  rw [anyP_mem] at h2
  simp only [List.length_cons, List.length_append] at h1
  exact ⟨⟨by omega, anyP_mem.2 fun x hx => h2 x (by simp [hx])⟩, ⟨by omega, anyP_mem.2 fun x hx => h2 x (by simp [hx])⟩⟩
theorem FmOk.join {k : Int} {A B : Fm.Tree} {C : Fm.Tree} (he : Fm.enc C = (k, 0) :: (Fm.enc A ++ Fm.enc B)) (hk : k ≠ 5 ∧ k ≠ 6) (hA : FmOk A) (hB : FmOk B) (hl : (Fm.enc C).length ≤ 40) : FmOk C := by
  refine ⟨hl, anyP_mem.2 ?_⟩
  rw [he]
  intro x hx
  simp only [List.mem_cons, List.mem_append] at hx
  rcases hx with rfl | hx | hx
  · unfold isBD
    have h5 : (k == 5) = false := by simpa using hk.1
    have h6 : (k == 6) = false := by simpa using hk.2
    show (k == 5 || k == 6) = false
    rw [h5, h6]; rfl
  · exact anyP_mem.1 hA.2 x hx
  · exact anyP_mem.1 hB.2 x hx
theorem smallF_ok {A B : Fm.Tree} (h : smallF A = some B) : A = B ∧ (Fm.enc B).length ≤ 40 := by
  unfold smallF at h
  split at h
  · simp at h; subst h; exact ⟨rfl, ‹_›⟩
  · cases h
theorem fmOk_and {p q : Fm.Tree} (h : FmOk (.and p q)) : FmOk p ∧ FmOk q := FmOk.bin (k := 2) rfl h
theorem fmOk_or {p q : Fm.Tree} (h : FmOk (.or p q)) : FmOk p ∧ FmOk q := FmOk.bin (k := 3) rfl h
theorem fmOk_imp {p q : Fm.Tree} (h : FmOk (.imp p q)) : FmOk p ∧ FmOk q := FmOk.bin (k := 4) rfl h
theorem small_and {p q B : Fm.Tree} (hp : FmOk p) (hq : FmOk q) (h : smallF (.and p q) = some B) : FmOk B := by
  obtain ⟨rfl, hl⟩ := smallF_ok h
  exact FmOk.join (k := 2) rfl (by decide) hp hq hl
theorem small_or {p q B : Fm.Tree} (hp : FmOk p) (hq : FmOk q) (h : smallF (.or p q) = some B) : FmOk B := by
  obtain ⟨rfl, hl⟩ := smallF_ok h
  exact FmOk.join (k := 3) rfl (by decide) hp hq hl
theorem small_imp {p q B : Fm.Tree} (hp : FmOk p) (hq : FmOk q) (h : smallF (.imp p q) = some B) : FmOk B := by
  obtain ⟨rfl, hl⟩ := smallF_ok h
  exact FmOk.join (k := 4) rfl (by decide) hp hq hl
end Go.Proofs.YtofeeenjlaljpaaGreat

/- A predicate on strings: IndexFunc, ContainsFunc. -/
namespace Go.Proofs.YtofeeenjlaljpaaGreat
open Go.RowKit

/-- None of the first k strings meets the predicate. -/
def NoneS (p : ByteArray → Bool) (L : List ByteArray) (k : Nat) : Prop := ∀ i, i < k → p (st L i) = false
theorem NoneS.zero (p : ByteArray → Bool) (L : List ByteArray) : NoneS p L 0 := fun i hi => absurd hi (by omega)
theorem NoneS.succ {p : ByteArray → Bool} {L : List ByteArray} {k : Nat} (h : NoneS p L k) (h1 : p (st L k) = false) : NoneS p L (k + 1) := by
  intro i hi
  rcases Nat.lt_or_ge i k with hk | hk
  · exact h i hk
  · obtain rfl : i = k := by omega
    exact h1
theorem noneS_any {p : ByteArray → Bool} {L : List ByteArray} (h : NoneS p L L.length) : L.any p = false := by
  rw [List.any_eq_false]
  intro x hx
  obtain ⟨i, hi, rfl⟩ := List.getElem_of_mem hx
  rw [st_get hi, h i hi]
  simp
theorem anyS_at {p : ByteArray → Bool} {L : List ByteArray} {k : Nat} (hk : k < L.length) (h : p (st L k) = true) : L.any p = true := by
  rw [List.any_eq_true]
  exact ⟨L[k], List.getElem_mem hk, by rw [st_get hk]; exact h⟩

/-- What the function value gives at a string. -/
def PredS (f : Nat) (p : ByteArray → Bool) : Prop := ∀ s W, s.size ≤ 140737488355328 → Calls Tryz.prog f #[.string s] W fun e W' => e = .returned (.bool (p s)) ∧ Grew W W'

theorem indexFuncS_c (v : Value) (L : List ByteArray) (f : Nat) (p : ByteArray → Bool) (w : World) (h : Strs w v L) (hfit : Fits L) (hf : PredS f p) (eg : ∀ args w, (callFunc f args).run Tryz.prog w = .ok (.enter f args) w) :
    Calls Tryz.prog 167 #[v, .func (.func f) #[] #[]] w fun e w' => ∃ r : Int, e = .returned (.int .i64 r) ∧ Grew w w' ∧ decide (0 ≤ r) = L.any p := by
  rcases h.open_ with ⟨rfl, rfl⟩ | ⟨b, o, c, rfl, hc, hm, hb, hcell⟩
  · rw [noneS_any (NoneS.zero _ _)]
    clear h hf hfit
    go_enter Tryz.func167, Tryz.ntmps167
    go_wp2_with fail
    refine wp_loop_rounds 1 ?_; rw [rounds_succ]
    go_wp2_with fail
    go_ret
    exact ⟨_, rfl, Grew.refl _, rfl⟩
  obtain ⟨R, hR⟩ : ∃ R, R = L.any p := ⟨_, rfl⟩
  rw [← hR]
  have HA := Lib.hid (fun k hk h => hR.trans (@anyS_at p L k hk h))
  have HZ := Lib.hid (fun h => hR.trans (@noneS_any p L h))
  have HC := Lib.hid hcell
  have HF := Lib.hid hf
  unfold Fits at hfit
  have HT := Lib.hid hfit
  clear hcell h hf hR hfit
  generalize hN : L.length = n at *
  clear hN
  go_enter Tryz.func167, Tryz.ntmps167
  go_wp2_with fail
  go_loopw [5, 8] (fun _ i wr => ∃ j : Nat, j ≤ n ∧ i = .int .i64 j ∧ Grew w wr ∧ Hid (NoneS p L j)) (fun _ i _ => n - (intOf i).toNat)
  case atStart => exact ⟨0, Nat.zero_le _, rfl, Grew.refl _, NoneS.zero _ _⟩
  case round =>
    obtain ⟨j, hj, rfl, hB, HJ⟩ := hrel
    by_cases hlt : j < n
    · have k1 := HC.out j hlt _ hB
      have hz := HT.out j hlt
      have hA := Lib.hid (HA.out j hlt)
      have hS := Lib.hid (fun h => HJ.out.succ (k := j) h)
      generalize st L j = x at *
      go_wp2_with fail
      go_at_fn f
      refine (HF.out x _ (by omega)).mono ?_
      rintro e w1 ⟨rfl, hg1⟩
      have hB1 := hB.trans hg1
      cases hp : p x with
      | true =>
        have hv := hA.out hp
        go_wp2_with fail
        go_ret
        exact ⟨_, rfl, hB1, by rw [hv]; simp⟩
      | false =>
        have hs := Lib.hid (hS.out hp)
        go_wp2_with fail
        go_roundw
        case rel => exact ⟨j + 1, by omega, by go_num, hB1, hs⟩
        case measure => simp [intOf]; omega
    · obtain rfl : j = n := by omega
      have hv := Lib.hid (HZ.out HJ.out)
      go_wp2_with fail
      go_ret
      exact ⟨_, rfl, hB, by rw [hv.out]; rfl⟩

theorem containsFuncS_c (v : Value) (L : List ByteArray) (f : Nat) (p : ByteArray → Bool) (w : World) (h : Strs w v L) (hfit : Fits L) (hf : PredS f p) (eg : ∀ args w, (callFunc f args).run Tryz.prog w = .ok (.enter f args) w) :
    Calls Tryz.prog 158 #[v, .func (.func f) #[] #[]] w fun e w' => e = .returned (.bool (L.any p)) ∧ Grew w w' := by
  have HI := Lib.hid (indexFuncS_c v L f p w h hfit hf eg)
  clear h hf eg hfit
  generalize L.any p = R at *
  go_enter Tryz.func158, Tryz.ntmps158
  go_wp2_with fail
  refine HI.out.mono ?_
  rintro e w1 ⟨r, rfl, hg1, hr⟩
  go_wp2_with fail
  go_ret
  exact ⟨by rw [← hr]; rfl, hg1⟩
end Go.Proofs.YtofeeenjlaljpaaGreat

/- l25Formula of the reference. -/
namespace Go.Proofs.YtofeeenjlaljpaaGreat
open Go.RowKit

theorem l25Formula_c (s : ByteArray) (w : World) (hs : s.size ≤ 140737488355328) :
    Calls Tryz.prog 46 #[.string s] w (GivesP w s) := by
  have HG := fun w => l02Good_c s w hs
  have hn := Fm.pf_len s
  unfold GivesP gp
  unfold GivesG at HG
  generalize (Fm.pf s).1 = xs at *
  have HP := Lib.hid (fun v w h => l02Plain_c v xs w h (by omega))
  generalize anyP isBD xs = q at *
  cases hg : gd s with
  | true =>
    rw [hg] at HG
    replace HG := Lib.hid HG
    clear hg
    go_enter Tryz.func46, Tryz.ntmps46
    go_wp2_with fail
    refine (HG.out _).mono ?_
    rintro e w1 ⟨v1, rfl, ho1, hg1⟩
    go_wp2_with fail
    refine (HP.out _ _ ho1.nodes).mono ?_
    rintro e w2 ⟨rfl, hg2⟩
    go_wp2_with fail
    go_ret2
    exact ⟨_, rfl, ho1.grew hg2, hg1.trans hg2⟩
  | false =>
    rw [hg] at HG
    replace HG := Lib.hid HG
    clear hg
    go_enter Tryz.func46, Tryz.ntmps46
    go_wp2_with fail
    refine (HG.out _).mono ?_
    rintro e w1 ⟨v1, rfl, ho1, hg1⟩
    go_wp2_with fail
    go_ret2
    exact ⟨_, rfl, ho1, hg1⟩
end Go.Proofs.YtofeeenjlaljpaaGreat

/- A predicate on strings: IndexFunc, ContainsFunc; assumption lists: isAssumptionList of the program, l25List of the reference. -/
namespace Go.Proofs.YtofeeenjlaljpaaGreat
open Go.RowKit

/-- Is it an assumption list? -/
noncomputable def asl (L : List ByteArray) : Bool := decide (L.length ≤ 12) && !L.any fun s => !gp s
theorem asl_map {L : List ByteArray} (h : asl L = true) : L.length ≤ 12 ∧ ∀ s ∈ L, gp s = true := by
  unfold asl at h
  simp only [Bool.and_eq_true, decide_eq_true_eq, Bool.not_eq_true', List.any_eq_false] at h
  exact ⟨h.1, fun s hs => by simpa using h.2 s hs⟩

theorem isAssumptionList1_ok : PredS 159 (fun s => !gp s) := by
  intro s w hs
  have HP := Lib.hid (fun w => isPlainText_c s w hs)
  show Calls _ _ _ _ (fun e W' => e = .returned (.bool (!gp s)) ∧ Grew w W')
  generalize gp s = q at *
  go_enter Tryz.func159, Tryz.ntmps159
  go_wp2_with fail
  refine (HP.out _).mono ?_
  rintro e w1 ⟨rfl, hg1⟩
  go_wp2_with fail
  go_ret
  exact ⟨rfl, hg1⟩

theorem isAssumptionList_c (v : Value) (L : List ByteArray) (w : World) (h : Strs w v L) (hfit : Fits L) :
    Calls Tryz.prog 135 #[v] w fun e w' => e = .returned (.bool (asl L)) ∧ Grew w w' := by
  unfold asl
  have HC := Lib.hid (fun w h => containsFuncS_c v L _ _ w h hfit isAssumptionList1_ok (enters_of Tryz.func159 (by kernel_rfl) rfl))
  obtain ⟨A, c, rfl⟩ := strs_slice h
  have HN := Lib.hid h
  clear h hfit
  by_cases hl : L.length ≤ 12
  · rw [decide_eq_true hl, Bool.true_and]
    generalize (L.any fun s => !gp s) = q at *
    generalize L.length = n at *
    go_enter Tryz.func135, Tryz.ntmps135
    go_wp2_with fail
    refine (HC.out _ HN.out).mono ?_
    rintro e w1 ⟨rfl, hg1⟩
    go_wp2_with fail
    go_ret
    exact ⟨rfl, hg1⟩
  · rw [decide_eq_false hl, Bool.false_and]
    clear HC HN
    generalize L.length = n at *
    go_enter Tryz.func135, Tryz.ntmps135
    go_wp2_with fail
    go_ret
    exact ⟨rfl, Grew.refl _⟩

theorem l25List_c (v : Value) (L : List ByteArray) (w : World) (h : Strs w v L) (hfit : Fits L) :
    Calls Tryz.prog 132 #[v] w fun e w' => e = .returned (.bool (asl L)) ∧ Grew w w' := by
  unfold asl
  rcases h.open_ with ⟨rfl, rfl⟩ | ⟨b, o, c, rfl, hc, hm, hb, hcell⟩
  · clear h hfit
    go_enter Tryz.func132, Tryz.ntmps132
    go_wp2_with fail
    refine wp_loop_rounds 1 ?_; rw [rounds_succ]
    go_wp2_with fail
    go_ret
    exact ⟨rfl, Grew.refl _⟩
  by_cases hl : L.length ≤ 12
  · rw [decide_eq_true hl, Bool.true_and]
    obtain ⟨R, hR⟩ : ∃ R, R = (L.any fun s => !gp s) := ⟨_, rfl⟩
    rw [← hR]
    have HA := Lib.hid (fun k hk h => hR.trans (@anyS_at (fun s => !gp s) L k hk h))
    have HZ := Lib.hid (fun h => hR.trans (@noneS_any (fun s => !gp s) L h))
    have HC := Lib.hid hcell
    unfold Fits at hfit
    have HT := Lib.hid hfit
    clear hcell h hR hfit
    generalize hN : L.length = n at *
    clear hN
    go_enter Tryz.func132, Tryz.ntmps132
    go_wp2_with fail
    go_loopw [3] (fun i wr => ∃ j : Nat, j ≤ n ∧ i = .int .i64 j ∧ Grew w wr ∧ Hid (NoneS (fun s => !gp s) L j)) (fun i _ => n - (intOf i).toNat)
    case atStart => exact ⟨0, Nat.zero_le _, rfl, Grew.refl _, NoneS.zero _ _⟩
    case round =>
      obtain ⟨j, hj, rfl, hB, HJ⟩ := hrel
      by_cases hlt : j < n
      · have k1 := HC.out j hlt _ hB
        have hz := HT.out j hlt
        have hA := Lib.hid (HA.out j hlt)
        have hS := Lib.hid (fun h => HJ.out.succ (k := j) h)
        have HF := Lib.hid (fun w => l25Formula_c (st L j) w (by omega))
        unfold GivesP at HF
        generalize st L j = x at *
        generalize (Fm.pf x).1 = xs at *
        cases hp : gp x with
        | true =>
          rw [hp] at HF
          have hs := Lib.hid (hS.out (by simp [hp]))
          clear hp
          go_wp2_with fail
          refine (HF.out _).mono ?_
          rintro e w1 ⟨u, rfl, ho1, hg1⟩
          have hB1 := hB.trans hg1
          go_wp2_with fail
          go_roundw
          case rel => exact ⟨j + 1, by omega, by go_num, hB1, hs⟩
          case measure => simp [intOf]; omega
        | false =>
          rw [hp] at HF
          have hv := Lib.hid (hA.out (by simp [hp]))
          clear hp
          go_wp2_with fail
          refine (HF.out _).mono ?_
          rintro e w1 ⟨u, rfl, ho1, hg1⟩
          have hB1 := hB.trans hg1
          go_wp2_with fail
          go_ret
          exact ⟨by rw [hv.out]; rfl, hB1⟩
      · obtain rfl : j = n := by omega
        have hv := Lib.hid (HZ.out HJ.out)
        go_wp2_with fail
        go_ret
        exact ⟨by rw [hv.out]; rfl, hB⟩
  · rw [decide_eq_false hl, Bool.false_and]
    clear hcell h hfit
    generalize L.length = n at *
    go_enter Tryz.func132, Tryz.ntmps132
    go_wp2_with fail
    go_ret
    exact ⟨rfl, Grew.refl _⟩
end Go.Proofs.YtofeeenjlaljpaaGreat

/- When a step of a deduction is correct. No program is in sight. -/
namespace Go.Proofs.YtofeeenjlaljpaaGreat
open Go.RowKit

/-- What a step concludes: the assumptions, the conclusion. -/
abbrev Jg := List ByteArray × ByteArray
def jd (x : Dd) : Jg := (x.2.2.1, x.2.2.2.1)
/-- The parts of a formula with two parts. -/
def lft : Fm.Tree → Fm.Tree
  | .and p _ => p
  | .or p _ => p
  | .imp p _ => p
  | t => t
def rgt : Fm.Tree → Fm.Tree
  | .and _ q => q
  | .or _ q => q
  | .imp _ q => q
  | t => t
/-- The kind of the formula of a text, the texts of its parts. -/
noncomputable def kT (s : ByteArray) : Int := kindOf (fo s)
noncomputable def pl (s : ByteArray) : ByteArray := tx (lft (fo s))
noncomputable def pr (s : ByteArray) : ByteArray := tx (rgt (fo s))
def txF : ByteArray := ⟨#[70]⟩

/-- A rule that puts formulas together. -/
def introP (x : Dd) (J : List Jg) : Prop :=
  (x.1 = 1 ∧ (0 ≤ x.2.2.2.2 ∧ x.2.2.2.2 ≤ (x.2.2.1.length : Int) - 1) ∧ st x.2.2.1 x.2.2.2.2.toNat = x.2.2.2.1 ∧ J = []) ∨
  (x.1 = 2 ∧ J = [(x.2.2.1, txF)]) ∨
  (x.1 = 3 ∧ kT x.2.2.2.1 = 2 ∧ J = [(x.2.2.1, pl x.2.2.2.1), (x.2.2.1, pr x.2.2.2.1)]) ∨
  (x.1 = 6 ∧ kT x.2.2.2.1 = 3 ∧ J = [(x.2.2.1, pl x.2.2.2.1)]) ∨
  (x.1 = 7 ∧ kT x.2.2.2.1 = 3 ∧ J = [(x.2.2.1, pr x.2.2.2.1)]) ∨
  (x.1 = 9 ∧ kT x.2.2.2.1 = 4 ∧ J = [(x.2.2.1 ++ [pl x.2.2.2.1], pr x.2.2.2.1)])
/-- A rule that takes formulas apart. -/
def elimP (x : Dd) (J : List Jg) : Prop :=
  (x.1 = 4 ∧ ∃ D, J = [(x.2.2.1, D)] ∧ kT D = 2 ∧ pl D = x.2.2.2.1) ∨
  (x.1 = 5 ∧ ∃ D, J = [(x.2.2.1, D)] ∧ kT D = 2 ∧ pr D = x.2.2.2.1) ∨
  (x.1 = 8 ∧ ∃ D, kT D = 3 ∧ J = [(x.2.2.1, D), (x.2.2.1 ++ [pl D], x.2.2.2.1), (x.2.2.1 ++ [pr D], x.2.2.2.1)]) ∨
  (x.1 = 10 ∧ ∃ D, kT D = 4 ∧ pr D = x.2.2.2.1 ∧ J = [(x.2.2.1, D), (x.2.2.1, pl D)])
/-- What the premises conclude. -/
def given (bef : List Dd) (P : List Int) : List Jg := P.map fun k => jd (bef.getD k.toNat (0, [], [], ByteArray.empty, 0))
/-- A correct step behind others. -/
def goodP (bef : List Dd) (x : Dd) : Prop :=
  (asl x.2.2.1 = true ∧ gp x.2.2.2.1 = true ∧ (x.1 = 1 ∨ x.2.2.2.2 = 0)) ∧ (∀ k ∈ x.2.1, 0 ≤ k ∧ k ≤ (bef.length : Int) - 1) ∧ (introP x (given bef x.2.1) ∨ elimP x (given bef x.2.1))
noncomputable def dcd (p : Prop) : Bool := @decide p (Classical.propDecidable _)
theorem dcd_true {p : Prop} (h : p) : dcd p = true := @decide_eq_true _ (Classical.propDecidable _) h
theorem dcd_false {p : Prop} (h : ¬ p) : dcd p = false := @decide_eq_false _ (Classical.propDecidable _) h
theorem of_dcd {p : Prop} (h : dcd p = true) : p := @of_decide_eq_true _ (Classical.propDecidable _) h
theorem not_dcd {p : Prop} (h : dcd p = false) : ¬ p := @of_decide_eq_false _ (Classical.propDecidable _) h
theorem dcd_congr {p q : Prop} (h : p ↔ q) : dcd p = dcd q := by rw [propext h]
/-- The first of the first n steps that is not correct, or -1. -/
noncomputable def fbd (xs : List Dd) : Nat → Int
  | 0 => -1
  | n + 1 => if 0 ≤ fbd xs n then fbd xs n else if dcd (∃ x, xs[n]? = some x ∧ goodP (xs.take n) x) then -1 else n
theorem fbd_bad {xs : List Dd} {n m : Nat} (h : fbd xs n = -1) (hb : ¬ ∃ x, xs[n]? = some x ∧ goodP (xs.take n) x) (hm : n < m) : fbd xs m = n := by
  induction m with
  | zero => omega
  | succ m ih =>
    rw [fbd]
    rcases Nat.lt_or_ge n m with hk | hk
    · rw [ih hk, if_pos (by omega)]
    · obtain rfl : n = m := by omega
      rw [h, if_neg (by omega), dcd_false hb]; rfl
theorem fbd_good {xs : List Dd} {n : Nat} {x : Dd} (h : fbd xs n = -1) (hx : xs[n]? = some x) (hg : goodP (xs.take n) x) : fbd xs (n + 1) = -1 := by
  rw [fbd, h, if_neg (by omega), dcd_true ⟨x, hx, hg⟩]; rfl
theorem fbd_all {xs : List Dd} {n : Nat} (h : fbd xs n = -1) : ∀ i, i < n → ∃ x, xs[i]? = some x ∧ goodP (xs.take i) x := by
  induction n with
  | zero => intro i hi; omega
  | succ n ih =>
    intro i hi
    rw [fbd] at h
    split at h
    · omega
    · have h0 : fbd xs n = -1 := by
        rename_i h1
        have : ∀ m, fbd xs m = -1 ∨ 0 ≤ fbd xs m := by
          intro m
          induction m with
          | zero => exact .inl rfl
          | succ m ihm =>
            rw [fbd]
            split
            · exact .inr ‹_›
            · split
              · exact .inl rfl
              · exact .inr (by omega)
        exact (this n).resolve_right h1
      split at h
      · rename_i h2
        rcases Nat.lt_or_ge i n with hk | hk
        · exact ih h0 i hk
        · obtain rfl : i = n := by omega
          exact of_dcd h2
      · omega
/-- The first steps conclude formulas. -/
theorem fbd_plain {xs : List Dd} {n : Nat} (h : fbd xs n = -1) : ∀ y ∈ xs.take n, gp y.2.2.2.1 = true := by
  intro y hy
  obtain ⟨i, hi, rfl⟩ := List.getElem_of_mem hy
  have hi2 : i < n := by simp at hi; omega
  obtain ⟨x, hx, hg⟩ := fbd_all h i hi2
  have : (xs.take n)[i] = x := by
    rw [List.getElem_take]
    exact (List.getElem?_eq_some_iff.1 hx).2
  rw [this]
  exact hg.1.2.1
end Go.Proofs.YtofeeenjlaljpaaGreat

/- Formulas of two parts. -/
namespace Go.Proofs.YtofeeenjlaljpaaGreat
open Go.RowKit

/-- The formula has two parts. -/
def TwoF (A p q : Fm.Tree) : Prop := Fm.enc A = (kindOf A, 0) :: (Fm.enc p ++ Fm.enc q)
theorem TwoF.len {A p q : Fm.Tree} (h : TwoF A p q) : (Fm.enc A).length = 1 + (Fm.enc p).length + (Fm.enc q).length := by rw [h]; simp; omega
end Go.Proofs.YtofeeenjlaljpaaGreat

/- The parts of a formula by their texts: l25Parts of the reference. -/
namespace Go.Proofs.YtofeeenjlaljpaaGreat
open Go.RowKit

theorem l25Parts_yes (k : Int) (A p q : Fm.Tree) (w : World) (hA : FmOk A) (hk : kindOf A = k) (h2 : TwoF A p q) :
    Calls Tryz.prog 56 #[.string (tx A), .int .i64 k] w fun e w' => e = .returned (.tuple #[.string (tx p), .string (tx q), .bool true]) ∧ Grew w w' := by
  have KA := fun w => l25Formula_c (tx A) w (by have := tx_size hA.1; omega)
  unfold GivesP at KA
  rw [gp_tx hA, tx_pf hA.1] at KA
  replace KA := Lib.hid KA
  have hl := h2.len
  have hA1 := hA.1
  have KL := Lib.hid (fun v w h => l02Left_c v (Fm.enc A) p w h (by omega) (at_first h2))
  have KR := Lib.hid (fun v w h => l02Right_c v (Fm.enc A) p q w h (by omega) (at_first h2) (at_second h2) hl)
  have KP := Lib.hid (fun v w h => l02Text_c p v w h (by omega))
  have KQ := Lib.hid (fun v w h => l02Text_c q v w h (by omega))
  have e1 : bs (Fm.txt p 0) = tx p := rfl
  have e2 : bs (Fm.txt q 0) = tx q := rfl
  unfold Says at KP KQ
  rw [e1] at KP
  rw [e2] at KQ
  clear e1 e2 hl
  go_enter Tryz.func56, Tryz.ntmps56
  go_wp2_with fail
  refine (KA.out _).mono ?_
  rintro e w1 ⟨v1, rfl, ho1, hg1⟩
  have HA1 := Lib.hid ho1.nodes
  obtain ⟨b1, o1, c1, rfl, hc1, hm1, k1⟩ := nodes_head ho1.nodes
  rw [hk] at k1
  clear ho1
  have r1 := Grew.refl w1
  have d1 := r1.drew
  have hpos := Fm.enc_pos A
  go_wp2_with fail
  refine (KL.out _ _ HA1.out).mono ?_
  rintro e w2 ⟨v2, rfl, hn2, hg2⟩
  have H2 := Lib.hid hn2
  obtain ⟨A2, c2, rfl⟩ := nodes_slice hn2
  clear hn2
  go_wp2_with fail
  refine (KP.out _ _ H2.out).mono ?_
  rintro e w3 ⟨rfl, hg3⟩
  have g13 := hg2.trans hg3
  go_wp2_with fail
  refine (KR.out _ _ (HA1.out.grew g13)).mono ?_
  rintro e w4 ⟨v4, rfl, hn4, hg4⟩
  have H4 := Lib.hid hn4
  obtain ⟨A4, c4, rfl⟩ := nodes_slice hn4
  clear hn4
  go_wp2_with fail
  refine (KQ.out _ _ H4.out).mono ?_
  rintro e w5 ⟨rfl, hg5⟩
  go_wp2_with fail
  go_ret3
  exact ⟨rfl, ((hg1.trans g13).trans hg4).trans hg5⟩

theorem l25Parts_no (k : Int) (A : Fm.Tree) (w : World) (hA : FmOk A) (hk : kindOf A ≠ k) :
    Calls Tryz.prog 56 #[.string (tx A), .int .i64 k] w fun e w' => e = .returned (.tuple #[.string ByteArray.empty, .string ByteArray.empty, .bool false]) ∧ Grew w w' := by
  have KA := fun w => l25Formula_c (tx A) w (by have := tx_size hA.1; omega)
  unfold GivesP at KA
  rw [gp_tx hA, tx_pf hA.1] at KA
  replace KA := Lib.hid KA
  have hA1 := hA.1
  have hkk : (kindOf A != k) = true := by simpa using hk
  go_enter Tryz.func56, Tryz.ntmps56
  go_wp2_with fail
  refine (KA.out _).mono ?_
  rintro e w1 ⟨v1, rfl, ho1, hg1⟩
  have HA1 := Lib.hid ho1.nodes
  obtain ⟨b1, o1, c1, rfl, hc1, hm1, k1⟩ := nodes_head ho1.nodes
  clear ho1
  have r1 := Grew.refl w1
  have d1 := r1.drew
  have hpos := Fm.enc_pos A
  generalize kindOf A = kk at *
  go_wp2_with fail
  go_ret3
  exact ⟨rfl, hg1⟩
end Go.Proofs.YtofeeenjlaljpaaGreat

/- Rows of slices of nodes of the call's own: an append of one slice. -/
namespace Go.Proofs.YtofeeenjlaljpaaGreat
open Go.RowKit
open Fm (Nd)

/-- A row of slices of the call's own. -/
def OwnV (w : World) (B : Nat) (v : Value) (us : List Value) : Prop := w.ownsRow B 56 1 v us.length us

theorem own_app {w w' : World} {B B' : Nat} {u v : Value} {xs : List Nd} {us : List Value} (h : Own w B u xs) (hv : OwnV w B' v us) (hg : w.grownBy w' v.ownBlock) : Own w' B u xs := by
  rcases hv.2 with ⟨rfl, _⟩ | ⟨g, cap, cur, rfl, _, hh, _⟩
  · exact own_grew h (by
      have hg' : w.grownBy w' none := hg
      exact ⟨hg'.os, hg'.tape, hg'.output, hg'.size, fun i hi => hg'.block i hi (by simp)⟩)
  · exact own_only h (show Only g w w' from hg) (own_ne h hh (by decide))

theorem infoSl : (Tryz.prog.info? 56).map (fun i => (i.zero, i.size, i.bytes)) = some (some (.slice none 0 0), 1, 24) := by kernel_rfl

theorem wpList_appV {ops : Array Oper} {rest : List Oper} {o : Oper} {a : Act} {Q : Exit → Act → World → Prop} {w w0 : World} (s x : Operand) (hgd : o.guard = none)
    (ho : o.op = .call { callee := .builtin .append, args := #[s, x], argTypes := #[108, 108] })
    (v : Value) (us : List Value) (hs : a.eval s = v) (hown : OwnV w w0.heap.size v us) (hg : Grew w0 w) (vx u : Value) (hx : a.eval x = vx) (hr : Rd w 1 vx 1 [u]) (h1 : u.oneCell' = true) (hn : us.length ≤ 1048576)
    (h : ∀ v' w', OwnV w' w0.heap.size v' (us ++ [u]) → Grew w0 w' → w.grownBy w' v.ownBlock → wpList Tryz.prog ops Q rest (a.put o.dst v') w') : wpList Tryz.prog ops Q (o :: rest) a w := by
  obtain ⟨i0, hi0, hz0, hz1, hz2⟩ := info_parts infoSl
  refine wpList_append_rd w hgd s x _ ho w0.heap.size 56 i0 _ 1 24 Tryz.underlying108 hi0 hz0 hz1 hz2 rfl (by omega) v us.length us hs hown vx 1 [u] hx hr (by simpa using h1) (by unfold maxLen; omega) (by omega) hg.size ?_
  intro v' w' h1 h2 h3
  refine h v' w' ?_ (hg.grown h2 fun k hk => (hown.lt k hk).1) h2
  unfold OwnV
  rw [List.length_append]
  exact h1

theorem own_one {w : World} {B : Nat} {u : Value} {xs : List Nd} (h : Own w B u xs) : u.oneCell' = true := by
  obtain ⟨A, c, rfl⟩ := nodes_slice h.nodes
  rfl
theorem rd_lit (w : World) (u : Value) (t : TypeId) : Rd (w.alloc (.cells #[u] t)) 1 (.slice (some ⟨w.heap.size, 0, none⟩) 1 1) 1 [u] := by
  refine ⟨rfl, by omega, .inr ⟨w.heap.size, 0, 1, rfl, by omega, by omega, by simp, fun j x hx => ?_⟩⟩
  have hj : j = 0 := by
    have := (List.getElem?_eq_some_iff.1 hx).1
    simp at this
    omega
  subst hj
  simp at hx
  subst hx
  simp

theorem own_empty (w : World) : OwnV (w.alloc (.cells #[] 56)) w.heap.size (.slice (some ⟨w.heap.size, 0, none⟩) 0 0) [] :=
  World.ownsRow_lit (e := 56) (size := 1) w #[] 0 (Nat.le_refl _) (by omega) rfl
end Go.Proofs.YtofeeenjlaljpaaGreat

/- The parts of a formula: parts, partTexts of the program. -/
namespace Go.Proofs.YtofeeenjlaljpaaGreat
open Go.RowKit

/-- 'out = append(out, s)', out a row of strings of the call's own. -/
theorem wpList_appStr {ops : Array Oper} {rest : List Oper} {o : Oper} {a : Act} {Q : Exit → Act → World → Prop} {w w0 : World} (s x : Operand) (hgd : o.guard = none)
    (ho : o.op = .call { callee := .builtin .append, args := #[s, x], argTypes := #[24, 24] })
    (v : Value) (L : List ByteArray) (hs : a.eval s = v) (hown : OwnS w w0.heap.size v L) (hg : Grew w0 w) (vx : Value) (k : ByteArray) (hx : a.eval x = vx) (hr : Rd w 1 vx 1 [.string k]) (hn : L.length ≤ 1048576)
    (h : ∀ v' w', OwnS w' w0.heap.size v' (L ++ [k]) → Grew w0 w' → w.grownBy w' v.ownBlock → wpList Tryz.prog ops Q rest (a.put o.dst v') w') : wpList Tryz.prog ops Q (o :: rest) a w := by
  obtain ⟨i0, hi0, hz0, hz1, hz2⟩ := info_parts Tryz.infoStr
  refine wpList_append_rd w hgd s x _ ho w0.heap.size 9 i0 _ 1 16 Tryz.underlying24 hi0 hz0 hz1 hz2 rfl (by omega) v L.length (scells L) hs hown vx 1 [.string k] hx hr (by simp [Value.oneCell']) (by unfold maxLen; omega) (by omega) hg.size ?_
  intro v' w' h1 h2 h3
  refine h v' w' ?_ (hg.grown h2 fun k hk => (hown.lt k hk).1) h2
  unfold OwnS
  rw [List.length_append, scells_append]
  exact h1

/-- A slice of two slices that read as the two parts. -/
def Two (w : World) (v : Value) (p q : Fm.Tree) : Prop := ∃ g u1 u2, v = .slice (some ⟨g, 0, none⟩) 2 2 ∧ (∀ W, Grew w W → W.cell? ⟨g, 0, none⟩ = some u1) ∧ (∀ W, Grew w W → W.cell? ⟨g, 1, none⟩ = some u2) ∧ Nodes w u1 (Fm.enc p) ∧ Nodes w u2 (Fm.enc q)

theorem parts_two (v : Value) (A p q : Fm.Tree) (w : World) (h : Nodes w v (Fm.enc A)) (hl : (Fm.enc A).length ≤ 40) (h2 : TwoF A p q) (hk : kindOf A = 2 ∨ kindOf A = 3 ∨ kindOf A = 4) :
    Calls Tryz.prog 116 #[v] w fun e w' => ∃ u, e = .returned u ∧ Two w' u p q ∧ Grew w w' := by
  have HH := Lib.hid h
  obtain ⟨b, o, c, rfl, hc, hm, k0⟩ := nodes_head h
  have K1 := Lib.hid (fun W (hW : Grew w W) => first_c _ (Fm.enc A) p W (h.grew hW) (by omega) (at_first h2))
  have K2 := Lib.hid (fun W (hW : Grew w W) => second_c _ (Fm.enc A) p q W (h.grew hW) (by omega) (at_first h2) (at_second h2))
  have KO := Lib.hid (fun w => partsOf_c (kindOf A) w)
  have ha : (Fm.arity (kindOf A) : Int) = 2 := by unfold Fm.arity; rw [if_pos hk]; rfl
  rw [ha] at KO
  have r0 := Grew.refl w
  have hpos := Fm.enc_pos A
  clear h h2 hk ha HH
  generalize kindOf A = kk at *
  generalize (Fm.enc A).length = n at *
  go_enter Tryz.func116, Tryz.ntmps116
  go_wp2_with fail
  refine (KO.out _).mono ?_
  rintro e w1 ⟨rfl, hg1⟩
  go_wp2_with fail
  refine (K1.out _ hg1).mono ?_
  rintro e w2 ⟨u1, rfl, hn1, hg2⟩
  have H1 := Lib.hid hn1
  obtain ⟨A1, c1, rfl⟩ := nodes_slice hn1
  clear hn1
  have g2 := hg1.trans hg2
  go_wp2_with fail
  refine (K2.out _ g2).mono ?_
  rintro e w3 ⟨u2, rfl, hn2, hg3⟩
  have H2 := Lib.hid hn2
  obtain ⟨A2, c2, rfl⟩ := nodes_slice hn2
  clear hn2
  go_wp2_with fail
  go_ret
  have hal := (Grew.refl w3).alloc (.cells #[.slice A1 (Fm.enc p).length c1, .slice A2 (Fm.enc q).length c2] 56)
  exact ⟨_, rfl, ⟨w3.heap.size, _, _, rfl, fun W hW => (hW.cell (by simp)).trans (by simp), fun W hW => (hW.cell (by simp)).trans (by simp), (H1.out.grew hg3).grew hal, H2.out.grew hal⟩, (g2.trans hg3).trans hal⟩

theorem parts_none (v : Value) (A : Fm.Tree) (w : World) (h : Nodes w v (Fm.enc A)) (hk : kindOf A = 0 ∨ kindOf A = 1) :
    Calls Tryz.prog 116 #[v] w fun e w' => e = .returned (.slice none 0 0) ∧ Grew w w' := by
  obtain ⟨b, o, c, rfl, hc, hm, k0⟩ := nodes_head h
  have KO := Lib.hid (fun w => partsOf_c (kindOf A) w)
  have ha : (Fm.arity (kindOf A) : Int) = 0 := by unfold Fm.arity; rw [if_neg (by omega), if_neg (by omega)]; rfl
  rw [ha] at KO
  have r0 := Grew.refl w
  have hpos := Fm.enc_pos A
  clear h hk ha
  generalize kindOf A = kk at *
  generalize (Fm.enc A).length = n at *
  go_enter Tryz.func116, Tryz.ntmps116
  go_wp2_with fail
  refine (KO.out _).mono ?_
  rintro e w1 ⟨rfl, hg1⟩
  go_wp2_with fail
  go_ret
  exact ⟨rfl, hg1⟩

theorem partTexts_none (v : Value) (A : Fm.Tree) (w : World) (h : Nodes w v (Fm.enc A)) (hk : kindOf A = 0 ∨ kindOf A = 1) :
    Calls Tryz.prog 91 #[v] w fun e w' => e = .returned (.slice none 0 0) ∧ Grew w w' := by
  have KP := Lib.hid (parts_none v A w h hk)
  obtain ⟨b, o, c, rfl, hc, hm, k0⟩ := nodes_head h
  clear h hk k0
  generalize (Fm.enc A).length = n at *
  go_enter Tryz.func91, Tryz.ntmps91
  go_wp2_with fail
  refine KP.out.mono ?_
  rintro e w1 ⟨rfl, hg1⟩
  go_wp2_with fail
  refine wp_loop_rounds 1 ?_; rw [rounds_succ]
  go_wp2_with fail
  go_ret
  exact ⟨rfl, hg1⟩

theorem partTexts_two (v : Value) (A p q : Fm.Tree) (w : World) (h : Nodes w v (Fm.enc A)) (hl : (Fm.enc A).length ≤ 40) (h2 : TwoF A p q) (hk : kindOf A = 2 ∨ kindOf A = 3 ∨ kindOf A = 4) :
    Calls Tryz.prog 91 #[v] w (GivesS w [tx p, tx q]) := by
  have KP := Lib.hid (parts_two v A p q w h hl h2 hk)
  have hlen := h2.len
  have K1 := Lib.hid (fun v w h => text0_c p v w h (by omega))
  have K2 := Lib.hid (fun v w h => text0_c q v w h (by omega))
  have e1 : bs (Fm.txt p 0) = tx p := rfl
  have e2 : bs (Fm.txt q 0) = tx q := rfl
  unfold Says at K1 K2
  rw [e1] at K1
  rw [e2] at K2
  obtain ⟨b, o, c, rfl, hc, hm, k0⟩ := nodes_head h
  clear h h2 hk k0 e1 e2 hlen
  generalize (Fm.enc A).length = n at *
  generalize tx p = sp at *
  generalize tx q = sq at *
  go_enter Tryz.func91, Tryz.ntmps91
  go_wp2_with fail
  refine KP.out.mono ?_
  rintro e w1 ⟨u, rfl, ⟨g, u1, u2, rfl, c1, c2, hn1, hn2⟩, hg1⟩
  have H1 := Lib.hid hn1
  have H2 := Lib.hid hn2
  obtain ⟨A1, d1, rfl⟩ := nodes_slice hn1
  obtain ⟨A2, d2, rfl⟩ := nodes_slice hn2
  clear hn1 hn2
  have r1 := Grew.refl w1
  have HO1 := OwnS.nil_ w1 w.heap.size
  go_wp2_with fail
  refine wp_loop_rounds 3 ?_; rw [rounds_succ]
  go_wp2_with fail
  refine (K1.out _ _ H1.out).mono ?_
  rintro e w2 ⟨rfl, hg2⟩
  have hB2 := hg1.trans hg2
  have hO2 := HO1.grew (hg2.trans ((Grew.refl w2).alloc (.cells #[.string sp] 9)))
  go_wp2_with (first | (at_builtin; refine wpList_appStr (w0 := w) _ _ rfl rfl _ [] rfl hO2 (hB2.alloc _) _ sp rfl (rd_lit _ _ _) (by simp) ?_; intro v3 w3 hown3 hg3 hgr3))
  have g13 : Grew w1 w3 := (hg2.trans ((Grew.refl w2).alloc (.cells #[.string sp] 9))).trans (by
    have hg' : (w2.alloc (.cells #[.string sp] 9)).grownBy w3 none := hgr3
    exact ⟨hg'.os, hg'.tape, hg'.output, hg'.size, fun i hi => hg'.block i hi (by simp)⟩)
  clear HO1 hO2 hgr3 hB2
  rw [rounds_succ]
  go_wp2_with fail
  refine (K2.out _ _ (H2.out.grew g13)).mono ?_
  rintro e w4 ⟨rfl, hg4⟩
  have hB4 := hg3.trans hg4
  have hO4 := hown3.grew (hg4.trans ((Grew.refl w4).alloc (.cells #[.string sq] 9)))
  go_wp2_with (first | (at_builtin; refine wpList_appStr (w0 := w) _ _ rfl rfl _ [sp] rfl hO4 (hB4.alloc _) _ sq rfl (rd_lit _ _ _) (by simp) ?_; intro v5 w5 hown5 hg5 hgr5))
  rw [rounds_succ]
  go_wp2_with fail
  go_ret
  exact ⟨_, rfl, hown5, hg5⟩
end Go.Proofs.YtofeeenjlaljpaaGreat

/- The parts of a formula by their texts: parts, partTexts, partsWith of the program. -/
namespace Go.Proofs.YtofeeenjlaljpaaGreat
open Go.RowKit

/-- What partsWith gives. -/
theorem partsWith_two (k : Int) (A p q : Fm.Tree) (w : World) (hA : FmOk A) (h2 : TwoF A p q) (hk : kindOf A = 2 ∨ kindOf A = 3 ∨ kindOf A = 4) :
    Calls Tryz.prog 58 #[.string (tx A), .int .i64 k] w fun e w' => ∃ v, e = .returned (.tuple #[v, .bool (kindOf A == k)]) ∧ OwnS w' w.heap.size v [tx p, tx q] ∧ Grew w w' := by
  have hA1 := hA.1
  have KA := fun w => parsed_c (tx A) w (by have := tx_size hA1; omega)
  rw [tx_pf hA1] at KA
  replace KA := Lib.hid KA
  have KP := Lib.hid (fun v w h => partTexts_two v A p q w h hA1 h2 hk)
  have hpos := Fm.enc_pos A
  clear h2 hk
  go_enter Tryz.func58, Tryz.ntmps58
  go_wp2_with fail
  refine (KA.out _).mono ?_
  rintro e w1 ⟨v1, rfl, ho1, hg1, _⟩
  have HA1 := Lib.hid ho1.nodes
  obtain ⟨b1, o1, c1, rfl, hc1, hm1, k1⟩ := nodes_head ho1.nodes
  clear ho1
  have r1 := Grew.refl w1
  have d1 := r1.drew
  have hz : 0 < (Fm.enc A).length := by omega
  have hz2 : (0 : Int) < ((Fm.enc A).length : Int) := by omega
  have HA2 := Lib.hid (HA1.out.grew d1)
  go_wp2_with fail
  go_region_held3 (fun w' => Grew w1 w') (with_reducible assumption)
    (first | (go_at_call 91; refine (KP.out _ _ HA2.out).mono ?_; rintro e w2 ⟨v2, rfl, ho2, hg2⟩; have hk2 := d1.trans hg2))
  go_wp2_with fail
  go_ret2
  exact ⟨_, rfl, ho2.base (hg1.trans d1).size, hg1.trans hk2⟩
theorem partsWith_none (k : Int) (A : Fm.Tree) (w : World) (hA : FmOk A) (hk : kindOf A = 0 ∨ kindOf A = 1) :
    Calls Tryz.prog 58 #[.string (tx A), .int .i64 k] w fun e w' => e = .returned (.tuple #[.slice none 0 0, .bool (kindOf A == k)]) ∧ Grew w w' := by
  have hA1 := hA.1
  have KA := fun w => parsed_c (tx A) w (by have := tx_size hA1; omega)
  rw [tx_pf hA1] at KA
  replace KA := Lib.hid KA
  have KP := Lib.hid (fun v w h => partTexts_none v A w h hk)
  have hpos := Fm.enc_pos A
  clear hk
  go_enter Tryz.func58, Tryz.ntmps58
  go_wp2_with fail
  refine (KA.out _).mono ?_
  rintro e w1 ⟨v1, rfl, ho1, hg1, _⟩
  have HA1 := Lib.hid ho1.nodes
  obtain ⟨b1, o1, c1, rfl, hc1, hm1, k1⟩ := nodes_head ho1.nodes
  clear ho1
  have r1 := Grew.refl w1
  have d1 := r1.drew
  have hz : 0 < (Fm.enc A).length := by omega
  have hz2 : (0 : Int) < ((Fm.enc A).length : Int) := by omega
  have HA2 := Lib.hid (HA1.out.grew d1)
  go_wp2_with fail
  go_region_held3 (fun w' => Grew w1 w') (with_reducible assumption)
    (first | (go_at_call 91; refine (KP.out _ _ HA2.out).mono ?_; rintro e w2 ⟨rfl, hg2⟩; have hk2 := d1.trans hg2))
  go_wp2_with fail
  go_ret2
  exact ⟨rfl, hg1.trans hk2⟩
end Go.Proofs.YtofeeenjlaljpaaGreat

/- Assumption lists with one more: slices.Clip and behind of the program, l11Copy and l25With of the reference. -/
namespace Go.Proofs.YtofeeenjlaljpaaGreat
open Go.RowKit

/-- 'out = append(out, list...)', out a row of strings of the call's own. -/
theorem wpList_appStrs {ops : Array Oper} {rest : List Oper} {o : Oper} {a : Act} {Q : Exit → Act → World → Prop} {w w0 : World} (s x : Operand) (hgd : o.guard = none)
    (ho : o.op = .call { callee := .builtin .append, args := #[s, x], argTypes := #[24, 24] })
    (v : Value) (L : List ByteArray) (hs : a.eval s = v) (hown : OwnS w w0.heap.size v L) (hg : Grew w0 w) (vx : Value) (M : List ByteArray) (hx : a.eval x = vx) (hr : Strs w vx M) (hn : L.length + M.length ≤ 1048576)
    (h : ∀ v' w', OwnS w' w0.heap.size v' (L ++ M) → Grew w0 w' → w.grownBy w' v.ownBlock → wpList Tryz.prog ops Q rest (a.put o.dst v') w') : wpList Tryz.prog ops Q (o :: rest) a w := by
  obtain ⟨i0, hi0, hz0, hz1, hz2⟩ := info_parts Tryz.infoStr
  refine wpList_append_rd w hgd s x _ ho w0.heap.size 9 i0 _ 1 16 Tryz.underlying24 hi0 hz0 hz1 hz2 rfl (by omega) v L.length (scells L) hs hown vx M.length (scells M) hx hr (scells_one M) (by unfold maxLen; omega) (by omega) hg.size ?_
  intro v' w' h1 h2 h3
  refine h v' w' ?_ (hg.grown h2 fun k hk => (hown.lt k hk).1) h2
  unfold OwnS
  rw [List.length_append, scells_append]
  exact h1
theorem own_emptyS (w : World) : OwnS (w.alloc (.cells #[] 9)) w.heap.size (.slice (some ⟨w.heap.size, 0, none⟩) 0 0) [] :=
  World.ownsRow_lit (e := 9) (size := 1) w #[] 0 (Nat.le_refl _) (by omega) rfl

theorem l11Copy_c (v : Value) (L : List ByteArray) (w : World) (h : Strs w v L) (hn : L.length ≤ 1000) :
    Calls Tryz.prog 37 #[v] w (GivesS w L) := by
  have he := own_emptyS w
  have hg0 := (Grew.refl w).alloc (.cells #[] 9)
  have HV := Lib.hid (h.grew hg0)
  obtain ⟨A, c, rfl⟩ := strs_slice h
  clear h
  go_enter Tryz.func37, Tryz.ntmps37
  go_wp2_with (first | (at_builtin; refine wpList_appStrs (w0 := w) _ _ rfl rfl _ [] rfl he hg0 _ L rfl HV.out (by simp; omega) ?_; intro v1 w1 hown1 hg1 hgr1))
  go_ret
  exact ⟨_, rfl, by simpa using hown1, hg1⟩

theorem l25With_c (v u : Value) (L M : List ByteArray) (w : World) (h : Strs w v L) (hu : Strs w u M) (hn : L.length ≤ 1000) (hm : M.length ≤ 1000) :
    Calls Tryz.prog 157 #[v, u] w (GivesS w (L ++ M)) := by
  have KC := Lib.hid (fun W (hW : Grew w W) => l11Copy_c v L W (h.grew hW) hn)
  have HU := Lib.hid hu
  obtain ⟨A, c, rfl⟩ := strs_slice h
  obtain ⟨A2, c2, rfl⟩ := strs_slice hu
  clear h hu
  go_enter Tryz.func157, Tryz.ntmps157
  go_wp2_with fail
  refine (KC.out _ (Grew.refl w)).mono ?_
  rintro e w1 ⟨v1, rfl, ho1, hg1⟩
  have HU1 := Lib.hid (HU.out.grew hg1)
  go_wp2_with (first | (at_builtin; refine wpList_appStrs (w0 := w) _ _ rfl rfl _ L rfl ho1 hg1 _ M rfl HU1.out (by omega) ?_; intro v2 w2 hown2 hg2 hgr2))
  go_ret
  exact ⟨_, rfl, hown2, hg2⟩

theorem clip_c (A : Option Addr) (n c : Nat) (w : World) (hc : n ≤ c) (_hm : c ≤ 9223372036854775807) :
    Calls Tryz.prog 168 #[.slice A n c] w fun e w' => e = .returned (.slice A n n) ∧ Grew w w' := by
  have h0 : (0 : Int) ≤ (n : Int) := by omega
  have h1 : (n : Int) ≤ (c : Int) := by omega
  go_enter Tryz.func168, Tryz.ntmps168
  go_wp2_with fail
  go_ret
  exact ⟨rfl, Grew.refl _⟩

theorem behind_c (v : Value) (L : List ByteArray) (s : ByteArray) (w : World) (h : Strs w v L) (hn : L.length ≤ 1000) :
    Calls Tryz.prog 160 #[v, .string s] w (GivesS w (L ++ [s])) := by
  obtain ⟨i0, hi0, hz0, hz1, hz2⟩ := info_parts Tryz.infoStr
  have HI := Lib.hid (⟨hi0, hz0, hz1, hz2⟩ : _ ∧ _ ∧ _ ∧ _)
  clear hi0 hz0 hz1 hz2
  have hlit := fun w => rd_lit w (.string s) 9
  rcases h.open_ with ⟨rfl, rfl⟩ | ⟨b, o, c, rfl, hc, hm, hb, hf⟩
  · have KC := Lib.hid (fun w => clip_c none 0 0 w (by omega) (by omega))
    clear h
    have hnil := OwnS.nil_ w w.heap.size
    go_enter Tryz.func160, Tryz.ntmps160
    go_wp2_with fail
    refine (KC.out _).mono ?_
    rintro e w1 ⟨rfl, hg1⟩
    have ho1 := hnil.grew (hg1.trans ((Grew.refl w1).alloc (.cells #[.string s] 9)))
    go_wp2_with (first | (at_builtin; refine wpList_appStr (w0 := w) _ _ rfl rfl _ [] rfl ho1 (hg1.alloc _) _ s rfl (rd_lit _ _ _) (by simp) ?_; intro v2 w2 hown2 hg2 hgr2))
    go_ret
    exact ⟨_, rfl, hown2, hg2⟩
  · have KC := Lib.hid (fun w => clip_c (some ⟨b, o, none⟩) L.length c w hc hm)
    have HF := Lib.hid hf
    clear h hf
    go_enter Tryz.func160, Tryz.ntmps160
    go_wp2_with fail
    refine (KC.out _).mono ?_
    rintro e w1 ⟨rfl, hg1⟩
    have hga := hg1.alloc (.cells #[.string s] 9)
    have hlen : (scells L).length = L.length := by simp [scells]
    go_wp2_with (first | (at_builtin; refine wpList_append_grows _ rfl _ _ _ rfl 9 i0 _ 1 16 Tryz.underlying24 HI.out.1 HI.out.2.1 HI.out.2.2.1 HI.out.2.2.2 rfl (by omega) (some ⟨b, o, none⟩) L.length L.length (scells L) rfl (by intro h; cases h) (by omega) ?_ ⟨w1.heap.size, 0, none⟩ 1 1 [.string s] rfl rfl ?_ (by simp [Value.oneCell']) (by omega) (by unfold maxLen; omega) (by omega) ?_))
    · intro bb hbb j u hj
      cases hbb
      have hjl : j < L.length := by
        have := (List.getElem?_eq_some_iff.1 hj).1
        omega
      rw [scells_at hjl] at hj
      cases hj
      rw [Addr.add_lit]
      exact HF.out j hjl _ hga
    · intro j u hj
      have hj0 : j = 0 := by
        have := (List.getElem?_eq_some_iff.1 hj).1
        simp at this
        omega
      subst hj0
      simp at hj
      subst hj
      rw [Addr.add_lit]
      simp
    · intro v2 w2 hown2 hgr2
      have hg2 : Grew (w1.alloc (.cells #[.string s] 9)) w2 := ⟨hgr2.os, hgr2.tape, hgr2.output, hgr2.size, fun i hi => hgr2.block i hi (by simp)⟩
      have hown3 : OwnS w2 (w1.heap.size + 1) v2 (L ++ [s]) := by
        unfold OwnS
        rw [List.length_append, scells_append]
        exact hown2
      have hown4 := hown3.base (Nat.le_trans hg1.size (Nat.le_succ _))
      have hg3 := hga.trans hg2
      clear hown2 hgr2 hown3
      go_wp2_with fail
      go_ret
      exact ⟨_, rfl, hown4, hg3⟩
end Go.Proofs.YtofeeenjlaljpaaGreat

/- Lists of one and of two strings. -/
namespace Go.Proofs.YtofeeenjlaljpaaGreat
open Go.RowKit

theorem strs_one {w : World} {v : Value} {a : ByteArray} (h : Strs w v [a]) : ∃ b o c, v = .slice (some ⟨b, o, none⟩) 1 c ∧ 1 ≤ c ∧ c ≤ 9223372036854775807 ∧ b < w.heap.size ∧ ∀ W, Grew w W → W.cell? ⟨b, o, none⟩ = some (.string a) := by
  rcases h.open_ with ⟨_, h0⟩ | ⟨b, o, c, rfl, hc, hm, hb, hf⟩
  · cases h0
  · exact ⟨b, o, c, rfl, hc, hm, hb, fun W hW => by simpa [st] using hf 0 (by simp) W hW⟩
theorem strs_two {w : World} {v : Value} {a a2 : ByteArray} (h : Strs w v [a, a2]) : ∃ b o c, v = .slice (some ⟨b, o, none⟩) 2 c ∧ 2 ≤ c ∧ c ≤ 9223372036854775807 ∧ b < w.heap.size ∧ ∀ W, Grew w W → W.cell? ⟨b, o, none⟩ = some (.string a) ∧ W.cell? ⟨b, o + 1, none⟩ = some (.string a2) := by
  rcases h.open_ with ⟨_, h0⟩ | ⟨b, o, c, rfl, hc, hm, hb, hf⟩
  · cases h0
  · exact ⟨b, o, c, rfl, hc, hm, hb, fun W hW => ⟨by simpa [st] using hf 0 (by simp) W hW, by simpa [st] using hf 1 (by simp) W hW⟩⟩

end Go.Proofs.YtofeeenjlaljpaaGreat

/- Lists of one and of two strings; partsWith where the kind is another. -/
namespace Go.Proofs.YtofeeenjlaljpaaGreat
open Go.RowKit

theorem fm_kinds {A : Fm.Tree} (h : FmOk A) : (kindOf A = 0 ∨ kindOf A = 1) ∨ ∃ p q, TwoF A p q ∧ (kindOf A = 2 ∨ kindOf A = 3 ∨ kindOf A = 4) := by
  cases A with
  | var v => exact .inl (.inl rfl)
  | fls => exact .inl (.inr rfl)
  | and p q => exact .inr ⟨p, q, rfl, .inl rfl⟩
  | or p q => exact .inr ⟨p, q, rfl, .inr (.inl rfl)⟩
  | imp p q => exact .inr ⟨p, q, rfl, .inr (.inr rfl)⟩
  | box p =>
    have := anyP_mem.1 h.2 (5, 0) (by simp [Fm.enc])
    exact absurd this (by decide)
  | dia p =>
    have := anyP_mem.1 h.2 (6, 0) (by simp [Fm.enc])
    exact absurd this (by decide)
theorem partsWith_not (k : Int) (A : Fm.Tree) (w : World) (hA : FmOk A) (hk : (kindOf A == k) = false) :
    Calls Tryz.prog 58 #[.string (tx A), .int .i64 k] w fun e w' => ∃ v, e = .returned (.tuple #[v, .bool false]) ∧ (∃ A n c, v = .slice A n c) ∧ Grew w w' := by
  rcases fm_kinds hA with h0 | ⟨p, q, h2, h3⟩
  · refine (partsWith_none k A w hA h0).mono fun e w' h => ?_
    obtain ⟨rfl, hg⟩ := h
    exact ⟨_, by rw [hk], ⟨_, _, _, rfl⟩, hg⟩
  · refine (partsWith_two k A p q w hA h2 h3).mono fun e w' h => ?_
    obtain ⟨v, rfl, ho, hg⟩ := h
    obtain ⟨B, c, rfl⟩ := strs_slice ho.strs
    exact ⟨_, by rw [hk], ⟨_, _, _, rfl⟩, hg⟩

end Go.Proofs.YtofeeenjlaljpaaGreat

/- The parts of a formula by its text, as steps of deductions use them: partsWith of the program, l25Parts of the reference. -/
namespace Go.Proofs.YtofeeenjlaljpaaGreat
open Go.RowKit

theorem two_of {s : ByteArray} (h : gp s = true) (hk : kT s = 2 ∨ kT s = 3 ∨ kT s = 4) : TwoF (fo s) (lft (fo s)) (rgt (fo s)) ∧ FmOk (fo s) ∧ tx (fo s) = s := by
  obtain ⟨h1, h2⟩ := fo_ok h
  refine ⟨?_, h1, h2⟩
  unfold kT at hk
  cases hf : fo s with
  | and p q => rfl
  | or p q => rfl
  | imp p q => rfl
  | var v => rw [hf] at hk; simp [kindOf] at hk
  | fls => rw [hf] at hk; simp [kindOf] at hk
  | box p => rw [hf] at hk; simp [kindOf] at hk
  | dia p => rw [hf] at hk; simp [kindOf] at hk

theorem pw_yes (k : Int) (s : ByteArray) (w : World) (h : gp s = true) (hk : kT s = k) (h3 : k = 2 ∨ k = 3 ∨ k = 4) :
    Calls Tryz.prog 58 #[.string s, .int .i64 k] w fun e w' => ∃ v, e = .returned (.tuple #[v, .bool true]) ∧ OwnS w' w.heap.size v [pl s, pr s] ∧ Grew w w' := by
  obtain ⟨h4, h5, h6⟩ := two_of h (by rw [hk]; exact h3)
  have h7 := partsWith_two k (fo s) (lft (fo s)) (rgt (fo s)) w h5 h4 (by unfold kT at hk; rw [hk]; exact h3)
  rw [h6] at h7
  have h8 : (kindOf (fo s) == k) = true := by unfold kT at hk; rw [hk]; simp
  rw [h8] at h7
  exact h7
theorem pw_no (k : Int) (s : ByteArray) (w : World) (h : gp s = true) (hk : kT s ≠ k) :
    Calls Tryz.prog 58 #[.string s, .int .i64 k] w fun e w' => ∃ v, e = .returned (.tuple #[v, .bool false]) ∧ (∃ A n c, v = .slice A n c) ∧ Grew w w' := by
  obtain ⟨h1, h2⟩ := fo_ok h
  have h7 := partsWith_not k (fo s) w h1 (by unfold kT at hk; simpa using hk)
  rw [h2] at h7
  exact h7
theorem lp_yes (k : Int) (s : ByteArray) (w : World) (h : gp s = true) (hk : kT s = k) (h3 : k = 2 ∨ k = 3 ∨ k = 4) :
    Calls Tryz.prog 56 #[.string s, .int .i64 k] w fun e w' => e = .returned (.tuple #[.string (pl s), .string (pr s), .bool true]) ∧ Grew w w' := by
  obtain ⟨h4, h5, h6⟩ := two_of h (by rw [hk]; exact h3)
  have h7 := l25Parts_yes k (fo s) (lft (fo s)) (rgt (fo s)) w h5 hk h4
  rw [h6] at h7
  exact h7
theorem lp_no (k : Int) (s : ByteArray) (w : World) (h : gp s = true) (hk : kT s ≠ k) :
    Calls Tryz.prog 56 #[.string s, .int .i64 k] w fun e w' => e = .returned (.tuple #[.string ByteArray.empty, .string ByteArray.empty, .bool false]) ∧ Grew w w' := by
  obtain ⟨h1, h2⟩ := fo_ok h
  have h7 := l25Parts_no k (fo s) w h1 hk
  rw [h2] at h7
  exact h7
end Go.Proofs.YtofeeenjlaljpaaGreat

/- Two lists of strings compared: slices.Equal of the program, l01Words and l25Same of the reference. -/
namespace Go.Proofs.YtofeeenjlaljpaaGreat
open Go.RowKit

/-- The first k strings are the same. -/
def AgreeS (xs ys : List ByteArray) (k : Nat) : Prop := ∀ i, i < k → st xs i = st ys i
theorem AgreeS.zero (xs ys : List ByteArray) : AgreeS xs ys 0 := fun i hi => absurd hi (by omega)
theorem AgreeS.succ {xs ys : List ByteArray} {k : Nat} (h : AgreeS xs ys k) (h1 : st xs k = st ys k) : AgreeS xs ys (k + 1) := by
  intro i hi
  rcases Nat.lt_or_ge i k with hk | hk
  · exact h i hk
  · obtain rfl : i = k := by omega
    exact h1
theorem agreeS_all {xs ys : List ByteArray} (hl : xs.length = ys.length) (h : AgreeS xs ys xs.length) : xs = ys := by
  apply List.ext_getElem hl
  intro i h1 h2
  rw [st_get h1, st_get h2]
  exact h i h1
theorem bytes_ne {a b : ByteArray} (h : a ≠ b) : (a.toList == b.toList) = false := by
  cases hq : (a.toList == b.toList) with
  | false => rfl
  | true => exact absurd ((Lib.bytes_beq_iff _ _).1 hq) h

theorem equalS_c (v1 v2 : Value) (xs ys : List ByteArray) (w : World) (h1 : Strs w v1 xs) (h2 : Strs w v2 ys) :
    Calls Tryz.prog 59 #[v1, v2] w fun e w' => e = .returned (.bool (@decide (xs = ys) (Classical.propDecidable _))) ∧ Grew w w' := by
  by_cases hl : xs.length = ys.length
  · rcases h1.open_ with ⟨rfl, rfl⟩ | ⟨b1, o1, c1, rfl, hc1, hm1, hb1, hf⟩
    · obtain rfl : ys = [] := List.eq_nil_of_length_eq_zero (by simpa using hl.symm)
      obtain ⟨A, c, rfl⟩ := strs_slice h2
      simp only [List.length_nil]
      clear hl h1 h2
      go_enter Tryz.func59, Tryz.ntmps59
      go_wp2_with fail
      refine wp_loop_rounds 1 ?_; rw [rounds_succ]
      go_wp2_with fail
      go_ret
      exact ⟨by simp, Grew.refl _⟩
    · rcases h2.open_ with ⟨rfl, rfl⟩ | ⟨b2, o2, c2, rfl, hc2, hm2, hb2, hh⟩
      · obtain rfl : xs = [] := List.eq_nil_of_length_eq_zero (by simpa using hl)
        simp only [List.length_nil]
        clear hl hf h1 h2
        go_enter Tryz.func59, Tryz.ntmps59
        go_wp2_with fail
        refine wp_loop_rounds 1 ?_; rw [rounds_succ]
        go_wp2_with fail
        go_ret
        exact ⟨by simp, Grew.refl _⟩
      · clear h1 h2
        have HE := Lib.hid (fun h => agreeS_all hl h)
        rw [← hl] at hc2 hh ⊢
        have HF := Lib.hid hf
        have HH := Lib.hid hh
        have HX := Lib.hid (fun (h : xs = ys) (i : Nat) => (by rw [h] : st xs i = st ys i))
        obtain ⟨D, hD⟩ : ∃ D, D = @decide (xs = ys) (Classical.propDecidable _) := ⟨_, rfl⟩
        rw [← hD]
        have HD := Lib.hid hD
        clear hl hf hh hD
        generalize hN : xs.length = n at *
        clear hN
        go_enter Tryz.func59, Tryz.ntmps59
        go_wp2_with fail
        go_loopg [4, 13] n (fun k _ i wr => ∃ j : Nat, j ≤ n ∧ k = n - j ∧ i = .int .i64 j ∧ Grew w wr ∧ Hid (AgreeS xs ys j))
        case atStart => exact ⟨0, Nat.zero_le _, by omega, rfl, Grew.refl _, AgreeS.zero _ _⟩
        case round =>
          obtain ⟨j, hj, rfl, rfl, hB, HA⟩ := hrel
          by_cases hlt : j < n
          · have k1 : ∀ W, Grew w W → W.cell? ⟨b1, o1 + j, none⟩ = some (.string (st xs j)) := fun W hW => HF.out j hlt W hW
            have k3 : ∀ W, Grew w W → W.cell? ⟨b2, o2 + j, none⟩ = some (.string (st ys j)) := fun W hW => HH.out j hlt W hW
            by_cases he : st xs j = st ys j
            · have HB := Lib.hid (HA.out.succ he)
              rw [he] at k1
              have hq : ((st ys j).toList != (st ys j).toList) = false := by simp
              clear he HA
              generalize st ys j = z at *
              go_wp2_with fail
              go_quiet (fail)
              go_wp2_with fail
              go_roundg (n - (j + 1))
              case measure => omega
              case rel => exact ⟨j + 1, by omega, rfl, by go_num, hB.drewN _, HB⟩
            · have hv : Hid (D = false) := Lib.hid (by rw [HD.out]; exact @decide_eq_false _ (Classical.propDecidable _) fun h => he (HX.out h j))
              have hb1 := bytes_ne he
              have hq : ((st xs j).toList != (st ys j).toList) = true := by rw [bne, hb1]; rfl
              have hq2 : (!(st xs j).toList == (st ys j).toList) = true := by rw [hb1]; rfl
              clear he HA hb1
              generalize st ys j = z at *
              generalize st xs j = y at *
              go_wp2_with fail
              go_quiet (fail)
              go_wp2_with fail
              go_ret
              rw [hv.out]
              exact ⟨rfl, hB.drewN _⟩
          · have hjn : j = n := by omega
            subst hjn
            have hv : Hid (D = true) := Lib.hid (by rw [HD.out]; exact @decide_eq_true _ (Classical.propDecidable _) (HE.out HA.out))
            go_wp2_with fail
            go_ret
            rw [hv.out]
            exact ⟨rfl, hB⟩
  · have hne : xs ≠ ys := fun h => hl (by rw [h])
    rw [@decide_eq_false _ (Classical.propDecidable _) hne]
    obtain ⟨A, c, rfl⟩ := strs_slice h1
    obtain ⟨B, d, rfl⟩ := strs_slice h2
    have hl' : (((xs.length : Nat) : Int) != ((ys.length : Nat) : Int)) = true := by simp; omega
    clear hl h1 h2 hne
    generalize xs.length = n at *
    generalize ys.length = m at *
    go_enter Tryz.func59, Tryz.ntmps59
    go_wp2_with fail
    go_ret
    exact ⟨rfl, Grew.refl _⟩

theorem l01Words_c (v1 v2 : Value) (xs ys : List ByteArray) (w : World) (h1 : Strs w v1 xs) (h2 : Strs w v2 ys) :
    Calls Tryz.prog 90 #[v1, v2] w fun e w' => e = .returned (.bool (@decide (xs = ys) (Classical.propDecidable _))) ∧ Grew w w' := by
  by_cases hl : xs.length = ys.length
  · rcases h1.open_ with ⟨rfl, rfl⟩ | ⟨b1, o1, c1, rfl, hc1, hm1, hb1, hf⟩
    · obtain rfl : ys = [] := List.eq_nil_of_length_eq_zero (by simpa using hl.symm)
      obtain ⟨A, c, rfl⟩ := strs_slice h2
      simp only [List.length_nil]
      clear hl h1 h2
      go_enter Tryz.func90, Tryz.ntmps90
      go_wp2_with fail
      refine wp_loop_rounds 1 ?_; rw [rounds_succ]
      go_wp2_with fail
      go_ret
      exact ⟨by simp, Grew.refl _⟩
    · rcases h2.open_ with ⟨rfl, rfl⟩ | ⟨b2, o2, c2, rfl, hc2, hm2, hb2, hh⟩
      · obtain rfl : xs = [] := List.eq_nil_of_length_eq_zero (by simpa using hl)
        simp only [List.length_nil]
        clear hl hf h1 h2
        go_enter Tryz.func90, Tryz.ntmps90
        go_wp2_with fail
        refine wp_loop_rounds 1 ?_; rw [rounds_succ]
        go_wp2_with fail
        go_ret
        exact ⟨by simp, Grew.refl _⟩
      · clear h1 h2
        have HE := Lib.hid (fun h => agreeS_all hl h)
        rw [← hl] at hc2 hh ⊢
        have HF := Lib.hid hf
        have HH := Lib.hid hh
        have HX := Lib.hid (fun (h : xs = ys) (i : Nat) => (by rw [h] : st xs i = st ys i))
        obtain ⟨D, hD⟩ : ∃ D, D = @decide (xs = ys) (Classical.propDecidable _) := ⟨_, rfl⟩
        rw [← hD]
        have HD := Lib.hid hD
        clear hl hf hh hD
        generalize hN : xs.length = n at *
        clear hN
        go_enter Tryz.func90, Tryz.ntmps90
        go_wp2_with fail
        go_loopg [5] n (fun k i wr => ∃ j : Nat, j ≤ n ∧ k = n - j ∧ i = .int .i64 j ∧ Grew w wr ∧ Hid (AgreeS xs ys j))
        case atStart => exact ⟨0, Nat.zero_le _, by omega, rfl, Grew.refl _, AgreeS.zero _ _⟩
        case round =>
          obtain ⟨j, hj, rfl, rfl, hB, HA⟩ := hrel
          by_cases hlt : j < n
          · have k1 : ∀ W, Grew w W → W.cell? ⟨b1, o1 + j, none⟩ = some (.string (st xs j)) := fun W hW => HF.out j hlt W hW
            have k3 : ∀ W, Grew w W → W.cell? ⟨b2, o2 + j, none⟩ = some (.string (st ys j)) := fun W hW => HH.out j hlt W hW
            by_cases he : st xs j = st ys j
            · have HB := Lib.hid (HA.out.succ he)
              rw [he] at k1
              have hq : ((st ys j).toList != (st ys j).toList) = false := by simp
              clear he HA
              generalize st ys j = z at *
              go_wp2_with fail
              go_quiet (fail)
              go_wp2_with fail
              go_roundg (n - (j + 1))
              case measure => omega
              case rel => exact ⟨j + 1, by omega, rfl, by go_num, hB.drewN _, HB⟩
            · have hv : Hid (D = false) := Lib.hid (by rw [HD.out]; exact @decide_eq_false _ (Classical.propDecidable _) fun h => he (HX.out h j))
              have hb1 := bytes_ne he
              have hq : ((st xs j).toList != (st ys j).toList) = true := by rw [bne, hb1]; rfl
              have hq2 : (!(st xs j).toList == (st ys j).toList) = true := by rw [hb1]; rfl
              clear he HA hb1
              generalize st ys j = z at *
              generalize st xs j = y at *
              go_wp2_with fail
              go_quiet (fail)
              go_wp2_with fail
              go_ret
              rw [hv.out]
              exact ⟨rfl, hB.drewN _⟩
          · have hjn : j = n := by omega
            subst hjn
            have hv : Hid (D = true) := Lib.hid (by rw [HD.out]; exact @decide_eq_true _ (Classical.propDecidable _) (HE.out HA.out))
            go_wp2_with fail
            go_ret
            rw [hv.out]
            exact ⟨rfl, hB⟩
  · have hne : xs ≠ ys := fun h => hl (by rw [h])
    rw [@decide_eq_false _ (Classical.propDecidable _) hne]
    obtain ⟨A, c, rfl⟩ := strs_slice h1
    obtain ⟨B, d, rfl⟩ := strs_slice h2
    have hl' : (((xs.length : Nat) : Int) != ((ys.length : Nat) : Int)) = true := by simp; omega
    clear hl h1 h2 hne
    generalize xs.length = n at *
    generalize ys.length = m at *
    go_enter Tryz.func90, Tryz.ntmps90
    go_wp2_with fail
    go_ret
    exact ⟨rfl, Grew.refl _⟩

theorem l25Same_c (v1 v2 : Value) (xs ys : List ByteArray) (w : World) (h1 : Strs w v1 xs) (h2 : Strs w v2 ys) :
    Calls Tryz.prog 57 #[v1, v2] w fun e w' => e = .returned (.bool (@decide (xs = ys) (Classical.propDecidable _))) ∧ Grew w w' := by
  have KW := Lib.hid (l01Words_c v1 v2 xs ys w h1 h2)
  obtain ⟨A, c, rfl⟩ := strs_slice h1
  obtain ⟨B, d, rfl⟩ := strs_slice h2
  clear h1 h2
  generalize @decide (xs = ys) (Classical.propDecidable _) = R at *
  generalize xs.length = n at *
  generalize ys.length = m at *
  go_enter Tryz.func57, Tryz.ntmps57
  go_wp2_with fail
  refine KW.out.mono ?_
  rintro e w1 ⟨rfl, hg1⟩
  go_wp2_with fail
  go_ret
  exact ⟨rfl, hg1⟩
end Go.Proofs.YtofeeenjlaljpaaGreat

/- Comparing lists of strings in the reference: such a call only draws. -/
namespace Go.Proofs.YtofeeenjlaljpaaGreat
open Go.RowKit

/-- Nothing but draws lies between. -/
def Drw (w w' : World) : Prop := ∃ m, w' = w.drewN m
theorem Drw.refl (w : World) : Drw w w := ⟨0, by first | rfl | simp⟩
theorem Drw.drewN {w w' : World} (h : Drw w w') (n : Nat) : Drw w (w'.drewN n) := by
  obtain ⟨m, rfl⟩ := h
  exact ⟨m + n, by rw [World.drewN_drewN]⟩
theorem Drw.grew {w w' : World} (h : Drw w w') : Grew w w' := by
  obtain ⟨m, rfl⟩ := h
  exact (Grew.refl w).drewN m

theorem l01Words_q (v1 v2 : Value) (xs ys : List ByteArray) (w : World) (h1 : Strs w v1 xs) (h2 : Strs w v2 ys) :
    Calls Tryz.prog 90 #[v1, v2] w fun e w' => e = .returned (.bool (@decide (xs = ys) (Classical.propDecidable _))) ∧ Drw w w' := by
  by_cases hl : xs.length = ys.length
  · rcases h1.open_ with ⟨rfl, rfl⟩ | ⟨b1, o1, c1, rfl, hc1, hm1, hb1, hf⟩
    · obtain rfl : ys = [] := List.eq_nil_of_length_eq_zero (by simpa using hl.symm)
      obtain ⟨A, c, rfl⟩ := strs_slice h2
      simp only [List.length_nil]
      clear hl h1 h2
      go_enter Tryz.func90, Tryz.ntmps90
      go_wp2_with fail
      refine wp_loop_rounds 1 ?_; rw [rounds_succ]
      go_wp2_with fail
      go_ret
      exact ⟨by simp, Drw.refl _⟩
    · rcases h2.open_ with ⟨rfl, rfl⟩ | ⟨b2, o2, c2, rfl, hc2, hm2, hb2, hh⟩
      · obtain rfl : xs = [] := List.eq_nil_of_length_eq_zero (by simpa using hl)
        simp only [List.length_nil]
        clear hl hf h1 h2
        go_enter Tryz.func90, Tryz.ntmps90
        go_wp2_with fail
        refine wp_loop_rounds 1 ?_; rw [rounds_succ]
        go_wp2_with fail
        go_ret
        exact ⟨by simp, Drw.refl _⟩
      · clear h1 h2
        have HE := Lib.hid (fun h => agreeS_all hl h)
        rw [← hl] at hc2 hh ⊢
        have HF := Lib.hid hf
        have HH := Lib.hid hh
        have HX := Lib.hid (fun (h : xs = ys) (i : Nat) => (by rw [h] : st xs i = st ys i))
        obtain ⟨D, hD⟩ : ∃ D, D = @decide (xs = ys) (Classical.propDecidable _) := ⟨_, rfl⟩
        rw [← hD]
        have HD := Lib.hid hD
        clear hl hf hh hD
        generalize hN : xs.length = n at *
        clear hN
        go_enter Tryz.func90, Tryz.ntmps90
        go_wp2_with fail
        go_loopg [5] n (fun k i wr => ∃ j : Nat, j ≤ n ∧ k = n - j ∧ i = .int .i64 j ∧ Drw w wr ∧ Hid (AgreeS xs ys j))
        case atStart => exact ⟨0, Nat.zero_le _, by omega, rfl, Drw.refl _, AgreeS.zero _ _⟩
        case round =>
          obtain ⟨j, hj, rfl, rfl, hB, HA⟩ := hrel
          have hBg := hB.grew
          by_cases hlt : j < n
          · have k1 : ∀ W, Grew w W → W.cell? ⟨b1, o1 + j, none⟩ = some (.string (st xs j)) := fun W hW => HF.out j hlt W hW
            have k3 : ∀ W, Grew w W → W.cell? ⟨b2, o2 + j, none⟩ = some (.string (st ys j)) := fun W hW => HH.out j hlt W hW
            by_cases he : st xs j = st ys j
            · have HB := Lib.hid (HA.out.succ he)
              rw [he] at k1
              have hq : ((st ys j).toList != (st ys j).toList) = false := by simp
              clear he HA
              generalize st ys j = z at *
              go_wp2_with fail
              go_quiet (fail)
              go_wp2_with fail
              go_roundg (n - (j + 1))
              case measure => omega
              case rel => exact ⟨j + 1, by omega, rfl, by go_num, hB.drewN _, HB⟩
            · have hv : Hid (D = false) := Lib.hid (by rw [HD.out]; exact @decide_eq_false _ (Classical.propDecidable _) fun h => he (HX.out h j))
              have hb1 := bytes_ne he
              have hq : ((st xs j).toList != (st ys j).toList) = true := by rw [bne, hb1]; rfl
              have hq2 : (!(st xs j).toList == (st ys j).toList) = true := by rw [hb1]; rfl
              clear he HA hb1
              generalize st ys j = z at *
              generalize st xs j = y at *
              go_wp2_with fail
              go_quiet (fail)
              go_wp2_with fail
              go_ret
              rw [hv.out]
              exact ⟨rfl, hB.drewN _⟩
          · have hjn : j = n := by omega
            subst hjn
            have hv : Hid (D = true) := Lib.hid (by rw [HD.out]; exact @decide_eq_true _ (Classical.propDecidable _) (HE.out HA.out))
            go_wp2_with fail
            go_ret
            rw [hv.out]
            exact ⟨rfl, hB⟩
  · have hne : xs ≠ ys := fun h => hl (by rw [h])
    rw [@decide_eq_false _ (Classical.propDecidable _) hne]
    obtain ⟨A, c, rfl⟩ := strs_slice h1
    obtain ⟨B, d, rfl⟩ := strs_slice h2
    have hl' : (((xs.length : Nat) : Int) != ((ys.length : Nat) : Int)) = true := by simp; omega
    clear hl h1 h2 hne
    generalize xs.length = n at *
    generalize ys.length = m at *
    go_enter Tryz.func90, Tryz.ntmps90
    go_wp2_with fail
    go_ret
    exact ⟨rfl, Drw.refl _⟩

theorem l25Same_q (v1 v2 : Value) (xs ys : List ByteArray) (w : World) (h1 : Strs w v1 xs) (h2 : Strs w v2 ys) :
    Calls Tryz.prog 57 #[v1, v2] w fun e w' => e = .returned (.bool (@decide (xs = ys) (Classical.propDecidable _))) ∧ Drw w w' := by
  have KW := Lib.hid (l01Words_q v1 v2 xs ys w h1 h2)
  obtain ⟨A, c, rfl⟩ := strs_slice h1
  obtain ⟨B, d, rfl⟩ := strs_slice h2
  clear h1 h2
  generalize @decide (xs = ys) (Classical.propDecidable _) = R at *
  generalize xs.length = n at *
  generalize ys.length = m at *
  go_enter Tryz.func57, Tryz.ntmps57
  go_wp2_with fail
  refine KW.out.mono ?_
  rintro e w1 ⟨rfl, hg1⟩
  go_wp2_with fail
  go_ret
  exact ⟨rfl, hg1⟩
end Go.Proofs.YtofeeenjlaljpaaGreat

/- A number between two bounds. -/
namespace Go.Proofs.YtofeeenjlaljpaaGreat
open Go.RowKit

theorem l01In_c (k lo hi : Int) (w : World) : Calls Tryz.prog 92 #[.int .i64 k, .int .i64 lo, .int .i64 hi] w fun e w' => e = .returned (.bool (decide (lo ≤ k ∧ k ≤ hi))) ∧ Grew w w' := by
  by_cases h : lo ≤ k
  · have hd : decide (lo ≤ k ∧ k ≤ hi) = decide (k ≤ hi) := by simp [h]
    rw [hd]
    go_enter Tryz.func92, Tryz.ntmps92
    go_wp2_with fail
    go_ret
    exact ⟨rfl, Grew.refl _⟩
  · have hd : decide (lo ≤ k ∧ k ≤ hi) = false := by simp [h]
    rw [hd]
    go_enter Tryz.func92, Tryz.ntmps92
    go_wp2_with fail
    go_ret
    exact ⟨rfl, Grew.refl _⟩

theorem inRange_c (k lo hi : Int) (w : World) : Calls Tryz.prog 136 #[.int .i64 k, .int .i64 lo, .int .i64 hi] w fun e w' => e = .returned (.bool (decide (lo ≤ k ∧ k ≤ hi))) ∧ Grew w w' := by
  by_cases h : lo ≤ k
  · have hd : decide (lo ≤ k ∧ k ≤ hi) = decide (k ≤ hi) := by simp [h]
    rw [hd]
    go_enter Tryz.func136, Tryz.ntmps136
    go_wp2_with fail
    go_ret
    exact ⟨rfl, Grew.refl _⟩
  · have hd : decide (lo ≤ k ∧ k ≤ hi) = false := by simp [h]
    rw [hd]
    go_enter Tryz.func136, Tryz.ntmps136
    go_wp2_with fail
    go_ret
    exact ⟨rfl, Grew.refl _⟩
end Go.Proofs.YtofeeenjlaljpaaGreat

/- l25Rule of the reference. -/
namespace Go.Proofs.YtofeeenjlaljpaaGreat
open Go.RowKit

theorem lenL1 {α : Type} {p : List α} (h : p.length = 1) : ∃ a, p = [a] := by
  match p, h with
  | [a], _ => exact ⟨a, rfl⟩
theorem lenL2 {α : Type} {p : List α} (h : p.length = 2) : ∃ a b, p = [a, b] := by
  match p, h with
  | [a, b], _ => exact ⟨a, b, rfl⟩
theorem lenL3 {α : Type} {p : List α} (h : p.length = 3) : ∃ a b c, p = [a, b, c] := by
  match p, h with
  | [a, b, c], _ => exact ⟨a, b, c, rfl⟩
theorem same_c (v1 v2 : Value) (xs ys : List ByteArray) (w : World) (h1 : Strs w v1 xs) (h2 : Strs w v2 ys) :
    Calls Tryz.prog 57 #[v1, v2] w fun e w' => e = .returned (.bool (dcd (xs = ys))) ∧ Drw w w' := l25Same_q v1 v2 xs ys w h1 h2
theorem txF_list : txF.toList = [70] := by first | rfl | decide | (simp [txF]; done) | (unfold txF ByteArray.toList ByteArray.toList.loop; simp [ByteArray.size]; unfold ByteArray.toList.loop; simp [ByteArray.size]; done)
theorem txF_yes : (txF.toList == [70]) = true := by rw [txF_list]; rfl
theorem txF_no {s : ByteArray} (h : s ≠ txF) : (s.toList == [70]) = false := by rw [← txF_list]; exact bytes_ne h
theorem strs_lit1 (a : ByteArray) (W : World) : Strs (W.alloc (.cells #[.string a] 9)) (.slice (some ⟨W.heap.size, 0, none⟩) 1 1) [a] := rd_lit W (.string a) 9
/-- The premises' lists and conclusions in memory. -/
theorem dds_at {w : World} {v : Value} {p : List Dd} (h : Dds w v p) (hp : 0 < p.length) : ∃ b o c, v = .slice (some ⟨b, o, none⟩) p.length c ∧ p.length ≤ c ∧ c ≤ 9223372036854775807 ∧
    ∀ i y, p[i]? = some y → ∃ ua, (∀ W, Grew w W → W.cell? ⟨b, o + i * 5 + 2, none⟩ = some ua) ∧ (∀ W, Grew w W → W.cell? ⟨b, o + i * 5 + 3, none⟩ = some (.string y.2.2.2.1)) ∧ Strs w ua y.2.2.1 := by
  obtain ⟨b, o, c, h1, h2, h3, _, h5⟩ := h.open_ hp
  refine ⟨b, o, c, h1, h2, h3, fun i y hy => ?_⟩
  obtain ⟨up, ua, k1, _, k3⟩ := h5 i y hy
  exact ⟨ua, fun W hW => (k1 W hW).2.2.1, fun W hW => (k1 W hW).2.2.2.1, k3⟩
/-- What l25Rule gives at a step. -/
def RuleC (x : Dd) (k : Nat) : Prop := ∀ (up ua vp : Value) (p : List Dd) (w : World), Ints w up x.2.1 → Strs w ua x.2.2.1 → Dds w vp p → gp x.2.2.2.1 = true → (∀ y ∈ p, gp y.2.2.2.1 = true) → x.2.2.1.length ≤ 12 → p.length = k →
    Calls Tryz.prog 134 #[.agg #[.int .i64 x.1, up, ua, .string x.2.2.2.1, .int .i64 x.2.2.2.2], vp] w fun e w' => e = .returned (.bool (dcd (introP x (p.map jd) ∨ elimP x (p.map jd)))) ∧ Grew w w'
end Go.Proofs.YtofeeenjlaljpaaGreat

/- l25Rule of the reference at some rules. -/
namespace Go.Proofs.YtofeeenjlaljpaaGreat
open Go.RowKit

set_option maxHeartbeats 8000000 in
set_option maxRecDepth 8192 in
theorem rule_2 (P : List Int) (A : List ByteArray) (C : ByteArray) (N : Int) : RuleC (2, P, A, C, N) 1 := by
  intro up ua vp p w hup hs hv hC hp hl hk
  simp only at hup hs hC hl hk ⊢
  obtain ⟨y0, rfl⟩ := lenL1 hk
  obtain ⟨r0, P0, A0, C0, N0⟩ := y0
  obtain ⟨pb, po, pc, rfl, hpc, hpm, hat⟩ := dds_at hv (by simp)
  have hiff : (introP (2, P, A, C, N) ([(r0, P0, A0, C0, N0)].map jd) ∨ elimP (2, P, A, C, N) ([(r0, P0, A0, C0, N0)].map jd)) ↔ (A0 = A ∧ C0 = txF) := by
    simp [introP, elimP, jd]
    try grind
  rw [dcd_congr hiff]
  clear hiff
  obtain ⟨ua0, q0a, q0c, hu0⟩ := hat 0 _ rfl
  have hg0 : gp C0 = true := hp (r0, P0, A0, C0, N0) (by simp)
  simp only [Nat.zero_mul, Nat.add_zero] at q0a q0c hu0
  have KS0 := fun W (hW : Grew w W) => same_c ua0 ua A0 A W (hu0.grew hW) (hs.grew hW)
  simp only [List.length_cons, List.length_nil] at hpc ⊢
  obtain ⟨VP, cp, rfl⟩ := ints_slice hup
  obtain ⟨UA, ca, rfl⟩ := strs_slice hs
  obtain ⟨U0, c0, rfl⟩ := strs_slice hu0
  have hal := (Grew.refl w).alloc (.cells #[.int .i64 2, .slice VP P.length cp, .slice UA A.length ca, .string C, .int .i64 N] 50)
  have f0 : ∀ W, Grew (w.alloc (.cells #[.int .i64 2, .slice VP P.length cp, .slice UA A.length ca, .string C, .int .i64 N] 50)) W → W.cell? ⟨w.heap.size, 0, none⟩ = some (.int .i64 2) := fun W hW => (hW.cell (p := ⟨w.heap.size, 0, none⟩) (by simp)).trans (by simp)
  have f2 : ∀ W, Grew (w.alloc (.cells #[.int .i64 2, .slice VP P.length cp, .slice UA A.length ca, .string C, .int .i64 N] 50)) W → W.cell? ⟨w.heap.size, 2, none⟩ = some (.slice UA A.length ca) := fun W hW => (hW.cell (p := ⟨w.heap.size, 2, none⟩) (by simp)).trans (by simp)
  have f3 : ∀ W, Grew (w.alloc (.cells #[.int .i64 2, .slice VP P.length cp, .slice UA A.length ca, .string C, .int .i64 N] 50)) W → W.cell? ⟨w.heap.size, 3, none⟩ = some (.string C) := fun W hW => (hW.cell (p := ⟨w.heap.size, 3, none⟩) (by simp)).trans (by simp)
  clear hup hs hv hat hp hl hk hu0
  generalize P.length = pln at *
  generalize A.length = al at *
  generalize A0.length = al0 at *
  by_cases h0 : A0 = A
  · have hh : True := trivial
    rw [dcd_true h0] at KS0
    by_cases h1 : C0 = txF
    · have hh : True := trivial
      have hb1 : (C0.toList == [70]) = true := by rw [h1]; exact txF_yes
      rw [dcd_true ⟨h0, h1⟩]
      have hT := txF_yes
      replace KS0 := Lib.hid KS0
      clear h0 h1
      go_enter Tryz.func134, Tryz.ntmps134
      go_wp2_with fail
      have hg1 := Grew.refl (w.alloc (.cells #[.int .i64 2, .slice VP pln cp, .slice UA al ca, .string C, .int .i64 N] 50))
      have g1 := hal
      have r1 := Grew.refl (w.alloc (.cells #[.int .i64 2, .slice VP pln cp, .slice UA al ca, .string C, .int .i64 N] 50))
      have d1 := r1.drew
      have gd := g1.trans d1
      have e0 := fun W (hW : Grew (w.alloc (.cells #[.int .i64 2, .slice VP pln cp, .slice UA al ca, .string C, .int .i64 N] 50)) W) => f0 W (hg1.trans hW)
      have e2 := fun W (hW : Grew (w.alloc (.cells #[.int .i64 2, .slice VP pln cp, .slice UA al ca, .string C, .int .i64 N] 50)) W) => f2 W (hg1.trans hW)
      have e3 := fun W (hW : Grew (w.alloc (.cells #[.int .i64 2, .slice VP pln cp, .slice UA al ca, .string C, .int .i64 N] 50)) W) => f3 W (hg1.trans hW)
      have p0a := fun W (hW : Grew (w.alloc (.cells #[.int .i64 2, .slice VP pln cp, .slice UA al ca, .string C, .int .i64 N] 50)) W) => q0a W (g1.trans hW)
      have p0c := fun W (hW : Grew (w.alloc (.cells #[.int .i64 2, .slice VP pln cp, .slice UA al ca, .string C, .int .i64 N] 50)) W) => q0c W (g1.trans hW)
      clear f0 f2 f3 q0a q0c
      have KT0 := Lib.hid (fun n => KS0.out ((w.alloc (.cells #[.int .i64 2, .slice VP pln cp, .slice UA al ca, .string C, .int .i64 N] 50)).drewN n) (g1.drewN n))
      go_quiet ((first | (go_at_call 57; exact Calls.quiet_of (KT0.out _))))
      go_wp2_with fail
      go_ret
      exact ⟨rfl, g1.drewN _⟩
    · rw [dcd_false (fun h => h1 (h.2))]
      have hb1 := txF_no h1
      replace KS0 := Lib.hid KS0
      clear h0 h1
      go_enter Tryz.func134, Tryz.ntmps134
      go_wp2_with fail
      have hg1 := Grew.refl (w.alloc (.cells #[.int .i64 2, .slice VP pln cp, .slice UA al ca, .string C, .int .i64 N] 50))
      have g1 := hal
      have r1 := Grew.refl (w.alloc (.cells #[.int .i64 2, .slice VP pln cp, .slice UA al ca, .string C, .int .i64 N] 50))
      have d1 := r1.drew
      have gd := g1.trans d1
      have e0 := fun W (hW : Grew (w.alloc (.cells #[.int .i64 2, .slice VP pln cp, .slice UA al ca, .string C, .int .i64 N] 50)) W) => f0 W (hg1.trans hW)
      have e2 := fun W (hW : Grew (w.alloc (.cells #[.int .i64 2, .slice VP pln cp, .slice UA al ca, .string C, .int .i64 N] 50)) W) => f2 W (hg1.trans hW)
      have e3 := fun W (hW : Grew (w.alloc (.cells #[.int .i64 2, .slice VP pln cp, .slice UA al ca, .string C, .int .i64 N] 50)) W) => f3 W (hg1.trans hW)
      have p0a := fun W (hW : Grew (w.alloc (.cells #[.int .i64 2, .slice VP pln cp, .slice UA al ca, .string C, .int .i64 N] 50)) W) => q0a W (g1.trans hW)
      have p0c := fun W (hW : Grew (w.alloc (.cells #[.int .i64 2, .slice VP pln cp, .slice UA al ca, .string C, .int .i64 N] 50)) W) => q0c W (g1.trans hW)
      clear f0 f2 f3 q0a q0c
      have KT0 := Lib.hid (fun n => KS0.out ((w.alloc (.cells #[.int .i64 2, .slice VP pln cp, .slice UA al ca, .string C, .int .i64 N] 50)).drewN n) (g1.drewN n))
      go_quiet ((first | (go_at_call 57; exact Calls.quiet_of (KT0.out _))))
      go_wp2_with fail
      go_ret
      exact ⟨rfl, g1.drewN _⟩
  · rw [dcd_false (fun h => h0 (h.1))]
    rw [dcd_false h0] at KS0
    replace KS0 := Lib.hid KS0
    clear h0
    go_enter Tryz.func134, Tryz.ntmps134
    go_wp2_with fail
    have hg1 := Grew.refl (w.alloc (.cells #[.int .i64 2, .slice VP pln cp, .slice UA al ca, .string C, .int .i64 N] 50))
    have g1 := hal
    have r1 := Grew.refl (w.alloc (.cells #[.int .i64 2, .slice VP pln cp, .slice UA al ca, .string C, .int .i64 N] 50))
    have d1 := r1.drew
    have gd := g1.trans d1
    have e0 := fun W (hW : Grew (w.alloc (.cells #[.int .i64 2, .slice VP pln cp, .slice UA al ca, .string C, .int .i64 N] 50)) W) => f0 W (hg1.trans hW)
    have e2 := fun W (hW : Grew (w.alloc (.cells #[.int .i64 2, .slice VP pln cp, .slice UA al ca, .string C, .int .i64 N] 50)) W) => f2 W (hg1.trans hW)
    have e3 := fun W (hW : Grew (w.alloc (.cells #[.int .i64 2, .slice VP pln cp, .slice UA al ca, .string C, .int .i64 N] 50)) W) => f3 W (hg1.trans hW)
    have p0a := fun W (hW : Grew (w.alloc (.cells #[.int .i64 2, .slice VP pln cp, .slice UA al ca, .string C, .int .i64 N] 50)) W) => q0a W (g1.trans hW)
    have p0c := fun W (hW : Grew (w.alloc (.cells #[.int .i64 2, .slice VP pln cp, .slice UA al ca, .string C, .int .i64 N] 50)) W) => q0c W (g1.trans hW)
    clear f0 f2 f3 q0a q0c
    have KT0 := Lib.hid (fun n => KS0.out ((w.alloc (.cells #[.int .i64 2, .slice VP pln cp, .slice UA al ca, .string C, .int .i64 N] 50)).drewN n) (g1.drewN n))
    go_quiet ((first | (go_at_call 57; exact Calls.quiet_of (KT0.out _))))
    go_wp2_with fail
    go_ret
    exact ⟨rfl, g1.drewN _⟩

set_option maxHeartbeats 8000000 in
set_option maxRecDepth 8192 in
theorem rule_3 (P : List Int) (A : List ByteArray) (C : ByteArray) (N : Int) : RuleC (3, P, A, C, N) 2 := by
  intro up ua vp p w hup hs hv hC hp hl hk
  simp only at hup hs hC hl hk ⊢
  obtain ⟨y0, y1, rfl⟩ := lenL2 hk
  obtain ⟨r0, P0, A0, C0, N0⟩ := y0
  obtain ⟨r1, P1, A1, C1, N1⟩ := y1
  obtain ⟨pb, po, pc, rfl, hpc, hpm, hat⟩ := dds_at hv (by simp)
  have hiff : (introP (3, P, A, C, N) ([(r0, P0, A0, C0, N0), (r1, P1, A1, C1, N1)].map jd) ∨ elimP (3, P, A, C, N) ([(r0, P0, A0, C0, N0), (r1, P1, A1, C1, N1)].map jd)) ↔ (kT C = 2 ∧ A0 = A ∧ A1 = A ∧ C0 = pl C ∧ C1 = pr C) := by
    simp [introP, elimP, jd]
    try grind
  rw [dcd_congr hiff]
  clear hiff
  obtain ⟨ua0, q0a, q0c, hu0⟩ := hat 0 _ rfl
  have hg0 : gp C0 = true := hp (r0, P0, A0, C0, N0) (by simp)
  simp only [Nat.zero_mul, Nat.add_zero] at q0a q0c hu0
  obtain ⟨ua1, q1a, q1c, hu1⟩ := hat 1 _ rfl
  have hg1 : gp C1 = true := hp (r1, P1, A1, C1, N1) (by simp)
  simp only [Nat.one_mul] at q1a q1c hu1
  have KS0 := fun W (hW : Grew w W) => same_c ua0 ua A0 A W (hu0.grew hW) (hs.grew hW)
  have KS1 := fun W (hW : Grew w W) => same_c ua1 ua A1 A W (hu1.grew hW) (hs.grew hW)
  simp only [List.length_cons, List.length_nil] at hpc ⊢
  obtain ⟨VP, cp, rfl⟩ := ints_slice hup
  obtain ⟨UA, ca, rfl⟩ := strs_slice hs
  obtain ⟨U0, c0, rfl⟩ := strs_slice hu0
  obtain ⟨U1, c1, rfl⟩ := strs_slice hu1
  have hal := (Grew.refl w).alloc (.cells #[.int .i64 3, .slice VP P.length cp, .slice UA A.length ca, .string C, .int .i64 N] 50)
  have f0 : ∀ W, Grew (w.alloc (.cells #[.int .i64 3, .slice VP P.length cp, .slice UA A.length ca, .string C, .int .i64 N] 50)) W → W.cell? ⟨w.heap.size, 0, none⟩ = some (.int .i64 3) := fun W hW => (hW.cell (p := ⟨w.heap.size, 0, none⟩) (by simp)).trans (by simp)
  have f2 : ∀ W, Grew (w.alloc (.cells #[.int .i64 3, .slice VP P.length cp, .slice UA A.length ca, .string C, .int .i64 N] 50)) W → W.cell? ⟨w.heap.size, 2, none⟩ = some (.slice UA A.length ca) := fun W hW => (hW.cell (p := ⟨w.heap.size, 2, none⟩) (by simp)).trans (by simp)
  have f3 : ∀ W, Grew (w.alloc (.cells #[.int .i64 3, .slice VP P.length cp, .slice UA A.length ca, .string C, .int .i64 N] 50)) W → W.cell? ⟨w.heap.size, 3, none⟩ = some (.string C) := fun W hW => (hW.cell (p := ⟨w.heap.size, 3, none⟩) (by simp)).trans (by simp)
  clear hup hs hv hat hp hl hk hu0 hu1
  generalize P.length = pln at *
  generalize A.length = al at *
  generalize A0.length = al0 at *
  generalize A1.length = al1 at *
  by_cases h0 : kT C = 2
  · have hh : True := trivial
    have KP := Lib.hid (fun W => lp_yes 2 C W hC h0 (by decide))
    by_cases h1 : A0 = A
    · have hh : True := trivial
      rw [dcd_true h1] at KS0
      by_cases h2 : A1 = A
      · have hh : True := trivial
        rw [dcd_true h2] at KS1
        by_cases h3 : C0 = pl C
        · have hh : True := trivial
          have hb3 : (C0.toList == (pl C).toList) = true := by rw [h3]; simp
          by_cases h4 : C1 = pr C
          · have hh : True := trivial
            have hb4 : (C1.toList == (pr C).toList) = true := by rw [h4]; simp
            rw [dcd_true ⟨h0, h1, h2, h3, h4⟩]
            replace KS0 := Lib.hid KS0
            replace KS1 := Lib.hid KS1
            clear h0 h1 h2 h3 h4
            go_enter Tryz.func134, Tryz.ntmps134
            go_wp2_with fail
            refine (KP.out _).mono ?_
            rintro e w1 ⟨rfl, hg1⟩
            have g1 := hal.trans hg1
            have hm1 := hg1
            have r1 := Grew.refl w1
            have d1 := r1.drew
            have gd := g1.trans d1
            have e0 := fun W (hW : Grew w1 W) => f0 W (hg1.trans hW)
            have e2 := fun W (hW : Grew w1 W) => f2 W (hg1.trans hW)
            have e3 := fun W (hW : Grew w1 W) => f3 W (hg1.trans hW)
            have p0a := fun W (hW : Grew w1 W) => q0a W (g1.trans hW)
            have p0c := fun W (hW : Grew w1 W) => q0c W (g1.trans hW)
            have p1a := fun W (hW : Grew w1 W) => q1a W (g1.trans hW)
            have p1c := fun W (hW : Grew w1 W) => q1c W (g1.trans hW)
            clear f0 f2 f3 q0a q0c q1a q1c
            go_wp2_with fail
            have KT0 := Lib.hid (fun n => KS0.out (w1.drewN n) (g1.drewN n))
            have KT1 := Lib.hid (fun n => KS1.out (w1.drewN n) (g1.drewN n))
            go_quiet ((first | (go_at_call 57; exact Calls.quiet_of (KT0.out _)) | (go_at_call 57; exact Calls.quiet_of (KT1.out _))))
            go_wp2_with fail
            go_ret
            exact ⟨rfl, g1.drewN _⟩
          · rw [dcd_false (fun h => h4 (h.2.2.2.2))]
            have hb4 := bytes_ne h4
            replace KS0 := Lib.hid KS0
            replace KS1 := Lib.hid KS1
            clear h0 h1 h2 h3 h4
            go_enter Tryz.func134, Tryz.ntmps134
            go_wp2_with fail
            refine (KP.out _).mono ?_
            rintro e w1 ⟨rfl, hg1⟩
            have g1 := hal.trans hg1
            have hm1 := hg1
            have r1 := Grew.refl w1
            have d1 := r1.drew
            have gd := g1.trans d1
            have e0 := fun W (hW : Grew w1 W) => f0 W (hg1.trans hW)
            have e2 := fun W (hW : Grew w1 W) => f2 W (hg1.trans hW)
            have e3 := fun W (hW : Grew w1 W) => f3 W (hg1.trans hW)
            have p0a := fun W (hW : Grew w1 W) => q0a W (g1.trans hW)
            have p0c := fun W (hW : Grew w1 W) => q0c W (g1.trans hW)
            have p1a := fun W (hW : Grew w1 W) => q1a W (g1.trans hW)
            have p1c := fun W (hW : Grew w1 W) => q1c W (g1.trans hW)
            clear f0 f2 f3 q0a q0c q1a q1c
            go_wp2_with fail
            have KT0 := Lib.hid (fun n => KS0.out (w1.drewN n) (g1.drewN n))
            have KT1 := Lib.hid (fun n => KS1.out (w1.drewN n) (g1.drewN n))
            go_quiet ((first | (go_at_call 57; exact Calls.quiet_of (KT0.out _)) | (go_at_call 57; exact Calls.quiet_of (KT1.out _))))
            go_wp2_with fail
            go_ret
            exact ⟨rfl, g1.drewN _⟩
        · rw [dcd_false (fun h => h3 (h.2.2.2.1))]
          have hb3 := bytes_ne h3
          replace KS0 := Lib.hid KS0
          replace KS1 := Lib.hid KS1
          clear h0 h1 h2 h3
          go_enter Tryz.func134, Tryz.ntmps134
          go_wp2_with fail
          refine (KP.out _).mono ?_
          rintro e w1 ⟨rfl, hg1⟩
          have g1 := hal.trans hg1
          have hm1 := hg1
          have r1 := Grew.refl w1
          have d1 := r1.drew
          have gd := g1.trans d1
          have e0 := fun W (hW : Grew w1 W) => f0 W (hg1.trans hW)
          have e2 := fun W (hW : Grew w1 W) => f2 W (hg1.trans hW)
          have e3 := fun W (hW : Grew w1 W) => f3 W (hg1.trans hW)
          have p0a := fun W (hW : Grew w1 W) => q0a W (g1.trans hW)
          have p0c := fun W (hW : Grew w1 W) => q0c W (g1.trans hW)
          have p1a := fun W (hW : Grew w1 W) => q1a W (g1.trans hW)
          have p1c := fun W (hW : Grew w1 W) => q1c W (g1.trans hW)
          clear f0 f2 f3 q0a q0c q1a q1c
          go_wp2_with fail
          have KT0 := Lib.hid (fun n => KS0.out (w1.drewN n) (g1.drewN n))
          have KT1 := Lib.hid (fun n => KS1.out (w1.drewN n) (g1.drewN n))
          go_quiet ((first | (go_at_call 57; exact Calls.quiet_of (KT0.out _)) | (go_at_call 57; exact Calls.quiet_of (KT1.out _))))
          go_wp2_with fail
          go_ret
          exact ⟨rfl, g1.drewN _⟩
      · rw [dcd_false (fun h => h2 (h.2.2.1))]
        rw [dcd_false h2] at KS1
        replace KS0 := Lib.hid KS0
        replace KS1 := Lib.hid KS1
        clear h0 h1 h2
        go_enter Tryz.func134, Tryz.ntmps134
        go_wp2_with fail
        refine (KP.out _).mono ?_
        rintro e w1 ⟨rfl, hg1⟩
        have g1 := hal.trans hg1
        have hm1 := hg1
        have r1 := Grew.refl w1
        have d1 := r1.drew
        have gd := g1.trans d1
        have e0 := fun W (hW : Grew w1 W) => f0 W (hg1.trans hW)
        have e2 := fun W (hW : Grew w1 W) => f2 W (hg1.trans hW)
        have e3 := fun W (hW : Grew w1 W) => f3 W (hg1.trans hW)
        have p0a := fun W (hW : Grew w1 W) => q0a W (g1.trans hW)
        have p0c := fun W (hW : Grew w1 W) => q0c W (g1.trans hW)
        have p1a := fun W (hW : Grew w1 W) => q1a W (g1.trans hW)
        have p1c := fun W (hW : Grew w1 W) => q1c W (g1.trans hW)
        clear f0 f2 f3 q0a q0c q1a q1c
        go_wp2_with fail
        have KT0 := Lib.hid (fun n => KS0.out (w1.drewN n) (g1.drewN n))
        have KT1 := Lib.hid (fun n => KS1.out (w1.drewN n) (g1.drewN n))
        go_quiet ((first | (go_at_call 57; exact Calls.quiet_of (KT0.out _)) | (go_at_call 57; exact Calls.quiet_of (KT1.out _))))
        go_wp2_with fail
        go_ret
        exact ⟨rfl, g1.drewN _⟩
    · rw [dcd_false (fun h => h1 (h.2.1))]
      rw [dcd_false h1] at KS0
      replace KS0 := Lib.hid KS0
      replace KS1 := Lib.hid KS1
      clear h0 h1
      go_enter Tryz.func134, Tryz.ntmps134
      go_wp2_with fail
      refine (KP.out _).mono ?_
      rintro e w1 ⟨rfl, hg1⟩
      have g1 := hal.trans hg1
      have hm1 := hg1
      have r1 := Grew.refl w1
      have d1 := r1.drew
      have gd := g1.trans d1
      have e0 := fun W (hW : Grew w1 W) => f0 W (hg1.trans hW)
      have e2 := fun W (hW : Grew w1 W) => f2 W (hg1.trans hW)
      have e3 := fun W (hW : Grew w1 W) => f3 W (hg1.trans hW)
      have p0a := fun W (hW : Grew w1 W) => q0a W (g1.trans hW)
      have p0c := fun W (hW : Grew w1 W) => q0c W (g1.trans hW)
      have p1a := fun W (hW : Grew w1 W) => q1a W (g1.trans hW)
      have p1c := fun W (hW : Grew w1 W) => q1c W (g1.trans hW)
      clear f0 f2 f3 q0a q0c q1a q1c
      go_wp2_with fail
      have KT0 := Lib.hid (fun n => KS0.out (w1.drewN n) (g1.drewN n))
      go_quiet ((first | (go_at_call 57; exact Calls.quiet_of (KT0.out _))))
      go_wp2_with fail
      go_ret
      exact ⟨rfl, g1.drewN _⟩
  · rw [dcd_false (fun h => h0 (h.1))]
    have KP := Lib.hid (fun W => lp_no 2 C W hC h0)
    replace KS0 := Lib.hid KS0
    replace KS1 := Lib.hid KS1
    clear h0
    go_enter Tryz.func134, Tryz.ntmps134
    go_wp2_with fail
    refine (KP.out _).mono ?_
    rintro e w1 ⟨rfl, hg1⟩
    have g1 := hal.trans hg1
    have hm1 := hg1
    have r1 := Grew.refl w1
    have d1 := r1.drew
    have gd := g1.trans d1
    have e0 := fun W (hW : Grew w1 W) => f0 W (hg1.trans hW)
    have e2 := fun W (hW : Grew w1 W) => f2 W (hg1.trans hW)
    have e3 := fun W (hW : Grew w1 W) => f3 W (hg1.trans hW)
    have p0a := fun W (hW : Grew w1 W) => q0a W (g1.trans hW)
    have p0c := fun W (hW : Grew w1 W) => q0c W (g1.trans hW)
    have p1a := fun W (hW : Grew w1 W) => q1a W (g1.trans hW)
    have p1c := fun W (hW : Grew w1 W) => q1c W (g1.trans hW)
    clear f0 f2 f3 q0a q0c q1a q1c
    go_wp2_with fail
    go_quiet (fail)
    go_wp2_with fail
    go_ret
    exact ⟨rfl, g1.drewN _⟩
end Go.Proofs.YtofeeenjlaljpaaGreat

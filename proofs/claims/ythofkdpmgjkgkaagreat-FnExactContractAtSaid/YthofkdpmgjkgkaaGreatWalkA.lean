/- The program's reader: the two lowest levels. -/
import Derived.Test.YthofkdpmgjkgkaaGreatWalkP
import Derived.Lib.OthersKept
import Derived.Outline
namespace Go.Proofs.YthofkdpmgjkgkaaGreat
open Go.RowKit
open Fm (Nd)

/-- The range over the letters, at a block of the call's own. -/
def letters : ByteArray := ⟨#[112, 113, 114, 115, 116, 117]⟩
theorem only_iterAt {g k : Nat} {a b : World} (h : Only g a b) (hk : a.heap.size ≤ k) (s : ByteArray) (p : Nat) : Only g a (b.iterAt k s p) :=
  ⟨h.os, h.tape, h.output, by rw [Lib.iterAt_size]; exact h.size, fun i hi hne => (Lib.iterAt_other b k i s p (by omega)).trans (World.grownBy.block h i hi hne)⟩
theorem Rdr.iterAt {w : World} {g T k : Nat} {s : ByteArray} {st : Fm.St} (h : Rdr w g T s st) (hk : g ≠ k) (x : ByteArray) (p : Nat) : Rdr (w.iterAt k x p) g T s st := (Lib.iterAt_other w k g x p hk).trans h

theorem next_letter {P : Program} (w : World) (k i : Nat) (ty : TypeId) (hk : w.heap[k]? = some (.stringIter letters i)) (hi : i < 6) :
    (Instr.next (.pointer (some ⟨k, 0, none⟩)) true ty).run P w = .ok (.tuple #[.bool true, .int .i64 i, .int .i32 (112 + (i : Int))]) (w.iterAt k letters (i + 1)) := by
  have h6 : i = 0 ∨ i = 1 ∨ i = 2 ∨ i = 3 ∨ i = 4 ∨ i = 5 := by omega
  rcases h6 with rfl | rfl | rfl | rfl | rfl | rfl <;> exact Lib.run_next_ascii_at w k letters _ ty hk (by decide) (by decide)
theorem letter_byte {i : Nat} (hi : i < 6) : 112 + (i : Int) = ((UInt8.ofNat (112 + i)).toNat : Int) := by
  rw [UInt8.toNat_ofNat']; omega

theorem atom_c (T : TypeId) (hT : 135 ≠ T) (s : ByteArray) (f m : Nat) (hs : s.size ≤ 1048576)
    (himp : Sub 176 T s f (Fm.impF s.data.toList m (Fm.preF s.data.toList m f) m)) (g : Nat) (st : Fm.St) (w : World) (hR : Rdr w g T s st) (hat : st.1 ≤ s.size) (hfu : s.size - st.1 < f + 1)
    (h126 : Fm.sees s.data.toList st 126 = false) (h91 : Fm.sees s.data.toList st 91 = false) (h60 : Fm.sees s.data.toList st 60 = false) :
    Calls Tryz.prog 203 #[.pointer (some ⟨g, 0, none⟩)] w (Reads w g T s (Fm.preF s.data.toList m (f + 1) st)) := by
  have HI := Lib.hid himp
  have HZ := Lib.hid (size_toList s)
  clear himp
  by_cases h70 : Fm.sees s.data.toList st 70 = true
  · rw [Fm.preF_fls h70]
    go_enter Tryz.func203, Tryz.ntmps203
    go_wp2_with fail
    refine (take_yes g T s st 70 _ _ hR (by omega) hat rfl h70).mono ?_
    rintro e w1 ⟨rfl, hR1, hO1⟩
    go_wp2_with fail
    refine (falsum_c _).mono ?_
    rintro e w2 ⟨v2, rfl, ho2, hg2⟩
    go_wp2_with fail
    go_ret
    exact ⟨_, rfl, ho2.base hO1.size, hR1.grew hg2, hO1.grew hg2⟩
  have h70' : Fm.sees s.data.toList st 70 = false := by simpa using h70
  by_cases h84 : Fm.sees s.data.toList st 84 = true
  · rw [Fm.preF_tru h84]
    clear h70
    go_enter Tryz.func203, Tryz.ntmps203
    go_wp2_with fail
    refine (take_no g T s st 70 _ _ hR (by omega) hat rfl h70').mono ?_
    rintro e w1 ⟨rfl, hR1, hO1⟩
    go_wp2_with fail
    refine (take_yes g T s st 84 _ _ hR1 (by omega) hat rfl h84).mono ?_
    rintro e w2 ⟨rfl, hR2, hO2⟩
    go_wp2_with fail
    refine (truth_c _).mono ?_
    rintro e w3 ⟨v3, rfl, ho3, hg3⟩
    go_wp2_with fail
    go_ret
    exact ⟨_, rfl, ho3.base (Nat.le_trans hO1.size hO2.size), hR2.grew hg3, (hO1.trans hO2).grew hg3⟩
  have h84' : Fm.sees s.data.toList st 84 = false := by simpa using h84
  clear h70 h84
  by_cases h40 : Fm.sees s.data.toList st 40 = true
  · rw [Fm.preF_par h40]
    have hlt := Fm.sees_lt h40
    rw [HZ.out] at hlt
    have hk : Fm.Ok s.data.toList (Fm.step st) (Fm.impF s.data.toList m (Fm.preF s.data.toList m f) m (Fm.step st)) := Fm.impF_ok (fun st h => Fm.preF_ok f st h) m (Fm.step st) (by rw [HZ.out]; exact hlt)
    have e1 : (Fm.step st).1 = st.1 + 1 := rfl
    obtain ⟨k1, k2, k3⟩ := hk
    rw [HZ.out] at k2
    rw [e1] at k1 k3
    have hq := HI.out g (Fm.step st)
    rw [e1] at hq
    have HQ := Lib.hid hq
    clear hq e1 HI
    generalize Fm.impF s.data.toList m (Fm.preF s.data.toList m f) m (Fm.step st) = r at *
    go_enter Tryz.func203, Tryz.ntmps203
    go_wp2_with fail
    refine (take_no g T s st 70 _ _ hR (by omega) hat rfl h70').mono ?_
    rintro e w1 ⟨rfl, hR1, hO1⟩
    go_wp2_with fail
    refine (take_no g T s st 84 _ _ hR1 (by omega) hat rfl h84').mono ?_
    rintro e w2 ⟨rfl, hR2, hO2⟩
    go_wp2_with fail
    refine (take_yes g T s st 40 _ _ hR2 (by omega) hat rfl h40).mono ?_
    rintro e w3 ⟨rfl, hR3, hO3⟩
    go_wp2_with fail
    refine (HQ.out _ hR3 (by omega) (by omega)).mono ?_
    rintro e w4 ⟨v4, rfl, ho4, hR4, hO4⟩
    have hne := own_rdr_ne ho4 hR4 hT
    go_wp2_with fail
    refine (need_c g T s r.2 41 _ _ hR4 (by omega) (by omega) rfl).mono ?_
    rintro e w5 ⟨rfl, hR5, hO5⟩
    go_wp2_with fail
    go_ret
    exact ⟨_, rfl, (ho4.only hO5 hne).base (by have := hO1.size; have := hO2.size; have := hO3.size; omega), hR5, (((hO1.trans hO2).trans hO3).trans hO4).trans hO5⟩
  have h40' : Fm.sees s.data.toList st 40 = false := by simpa using h40
  clear h40 HI
  cases hl : Fm.letter s.data.toList st with
  | some v =>
    rw [Fm.preF_var hl]
    have hv := (Fm.letter_some hl).1
    have hvs := (Fm.letter_some hl).2
    have hno := fun i hi hne => @Fm.letter_ne s.data.toList st v i hl hi hne
    have HN := Lib.hid hno
    clear hno hl
    go_enter Tryz.func203, Tryz.ntmps203
    go_wp2_with fail
    refine (take_no g T s st 70 _ _ hR (by omega) hat rfl h70').mono ?_
    rintro e w1 ⟨rfl, hR1, hO1⟩
    go_wp2_with fail
    refine (take_no g T s st 84 _ _ hR1 (by omega) hat rfl h84').mono ?_
    rintro e w2 ⟨rfl, hR2, hO2⟩
    go_wp2_with fail
    refine (take_no g T s st 40 _ _ hR2 (by omega) hat rfl h40').mono ?_
    rintro e w3 ⟨rfl, hR3, hO3⟩
    go_wp2_with fail
    have hit := World.iter_heap w3 letters 0
    have hR4 : Rdr (w3.iter letters 0) g T s st := hR3.grew ((Grew.refl w3).alloc _)
    have hO4 : Only g w (w3.iter letters 0) := ((hO1.trans hO2).trans hO3).alloc _
    have hgk : g ≠ w3.heap.size := by have := hR3.lt; omega
    have hk : w.heap.size ≤ w3.heap.size := ((hO1.trans hO2).trans hO3).size
    have HW := Lib.hid hit
    clear hit hR3 hO3 hR2 hO2 hR1 hO1
    go_loopg [4, 5] 6 (fun n _ _ wr => ∃ i : Nat, n = 6 - i ∧ i ≤ v ∧ Rdr wr g T s st ∧ Only g w wr ∧ Hid (wr.heap[w3.heap.size]? = some (.stringIter letters i)))
    case atStart => exact ⟨0, rfl, Nat.zero_le _, hR4, hO4, HW.out⟩
    case round =>
      obtain ⟨i, rfl, hiv, hRr, hOr, HX⟩ := hrel
      have hnx := fun ty => next_letter (P := Tryz.prog) wr w3.heap.size i ty HX.out (by omega)
      have HY : Hid ((wr.iterAt w3.heap.size letters (i + 1)).heap[w3.heap.size]? = some (.stringIter letters (i + 1))) := Lib.hid (Lib.iterAt_heap wr w3.heap.size letters i (i + 1) HX.out)
      have hR5 := hRr.iterAt hgk letters (i + 1)
      have hO5 := only_iterAt hOr hk letters (i + 1)
      by_cases hiv2 : i = v
      · subst hiv2
        go_wp2_with fail
        refine (take_yes g T s st _ _ _ hR5 (by omega) hat (letter_byte (by omega)) hvs).mono ?_
        rintro e w4 ⟨rfl, hR6, hO6⟩
        go_wp2_with fail
        refine (variable_c _ _).mono ?_
        rintro e w5 ⟨v5, rfl, ho5, hg5⟩
        go_wp2_with fail
        go_ret
        exact ⟨_, rfl, ho5.base (hO5.trans hO6).size, hR6.grew hg5, (hO5.trans hO6).grew hg5⟩
      · have hs0 := HN.out i (by omega) hiv2
        go_wp2_with fail
        refine (take_no g T s st _ _ _ hR5 (by omega) hat (letter_byte (by omega)) hs0).mono ?_
        rintro e w4 ⟨rfl, hR6, hO6⟩
        have HV : Hid (w4.heap[w3.heap.size]? = some (.stringIter letters (i + 1))) := Lib.hid ((hO6.block (blk_lt HY.out) (Ne.symm hgk)).trans HY.out)
        go_wp2_with fail
        go_roundg (6 - (i + 1))
        case measure => omega
        case rel => exact ⟨i + 1, rfl, by omega, hR6, hO5.trans hO6, HV⟩
  | none =>
    rw [Fm.preF_bad h126 h91 h60 h70' h84' h40' hl]
    have hno := fun i hi => @Fm.letter_none s.data.toList st hl i hi
    have HN := Lib.hid hno
    clear hno hl
    go_enter Tryz.func203, Tryz.ntmps203
    go_wp2_with fail
    refine (take_no g T s st 70 _ _ hR (by omega) hat rfl h70').mono ?_
    rintro e w1 ⟨rfl, hR1, hO1⟩
    go_wp2_with fail
    refine (take_no g T s st 84 _ _ hR1 (by omega) hat rfl h84').mono ?_
    rintro e w2 ⟨rfl, hR2, hO2⟩
    go_wp2_with fail
    refine (take_no g T s st 40 _ _ hR2 (by omega) hat rfl h40').mono ?_
    rintro e w3 ⟨rfl, hR3, hO3⟩
    go_wp2_with fail
    have hit := World.iter_heap w3 letters 0
    have hR4 : Rdr (w3.iter letters 0) g T s st := hR3.grew ((Grew.refl w3).alloc _)
    have hO4 : Only g w (w3.iter letters 0) := ((hO1.trans hO2).trans hO3).alloc _
    have hgk : g ≠ w3.heap.size := by have := hR3.lt; omega
    have hk : w.heap.size ≤ w3.heap.size := ((hO1.trans hO2).trans hO3).size
    have HW := Lib.hid hit
    clear hit hR3 hO3 hR2 hO2 hR1 hO1
    go_loopg [4, 5] 7 (fun n _ _ wr => ∃ i : Nat, n = 7 - i ∧ i ≤ 6 ∧ Rdr wr g T s st ∧ Only g w wr ∧ Hid (wr.heap[w3.heap.size]? = some (.stringIter letters i)))
    case atStart => exact ⟨0, rfl, Nat.zero_le _, hR4, hO4, HW.out⟩
    case round =>
      obtain ⟨i, rfl, hiv, hRr, hOr, HX⟩ := hrel
      by_cases hi6 : i < 6
      · have hnx := fun ty => next_letter (P := Tryz.prog) wr w3.heap.size i ty HX.out hi6
        have HY : Hid ((wr.iterAt w3.heap.size letters (i + 1)).heap[w3.heap.size]? = some (.stringIter letters (i + 1))) := Lib.hid (Lib.iterAt_heap wr w3.heap.size letters i (i + 1) HX.out)
        have hR5 := hRr.iterAt hgk letters (i + 1)
        have hO5 := only_iterAt hOr hk letters (i + 1)
        have hs0 := HN.out i hi6
        go_wp2_with fail
        refine (take_no g T s st _ _ _ hR5 (by omega) hat (letter_byte hi6) hs0).mono ?_
        rintro e w4 ⟨rfl, hR6, hO6⟩
        have HV : Hid (w4.heap[w3.heap.size]? = some (.stringIter letters (i + 1))) := Lib.hid ((hO6.block (blk_lt HY.out) (Ne.symm hgk)).trans HY.out)
        go_wp2_with fail
        go_roundg (7 - (i + 1))
        case measure => omega
        case rel => exact ⟨i + 1, rfl, by omega, hR6, hO5.trans hO6, HV⟩
      · have hi66 : i = 6 := by omega
        subst hi66
        have hnx := fun ty => Lib.run_next_end_at (P := Tryz.prog) wr w3.heap.size letters 6 ty HX.out (by decide)
        have c2 := hRr.bad
        have hf := hRr.free 2
        go_wp2_with fail
        refine (falsum_c _).mono ?_
        rintro e w5 ⟨v5, rfl, ho5, hg5⟩
        go_wp2_with fail
        go_ret
        exact ⟨_, rfl, ho5.base (hOr.setCell _).size, hRr.spoil.grew hg5, (hOr.setCell _).grew hg5⟩

theorem prefix_sub (T : TypeId) (hT : 135 ≠ T) (s : ByteArray) (m : Nat) (hs : s.size ≤ 1048576) (hm : s.size < m) : ∀ f, f ≤ m → Sub 198 T s f (Fm.preF s.data.toList m f) := by
  intro f
  induction f with
  | zero => intro _ g st w _ _ h; omega
  | succ f ih =>
    intro hfm g st w hR hat hfu
    have hp := ih (by omega)
    have hok : ∀ st : Fm.St, st.1 ≤ s.data.toList.length → Fm.Ok s.data.toList st (Fm.preF s.data.toList m f st) := fun st h => Fm.preF_ok f st h
    have hand := and_c T hT s f m _ hs hm hok hp
    have hor := or_c T hT s f m _ hs hm (fun st h => Fm.andF_ok (m := m) hok st h) hand
    have himp := imply_c T hT s f m _ hs hok hor m
    have HA := Lib.hid (fun g st w h1 h2 h3 => atom_c T hT s f m hs (fun g st w h1 h2 h3 => himp g st w h1 h2 (by omega) h3) g st w h1 h2 h3)
    have HP := Lib.hid hp
    have HZ := Lib.hid (size_toList s)
    have HK := Lib.hid hok
    clear ih hp hand hor himp hok
    by_cases h126 : Fm.sees s.data.toList st 126 = true
    · rw [Fm.preF_not h126]
      have hlt := Fm.sees_lt h126
      rw [HZ.out] at hlt
      have e1 : (Fm.step st).1 = st.1 + 1 := rfl
      obtain ⟨k1, k2, k3⟩ := HK.out (Fm.step st) (by rw [HZ.out]; exact hlt)
      rw [HZ.out] at k2
      rw [e1] at k1 k3
      have hq := HP.out g (Fm.step st)
      rw [e1] at hq
      have HQ := Lib.hid hq
      clear hq e1 HA HK HP
      generalize Fm.preF s.data.toList m f (Fm.step st) = r at *
      go_enter Tryz.func198, Tryz.ntmps198
      go_wp2_with fail
      refine (take_yes g T s st 126 _ _ hR (by omega) hat rfl h126).mono ?_
      rintro e w1 ⟨rfl, hR1, hO1⟩
      go_wp2_with fail
      refine (HQ.out _ hR1 (by omega) (by omega)).mono ?_
      rintro e w2 ⟨v2, rfl, ho2, hR2, hO2⟩
      go_wp2_with fail
      refine (negation_c _ r.1 _ ho2.nodes (by omega)).mono ?_
      rintro e w3 ⟨v3, rfl, ho3, hg3⟩
      go_wp2_with fail
      go_ret
      exact ⟨_, rfl, ho3.base (hO1.trans hO2).size, hR2.grew hg3, (hO1.trans hO2).grew hg3⟩
    have h126' : Fm.sees s.data.toList st 126 = false := by simpa using h126
    clear h126
    by_cases h91 : Fm.sees s.data.toList st 91 = true
    · rw [Fm.preF_box h91]
      have hlt := Fm.sees_lt h91
      rw [HZ.out] at hlt
      have e1 : (Fm.step st).1 = st.1 + 1 := rfl
      have hn := Fm.need_pos (s := s.data.toList) (st := Fm.step st) (c := 93) (by rw [HZ.out, e1]; exact hlt)
      rw [HZ.out, e1] at hn
      obtain ⟨n1, n2⟩ := hn
      obtain ⟨k1, k2, k3⟩ := HK.out (Fm.need s.data.toList (Fm.step st) 93) (by rw [HZ.out]; exact n2)
      rw [HZ.out] at k2
      have HQ := Lib.hid (HP.out g (Fm.need s.data.toList (Fm.step st) 93))
      have hat1 : (Fm.step st).1 ≤ s.size := by rw [e1]; omega
      clear e1 HA HK HP
      go_enter Tryz.func198, Tryz.ntmps198
      go_wp2_with fail
      refine (take_no g T s st 126 _ _ hR (by omega) hat rfl h126').mono ?_
      rintro e w1 ⟨rfl, hR1, hO1⟩
      go_wp2_with fail
      refine (take_yes g T s st 91 _ _ hR1 (by omega) hat rfl h91).mono ?_
      rintro e w2 ⟨rfl, hR2, hO2⟩
      go_wp2_with fail
      refine (need_c g T s (Fm.step st) 93 _ _ hR2 (by omega) hat1 rfl).mono ?_
      rintro e w3 ⟨rfl, hR3, hO3⟩
      generalize Fm.need s.data.toList (Fm.step st) 93 = st2 at *
      generalize Fm.preF s.data.toList m f st2 = r at *
      go_wp2_with fail
      refine (HQ.out _ hR3 (by omega) (by omega)).mono ?_
      rintro e w4 ⟨v4, rfl, ho4, hR4, hO4⟩
      go_wp2_with fail
      refine (prefix_c 5 _ r.1 _ ho4.nodes (by omega)).mono ?_
      rintro e w5 ⟨v5, rfl, ho5, hg5⟩
      go_wp2_with fail
      go_ret
      exact ⟨_, rfl, ho5.base (((hO1.trans hO2).trans hO3).trans hO4).size, hR4.grew hg5, (((hO1.trans hO2).trans hO3).trans hO4).grew hg5⟩
    have h91' : Fm.sees s.data.toList st 91 = false := by simpa using h91
    clear h91
    by_cases h60 : Fm.sees s.data.toList st 60 = true
    · rw [Fm.preF_dia h60]
      have hlt := Fm.sees_lt h60
      rw [HZ.out] at hlt
      have e1 : (Fm.step st).1 = st.1 + 1 := rfl
      have hn := Fm.need_pos (s := s.data.toList) (st := Fm.step st) (c := 62) (by rw [HZ.out, e1]; exact hlt)
      rw [HZ.out, e1] at hn
      obtain ⟨n1, n2⟩ := hn
      obtain ⟨k1, k2, k3⟩ := HK.out (Fm.need s.data.toList (Fm.step st) 62) (by rw [HZ.out]; exact n2)
      rw [HZ.out] at k2
      have HQ := Lib.hid (HP.out g (Fm.need s.data.toList (Fm.step st) 62))
      have hat1 : (Fm.step st).1 ≤ s.size := by rw [e1]; omega
      clear e1 HA HK HP
      go_enter Tryz.func198, Tryz.ntmps198
      go_wp2_with fail
      refine (take_no g T s st 126 _ _ hR (by omega) hat rfl h126').mono ?_
      rintro e w1 ⟨rfl, hR1, hO1⟩
      go_wp2_with fail
      refine (take_no g T s st 91 _ _ hR1 (by omega) hat rfl h91').mono ?_
      rintro e w11 ⟨rfl, hR11, hO11⟩
      go_wp2_with fail
      refine (take_yes g T s st 60 _ _ hR11 (by omega) hat rfl h60).mono ?_
      rintro e w2 ⟨rfl, hR2, hO2⟩
      go_wp2_with fail
      refine (need_c g T s (Fm.step st) 62 _ _ hR2 (by omega) hat1 rfl).mono ?_
      rintro e w3 ⟨rfl, hR3, hO3⟩
      generalize Fm.need s.data.toList (Fm.step st) 62 = st2 at *
      generalize Fm.preF s.data.toList m f st2 = r at *
      go_wp2_with fail
      refine (HQ.out _ hR3 (by omega) (by omega)).mono ?_
      rintro e w4 ⟨v4, rfl, ho4, hR4, hO4⟩
      go_wp2_with fail
      refine (prefix_c 6 _ r.1 _ ho4.nodes (by omega)).mono ?_
      rintro e w5 ⟨v5, rfl, ho5, hg5⟩
      go_wp2_with fail
      go_ret
      exact ⟨_, rfl, ho5.base ((((hO1.trans hO11).trans hO2).trans hO3).trans hO4).size, hR4.grew hg5, ((((hO1.trans hO11).trans hO2).trans hO3).trans hO4).grew hg5⟩
    have h60' : Fm.sees s.data.toList st 60 = false := by simpa using h60
    clear h60 HK HP
    have HQ := Lib.hid (fun w hR => HA.out g st w hR hat hfu h126' h91' h60')
    clear HA
    generalize Fm.preF s.data.toList m (f + 1) st = r at *
    go_enter Tryz.func198, Tryz.ntmps198
    go_wp2_with fail
    refine (take_no g T s st 126 _ _ hR (by omega) hat rfl h126').mono ?_
    rintro e w1 ⟨rfl, hR1, hO1⟩
    go_wp2_with fail
    refine (take_no g T s st 91 _ _ hR1 (by omega) hat rfl h91').mono ?_
    rintro e w2 ⟨rfl, hR2, hO2⟩
    go_wp2_with fail
    refine (take_no g T s st 60 _ _ hR2 (by omega) hat rfl h60').mono ?_
    rintro e w3 ⟨rfl, hR3, hO3⟩
    go_wp2_with fail
    refine (HQ.out _ hR3).mono ?_
    rintro e w4 ⟨v4, rfl, ho4, hR4, hO4⟩
    go_wp2_with fail
    go_ret
    exact ⟨_, rfl, ho4.base ((hO1.trans hO2).trans hO3).size, hR4, ((hO1.trans hO2).trans hO3).trans hO4⟩

/-- The program's reader at a text's beginning. -/
theorem imply_top (T : TypeId) (hT : 135 ≠ T) (s : ByteArray) (m : Nat) (hs : s.size ≤ 1048576) (hm : s.size < m) (g : Nat) (w : World) (hR : Rdr w g T s (0, false)) :
    Calls Tryz.prog 176 #[.pointer (some ⟨g, 0, none⟩)] w (Reads w g T s (Fm.parse s.data.toList m)) := by
  have hok : ∀ st : Fm.St, st.1 ≤ s.data.toList.length → Fm.Ok s.data.toList st (Fm.preF s.data.toList m m st) := fun st h => Fm.preF_ok m st h
  have hand := and_c T hT s m m _ hs hm hok (prefix_sub T hT s m hs hm m (Nat.le_refl _))
  have hor := or_c T hT s m m _ hs hm (fun st h => Fm.andF_ok (m := m) hok st h) hand
  exact imply_c T hT s m m _ hs hok hor m g (0, false) w hR (by simp) (by simpa using hm) (by simpa using hm)
end Go.Proofs.YthofkdpmgjkgkaaGreat

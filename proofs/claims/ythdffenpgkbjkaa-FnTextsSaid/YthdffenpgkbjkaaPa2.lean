/- Texts in one file: WalkP WalkA ParseI Par ShelfC Strs FitS PutP PutU EncI Sub PutL OwnV AppStr SubI ShelfCmp CmpF CmpB LawTx Args0 ArgB. -/
import Derived.Deep.LoopGhost
import Derived.Lib.OthersKept
import Derived.Outline
import Derived.Shelf.Sort.Plain
import Derived.Shelf.Slices.CompactS
import Derived.Shelf.Slices.In.SortNone
import Derived.Test.YthdffenpgkbjkaaProg
import Derived.Deep.QuietTactic
import Derived.BigQuiet
import Derived.Lib.OwnBridge
import Derived.Lib.RowBridge
import Derived.Sort.OwnSorted
import Derived.OwnWalk
import Derived.Lib.SlicesS
import Derived.Shelf.Small.Bits
import Derived.Shelf.Small.Strs
import Derived.Deep.RegionHeld3
import Derived.Lib.Bytealg
import Derived.Sort.Walk0
import Derived.ChangeSlices
import Derived.Deep.Strs
import Derived.Lib.SmallJoins
import Derived.Carry
import Derived.ProofKit
import Derived.Test.YthdffenpgkbjkaaPa1
set_option linter.all false

/- The program's reader: what its functions read is what the plain parser gives. -/
namespace Go.Proofs.Ythdffenpgkbjkaa
open Go.RowKit
open Fm (Nd)

/-- The call returns the list r.1 in new memory, and the reader stands at r.2. -/
def Reads (w : World) (g : Nat) (T : TypeId) (s : ByteArray) (r : Fm.Res) (e : Ending) (w' : World) : Prop :=
  ∃ v, e = .returned v ∧ Own w' w.heap.size v r.1 ∧ Rdr w' g T s r.2 ∧ Only g w w'

theorem own_rdr_ne {w : World} {B g : Nat} {v : Value} {xs : List Nd} {T : TypeId} {s : ByteArray} {st : Fm.St} (h : Own w B v xs) (hr : Rdr w g T s st) (hne : 46 ≠ T) : v.ownBlock ≠ some g := own_ne h hr hne

theorem size_toList (s : ByteArray) : s.data.toList.length = s.size := by simp

/-- One 'join' in a loop of 'and' or 'or'. -/
theorem Reads.ok_len {s : ByteArray} {st : Fm.St} {r : Fm.Res} (h : Fm.Ok s.data.toList st r) (hs : s.size ≤ 1048576) : r.1.length ≤ 3145729 := by
  obtain ⟨h1, h2, h3⟩ := h
  rw [size_toList] at h2
  omega

/-- The contract of a function that reads, for a plain function sub and all states from which less than f bytes are left. -/
def Sub (F : FuncId) (T : TypeId) (s : ByteArray) (f : Nat) (sub : Fm.St → Fm.Res) : Prop :=
  ∀ (g : Nat) (st : Fm.St) (w : World), Rdr w g T s st → st.1 ≤ s.size → s.size - st.1 < f → Calls Try.prog F #[.pointer (some ⟨g, 0, none⟩)] w (Reads w g T s (sub st))

theorem and_c (T : TypeId) (hT : 46 ≠ T) (s : ByteArray) (f m : Nat) (sub : Fm.St → Fm.Res) (hs : s.size ≤ 1048576) (hm : s.size < m) (hok : ∀ st : Fm.St, st.1 ≤ s.data.toList.length → Fm.Ok s.data.toList st (sub st))
    (hsub : Sub 71 T s f sub) : Sub 64 T s f (fun st => Fm.loop s.data.toList 2 38 sub m (sub st).1 (sub st).2) := by
  intro g st w hR hat hfu
  have HS := Lib.hid hsub
  have HO := Lib.hid hok
  clear hsub hok
  have hsz := size_toList s
  have h0 : Fm.Ok s.data.toList st (sub st) := HO.out st (by rw [hsz]; exact hat)
  show Calls _ _ _ _ (Reads w g T s (Fm.loop s.data.toList 2 38 sub m (sub st).1 (sub st).2))
  obtain ⟨R, hR0⟩ : ∃ R, R = Fm.loop s.data.toList 2 38 sub m (sub st).1 (sub st).2 := ⟨_, rfl⟩
  rw [← hR0]
  have hend := Lib.hid hR0
  clear hR0
  have HZ := Lib.hid hsz
  clear hsz
  go_enter Try.func64, Try.ntmps64
  go_wp2_with fail
  refine (HS.out g st _ hR hat hfu).mono ?_
  rintro e w1 ⟨v1, rfl, ho1, hR1, hO1⟩
  generalize sub st = r1 at *
  obtain ⟨k1, k2, k3⟩ := h0
  rw [HZ.out] at k2
  go_wp2_with fail
  go_loopg [3] m (fun i v wr => ∃ (a : List Nd) (st' : Fm.St), Own wr w.heap.size v a ∧ Rdr wr g T s st' ∧ Only g w wr ∧ Hid (Fm.loop s.data.toList 2 38 sub i a st' = R) ∧ s.size - st'.1 < i ∧ st.1 ≤ st'.1 ∧ st'.1 ≤ s.size ∧ a.length ≤ 3 * st'.1 + 1)
  case atStart => exact ⟨r1.1, r1.2, ho1, hR1, hO1, hend.out.symm, by omega, by omega, by omega, by omega⟩
  case round =>
    obtain ⟨a, st', hown, hR', hO', hl, hi, hst, hst2, hlen⟩ := hrel
    have hne := own_rdr_ne hown hR' hT
    clear hend ho1 hR1 hO1 k1 k2 k3 hR
    obtain ⟨j, rfl⟩ : ∃ j, gk = j + 1 := ⟨gk - 1, by omega⟩
    by_cases hsee : Fm.sees s.data.toList st' 38 = true
    · have hlt := Fm.sees_lt hsee
      rw [HZ.out] at hlt
      have hl2 : Hid (Fm.loop s.data.toList 2 38 sub j (Fm.join 2 a (sub (Fm.step st')).1) (sub (Fm.step st')).2 = R) := by
        have := hl.out
        rw [Fm.loop, if_pos hsee] at this
        exact this
      obtain ⟨k1, k2, k3⟩ : Fm.Ok s.data.toList (Fm.step st') (sub (Fm.step st')) := HO.out (Fm.step st') (by rw [HZ.out]; exact hlt)
      rw [HZ.out] at k2
      have e1 : (Fm.step st').1 = st'.1 + 1 := rfl
      rw [e1] at k1 k3
      have hfu2 : s.size - (Fm.step st').1 < f := by rw [e1]; omega
      have hat2 : (Fm.step st').1 ≤ s.size := by rw [e1]; omega
      clear hl e1
      go_wp2_with fail
      refine (take_yes g T s st' 38 _ _ hR' (by omega) hst2 rfl hsee).mono ?_
      rintro e w2 ⟨rfl, hR2, hO2⟩
      clear hsee hR'
      generalize Fm.step st' = st2 at *
      go_wp2_with fail
      refine (HS.out g st2 _ hR2 hat2 hfu2).mono ?_
      rintro e w3 ⟨v3, rfl, ho3, hR3, hO3⟩
      generalize sub st2 = r3 at *
      go_wp2_with fail
      refine (join_c 2 _ _ a r3.1 _ ((hown.only hO2 hne).only hO3 hne).nodes ho3.nodes (by omega)).mono ?_
      rintro e w4 ⟨v4, rfl, ho4, hg4⟩
      go_wp2_with fail
      go_roundg j
      case measure => omega
      case rel => exact ⟨_, r3.2, ho4.base (by have := hO'.size; have := hO2.size; have := hO3.size; omega), hR3.grew hg4, ((hO'.trans hO2).trans hO3).grew hg4, hl2, by omega, by omega, by omega, by simp only [Fm.join, List.length_cons, List.length_append]; omega⟩
    · have hsee' : Fm.sees s.data.toList st' 38 = false := by simpa using hsee
      have hl2 : Hid (R = (a, st')) := by
        have := hl.out
        rw [Fm.loop, if_neg hsee] at this
        exact this.symm
      clear hsee hl
      go_wp2_with fail
      refine (take_no g T s st' 38 _ _ hR' (by omega) hst2 rfl hsee').mono ?_
      rintro e w2 ⟨rfl, hR2, hO2⟩
      go_wp2_with fail
      go_ret
      rw [hl2.out]
      exact ⟨_, rfl, hown.only hO2 hne, hR2, hO'.trans hO2⟩
theorem or_c (T : TypeId) (hT : 46 ≠ T) (s : ByteArray) (f m : Nat) (sub : Fm.St → Fm.Res) (hs : s.size ≤ 1048576) (hm : s.size < m) (hok : ∀ st : Fm.St, st.1 ≤ s.data.toList.length → Fm.Ok s.data.toList st (sub st))
    (hsub : Sub 64 T s f sub) : Sub 34 T s f (fun st => Fm.loop s.data.toList 3 124 sub m (sub st).1 (sub st).2) := by
  intro g st w hR hat hfu
  have HS := Lib.hid hsub
  have HO := Lib.hid hok
  clear hsub hok
  have hsz := size_toList s
  have h0 : Fm.Ok s.data.toList st (sub st) := HO.out st (by rw [hsz]; exact hat)
  show Calls _ _ _ _ (Reads w g T s (Fm.loop s.data.toList 3 124 sub m (sub st).1 (sub st).2))
  obtain ⟨R, hR0⟩ : ∃ R, R = Fm.loop s.data.toList 3 124 sub m (sub st).1 (sub st).2 := ⟨_, rfl⟩
  rw [← hR0]
  have hend := Lib.hid hR0
  clear hR0
  have HZ := Lib.hid hsz
  clear hsz
  go_enter Try.func34, Try.ntmps34
  go_wp2_with fail
  refine (HS.out g st _ hR hat hfu).mono ?_
  rintro e w1 ⟨v1, rfl, ho1, hR1, hO1⟩
  generalize sub st = r1 at *
  obtain ⟨k1, k2, k3⟩ := h0
  rw [HZ.out] at k2
  go_wp2_with fail
  go_loopg [3] m (fun i v wr => ∃ (a : List Nd) (st' : Fm.St), Own wr w.heap.size v a ∧ Rdr wr g T s st' ∧ Only g w wr ∧ Hid (Fm.loop s.data.toList 3 124 sub i a st' = R) ∧ s.size - st'.1 < i ∧ st.1 ≤ st'.1 ∧ st'.1 ≤ s.size ∧ a.length ≤ 3 * st'.1 + 1)
  case atStart => exact ⟨r1.1, r1.2, ho1, hR1, hO1, hend.out.symm, by omega, by omega, by omega, by omega⟩
  case round =>
    obtain ⟨a, st', hown, hR', hO', hl, hi, hst, hst2, hlen⟩ := hrel
    have hne := own_rdr_ne hown hR' hT
    clear hend ho1 hR1 hO1 k1 k2 k3 hR
    obtain ⟨j, rfl⟩ : ∃ j, gk = j + 1 := ⟨gk - 1, by omega⟩
    by_cases hsee : Fm.sees s.data.toList st' 124 = true
    · have hlt := Fm.sees_lt hsee
      rw [HZ.out] at hlt
      have hl2 : Hid (Fm.loop s.data.toList 3 124 sub j (Fm.join 3 a (sub (Fm.step st')).1) (sub (Fm.step st')).2 = R) := by
        have := hl.out
        rw [Fm.loop, if_pos hsee] at this
        exact this
      obtain ⟨k1, k2, k3⟩ : Fm.Ok s.data.toList (Fm.step st') (sub (Fm.step st')) := HO.out (Fm.step st') (by rw [HZ.out]; exact hlt)
      rw [HZ.out] at k2
      have e1 : (Fm.step st').1 = st'.1 + 1 := rfl
      rw [e1] at k1 k3
      have hfu2 : s.size - (Fm.step st').1 < f := by rw [e1]; omega
      have hat2 : (Fm.step st').1 ≤ s.size := by rw [e1]; omega
      clear hl e1
      go_wp2_with fail
      refine (take_yes g T s st' 124 _ _ hR' (by omega) hst2 rfl hsee).mono ?_
      rintro e w2 ⟨rfl, hR2, hO2⟩
      clear hsee hR'
      generalize Fm.step st' = st2 at *
      go_wp2_with fail
      refine (HS.out g st2 _ hR2 hat2 hfu2).mono ?_
      rintro e w3 ⟨v3, rfl, ho3, hR3, hO3⟩
      generalize sub st2 = r3 at *
      go_wp2_with fail
      refine (join_c 3 _ _ a r3.1 _ ((hown.only hO2 hne).only hO3 hne).nodes ho3.nodes (by omega)).mono ?_
      rintro e w4 ⟨v4, rfl, ho4, hg4⟩
      go_wp2_with fail
      go_roundg j
      case measure => omega
      case rel => exact ⟨_, r3.2, ho4.base (by have := hO'.size; have := hO2.size; have := hO3.size; omega), hR3.grew hg4, ((hO'.trans hO2).trans hO3).grew hg4, hl2, by omega, by omega, by omega, by simp only [Fm.join, List.length_cons, List.length_append]; omega⟩
    · have hsee' : Fm.sees s.data.toList st' 124 = false := by simpa using hsee
      have hl2 : Hid (R = (a, st')) := by
        have := hl.out
        rw [Fm.loop, if_neg hsee] at this
        exact this.symm
      clear hsee hl
      go_wp2_with fail
      refine (take_no g T s st' 124 _ _ hR' (by omega) hst2 rfl hsee').mono ?_
      rintro e w2 ⟨rfl, hR2, hO2⟩
      go_wp2_with fail
      go_ret
      rw [hl2.out]
      exact ⟨_, rfl, hown.only hO2 hne, hR2, hO'.trans hO2⟩

theorem imply_c (T : TypeId) (hT : 46 ≠ T) (s : ByteArray) (f m : Nat) (sub : Fm.St → Fm.Res) (hs : s.size ≤ 1048576) (hok : ∀ st : Fm.St, st.1 ≤ s.data.toList.length → Fm.Ok s.data.toList st (sub st))
    (hsub : Sub 34 T s f (Fm.orF s.data.toList m sub)) : ∀ (i : Nat) (g : Nat) (st : Fm.St) (w : World), Rdr w g T s st → st.1 ≤ s.size → s.size - st.1 < i → s.size - st.1 < f →
      Calls Try.prog 19 #[.pointer (some ⟨g, 0, none⟩)] w (Reads w g T s (Fm.impF s.data.toList m sub i st)) := by
  intro i
  induction i with
  | zero => intro g st w _ _ h; omega
  | succ i ih =>
    intro g st w hR hat hi hfu
    have HS := Lib.hid hsub
    have HI := Lib.hid ih
    clear hsub ih
    have hsz := size_toList s
    have h0 : Fm.Ok s.data.toList st (Fm.orF s.data.toList m sub st) := Fm.orF_ok hok st (by rw [hsz]; exact hat)
    have hy := @Fm.impF_yes s.data.toList m i sub st
    have hn := @Fm.impF_no s.data.toList m i sub st
    have hk := fun st h => Fm.impF_ok (m := m) hok i st h
    have HK := Lib.hid hk
    have HZ := Lib.hid hsz
    clear hsz hok hk
    have HC := fun g h1 => HS.out g st w h1 hat hfu
    have HD := Lib.hid HC
    clear HC HS
    generalize Fm.orF s.data.toList m sub st = r1 at *
    obtain ⟨k1, k2, k3⟩ := h0
    rw [HZ.out] at k2
    by_cases hsee : Fm.sees s.data.toList r1.2 62 = true
    · have hlt := Fm.sees_lt hsee
      rw [HZ.out] at hlt
      have e1 : (Fm.step r1.2).1 = r1.2.1 + 1 := rfl
      obtain ⟨q1, q2, q3⟩ := HK.out (Fm.step r1.2) (by rw [HZ.out, e1]; exact hlt)
      rw [HZ.out] at q2
      rw [e1] at q1 q3
      have hq := HI.out g (Fm.step r1.2)
      rw [e1] at hq
      have HQ := Lib.hid hq
      rw [hy hsee]
      clear hy hn HI hq HK e1
      go_enter Try.func19, Try.ntmps19
      go_wp2_with fail
      refine (HD.out g hR).mono ?_
      rintro e w1 ⟨v1, rfl, ho1, hR1, hO1⟩
      have hne := own_rdr_ne ho1 hR1 hT
      go_wp2_with fail
      refine (take_yes g T s r1.2 62 _ _ hR1 (by omega) (by omega) rfl hsee).mono ?_
      rintro e w2 ⟨rfl, hR2, hO2⟩
      go_wp2_with fail
      refine (HQ.out _ hR2 (by omega) (by omega) (by omega)).mono ?_
      rintro e w3 ⟨v3, rfl, ho3, hR3, hO3⟩
      generalize Fm.impF s.data.toList m sub i (Fm.step r1.2) = r3 at *
      go_wp2_with fail
      refine (join_c 4 _ _ r1.1 r3.1 _ ((ho1.only hO2 hne).only hO3 hne).nodes ho3.nodes (by omega)).mono ?_
      rintro e w4 ⟨v4, rfl, ho4, hg4⟩
      go_wp2_with fail
      go_ret
      exact ⟨_, rfl, ho4.base (by have := hO1.size; have := hO2.size; have := hO3.size; omega), hR3.grew hg4, ((hO1.trans hO2).trans hO3).grew hg4⟩
    · have hsee' : Fm.sees s.data.toList r1.2 62 = false := by simpa using hsee
      rw [hn hsee']
      clear hy hn HI HK hsee
      go_enter Try.func19, Try.ntmps19
      go_wp2_with fail
      refine (HD.out g hR).mono ?_
      rintro e w1 ⟨v1, rfl, ho1, hR1, hO1⟩
      have hne := own_rdr_ne ho1 hR1 hT
      go_wp2_with fail
      refine (take_no g T s r1.2 62 _ _ hR1 (by omega) (by omega) rfl hsee').mono ?_
      rintro e w2 ⟨rfl, hR2, hO2⟩
      go_wp2_with fail
      go_ret
      exact ⟨_, rfl, ho1.only hO2 hne, hR2, hO1.trans hO2⟩

end Go.Proofs.Ythdffenpgkbjkaa

/- The program's reader: the two lowest levels. -/
namespace Go.Proofs.Ythdffenpgkbjkaa
open Go.RowKit
open Fm (Nd)

/-- The range over the letters, at a block of the call's own. -/
def letters : ByteArray := ⟨#[112, 113, 114, 115, 116, 117]⟩
theorem only_iterAt {g k : Nat} {a b : World} (h : Only g a b) (hk : a.heap.size ≤ k) (s : ByteArray) (p : Nat) : Only g a (b.iterAt k s p) :=
  ⟨h.os, h.tape, h.output, by rw [Lib.iterAt_size]; exact h.size, fun i hi hne => (Lib.iterAt_other b k i s p (by omega)).trans (World.grownBy.block h i hi hne)⟩
theorem Rdr.iterAt {w : World} {g T k : Nat} {s : ByteArray} {st : Fm.St} (h : Rdr w g T s st) (hk : g ≠ k) (x : ByteArray) (p : Nat) : Rdr (w.iterAt k x p) g T s st := (Lib.iterAt_other w k g x p hk).trans h

theorem next_letter {P : Program} (w : World) (k i : Nat) (ty : TypeId) (hk : w.heap[k]? = some (.stringIter letters i)) (hi : i < 6) :
    (Instr.next (.pointer (some ⟨k, 0, none⟩)) true ty).run P w = .ok (.tuple #[.bool true, .int .i64 i, .int .i32 (112 + (i : Int))]) (w.iterAt k letters (i + 1)) := by
  have h6 : i = 0 ∨ i = 1 ∨ i = 2 ∨ i = 3 ∨ i = 4 ∨ i = 5 := by omega
  rcases h6 with rfl | rfl | rfl | rfl | rfl | rfl <;> exact Lib.run_next_ascii_at w k letters _ ty hk (by decide) (by decide)
theorem letter_byte {i : Nat} (hi : i < 6) : 112 + (i : Int) = ((UInt8.ofNat (112 + i)).toNat : Int) := by
  rw [UInt8.toNat_ofNat']; omega

theorem atom_c (T : TypeId) (hT : 46 ≠ T) (s : ByteArray) (f m : Nat) (hs : s.size ≤ 1048576)
    (himp : Sub 19 T s f (Fm.impF s.data.toList m (Fm.preF s.data.toList m f) m)) (g : Nat) (st : Fm.St) (w : World) (hR : Rdr w g T s st) (hat : st.1 ≤ s.size) (hfu : s.size - st.1 < f + 1)
    (h126 : Fm.sees s.data.toList st 126 = false) (h91 : Fm.sees s.data.toList st 91 = false) (h60 : Fm.sees s.data.toList st 60 = false) :
    Calls Try.prog 88 #[.pointer (some ⟨g, 0, none⟩)] w (Reads w g T s (Fm.preF s.data.toList m (f + 1) st)) := by
  have HI := Lib.hid himp
  have HZ := Lib.hid (size_toList s)
  clear himp
  by_cases h70 : Fm.sees s.data.toList st 70 = true
  · rw [Fm.preF_fls h70]
    go_enter Try.func88, Try.ntmps88
    go_wp2_with fail
    refine (take_yes g T s st 70 _ _ hR (by omega) hat rfl h70).mono ?_
    rintro e w1 ⟨rfl, hR1, hO1⟩
    go_wp2_with fail
    refine (falsum_c _).mono ?_
    rintro e w2 ⟨v2, rfl, ho2, hg2⟩
    go_wp2_with fail
    go_ret
    exact ⟨_, rfl, ho2.base hO1.size, hR1.grew hg2, hO1.grew hg2⟩
  have h70' : Fm.sees s.data.toList st 70 = false := by simpa using h70
  by_cases h84 : Fm.sees s.data.toList st 84 = true
  · rw [Fm.preF_tru h84]
    clear h70
    go_enter Try.func88, Try.ntmps88
    go_wp2_with fail
    refine (take_no g T s st 70 _ _ hR (by omega) hat rfl h70').mono ?_
    rintro e w1 ⟨rfl, hR1, hO1⟩
    go_wp2_with fail
    refine (take_yes g T s st 84 _ _ hR1 (by omega) hat rfl h84).mono ?_
    rintro e w2 ⟨rfl, hR2, hO2⟩
    go_wp2_with fail
    refine (truth_c _).mono ?_
    rintro e w3 ⟨v3, rfl, ho3, hg3⟩
    go_wp2_with fail
    go_ret
    exact ⟨_, rfl, ho3.base (Nat.le_trans hO1.size hO2.size), hR2.grew hg3, (hO1.trans hO2).grew hg3⟩
  have h84' : Fm.sees s.data.toList st 84 = false := by simpa using h84
  clear h70 h84
  by_cases h40 : Fm.sees s.data.toList st 40 = true
  · rw [Fm.preF_par h40]
    have hlt := Fm.sees_lt h40
    rw [HZ.out] at hlt
    have hk : Fm.Ok s.data.toList (Fm.step st) (Fm.impF s.data.toList m (Fm.preF s.data.toList m f) m (Fm.step st)) := Fm.impF_ok (fun st h => Fm.preF_ok f st h) m (Fm.step st) (by rw [HZ.out]; exact hlt)
    have e1 : (Fm.step st).1 = st.1 + 1 := rfl
    obtain ⟨k1, k2, k3⟩ := hk
    rw [HZ.out] at k2
    rw [e1] at k1 k3
    have hq := HI.out g (Fm.step st)
    rw [e1] at hq
    have HQ := Lib.hid hq
    clear hq e1 HI
    generalize Fm.impF s.data.toList m (Fm.preF s.data.toList m f) m (Fm.step st) = r at *
    go_enter Try.func88, Try.ntmps88
    go_wp2_with fail
    refine (take_no g T s st 70 _ _ hR (by omega) hat rfl h70').mono ?_
    rintro e w1 ⟨rfl, hR1, hO1⟩
    go_wp2_with fail
    refine (take_no g T s st 84 _ _ hR1 (by omega) hat rfl h84').mono ?_
    rintro e w2 ⟨rfl, hR2, hO2⟩
    go_wp2_with fail
    refine (take_yes g T s st 40 _ _ hR2 (by omega) hat rfl h40).mono ?_
    rintro e w3 ⟨rfl, hR3, hO3⟩
    go_wp2_with fail
    refine (HQ.out _ hR3 (by omega) (by omega)).mono ?_
    rintro e w4 ⟨v4, rfl, ho4, hR4, hO4⟩
    have hne := own_rdr_ne ho4 hR4 hT
    go_wp2_with fail
    refine (need_c g T s r.2 41 _ _ hR4 (by omega) (by omega) rfl).mono ?_
    rintro e w5 ⟨rfl, hR5, hO5⟩
    go_wp2_with fail
    go_ret
    exact ⟨_, rfl, (ho4.only hO5 hne).base (by have := hO1.size; have := hO2.size; have := hO3.size; omega), hR5, (((hO1.trans hO2).trans hO3).trans hO4).trans hO5⟩
  have h40' : Fm.sees s.data.toList st 40 = false := by simpa using h40
  clear h40 HI
  cases hl : Fm.letter s.data.toList st with
  | some v =>
    rw [Fm.preF_var hl]
    have hv := (Fm.letter_some hl).1
    have hvs := (Fm.letter_some hl).2
    have hno := fun i hi hne => @Fm.letter_ne s.data.toList st v i hl hi hne
    have HN := Lib.hid hno
    clear hno hl
    go_enter Try.func88, Try.ntmps88
    go_wp2_with fail
    refine (take_no g T s st 70 _ _ hR (by omega) hat rfl h70').mono ?_
    rintro e w1 ⟨rfl, hR1, hO1⟩
    go_wp2_with fail
    refine (take_no g T s st 84 _ _ hR1 (by omega) hat rfl h84').mono ?_
    rintro e w2 ⟨rfl, hR2, hO2⟩
    go_wp2_with fail
    refine (take_no g T s st 40 _ _ hR2 (by omega) hat rfl h40').mono ?_
    rintro e w3 ⟨rfl, hR3, hO3⟩
    go_wp2_with fail
    have hit := World.iter_heap w3 letters 0
    have hR4 : Rdr (w3.iter letters 0) g T s st := hR3.grew ((Grew.refl w3).alloc _)
    have hO4 : Only g w (w3.iter letters 0) := ((hO1.trans hO2).trans hO3).alloc _
    have hgk : g ≠ w3.heap.size := by have := hR3.lt; omega
    have hk : w.heap.size ≤ w3.heap.size := ((hO1.trans hO2).trans hO3).size
    have HW := Lib.hid hit
    clear hit hR3 hO3 hR2 hO2 hR1 hO1
    go_loopg [4, 5] 6 (fun n _ _ wr => ∃ i : Nat, n = 6 - i ∧ i ≤ v ∧ Rdr wr g T s st ∧ Only g w wr ∧ Hid (wr.heap[w3.heap.size]? = some (.stringIter letters i)))
    case atStart => exact ⟨0, rfl, Nat.zero_le _, hR4, hO4, HW.out⟩
    case round =>
      obtain ⟨i, rfl, hiv, hRr, hOr, HX⟩ := hrel
      have hnx := fun ty => next_letter (P := Try.prog) wr w3.heap.size i ty HX.out (by omega)
      have HY : Hid ((wr.iterAt w3.heap.size letters (i + 1)).heap[w3.heap.size]? = some (.stringIter letters (i + 1))) := Lib.hid (Lib.iterAt_heap wr w3.heap.size letters i (i + 1) HX.out)
      have hR5 := hRr.iterAt hgk letters (i + 1)
      have hO5 := only_iterAt hOr hk letters (i + 1)
      by_cases hiv2 : i = v
      · subst hiv2
        go_wp2_with fail
        refine (take_yes g T s st _ _ _ hR5 (by omega) hat (letter_byte (by omega)) hvs).mono ?_
        rintro e w4 ⟨rfl, hR6, hO6⟩
        go_wp2_with fail
        refine (variable_c _ _).mono ?_
        rintro e w5 ⟨v5, rfl, ho5, hg5⟩
        go_wp2_with fail
        go_ret
        exact ⟨_, rfl, ho5.base (hO5.trans hO6).size, hR6.grew hg5, (hO5.trans hO6).grew hg5⟩
      · have hs0 := HN.out i (by omega) hiv2
        go_wp2_with fail
        refine (take_no g T s st _ _ _ hR5 (by omega) hat (letter_byte (by omega)) hs0).mono ?_
        rintro e w4 ⟨rfl, hR6, hO6⟩
        have HV : Hid (w4.heap[w3.heap.size]? = some (.stringIter letters (i + 1))) := Lib.hid ((hO6.block (blk_lt HY.out) (Ne.symm hgk)).trans HY.out)
        go_wp2_with fail
        go_roundg (6 - (i + 1))
        case measure => omega
        case rel => exact ⟨i + 1, rfl, by omega, hR6, hO5.trans hO6, HV⟩
  | none =>
    rw [Fm.preF_bad h126 h91 h60 h70' h84' h40' hl]
    have hno := fun i hi => @Fm.letter_none s.data.toList st hl i hi
    have HN := Lib.hid hno
    clear hno hl
    go_enter Try.func88, Try.ntmps88
    go_wp2_with fail
    refine (take_no g T s st 70 _ _ hR (by omega) hat rfl h70').mono ?_
    rintro e w1 ⟨rfl, hR1, hO1⟩
    go_wp2_with fail
    refine (take_no g T s st 84 _ _ hR1 (by omega) hat rfl h84').mono ?_
    rintro e w2 ⟨rfl, hR2, hO2⟩
    go_wp2_with fail
    refine (take_no g T s st 40 _ _ hR2 (by omega) hat rfl h40').mono ?_
    rintro e w3 ⟨rfl, hR3, hO3⟩
    go_wp2_with fail
    have hit := World.iter_heap w3 letters 0
    have hR4 : Rdr (w3.iter letters 0) g T s st := hR3.grew ((Grew.refl w3).alloc _)
    have hO4 : Only g w (w3.iter letters 0) := ((hO1.trans hO2).trans hO3).alloc _
    have hgk : g ≠ w3.heap.size := by have := hR3.lt; omega
    have hk : w.heap.size ≤ w3.heap.size := ((hO1.trans hO2).trans hO3).size
    have HW := Lib.hid hit
    clear hit hR3 hO3 hR2 hO2 hR1 hO1
    go_loopg [4, 5] 7 (fun n _ _ wr => ∃ i : Nat, n = 7 - i ∧ i ≤ 6 ∧ Rdr wr g T s st ∧ Only g w wr ∧ Hid (wr.heap[w3.heap.size]? = some (.stringIter letters i)))
    case atStart => exact ⟨0, rfl, Nat.zero_le _, hR4, hO4, HW.out⟩
    case round =>
      obtain ⟨i, rfl, hiv, hRr, hOr, HX⟩ := hrel
      by_cases hi6 : i < 6
      · have hnx := fun ty => next_letter (P := Try.prog) wr w3.heap.size i ty HX.out hi6
        have HY : Hid ((wr.iterAt w3.heap.size letters (i + 1)).heap[w3.heap.size]? = some (.stringIter letters (i + 1))) := Lib.hid (Lib.iterAt_heap wr w3.heap.size letters i (i + 1) HX.out)
        have hR5 := hRr.iterAt hgk letters (i + 1)
        have hO5 := only_iterAt hOr hk letters (i + 1)
        have hs0 := HN.out i hi6
        go_wp2_with fail
        refine (take_no g T s st _ _ _ hR5 (by omega) hat (letter_byte hi6) hs0).mono ?_
        rintro e w4 ⟨rfl, hR6, hO6⟩
        have HV : Hid (w4.heap[w3.heap.size]? = some (.stringIter letters (i + 1))) := Lib.hid ((hO6.block (blk_lt HY.out) (Ne.symm hgk)).trans HY.out)
        go_wp2_with fail
        go_roundg (7 - (i + 1))
        case measure => omega
        case rel => exact ⟨i + 1, rfl, by omega, hR6, hO5.trans hO6, HV⟩
      · have hi66 : i = 6 := by omega
        subst hi66
        have hnx := fun ty => Lib.run_next_end_at (P := Try.prog) wr w3.heap.size letters 6 ty HX.out (by decide)
        have c2 := hRr.bad
        have hf := hRr.free 2
        go_wp2_with fail
        refine (falsum_c _).mono ?_
        rintro e w5 ⟨v5, rfl, ho5, hg5⟩
        go_wp2_with fail
        go_ret
        exact ⟨_, rfl, ho5.base (hOr.setCell _).size, hRr.spoil.grew hg5, (hOr.setCell _).grew hg5⟩

theorem prefix_sub (T : TypeId) (hT : 46 ≠ T) (s : ByteArray) (m : Nat) (hs : s.size ≤ 1048576) (hm : s.size < m) : ∀ f, f ≤ m → Sub 71 T s f (Fm.preF s.data.toList m f) := by
  intro f
  induction f with
  | zero => intro _ g st w _ _ h; omega
  | succ f ih =>
    intro hfm g st w hR hat hfu
    have hp := ih (by omega)
    have hok : ∀ st : Fm.St, st.1 ≤ s.data.toList.length → Fm.Ok s.data.toList st (Fm.preF s.data.toList m f st) := fun st h => Fm.preF_ok f st h
    have hand := and_c T hT s f m _ hs hm hok hp
    have hor := or_c T hT s f m _ hs hm (fun st h => Fm.andF_ok (m := m) hok st h) hand
    have himp := imply_c T hT s f m _ hs hok hor m
    have HA := Lib.hid (fun g st w h1 h2 h3 => atom_c T hT s f m hs (fun g st w h1 h2 h3 => himp g st w h1 h2 (by omega) h3) g st w h1 h2 h3)
    have HP := Lib.hid hp
    have HZ := Lib.hid (size_toList s)
    have HK := Lib.hid hok
    clear ih hp hand hor himp hok
    by_cases h126 : Fm.sees s.data.toList st 126 = true
    · rw [Fm.preF_not h126]
      have hlt := Fm.sees_lt h126
      rw [HZ.out] at hlt
      have e1 : (Fm.step st).1 = st.1 + 1 := rfl
      obtain ⟨k1, k2, k3⟩ := HK.out (Fm.step st) (by rw [HZ.out]; exact hlt)
      rw [HZ.out] at k2
      rw [e1] at k1 k3
      have hq := HP.out g (Fm.step st)
      rw [e1] at hq
      have HQ := Lib.hid hq
      clear hq e1 HA HK HP
      generalize Fm.preF s.data.toList m f (Fm.step st) = r at *
      go_enter Try.func71, Try.ntmps71
      go_wp2_with fail
      refine (take_yes g T s st 126 _ _ hR (by omega) hat rfl h126).mono ?_
      rintro e w1 ⟨rfl, hR1, hO1⟩
      go_wp2_with fail
      refine (HQ.out _ hR1 (by omega) (by omega)).mono ?_
      rintro e w2 ⟨v2, rfl, ho2, hR2, hO2⟩
      go_wp2_with fail
      refine (negation_c _ r.1 _ ho2.nodes (by omega)).mono ?_
      rintro e w3 ⟨v3, rfl, ho3, hg3⟩
      go_wp2_with fail
      go_ret
      exact ⟨_, rfl, ho3.base (hO1.trans hO2).size, hR2.grew hg3, (hO1.trans hO2).grew hg3⟩
    have h126' : Fm.sees s.data.toList st 126 = false := by simpa using h126
    clear h126
    by_cases h91 : Fm.sees s.data.toList st 91 = true
    · rw [Fm.preF_box h91]
      have hlt := Fm.sees_lt h91
      rw [HZ.out] at hlt
      have e1 : (Fm.step st).1 = st.1 + 1 := rfl
      have hn := Fm.need_pos (s := s.data.toList) (st := Fm.step st) (c := 93) (by rw [HZ.out, e1]; exact hlt)
      rw [HZ.out, e1] at hn
      obtain ⟨n1, n2⟩ := hn
      obtain ⟨k1, k2, k3⟩ := HK.out (Fm.need s.data.toList (Fm.step st) 93) (by rw [HZ.out]; exact n2)
      rw [HZ.out] at k2
      have HQ := Lib.hid (HP.out g (Fm.need s.data.toList (Fm.step st) 93))
      have hat1 : (Fm.step st).1 ≤ s.size := by rw [e1]; omega
      clear e1 HA HK HP
      go_enter Try.func71, Try.ntmps71
      go_wp2_with fail
      refine (take_no g T s st 126 _ _ hR (by omega) hat rfl h126').mono ?_
      rintro e w1 ⟨rfl, hR1, hO1⟩
      go_wp2_with fail
      refine (take_yes g T s st 91 _ _ hR1 (by omega) hat rfl h91).mono ?_
      rintro e w2 ⟨rfl, hR2, hO2⟩
      go_wp2_with fail
      refine (need_c g T s (Fm.step st) 93 _ _ hR2 (by omega) hat1 rfl).mono ?_
      rintro e w3 ⟨rfl, hR3, hO3⟩
      generalize Fm.need s.data.toList (Fm.step st) 93 = st2 at *
      generalize Fm.preF s.data.toList m f st2 = r at *
      go_wp2_with fail
      refine (HQ.out _ hR3 (by omega) (by omega)).mono ?_
      rintro e w4 ⟨v4, rfl, ho4, hR4, hO4⟩
      go_wp2_with fail
      refine (prefix_c 5 _ r.1 _ ho4.nodes (by omega)).mono ?_
      rintro e w5 ⟨v5, rfl, ho5, hg5⟩
      go_wp2_with fail
      go_ret
      exact ⟨_, rfl, ho5.base (((hO1.trans hO2).trans hO3).trans hO4).size, hR4.grew hg5, (((hO1.trans hO2).trans hO3).trans hO4).grew hg5⟩
    have h91' : Fm.sees s.data.toList st 91 = false := by simpa using h91
    clear h91
    by_cases h60 : Fm.sees s.data.toList st 60 = true
    · rw [Fm.preF_dia h60]
      have hlt := Fm.sees_lt h60
      rw [HZ.out] at hlt
      have e1 : (Fm.step st).1 = st.1 + 1 := rfl
      have hn := Fm.need_pos (s := s.data.toList) (st := Fm.step st) (c := 62) (by rw [HZ.out, e1]; exact hlt)
      rw [HZ.out, e1] at hn
      obtain ⟨n1, n2⟩ := hn
      obtain ⟨k1, k2, k3⟩ := HK.out (Fm.need s.data.toList (Fm.step st) 62) (by rw [HZ.out]; exact n2)
      rw [HZ.out] at k2
      have HQ := Lib.hid (HP.out g (Fm.need s.data.toList (Fm.step st) 62))
      have hat1 : (Fm.step st).1 ≤ s.size := by rw [e1]; omega
      clear e1 HA HK HP
      go_enter Try.func71, Try.ntmps71
      go_wp2_with fail
      refine (take_no g T s st 126 _ _ hR (by omega) hat rfl h126').mono ?_
      rintro e w1 ⟨rfl, hR1, hO1⟩
      go_wp2_with fail
      refine (take_no g T s st 91 _ _ hR1 (by omega) hat rfl h91').mono ?_
      rintro e w11 ⟨rfl, hR11, hO11⟩
      go_wp2_with fail
      refine (take_yes g T s st 60 _ _ hR11 (by omega) hat rfl h60).mono ?_
      rintro e w2 ⟨rfl, hR2, hO2⟩
      go_wp2_with fail
      refine (need_c g T s (Fm.step st) 62 _ _ hR2 (by omega) hat1 rfl).mono ?_
      rintro e w3 ⟨rfl, hR3, hO3⟩
      generalize Fm.need s.data.toList (Fm.step st) 62 = st2 at *
      generalize Fm.preF s.data.toList m f st2 = r at *
      go_wp2_with fail
      refine (HQ.out _ hR3 (by omega) (by omega)).mono ?_
      rintro e w4 ⟨v4, rfl, ho4, hR4, hO4⟩
      go_wp2_with fail
      refine (prefix_c 6 _ r.1 _ ho4.nodes (by omega)).mono ?_
      rintro e w5 ⟨v5, rfl, ho5, hg5⟩
      go_wp2_with fail
      go_ret
      exact ⟨_, rfl, ho5.base ((((hO1.trans hO11).trans hO2).trans hO3).trans hO4).size, hR4.grew hg5, ((((hO1.trans hO11).trans hO2).trans hO3).trans hO4).grew hg5⟩
    have h60' : Fm.sees s.data.toList st 60 = false := by simpa using h60
    clear h60 HK HP
    have HQ := Lib.hid (fun w hR => HA.out g st w hR hat hfu h126' h91' h60')
    clear HA
    generalize Fm.preF s.data.toList m (f + 1) st = r at *
    go_enter Try.func71, Try.ntmps71
    go_wp2_with fail
    refine (take_no g T s st 126 _ _ hR (by omega) hat rfl h126').mono ?_
    rintro e w1 ⟨rfl, hR1, hO1⟩
    go_wp2_with fail
    refine (take_no g T s st 91 _ _ hR1 (by omega) hat rfl h91').mono ?_
    rintro e w2 ⟨rfl, hR2, hO2⟩
    go_wp2_with fail
    refine (take_no g T s st 60 _ _ hR2 (by omega) hat rfl h60').mono ?_
    rintro e w3 ⟨rfl, hR3, hO3⟩
    go_wp2_with fail
    refine (HQ.out _ hR3).mono ?_
    rintro e w4 ⟨v4, rfl, ho4, hR4, hO4⟩
    go_wp2_with fail
    go_ret
    exact ⟨_, rfl, ho4.base ((hO1.trans hO2).trans hO3).size, hR4, ((hO1.trans hO2).trans hO3).trans hO4⟩

/-- The program's reader at a text's beginning. -/
theorem imply_top (T : TypeId) (hT : 46 ≠ T) (s : ByteArray) (m : Nat) (hs : s.size ≤ 1048576) (hm : s.size < m) (g : Nat) (w : World) (hR : Rdr w g T s (0, false)) :
    Calls Try.prog 19 #[.pointer (some ⟨g, 0, none⟩)] w (Reads w g T s (Fm.parse s.data.toList m)) := by
  have hok : ∀ st : Fm.St, st.1 ≤ s.data.toList.length → Fm.Ok s.data.toList st (Fm.preF s.data.toList m m st) := fun st h => Fm.preF_ok m st h
  have hand := and_c T hT s m m _ hs hm hok (prefix_sub T hT s m hs hm m (Nat.le_refl _))
  have hor := or_c T hT s m m _ hs hm (fun st h => Fm.andF_ok (m := m) hok st h) hand
  exact imply_c T hT s m m _ hs hok hor m g (0, false) w hR (by simp) (by simpa using hm) (by simpa using hm)
end Go.Proofs.Ythdffenpgkbjkaa

/- ParseFormula, of the program and of the reference: both give what the plain parser gives. -/
namespace Go.Proofs.Ythdffenpgkbjkaa
open Go.RowKit
open Fm (Nd)

/-- The call returns a new list and two numbers. -/
def Gives3 (w : World) (r : List Nd × Nat × Int) (e : Ending) (w' : World) : Prop := ∃ v, e = .returned (.tuple #[v, .int .i64 r.2.1, .int .i64 r.2.2]) ∧ Own w' w.heap.size v r.1 ∧ Grew w w' ∧ (r.1 = [] → v = .slice none 0 0)

theorem Rdr.new (w : World) (T : TypeId) (s : ByteArray) : Rdr (w.alloc (.cells #[.string s, .int .i64 0, .bool false] T)) w.heap.size T s (0, false) := blk_new w _

/-- A new list and one number: what l02Read returns. -/
def Gives2 (w : World) (xs : List Nd) (n : Int) (e : Ending) (w' : World) : Prop := ∃ v, e = .returned (.tuple #[v, .int .i64 n]) ∧ Own w' w.heap.size v xs ∧ Grew w w'

theorem parse_c (s : ByteArray) (w : World) (hs : s.size ≤ 140737488355328) :
    Calls Try.prog 9 #[.string s] w (Gives3 w (Fm.pf s)) := by
  by_cases hbig : 200 < s.size
  · have hp : Fm.pf s = ([], 0, 3) := by unfold Fm.pf; rw [if_pos hbig]
    rw [hp]
    clear hp
    go_enter Try.func9, Try.ntmps9
    go_wp2_with fail
    go_ret3
    exact ⟨_, rfl, Own.nil_ _ _, Grew.refl _, fun _ => rfl⟩
  obtain ⟨hr1, hr2⟩ := Fm.read_ok s
  have hxs : Hid ((Fm.read s).1 ≠ []) := Fm.read_ne s
  have HT := Lib.hid (fun g w hR => imply_top 43 (by decide) s Fm.fuel (by omega) (by unfold Fm.fuel; omega) g w hR)
  have hpf : Hid (Fm.pf s = if Fm.whole s = false then ([], (Fm.read s).2.1, 6) else if 40 < (Fm.read s).1.length then ([], 0, 3) else ((Fm.read s).1, 0, 0)) := by
    unfold Fm.pf Hid; rw [if_neg hbig]
  have hwh : Hid (Fm.whole s = (!(Fm.read s).2.2 && decide (s.size ≤ (Fm.read s).2.1))) := rfl
  generalize Fm.pf s = P at *
  generalize Fm.whole s = W at *
  have hrd : Fm.parse s.data.toList Fm.fuel = Fm.read s := rfl
  rw [hrd] at HT
  clear hrd
  generalize Fm.read s = r at *
  obtain ⟨xs, p, b⟩ := r
  simp only at hr1 hr2 hpf hwh hxs
  have hR0 := Rdr.new w 43 s
  have HR0 := Lib.hid hR0
  clear hR0
  by_cases hb : b = true
  · subst hb
    have hP : P = ([], p, 6) := by rw [hpf.out, hwh.out]; simp
    subst hP
    clear hpf hwh
    go_enter Try.func9, Try.ntmps9
    go_wp2_with fail
    refine (HT.out _ _ HR0.out).mono ?_
    rintro e w1 ⟨v1, rfl, ho1, hR1, hO1⟩
    have c1 := hR1.at_
    have c2 := hR1.bad
    have hG := hO1.grew_of ((Grew.refl w).alloc _) (Nat.le_refl _)
    clear hR1 hO1
    go_wp2_with fail
    go_quiet (fail)
    go_wp2_with fail
    go_ret3
    exact ⟨_, rfl, Own.nil_ _ _, hG.drewN _, fun _ => rfl⟩
  have hb' : b = false := by simpa using hb
  subst hb'
  clear hb
  by_cases hlt : p < s.size
  · have hP : P = ([], p, 6) := by
      rw [hpf.out, hwh.out]
      simp [hlt]
    subst hP
    clear hpf hwh
    go_enter Try.func9, Try.ntmps9
    go_wp2_with fail
    refine (HT.out _ _ HR0.out).mono ?_
    rintro e w1 ⟨v1, rfl, ho1, hR1, hO1⟩
    have c1 := hR1.at_
    have c2 := hR1.bad
    have hG := hO1.grew_of ((Grew.refl w).alloc _) (Nat.le_refl _)
    clear hR1 hO1
    go_wp2_with fail
    go_quiet (fail)
    go_wp2_with fail
    go_ret3
    exact ⟨_, rfl, Own.nil_ _ _, hG.drewN _, fun _ => rfl⟩
  by_cases h40 : 40 < xs.length
  · have hP : P = ([], 0, 3) := by
      rw [hpf.out, hwh.out]
      simp [Nat.le_of_not_lt hlt, h40]
    subst hP
    clear hpf hwh
    go_enter Try.func9, Try.ntmps9
    go_wp2_with fail
    refine (HT.out _ _ HR0.out).mono ?_
    rintro e w1 ⟨v1, rfl, ho1, hR1, hO1⟩
    have c1 := hR1.at_
    have c2 := hR1.bad
    have hG := hO1.grew_of ((Grew.refl w).alloc _) (Nat.le_refl _)
    obtain ⟨A, ca, rfl⟩ := nodes_slice ho1.nodes
    clear hR1 hO1
    go_wp2_with fail
    go_ret3
    exact ⟨_, rfl, Own.nil_ _ _, hG, fun _ => rfl⟩
  · have hP : P = (xs, 0, 0) := by
      rw [hpf.out, hwh.out]
      simp [Nat.le_of_not_lt hlt, h40]
    subst hP
    clear hpf hwh
    go_enter Try.func9, Try.ntmps9
    go_wp2_with fail
    refine (HT.out _ _ HR0.out).mono ?_
    rintro e w1 ⟨v1, rfl, ho1, hR1, hO1⟩
    have c1 := hR1.at_
    have c2 := hR1.bad
    have hG := hO1.grew_of ((Grew.refl w).alloc _) (Nat.le_refl _)
    obtain ⟨A, ca, rfl⟩ := nodes_slice ho1.nodes
    clear hR1 hO1
    go_wp2_with fail
    go_ret3
    exact ⟨_, rfl, ho1.base (by simp), hG, fun h => absurd h hxs.out⟩
end Go.Proofs.Ythdffenpgkbjkaa

/- The text of a formula in brackets is read as the formula. No program is in sight. -/
namespace Go.Proofs.Ythdffenpgkbjkaa
namespace Fm

theorem parse_par (t : Tree) (m : Nat) (hm : (txt t 0).length + 2 < m) : parse ([40] ++ txt t 0 ++ [41]) m = (enc t, ((txt t 0).length + 2, false)) := by
  have hl : ([40] ++ txt t 0 ++ [41] : List UInt8).length = (txt t 0).length + 2 := by simp
  have h0 := (all_levels (s := [40] ++ txt t 0 ++ [41]) (m := m) (by omega) t).2.2.2
  generalize hs : ([40] ++ txt t 0 ++ [41] : List UInt8) = s at *
  have hd : s.drop 0 = 40 :: (txt t 0 ++ [41]) := by rw [← hs]; simp
  have h1 : s.drop (0 + 1) = txt t 0 ++ [41] := drop_tail (x := [40]) (r := txt t 0 ++ [41]) hd
  have h2 : s.drop (0 + 1 + (txt t 0).length) = [41] := drop_tail h1
  have h3 : s.drop (0 + 1 + (txt t 0).length + 1) = [] := drop_tail (x := [41]) (r := []) h2
  obtain ⟨f, rfl⟩ : ∃ f, m = f + 1 := ⟨m - 1, by omega⟩
  have hp : preF s (f + 1) (f + 1) (0, false) = (enc t, (0 + 1 + (txt t 0).length + 1, false)) := by
    have h40 : sees s (0, false) 40 = true := by rw [sees_drop hd]; rfl
    rw [preF_par h40, show step (0, false) = (0 + 1, false) from rfl]
    rw [h0 f (f + 1) (0 + 1) [41] h1 (by omega) (by omega) (by simp) (by simp) (by simp)]
    have h41 : sees s (0 + 1 + (txt t 0).length, false) 41 = true := by rw [sees_drop h2]; rfl
    simp only [need, h41, if_true, step]
  have he : ∀ c, sees s (0 + 1 + (txt t 0).length + 1, false) c = false := fun c => sees_none h3 (by simp)
  have ha : andF s (f + 1) (preF s (f + 1) (f + 1)) (0, false) = (enc t, (0 + 1 + (txt t 0).length + 1, false)) := by
    rw [andF, hp]
    exact loop_stop (he 38)
  have ho : orF s (f + 1) (preF s (f + 1) (f + 1)) (0, false) = (enc t, (0 + 1 + (txt t 0).length + 1, false)) := by
    rw [orF, ha]
    exact loop_stop (he 124)
  rw [parse, impF_no (by rw [ho]; exact he 62), ho]
  congr 2
  omega
theorem pf_par (t : Tree) (hn : (enc t).length ≤ 40) : pf (bs ([40] ++ txt t 0 ++ [41])) = (enc t, 0, 0) := by
  have hl := txt_len t 0
  have hs : (bs ([40] ++ txt t 0 ++ [41])).size = (txt t 0).length + 2 := by rw [bs_size]; simp
  have hr : read (bs ([40] ++ txt t 0 ++ [41])) = (enc t, ((txt t 0).length + 2, false)) := by
    rw [read, bs_list, parse_par t fuel (by unfold fuel; omega)]
  have hw : whole (bs ([40] ++ txt t 0 ++ [41])) = true := by
    rw [whole, hr, hs]
    simp
  rw [pf, if_neg (by rw [hs]; omega), if_neg (by rw [hw]; decide), hr, if_neg (by simp only; omega)]
end Fm
end Go.Proofs.Ythdffenpgkbjkaa

/- Contracts of the library (sorting, compacting strings), laid at this program. -/
namespace Go.Proofs
open Go.Shelf
def Try.lays190_ren : Go.Shelf.Ren := ⟨fun | 190 => 38 | 125 => 67 | 258 => 66 | 128 => 82 | 129 => 83 | 302 => 73 | 303 => 74 | 304 => 75 | 305 => 76 | 306 => 77 | 307 => 78 | 308 => 79 | 309 => 80 | 310 => 81 | 333 => 89 | 329 => 90 | 330 => 91 | 334 => 92 | 335 => 93 | 336 => 94 | 344 => 98 | n => n, fun | 31 => 32 | 9 => 9 | 3 => 3 | 46 => 70 | 0 => 0 | 51 => 92 | 53 => 53 | 4 => 4 | 183 => 84 | 182 => 83 | 131 => 89 | 5 => 5 | 218 => 95 | 222 => 99 | 228 => 102 | 229 => 103 | n => n, fun | n => n⟩
theorem Try.lays190 : Go.Proofs.Lays.n190 Try.prog Try.lays190_ren := {
  mixed := by kernel_rfl
  f125 := Try.func67.trans (congrArg some (by kernel_rfl))
  f128 := Try.func82.trans (congrArg some (by kernel_rfl))
  f129 := Try.func83.trans (congrArg some (by kernel_rfl))
  f190 := Try.func38.trans (congrArg some (by kernel_rfl))
  f258 := Try.func66.trans (congrArg some (by kernel_rfl))
  f302 := Try.func73.trans (congrArg some (by kernel_rfl))
  f303 := Try.func74.trans (congrArg some (by kernel_rfl))
  f304 := Try.func75.trans (congrArg some (by kernel_rfl))
  f305 := Try.func76.trans (congrArg some (by kernel_rfl))
  f306 := Try.func77.trans (congrArg some (by kernel_rfl))
  f307 := Try.func78.trans (congrArg some (by kernel_rfl))
  f308 := Try.func79.trans (congrArg some (by kernel_rfl))
  f309 := Try.func80.trans (congrArg some (by kernel_rfl))
  f310 := Try.func81.trans (congrArg some (by kernel_rfl))
  f329 := Try.func90.trans (congrArg some (by kernel_rfl))
  f330 := Try.func91.trans (congrArg some (by kernel_rfl))
  f333 := Try.func89.trans (congrArg some (by kernel_rfl))
  f334 := Try.func92.trans (congrArg some (by kernel_rfl))
  f335 := Try.func93.trans (congrArg some (by kernel_rfl))
  f336 := Try.func94.trans (congrArg some (by kernel_rfl))
  f344 := Try.func98.trans (congrArg some (by kernel_rfl))
  t0 := Try.underlying0
  a0 := Try.isAgg0
  z0 := Try.sizeOf0
  v0 := Try.zeroValue0
  t3 := Try.underlying3
  a3 := Try.isAgg3
  z3 := Try.sizeOf3
  v3 := Try.zeroValue3
  t4 := Try.underlying4
  a4 := Try.isAgg4
  z4 := Try.sizeOf4
  v4 := Try.zeroValue4
  t5 := Try.underlying5
  a5 := Try.isAgg5
  z5 := Try.sizeOf5
  v5 := Try.zeroValue5
  t9 := Try.underlying9
  a9 := Try.isAgg9
  z9 := Try.sizeOf9
  v9 := Try.zeroValue9
  t31 := Try.underlying32
  a31 := Try.isAgg32
  z31 := Try.sizeOf32
  v31 := Try.zeroValue32
  t46 := Try.underlying70
  a46 := Try.isAgg70
  z46 := Try.sizeOf70
  v46 := Try.zeroValue70
  t51 := Try.underlying92
  a51 := Try.isAgg92
  z51 := Try.sizeOf92
  v51 := Try.zeroValue92
  t53 := Try.underlying53
  a53 := Try.isAgg53
  z53 := Try.sizeOf53
  v53 := Try.zeroValue53
  t131 := Try.underlying89
  a131 := Try.isAgg89
  z131 := Try.sizeOf89
  v131 := Try.zeroValue89
  t182 := Try.underlying83
  a182 := Try.isAgg83
  z182 := Try.sizeOf83
  v182 := Try.zeroValue83
  t183 := Try.underlying84
  a183 := Try.isAgg84
  z183 := Try.sizeOf84
  v183 := Try.zeroValue84
  t218 := Try.underlying95
  a218 := Try.isAgg95
  z218 := Try.sizeOf95
  v218 := Try.zeroValue95
  t222 := Try.underlying99
  a222 := Try.isAgg99
  z222 := Try.sizeOf99
  v222 := Try.zeroValue99
  t228 := Try.underlying102
  a228 := Try.isAgg102
  z228 := Try.sizeOf102
  v228 := Try.zeroValue102
  t229 := Try.underlying103
  a229 := Try.isAgg103
  z229 := Try.sizeOf103
  v229 := Try.zeroValue103 }
open Go.Sort Go.RowKit in
theorem Try.slices_Sort_string (blk off cap : Nat) (ss : List (List UInt8)) (w : World) (hH : Holds encStr w blk off ss.toArray) (hblk : blk < w.heap.size) (hsz : ss.length < 4611686018427387904) :
    Calls Try.prog 38 #[.slice (some ⟨blk, off, none⟩) ss.length cap] w fun e w' =>
      e = .returned (.tuple #[]) ∧ ∃ n os, w' = grow (putRow encStr (Sort.ahead w n) blk off (ss.mergeSort fun x y => decide (x ≤ y)).toArray) os := Any.slices_Sort_string Try.lays190 blk off cap ss w hH hblk hsz
def Try.lays194_ren : Go.Shelf.Ren := ⟨fun | 194 => 39 | n => n, fun | 31 => 32 | 9 => 9 | 3 => 3 | 4 => 4 | 0 => 0 | n => n, fun | n => n⟩
theorem Try.lays194 : Go.Proofs.Lays.n194 Try.prog Try.lays194_ren := {
  mixed := by kernel_rfl
  f194 := Try.func39.trans (congrArg some (by kernel_rfl))
  t0 := Try.underlying0
  a0 := Try.isAgg0
  z0 := Try.sizeOf0
  v0 := Try.zeroValue0
  t3 := Try.underlying3
  a3 := Try.isAgg3
  z3 := Try.sizeOf3
  v3 := Try.zeroValue3
  t4 := Try.underlying4
  a4 := Try.isAgg4
  z4 := Try.sizeOf4
  v4 := Try.zeroValue4
  t9 := Try.underlying9
  a9 := Try.isAgg9
  z9 := Try.sizeOf9
  v9 := Try.zeroValue9
  t31 := Try.underlying32
  a31 := Try.isAgg32
  z31 := Try.sizeOf32
  v31 := Try.zeroValue32 }
open Go.RowKit Go.Lib Go.Sort in
theorem Try.slices_Compact_string (blk off cap : Nat) (zs : List (List UInt8)) (w : World) (hH : Holds encStr w blk off zs.toArray) (hsz : zs.length ≤ 9223372036854775807) (hcap : zs.length ≤ cap) :
    Calls Try.prog 39 #[.slice (some ⟨blk, off, none⟩) zs.length cap] w fun e w' => e = .returned (.slice (some ⟨blk, off, none⟩) (Lib.compact zs).length cap) ∧ ∃ q, w' = putRow encStr (Sort.ahead w q) blk off (Lib.compact zs ++ List.replicate (zs.length - (Lib.compact zs).length) []).toArray := Any.slices_Compact_string Try.lays194 blk off cap zs w hH hsz hcap
open Go.RowKit Go.Lib Go.Sort in
theorem Try.slices_Compact_string_empty (a : Option Addr) (cap : Nat) (w : World) :
    Calls Try.prog 39 #[.slice a 0 cap] w fun e w' => e = .returned (.slice a 0 cap) ∧ w' = w := Any.slices_Compact_string_empty Try.lays194 a cap w
open Go.RowKit Go.Sort in
theorem Try.slices_Sort_string_none (p : Option Addr) (cap : Nat) (w : World) :
    Calls Try.prog 38 #[.slice p 0 cap] w fun e w' => e = .returned (.tuple #[]) ∧ w' = w := Any.slices_Sort_string_none Try.lays190 p cap w
end Go.Proofs

/- Slices of strings. -/
namespace Go.Proofs.Ythdffenpgkbjkaa
open Go.RowKit

def st (L : List ByteArray) (i : Nat) : ByteArray := L.getD i ByteArray.empty
def scells (L : List ByteArray) : List Value := L.map Value.string
theorem scells_length (L : List ByteArray) : (scells L).length = L.length * 1 := by simp [scells]
theorem scells_one (L : List ByteArray) : ∀ u ∈ scells L, u.oneCell' = true := by
  intro u hu
  simp only [scells, List.mem_map] at hu
  obtain ⟨x, _, rfl⟩ := hu
  rfl
theorem scells_at {L : List ByteArray} {i : Nat} (h : i < L.length) : (scells L)[i]? = some (.string (st L i)) := by simp [scells, st, List.getD, h]
theorem scells_append (K L : List ByteArray) : scells (K ++ L) = scells K ++ scells L := by simp [scells]
theorem st_get {L : List ByteArray} {i : Nat} (h : i < L.length) : L[i] = st L i := by simp [st, List.getD, h]

/-- The value reads as the list of strings. -/
def Strs (w : World) (v : Value) (L : List ByteArray) : Prop := Rd w 1 v L.length (scells L)
/-- A row of the call's own that holds the strings. -/
def OwnS (w : World) (B : Nat) (v : Value) (L : List ByteArray) : Prop := w.ownsRow B 9 1 v L.length (scells L)
theorem Strs.grew {w w' : World} {v : Value} {L : List ByteArray} (h : Strs w v L) (hb : Grew w w') : Strs w' v L := Rd.grew h hb
theorem Strs.nil_ (w : World) : Strs w (.slice none 0 0) [] := Rd.nil_ w 1
theorem OwnS.strs {w : World} {B : Nat} {v : Value} {L : List ByteArray} (h : OwnS w B v L) : Strs w v L := Rd.of_own h
theorem OwnS.nil_ (w : World) (B : Nat) : OwnS w B (.slice none 0 0) [] := World.ownsRow_nil w B _ 1
theorem OwnS.grew {w w' : World} {B : Nat} {v : Value} {L : List ByteArray} (h : OwnS w B v L) (hb : Grew w w') : OwnS w' B v L := own_grew h hb
theorem OwnS.base {w : World} {B B' : Nat} {v : Value} {L : List ByteArray} (h : OwnS w B v L) (hb : B' ≤ B) : OwnS w B' v L := own_base h hb

theorem Strs.open_ {w : World} {v : Value} {L : List ByteArray} (h : Strs w v L) :
    (v = .slice none 0 0 ∧ L = []) ∨ ∃ b o c, v = .slice (some ⟨b, o, none⟩) L.length c ∧ L.length ≤ c ∧ c ≤ 9223372036854775807 ∧ b < w.heap.size ∧
      ∀ i, i < L.length → ∀ W, Grew w W → W.cell? ⟨b, o + i, none⟩ = some (.string (st L i)) := by
  obtain ⟨_, _, h3⟩ := h
  rcases h3 with ⟨h4, h5⟩ | ⟨b, o, c, h4, h5, h6, h7, h8⟩
  · exact .inl ⟨h4, List.eq_nil_of_length_eq_zero h5⟩
  · exact .inr ⟨b, o, c, h4, h5, h6, h7, fun i hi W hW => (hW.cell (p := ⟨b, o + i, none⟩) h7).trans (h8 _ _ (scells_at hi))⟩
theorem strs_slice {w : World} {v : Value} {L : List ByteArray} (h : Strs w v L) : ∃ A c, v = .slice A L.length c := by
  rcases h.open_ with ⟨rfl, rfl⟩ | ⟨b, o, c, rfl, _⟩
  · exact ⟨_, _, rfl⟩
  · exact ⟨_, _, rfl⟩
/-- A literal of strings in a new block. -/
theorem OwnS.lit (w : World) (B : Nat) (L : List ByteArray) (cs : Array Value) (hB : B ≤ w.heap.size) (hn : L.length ≤ 9223372036854775807) (hc : cs.toList = scells L) :
    OwnS (w.alloc (.cells cs 9)) B (.slice (some ⟨w.heap.size, 0, none⟩) L.length L.length) L := by
  have hl : cs.size = L.length * 1 := by rw [← Array.length_toList, hc, scells_length]
  have h := World.ownsRow_lit (e := 9) (size := 1) w cs L.length hB hn hl
  rw [hc] at h
  exact h
theorem OwnS.mk_ {w : World} {B : Nat} {L : List ByteArray} {g c : Nat} {cur : Array Value} (hB : B ≤ g) (hg : w.heap[g]? = some (.cells cur 9 (0, 0))) (hnc : L.length ≤ c) (hcm : c ≤ 9223372036854775807) (hcs : cur.size = c)
    (hc : ∀ i, i < L.length → cur[i]? = some (.string (st L i))) : OwnS w B (.slice (some ⟨g, 0, none⟩) L.length c) L := by
  refine ⟨scells_length L, .inr ⟨g, c, cur, rfl, hB, hg, hnc, hcm, by omega, ?_⟩⟩
  apply List.ext_getElem?
  intro j
  rw [List.getElem?_take]
  by_cases hj : j < L.length
  · rw [if_pos (by omega), scells_at hj]
    simpa using hc j hj
  · rw [if_neg (by omega), List.getElem?_eq_none (by rw [scells_length]; omega)]

theorem Try.infoStr : (Try.prog.info? 9).map (fun i => (i.zero, i.size, i.bytes)) = some (some (.string ByteArray.empty), 1, 16) := by kernel_rfl

/-- The call returns a new list of strings. -/
def GivesS (w : World) (L : List ByteArray) (e : Ending) (w' : World) : Prop := ∃ v, e = .returned v ∧ OwnS w' w.heap.size v L ∧ Grew w w'

end Go.Proofs.Ythdffenpgkbjkaa

/- Strings that are not larger than memory. -/
namespace Go.Proofs.Ythdffenpgkbjkaa
open Go.RowKit

/-- No text of the list is long. -/
def Fits (L : List ByteArray) : Prop := ∀ i, i < L.length → (st L i).size ≤ 1048576
end Go.Proofs.Ythdffenpgkbjkaa

/- Texts sorted, each once. -/
namespace Go.Proofs.Ythdffenpgkbjkaa
open Go.RowKit Go.Sort

/-! What compacting leaves. -/
theorem compact_sub (zs : List (List UInt8)) : (Lib.compact zs).Sublist zs := by
  have h : ((List.range zs.toArray.size).map (zs.toArray[·]!)) = zs := by have := Lib.range_map_get zs.toArray; simpa using this
  unfold Lib.compact Lib.compactUpTo
  have h2 := ((List.filter_sublist (l := List.range zs.length) (p := Lib.keeps zs.toArray)).map (zs.toArray[·]!))
  rw [show (List.range zs.length).map (zs.toArray[·]!) = zs by simpa using h] at h2
  exact h2
theorem compact_has (d : Array (List UInt8)) (m : Nat) : ∀ j, j < m → d[j]! ∈ Lib.compactUpTo d m := by
  intro j
  induction j with
  | zero =>
    intro hj
    exact List.mem_map.2 ⟨0, List.mem_filter.2 ⟨List.mem_range.2 hj, Lib.keeps_lt_one d 0 (by omega)⟩, rfl⟩
  | succ j ih =>
    intro hj
    by_cases h : d[j + 1]! = d[j]!
    · rw [h]; exact ih (by omega)
    · exact List.mem_map.2 ⟨j + 1, List.mem_filter.2 ⟨List.mem_range.2 hj, Lib.keeps_pos (by simpa using h)⟩, rfl⟩
theorem compact_mem (zs : List (List UInt8)) (x : List UInt8) : x ∈ Lib.compact zs ↔ x ∈ zs := by
  constructor
  · exact fun h => (compact_sub zs).subset h
  · intro h
    obtain ⟨j, hj, rfl⟩ := List.getElem_of_mem h
    have := compact_has zs.toArray zs.length j hj
    simpa [Lib.compact, getElem!_pos, hj] using this

/-- The bytes of texts. -/
def bl (L : List ByteArray) : List (List UInt8) := L.map (·.data.toList)
/-- Texts put together, sorted, each once. -/
def putB (L : List ByteArray) : List (List UInt8) := Lib.compact ((bl L).mergeSort fun x y => decide (x ≤ y))
theorem putB_mem (L : List ByteArray) (x : List UInt8) : x ∈ putB L ↔ x ∈ bl L := by
  unfold putB
  rw [compact_mem, (List.mergeSort_perm _ _).mem_iff]
/-- A part of them in some order. -/
theorem putB_perm (L : List ByteArray) : ∃ M, (putB L).Sublist M ∧ M.Perm (bl L) := ⟨_, compact_sub _, List.mergeSort_perm _ _⟩
theorem scells_bl (L : List ByteArray) : scells L = (bl L).map encStr := by
  unfold scells bl
  rw [List.map_map]
  apply List.map_congr_left
  intro x _
  rfl
theorem ofB (M : List (List UInt8)) : scells (M.map fun b => (⟨b.toArray⟩ : ByteArray)) = M.map encStr := by
  unfold scells
  rw [List.map_map]
  rfl
def putS (L : List ByteArray) : List ByteArray := (putB L).map fun b => (⟨b.toArray⟩ : ByteArray)

end Go.Proofs.Ythdffenpgkbjkaa

/- Texts in ascending order: what put makes. No program is in sight. -/
namespace Go.Proofs.Ythdffenpgkbjkaa
open Go.RowKit Go.Sort

theorem blt_le {a b : List UInt8} (h : a ≤ b) (hne : a ≠ b) : a < b := by
  by_cases h2 : a < b
  · exact h2
  · exact absurd (List.le_antisymm h (List.not_lt.1 h2)) hne
theorem upToB_lt (d : Array (List UInt8)) (hs : ∀ i j, i ≤ j → j < d.size → d[i]! ≤ d[j]!) : ∀ m, m ≤ d.size → (Lib.compactUpTo d m).Pairwise (· < ·) ∧ (∀ x ∈ Lib.compactUpTo d m, ∃ i, i < m ∧ x = d[i]!)
  | 0, _ => ⟨by simp [Lib.compactUpTo], fun x hx => by simp [Lib.compactUpTo] at hx⟩
  | m + 1, hm => by
    obtain ⟨h1, h2⟩ := upToB_lt d hs m (by omega)
    rw [Lib.compactUpTo_succ]
    by_cases hk : Lib.keeps d m = true
    · rw [if_pos hk]
      have hlt : ∀ i, i < m → d[i]! < d[m]! := fun i hi => by
        have h4 := hs i (m - 1) (by omega) (by omega)
        have h5 := hs (m - 1) m (by omega) (by omega)
        have h6 : ¬ d[m]! = d[m - 1]! := fun e => by
          rw [Lib.keeps_neg (by omega) e] at hk
          cases hk
        exact List.lt_of_le_of_lt h4 (blt_le h5 fun e => h6 e.symm)
      refine ⟨?_, fun x hx => ?_⟩
      · rw [List.pairwise_append]
        refine ⟨h1, List.pairwise_singleton _ _, fun x hx y hy => ?_⟩
        obtain ⟨i, hi, rfl⟩ := h2 x hx
        obtain rfl : y = d[m]! := by simpa using hy
        exact hlt i hi
      · rcases List.mem_append.1 hx with hx | hx
        · obtain ⟨i, hi, rfl⟩ := h2 x hx
          exact ⟨i, by omega, rfl⟩
        · exact ⟨m, by omega, by simpa using hx⟩
    · rw [if_neg hk, List.append_nil]
      refine ⟨h1, fun x hx => ?_⟩
      obtain ⟨i, hi, rfl⟩ := h2 x hx
      exact ⟨i, by omega, rfl⟩
theorem arrB_get {L : List (List UInt8)} {i : Nat} (h : i < L.length) : L.toArray[i]! = L[i] := by
  rw [getElem!_pos L.toArray i (by simpa using h)]
  simp
theorem sortedB_at {L : List (List UInt8)} (h : L.Pairwise (· ≤ ·)) {i j : Nat} (hij : i ≤ j) (hj : j < L.toArray.size) : L.toArray[i]! ≤ L.toArray[j]! := by
  have hj2 : j < L.length := by simpa using hj
  by_cases e : i = j
  · subst e; exact List.le_refl _
  · have := List.pairwise_iff_getElem.1 h i j (by omega) hj2 (by omega)
    have h1 : L.toArray[i]! = L[i]'(by omega) := arrB_get (by omega)
    have h2 : L.toArray[j]! = L[j]'(by omega) := arrB_get hj2
    rw [h1, h2]
    exact this
theorem mergeB_sorted (L : List (List UInt8)) : (L.mergeSort fun x y => decide (x ≤ y)).Pairwise (· ≤ ·) := by
  have h := List.pairwise_mergeSort (le := fun x y : List UInt8 => decide (x ≤ y)) (fun a b c h1 h2 => by simp only [decide_eq_true_eq] at h1 h2 ⊢; exact List.le_trans h1 h2) (fun a b => by simp only [Bool.or_eq_true, decide_eq_true_eq]; exact List.le_total a b) L
  exact h.imp (fun h => by simpa using h)

/-- Ascending, each once. -/
def Up (L : List ByteArray) : Prop := L.Pairwise fun a b => a.data.toList < b.data.toList
theorem putS_mem (L : List ByteArray) (s : ByteArray) : s ∈ putS L ↔ s ∈ L := by
  unfold putS
  constructor
  · intro h
    obtain ⟨b, hb, rfl⟩ := List.mem_map.1 h
    rw [putB_mem] at hb
    obtain ⟨s, hs, rfl⟩ := List.mem_map.1 hb
    have e : (⟨s.data.toList.toArray⟩ : ByteArray) = s := by cases s; simp
    rw [e]
    exact hs
  · intro h
    refine List.mem_map.2 ⟨s.data.toList, (putB_mem L _).2 (List.mem_map.2 ⟨s, h, rfl⟩), ?_⟩
    cases s; simp
theorem putS_up (L : List ByteArray) : Up (putS L) := by
  unfold Up putS
  rw [List.pairwise_map]
  refine (upToB_lt _ (fun _ _ h1 h2 => sortedB_at (mergeB_sorted (bl L)) h1 h2) _ (by simp)).1.imp ?_
  intro a b h
  simpa using h
theorem bdata_inj {a b : ByteArray} (h : a.data.toList = b.data.toList) : a = b := by
  cases a; cases b; simpa using h
/-- Ascending lists with the same members are the same. -/
theorem up_ext : ∀ {L M : List ByteArray}, Up L → Up M → (∀ x, x ∈ L ↔ x ∈ M) → L = M
  | [], [], _, _, _ => rfl
  | [], b :: M, _, _, h => absurd ((h b).2 (by simp)) (by simp)
  | a :: L, [], _, _, h => absurd ((h a).1 (by simp)) (by simp)
  | a :: L, b :: M, h1, h2, h => by
    obtain ⟨h3, h4⟩ := List.pairwise_cons.1 h1
    obtain ⟨h5, h6⟩ := List.pairwise_cons.1 h2
    have hab : a = b := by
      have ha := (h a).1 (by simp)
      have hb := (h b).2 (by simp)
      rcases List.mem_cons.1 ha with e | ha
      · exact e
      rcases List.mem_cons.1 hb with e | hb
      · exact e.symm
      exact absurd (List.lt_trans (h5 a ha) (h3 b hb)) (List.lt_irrefl _)
    subst hab
    congr 1
    refine up_ext h4 h6 fun x => ⟨fun hx => ?_, fun hx => ?_⟩
    · rcases List.mem_cons.1 ((h x).1 (List.mem_cons_of_mem _ hx)) with e | hx2
      · have := h3 x hx; rw [e] at this; exact absurd this (List.lt_irrefl _)
      · exact hx2
    · rcases List.mem_cons.1 ((h x).2 (List.mem_cons_of_mem _ hx)) with e | hx2
      · have := h5 x hx; rw [e] at this; exact absurd this (List.lt_irrefl _)
      · exact hx2

end Go.Proofs.Ythdffenpgkbjkaa

/- A list of nodes is that of one formula at most. No program is in sight. -/
namespace Go.Proofs.Ythdffenpgkbjkaa
open Fm (Nd)

theorem enc_pre (t : Fm.Tree) : ∀ (u : Fm.Tree) (a b : List Nd), Fm.enc t ++ a = Fm.enc u ++ b → t = u ∧ a = b := by
  induction t with
  | var v =>
    intro u a b h
    cases u <;> simp [Fm.enc] at h
    exact ⟨congrArg Fm.Tree.var (Fin.ext (by have := h.1; omega)), h.2⟩
  | fls =>
    intro u a b h
    cases u <;> simp [Fm.enc] at h
    exact ⟨rfl, h⟩
  | and x y hx hy =>
    intro u a b h
    cases u <;> simp [Fm.enc] at h
    obtain ⟨e1, h1⟩ := hx _ _ _ h
    obtain ⟨e2, h2⟩ := hy _ _ _ h1
    exact ⟨by rw [e1, e2], h2⟩
  | or x y hx hy =>
    intro u a b h
    cases u <;> simp [Fm.enc] at h
    obtain ⟨e1, h1⟩ := hx _ _ _ h
    obtain ⟨e2, h2⟩ := hy _ _ _ h1
    exact ⟨by rw [e1, e2], h2⟩
  | imp x y hx hy =>
    intro u a b h
    cases u <;> simp [Fm.enc] at h
    obtain ⟨e1, h1⟩ := hx _ _ _ h
    obtain ⟨e2, h2⟩ := hy _ _ _ h1
    exact ⟨by rw [e1, e2], h2⟩
  | box x hx =>
    intro u a b h
    cases u <;> simp [Fm.enc] at h
    obtain ⟨e1, h1⟩ := hx _ _ _ h
    exact ⟨by rw [e1], h1⟩
  | dia x hx =>
    intro u a b h
    cases u <;> simp [Fm.enc] at h
    obtain ⟨e1, h1⟩ := hx _ _ _ h
    exact ⟨by rw [e1], h1⟩
theorem enc_inj {t u : Fm.Tree} (h : Fm.enc t = Fm.enc u) : t = u := (enc_pre t u [] [] (by simpa using h)).1

end Go.Proofs.Ythdffenpgkbjkaa

/- The parts of a formula: at each node one begins. No program is in sight. -/
namespace Go.Proofs.Ythdffenpgkbjkaa
open Go.RowKit Go.Sort
open Fm (Tree)

theorem at_every (t : Tree) : ∀ (i : Nat) (rest : List Fm.Nd), i < (Fm.enc t).length → ∃ t', At (Fm.enc t ++ rest) i t' ∧ (Fm.enc t').length ≤ (Fm.enc t).length := by
  have hbin : ∀ (k : Int) (a b : Tree) (c : Tree), Fm.enc c = (k, 0) :: (Fm.enc a ++ Fm.enc b) → (∀ (i : Nat) (rest : List Fm.Nd), i < (Fm.enc a).length → ∃ t', At (Fm.enc a ++ rest) i t' ∧ (Fm.enc t').length ≤ (Fm.enc a).length) → (∀ (i : Nat) (rest : List Fm.Nd), i < (Fm.enc b).length → ∃ t', At (Fm.enc b ++ rest) i t' ∧ (Fm.enc t').length ≤ (Fm.enc b).length) → ∀ (i : Nat) (rest : List Fm.Nd), i < (Fm.enc c).length → ∃ t', At (Fm.enc c ++ rest) i t' ∧ (Fm.enc t').length ≤ (Fm.enc c).length := by
    intro k a b c he ha hb i rest hi
    match i with
    | 0 => exact ⟨c, ⟨rest, rfl⟩, Nat.le_refl _⟩
    | i + 1 =>
      have hl : (Fm.enc c).length = 1 + ((Fm.enc a).length + (Fm.enc b).length) := by rw [he]; simp; omega
      by_cases h1 : i < (Fm.enc a).length
      · obtain ⟨t', ⟨r, h2⟩, h3⟩ := ha i (Fm.enc b ++ rest) h1
        refine ⟨t', ⟨r, ?_⟩, by omega⟩
        rw [he, List.cons_append, List.drop_succ_cons, List.append_assoc]
        exact h2
      · obtain ⟨t', ⟨r, h2⟩, h3⟩ := hb (i - (Fm.enc a).length) rest (by omega)
        refine ⟨t', ⟨r, ?_⟩, by omega⟩
        rw [he, List.cons_append, List.drop_succ_cons, List.append_assoc, List.drop_append, List.drop_of_length_le (by omega), List.nil_append]
        exact h2
  have hone : ∀ (k : Int) (a : Tree) (c : Tree), Fm.enc c = (k, 0) :: Fm.enc a → (∀ (i : Nat) (rest : List Fm.Nd), i < (Fm.enc a).length → ∃ t', At (Fm.enc a ++ rest) i t' ∧ (Fm.enc t').length ≤ (Fm.enc a).length) → ∀ (i : Nat) (rest : List Fm.Nd), i < (Fm.enc c).length → ∃ t', At (Fm.enc c ++ rest) i t' ∧ (Fm.enc t').length ≤ (Fm.enc c).length := by
    intro k a c he ha i rest hi
    match i with
    | 0 => exact ⟨c, ⟨rest, rfl⟩, Nat.le_refl _⟩
    | i + 1 =>
      have hl : (Fm.enc c).length = 1 + (Fm.enc a).length := by rw [he]; simp; omega
      obtain ⟨t', ⟨r, h2⟩, h3⟩ := ha i rest (by omega)
      refine ⟨t', ⟨r, ?_⟩, by omega⟩
      rw [he, List.cons_append, List.drop_succ_cons]
      exact h2
  have hleaf : ∀ (c : Tree), (Fm.enc c).length = 1 → ∀ (i : Nat) (rest : List Fm.Nd), i < (Fm.enc c).length → ∃ t', At (Fm.enc c ++ rest) i t' ∧ (Fm.enc t').length ≤ (Fm.enc c).length := by
    intro c hc i rest hi
    obtain rfl : i = 0 := by omega
    exact ⟨c, ⟨rest, rfl⟩, Nat.le_refl _⟩
  induction t with
  | var v => exact hleaf _ (by simp [Fm.enc])
  | fls => exact hleaf _ (by simp [Fm.enc])
  | and x y hx hy => exact hbin 2 x y _ rfl hx hy
  | or x y hx hy => exact hbin 3 x y _ rfl hx hy
  | imp x y hx hy => exact hbin 4 x y _ rfl hx hy
  | box x hx => exact hone 5 x _ rfl hx
  | dia x hx => exact hone 6 x _ rfl hx
/-- The part that begins at a node. -/
theorem sub_ex (t : Tree) (i : Nat) : ∃ t' : Tree, i < (Fm.enc t).length → At (Fm.enc t) i t' ∧ (Fm.enc t').length ≤ (Fm.enc t).length := by
  by_cases hi : i < (Fm.enc t).length
  · obtain ⟨t', h1, h2⟩ := at_every t i [] hi
    rw [List.append_nil] at h1
    exact ⟨t', fun _ => ⟨h1, h2⟩⟩
  · exact ⟨t, fun h => absurd h hi⟩
noncomputable def sbt (t : Tree) (i : Nat) : Tree := Classical.choose (sub_ex t i)
theorem sbt_at {t : Tree} {i : Nat} (hi : i < (Fm.enc t).length) : At (Fm.enc t) i (sbt t i) ∧ (Fm.enc (sbt t i)).length ≤ (Fm.enc t).length := Classical.choose_spec (sub_ex t i) hi
/-- The first part is the formula. -/
theorem sbt_zero (t : Tree) : sbt t 0 = t := by
  obtain ⟨⟨r, h1⟩, h2⟩ := sbt_at (t := t) (i := 0) (Fm.enc_pos t)
  have hl := congrArg List.length h1
  rw [List.drop_zero, List.length_append] at hl
  rw [List.drop_zero] at h1
  have h3 := Fm.scan_one (sbt t 0) r
  rw [← h1] at h3
  have h4 := Fm.scan_one t []
  rw [List.append_nil, h3] at h4
  have h5 : (Fm.enc (sbt t 0)).length = (Fm.enc t).length := by simpa using h4
  obtain rfl : r = [] := List.eq_nil_of_length_eq_zero (by omega)
  rw [List.append_nil] at h1
  exact (enc_inj h1).symm
/-- The texts of the first n parts. -/
noncomputable def sbL (t : Tree) (n : Nat) : List ByteArray := (List.range n).map fun i => bs (Fm.txt (sbt t i) 0)
theorem sbL_succ (t : Tree) (n : Nat) : sbL t (n + 1) = sbL t n ++ [bs (Fm.txt (sbt t n) 0)] := by unfold sbL; rw [List.range_succ, List.map_append]; rfl
theorem sbL_len (t : Tree) (n : Nat) : (sbL t n).length = n := by simp [sbL]
theorem sbL_mem {t : Tree} {n : Nat} {s : ByteArray} (hs : s ∈ sbL t n) : ∃ i, i < n ∧ s = bs (Fm.txt (sbt t i) 0) := by
  unfold sbL at hs
  rw [List.mem_map] at hs
  obtain ⟨i, hi, rfl⟩ := hs
  exact ⟨i, List.mem_range.1 hi, rfl⟩
theorem sbL_self {t : Tree} {n : Nat} (hn : 0 < n) : bs (Fm.txt t 0) ∈ sbL t n := by
  unfold sbL
  exact List.mem_map.2 ⟨0, List.mem_range.2 hn, by rw [sbt_zero]⟩
end Go.Proofs.Ythdffenpgkbjkaa

/- A row of texts behind sorting and compacting. -/
namespace Go.Proofs.Ythdffenpgkbjkaa
open Go.RowKit Go.Sort

theorem left_put {w w1 : World} {g cap n nn q : Nat} {os : Array Obj} {ss : List (List UInt8)} (hown : w1.ownsRow w.heap.size 9 1 (.slice (some ⟨g, 0, none⟩) n cap) n (ss.map encStr)) (hbel : Grew w w1) (hbg : w.heap.size ≤ g) (hlen : ss.length = n) :
    (putRow encStr (Sort.ahead (grow (putRow encStr (Sort.ahead w1 nn) g 0 (ss.mergeSort fun x y => decide (x ≤ y)).toArray) os) q) g 0 (Lib.compact (ss.mergeSort fun x y => decide (x ≤ y)) ++ List.replicate (n - (Lib.compact (ss.mergeSort fun x y => decide (x ≤ y))).length) []).toArray).ownsRow w.heap.size 9 1 (.slice (some ⟨g, 0, none⟩) (Lib.compact (ss.mergeSort fun x y => decide (x ≤ y))).length cap) (Lib.compact (ss.mergeSort fun x y => decide (x ≤ y))).length ((Lib.compact (ss.mergeSort fun x y => decide (x ≤ y))).map encStr) ∧
    Grew w (putRow encStr (Sort.ahead (grow (putRow encStr (Sort.ahead w1 nn) g 0 (ss.mergeSort fun x y => decide (x ≤ y)).toArray) os) q) g 0 (Lib.compact (ss.mergeSort fun x y => decide (x ≤ y)) ++ List.replicate (n - (Lib.compact (ss.mergeSort fun x y => decide (x ≤ y))).length) []).toArray) := by
  have hl2 : (ss.mergeSort fun x y => decide (x ≤ y)).length = ss.length := List.length_mergeSort ss
  have hle := Lib.compact_length_le (ss.mergeSort fun x y => decide (x ≤ y))
  subst hlen
  rcases hown.2 with ⟨h0, _⟩ | ⟨g', cap', cur, hv, hbase, hb, h1, h2, h3, h4⟩
  · cases h0
  cases hv
  have hs := ownsRow_sorted (n := nn) (os := os) (ts := ss.mergeSort fun x y => decide (x ≤ y)) hl2 hbase hb h1 h2 h3
  have hc := Lib.ownsRow_putRow (q := q) (k := (Lib.compact (ss.mergeSort fun x y => decide (x ≤ y))).length) (ys := Lib.compact (ss.mergeSort fun x y => decide (x ≤ y)) ++ List.replicate (ss.length - (Lib.compact (ss.mergeSort fun x y => decide (x ≤ y))).length) []) hs (by simp; omega) (by omega)
  rw [List.take_left] at hc
  exact ⟨hc, Lib.below_putRow (Below.grown hbel (grownBy_sorted _) hbel.size (fun j hj => by cases hj; exact hbase)) hbg⟩

theorem putS_nil : putS [] = [] := by simp [putS, putB, bl, Lib.compact, Lib.compactUpTo]

end Go.Proofs.Ythdffenpgkbjkaa

/- Rows of slices of nodes of the call's own: an append of one slice. -/
namespace Go.Proofs.Ythdffenpgkbjkaa
open Go.RowKit
open Fm (Nd)

/-- A row of slices of the call's own. -/
def OwnV (w : World) (B : Nat) (v : Value) (us : List Value) : Prop := w.ownsRow B 24 1 v us.length us

theorem own_app {w w' : World} {B B' : Nat} {u v : Value} {xs : List Nd} {us : List Value} (h : Own w B u xs) (hv : OwnV w B' v us) (hg : w.grownBy w' v.ownBlock) : Own w' B u xs := by
  rcases hv.2 with ⟨rfl, _⟩ | ⟨g, cap, cur, rfl, _, hh, _⟩
  · exact own_grew h (by
      have hg' : w.grownBy w' none := hg
      exact ⟨hg'.os, hg'.tape, hg'.output, hg'.size, fun i hi => hg'.block i hi (by simp)⟩)
  · exact own_only h (show Only g w w' from hg) (own_ne h hh (by decide))

theorem infoSl : (Try.prog.info? 24).map (fun i => (i.zero, i.size, i.bytes)) = some (some (.slice none 0 0), 1, 24) := by kernel_rfl

theorem wpList_appV {ops : Array Oper} {rest : List Oper} {o : Oper} {a : Act} {Q : Exit → Act → World → Prop} {w w0 : World} (s x : Operand) (hgd : o.guard = none)
    (ho : o.op = .call { callee := .builtin .append, args := #[s, x], argTypes := #[61, 61] })
    (v : Value) (us : List Value) (hs : a.eval s = v) (hown : OwnV w w0.heap.size v us) (hg : Grew w0 w) (vx u : Value) (hx : a.eval x = vx) (hr : Rd w 1 vx 1 [u]) (h1 : u.oneCell' = true) (hn : us.length ≤ 1048576)
    (h : ∀ v' w', OwnV w' w0.heap.size v' (us ++ [u]) → Grew w0 w' → w.grownBy w' v.ownBlock → wpList Try.prog ops Q rest (a.put o.dst v') w') : wpList Try.prog ops Q (o :: rest) a w := by
  obtain ⟨i0, hi0, hz0, hz1, hz2⟩ := info_parts infoSl
  refine wpList_append_rd w hgd s x _ ho w0.heap.size 24 i0 _ 1 24 Try.underlying61 hi0 hz0 hz1 hz2 rfl (by omega) v us.length us hs hown vx 1 [u] hx hr (by simpa using h1) (by unfold maxLen; omega) (by omega) hg.size ?_
  intro v' w' h1 h2 h3
  refine h v' w' ?_ (hg.grown h2 fun k hk => (hown.lt k hk).1) h2
  unfold OwnV
  rw [List.length_append]
  exact h1

theorem own_one {w : World} {B : Nat} {u : Value} {xs : List Nd} (h : Own w B u xs) : u.oneCell' = true := by
  obtain ⟨A, c, rfl⟩ := nodes_slice h.nodes
  rfl
theorem rd_lit (w : World) (u : Value) (t : TypeId) : Rd (w.alloc (.cells #[u] t)) 1 (.slice (some ⟨w.heap.size, 0, none⟩) 1 1) 1 [u] := by
  refine ⟨rfl, by omega, .inr ⟨w.heap.size, 0, 1, rfl, by omega, by omega, by simp, fun j x hx => ?_⟩⟩
  have hj : j = 0 := by
    have := (List.getElem?_eq_some_iff.1 hx).1
    simp at this
    omega
  subst hj
  simp at hx
  subst hx
  simp

theorem own_empty (w : World) : OwnV (w.alloc (.cells #[] 24)) w.heap.size (.slice (some ⟨w.heap.size, 0, none⟩) 0 0) [] :=
  World.ownsRow_lit (e := 24) (size := 1) w #[] 0 (Nat.le_refl _) (by omega) rfl
end Go.Proofs.Ythdffenpgkbjkaa

/- A text appended to a row of strings of the call's own. -/
namespace Go.Proofs.Ythdffenpgkbjkaa
open Go.RowKit

/-- 'out = append(out, s)', out a row of strings of the call's own. -/
theorem wpList_appStr {ops : Array Oper} {rest : List Oper} {o : Oper} {a : Act} {Q : Exit → Act → World → Prop} {w w0 : World} (s x : Operand) (hgd : o.guard = none)
    (ho : o.op = .call { callee := .builtin .append, args := #[s, x], argTypes := #[32, 32] })
    (v : Value) (L : List ByteArray) (hs : a.eval s = v) (hown : OwnS w w0.heap.size v L) (hg : Grew w0 w) (vx : Value) (k : ByteArray) (hx : a.eval x = vx) (hr : Rd w 1 vx 1 [.string k]) (hn : L.length ≤ 1048576)
    (h : ∀ v' w', OwnS w' w0.heap.size v' (L ++ [k]) → Grew w0 w' → w.grownBy w' v.ownBlock → wpList Try.prog ops Q rest (a.put o.dst v') w') : wpList Try.prog ops Q (o :: rest) a w := by
  obtain ⟨i0, hi0, hz0, hz1, hz2⟩ := info_parts Try.infoStr
  refine wpList_append_rd w hgd s x _ ho w0.heap.size 9 i0 _ 1 16 Try.underlying32 hi0 hz0 hz1 hz2 rfl (by omega) v L.length (scells L) hs hown vx 1 [.string k] hx hr (by simp [Value.oneCell']) (by unfold maxLen; omega) (by omega) hg.size ?_
  intro v' w' h1 h2 h3
  refine h v' w' ?_ (hg.grown h2 fun k hk => (hown.lt k hk).1) h2
  unfold OwnS
  rw [List.length_append, scells_append]
  exact h1

end Go.Proofs.Ythdffenpgkbjkaa

/- SubformulasOf of the program. -/
namespace Go.Proofs.Ythdffenpgkbjkaa
open Go.RowKit Go.Sort

set_option maxHeartbeats 4000000 in
theorem subformulas_c (k : Nat) (A : Option Addr) (c : Nat) (t : Fm.Tree) (w : World) (h : Nodes w (.slice A (Fm.enc t).length c) (Fm.enc t)) (hl : (Fm.enc t).length ≤ 40) (hk : ∀ W, Grew w W → W.cell? ⟨k, 0, none⟩ = some (.slice A (Fm.enc t).length c)) :
    Calls Try.prog 20 #[.slice (some ⟨k, 0, none⟩) 1 1] w fun e w' => ∃ u, e = .returned u ∧ OwnS w' w.heap.size u (putS (sbL t (Fm.enc t).length)) ∧ Grew w w' := by
  have hpos := Fm.enc_pos t
  have KP := Lib.hid (fun i (hi : i < (Fm.enc t).length) W (hW : Grew w W) => part_c (.slice A (Fm.enc t).length c) (Fm.enc t) i (sbt t i) W (h.grew hW) (by omega) (sbt_at hi).1)
  have KT := Lib.hid (fun i (hi : i < (Fm.enc t).length) v W (hv : Nodes W v (Fm.enc (sbt t i))) => text_c (sbt t i) v W hv (by have := (sbt_at hi).2; omega))
  have HS := Lib.hid (fun i => sbL_succ t i)
  have HSL := Lib.hid (fun i => sbL_len t i)
  have HS0 : sbL t 0 = [] := rfl
  have k1 := hk _ (Grew.refl _)
  have hbl : (bl (sbL t (Fm.enc t).length)).length = (Fm.enc t).length := by simp [bl, sbL_len]
  have hP : putS (sbL t (Fm.enc t).length) = (Lib.compact ((bl (sbL t (Fm.enc t).length)).mergeSort fun x y => decide (x ≤ y))).map fun b => (⟨b.toArray⟩ : ByteArray) := rfl
  have hPL : (putS (sbL t (Fm.enc t).length)).length = (Lib.compact ((bl (sbL t (Fm.enc t).length)).mergeSort fun x y => decide (x ≤ y))).length := by rw [hP]; simp
  have HEND := Lib.hid (fun (w' : World) g cap (hown : w'.ownsRow w.heap.size 9 1 (.slice (some ⟨g, 0, none⟩) (Lib.compact ((bl (sbL t (Fm.enc t).length)).mergeSort fun x y => decide (x ≤ y))).length cap) (Lib.compact ((bl (sbL t (Fm.enc t).length)).mergeSort fun x y => decide (x ≤ y))).length ((Lib.compact ((bl (sbL t (Fm.enc t).length)).mergeSort fun x y => decide (x ≤ y))).map encStr)) =>
    (show OwnS w' w.heap.size (.slice (some ⟨g, 0, none⟩) (Lib.compact ((bl (sbL t (Fm.enc t).length)).mergeSort fun x y => decide (x ≤ y))).length cap) (putS (sbL t (Fm.enc t).length)) from by
      have hr := hown
      unfold OwnS
      rw [hPL]
      have e := ofB (Lib.compact ((bl (sbL t (Fm.enc t).length)).mergeSort fun x y => decide (x ≤ y)))
      rw [← hP] at e
      rw [e]
      exact hr))
  have HSC := scells_bl (sbL t (Fm.enc t).length)
  clear hP hPL h hk
  generalize hn : (Fm.enc t).length = n at *
  replace hn := Lib.hid hn
  go_enter Try.func20, Try.ntmps20
  go_wp2_with fail
  refine wp_loop_rounds 2 ?_
  rw [rounds_succ]
  go_wp2_with fail
  go_loopw [3, 6, 15] (fun v3 _ i wr => ∃ j : Nat, j ≤ n ∧ i = .int .i64 j ∧ OwnS wr w.heap.size v3 (sbL t j) ∧ Grew w wr) (fun _ _ i _ => n - (intOf i).toNat)
  case atStart => exact ⟨0, Nat.zero_le _, rfl, by rw [HS0]; exact OwnS.nil_ _ _, Grew.refl _⟩
  case round =>
    obtain ⟨j, hj, rfl, hO, hB⟩ := hrel
    by_cases hlt : j < n
    · have hP := Lib.hid (KP.out j hlt _ hB)
      have hT := Lib.hid (KT.out j hlt)
      have hS := Lib.hid (HS.out j)
      have hSL := HSL.out j
      unfold Says at hT
      generalize bs (Fm.txt (sbt t j) 0) = x at *
      generalize sbL t j = L at *
      go_wp2_with fail
      refine (hP.out).mono ?_
      rintro e w1 ⟨v1, rfl, hv1, hg1⟩
      have HV := Lib.hid hv1
      obtain ⟨A1, c1, rfl⟩ := nodes_slice hv1
      clear hv1
      go_wp2_with fail
      refine (hT.out _ _ HV.out).mono ?_
      rintro e w2 ⟨rfl, hg2⟩
      have hB2 := (hB.trans hg1).trans hg2
      have hO2 := hO.grew ((hg1.trans hg2).trans ((Grew.refl w2).alloc (.cells #[.string x] 9)))
      go_wp2_with (first | (at_builtin; refine wpList_appStr (w0 := w) _ _ rfl rfl _ L rfl hO2 (hB2.alloc _) _ x rfl (rd_lit _ _ _) (by omega) ?_; intro v3 w3 hown3 hg3 hgr3))
      go_roundw
      case rel => exact ⟨j + 1, by omega, by go_num, by rw [hS.out]; exact hown3, hg3⟩
      case measure => simp [intOf]; omega
    · obtain rfl : j = n := by omega
      have ho2 : wr.ownsRow w.heap.size 9 1 u3 j ((bl (sbL t j)).map encStr) := by
        have := hO
        unfold OwnS at this
        rw [HSC, HSL.out] at this
        exact this
      have hm0 : 0 < j := by omega
      obtain ⟨g, cap, rfl, hbg, hgl, hncap, hcm, hlen, hH⟩ := Lib.holds_of_ownsRow ho2 (by
        intro h0
        rw [h0] at ho2
        rcases ho2.2 with ⟨_, h3⟩ | ⟨_, _, _, h3, _⟩
        · omega
        · cases h3)
      have hcm2 : cap ≤ 9223372036854775807 := hcm
      have KS := Try.slices_Sort_string g 0 cap (bl (sbL t j)) wr hH hgl (by omega)
      rw [hlen] at KS
      replace KS := Lib.hid KS
      have X := Lib.hid (show _ ∧ _ from ⟨ho2, hH⟩)
      have KTc := Lib.hid (fun (nn : Nat) (os : Array Obj) => (by
        have hl2 : ((bl (sbL t j)).mergeSort fun x y => decide (x ≤ y)).length = j := by rw [List.length_mergeSort]; exact hlen
        have hH2 : Holds encStr (grow (putRow encStr (Sort.ahead wr nn) g 0 ((bl (sbL t j)).mergeSort fun x y => decide (x ≤ y)).toArray) os) g 0 ((bl (sbL t j)).mergeSort fun x y => decide (x ≤ y)).toArray :=
          holds_grow encStr _ os g 0 _ (by simpa [putRow, mapBlock, Sort.ahead] using hgl) (holds_putRow encStr _ g 0 _ _ (holds_ahead encStr wr nn g 0 _ hH) (by simp))
        have hc := Try.slices_Compact_string g 0 cap ((bl (sbL t j)).mergeSort fun x y => decide (x ≤ y)) _ hH2 (by omega) (by omega)
        rw [hl2] at hc
        exact hc))
      clear hO ho2 hH HSC hbl
      go_wp2_with fail
      rw [rounds_succ]
      go_wp2_with fail
      refine (KS.out).mono ?_
      rintro e w2 ⟨rfl, nn, os, rfl⟩
      go_wp2_with fail
      refine (KTc.out nn os).mono ?_
      rintro e w3 ⟨rfl, q, rfl⟩
      go_wp2_with fail
      go_ret
      obtain ⟨z1, z2⟩ := left_put (nn := nn) (q := q) (os := os) X.out.1 hB hbg hlen
      exact ⟨_, rfl, HEND.out _ _ _ z1, z2⟩
theorem subformulasOf_c (v : Value) (t : Fm.Tree) (w : World) (h : Nodes w v (Fm.enc t)) (hl : (Fm.enc t).length ≤ 40) :
    Calls Try.prog 11 #[v] w fun e w' => ∃ u, e = .returned (.tuple #[u, .int .i64 0]) ∧ OwnS w' w.heap.size u (putS (sbL t (Fm.enc t).length)) ∧ Grew w w' := by
  have KF := Lib.hid (isFormula_c v t w h hl)
  obtain ⟨A, c, rfl⟩ := nodes_slice h
  have KS := Lib.hid (fun W (hW : Grew w W) => subformulas_c W.heap.size A c t (W.alloc (.cells #[.slice A (Fm.enc t).length c] 24)) ((h.grew hW).grew ((Grew.refl W).alloc _)) hl (fun X hX => (hX.cell (p := ⟨W.heap.size, 0, none⟩) (by simp)).trans (by simp)))
  clear h hl
  generalize putS (sbL t (Fm.enc t).length) = R at *
  generalize (Fm.enc t).length = n at *
  go_enter Try.func11, Try.ntmps11
  go_wp2_with fail
  refine (KF.out).mono ?_
  rintro e w1 ⟨rfl, hg1⟩
  go_wp2_with fail
  refine (KS.out _ hg1).mono ?_
  rintro e w2 ⟨u, rfl, hu, hg2⟩
  have hal := hg1.alloc (.cells #[.slice A n c] 24)
  have HU := Lib.hid (hu.base hal.size)
  obtain ⟨AU, cu, rfl⟩ := strs_slice hu.strs
  clear hu
  go_wp2_with fail
  go_ret2
  exact ⟨_, rfl, HU.out, hal.trans hg2⟩
end Go.Proofs.Ythdffenpgkbjkaa

/- Contracts of the library (comparing strings), laid at this program. -/
namespace Go.Proofs
open Go.Shelf
def Try.lays213_ren : Go.Shelf.Ren := ⟨fun | 213 => 69 | 265 => 84 | n => n, fun | 9 => 9 | 3 => 3 | n => n, fun | n => n⟩
theorem Try.lays213 : Go.Proofs.Lays.n213 Try.prog Try.lays213_ren := {
  mixed := by kernel_rfl
  f213 := Try.func69.trans (congrArg some (by kernel_rfl))
  f265 := Try.func84.trans (congrArg some (by kernel_rfl))
  t3 := Try.underlying3
  a3 := Try.isAgg3
  z3 := Try.sizeOf3
  v3 := Try.zeroValue3
  t9 := Try.underlying9
  a9 := Try.isAgg9
  z9 := Try.sizeOf9
  v9 := Try.zeroValue9 }
def Try.lays106_ren : Go.Shelf.Ren := ⟨fun | 106 => 42 | 213 => 69 | 265 => 84 | n => n, fun | 9 => 9 | 3 => 3 | n => n, fun | n => n⟩
theorem Try.lays106 : Go.Proofs.Lays.n106 Try.prog Try.lays106_ren := {
  mixed := by kernel_rfl
  f106 := Try.func42.trans (congrArg some (by kernel_rfl))
  f213 := Try.func69.trans (congrArg some (by kernel_rfl))
  f265 := Try.func84.trans (congrArg some (by kernel_rfl))
  t3 := Try.underlying3
  a3 := Try.isAgg3
  z3 := Try.sizeOf3
  v3 := Try.zeroValue3
  t9 := Try.underlying9
  a9 := Try.isAgg9
  z9 := Try.sizeOf9
  v9 := Try.zeroValue9 }
open Go.RowKit in
theorem Try.strings_Compare (a b : ByteArray) (w : World) :
    Calls Try.prog 42 #[.string a, .string b] w fun e w' => e = .returned (.int .i64 (Lib.compareBytes a.data.toList b.data.toList)) ∧ w' = w := Any.strings_Compare Try.lays106 a b w
end Go.Proofs

/- CompareFormulas of the program at two formulas. -/
namespace Go.Proofs.Ythdffenpgkbjkaa
open Go.RowKit

theorem areF1_c (v : Value) (t : Fm.Tree) (w : World) (h : Nodes w v (Fm.enc t)) (hn : (Fm.enc t).length ≤ 40) :
    Calls Try.prog 41 #[v] w fun e w' => e = .returned (.bool false) ∧ Grew w w' := by
  have K := Lib.hid (isFormula_c v t w h hn)
  obtain ⟨A, c, rfl⟩ := nodes_slice h
  clear h hn
  generalize (Fm.enc t).length = n at *
  go_enter Try.func41, Try.ntmps41
  go_wp2_with fail
  refine (K.out).mono ?_
  rintro e w1 ⟨rfl, hg1⟩
  go_wp2_with fail
  go_ret
  exact ⟨rfl, hg1⟩
theorem indexF2_c (k f : Nat) (v1 v2 : Value) (w : World) (h1 : ∃ A n c, v1 = .slice A n c) (h2 : ∃ A n c, v2 = .slice A n c) (k1 : ∀ W, Grew w W → W.cell? ⟨k, 0, none⟩ = some v1) (k2 : ∀ W, Grew w W → W.cell? ⟨k, 1, none⟩ = some v2)
    (hf1 : ∀ W, Grew w W → Calls Try.prog f #[v1] W fun e W' => e = .returned (.bool false) ∧ Grew W W') (hf2 : ∀ W, Grew w W → Calls Try.prog f #[v2] W fun e W' => e = .returned (.bool false) ∧ Grew W W') (eg : ∀ args w, (callFunc f args).run Try.prog w = .ok (.enter f args) w) :
    Calls Try.prog 68 #[.slice (some ⟨k, 0, none⟩) 2 2, .func (.func f) #[] #[]] w fun e w' => e = .returned (.int .i64 (-1)) ∧ Grew w w' := by
  obtain ⟨A1, n1, c1, rfl⟩ := h1
  obtain ⟨A2, n2, c2, rfl⟩ := h2
  have K1 := Lib.hid k1
  have K2 := Lib.hid k2
  have F1 := Lib.hid hf1
  have F2 := Lib.hid hf2
  have q1 := k1 _ (Grew.refl _)
  clear k1 k2 hf1 hf2
  go_enter Try.func68, Try.ntmps68
  go_wp2_with fail
  refine wp_loop_rounds 3 ?_
  rw [rounds_succ]
  go_wp2_with fail
  go_at_fn f
  refine (F1.out _ (Grew.refl _)).mono ?_
  rintro e w1 ⟨rfl, hg1⟩
  have q2 := K2.out _ hg1
  go_wp2_with fail
  rw [rounds_succ]
  go_wp2_with fail
  go_at_fn f
  refine (F2.out _ hg1).mono ?_
  rintro e w2 ⟨rfl, hg2⟩
  go_wp2_with fail
  rw [rounds_succ]
  go_wp2_with fail
  go_ret
  exact ⟨rfl, hg1.trans hg2⟩
theorem areFormulas_c (k : Nat) (v1 v2 : Value) (s t : Fm.Tree) (w : World) (h1 : Nodes w v1 (Fm.enc s)) (h2 : Nodes w v2 (Fm.enc t)) (n1 : (Fm.enc s).length ≤ 40) (n2 : (Fm.enc t).length ≤ 40) (k1 : ∀ W, Grew w W → W.cell? ⟨k, 0, none⟩ = some v1) (k2 : ∀ W, Grew w W → W.cell? ⟨k, 1, none⟩ = some v2) :
    Calls Try.prog 21 #[.slice (some ⟨k, 0, none⟩) 2 2] w fun e w' => e = .returned (.bool true) ∧ Grew w w' := by
  have s1 : ∃ A n c, v1 = .slice A n c := by obtain ⟨A, c, e⟩ := nodes_slice h1; exact ⟨A, _, c, e⟩
  have s2 : ∃ A n c, v2 = .slice A n c := by obtain ⟨A, c, e⟩ := nodes_slice h2; exact ⟨A, _, c, e⟩
  have KI := Lib.hid (indexF2_c k 41 v1 v2 w s1 s2 k1 k2 (fun W hW => areF1_c v1 s W (h1.grew hW) n1) (fun W hW => areF1_c v2 t W (h2.grew hW) n2) (enters_of Try.func41 (by kernel_rfl) rfl))
  have KC : Hid (Calls Try.prog 40 #[.slice (some ⟨k, 0, none⟩) 2 2, .func (.func 41) #[] #[]] w fun e w' => e = .returned (.bool false) ∧ Grew w w') := Lib.hid (by
    clear h1 h2 n1 n2 k1 k2 s1 s2
    go_enter Try.func40, Try.ntmps40
    go_wp2_with fail
    refine (KI.out).mono ?_
    rintro e w1 ⟨rfl, hg1⟩
    go_wp2_with fail
    go_ret
    exact ⟨rfl, hg1⟩)
  clear h1 h2 n1 n2 k1 k2 s1 s2 KI
  go_enter Try.func21, Try.ntmps21
  go_wp2_with fail
  refine (KC.out).mono ?_
  rintro e w1 ⟨rfl, hg1⟩
  go_wp2_with fail
  go_ret
  exact ⟨rfl, hg1⟩
theorem compare_c (v1 v2 : Value) (s t : Fm.Tree) (w : World) (h1 : Nodes w v1 (Fm.enc s)) (h2 : Nodes w v2 (Fm.enc t)) (n1 : (Fm.enc s).length ≤ 40) (n2 : (Fm.enc t).length ≤ 40) :
    Calls Try.prog 22 #[v1, v2] w fun e w' => e = .returned (.int .i64 (Lib.compareBytes (Fm.txt s 0) (Fm.txt t 0))) ∧ Grew w w' := by
  have K1 := Lib.hid (text_c s v1 w h1 (by omega))
  have K2 := Lib.hid (fun W (hW : Grew w W) => text_c t v2 W (h2.grew hW) (by omega))
  have K3 := Lib.hid (fun W => Try.strings_Compare (bs (Fm.txt s 0)) (bs (Fm.txt t 0)) W)
  rw [bs_list, bs_list] at K3
  unfold Says at K1 K2
  obtain ⟨A1, c1, rfl⟩ := nodes_slice h1
  obtain ⟨A2, c2, rfl⟩ := nodes_slice h2
  clear h1 h2 n1 n2
  generalize Lib.compareBytes (Fm.txt s 0) (Fm.txt t 0) = R at *
  generalize (Fm.enc s).length = l1 at *
  generalize (Fm.enc t).length = l2 at *
  go_enter Try.func22, Try.ntmps22
  go_wp2_with fail
  refine (K1.out).mono ?_
  rintro e w1 ⟨rfl, hg1⟩
  go_wp2_with fail
  refine (K2.out _ hg1).mono ?_
  rintro e w2 ⟨rfl, hg2⟩
  go_wp2_with fail
  refine (K3.out _).mono ?_
  rintro e w3 ⟨rfl, rfl⟩
  go_wp2_with fail
  go_ret
  exact ⟨rfl, hg1.trans hg2⟩
theorem compareFormulas_c (v1 v2 : Value) (s t : Fm.Tree) (w : World) (h1 : Nodes w v1 (Fm.enc s)) (h2 : Nodes w v2 (Fm.enc t)) (n1 : (Fm.enc s).length ≤ 40) (n2 : (Fm.enc t).length ≤ 40) :
    Calls Try.prog 12 #[v1, v2] w fun e w' => e = .returned (.tuple #[.int .i64 (Lib.compareBytes (Fm.txt s 0) (Fm.txt t 0)), .int .i64 0]) ∧ Grew w w' := by
  have hal := (Grew.refl w).alloc (.cells #[v1, v2] 24)
  have KA := Lib.hid (areFormulas_c w.heap.size v1 v2 s t (w.alloc (.cells #[v1, v2] 24)) (h1.grew hal) (h2.grew hal) n1 n2 (fun W hW => (hW.cell (p := ⟨w.heap.size, 0, none⟩) (by simp)).trans (by simp)) (fun W hW => (hW.cell (p := ⟨w.heap.size, 1, none⟩) (by simp)).trans (by simp)))
  have KC := Lib.hid (fun W (hW : Grew w W) => compare_c v1 v2 s t W (h1.grew hW) (h2.grew hW) n1 n2)
  obtain ⟨A1, c1, rfl⟩ := nodes_slice h1
  obtain ⟨A2, c2, rfl⟩ := nodes_slice h2
  clear h1 h2 n1 n2
  generalize Lib.compareBytes (Fm.txt s 0) (Fm.txt t 0) = R at *
  generalize (Fm.enc s).length = l1 at *
  generalize (Fm.enc t).length = l2 at *
  go_enter Try.func12, Try.ntmps12
  go_wp2_with fail
  refine (KA.out).mono ?_
  rintro e w1 ⟨rfl, hg1⟩
  go_wp2_with fail
  refine (KC.out _ (hal.trans hg1)).mono ?_
  rintro e w2 ⟨rfl, hg2⟩
  go_wp2_with fail
  go_ret2
  exact ⟨rfl, (hal.trans hg1).trans hg2⟩
end Go.Proofs.Ythdffenpgkbjkaa

/- How texts are compared: 0 where they are the same, less than 0 where the first is ahead. No program is in sight. -/
namespace Go.Proofs.Ythdffenpgkbjkaa
open Go.Sort

theorem cmpB_zero : ∀ (a b : List UInt8), (Lib.compareBytes a b == 0) = (a == b)
  | [], [] => by simp [Lib.compareBytes]
  | [], _ :: _ => by simp [Lib.compareBytes]
  | _ :: _, [] => by simp [Lib.compareBytes]
  | a :: xs, b :: ys => by
    unfold Lib.compareBytes
    have ih := cmpB_zero xs ys
    by_cases h1 : a < b
    · rw [if_pos h1]
      have : a ≠ b := fun e => by subst e; exact absurd h1 (UInt8.lt_irrefl _)
      simp [this]
    · rw [if_neg h1]
      by_cases h2 : b < a
      · rw [if_pos h2]
        have : a ≠ b := fun e => by subst e; exact absurd h2 (UInt8.lt_irrefl _)
        simp [this]
      · rw [if_neg h2, ih]
        have : a = b := UInt8.le_antisymm (UInt8.not_lt.1 h2) (UInt8.not_lt.1 h1)
        subst this
        simp
theorem cmpB_less : ∀ (a b : List UInt8), decide (Lib.compareBytes a b < 0) = Op.bytesLess a b
  | [], [] => by rw [bytesLess_eq]; simp [Lib.compareBytes]
  | [], _ :: _ => by rw [bytesLess_eq]; simp [Lib.compareBytes]
  | _ :: _, [] => by rw [bytesLess_eq]; simp [Lib.compareBytes]
  | a :: xs, b :: ys => by
    have ih := cmpB_less xs ys
    rw [bytesLess_eq] at ih ⊢
    unfold Lib.compareBytes
    by_cases h1 : a < b
    · rw [if_pos h1]
      have : a :: xs < b :: ys := List.cons_lt_cons_iff.2 (.inl h1)
      simp [this]
    · rw [if_neg h1]
      by_cases h2 : b < a
      · rw [if_pos h2]
        have : ¬ a :: xs < b :: ys := fun h => by
          rcases List.cons_lt_cons_iff.1 h with h | ⟨h, _⟩
          · exact h1 h
          · subst h; exact absurd h2 (UInt8.lt_irrefl _)
        simp [this]
      · rw [if_neg h2, ih]
        have : a = b := UInt8.le_antisymm (UInt8.not_lt.1 h2) (UInt8.not_lt.1 h1)
        subst this
        have hiff : a :: xs < a :: ys ↔ xs < ys := ⟨fun h => by
          rcases List.cons_lt_cons_iff.1 h with h | ⟨_, h⟩
          · exact absurd h (UInt8.lt_irrefl _)
          · exact h, fun h => List.cons_lt_cons_iff.2 (.inr ⟨rfl, h⟩)⟩
        simp only [hiff]
end Go.Proofs.Ythdffenpgkbjkaa

/- The law FnTexts, walked. -/
namespace Go.Proofs.Ythdffenpgkbjkaa
open Go.RowKit
open Fm (Nd Tree)

/-- What is said of the list of the parts' texts. -/
structure TxL (L : List ByteArray) (t : Tree) : Prop where
  text : ∀ i, i < L.length → ∃ u, st L i = bs (Fm.txt u 0) ∧ (Fm.enc u).length ≤ 40
  up : Up L
  mem : bs (Fm.txt t 0) ∈ L
theorem txL {t : Tree} (hl : (Fm.enc t).length ≤ 40) : TxL (putS (sbL t (Fm.enc t).length)) t := by
  refine ⟨fun i hi => ?_, putS_up _, (putS_mem _ _).2 (sbL_self (Fm.enc_pos t))⟩
  have h1 : st (putS (sbL t (Fm.enc t).length)) i ∈ putS (sbL t (Fm.enc t).length) := by rw [← st_get hi]; exact List.getElem_mem hi
  obtain ⟨j, hj, he⟩ := sbL_mem ((putS_mem _ _).1 h1)
  exact ⟨_, he, by have := (sbt_at hj).2; omega⟩
theorem TxL.asc {L : List ByteArray} {t : Tree} (h : TxL L t) {m : Nat} (hm : m + 1 < L.length) : Op.bytesLess (st L m).toList (st L (m + 1)).toList = true := by
  have h1 := List.pairwise_iff_getElem.1 h.up m (m + 1) (by omega) hm (by omega)
  rw [st_get, st_get] at h1
  rw [Lib.toList_data, Lib.toList_data, bytesLess_eq, decide_eq_true h1]
/-- How the comparison's number stands to the texts. -/
theorem cmp_fit (x y : List UInt8) : (Lib.compareBytes x y == 0) = ((bs x).toList == (bs y).toList) ∧ decide (Lib.compareBytes x y < 0) = Op.bytesLess (bs x).toList (bs y).toList := by
  rw [Lib.toList_data, Lib.toList_data, bs_list, bs_list]
  exact ⟨cmpB_zero x y, cmpB_less x y⟩
/-- The flag tells whether the text is among the first k. -/
def Fd (L : List ByteArray) (T : ByteArray) (k : Nat) (f : Bool) : Prop := f = true ↔ ∃ i, i < k ∧ (st L i).toList == T.toList
theorem Fd.zero (L : List ByteArray) (T : ByteArray) : Fd L T 0 false := by
  unfold Fd; simp
theorem Fd.succ {L : List ByteArray} {T : ByteArray} {k : Nat} {f a : Bool} (h : Fd L T k f) (h1 : ((st L k).toList == T.toList) = a) : Fd L T (k + 1) (f || a) := by
  unfold Fd at *
  rw [Bool.or_eq_true, h, ← h1]
  constructor
  · rintro (⟨i, hi, he⟩ | he)
    · exact ⟨i, by omega, he⟩
    · exact ⟨k, by omega, he⟩
  · rintro ⟨i, hi, he⟩
    rcases Nat.lt_or_ge i k with hk | hk
    · exact .inl ⟨i, hk, he⟩
    · obtain rfl : i = k := by omega
      exact .inr he
theorem Fd.end_ {L : List ByteArray} {t : Tree} {f : Bool} (h : Fd L (bs (Fm.txt t 0)) L.length f) (hT : TxL L t) : f = true := by
  refine h.2 ?_
  obtain ⟨i, hi, he⟩ := List.mem_iff_getElem.1 hT.mem
  refine ⟨i, hi, ?_⟩
  rw [← st_get hi, he]
  simp

set_option maxRecDepth 100000 in
set_option maxHeartbeats 4000000 in
theorem lawTexts_c (v : Value) (N : Nat) (w : World) (h : ArgB w v N) :
    Calls Try.prog 3 #[v] w fun e w' => e = .returned (.bool true) ∧ Grew w w' := by
  have HB := big_c v N w h.1
  by_cases hbig : 4096 < N
  · rw [decide_eq_true hbig] at HB
    replace HB := Lib.hid HB
    clear h
    go_enter Try.func3, Try.ntmps3
    go_wp2_with fail
    refine HB.out.mono ?_
    rintro e w1 ⟨rfl, hg1⟩
    go_wp2_with fail
    go_ret
    exact ⟨rfl, hg1⟩
  rw [decide_eq_false hbig] at HB
  replace HB := Lib.hid HB
  have HD := Lib.hid (fun W (hW : Grew w W) (h : ArgB W v N) => drawTexts_c v N W h (by omega))
  have HA : Hid (∀ W, Grew w W → ArgB W v N) := Lib.hid (fun W hW => by
    obtain ⟨h1, h2, h3⟩ := h
    refine ⟨h1, h2, fun hp => ?_⟩
    obtain ⟨b, o, c, e, hb, hc, hm, hx⟩ := h3 hp
    refine ⟨b, o, c, e, Nat.lt_of_lt_of_le hb hW.size, hc, hm, fun j hj => ?_⟩
    obtain ⟨x, x0, x1, hcell⟩ := hx j hj
    exact ⟨x, x0, x1, (hW.cell (p := ⟨b, o + j, none⟩) hb).trans hcell⟩)
  clear h
  go_enter Try.func3, Try.ntmps3
  go_wp2_with fail
  refine HB.out.mono ?_
  rintro e w1 ⟨rfl, hg1⟩
  go_wp2_with fail
  refine (HD.out _ hg1 (HA.out _ hg1)).mono ?_
  rintro e w2 ⟨u, xs, rfl, hou, hlu, hg2⟩
  have hg12 := hg1.trans hg2
  have hnu := hou.nodes
  clear HB HD HA hg1 hg2 hou
  cases hf : fmB xs with
  | false =>
    have H1 := Lib.hid (fun W h => formulaText_no u xs W h (by omega) hf)
    have H2 := Lib.hid (fun W h => specText_no u xs W h (by omega) hf)
    have H3 := fun W h => isFormulaX_c u xs W h (by omega)
    rw [hf] at H3
    replace H3 := Lib.hid H3
    go_wp2_with fail
    refine (H1.out _ hnu).mono ?_
    rintro e w3 ⟨rfl, hg3⟩
    go_wp2_with fail
    refine (H2.out _ (hnu.grew hg3)).mono ?_
    rintro e w4 ⟨rfl, hg4⟩
    go_wp2_with fail
    refine (H3.out _ ((hnu.grew hg3).grew hg4)).mono ?_
    rintro e w5 ⟨rfl, hg5⟩
    go_wp2_with fail
    go_ret
    exact ⟨rfl, ((hg12.trans hg3).trans hg4).trans hg5⟩
  | true =>
  obtain ⟨t, rfl, htl⟩ := fmB_tree hf
  have hpos := Fm.enc_pos t
  have htx := Fm.txt_len t 0
  have H1 := Lib.hid (fun W h => formulaText_c u t W h htl)
  have H2 := Lib.hid (fun W h => specText_yes u t W h htl hf)
  have HI2 := fun w => parse_c (bs (Fm.txt t 0)) w (by rw [bs_size]; omega)
  rw [Fm.pf_txt t (by omega) htl] at HI2
  replace HI2 := Lib.hid HI2
  have HI3 := fun w => parse_c (bs ([40] ++ Fm.txt t 0 ++ [41])) w (by rw [bs_size]; simp; omega)
  rw [Fm.pf_par t htl] at HI3
  rw [← bs_append, ← bs_append] at HI3
  replace HI3 := Lib.hid HI3
  have HSub := Lib.hid (fun W h => subformulasOf_c u t W h htl)
  have hTL := txL htl
  have HP := Lib.hid (fun (s : Tree) (hs : (Fm.enc s).length ≤ 40) W => by
    have := parse_c (bs (Fm.txt s 0)) W (by have := Fm.txt_len s 0; rw [bs_size]; omega)
    rw [Fm.pf_txt s (by have := Fm.txt_len s 0; omega) hs] at this
    exact this)
  have HC := Lib.hid (fun v1 (s : Tree) W h1 h2 n1 => compareFormulas_c v1 u s t W h1 h2 n1 htl)
  have hsz : (bs (Fm.txt t 0)).size ≤ 160 := by rw [bs_size]; omega
  have HN := Lib.hid (fun W (h : Grew w2 W) => hnu.grew h)
  have HTL := Lib.hid hTL
  clear htx hf hTL hnu
  generalize putS (sbL t (Fm.enc t).length) = L at *
  have HT := Lib.hid (rfl : bs (Fm.txt t 0) = bs (Fm.txt t 0))
  generalize hT : bs (Fm.txt t 0) = T at *
  clear HT
  have hT := Lib.hid hT
  generalize hX : Fm.enc t = xs at *
  have hX := Lib.hid hX
  have hg22 := Grew.refl w2
  go_wp2_with fail
  refine (H1.out _ (HN.out _ hg22)).mono ?_
  rintro e w3 ⟨rfl, hg3⟩
  go_wp2_with fail
  refine (H2.out _ (HN.out _ hg3)).mono ?_
  rintro e w4 ⟨rfl, hg4⟩
  replace hg4 := hg3.trans hg4
  clear H1 H2 hg3
  go_wp2_with fail
  refine (HI2.out _).mono ?_
  rintro e w5 ⟨v5, rfl, ho5, hg5, _⟩
  have hg25 := hg4.trans hg5
  have hn5 := ho5.nodes
  clear hg4 hg5 ho5 HI2
  go_wp2_with fail
  refine (HI3.out _).mono ?_
  rintro e w6 ⟨v6, rfl, ho6, hg6, _⟩
  have hg26 := hg25.trans hg6
  have hn5 := hn5.grew hg6
  have hn6 := ho6.nodes
  clear hg25 hg6 ho6 HI3
  have hxl : xs.length ≤ 1099511627776 := by omega
  have K1 := Lib.hid (same_yes v5 u xs _ hn5 (HN.out _ hg26) hxl)
  go_wp2_with fail
  refine K1.out.mono ?_
  rintro e w7 ⟨rfl, hg7⟩
  have hg27 := hg26.trans hg7
  have K2 := Lib.hid (same_yes v6 u xs _ (hn6.grew hg7) (HN.out _ hg27) hxl)
  clear hn5 hn6 hg26 hg7 K1
  go_wp2_with fail
  refine K2.out.mono ?_
  rintro e w8 ⟨rfl, hg8⟩
  have hg28 := hg27.trans hg8
  clear hg27 hg8 K2
  go_wp2_with fail
  refine (HSub.out _ (HN.out _ hg28)).mono ?_
  rintro e w9 ⟨v9, rfl, ho9, hg9⟩
  have hg29 := hg28.trans hg9
  have hs9 := ho9.strs
  have hLp : 0 < L.length := List.length_pos_of_mem HTL.out.mem
  rcases hs9.open_ with ⟨_, hz⟩ | ⟨b, o, c, rfl, hlc, hcm, hb, hcell⟩
  · rw [hz] at hLp; simp at hLp
  have HCE := Lib.hid hcell
  have HAsc := Lib.hid (fun m hm => HTL.out.asc (m := m) hm)
  have HTx := Lib.hid (fun i hi => HTL.out.text i hi)
  have HEnd := Lib.hid (fun f (h : Fd L T L.length f) => (by rw [← hT.out] at h; exact h.end_ HTL.out : f = true))
  have HT1 := Lib.hid (fun x : List UInt8 => (by rw [← hT.out]; exact cmp_fit x (Fm.txt t 0) : (Lib.compareBytes x (Fm.txt t 0) == 0) = ((bs x).toList == T.toList) ∧ decide (Lib.compareBytes x (Fm.txt t 0) < 0) = Op.bytesLess (bs x).toList T.toList))
  clear hs9 ho9 hcell hg28 hg9 HSub
  generalize hn : L.length = n at *
  have hn := Lib.hid hn
  have hn0 : ((n : Int) == 0) = false := by simp; omega
  go_wp2_with fail
  clear hn0
  go_loopg [16, 17] n (fun k f i wr => ∃ (j : Nat) (fb : Bool), j ≤ n ∧ k = n - j ∧ i = .int .i64 j ∧ f = .bool fb ∧ Hid (Fd L T j fb) ∧ Grew w9 wr)
  case atStart => exact ⟨0, false, Nat.zero_le _, by omega, rfl, rfl, Lib.hid (Fd.zero L T), Grew.refl _⟩
  case round =>
    obtain ⟨j, fb, hj, rfl, rfl, rfl, HF, hB⟩ := hrel
    by_cases hlt : j < n
    · obtain ⟨s, hs, hsl⟩ := HTx.out j hlt
      have k1 := HCE.out j hlt
      have hpj := HP.out s hsl
      rw [← hs] at hpj
      obtain ⟨q1, q2⟩ := HT1.out (Fm.txt s 0)
      rw [← hs] at q1 q2
      have HPJ := Lib.hid hpj
      have HCJ := Lib.hid (fun v1 W h1 h2 => HC.out v1 s W h1 h2 hsl)
      have HS := Lib.hid (fun a h1 => HF.out.succ (k := j) (a := a) h1)
      have hlast : j = 0 ∨ ∃ m, j = m + 1 ∧ Op.bytesLess (st L m).toList (st L (m + 1)).toList = true ∧ ∀ W, Grew w9 W → W.cell? ⟨b, o + m, none⟩ = some (.string (st L m)) := by
        rcases Nat.eq_zero_or_pos j with h0 | h0
        · exact .inl h0
        · obtain ⟨m, rfl⟩ : ∃ m, j = m + 1 := ⟨j - 1, by omega⟩
          exact .inr ⟨m, rfl, HAsc.out m hlt, fun W hW => HCE.out m (by omega) W hW⟩
      have hlast := Lib.hid hlast
      clear hpj hs HCE HTx HAsc HEnd HP HC HT1
      generalize Fm.txt s 0 = tys at *
      generalize Lib.compareBytes tys (Fm.txt t 0) = r at *
      generalize Fm.enc s = ys at *
      go_wp2_with fail
      refine (HPJ.out _).mono ?_
      rintro e wa ⟨va, rfl, hoa, hga, _⟩
      have hBa := hB.trans hga
      have hna := hoa.nodes
      go_wp2_with fail
      refine (HCJ.out va _ hna (HN.out _ (hg29.trans hBa))).mono ?_
      rintro e wc ⟨rfl, hgc⟩
      have hBc := hBa.trans hgc
      clear hga hgc hna hoa HPJ HCJ HF hB hBa
      rcases hlast.out with rfl | ⟨m, rfl, hless, k0⟩
      · simp only [Nat.add_zero] at k1
        generalize st L 0 = x at *
        cases ha : (x.toList == T.toList) with
        | true =>
          rw [ha] at q1
          have hb2 : Op.bytesLess x.toList T.toList = false := by rw [← q2]; simp only [beq_iff_eq] at q1; rw [q1]; rfl
          rw [hb2] at q2
          have HS2 := HS.out true ha
          rw [Bool.or_true] at HS2
          replace HS2 := Lib.hid HS2
          go_wp2_with fail
          go_big_region
          cases fb
          all_goals
            go_wp2_with fail
            go_roundg (n - (1))
            case measure => omega
            case rel => exact ⟨1, _, by omega, rfl, by go_num, rfl, HS2, by first | assumption | exact hBc.drewN _⟩
        | false =>
          rw [ha] at q1
          have HS2 := HS.out false ha
          rw [Bool.or_false] at HS2
          replace HS2 := Lib.hid HS2
          cases hb2 : Op.bytesLess x.toList T.toList with
          | true =>
            rw [hb2] at q2
            go_wp2_with fail
            go_big_region
            cases fb
            all_goals
              go_wp2_with fail
              go_roundg (n - (1))
              case measure => omega
              case rel => exact ⟨1, _, by omega, rfl, by go_num, rfl, HS2, by first | assumption | exact hBc.drewN _⟩
          | false =>
            rw [hb2] at q2
            go_wp2_with fail
            go_big_region
            cases fb
            all_goals
              go_wp2_with fail
              go_roundg (n - (1))
              case measure => omega
              case rel => exact ⟨1, _, by omega, rfl, by go_num, rfl, HS2, by first | assumption | exact hBc.drewN _⟩
      · generalize st L (m + 1) = x at *
        generalize st L m = y at *
        cases ha : (x.toList == T.toList) with
        | true =>
          rw [ha] at q1
          have hb2 : Op.bytesLess x.toList T.toList = false := by rw [← q2]; simp only [beq_iff_eq] at q1; rw [q1]; rfl
          rw [hb2] at q2
          have HS2 := HS.out true ha
          rw [Bool.or_true] at HS2
          replace HS2 := Lib.hid HS2
          go_wp2_with fail
          go_big_region
          cases fb
          all_goals
            go_wp2_with fail
            go_roundg (n - (m + 1 + 1))
            case measure => omega
            case rel => exact ⟨m + 1 + 1, _, by omega, rfl, by go_num, rfl, HS2, by first | assumption | exact hBc.drewN _⟩
        | false =>
          rw [ha] at q1
          have HS2 := HS.out false ha
          rw [Bool.or_false] at HS2
          replace HS2 := Lib.hid HS2
          cases hb2 : Op.bytesLess x.toList T.toList with
          | true =>
            rw [hb2] at q2
            go_wp2_with fail
            go_big_region
            cases fb
            all_goals
              go_wp2_with fail
              go_roundg (n - (m + 1 + 1))
              case measure => omega
              case rel => exact ⟨m + 1 + 1, _, by omega, rfl, by go_num, rfl, HS2, by first | assumption | exact hBc.drewN _⟩
          | false =>
            rw [hb2] at q2
            go_wp2_with fail
            go_big_region
            cases fb
            all_goals
              go_wp2_with fail
              go_roundg (n - (m + 1 + 1))
              case measure => omega
              case rel => exact ⟨m + 1 + 1, _, by omega, rfl, by go_num, rfl, HS2, by first | assumption | exact hBc.drewN _⟩
    · obtain rfl : j = n := by omega
      have hfb := HEnd.out _ HF.out
      subst hfb
      go_wp2_with fail
      go_ret
      exact ⟨rfl, (hg12.trans hg29).trans hB⟩
end Go.Proofs.Ythdffenpgkbjkaa

/- A cell that is read lies in a block that is there. -/
namespace Go.Proofs.Ythdffenpgkbjkaa
open Go.RowKit

theorem cell_lt {w : World} {a : Addr} {u : Value} (h : w.cell? a = some u) : a.block < w.heap.size := by
  unfold World.cell? at h
  split at h
  · rename_i hh
    exact (Array.getElem?_eq_some_iff.1 hh).1
  · cases h

end Go.Proofs.Ythdffenpgkbjkaa

/- An argument that is a list of bytes. -/
namespace Go.Proofs.Ythdffenpgkbjkaa
open Go.RowKit

theorem argB_of_trod {H : Type} {enc : TypeId × Value → H} {P : Program} {W : World} {sp : Nat → Bool} {held : Bool} {n : Nat} {t e : TypeId} {v : Value} {y : DataW H × List MemPlace}
    (ht : P.underlying t = some (.slice e)) (he : P.underlying e = some (.int .u8)) (hc : P.cellsOf e = 1) (h : DataW.trod enc P W 0 sp held n t [v] = some y) : ∃ N, ArgB W v N := by
  rcases Go.ChangeShapes.open_ints ht he hc h with ⟨hv, _⟩ | ⟨a, len, cap, zs, hv, _, hl, hm, hz, _, hcell, hwf⟩
  · obtain rfl : v = .slice none 0 0 := by simpa using hv
    exact ⟨0, ⟨none, 0, rfl⟩, by omega, fun h => absurd h (by omega)⟩
  · obtain rfl : v = .slice (some a) len cap := by simpa using hv
    have hlm : len ≤ zs.length := by rw [hz]; split <;> omega
    have hmax : maxLen = 9223372036854775807 := by decide
    rw [hmax] at hm
    refine ⟨len, ⟨some a, cap, rfl⟩, by omega, fun hp => ?_⟩
    obtain ⟨b, off, spot⟩ := a
    have h0 := hcell 0 (by omega)
    have hspot : spot = none := by simpa [Addr.add] using World.cell?_spot h0
    subst hspot
    have hb := cell_lt h0
    have hadd : ∀ i, (⟨b, off, none⟩ : Addr).add i = ⟨b, off + i, none⟩ := fun i => by
      unfold Addr.add
      split
      · subst_vars; rfl
      · rfl
    rw [hadd] at hb
    refine ⟨b, off, cap, rfl, hb, hl, hm, fun j hj => ⟨zs.getD j 0, ?_, ?_, ?_⟩⟩
    · have hw := hwf (zs.getD j 0) (by simp [List.getD, show j < zs.length by omega])
      simp [Lit.wf, IntKind.min, IntKind.max, IntKind.signed, IntKind.bits] at hw
      have := hw.1
      simpa [List.getD] using this
    · have hw := hwf (zs.getD j 0) (by simp [List.getD, show j < zs.length by omega])
      simp [Lit.wf, IntKind.min, IntKind.max, IntKind.signed, IntKind.bits] at hw
      have := hw.2
      simp [List.getD] at this ⊢
      omega
    · rw [← hadd]
      exact hcell j (by omega)
end Go.Proofs.Ythdffenpgkbjkaa

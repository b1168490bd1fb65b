/- Texts in one file: Good PartP Text Parsed Strs IsText Cont Plain Gp Lf TmTree Range TmIs TmCont TmIs2 TmRaise TmKids OwnV TmPart TmFits TmFits2 TmIns0 Ctx MarkText RowLem TmMk0 Ints AppI CmpI ShelfI SrtI TmMapT TmRed TmCtT TmCtL. -/
import Derived.Lib.SlicesS
import Derived.Test.YtfpkfgimhanekaaGreatProg
import Derived.Deep.QuietTactic
import Derived.BigQuiet
import Derived.Deep.LoopGhost
import Derived.Outline
import Derived.Deep.RegionHeld3
import Derived.WalkSpells
import Derived.WalkLawsBesides
import Derived.Shelf.Abstract
import Derived.Lib.SliceRun
import Derived.Laws.BytesArg
import Derived.Deep.OwnRows
import Derived.Lib.OwnBridge
import Derived.Lib.RowBridge
import Derived.Sort.OwnSortedInts
import Derived.Ground.SlgnProg
import Derived.Shelf.SlicesG.CompactI
import Derived.Ground.SlgmProg
import Derived.Shelf.SortM.Plain
import Derived.Shelf.SortM.SortNone
import Derived.Test.YtfpkfgimhanekaaGreatPa1
set_option linter.all false

/- A text that reads to a tree whose text it is. -/
namespace Go.Proofs.YtfpkfgimhanekaaGreat
open Go.RowKit
open Fm (Nd)

theorem enc_pre (t : Fm.Tree) : ∀ (u : Fm.Tree) (a b : List Nd), Fm.enc t ++ a = Fm.enc u ++ b → t = u ∧ a = b := by
  induction t with
  | var v =>
    intro u a b h
    cases u <;> simp [Fm.enc] at h
    exact ⟨congrArg Fm.Tree.var (Fin.ext (by have := h.1; omega)), h.2⟩
  | fls =>
    intro u a b h
    cases u <;> simp [Fm.enc] at h
    exact ⟨rfl, h⟩
  | and x y hx hy =>
    intro u a b h
    cases u <;> simp [Fm.enc] at h
    obtain ⟨e1, h1⟩ := hx _ _ _ h
    obtain ⟨e2, h2⟩ := hy _ _ _ h1
    exact ⟨by rw [e1, e2], h2⟩
  | or x y hx hy =>
    intro u a b h
    cases u <;> simp [Fm.enc] at h
    obtain ⟨e1, h1⟩ := hx _ _ _ h
    obtain ⟨e2, h2⟩ := hy _ _ _ h1
    exact ⟨by rw [e1, e2], h2⟩
  | imp x y hx hy =>
    intro u a b h
    cases u <;> simp [Fm.enc] at h
    obtain ⟨e1, h1⟩ := hx _ _ _ h
    obtain ⟨e2, h2⟩ := hy _ _ _ h1
    exact ⟨by rw [e1, e2], h2⟩
  | box x hx =>
    intro u a b h
    cases u <;> simp [Fm.enc] at h
    obtain ⟨e1, h1⟩ := hx _ _ _ h
    exact ⟨by rw [e1], h1⟩
  | dia x hx =>
    intro u a b h
    cases u <;> simp [Fm.enc] at h
    obtain ⟨e1, h1⟩ := hx _ _ _ h
    exact ⟨by rw [e1], h1⟩
theorem enc_inj {t u : Fm.Tree} (h : Fm.enc t = Fm.enc u) : t = u := (enc_pre t u [] [] (by simpa using h)).1

/-- The text is the text of a formula. -/
def IsGood (s : ByteArray) : Prop := ∃ t, Fm.pf s = (Fm.enc t, 0, 0) ∧ bs (Fm.txt t 0) = s
noncomputable def gd (s : ByteArray) : Bool := @decide (IsGood s) (Classical.propDecidable _)
theorem gd_true {s : ByteArray} (h : IsGood s) : gd s = true := by
  unfold gd
  exact @decide_eq_true _ (Classical.propDecidable _) h
theorem gd_false {s : ByteArray} (h : ¬ IsGood s) : gd s = false := by
  unfold gd
  exact @decide_eq_false _ (Classical.propDecidable _) h

theorem pf_cases (s : ByteArray) : (∃ t, Fm.pf s = (Fm.enc t, 0, 0)) ∨ ∃ p c, Fm.pf s = ([], p, c) ∧ (c == 0) = false := by
  unfold Fm.pf
  split
  · exact .inr ⟨_, _, rfl, by decide⟩
  · split
    · exact .inr ⟨_, _, rfl, by decide⟩
    · split
      · exact .inr ⟨_, _, rfl, by decide⟩
      · obtain ⟨t, ht⟩ := Fm.parse_enc s.data.toList Fm.fuel
        refine .inl ⟨t, ?_⟩
        rw [← ht]
        rfl
theorem gd_bad {s : ByteArray} {p : Nat} {c : Int} (h : Fm.pf s = ([], p, c)) (hc : (c == 0) = false) : gd s = false := by
  apply gd_false
  rintro ⟨t, ht, _⟩
  rw [h] at ht
  simp only [Prod.mk.injEq] at ht
  rw [ht.2.2] at hc
  cases hc
theorem gd_tree {s : ByteArray} {t : Fm.Tree} (h : Fm.pf s = (Fm.enc t, 0, 0)) : gd s = ((bs (Fm.txt t 0)).toList == s.toList) := by
  have e : ((bs (Fm.txt t 0)).toList == s.toList) = true ↔ bs (Fm.txt t 0) = s := by
    exact Lib.bytes_beq_iff _ _
  cases hb : ((bs (Fm.txt t 0)).toList == s.toList) with
  | true => exact gd_true ⟨t, h, e.1 hb⟩
  | false =>
    apply gd_false
    rintro ⟨u, hu, hs⟩
    rw [h] at hu
    simp only [Prod.mk.injEq, and_true] at hu
    have := enc_inj hu
    subst this
    rw [e.2 hs] at hb
    cases hb

/-- What the reference's test of a text gives. -/
def GivesG (w : World) (s : ByteArray) (e : Ending) (w' : World) : Prop := ∃ v, e = .returned (.tuple #[v, .bool (gd s)]) ∧ Own w' w.heap.size v (Fm.pf s).1 ∧ Grew w w'

theorem l02Good_c (s : ByteArray) (w : World) (hs : s.size ≤ 140737488355328) :
    Calls Tryz.prog 80 #[.string s] w (GivesG w s) := by
  have HP := fun w => specParse_c s w hs
  unfold GivesG
  rcases pf_cases s with ⟨t, ht⟩ | ⟨p, c, hp, hc⟩
  · have hn := Fm.pf_len s
    rw [gd_tree ht]
    rw [ht] at HP hn ⊢
    simp only at HP hn ⊢
    replace HP := Lib.hid HP
    have HT := Lib.hid (fun v w h => l02Text_c t v w h (by omega))
    clear ht
    generalize Fm.enc t = xs at *
    go_enter Tryz.func80, Tryz.ntmps80
    go_wp2_with fail
    refine (HP.out _).mono ?_
    rintro e w1 ⟨v1, rfl, ho1, hg1, _⟩
    go_wp2_with fail
    refine (HT.out _ _ ho1.nodes).mono ?_
    rintro e w2 ⟨rfl, hg2⟩
    go_wp2_with fail
    go_ret2
    exact ⟨_, rfl, ho1.grew hg2, hg1.trans hg2⟩
  · rw [gd_bad hp hc]
    rw [hp] at HP ⊢
    replace HP := Lib.hid HP
    clear hp
    go_enter Tryz.func80, Tryz.ntmps80
    go_wp2_with fail
    refine (HP.out _).mono ?_
    rintro e w1 ⟨v1, rfl, ho1, hg1, _⟩
    go_wp2_with fail
    go_ret2
    exact ⟨.slice none 0 0, rfl, Own.nil_ _ _, hg1⟩
end Go.Proofs.YtfpkfgimhanekaaGreat

/- The parts of a formula, as the program's text needs them. -/
namespace Go.Proofs.YtfpkfgimhanekaaGreat
open Go.RowKit
open Fm (Nd Tree)

theorem first_c (v : Value) (xs : List Nd) (t : Tree) (w : World) (h : Nodes w v xs) (hn : xs.length ≤ 1099511627776) (ht : At xs 1 t) :
    Calls Tryz.prog 144 #[v] w (Cuts w (Fm.enc t)) := by
  have HT := Lib.hid ht
  clear ht
  go_enter Tryz.func144, Tryz.ntmps144
  go_wp2_with fail
  refine (part_c _ xs 1 t _ h hn HT.out).mono ?_
  rintro e w1 ⟨v1, rfl, hN1, hg1⟩
  go_wp2_with fail
  go_ret
  exact ⟨_, rfl, hN1, hg1⟩

theorem second_c (v : Value) (xs : List Nd) (a t : Tree) (w : World) (h : Nodes w v xs) (hn : xs.length ≤ 1099511627776) (ha : At xs 1 a) (ht : At xs (1 + (Fm.enc a).length) t) :
    Calls Tryz.prog 145 #[v] w (Cuts w (Fm.enc t)) := by
  have HA := Lib.hid ha
  have HT := Lib.hid ht
  clear ha ht
  go_enter Tryz.func145, Tryz.ntmps145
  go_wp2_with fail
  refine (partEnd_at _ xs 1 a _ h hn HA.out).mono ?_
  rintro e w1 ⟨rfl, hg1⟩
  go_wp2_with fail
  refine (part_c _ xs (1 + (Fm.enc a).length) t _ (h.grew hg1) hn HT.out).mono ?_
  rintro e w2 ⟨v2, rfl, hN2, hg2⟩
  go_wp2_with fail
  go_ret
  exact ⟨_, rfl, hN2, hg1.trans hg2⟩

theorem isFalsum_c (v : Value) (t : Tree) (w : World) (h : Nodes w v (Fm.enc t)) :
    Calls Tryz.prog 147 #[v] w fun e w' => e = .returned (.bool (Fm.isF t)) ∧ Grew w w' := by
  have hpos := Fm.enc_pos t
  rcases h.open_ with ⟨rfl, h0⟩ | ⟨b, o, c, rfl, hc, hm, hb, hf⟩
  · rw [h0] at hpos; simp at hpos
  · have k1 := (hf 0 (by omega) w (Grew.refl _)).1
    rw [kd_enc] at k1
    rw [isF_kind]
    simp only [Nat.zero_mul, Nat.add_zero] at k1
    clear hf h
    go_enter Tryz.func147, Tryz.ntmps147
    go_wp2_with fail
    go_ret
    exact ⟨rfl, Grew.refl _⟩

theorem isNegation_c (v : Value) (t : Tree) (w : World) (h : Nodes w v (Fm.enc t)) (hn : (Fm.enc t).length ≤ 1099511627776) :
    Calls Tryz.prog 146 #[v] w fun e w' => e = .returned (.bool (isNeg t)) ∧ Grew w w' := by
  have hpos := Fm.enc_pos t
  rcases h.open_ with ⟨rfl, h0⟩ | ⟨b, o, c, rfl, hc, hm, hb, hf⟩
  · rw [h0] at hpos; simp at hpos
  · have k1 := (hf 0 (by omega) w (Grew.refl _)).1
    rw [kd_enc] at k1
    simp only [Nat.zero_mul, Nat.add_zero] at k1
    clear hf
    by_cases hk : kindOf t = 4
    · obtain ⟨x, y, rfl⟩ : ∃ x y, t = .imp x y := by cases t <;> simp_all [kindOf]
      have ha := at_first (xs := Fm.enc (.imp x y)) (k := (4, 0)) (a := x) (rest := Fm.enc y) rfl
      have hb2 := at_second (xs := Fm.enc (.imp x y)) (k := (4, 0)) (a := x) (b := y) rfl
      have HA := Lib.hid ha
      have HB := Lib.hid hb2
      have HH := Lib.hid h
      have hE : isNeg (.imp x y) = Fm.isF y := rfl
      rw [hE]
      rw [hk] at k1
      clear ha hb2 h hE hk
      generalize Fm.enc (.imp x y) = T at *
      go_enter Tryz.func146, Tryz.ntmps146
      go_wp2_with fail
      refine (second_c _ T x y _ HH.out hn HA.out HB.out).mono ?_
      rintro e w1 ⟨v1, rfl, hN1, hg1⟩
      go_wp2_with fail
      refine (isFalsum_c _ y _ hN1).mono ?_
      rintro e w2 ⟨rfl, hg2⟩
      go_wp2_with fail
      go_ret
      exact ⟨by simp, hg1.trans hg2⟩
    · have hE : isNeg t = false := by cases t <;> simp_all [isNeg, kindOf]
      rw [hE]
      have hk' : (kindOf t == 4) = false := by simpa using hk
      clear hE hk h
      generalize kindOf t = K at *
      go_enter Tryz.func146, Tryz.ntmps146
      go_wp2_with fail
      go_ret
      exact ⟨rfl, Grew.refl _⟩

theorem levelOf_c (v : Value) (t : Tree) (w : World) (h : Nodes w v (Fm.enc t)) (hn : (Fm.enc t).length ≤ 1099511627776) :
    Calls Tryz.prog 143 #[v] w fun e w' => e = .returned (.int .i64 (Fm.own t)) ∧ Grew w w' := by
  have hpos := Fm.enc_pos t
  rcases h.open_ with ⟨rfl, h0⟩ | ⟨b, o, c, rfl, hc, hm, hb, hf⟩
  · rw [h0] at hpos; simp at hpos
  · have k1 := fun W hW => (hf 0 (by omega) W hW).1
    rw [kd_enc] at k1
    simp only [Nat.zero_mul, Nat.add_zero] at k1
    have HN := Lib.hid (fun w h => isNegation_c (.slice (some ⟨b, o, none⟩) (Fm.enc t).length c) t w h hn)
    have HH := Lib.hid h
    have hg0 := Grew.refl w
    clear hf h
    by_cases hk : kindOf t = 4
    · rw [hk] at k1
      cases hng : isNeg t with
      | true =>
        have hE : Fm.own t = 3 := by cases t <;> simp_all [isNeg, kindOf, Fm.own]
        rw [hE]
        rw [hng] at HN
        clear hE hk hng
        go_enter Tryz.func143, Tryz.ntmps143
        go_wp2_with fail
        refine (HN.out _ HH.out).mono ?_
        rintro e w1 ⟨rfl, hg1⟩
        go_wp2_with fail
        go_ret
        exact ⟨rfl, hg1⟩
      | false =>
        have hE : Fm.own t = 0 := by cases t <;> simp_all [isNeg, kindOf, Fm.own]
        rw [hE]
        rw [hng] at HN
        clear hE hk hng
        go_enter Tryz.func143, Tryz.ntmps143
        go_wp2_with fail
        refine (HN.out _ HH.out).mono ?_
        rintro e w1 ⟨rfl, hg1⟩
        go_wp2_with fail
        go_ret
        exact ⟨rfl, hg1⟩
    · have hk4 : (kindOf t == 4) = false := by simpa using hk
      by_cases hk3 : kindOf t = 3
      · have hE : Fm.own t = 1 := by cases t <;> simp_all [kindOf, Fm.own]
        rw [hE]
        rw [hk3] at k1
        clear hE hk hk4 hk3
        go_enter Tryz.func143, Tryz.ntmps143
        go_wp2_with fail
        go_ret
        exact ⟨rfl, Grew.refl _⟩
      by_cases hk2 : kindOf t = 2
      · have hE : Fm.own t = 2 := by cases t <;> simp_all [kindOf, Fm.own]
        rw [hE]
        rw [hk2] at k1
        clear hE hk hk4 hk3 hk2
        go_enter Tryz.func143, Tryz.ntmps143
        go_wp2_with fail
        go_ret
        exact ⟨rfl, Grew.refl _⟩
      · have hE : Fm.own t = 3 := by cases t <;> simp_all [kindOf, Fm.own]
        rw [hE]
        have hk3' : (kindOf t == 3) = false := by simpa using hk3
        have hk2' : (kindOf t == 2) = false := by simpa using hk2
        clear hE hk hk3 hk2 HN HH
        generalize kindOf t = K at *
        go_enter Tryz.func143, Tryz.ntmps143
        go_wp2_with fail
        go_ret
        exact ⟨rfl, Grew.refl _⟩
end Go.Proofs.YtfpkfgimhanekaaGreat

/- The text of a formula: the program's textAt. -/
namespace Go.Proofs.YtfpkfgimhanekaaGreat
open Go.RowKit
open Fm (Nd Tree)

def TextOk (t : Tree) : Prop := ∀ (l : Nat) (v : Value) (w : World), l ≤ 3 → Nodes w v (Fm.enc t) → (Fm.enc t).length ≤ 1048576 →
  Calls Tryz.prog 131 #[v, .int .i64 l] w (Says w (Fm.txt t l))
/-- The same where no brackets are needed. -/
def BodyOk (t : Tree) : Prop := ∀ (l : Nat) (v : Value) (w : World), l ≤ Fm.own t → Nodes w v (Fm.enc t) → (Fm.enc t).length ≤ 1048576 →
  Calls Tryz.prog 131 #[v, .int .i64 l] w (Says w (Fm.txt t l))

theorem body_and (x y : Tree) (hx : TextOk x) (hy : TextOk y) : BodyOk (.and x y) := by
  intro l v w hl h hn
  have hown : Fm.own (.and x y) = 2 := by rfl
  have hE : Fm.txt (.and x y) l = Fm.txt x 2 ++ [38] ++ Fm.txt y 3 := by
    rw [Fm.txt, Fm.wrap, if_neg (by omega)]
  rw [hE]
  rw [hown] at hl
  obtain ⟨b, o, c, rfl, hc, hm, k1⟩ := nodes_head h
  have hpos := Fm.enc_pos (.and x y)
  have HL := Lib.hid (levelOf_c _ _ w h (by omega))
  have HH := Lib.hid h
  have hg0 := Grew.refl w
  rw [hown] at HL
  rw [show kindOf (.and x y) = 2 from rfl] at k1
  have HA := Lib.hid (at_first (xs := Fm.enc (.and x y)) (k := (2, 0)) (a := x) (rest := Fm.enc y) rfl)
  have HB := Lib.hid (at_second (xs := Fm.enc (.and x y)) (k := (2, 0)) (a := x) (b := y) rfl)
  have hlen : (Fm.enc (.and x y)).length = 1 + ((Fm.enc x).length + (Fm.enc y).length) := by simp [Fm.enc]; omega
  have h1 := Fm.txt_len x 2
  have h2 := Fm.txt_len y 3
  have HX := Lib.hid hx
  have HY := Lib.hid hy
  have hn1 : (Fm.enc x).length ≤ 1048576 := by omega
  have hn2 : (Fm.enc y).length ≤ 1048576 := by omega
  clear hE h hx hy hlen hown
  generalize Fm.enc (.and x y) = T at *
  have s1 := bs_size (Fm.txt x 2)
  have s2 := bs_size (Fm.txt y 3)
  have z1 : (bs (Fm.txt x 2)).size ≤ 4194304 := by omega
  have z2 : (bs (Fm.txt y 3)).size ≤ 4194304 := by omega
  have HE : Hid (bs (Fm.txt x 2) ++ bs [38] ++ bs (Fm.txt y 3) = bs (Fm.txt x 2 ++ [38] ++ Fm.txt y 3)) := by unfold Hid; rw [bs_append, bs_append]
  clear s1 s2 h1 h2
  generalize Fm.txt x 2 ++ [38] ++ Fm.txt y 3 = Z at *
  go_enter Tryz.func131, Tryz.ntmps131
  go_wp2_with fail
  refine HL.out.mono ?_
  rintro e w1 ⟨rfl, hg1⟩
  go_wp2_with fail
  refine (first_c _ T x _ (HH.out.grew hg1) (by omega) HA.out).mono ?_
  rintro e w2 ⟨v2, rfl, hN2, hg2⟩
  go_wp2_with fail
  refine (HX.out 2 _ _ (by omega) hN2 hn1).mono ?_
  rintro e w3 ⟨rfl, hg3⟩
  go_wp2_with fail
  refine (second_c _ T x y _ (HH.out.grew ((hg1.trans hg2).trans hg3)) (by omega) HA.out HB.out).mono ?_
  rintro e w4 ⟨v4, rfl, hN4, hg4⟩
  go_wp2_with fail
  refine (HY.out 3 _ _ (by omega) hN4 hn2).mono ?_
  rintro e w5 ⟨rfl, hg5⟩
  go_wp2_with fail
  go_ret
  exact ⟨congrArg (fun z => Ending.returned (.string z)) HE.out, (((hg1.trans hg2).trans hg3).trans hg4).trans hg5⟩

theorem body_or (x y : Tree) (hx : TextOk x) (hy : TextOk y) : BodyOk (.or x y) := by
  intro l v w hl h hn
  have hown : Fm.own (.or x y) = 1 := by rfl
  have hE : Fm.txt (.or x y) l = Fm.txt x 1 ++ [124] ++ Fm.txt y 2 := by
    rw [Fm.txt, Fm.wrap, if_neg (by omega)]
  rw [hE]
  rw [hown] at hl
  obtain ⟨b, o, c, rfl, hc, hm, k1⟩ := nodes_head h
  have hpos := Fm.enc_pos (.or x y)
  have HL := Lib.hid (levelOf_c _ _ w h (by omega))
  have HH := Lib.hid h
  have hg0 := Grew.refl w
  rw [hown] at HL
  rw [show kindOf (.or x y) = 3 from rfl] at k1
  have HA := Lib.hid (at_first (xs := Fm.enc (.or x y)) (k := (3, 0)) (a := x) (rest := Fm.enc y) rfl)
  have HB := Lib.hid (at_second (xs := Fm.enc (.or x y)) (k := (3, 0)) (a := x) (b := y) rfl)
  have hlen : (Fm.enc (.or x y)).length = 1 + ((Fm.enc x).length + (Fm.enc y).length) := by simp [Fm.enc]; omega
  have h1 := Fm.txt_len x 1
  have h2 := Fm.txt_len y 2
  have HX := Lib.hid hx
  have HY := Lib.hid hy
  have hn1 : (Fm.enc x).length ≤ 1048576 := by omega
  have hn2 : (Fm.enc y).length ≤ 1048576 := by omega
  clear hE h hx hy hlen hown
  generalize Fm.enc (.or x y) = T at *
  have s1 := bs_size (Fm.txt x 1)
  have s2 := bs_size (Fm.txt y 2)
  have z1 : (bs (Fm.txt x 1)).size ≤ 4194304 := by omega
  have z2 : (bs (Fm.txt y 2)).size ≤ 4194304 := by omega
  have HE : Hid (bs (Fm.txt x 1) ++ bs [124] ++ bs (Fm.txt y 2) = bs (Fm.txt x 1 ++ [124] ++ Fm.txt y 2)) := by unfold Hid; rw [bs_append, bs_append]
  clear s1 s2 h1 h2
  generalize Fm.txt x 1 ++ [124] ++ Fm.txt y 2 = Z at *
  go_enter Tryz.func131, Tryz.ntmps131
  go_wp2_with fail
  refine HL.out.mono ?_
  rintro e w1 ⟨rfl, hg1⟩
  go_wp2_with fail
  refine (first_c _ T x _ (HH.out.grew hg1) (by omega) HA.out).mono ?_
  rintro e w2 ⟨v2, rfl, hN2, hg2⟩
  go_wp2_with fail
  refine (HX.out 1 _ _ (by omega) hN2 hn1).mono ?_
  rintro e w3 ⟨rfl, hg3⟩
  go_wp2_with fail
  refine (second_c _ T x y _ (HH.out.grew ((hg1.trans hg2).trans hg3)) (by omega) HA.out HB.out).mono ?_
  rintro e w4 ⟨v4, rfl, hN4, hg4⟩
  go_wp2_with fail
  refine (HY.out 2 _ _ (by omega) hN4 hn2).mono ?_
  rintro e w5 ⟨rfl, hg5⟩
  go_wp2_with fail
  go_ret
  exact ⟨congrArg (fun z => Ending.returned (.string z)) HE.out, (((hg1.trans hg2).trans hg3).trans hg4).trans hg5⟩

theorem body_imp (x y : Tree) (hf : Fm.isF y = false) (hx : TextOk x) (hy : TextOk y) : BodyOk (.imp x y) := by
  intro l v w hl h hn
  have hown : Fm.own (.imp x y) = 0 := by simp [Fm.own, hf]
  have hE : Fm.txt (.imp x y) l = Fm.txt x 1 ++ [62] ++ Fm.txt y 0 := by
    rw [Fm.txt, if_neg (by simp [hf]), Fm.wrap, if_neg (by omega)]
  rw [hE]
  rw [hown] at hl
  obtain ⟨b, o, c, rfl, hc, hm, k1⟩ := nodes_head h
  have hpos := Fm.enc_pos (.imp x y)
  have HL := Lib.hid (levelOf_c _ _ w h (by omega))
  have HH := Lib.hid h
  have hg0 := Grew.refl w
  have hng : isNeg (.imp x y) = false := hf
  have HG := Lib.hid (fun w h => isNegation_c (.slice (some ⟨b, o, none⟩) (Fm.enc (.imp x y)).length c) (.imp x y) w h (by omega))
  rw [hng] at HG
  rw [hown] at HL
  rw [show kindOf (.imp x y) = 4 from rfl] at k1
  have HA := Lib.hid (at_first (xs := Fm.enc (.imp x y)) (k := (4, 0)) (a := x) (rest := Fm.enc y) rfl)
  have HB := Lib.hid (at_second (xs := Fm.enc (.imp x y)) (k := (4, 0)) (a := x) (b := y) rfl)
  have hlen : (Fm.enc (.imp x y)).length = 1 + ((Fm.enc x).length + (Fm.enc y).length) := by simp [Fm.enc]; omega
  have h1 := Fm.txt_len x 1
  have h2 := Fm.txt_len y 0
  have HX := Lib.hid hx
  have HY := Lib.hid hy
  have hn1 : (Fm.enc x).length ≤ 1048576 := by omega
  have hn2 : (Fm.enc y).length ≤ 1048576 := by omega
  clear hE h hx hy hlen hown hng hf
  generalize Fm.enc (.imp x y) = T at *
  have s1 := bs_size (Fm.txt x 1)
  have s2 := bs_size (Fm.txt y 0)
  have z1 : (bs (Fm.txt x 1)).size ≤ 4194304 := by omega
  have z2 : (bs (Fm.txt y 0)).size ≤ 4194304 := by omega
  have HE : Hid (bs (Fm.txt x 1) ++ bs [62] ++ bs (Fm.txt y 0) = bs (Fm.txt x 1 ++ [62] ++ Fm.txt y 0)) := by unfold Hid; rw [bs_append, bs_append]
  clear s1 s2 h1 h2
  generalize Fm.txt x 1 ++ [62] ++ Fm.txt y 0 = Z at *
  go_enter Tryz.func131, Tryz.ntmps131
  go_wp2_with fail
  refine HL.out.mono ?_
  rintro e w1 ⟨rfl, hg1⟩
  go_wp2_with fail
  refine (HG.out _ (HH.out.grew hg1)).mono ?_
  rintro e w11 ⟨rfl, hg11⟩
  have hg1 := hg1.trans hg11
  go_wp2_with fail
  refine (first_c _ T x _ (HH.out.grew hg1) (by omega) HA.out).mono ?_
  rintro e w2 ⟨v2, rfl, hN2, hg2⟩
  go_wp2_with fail
  refine (HX.out 1 _ _ (by omega) hN2 hn1).mono ?_
  rintro e w3 ⟨rfl, hg3⟩
  go_wp2_with fail
  refine (second_c _ T x y _ (HH.out.grew ((hg1.trans hg2).trans hg3)) (by omega) HA.out HB.out).mono ?_
  rintro e w4 ⟨v4, rfl, hN4, hg4⟩
  go_wp2_with fail
  refine (HY.out 0 _ _ (by omega) hN4 hn2).mono ?_
  rintro e w5 ⟨rfl, hg5⟩
  go_wp2_with fail
  go_ret
  exact ⟨congrArg (fun z => Ending.returned (.string z)) HE.out, (((hg1.trans hg2).trans hg3).trans hg4).trans hg5⟩

theorem body_box (x : Tree) (hx : TextOk x) : BodyOk (.box x) := by
  intro l v w hl h hn
  have hown : Fm.own (.box x) = 3 := rfl
  have hE : Fm.txt (.box x) l = [91, 93] ++ Fm.txt x 3 := rfl
  rw [hE]
  rw [hown] at hl
  obtain ⟨b, o, c, rfl, hc, hm, k1⟩ := nodes_head h
  have hpos := Fm.enc_pos (.box x)
  have HL := Lib.hid (levelOf_c _ _ w h (by omega))
  have HH := Lib.hid h
  have hg0 := Grew.refl w
  rw [hown] at HL
  rw [show kindOf (.box x) = 5 from rfl] at k1
  have HA := Lib.hid (at_first (xs := Fm.enc (.box x)) (k := (5, 0)) (a := x) (rest := []) (by simp [Fm.enc]))
  have hlen : (Fm.enc (.box x)).length = 1 + (Fm.enc x).length := by simp [Fm.enc]; omega
  have h1 := Fm.txt_len x 3
  have HX := Lib.hid hx
  have hn1 : (Fm.enc x).length ≤ 1048576 := by omega
  clear hE h hx hlen hown
  generalize Fm.enc (.box x) = T at *
  have s1 := bs_size (Fm.txt x 3)
  have z1 : (bs (Fm.txt x 3)).size ≤ 4194304 := by omega
  have HE : Hid (bs [91, 93] ++ bs (Fm.txt x 3) = bs ([91, 93] ++ Fm.txt x 3)) := by unfold Hid; rw [bs_append]
  clear s1 h1
  generalize [91, 93] ++ Fm.txt x 3 = Z at *
  go_enter Tryz.func131, Tryz.ntmps131
  go_wp2_with fail
  refine HL.out.mono ?_
  rintro e w1 ⟨rfl, hg1⟩
  go_wp2_with fail
  refine (first_c _ T x _ (HH.out.grew hg1) (by omega) HA.out).mono ?_
  rintro e w2 ⟨v2, rfl, hN2, hg2⟩
  go_wp2_with fail
  refine (HX.out 3 _ _ (by omega) hN2 hn1).mono ?_
  rintro e w3 ⟨rfl, hg3⟩
  go_wp2_with fail
  go_ret
  exact ⟨congrArg (fun z => Ending.returned (.string z)) HE.out, (hg1.trans hg2).trans hg3⟩

theorem body_dia (x : Tree) (hx : TextOk x) : BodyOk (.dia x) := by
  intro l v w hl h hn
  have hown : Fm.own (.dia x) = 3 := rfl
  have hE : Fm.txt (.dia x) l = [60, 62] ++ Fm.txt x 3 := rfl
  rw [hE]
  rw [hown] at hl
  obtain ⟨b, o, c, rfl, hc, hm, k1⟩ := nodes_head h
  have hpos := Fm.enc_pos (.dia x)
  have HL := Lib.hid (levelOf_c _ _ w h (by omega))
  have HH := Lib.hid h
  have hg0 := Grew.refl w
  rw [hown] at HL
  rw [show kindOf (.dia x) = 6 from rfl] at k1
  have HA := Lib.hid (at_first (xs := Fm.enc (.dia x)) (k := (6, 0)) (a := x) (rest := []) (by simp [Fm.enc]))
  have hlen : (Fm.enc (.dia x)).length = 1 + (Fm.enc x).length := by simp [Fm.enc]; omega
  have h1 := Fm.txt_len x 3
  have HX := Lib.hid hx
  have hn1 : (Fm.enc x).length ≤ 1048576 := by omega
  clear hE h hx hlen hown
  generalize Fm.enc (.dia x) = T at *
  have s1 := bs_size (Fm.txt x 3)
  have z1 : (bs (Fm.txt x 3)).size ≤ 4194304 := by omega
  have HE : Hid (bs [60, 62] ++ bs (Fm.txt x 3) = bs ([60, 62] ++ Fm.txt x 3)) := by unfold Hid; rw [bs_append]
  clear s1 h1
  generalize [60, 62] ++ Fm.txt x 3 = Z at *
  go_enter Tryz.func131, Tryz.ntmps131
  go_wp2_with fail
  refine HL.out.mono ?_
  rintro e w1 ⟨rfl, hg1⟩
  go_wp2_with fail
  refine (first_c _ T x _ (HH.out.grew hg1) (by omega) HA.out).mono ?_
  rintro e w2 ⟨v2, rfl, hN2, hg2⟩
  go_wp2_with fail
  refine (HX.out 3 _ _ (by omega) hN2 hn1).mono ?_
  rintro e w3 ⟨rfl, hg3⟩
  go_wp2_with fail
  go_ret
  exact ⟨congrArg (fun z => Ending.returned (.string z)) HE.out, (hg1.trans hg2).trans hg3⟩

theorem body_tru (x : Tree) (hf : Fm.isF x = true) : BodyOk (.imp x .fls) := by
  intro l v w hl h hn
  have hown : Fm.own (.imp x .fls) = 3 := rfl
  have hE : Fm.txt (.imp x .fls) l = [84] := by
    rw [Fm.txt, if_pos (show Fm.isF .fls = true from rfl), if_pos hf]
  rw [hE]
  rw [hown] at hl
  obtain ⟨b, o, c, rfl, hc, hm, k1⟩ := nodes_head h
  have hpos := Fm.enc_pos (.imp x .fls)
  have HL := Lib.hid (levelOf_c _ _ w h (by omega))
  have HH := Lib.hid h
  have hg0 := Grew.refl w
  have HG := Lib.hid (fun w h => isNegation_c (.slice (some ⟨b, o, none⟩) (Fm.enc (.imp x .fls)).length c) (.imp x .fls) w h (by omega))
  rw [show isNeg (.imp x .fls) = true from rfl] at HG
  rw [hown] at HL
  rw [show kindOf (.imp x .fls) = 4 from rfl] at k1
  have HA := Lib.hid (at_first (xs := Fm.enc (.imp x .fls)) (k := (4, 0)) (a := x) (rest := Fm.enc .fls) rfl)
  have hlen : (Fm.enc (.imp x .fls)).length = 2 + (Fm.enc x).length := by simp [Fm.enc]; omega
  have hn1 : (Fm.enc x).length ≤ 1048576 := by omega
  have HI := Lib.hid (fun v w h => isFalsum_c v x w h)
  rw [hf] at HI
  clear hE h hlen hown hf
  generalize Fm.enc (.imp x .fls) = T at *
  go_enter Tryz.func131, Tryz.ntmps131
  go_wp2_with fail
  refine HL.out.mono ?_
  rintro e w1 ⟨rfl, hg1⟩
  go_wp2_with fail
  refine (HG.out _ (HH.out.grew hg1)).mono ?_
  rintro e w11 ⟨rfl, hg11⟩
  have hg1 := hg1.trans hg11
  go_wp2_with fail
  refine (first_c _ T x _ (HH.out.grew hg1) (by omega) HA.out).mono ?_
  rintro e w2 ⟨v2, rfl, hN2, hg2⟩
  go_wp2_with fail
  refine (HI.out _ _ hN2).mono ?_
  rintro e w3 ⟨rfl, hg3⟩
  go_wp2_with fail
  go_ret
  exact ⟨rfl, (hg1.trans hg2).trans hg3⟩

theorem body_not (x : Tree) (hf : Fm.isF x = false) (hx : TextOk x) : BodyOk (.imp x .fls) := by
  intro l v w hl h hn
  have hown : Fm.own (.imp x .fls) = 3 := rfl
  have hE : Fm.txt (.imp x .fls) l = [126] ++ Fm.txt x 3 := by
    rw [Fm.txt, if_pos (show Fm.isF .fls = true from rfl), if_neg (by simp [hf])]
  rw [hE]
  rw [hown] at hl
  obtain ⟨b, o, c, rfl, hc, hm, k1⟩ := nodes_head h
  have hpos := Fm.enc_pos (.imp x .fls)
  have HL := Lib.hid (levelOf_c _ _ w h (by omega))
  have HH := Lib.hid h
  have hg0 := Grew.refl w
  have HG := Lib.hid (fun w h => isNegation_c (.slice (some ⟨b, o, none⟩) (Fm.enc (.imp x .fls)).length c) (.imp x .fls) w h (by omega))
  rw [show isNeg (.imp x .fls) = true from rfl] at HG
  rw [hown] at HL
  rw [show kindOf (.imp x .fls) = 4 from rfl] at k1
  have HA := Lib.hid (at_first (xs := Fm.enc (.imp x .fls)) (k := (4, 0)) (a := x) (rest := Fm.enc .fls) rfl)
  have hlen : (Fm.enc (.imp x .fls)).length = 2 + (Fm.enc x).length := by simp [Fm.enc]; omega
  have hn1 : (Fm.enc x).length ≤ 1048576 := by omega
  have HI := Lib.hid (fun v w h => isFalsum_c v x w h)
  rw [hf] at HI
  have h1 := Fm.txt_len x 3
  have HX := Lib.hid hx
  have s1 := bs_size (Fm.txt x 3)
  have z1 : (bs (Fm.txt x 3)).size ≤ 4194304 := by omega
  have HE : Hid (bs [126] ++ bs (Fm.txt x 3) = bs ([126] ++ Fm.txt x 3)) := by unfold Hid; rw [bs_append]
  clear s1 h1 hx
  generalize [126] ++ Fm.txt x 3 = Z at *
  clear hE h hlen hown hf
  generalize Fm.enc (.imp x .fls) = T at *
  go_enter Tryz.func131, Tryz.ntmps131
  go_wp2_with fail
  refine HL.out.mono ?_
  rintro e w1 ⟨rfl, hg1⟩
  go_wp2_with fail
  refine (HG.out _ (HH.out.grew hg1)).mono ?_
  rintro e w11 ⟨rfl, hg11⟩
  have hg1 := hg1.trans hg11
  go_wp2_with fail
  refine (first_c _ T x _ (HH.out.grew hg1) (by omega) HA.out).mono ?_
  rintro e w2 ⟨v2, rfl, hN2, hg2⟩
  go_wp2_with fail
  refine (HI.out _ _ hN2).mono ?_
  rintro e w3 ⟨rfl, hg3⟩
  go_wp2_with fail
  refine (first_c _ T x _ (HH.out.grew ((hg1.trans hg2).trans hg3)) (by omega) HA.out).mono ?_
  rintro e w4 ⟨v4, rfl, hN4, hg4⟩
  go_wp2_with fail
  refine (HX.out 3 _ _ (by omega) hN4 hn1).mono ?_
  rintro e w5 ⟨rfl, hg5⟩
  go_wp2_with fail
  go_ret
  exact ⟨congrArg (fun z => Ending.returned (.string z)) HE.out, (((hg1.trans hg2).trans hg3).trans hg4).trans hg5⟩

theorem body_fls : BodyOk .fls := by
  intro l v w hl h hn
  have hE : Fm.txt .fls l = [70] := rfl
  rw [hE]
  rw [show Fm.own .fls = 3 from rfl] at hl
  obtain ⟨b, o, c, rfl, hc, hm, k1⟩ := nodes_head h
  have hpos := Fm.enc_pos (.fls)
  have HL := Lib.hid (levelOf_c _ _ w h (by omega))
  have HH := Lib.hid h
  have hg0 := Grew.refl w
  rw [show Fm.own .fls = 3 from rfl] at HL
  rw [show kindOf .fls = 1 from rfl] at k1
  clear hE h
  generalize Fm.enc .fls = T at *
  go_enter Tryz.func131, Tryz.ntmps131
  go_wp2_with fail
  refine HL.out.mono ?_
  rintro e w1 ⟨rfl, hg1⟩
  go_wp2_with fail
  go_ret
  exact ⟨rfl, hg1⟩

theorem body_var (n : Fin 6) : BodyOk (.var n) := by
  intro l v w hl h hn
  have hE : Fm.txt (.var n) l = [UInt8.ofNat (112 + n.val)] := rfl
  rw [hE]
  rw [show Fm.own (.var n) = 3 from rfl] at hl
  have k2 : ∃ b o c, v = .slice (some ⟨b, o, none⟩) (Fm.enc (.var n)).length c ∧ ∀ W, Grew w W → W.cell? ⟨b, o + 1, none⟩ = some (.int .i64 (n.val : Int)) := by
    rcases h.open_ with ⟨_, h0⟩ | ⟨b, o, c, hv, _, _, _, hf⟩
    · simp [Fm.enc] at h0
    · refine ⟨b, o, c, hv, fun W hW => ?_⟩
      have := (hf 0 (by simp [Fm.enc]) W hW).2
      rw [show sy (Fm.enc (.var n)) 0 = (n.val : Int) from rfl] at this
      simpa using this
  obtain ⟨b, o, c, rfl, hc, hm, k1⟩ := nodes_head h
  have hpos := Fm.enc_pos (.var n)
  have HL := Lib.hid (levelOf_c _ _ w h (by omega))
  have HH := Lib.hid h
  have hg0 := Grew.refl w
  obtain ⟨b', o', c', hv', k2⟩ := k2
  simp only [Value.slice.injEq, Option.some.injEq, Addr.mk.injEq, and_true, true_and] at hv'
  obtain ⟨⟨rfl, rfl⟩, rfl⟩ := hv'
  rw [show Fm.own (.var n) = 3 from rfl] at HL
  rw [show kindOf (.var n) = 0 from rfl] at k1
  have hn6 := n.isLt
  clear hE h
  generalize Fm.enc (.var n) = T at *
  generalize n.val = q at *
  go_enter Tryz.func131, Tryz.ntmps131
  go_wp2_with fail
  refine HL.out.mono ?_
  rintro e w1 ⟨rfl, hg1⟩
  go_wp2_with fail
  go_quiet (fail)
  go_wp2_with fail
  go_ret
  exact ⟨congrArg (fun z => Ending.returned (.string z)) (letter_cut hn6), hg1.drewN _⟩

theorem textOk_of (t : Tree) (hb : BodyOk t) : TextOk t := by
  intro l v w hl h hn
  by_cases hw : Fm.own t < l
  · have hE : Fm.txt t l = [40] ++ Fm.txt t 0 ++ [41] := by
      cases t with
      | var n => simp [Fm.own] at hw; omega
      | fls => simp [Fm.own] at hw; omega
      | and x y => simp only [Fm.own] at hw; simp [Fm.txt, Fm.wrap, hw]
      | or x y => simp only [Fm.own] at hw; simp [Fm.txt, Fm.wrap, hw]
      | imp x y =>
        cases hf : Fm.isF y with
        | true => simp [Fm.own, hf] at hw; omega
        | false => simp [Fm.own, hf] at hw; simp [Fm.txt, Fm.wrap, hf, hw]
      | box x => simp [Fm.own] at hw; omega
      | dia x => simp [Fm.own] at hw; omega
    rw [hE]
    have h1 := Fm.txt_len t 0
    have s1 := bs_size (Fm.txt t 0)
    have z1 : (bs (Fm.txt t 0)).size ≤ 4194304 := by omega
    have HL := Lib.hid (levelOf_c _ _ w h (by omega))
    have HB := Lib.hid (fun w h => hb 0 v w (Nat.zero_le _) h hn)
    have HH := Lib.hid h
    have HE : Hid (bs [40] ++ bs (Fm.txt t 0) ++ bs [41] = bs ([40] ++ Fm.txt t 0 ++ [41])) := by unfold Hid; rw [bs_append, bs_append]
    clear hE h1 s1 hb h
    generalize Fm.own t = q at *
    generalize [40] ++ Fm.txt t 0 ++ [41] = Z at *
    go_enter Tryz.func131, Tryz.ntmps131
    go_wp2_with fail
    refine HL.out.mono ?_
    rintro e w1 ⟨rfl, hg1⟩
    go_wp2_with fail
    refine (HB.out _ (HH.out.grew hg1)).mono ?_
    rintro e w2 ⟨rfl, hg2⟩
    go_wp2_with fail
    go_ret
    exact ⟨congrArg (fun z => Ending.returned (.string z)) HE.out, hg1.trans hg2⟩
  · exact hb l v w (by omega) h hn

theorem text_ok (t : Tree) : TextOk t := by
  induction t with
  | var n => exact textOk_of _ (body_var n)
  | fls => exact textOk_of _ body_fls
  | and x y hx hy => exact textOk_of _ (body_and x y hx hy)
  | or x y hx hy => exact textOk_of _ (body_or x y hx hy)
  | imp x y hx hy =>
    cases hf : Fm.isF y with
    | true =>
      obtain rfl := Fm.isF_eq hf
      cases hg : Fm.isF x with
      | true => exact textOk_of _ (body_tru x hg)
      | false => exact textOk_of _ (body_not x hg hx)
    | false => exact textOk_of _ (body_imp x y hf hx hy)
  | box x hx => exact textOk_of _ (body_box x hx)
  | dia x hx => exact textOk_of _ (body_dia x hx)

theorem text_c (t : Tree) (v : Value) (w : World) (h : Nodes w v (Fm.enc t)) (hn : (Fm.enc t).length ≤ 1048576) :
    Calls Tryz.prog 116 #[v] w (Says w (Fm.txt t 0)) := by
  have HT := Lib.hid (text_ok t 0 v w (by omega) h hn)
  go_enter Tryz.func116, Tryz.ntmps116
  go_wp2_with fail
  refine HT.out.mono ?_
  rintro e w1 ⟨rfl, hg1⟩
  go_wp2_with fail
  go_ret
  exact ⟨rfl, hg1⟩
end Go.Proofs.YtfpkfgimhanekaaGreat

/- The program's 'parsed'. -/
namespace Go.Proofs.YtfpkfgimhanekaaGreat
open Go.RowKit
open Fm (Nd)

/-- A new list, nil where it is empty. -/
def GivesN (w : World) (xs : List Nd) (e : Ending) (w' : World) : Prop := ∃ v, e = .returned v ∧ Own w' w.heap.size v xs ∧ Grew w w' ∧ (xs = [] → v = .slice none 0 0)

theorem parsed_c (s : ByteArray) (w : World) (hs : s.size ≤ 140737488355328) :
    Calls Tryz.prog 95 #[.string s] w (GivesN w (Fm.pf s).1) := by
  have HP := Lib.hid (fun w => parse_c s w hs)
  generalize Fm.pf s = r at *
  go_enter Tryz.func95, Tryz.ntmps95
  go_wp2_with fail
  refine (HP.out _).mono ?_
  rintro e w1 ⟨v1, rfl, ho1, hg1, hz1⟩
  have HZ := Lib.hid hz1
  clear hz1
  go_wp2_with fail
  go_ret
  exact ⟨_, rfl, ho1, hg1, HZ.out⟩
end Go.Proofs.YtfpkfgimhanekaaGreat

/- Slices of strings. -/
namespace Go.Proofs.YtfpkfgimhanekaaGreat
open Go.RowKit

def st (L : List ByteArray) (i : Nat) : ByteArray := L.getD i ByteArray.empty
def scells (L : List ByteArray) : List Value := L.map Value.string
theorem scells_length (L : List ByteArray) : (scells L).length = L.length * 1 := by simp [scells]
theorem scells_one (L : List ByteArray) : ∀ u ∈ scells L, u.oneCell' = true := by
  intro u hu
  simp only [scells, List.mem_map] at hu
  obtain ⟨x, _, rfl⟩ := hu
  rfl
theorem scells_at {L : List ByteArray} {i : Nat} (h : i < L.length) : (scells L)[i]? = some (.string (st L i)) := by simp [scells, st, List.getD, h]
theorem scells_append (K L : List ByteArray) : scells (K ++ L) = scells K ++ scells L := by simp [scells]
theorem st_get {L : List ByteArray} {i : Nat} (h : i < L.length) : L[i] = st L i := by simp [st, List.getD, h]

/-- The value reads as the list of strings. -/
def Strs (w : World) (v : Value) (L : List ByteArray) : Prop := Rd w 1 v L.length (scells L)
/-- A row of the call's own that holds the strings. -/
def OwnS (w : World) (B : Nat) (v : Value) (L : List ByteArray) : Prop := w.ownsRow B 9 1 v L.length (scells L)
theorem Strs.grew {w w' : World} {v : Value} {L : List ByteArray} (h : Strs w v L) (hb : Grew w w') : Strs w' v L := Rd.grew h hb
theorem Strs.nil_ (w : World) : Strs w (.slice none 0 0) [] := Rd.nil_ w 1
theorem OwnS.strs {w : World} {B : Nat} {v : Value} {L : List ByteArray} (h : OwnS w B v L) : Strs w v L := Rd.of_own h
theorem OwnS.nil_ (w : World) (B : Nat) : OwnS w B (.slice none 0 0) [] := World.ownsRow_nil w B _ 1
theorem OwnS.grew {w w' : World} {B : Nat} {v : Value} {L : List ByteArray} (h : OwnS w B v L) (hb : Grew w w') : OwnS w' B v L := own_grew h hb
theorem OwnS.base {w : World} {B B' : Nat} {v : Value} {L : List ByteArray} (h : OwnS w B v L) (hb : B' ≤ B) : OwnS w B' v L := own_base h hb

theorem Strs.open_ {w : World} {v : Value} {L : List ByteArray} (h : Strs w v L) :
    (v = .slice none 0 0 ∧ L = []) ∨ ∃ b o c, v = .slice (some ⟨b, o, none⟩) L.length c ∧ L.length ≤ c ∧ c ≤ 9223372036854775807 ∧ b < w.heap.size ∧
      ∀ i, i < L.length → ∀ W, Grew w W → W.cell? ⟨b, o + i, none⟩ = some (.string (st L i)) := by
  obtain ⟨_, _, h3⟩ := h
  rcases h3 with ⟨h4, h5⟩ | ⟨b, o, c, h4, h5, h6, h7, h8⟩
  · exact .inl ⟨h4, List.eq_nil_of_length_eq_zero h5⟩
  · exact .inr ⟨b, o, c, h4, h5, h6, h7, fun i hi W hW => (hW.cell (p := ⟨b, o + i, none⟩) h7).trans (h8 _ _ (scells_at hi))⟩
theorem strs_slice {w : World} {v : Value} {L : List ByteArray} (h : Strs w v L) : ∃ A c, v = .slice A L.length c := by
  rcases h.open_ with ⟨rfl, rfl⟩ | ⟨b, o, c, rfl, _⟩
  · exact ⟨_, _, rfl⟩
  · exact ⟨_, _, rfl⟩
/-- A literal of strings in a new block. -/
theorem OwnS.lit (w : World) (B : Nat) (L : List ByteArray) (cs : Array Value) (hB : B ≤ w.heap.size) (hn : L.length ≤ 9223372036854775807) (hc : cs.toList = scells L) :
    OwnS (w.alloc (.cells cs 9)) B (.slice (some ⟨w.heap.size, 0, none⟩) L.length L.length) L := by
  have hl : cs.size = L.length * 1 := by rw [← Array.length_toList, hc, scells_length]
  have h := World.ownsRow_lit (e := 9) (size := 1) w cs L.length hB hn hl
  rw [hc] at h
  exact h
theorem OwnS.mk_ {w : World} {B : Nat} {L : List ByteArray} {g c : Nat} {cur : Array Value} (hB : B ≤ g) (hg : w.heap[g]? = some (.cells cur 9 (0, 0))) (hnc : L.length ≤ c) (hcm : c ≤ 9223372036854775807) (hcs : cur.size = c)
    (hc : ∀ i, i < L.length → cur[i]? = some (.string (st L i))) : OwnS w B (.slice (some ⟨g, 0, none⟩) L.length c) L := by
  refine ⟨scells_length L, .inr ⟨g, c, cur, rfl, hB, hg, hnc, hcm, by omega, ?_⟩⟩
  apply List.ext_getElem?
  intro j
  rw [List.getElem?_take]
  by_cases hj : j < L.length
  · rw [if_pos (by omega), scells_at hj]
    simpa using hc j hj
  · rw [if_neg (by omega), List.getElem?_eq_none (by rw [scells_length]; omega)]

theorem Tryz.infoStr : (Tryz.prog.info? 9).map (fun i => (i.zero, i.size, i.bytes)) = some (some (.string ByteArray.empty), 1, 16) := by kernel_rfl

/-- The call returns a new list of strings. -/
def GivesS (w : World) (L : List ByteArray) (e : Ending) (w' : World) : Prop := ∃ v, e = .returned v ∧ OwnS w' w.heap.size v L ∧ Grew w w'

end Go.Proofs.YtfpkfgimhanekaaGreat

/- isText of the program. -/
namespace Go.Proofs.YtfpkfgimhanekaaGreat
open Go.RowKit
open Fm (Nd)

theorem text0_c (t : Fm.Tree) (v : Value) (w : World) (h : Nodes w v (Fm.enc t)) (hn : (Fm.enc t).length ≤ 1048576) :
    Calls Tryz.prog 116 #[v] w (Says w (Fm.txt t 0)) := text_c t v w h hn

theorem isText_c (s : ByteArray) (w : World) (hs : s.size ≤ 140737488355328) :
    Calls Tryz.prog 93 #[.string s] w fun e w' => e = .returned (.bool (gd s)) ∧ Grew w w' := by
  have HP := fun w => parsed_c s w hs
  rcases pf_cases s with ⟨t, ht⟩ | ⟨p, c, hp, hc⟩
  · have hn := Fm.pf_len s
    have hpos := Fm.enc_pos t
    rw [gd_tree ht]
    rw [ht] at HP hn
    simp only at HP hn
    replace HP := Lib.hid HP
    have HT := Lib.hid (fun v w h => text0_c t v w h (by omega))
    have HO := Lib.hid (fun w (v : Value) (h : Own w w.heap.size v (Fm.enc t)) => h)
    clear ht HO
    have hne := fun w (b : Option Addr) n c => run_neq_slice_nil_any (P := Tryz.prog) w 66 126 b n c 0 0 Tryz.underlying66
    generalize Fm.enc t = xs at *
    go_enter Tryz.func93, Tryz.ntmps93
    go_wp2_with fail
    refine (HP.out _).mono ?_
    rintro e w1 ⟨v1, rfl, ho1, hg1, _⟩
    rcases ho1.open_ with ⟨rfl, h0⟩ | ⟨g, c, cur, rfl, _⟩
    · rw [h0] at hpos; cases hpos
    go_wp2_with fail
    refine (HT.out _ _ ho1.nodes).mono ?_
    rintro e w2 ⟨rfl, hg2⟩
    go_wp2_with fail
    go_ret
    exact ⟨rfl, hg1.trans hg2⟩
  · rw [gd_bad hp hc]
    rw [hp] at HP
    replace HP := Lib.hid HP
    clear hp
    go_enter Tryz.func93, Tryz.ntmps93
    go_wp2_with fail
    refine (HP.out _).mono ?_
    rintro e w1 ⟨v1, rfl, ho1, hg1, hz1⟩
    obtain rfl := hz1 rfl
    go_wp2_with fail
    go_ret
    exact ⟨rfl, hg1⟩
end Go.Proofs.YtfpkfgimhanekaaGreat

/- A predicate on nodes: IndexFunc, ContainsFunc. -/
namespace Go.Proofs.YtfpkfgimhanekaaGreat
open Go.RowKit
open Fm (Nd)

/-- None of the first k nodes meets the predicate. -/
def NoneP (p : Int → Int → Bool) (xs : List Nd) (k : Nat) : Prop := ∀ i, i < k → p (kd xs i) (sy xs i) = false
theorem NoneP.zero (p : Int → Int → Bool) (xs : List Nd) : NoneP p xs 0 := fun i hi => absurd hi (by omega)
theorem NoneP.succ {p : Int → Int → Bool} {xs : List Nd} {k : Nat} (h : NoneP p xs k) (h1 : p (kd xs k) (sy xs k) = false) : NoneP p xs (k + 1) := by
  intro i hi
  rcases Nat.lt_or_ge i k with hk | hk
  · exact h i hk
  · obtain rfl : i = k := by omega
    exact h1
/-- Some node meets the predicate. -/
noncomputable def anyP (p : Int → Int → Bool) (xs : List Nd) : Bool := !@decide (NoneP p xs xs.length) (Classical.propDecidable _)
theorem anyP_no {p : Int → Int → Bool} {xs : List Nd} (h : NoneP p xs xs.length) : anyP p xs = false := by
  unfold anyP
  rw [@decide_eq_true _ (Classical.propDecidable _) h]
  rfl
theorem anyP_at {p : Int → Int → Bool} {xs : List Nd} {k : Nat} (hk : k < xs.length) (h : p (kd xs k) (sy xs k) = true) : anyP p xs = true := by
  unfold anyP
  rw [@decide_eq_false _ (Classical.propDecidable _) fun H => by rw [H k hk] at h; cases h]
  rfl

/-- What the function value gives at a node. -/
def PredOk (f : Nat) (p : Int → Int → Bool) : Prop := ∀ a b W, Calls Tryz.prog f #[.agg #[.int .i64 a, .int .i64 b]] W fun e w' => e = .returned (.bool (p a b)) ∧ Grew W w'

theorem indexFunc_c (v : Value) (xs : List Nd) (f : Nat) (p : Int → Int → Bool) (w : World) (h : Nodes w v xs) (hn : xs.length ≤ 1099511627776) (hf : PredOk f p) (eg : ∀ args w, (callFunc f args).run Tryz.prog w = .ok (.enter f args) w) :
    Calls Tryz.prog 132 #[v, .func (.func f) #[] #[]] w fun e w' => ∃ r : Int, e = .returned (.int .i64 r) ∧ Grew w w' ∧ decide (0 ≤ r) = anyP p xs := by
  rcases h.open_ with ⟨rfl, rfl⟩ | ⟨b, o, c, rfl, hc, hm, hb, hcell⟩
  · rw [anyP_no (NoneP.zero _ _)]
    clear h hf
    go_enter Tryz.func132, Tryz.ntmps132
    go_wp2_with fail
    refine wp_loop_rounds 1 ?_; rw [rounds_succ]
    go_wp2_with fail
    go_ret
    exact ⟨_, rfl, Grew.refl _, rfl⟩
  obtain ⟨R, hR⟩ : ∃ R, R = anyP p xs := ⟨_, rfl⟩
  rw [← hR]
  have HA := Lib.hid (fun k hk h => hR.trans (@anyP_at p xs k hk h))
  have HZ := Lib.hid (fun h => hR.trans (@anyP_no p xs h))
  have HC := Lib.hid hcell
  have HF := Lib.hid hf
  clear hcell h hf hR
  generalize hN : xs.length = n at *
  clear hN
  go_enter Tryz.func132, Tryz.ntmps132
  go_wp2_with fail
  go_loopw [5, 8] (fun _ i wr => ∃ j : Nat, j ≤ n ∧ i = .int .i64 j ∧ Grew w wr ∧ Hid (NoneP p xs j)) (fun _ i _ => n - (intOf i).toNat)
  case atStart => exact ⟨0, Nat.zero_le _, rfl, Grew.refl _, NoneP.zero _ _⟩
  case round =>
    obtain ⟨j, hj, rfl, hB, HJ⟩ := hrel
    by_cases hlt : j < n
    · have k1 := (HC.out j hlt _ hB).1
      have k2 := (HC.out j hlt _ hB).2
      have hA := Lib.hid (HA.out j hlt)
      have hS := Lib.hid (fun h => HJ.out.succ (k := j) h)
      generalize kd xs j = x at *
      generalize sy xs j = y at *
      go_wp2_with fail
      go_at_fn f
      refine (HF.out x y _).mono ?_
      rintro e w1 ⟨rfl, hg1⟩
      have hB1 := hB.trans hg1
      cases hp : p x y with
      | true =>
        have hv := hA.out hp
        go_wp2_with fail
        go_ret
        exact ⟨_, rfl, hB1, by rw [hv]; simp⟩
      | false =>
        have hs := Lib.hid (hS.out hp)
        go_wp2_with fail
        go_roundw
        case rel => exact ⟨j + 1, by omega, by go_num, hB1, hs⟩
        case measure => simp [intOf]; omega
    · obtain rfl : j = n := by omega
      have hv := Lib.hid (HZ.out HJ.out)
      go_wp2_with fail
      go_ret
      exact ⟨_, rfl, hB, by rw [hv.out]; rfl⟩

theorem containsFunc_c (v : Value) (xs : List Nd) (f : Nat) (p : Int → Int → Bool) (w : World) (h : Nodes w v xs) (hn : xs.length ≤ 1099511627776) (hf : PredOk f p) (eg : ∀ args w, (callFunc f args).run Tryz.prog w = .ok (.enter f args) w) :
    Calls Tryz.prog 117 #[v, .func (.func f) #[] #[]] w fun e w' => e = .returned (.bool (anyP p xs)) ∧ Grew w w' := by
  have HI := Lib.hid (indexFunc_c v xs f p w h hn hf eg)
  clear h hf eg
  generalize anyP p xs = R at *
  go_enter Tryz.func117, Tryz.ntmps117
  go_wp2_with fail
  refine HI.out.mono ?_
  rintro e w1 ⟨r, rfl, hg1, hr⟩
  go_wp2_with fail
  go_ret
  exact ⟨by rw [← hr]; rfl, hg1⟩

end Go.Proofs.YtfpkfgimhanekaaGreat

/- isPlain of the program, l02Plain of the reference. -/
namespace Go.Proofs.YtfpkfgimhanekaaGreat
open Go.RowKit
open Fm (Nd)

def isBD (a _b : Int) : Bool := a == 5 || a == 6
theorem isModal_c (a : Int) (w : World) : Calls Tryz.prog 119 #[.int .i64 a] w fun e w' => e = .returned (.bool (a == 5 || a == 6)) ∧ Grew w w' := by
  cases h : (a == 5) with
  | true =>
    go_enter Tryz.func119, Tryz.ntmps119
    go_wp2_with fail
    go_ret
    exact ⟨rfl, Grew.refl _⟩
  | false =>
    go_enter Tryz.func119, Tryz.ntmps119
    go_wp2_with fail
    go_ret
    exact ⟨by simp, Grew.refl _⟩
theorem isPlain1_ok : PredOk 118 isBD := by
  intro a b w
  go_enter Tryz.func118, Tryz.ntmps118
  go_wp2_with fail
  refine (isModal_c _ _).mono ?_
  rintro e w1 ⟨rfl, hg1⟩
  go_wp2_with fail
  go_ret
  exact ⟨rfl, Grew.of_alloc hg1⟩
theorem isPlain_c (v : Value) (xs : List Nd) (w : World) (h : Nodes w v xs) (hn : xs.length ≤ 1099511627776) :
    Calls Tryz.prog 94 #[v] w fun e w' => e = .returned (.bool (!anyP isBD xs)) ∧ Grew w w' := by
  have HI := Lib.hid (containsFunc_c v xs _ _ w h hn isPlain1_ok (enters_of Tryz.func118 (by kernel_rfl) rfl))
  clear h
  generalize anyP isBD xs = R at *
  go_enter Tryz.func94, Tryz.ntmps94
  go_wp2_with fail
  refine HI.out.mono ?_
  rintro e w1 ⟨rfl, hg1⟩
  go_wp2_with fail
  go_ret
  exact ⟨rfl, hg1⟩

theorem l02Plain_c (v : Value) (xs : List Nd) (w : World) (h : Nodes w v xs) (hn : xs.length ≤ 1099511627776) :
    Calls Tryz.prog 81 #[v] w fun e w' => e = .returned (.bool (!anyP isBD xs)) ∧ Grew w w' := by
  rcases h.open_ with ⟨rfl, rfl⟩ | ⟨b, o, c, rfl, hc, hm, hb, hcell⟩
  · rw [anyP_no (NoneP.zero _ _)]
    clear h
    go_enter Tryz.func81, Tryz.ntmps81
    go_wp2_with fail
    refine wp_loop_rounds 1 ?_; rw [rounds_succ]
    go_wp2_with fail
    go_ret
    exact ⟨rfl, Grew.refl _⟩
  obtain ⟨R, hR⟩ : ∃ R, R = anyP isBD xs := ⟨_, rfl⟩
  rw [← hR]
  have HA := Lib.hid (fun k hk h => hR.trans (@anyP_at isBD xs k hk h))
  have HZ := Lib.hid (fun h => hR.trans (@anyP_no isBD xs h))
  have HC := Lib.hid hcell
  clear hcell h hR
  generalize hN : xs.length = n at *
  clear hN
  go_enter Tryz.func81, Tryz.ntmps81
  go_wp2_with fail
  go_loopw [3] (fun i wr => ∃ j : Nat, j ≤ n ∧ i = .int .i64 j ∧ Grew w wr ∧ Hid (NoneP isBD xs j)) (fun i _ => n - (intOf i).toNat)
  case atStart => exact ⟨0, Nat.zero_le _, rfl, Grew.refl _, NoneP.zero _ _⟩
  case round =>
    obtain ⟨j, hj, rfl, hB, HJ⟩ := hrel
    by_cases hlt : j < n
    · have k1 := (HC.out j hlt _ hB).1
      have hA := Lib.hid (HA.out j hlt)
      have hS := Lib.hid (fun h => HJ.out.succ (k := j) h)
      generalize kd xs j = x at *
      generalize sy xs j = y at *
      cases h5 : (x == 5) with
      | true =>
        have hv := Lib.hid (hA.out (by simp [isBD, h5]))
        go_wp2_with fail
        go_ret
        rw [hv.out]
        exact ⟨rfl, hB⟩
      | false =>
        cases h6 : (x == 6) with
        | true =>
          have hv := Lib.hid (hA.out (by simp [isBD, h6]))
          go_wp2_with fail
          go_ret
          rw [hv.out]
          exact ⟨rfl, hB⟩
        | false =>
          have hs := Lib.hid (hS.out (by simp [isBD, h5, h6]))
          go_wp2_with fail
          go_roundw
          case rel => exact ⟨j + 1, by omega, by go_num, hB, hs⟩
          case measure => simp [intOf]; omega
    · obtain rfl : j = n := by omega
      have hv := Lib.hid (HZ.out HJ.out)
      go_wp2_with fail
      go_ret
      rw [hv.out]
      exact ⟨rfl, hB⟩
end Go.Proofs.YtfpkfgimhanekaaGreat

/- Is a text that of a plain formula? -/
namespace Go.Proofs.YtfpkfgimhanekaaGreat
open Go.RowKit
open Fm (Nd)

/-- The text is the text of a plain formula. -/
noncomputable def gp (s : ByteArray) : Bool := gd s && !anyP isBD (Fm.pf s).1

def GivesP (w : World) (s : ByteArray) (e : Ending) (w' : World) : Prop := ∃ v, e = .returned (.tuple #[v, .bool (gp s)]) ∧ Own w' w.heap.size v (Fm.pf s).1 ∧ Grew w w'

theorem isPlainText_c (s : ByteArray) (w : World) (hs : s.size ≤ 140737488355328) :
    Calls Tryz.prog 58 #[.string s] w fun e w' => e = .returned (.bool (gp s)) ∧ Grew w w' := by
  have HG := fun w => isText_c s w hs
  have HR := fun w => parsed_c s w hs
  have hn := Fm.pf_len s
  unfold gp
  generalize (Fm.pf s).1 = xs at *
  have HP := Lib.hid (fun v w h => isPlain_c v xs w h (by omega))
  replace HR := Lib.hid HR
  generalize anyP isBD xs = q at *
  cases hg : gd s with
  | true =>
    rw [hg] at HG
    replace HG := Lib.hid HG
    clear hg
    go_enter Tryz.func58, Tryz.ntmps58
    go_wp2_with fail
    refine (HG.out _).mono ?_
    rintro e w1 ⟨rfl, hg1⟩
    go_wp2_with fail
    refine (HR.out _).mono ?_
    rintro e w2 ⟨v2, rfl, ho2, hg2, _⟩
    go_wp2_with fail
    refine (HP.out _ _ ho2.nodes).mono ?_
    rintro e w3 ⟨rfl, hg3⟩
    go_wp2_with fail
    go_ret
    exact ⟨rfl, (hg1.trans hg2).trans hg3⟩
  | false =>
    rw [hg] at HG
    replace HG := Lib.hid HG
    clear hg
    go_enter Tryz.func58, Tryz.ntmps58
    go_wp2_with fail
    refine (HG.out _).mono ?_
    rintro e w1 ⟨rfl, hg1⟩
    go_wp2_with fail
    go_ret
    exact ⟨rfl, hg1⟩
end Go.Proofs.YtfpkfgimhanekaaGreat

/- l25Formula of the reference. -/
namespace Go.Proofs.YtfpkfgimhanekaaGreat
open Go.RowKit

theorem l25Formula_c (s : ByteArray) (w : World) (hs : s.size ≤ 140737488355328) :
    Calls Tryz.prog 43 #[.string s] w (GivesP w s) := by
  have HG := fun w => l02Good_c s w hs
  have hn := Fm.pf_len s
  unfold GivesP gp
  unfold GivesG at HG
  generalize (Fm.pf s).1 = xs at *
  have HP := Lib.hid (fun v w h => l02Plain_c v xs w h (by omega))
  generalize anyP isBD xs = q at *
  cases hg : gd s with
  | true =>
    rw [hg] at HG
    replace HG := Lib.hid HG
    clear hg
    go_enter Tryz.func43, Tryz.ntmps43
    go_wp2_with fail
    refine (HG.out _).mono ?_
    rintro e w1 ⟨v1, rfl, ho1, hg1⟩
    go_wp2_with fail
    refine (HP.out _ _ ho1.nodes).mono ?_
    rintro e w2 ⟨rfl, hg2⟩
    go_wp2_with fail
    go_ret2
    exact ⟨_, rfl, ho1.grew hg2, hg1.trans hg2⟩
  | false =>
    rw [hg] at HG
    replace HG := Lib.hid HG
    clear hg
    go_enter Tryz.func43, Tryz.ntmps43
    go_wp2_with fail
    refine (HG.out _).mono ?_
    rintro e w1 ⟨v1, rfl, ho1, hg1⟩
    go_wp2_with fail
    go_ret2
    exact ⟨_, rfl, ho1, hg1⟩
end Go.Proofs.YtfpkfgimhanekaaGreat

/- Terms as trees and their lists of nodes. No program is in sight. -/
namespace Go.Proofs.YtfpkfgimhanekaaGreat
open Go.RowKit
namespace Tr

inductive Tm where
  | t0 (x : Tn)
  | t1 (x : Tn) (a : Tm)
  | t2 (x : Tn) (a b : Tm)
  | t3 (x : Tn) (a b c : Tm)

def hd : Tm → Tn
  | .t0 x => x
  | .t1 x _ => x
  | .t2 x _ _ => x
  | .t3 x _ _ _ => x
def enc : Tm → List Tn
  | .t0 x => [x]
  | .t1 x a => x :: enc a
  | .t2 x a b => x :: (enc a ++ enc b)
  | .t3 x a b c => x :: (enc a ++ (enc b ++ enc c))
theorem enc_pos (t : Tm) : 1 ≤ (enc t).length := by cases t <;> simp [enc]
theorem enc_hd (t : Tm) : ∃ r, enc t = hd t :: r := by cases t <;> exact ⟨_, rfl⟩

/-- How many parts the nodes of a kind have. -/
def ar (k : Int) : Nat := if k = 1 ∨ k = 4 ∨ k = 5 ∨ k = 6 ∨ k = 7 ∨ k = 9 then 1 else if k = 2 ∨ k = 3 then 2 else if k = 8 then 3 else 0
theorem ar_le (k : Int) : ar k ≤ 3 := by unfold ar; split; omega; split; omega; split <;> omega

/-- Every node has as many parts as its kind asks, and meets the predicate. -/
def wf (p : Tn → Prop) : Tm → Prop
  | .t0 x => ar x.1 = 0 ∧ p x
  | .t1 x a => (ar x.1 = 1 ∧ p x) ∧ wf p a
  | .t2 x a b => (ar x.1 = 2 ∧ p x) ∧ wf p a ∧ wf p b
  | .t3 x a b c => (ar x.1 = 3 ∧ p x) ∧ wf p a ∧ wf p b ∧ wf p c

/-- How many nodes are read till no part is open. -/
def scan : List Tn → Nat → Option Nat
  | _, 0 => some 0
  | [], _ + 1 => none
  | x :: xs, o + 1 => (scan xs (o + ar x.1)).map (· + 1)

theorem scan_zero (xs : List Tn) : scan xs 0 = some 0 := by cases xs <;> rfl
theorem scan_nil (o : Nat) : scan [] (o + 1) = none := rfl
theorem scan_cons (x : Tn) (xs : List Tn) (o : Nat) : scan (x :: xs) (o + 1) = (scan xs (o + ar x.1)).map (· + 1) := rfl

theorem scan_enc {p : Tn → Prop} (t : Tm) : wf p t → ∀ (rest : List Tn) (o : Nat), scan (enc t ++ rest) (o + 1) = (scan rest o).map (· + (enc t).length) := by
  induction t with
  | t0 x =>
    intro h rest o
    simp only [wf] at h
    simp [enc, scan_cons, h.1]
  | t1 x a iha =>
    intro h rest o
    simp only [wf] at h
    simp only [enc, List.cons_append, scan_cons, h.1.1]
    rw [iha h.2]
    cases scan rest o <;> simp; omega
  | t2 x a b iha ihb =>
    intro h rest o
    simp only [wf] at h
    simp only [enc, List.cons_append, scan_cons, List.append_assoc, h.1.1]
    rw [show o + 2 = (o + 1) + 1 from rfl, iha h.2.1, ihb h.2.2]
    cases scan rest o <;> simp; omega
  | t3 x a b c iha ihb ihc =>
    intro h rest o
    simp only [wf] at h
    simp only [enc, List.cons_append, scan_cons, List.append_assoc, h.1.1]
    rw [show o + 3 = (o + 2) + 1 from rfl, iha h.2.1, show o + 2 = (o + 1) + 1 from rfl, ihb h.2.2.1, ihc h.2.2.2]
    cases scan rest o <;> simp; omega
theorem scan_one {p : Tn → Prop} {t : Tm} (h : wf p t) (rest : List Tn) : scan (enc t ++ rest) 1 = some (enc t).length := by
  rw [scan_enc t h rest 0, scan_zero]; simp

theorem scan_split : ∀ (xs : List Tn) (a b : Nat), scan xs (a + b) = (scan xs a).bind fun n => (scan (xs.drop n) b).map (n + ·) := by
  intro xs
  induction xs with
  | nil =>
    intro a b
    cases a with
    | zero => simp [scan_zero]
    | succ a => rw [show a + 1 + b = (a + b) + 1 by omega, scan_nil, scan_nil]; rfl
  | cons x xs ih =>
    intro a b
    cases a with
    | zero => simp [scan_zero]
    | succ a =>
      rw [show a + 1 + b = (a + b) + 1 by omega, scan_cons, scan_cons, show a + b + ar x.1 = (a + ar x.1) + b by omega, ih]
      cases scan xs (a + ar x.1) with
      | none => rfl
      | some n =>
        simp only [Option.bind_some, Option.map_some, List.drop_succ_cons]
        cases scan (xs.drop n) b with
        | none => rfl
        | some m => simp; omega
theorem scan_le : ∀ (xs : List Tn) (o n : Nat), scan xs o = some n → n ≤ xs.length := by
  intro xs
  induction xs with
  | nil => intro o n h; cases o with
    | zero => simp [scan_zero] at h; omega
    | succ o => simp [scan_nil] at h
  | cons x xs ih => intro o n h; cases o with
    | zero => simp [scan_zero] at h; omega
    | succ o =>
      rw [scan_cons] at h
      cases hs : scan xs (o + ar x.1) with
      | none => rw [hs] at h; simp at h
      | some m => rw [hs] at h; simp at h; have := ih _ _ hs; simp; omega

/-- What a scan reads is a list of trees. -/
theorem scan_trees (p : Tn → Prop) : ∀ (xs : List Tn) (o n : Nat), scan xs o = some n → (∀ x ∈ xs, p x) → ∃ (ts : List Tm) (rest : List Tn), ts.length = o ∧ xs = ts.flatMap enc ++ rest ∧ n = (ts.flatMap enc).length ∧ ∀ t ∈ ts, wf p t := by
  intro xs
  induction xs with
  | nil =>
    intro o n h _
    cases o with
    | zero => simp [scan_zero] at h; exact ⟨[], [], rfl, rfl, by simp [h], by simp⟩
    | succ o => simp [scan_nil] at h
  | cons x xs ih =>
    intro o n h hp
    cases o with
    | zero => simp [scan_zero] at h; exact ⟨[], x :: xs, rfl, by simp, by simp [h], by simp⟩
    | succ o =>
      rw [scan_cons] at h
      cases hs : scan xs (o + ar x.1) with
      | none => rw [hs] at h; simp at h
      | some m =>
        rw [hs] at h
        simp only [Option.map_some, Option.some.injEq] at h
        obtain ⟨ts, rest, h1, h2, h3, h4⟩ := ih _ _ hs (fun y hy => hp y (by simp [hy]))
        have hx : p x := hp x (by simp)
        have har := ar_le x.1
        have hc : ar x.1 = 0 ∨ ar x.1 = 1 ∨ ar x.1 = 2 ∨ ar x.1 = 3 := by omega
        rcases hc with ha | ha | ha | ha
        · rw [ha] at h1
          refine ⟨.t0 x :: ts, rest, by simp [h1], by simp [enc, h2], by rw [List.flatMap_cons, List.length_append, ← h3, ← h]; simp [enc]; omega, ?_⟩
          intro t ht
          rcases List.mem_cons.1 ht with rfl | ht
          · exact ⟨ha, hx⟩
          · exact h4 t ht
        · rw [ha] at h1
          match ts, h1, h2, h3, h4 with
          | a :: ts, h1, h2, h3, h4 =>
            refine ⟨.t1 x a :: ts, rest, by simp at h1; simp [h1], by simp [enc, h2], by simp [enc] at h3 ⊢; omega, ?_⟩
            intro t ht
            rcases List.mem_cons.1 ht with rfl | ht
            · exact ⟨⟨ha, hx⟩, h4 a (by simp)⟩
            · exact h4 t (by simp [ht])
        · rw [ha] at h1
          match ts, h1, h2, h3, h4 with
          | a :: b :: ts, h1, h2, h3, h4 =>
            refine ⟨.t2 x a b :: ts, rest, by simp at h1; simp [h1], by simp [enc, h2], by simp [enc] at h3 ⊢; omega, ?_⟩
            intro t ht
            rcases List.mem_cons.1 ht with rfl | ht
            · exact ⟨⟨ha, hx⟩, h4 a (by simp), h4 b (by simp)⟩
            · exact h4 t (by simp [ht])
          | [_], h1, _, _, _ => simp at h1
        · rw [ha] at h1
          match ts, h1, h2, h3, h4 with
          | a :: b :: c :: ts, h1, h2, h3, h4 =>
            refine ⟨.t3 x a b c :: ts, rest, by simp at h1; simp [h1], by simp [enc, h2], by simp [enc] at h3 ⊢; omega, ?_⟩
            intro t ht
            rcases List.mem_cons.1 ht with rfl | ht
            · exact ⟨⟨ha, hx⟩, h4 a (by simp), h4 b (by simp), h4 c (by simp)⟩
            · exact h4 t (by simp [ht])
          | [_, _], h1, _, _, _ => simp at h1
          | [_], h1, _, _, _ => simp at h1
theorem tree_of {p : Tn → Prop} {xs : List Tn} (h : scan xs 1 = some xs.length) (hp : ∀ x ∈ xs, p x) : ∃ t, wf p t ∧ enc t = xs := by
  obtain ⟨ts, rest, h1, h2, h3, h4⟩ := scan_trees p xs 1 _ h hp
  match ts, h1 with
  | [t], _ =>
    refine ⟨t, h4 t (by simp), ?_⟩
    have hl := congrArg List.length h2
    rw [List.length_append] at hl
    have : rest = [] := List.eq_nil_of_length_eq_zero (by omega)
    rw [this] at h2
    simpa using h2.symm

/-- What the search for the end gives. -/
def pval (j : Nat) : Option Nat → Int
  | some n => (j : Int) + n
  | none => -1
theorem pval_succ (j : Nat) (o : Option Nat) : pval j (o.map (· + 1)) = pval (j + 1) o := by
  cases o with
  | none => rfl
  | some n => show (j : Int) + ((n + 1 : Nat) : Int) = ((j + 1 : Nat) : Int) + n; omega
theorem pval_add (j m : Nat) (o : Option Nat) : pval j (o.map (m + ·)) = pval (j + m) o := by
  cases o with
  | none => rfl
  | some n => show (j : Int) + ((m + n : Nat) : Int) = ((j + m : Nat) : Int) + n; omega
/-- Where the parts end that are open at j. -/
def pend (xs : List Tn) (j o : Nat) : Int := pval j (scan (xs.drop j) o)
theorem pend_zero (xs : List Tn) (j : Nat) : pend xs j 0 = j := by simp [pend, scan_zero, pval]
theorem pend_out {xs : List Tn} {j : Nat} (h : xs.length ≤ j) (o : Nat) : pend xs j (o + 1) = -1 := by
  rw [pend, List.drop_eq_nil_of_le h, scan_nil]; rfl
theorem pend_step {xs : List Tn} {j : Nat} (h : j < xs.length) (o : Nat) : pend xs j (o + 1) = pend xs (j + 1) (o + ar (tk xs j)) := by
  rw [pend, List.drop_eq_getElem_cons h, scan_cons, tk_lt h, pval_succ]; rfl
/-- One part more: its end first. -/
theorem pend_part {xs : List Tn} {j : Nat} (o : Nat) : (pend xs j 1 = -1 ∧ pend xs j (o + 1) = -1) ∨ ∃ n, pend xs j 1 = ((j + n : Nat) : Int) ∧ n ≤ xs.length - j ∧ pend xs j (o + 1) = pend xs (j + n) o := by
  have h := scan_split (xs.drop j) 1 o
  rw [Nat.add_comm 1 o] at h
  unfold pend
  rw [h]
  cases hs : scan (xs.drop j) 1 with
  | none => exact .inl ⟨rfl, rfl⟩
  | some n =>
    right
    have := scan_le _ _ _ hs
    rw [List.length_drop] at this
    refine ⟨n, by simp [pval], by omega, ?_⟩
    rw [Option.bind_some, pval_add, List.drop_drop]
theorem pend_le {xs : List Tn} {j : Nat} (hj : j ≤ xs.length) (o : Nat) : pend xs j o ≤ xs.length := by
  unfold pend
  cases hs : scan (xs.drop j) o with
  | none => simp only [pval]; omega
  | some n =>
    have := scan_le _ _ _ hs
    rw [List.length_drop] at this
    simp only [pval]
    omega
end Tr
end Go.Proofs.YtfpkfgimhanekaaGreat

/- A number between two bounds. -/
namespace Go.Proofs.YtfpkfgimhanekaaGreat
open Go.RowKit

theorem l01In_c (k lo hi : Int) (w : World) : Calls Tryz.prog 37 #[.int .i64 k, .int .i64 lo, .int .i64 hi] w fun e w' => e = .returned (.bool (decide (lo ≤ k ∧ k ≤ hi))) ∧ Grew w w' := by
  by_cases h : lo ≤ k
  · have hd : decide (lo ≤ k ∧ k ≤ hi) = decide (k ≤ hi) := by simp [h]
    rw [hd]
    go_enter Tryz.func37, Tryz.ntmps37
    go_wp2_with fail
    go_ret
    exact ⟨rfl, Grew.refl _⟩
  · have hd : decide (lo ≤ k ∧ k ≤ hi) = false := by simp [h]
    rw [hd]
    go_enter Tryz.func37, Tryz.ntmps37
    go_wp2_with fail
    go_ret
    exact ⟨rfl, Grew.refl _⟩

theorem inRange_c (k lo hi : Int) (w : World) : Calls Tryz.prog 39 #[.int .i64 k, .int .i64 lo, .int .i64 hi] w fun e w' => e = .returned (.bool (decide (lo ≤ k ∧ k ≤ hi))) ∧ Grew w w' := by
  by_cases h : lo ≤ k
  · have hd : decide (lo ≤ k ∧ k ≤ hi) = decide (k ≤ hi) := by simp [h]
    rw [hd]
    go_enter Tryz.func39, Tryz.ntmps39
    go_wp2_with fail
    go_ret
    exact ⟨rfl, Grew.refl _⟩
  · have hd : decide (lo ≤ k ∧ k ≤ hi) = false := by simp [h]
    rw [hd]
    go_enter Tryz.func39, Tryz.ntmps39
    go_wp2_with fail
    go_ret
    exact ⟨rfl, Grew.refl _⟩
end Go.Proofs.YtfpkfgimhanekaaGreat

/- What a term is: termParts, termEnd, isTerm of the program; l26Parts, l26End, l26Is of the reference. -/
namespace Go.Proofs.YtfpkfgimhanekaaGreat
open Go.RowKit

theorem kind_cases (k : Int) : (k = 0 ∨ k = 1 ∨ k = 2 ∨ k = 3 ∨ k = 4 ∨ k = 5 ∨ k = 6 ∨ k = 7 ∨ k = 8 ∨ k = 9) ∨ ¬ (0 ≤ k ∧ k ≤ 9) := by omega

theorem termParts_c (k : Int) (w : World) :
    Calls Tryz.prog 91 #[.int .i64 k] w fun e w' => e = .returned (.int .i64 ((Tr.ar k : Int))) ∧ Grew w w' := by
  rcases kind_cases k with h | h
  · rcases h with rfl | rfl | rfl | rfl | rfl | rfl | rfl | rfl | rfl | rfl
    all_goals
      go_enter Tryz.func91, Tryz.ntmps91
      go_wp2_with fail
      go_ret
      exact ⟨rfl, Grew.refl _⟩
  · have ha : ((Tr.ar k : Int)) = (0 : Int) := by unfold Tr.ar; rw [if_neg (by omega), if_neg (by omega), if_neg (by omega)]; rfl
    rw [ha]
    have n0 : (k == 0) = false := by simp; omega
    have n1 : (k == 1) = false := by simp; omega
    have n2 : (k == 2) = false := by simp; omega
    have n3 : (k == 3) = false := by simp; omega
    have n4 : (k == 4) = false := by simp; omega
    have n5 : (k == 5) = false := by simp; omega
    have n6 : (k == 6) = false := by simp; omega
    have n7 : (k == 7) = false := by simp; omega
    have n8 : (k == 8) = false := by simp; omega
    have n9 : (k == 9) = false := by simp; omega
    clear h ha
    go_enter Tryz.func91, Tryz.ntmps91
    go_wp2_with fail
    go_ret
    exact ⟨rfl, Grew.refl _⟩

theorem l26Parts_c (k : Int) (w : World) :
    Calls Tryz.prog 82 #[.int .i64 k] w fun e w' => e = .returned (.int .i64 (if 0 ≤ k ∧ k ≤ 9 then (Tr.ar k : Int) else -1)) ∧ Grew w w' := by
  rcases kind_cases k with h | h
  · rcases h with rfl | rfl | rfl | rfl | rfl | rfl | rfl | rfl | rfl | rfl
    all_goals
      go_enter Tryz.func82, Tryz.ntmps82
      go_wp2_with fail
      go_ret
      exact ⟨rfl, Grew.refl _⟩
  · have ha : (if 0 ≤ k ∧ k ≤ 9 then (Tr.ar k : Int) else -1) = (-1 : Int) := by rw [if_neg h]
    rw [ha]
    have n0 : (k == 0) = false := by simp; omega
    have n1 : (k == 1) = false := by simp; omega
    have n2 : (k == 2) = false := by simp; omega
    have n3 : (k == 3) = false := by simp; omega
    have n4 : (k == 4) = false := by simp; omega
    have n5 : (k == 5) = false := by simp; omega
    have n6 : (k == 6) = false := by simp; omega
    have n7 : (k == 7) = false := by simp; omega
    have n8 : (k == 8) = false := by simp; omega
    have n9 : (k == 9) = false := by simp; omega
    clear h ha
    go_enter Tryz.func82, Tryz.ntmps82
    go_wp2_with fail
    go_ret
    exact ⟨rfl, Grew.refl _⟩

/-- Have the nodes of a kind a type? -/
def typedB (k : Int) : Bool := k == 1 || k == 6 || k == 7 || k == 9

theorem hasType_c (k : Int) (w : World) :
    Calls Tryz.prog 90 #[.int .i64 k] w fun e w' => e = .returned (.bool (typedB k)) ∧ Grew w w' := by
  rcases kind_cases k with h | h
  · rcases h with rfl | rfl | rfl | rfl | rfl | rfl | rfl | rfl | rfl | rfl
    all_goals
      go_enter Tryz.func90, Tryz.ntmps90
      go_wp2_with fail
      go_ret
      exact ⟨rfl, Grew.refl _⟩
  · have ha : typedB k = false := by unfold typedB; simp; omega
    rw [ha]
    have n0 : (k == 0) = false := by simp; omega
    have n1 : (k == 1) = false := by simp; omega
    have n2 : (k == 2) = false := by simp; omega
    have n3 : (k == 3) = false := by simp; omega
    have n4 : (k == 4) = false := by simp; omega
    have n5 : (k == 5) = false := by simp; omega
    have n6 : (k == 6) = false := by simp; omega
    have n7 : (k == 7) = false := by simp; omega
    have n8 : (k == 8) = false := by simp; omega
    have n9 : (k == 9) = false := by simp; omega
    clear h ha
    go_enter Tryz.func90, Tryz.ntmps90
    go_wp2_with fail
    go_ret
    exact ⟨by simp, Grew.refl _⟩

theorem l26Typed_c (k : Int) (w : World) :
    Calls Tryz.prog 83 #[.int .i64 k] w fun e w' => e = .returned (.bool (typedB k)) ∧ Grew w w' := by
  rcases kind_cases k with h | h
  · rcases h with rfl | rfl | rfl | rfl | rfl | rfl | rfl | rfl | rfl | rfl
    all_goals
      go_enter Tryz.func83, Tryz.ntmps83
      go_wp2_with fail
      go_ret
      exact ⟨rfl, Grew.refl _⟩
  · have ha : typedB k = false := by unfold typedB; simp; omega
    rw [ha]
    have n0 : (k == 0) = false := by simp; omega
    have n1 : (k == 1) = false := by simp; omega
    have n2 : (k == 2) = false := by simp; omega
    have n3 : (k == 3) = false := by simp; omega
    have n4 : (k == 4) = false := by simp; omega
    have n5 : (k == 5) = false := by simp; omega
    have n6 : (k == 6) = false := by simp; omega
    have n7 : (k == 7) = false := by simp; omega
    have n8 : (k == 8) = false := by simp; omega
    have n9 : (k == 9) = false := by simp; omega
    clear h ha
    go_enter Tryz.func83, Tryz.ntmps83
    go_wp2_with fail
    go_ret
    exact ⟨by simp, Grew.refl _⟩

/-- Is it a node of a term? -/
noncomputable def tnB (k n : Int) (s : ByteArray) : Bool := if k == 0 then (decide (0 ≤ n ∧ n ≤ 99) && s.toList.isEmpty) else if typedB k then (n == 0 && gp s) else (decide (1 ≤ k ∧ k ≤ 9) && n == 0 && s.toList.isEmpty)

theorem isTermNode_c (k n : Int) (s : ByteArray) (w : World) (hs : s.size ≤ 140737488355328) :
    Calls Tryz.prog 54 #[.agg #[.int .i64 k, .int .i64 n, .string s]] w fun e w' => e = .returned (.bool (tnB k n s)) ∧ Grew w w' := by
  unfold tnB
  cases h0 : (k == 0) with
  | true =>
    rw [if_pos rfl]
    have HR := fun w => inRange_c n 0 99 w
    generalize decide (0 ≤ n ∧ n ≤ 99) = R at *
    cases R with
    | true =>
      replace HR := Lib.hid HR
      go_enter Tryz.func54, Tryz.ntmps54
      go_wp2_with fail
      refine (HR.out _).mono ?_
      rintro e w1 ⟨rfl, hg1⟩
      have k1 : w1.cell? ⟨w.heap.size, 2, none⟩ = some (.string s) := (hg1.cell (by simp)).trans (by simp)
      go_wp2_with fail
      go_ret
      exact ⟨by simp, Grew.of_alloc hg1⟩
    | false =>
      replace HR := Lib.hid HR
      go_enter Tryz.func54, Tryz.ntmps54
      go_wp2_with fail
      refine (HR.out _).mono ?_
      rintro e w1 ⟨rfl, hg1⟩
      go_wp2_with fail
      go_ret
      exact ⟨by simp, Grew.of_alloc hg1⟩
  | false =>
    rw [if_neg (by simp)]
    have HT := fun w => hasType_c k w
    generalize typedB k = T at *
    cases T with
    | true =>
      rw [if_pos rfl]
      replace HT := Lib.hid HT
      have HP := Lib.hid (fun w => isPlainText_c s w hs)
      cases hn : (n == 0) with
      | true =>
        go_enter Tryz.func54, Tryz.ntmps54
        go_wp2_with fail
        refine (HT.out _).mono ?_
        rintro e w1 ⟨rfl, hg1⟩
        have k1 : w1.cell? ⟨w.heap.size, 1, none⟩ = some (.int .i64 n) := (hg1.cell (by simp)).trans (by simp)
        have k2 : w1.cell? ⟨w.heap.size, 2, none⟩ = some (.string s) := (hg1.cell (by simp)).trans (by simp)
        go_wp2_with fail
        refine (HP.out _).mono ?_
        rintro e w2 ⟨rfl, hg2⟩
        go_wp2_with fail
        go_ret
        exact ⟨by simp, Grew.of_alloc (hg1.trans hg2)⟩
      | false =>
        go_enter Tryz.func54, Tryz.ntmps54
        go_wp2_with fail
        refine (HT.out _).mono ?_
        rintro e w1 ⟨rfl, hg1⟩
        have k1 : w1.cell? ⟨w.heap.size, 1, none⟩ = some (.int .i64 n) := (hg1.cell (by simp)).trans (by simp)
        go_wp2_with fail
        go_ret
        exact ⟨by simp, Grew.of_alloc hg1⟩
    | false =>
      rw [if_neg (by simp)]
      replace HT := Lib.hid HT
      have HR := fun w => inRange_c k 1 9 w
      generalize decide (1 ≤ k ∧ k ≤ 9) = R at *
      cases R with
      | true =>
        replace HR := Lib.hid HR
        cases hn : (n == 0) with
        | true =>
          go_enter Tryz.func54, Tryz.ntmps54
          go_wp2_with fail
          refine (HT.out _).mono ?_
          rintro e w1 ⟨rfl, hg1⟩
          have k0 : ∀ W, Grew w1 W → W.cell? ⟨w.heap.size, 0, none⟩ = some (.int .i64 k) := fun W hW => ((hg1.trans hW).cell (by simp)).trans (by simp)
          have k1 : ∀ W, Grew w1 W → W.cell? ⟨w.heap.size, 1, none⟩ = some (.int .i64 n) := fun W hW => ((hg1.trans hW).cell (by simp)).trans (by simp)
          have k2 : ∀ W, Grew w1 W → W.cell? ⟨w.heap.size, 2, none⟩ = some (.string s) := fun W hW => ((hg1.trans hW).cell (by simp)).trans (by simp)
          have hr1 := Grew.refl w1
          go_wp2_with fail
          refine (HR.out _).mono ?_
          rintro e w2 ⟨rfl, hg2⟩
          go_wp2_with fail
          go_ret
          exact ⟨by simp, Grew.of_alloc (hg1.trans hg2)⟩
        | false =>
          go_enter Tryz.func54, Tryz.ntmps54
          go_wp2_with fail
          refine (HT.out _).mono ?_
          rintro e w1 ⟨rfl, hg1⟩
          have k0 : ∀ W, Grew w1 W → W.cell? ⟨w.heap.size, 0, none⟩ = some (.int .i64 k) := fun W hW => ((hg1.trans hW).cell (by simp)).trans (by simp)
          have k1 : ∀ W, Grew w1 W → W.cell? ⟨w.heap.size, 1, none⟩ = some (.int .i64 n) := fun W hW => ((hg1.trans hW).cell (by simp)).trans (by simp)
          have hr1 := Grew.refl w1
          go_wp2_with fail
          refine (HR.out _).mono ?_
          rintro e w2 ⟨rfl, hg2⟩
          go_wp2_with fail
          go_ret
          exact ⟨by simp, Grew.of_alloc (hg1.trans hg2)⟩
      | false =>
        replace HR := Lib.hid HR
        go_enter Tryz.func54, Tryz.ntmps54
        go_wp2_with fail
        refine (HT.out _).mono ?_
        rintro e w1 ⟨rfl, hg1⟩
        have k0 : w1.cell? ⟨w.heap.size, 0, none⟩ = some (.int .i64 k) := (hg1.cell (by simp)).trans (by simp)
        go_wp2_with fail
        refine (HR.out _).mono ?_
        rintro e w2 ⟨rfl, hg2⟩
        go_wp2_with fail
        go_ret
        exact ⟨by simp, Grew.of_alloc (hg1.trans hg2)⟩

end Go.Proofs.YtfpkfgimhanekaaGreat

/- A predicate on nodes of terms: IndexFunc, ContainsFunc. -/
namespace Go.Proofs.YtfpkfgimhanekaaGreat
open Go.RowKit

/-- None of the first k nodes meets the predicate. -/
def NoneT (p : Int → Int → ByteArray → Bool) (xs : List Tn) (k : Nat) : Prop := ∀ i, i < k → p (tk xs i) (tn xs i) (tt xs i) = false
theorem NoneT.zero (p : Int → Int → ByteArray → Bool) (xs : List Tn) : NoneT p xs 0 := fun i hi => absurd hi (by omega)
theorem NoneT.succ {p : Int → Int → ByteArray → Bool} {xs : List Tn} {k : Nat} (h : NoneT p xs k) (h1 : p (tk xs k) (tn xs k) (tt xs k) = false) : NoneT p xs (k + 1) := by
  intro i hi
  rcases Nat.lt_or_ge i k with hk | hk
  · exact h i hk
  · obtain rfl : i = k := by omega
    exact h1
/-- Some node meets the predicate. -/
noncomputable def anyT (p : Int → Int → ByteArray → Bool) (xs : List Tn) : Bool := !@decide (NoneT p xs xs.length) (Classical.propDecidable _)
theorem anyT_no {p : Int → Int → ByteArray → Bool} {xs : List Tn} (h : NoneT p xs xs.length) : anyT p xs = false := by
  unfold anyT
  rw [@decide_eq_true _ (Classical.propDecidable _) h]
  rfl
theorem anyT_at {p : Int → Int → ByteArray → Bool} {xs : List Tn} {k : Nat} (hk : k < xs.length) (h : p (tk xs k) (tn xs k) (tt xs k) = true) : anyT p xs = true := by
  unfold anyT
  rw [@decide_eq_false _ (Classical.propDecidable _) fun H => by rw [H k hk] at h; cases h]
  rfl
theorem anyT_none {p : Int → Int → ByteArray → Bool} {xs : List Tn} (h : anyT p xs = false) {k : Nat} (hk : k < xs.length) : p (tk xs k) (tn xs k) (tt xs k) = false := by
  cases hp : p (tk xs k) (tn xs k) (tt xs k) with
  | false => rfl
  | true => rw [anyT_at hk hp] at h; cases h

/-- What the function value gives at a node. -/
def PredT (f : Nat) (p : Int → Int → ByteArray → Bool) : Prop := ∀ a b s W, s.size ≤ 140737488355328 → Calls Tryz.prog f #[.agg #[.int .i64 a, .int .i64 b, .string s]] W fun e w' => e = .returned (.bool (p a b s)) ∧ Grew W w'
/-- No type is longer than memory. -/
def FitsT (xs : List Tn) : Prop := ∀ i, i < xs.length → (tt xs i).size ≤ 1048576

theorem indexFuncT_c (v : Value) (xs : List Tn) (f : Nat) (p : Int → Int → ByteArray → Bool) (w : World) (h : Tms w v xs) (hfit : FitsT xs) (hf : PredT f p) (eg : ∀ args w, (callFunc f args).run Tryz.prog w = .ok (.enter f args) w) :
    Calls Tryz.prog 89 #[v, .func (.func f) #[] #[]] w fun e w' => ∃ r : Int, e = .returned (.int .i64 r) ∧ Grew w w' ∧ decide (0 ≤ r) = anyT p xs := by
  rcases h.open_ with ⟨rfl, rfl⟩ | ⟨b, o, c, rfl, hc, hm, hb, hcell⟩
  · rw [anyT_no (NoneT.zero _ _)]
    clear h hf hfit
    go_enter Tryz.func89, Tryz.ntmps89
    go_wp2_with fail
    refine wp_loop_rounds 1 ?_; rw [rounds_succ]
    go_wp2_with fail
    go_ret
    exact ⟨_, rfl, Grew.refl _, rfl⟩
  obtain ⟨R, hR⟩ : ∃ R, R = anyT p xs := ⟨_, rfl⟩
  rw [← hR]
  have HA := Lib.hid (fun k hk h => hR.trans (@anyT_at p xs k hk h))
  have HZ := Lib.hid (fun h => hR.trans (@anyT_no p xs h))
  have HC := Lib.hid hcell
  have HF := Lib.hid hf
  unfold FitsT at hfit
  have HT := Lib.hid hfit
  clear hcell h hf hR hfit
  generalize hN : xs.length = n at *
  clear hN
  go_enter Tryz.func89, Tryz.ntmps89
  go_wp2_with fail
  go_loopw [5, 8] (fun _ i wr => ∃ j : Nat, j ≤ n ∧ i = .int .i64 j ∧ Grew w wr ∧ Hid (NoneT p xs j)) (fun _ i _ => n - (intOf i).toNat)
  case atStart => exact ⟨0, Nat.zero_le _, rfl, Grew.refl _, NoneT.zero _ _⟩
  case round =>
    obtain ⟨j, hj, rfl, hB, HJ⟩ := hrel
    by_cases hlt : j < n
    · have k1 := (HC.out j hlt _ hB).1
      have k2 := (HC.out j hlt _ hB).2.1
      have k3 := (HC.out j hlt _ hB).2.2
      have hz := HT.out j hlt
      have hA := Lib.hid (HA.out j hlt)
      have hS := Lib.hid (fun h => HJ.out.succ (k := j) h)
      generalize tk xs j = x at *
      generalize tn xs j = y at *
      generalize tt xs j = z at *
      go_wp2_with fail
      go_at_fn f
      refine (HF.out x y z _ (by omega)).mono ?_
      rintro e w1 ⟨rfl, hg1⟩
      have hB1 := hB.trans hg1
      cases hp : p x y z with
      | true =>
        have hv := hA.out hp
        go_wp2_with fail
        go_ret
        exact ⟨_, rfl, hB1, by rw [hv]; simp⟩
      | false =>
        have hs := Lib.hid (hS.out hp)
        go_wp2_with fail
        go_roundw
        case rel => exact ⟨j + 1, by omega, by go_num, hB1, hs⟩
        case measure => simp [intOf]; omega
    · obtain rfl : j = n := by omega
      have hv := Lib.hid (HZ.out HJ.out)
      go_wp2_with fail
      go_ret
      exact ⟨_, rfl, hB, by rw [hv.out]; rfl⟩

theorem containsFuncT_c (v : Value) (xs : List Tn) (f : Nat) (p : Int → Int → ByteArray → Bool) (w : World) (h : Tms w v xs) (hfit : FitsT xs) (hf : PredT f p) (eg : ∀ args w, (callFunc f args).run Tryz.prog w = .ok (.enter f args) w) :
    Calls Tryz.prog 52 #[v, .func (.func f) #[] #[]] w fun e w' => e = .returned (.bool (anyT p xs)) ∧ Grew w w' := by
  have HI := Lib.hid (indexFuncT_c v xs f p w h hfit hf eg)
  clear h hf eg hfit
  generalize anyT p xs = R at *
  go_enter Tryz.func52, Tryz.ntmps52
  go_wp2_with fail
  refine HI.out.mono ?_
  rintro e w1 ⟨r, rfl, hg1, hr⟩
  go_wp2_with fail
  go_ret
  exact ⟨by rw [← hr]; rfl, hg1⟩
end Go.Proofs.YtfpkfgimhanekaaGreat

/- Where a part of a term ends, and what a term is, of both. -/
namespace Go.Proofs.YtfpkfgimhanekaaGreat
open Go.RowKit

theorem tnB_kind {k n : Int} {s : ByteArray} (h : ¬ (0 ≤ k ∧ k ≤ 9)) : tnB k n s = false := by
  unfold tnB typedB
  rw [if_neg (by simp; omega), if_neg (by simp; omega), decide_eq_false (by omega)]
  rfl
theorem tnB_range {k n : Int} {s : ByteArray} (h : ¬ (0 ≤ n ∧ n ≤ 99)) : tnB k n s = false := by
  unfold tnB
  split
  · rw [decide_eq_false h]; rfl
  · have : (n == 0) = false := by simp; omega
    rw [this]
    simp
theorem tnB_num {k n : Int} {s : ByteArray} (h0 : (k != 0) = true) (h1 : (n != 0) = true) : tnB k n s = false := by
  unfold tnB
  have h0' : ¬ (k == 0) = true := by simp at h0; simp [h0]
  have h1' : (n == 0) = false := by simp at h1; simp [h1]
  rw [if_neg h0', h1']
  simp
theorem tnB_typed {k n : Int} {s : ByteArray} (_hn : 0 ≤ n ∧ n ≤ 99) (h : (k != 0) = false ∨ (n != 0) = false) (ht : typedB k = true) : tnB k n s = gp s := by
  have h0 : ¬ (k == 0) = true := fun e => by
    have : k = 0 := by simpa using e
    subst this
    simp [typedB] at ht
  unfold tnB
  rw [if_neg h0, if_pos ht]
  rcases h with h | h
  · simp at h; simp [h] at h0
  · simp at h; simp [h]
theorem tnB_plain {k n : Int} {s : ByteArray} (hk : 0 ≤ k ∧ k ≤ 9) (hn : 0 ≤ n ∧ n ≤ 99) (h : (k != 0) = false ∨ (n != 0) = false) (ht : typedB k = false) : tnB k n s = s.toList.isEmpty := by
  unfold tnB
  by_cases h0 : (k == 0) = true
  · rw [if_pos h0, decide_eq_true hn, Bool.true_and]
  · rw [if_neg h0, if_neg (by rw [ht]; simp)]
    have hne : k ≠ 0 := by simpa using h0
    rcases h with h | h
    · simp at h; omega
    · simp at h
      rw [h, decide_eq_true (by omega)]
      rfl

set_option maxHeartbeats 1600000 in
theorem l26Node_c (k n : Int) (s : ByteArray) (w : World) (hs : s.size ≤ 140737488355328) :
    Calls Tryz.prog 44 #[.agg #[.int .i64 k, .int .i64 n, .string s]] w fun e w' => e = .returned (.bool (tnB k n s)) ∧ Grew w w' := by
  have HP := fun w => l26Parts_c k w
  have hr := Grew.refl w
  by_cases hk : 0 ≤ k ∧ k ≤ 9
  · rw [if_pos hk] at HP
    have hp0 : (0 : Int) ≤ (Tr.ar k : Int) := by omega
    have HI := fun w => l01In_c n 0 99 w
    cases h0 : (k != 0 && n != 0) with
    | true =>
      simp only [Bool.and_eq_true] at h0
      obtain ⟨h0, h1⟩ := h0
      rw [tnB_num h0 h1]
      generalize Tr.ar k = a at *
      replace HP := Lib.hid HP
      go_enter Tryz.func44, Tryz.ntmps44
      go_wp2_with fail
      refine (HP.out _).mono ?_
      rintro e w1 ⟨rfl, hg1⟩
      have k0 : ∀ W, Grew w1 W → W.cell? ⟨w.heap.size, 0, none⟩ = some (.int .i64 k) := fun W hW => ((hg1.trans hW).cell (by simp)).trans (by simp)
      have k1 : ∀ W, Grew w1 W → W.cell? ⟨w.heap.size, 1, none⟩ = some (.int .i64 n) := fun W hW => ((hg1.trans hW).cell (by simp)).trans (by simp)
      have hr1 := Grew.refl w1
      go_wp2_with fail
      go_ret
      exact ⟨rfl, Grew.of_alloc hg1⟩
    | false =>
      have hor : (k != 0) = false ∨ (n != 0) = false := by
        cases hk0 : (k != 0) with
        | false => exact .inl rfl
        | true => rw [hk0] at h0; exact .inr h0
      by_cases hn : 0 ≤ n ∧ n ≤ 99
      · rw [decide_eq_true hn] at HI
        have HT := fun w => l26Typed_c k w
        cases ht : typedB k with
        | true =>
          rw [tnB_typed hn hor ht]
          rw [ht] at HT
          have HF := fun w => l25Formula_c s w hs
          unfold GivesP at HF
          generalize gp s = g at *
          generalize Tr.ar k = a at *
          replace HP := Lib.hid HP
          replace HI := Lib.hid HI
          replace HT := Lib.hid HT
          replace HF := Lib.hid HF
          clear ht
          rcases hor with hz | hz
          all_goals
            go_enter Tryz.func44, Tryz.ntmps44
            go_wp2_with fail
            refine (HP.out _).mono ?_
            rintro e w1 ⟨rfl, hg1⟩
            have k0 : ∀ W, Grew w1 W → W.cell? ⟨w.heap.size, 0, none⟩ = some (.int .i64 k) := fun W hW => ((hg1.trans hW).cell (by simp)).trans (by simp)
            have k1 : ∀ W, Grew w1 W → W.cell? ⟨w.heap.size, 1, none⟩ = some (.int .i64 n) := fun W hW => ((hg1.trans hW).cell (by simp)).trans (by simp)
            have k2 : ∀ W, Grew w1 W → W.cell? ⟨w.heap.size, 2, none⟩ = some (.string s) := fun W hW => ((hg1.trans hW).cell (by simp)).trans (by simp)
            have hr1 := Grew.refl w1
            first
              | cases hkz : (k != 0) with
                | true =>
                  go_wp2_with fail
                  refine (HI.out _).mono ?_
                  rintro e w2 ⟨rfl, hg2⟩
                  go_wp2_with fail
                  refine (HT.out _).mono ?_
                  rintro e w3 ⟨rfl, hg3⟩
                  have hk13 := hg2.trans hg3
                  go_wp2_with fail
                  refine (HF.out _).mono ?_
                  rintro e w4 ⟨q, rfl, _, hg4⟩
                  go_wp2_with fail
                  go_ret
                  exact ⟨rfl, Grew.of_alloc ((hg1.trans hk13).trans hg4)⟩
                | false =>
                  go_wp2_with fail
                  refine (HI.out _).mono ?_
                  rintro e w2 ⟨rfl, hg2⟩
                  go_wp2_with fail
                  refine (HT.out _).mono ?_
                  rintro e w3 ⟨rfl, hg3⟩
                  have hk13 := hg2.trans hg3
                  go_wp2_with fail
                  refine (HF.out _).mono ?_
                  rintro e w4 ⟨q, rfl, _, hg4⟩
                  go_wp2_with fail
                  go_ret
                  exact ⟨rfl, Grew.of_alloc ((hg1.trans hk13).trans hg4)⟩
        | false =>
          rw [tnB_plain hk hn hor ht]
          rw [ht] at HT
          generalize Tr.ar k = a at *
          replace HP := Lib.hid HP
          replace HI := Lib.hid HI
          replace HT := Lib.hid HT
          clear ht
          rcases hor with hz | hz
          all_goals
            go_enter Tryz.func44, Tryz.ntmps44
            go_wp2_with fail
            refine (HP.out _).mono ?_
            rintro e w1 ⟨rfl, hg1⟩
            have k0 : ∀ W, Grew w1 W → W.cell? ⟨w.heap.size, 0, none⟩ = some (.int .i64 k) := fun W hW => ((hg1.trans hW).cell (by simp)).trans (by simp)
            have k1 : ∀ W, Grew w1 W → W.cell? ⟨w.heap.size, 1, none⟩ = some (.int .i64 n) := fun W hW => ((hg1.trans hW).cell (by simp)).trans (by simp)
            have k2 : ∀ W, Grew w1 W → W.cell? ⟨w.heap.size, 2, none⟩ = some (.string s) := fun W hW => ((hg1.trans hW).cell (by simp)).trans (by simp)
            have hr1 := Grew.refl w1
            first
              | cases hkz : (k != 0) with
                | true =>
                  go_wp2_with fail
                  refine (HI.out _).mono ?_
                  rintro e w2 ⟨rfl, hg2⟩
                  go_wp2_with fail
                  refine (HT.out _).mono ?_
                  rintro e w3 ⟨rfl, hg3⟩
                  have hk13 := hg2.trans hg3
                  go_wp2_with fail
                  go_ret
                  exact ⟨rfl, Grew.of_alloc (hg1.trans hk13)⟩
                | false =>
                  go_wp2_with fail
                  refine (HI.out _).mono ?_
                  rintro e w2 ⟨rfl, hg2⟩
                  go_wp2_with fail
                  refine (HT.out _).mono ?_
                  rintro e w3 ⟨rfl, hg3⟩
                  have hk13 := hg2.trans hg3
                  go_wp2_with fail
                  go_ret
                  exact ⟨rfl, Grew.of_alloc (hg1.trans hk13)⟩
      · rw [tnB_range hn]
        rw [decide_eq_false hn] at HI
        replace HI := Lib.hid HI
        generalize Tr.ar k = a at *
        replace HP := Lib.hid HP
        rcases hor with hz | hz
        all_goals
          go_enter Tryz.func44, Tryz.ntmps44
          go_wp2_with fail
          refine (HP.out _).mono ?_
          rintro e w1 ⟨rfl, hg1⟩
          have k0 : ∀ W, Grew w1 W → W.cell? ⟨w.heap.size, 0, none⟩ = some (.int .i64 k) := fun W hW => ((hg1.trans hW).cell (by simp)).trans (by simp)
          have k1 : ∀ W, Grew w1 W → W.cell? ⟨w.heap.size, 1, none⟩ = some (.int .i64 n) := fun W hW => ((hg1.trans hW).cell (by simp)).trans (by simp)
          have hr1 := Grew.refl w1
          first
            | cases hkz : (k != 0) with
              | true =>
                go_wp2_with fail
                refine (HI.out _).mono ?_
                rintro e w2 ⟨rfl, hg2⟩
                go_wp2_with fail
                go_ret
                exact ⟨rfl, Grew.of_alloc (hg1.trans hg2)⟩
              | false =>
                go_wp2_with fail
                refine (HI.out _).mono ?_
                rintro e w2 ⟨rfl, hg2⟩
                go_wp2_with fail
                go_ret
                exact ⟨rfl, Grew.of_alloc (hg1.trans hg2)⟩
  · rw [tnB_kind hk]
    rw [if_neg hk] at HP
    replace HP := Lib.hid HP
    clear hk
    go_enter Tryz.func44, Tryz.ntmps44
    go_wp2_with fail
    refine (HP.out _).mono ?_
    rintro e w1 ⟨rfl, hg1⟩
    go_wp2_with fail
    go_ret
    exact ⟨rfl, Grew.of_alloc hg1⟩

theorem termEnd_c (v : Value) (xs : List Tn) (i : Nat) (w : World) (h : Tms w v xs) (hn : xs.length ≤ 1048576) (hi : i ≤ 1048576) :
    Calls Tryz.prog 55 #[v, .int .i64 i] w fun e w' => e = .returned (.int .i64 (Tr.pend xs i 1)) ∧ Grew w w' := by
  rcases h.open_ with ⟨rfl, rfl⟩ | ⟨b, o, c, rfl, hc, hm, hb, hf⟩
  · rw [Tr.pend_out (by simp) 0]
    clear h
    go_enter Tryz.func55, Tryz.ntmps55
    go_wp2_with fail
    refine wp_loop_rounds 1 ?_; rw [rounds_succ]
    go_wp2_with fail
    go_ret
    exact ⟨rfl, Grew.refl _⟩
  · clear h
    obtain ⟨P, hP⟩ : ∃ P, P = Tr.pend xs i 1 := ⟨_, rfl⟩
    rw [← hP]
    have hstart : Hid (P = Tr.pend xs i 1) := hP
    have HS := Lib.hid (fun j o hj => @Tr.pend_step xs j hj o)
    have HL := Lib.hid (fun j o hj => @Tr.pend_out xs j hj o)
    have HZ := Lib.hid (fun j => Tr.pend_zero xs j)
    clear hP
    have HF := Lib.hid hf
    clear hf
    generalize hN : xs.length = n at *
    clear hN
    go_enter Tryz.func55, Tryz.ntmps55
    go_wp2_with fail
    go_loopg [1, 5] (n + 1 - i) (fun k x y wr => ∃ j op : Nat, x = .int .i64 j ∧ y = .int .i64 op ∧ Grew w wr ∧ i ≤ j ∧ op ≤ 2 * (j - i) + 1 ∧ k = n + 1 - j ∧ j ≤ i + n ∧ Hid (P = Tr.pend xs j op))
    case atStart => exact ⟨i, 1, rfl, rfl, Grew.refl _, Nat.le_refl _, by omega, rfl, by omega, hstart⟩
    case round =>
      obtain ⟨j, op, rfl, rfl, hB, hij, hop, rfl, hjn, HP⟩ := hrel
      by_cases hz : op = 0
      · subst hz
        have hv : Hid (P = (j : Int)) := Lib.hid (by rw [HP.out, HZ.out])
        clear HP
        go_wp2_with fail
        go_ret
        rw [hv.out]
        exact ⟨rfl, hB⟩
      · obtain ⟨q, rfl⟩ : ∃ q, op = q + 1 := ⟨op - 1, by omega⟩
        by_cases hlt : j < n
        · have k1 : ∀ W, Grew w W → W.cell? ⟨b, o + j * 3, none⟩ = some (.int .i64 (tk xs j)) := fun W hW => (HF.out j hlt W hW).1
          have hv : Hid (P = Tr.pend xs (j + 1) (q + Tr.ar (tk xs j))) := Lib.hid (by rw [HP.out, HS.out j q hlt])
          have har := Tr.ar_le (tk xs j)
          clear HP hz
          go_wp2_with fail
          refine (termParts_c _ _).mono ?_
          rintro e w1 ⟨rfl, hg1⟩
          generalize Tr.ar (tk xs j) = ar at *
          go_wp2_with fail
          go_roundg (n + 1 - (j + 1))
          case measure => omega
          case rel => exact ⟨j + 1, q + ar, by go_num, by go_num, hB.trans hg1, by omega, by omega, rfl, by omega, hv⟩
        · have hv : Hid (P = -1) := Lib.hid (by rw [HP.out, HL.out j q (by omega)])
          clear HP
          go_wp2_with fail
          go_ret
          rw [hv.out]
          exact ⟨rfl, hB⟩

theorem l26End_c (v : Value) (xs : List Tn) : ∀ (d i : Nat) (w : World), xs.length ≤ i + d → Tms w v xs → xs.length ≤ 1048576 → i ≤ 1048576 →
    Calls Tryz.prog 45 #[v, .int .i64 i] w fun e w' => e = .returned (.int .i64 (Tr.pend xs i 1)) ∧ Grew w w' := by
  intro d
  induction d with
  | zero =>
    intro i w hd h hn hi
    rw [Tr.pend_out (by omega) 0]
    obtain ⟨A, c, rfl⟩ := tms_slice h
    clear h
    generalize xs.length = n at *
    go_enter Tryz.func45, Tryz.ntmps45
    go_wp2_with fail
    go_ret
    exact ⟨rfl, Grew.refl _⟩
  | succ d ih =>
    intro i w hd h hn hi
    by_cases hout : xs.length ≤ i
    · rw [Tr.pend_out hout 0]
      obtain ⟨A, c, rfl⟩ := tms_slice h
      clear h ih
      generalize xs.length = n at *
      go_enter Tryz.func45, Tryz.ntmps45
      go_wp2_with fail
      go_ret
      exact ⟨rfl, Grew.refl _⟩
    · rcases h.open_ with ⟨rfl, rfl⟩ | ⟨b, o, c, rfl, hc, hm, hb, hf⟩
      · simp at hout
      have hlt : i < xs.length := by omega
      have IH := Lib.hid (fun e W (hW : Grew w W) he1 he2 => ih e W he1 (h.grew hW) hn he2)
      have k1 := (hf i hlt _ (Grew.refl w)).1
      obtain ⟨P, hP⟩ : ∃ P, P = Tr.pend xs i 1 := ⟨_, rfl⟩
      rw [← hP]
      rw [Tr.pend_step hlt 0, Nat.zero_add] at hP
      have hsP := Lib.hid hP
      have HS := Lib.hid (fun j o => @Tr.pend_part xs j o)
      have HZ := Lib.hid (fun j => Tr.pend_zero xs j)
      have har := Tr.ar_le (tk xs i)
      have hkk : Hid ((if 0 ≤ tk xs i ∧ tk xs i ≤ 9 then (Tr.ar (tk xs i) : Int) else -1) = (Tr.ar (tk xs i) : Int) ∨ ((if 0 ≤ tk xs i ∧ tk xs i ≤ 9 then (Tr.ar (tk xs i) : Int) else -1) = -1 ∧ Tr.ar (tk xs i) = 0)) := Lib.hid (by
        split
        · exact .inl rfl
        · exact .inr ⟨rfl, by unfold Tr.ar; rw [if_neg (by omega), if_neg (by omega), if_neg (by omega)]⟩)
      have HK := Lib.hid (fun w => l26Parts_c (tk xs i) w)
      generalize (if 0 ≤ tk xs i ∧ tk xs i ≤ 9 then (Tr.ar (tk xs i) : Int) else -1) = pv at *
      generalize Tr.ar (tk xs i) = ar at *
      generalize tk xs i = kk at *
      clear hf hP h ih
      generalize hN : xs.length = n at *
      clear hN
      have hpv : pv ≤ 3 ∧ -1 ≤ pv := by rcases hkk.out with h | ⟨h, h0⟩ <;> omega
      go_enter Tryz.func45, Tryz.ntmps45
      go_wp2_with fail
      refine (HK.out _).mono ?_
      rintro e w1 ⟨rfl, hg1⟩
      go_wp2_with fail
      go_loopw [5, 6] (fun x y wr => ∃ (E q : Int), x = .int .i64 E ∧ y = .int .i64 q ∧ Grew w wr ∧ q ≤ 3 ∧ -1 ≤ q ∧ -1 ≤ E ∧ E ≤ n ∧ Hid ((0 ≤ E → (i : Int) + 1 ≤ E ∧ P = Tr.pend xs E.toNat q.toNat) ∧ (E < 0 → P = -1))) (fun _ y _ => (intOf y).toNat)
      case atStart => exact ⟨(i : Int) + 1, pv, by go_num, rfl, hg1, hpv.1, hpv.2, by omega, by omega, Lib.hid ⟨fun _ => ⟨by omega, by
        rw [hsP.out]
        rcases hkk.out with h | ⟨h, h0⟩
        · rw [h]; rfl
        · rw [h, h0]; rfl⟩, fun h => absurd h (by omega)⟩⟩
      case round =>
        obtain ⟨E, q, rfl, rfl, hB, hq3, hq1, hE1, hEn, HP⟩ := hrel
        by_cases hq : 0 < q
        · by_cases hE : 0 ≤ E
          · obtain ⟨hiE, hPE⟩ := HP.out.1 hE
            obtain ⟨e, rfl⟩ : ∃ e : Nat, E = (e : Int) := ⟨E.toNat, by omega⟩
            obtain ⟨r, rfl⟩ : ∃ r : Nat, q = ((r + 1 : Nat) : Int) := ⟨q.toNat - 1, by omega⟩
            have hst := HS.out e r
            simp only [Int.toNat_natCast] at hPE
            have HPE := Lib.hid hPE
            have HST := Lib.hid hst
            have hgt : ¬ ((r + 1 : Nat) : Int) ≤ 0 := by omega
            clear hPE hst HP
            go_wp2_with fail
            refine (IH.out e _ hB (by omega) (by omega)).mono ?_
            rintro e2 w2 ⟨rfl, hg2⟩
            have hB2 := hB.trans hg2
            rcases HST.out with ⟨h1, h2⟩ | ⟨m, h1, hm2, h2⟩
            · have H2 : Hid (P = -1) := Lib.hid (by rw [HPE.out, h2])
              rw [h1]
              clear h1 h2 HST
              go_wp2_with fail
              go_roundw
              case rel => exact ⟨-1, (r : Int), rfl, by go_num, hB2, by omega, by omega, by omega, by omega, Lib.hid ⟨fun h => absurd h (by omega), fun _ => H2.out⟩⟩
              case measure => (simp [intOf]; try omega)
            · have H2 : Hid (P = Tr.pend xs (e + m) r) := Lib.hid (by rw [HPE.out, h2])
              rw [h1]
              clear h1 h2 HST
              go_wp2_with fail
              go_roundw
              case rel => exact ⟨((e + m : Nat) : Int), (r : Int), rfl, by go_num, hB2, by omega, by omega, by omega, by omega, Lib.hid ⟨fun _ => ⟨by omega, by rw [Int.toNat_natCast, Int.toNat_natCast]; exact H2.out⟩, fun h => absurd h (by omega)⟩⟩
              case measure => (simp [intOf]; try omega)
          · have hv : Hid (P = -1) := Lib.hid (HP.out.2 (by omega))
            obtain rfl : E = -1 := by omega
            clear HP
            go_wp2_with fail
            go_ret
            rw [hv.out]
            exact ⟨rfl, hB⟩
        · by_cases hE : 0 ≤ E
          · obtain ⟨hiE, hPE⟩ := HP.out.1 hE
            have hv : Hid (P = E) := Lib.hid (by
              rw [hPE, show q.toNat = 0 by omega, HZ.out]
              omega)
            clear HP hPE
            go_wp2_with fail
            go_ret
            rw [hv.out]
            exact ⟨rfl, hB⟩
          · have hv : Hid (P = E) := Lib.hid (by rw [HP.out.2 (by omega)]; omega)
            clear HP
            go_wp2_with fail
            go_ret
            rw [hv.out]
            exact ⟨rfl, hB⟩

/-- Is it no node of a term? -/
noncomputable def noTn (k n : Int) (s : ByteArray) : Bool := !tnB k n s
theorem isTerm1_ok : PredT 53 noTn := by
  intro a b s w hs
  unfold noTn
  have HR := Lib.hid (fun w => isTermNode_c a b s w hs)
  generalize tnB a b s = R at *
  go_enter Tryz.func53, Tryz.ntmps53
  go_wp2_with fail
  refine (HR.out _).mono ?_
  rintro e w1 ⟨rfl, hg1⟩
  go_wp2_with fail
  go_ret
  exact ⟨rfl, Grew.of_alloc hg1⟩

/-- Is the list a term's? -/
noncomputable def tmB (xs : List Tn) : Bool := decide (1 ≤ xs.length ∧ xs.length ≤ 60) && !anyT noTn xs && (Tr.pend xs 0 1 == (xs.length : Int))

theorem isTerm_c (v : Value) (xs : List Tn) (w : World) (h : Tms w v xs) (hfit : FitsT xs) (hn : xs.length ≤ 1048576) :
    Calls Tryz.prog 31 #[v] w fun e w' => e = .returned (.bool (tmB xs)) ∧ Grew w w' := by
  have HC := Lib.hid (fun w h => containsFuncT_c v xs _ _ w h hfit isTerm1_ok (enters_of Tryz.func53 (by kernel_rfl) rfl))
  have HP := Lib.hid (fun w h => termEnd_c v xs 0 w h hn (by omega))
  obtain ⟨A, c, rfl⟩ := tms_slice h
  have HN := Lib.hid h
  clear h hfit
  unfold tmB
  generalize Tr.pend xs 0 1 = p at *
  generalize anyT noTn xs = q at *
  generalize hL : xs.length = n at *
  clear hL
  by_cases h1 : 1 ≤ n
  · by_cases h2 : n ≤ 60
    · rw [decide_eq_true (⟨h1, h2⟩ : 1 ≤ n ∧ n ≤ 60), Bool.true_and]
      cases q with
      | true =>
        go_enter Tryz.func31, Tryz.ntmps31
        go_wp2_with fail
        refine (HC.out _ HN.out).mono ?_
        rintro e w1 ⟨rfl, hg1⟩
        go_wp2_with fail
        go_ret
        exact ⟨by simp, hg1⟩
      | false =>
        go_enter Tryz.func31, Tryz.ntmps31
        go_wp2_with fail
        refine (HC.out _ HN.out).mono ?_
        rintro e w1 ⟨rfl, hg1⟩
        go_wp2_with fail
        refine (HP.out _ (HN.out.grew hg1)).mono ?_
        rintro e w2 ⟨rfl, hg2⟩
        go_wp2_with fail
        go_ret
        exact ⟨by simp, hg1.trans hg2⟩
    · rw [decide_eq_false (fun h : 1 ≤ n ∧ n ≤ 60 => h2 h.2), Bool.false_and, Bool.false_and]
      go_enter Tryz.func31, Tryz.ntmps31
      go_wp2_with fail
      go_ret
      exact ⟨rfl, Grew.refl _⟩
  · rw [decide_eq_false (fun h : 1 ≤ n ∧ n ≤ 60 => h1 h.1), Bool.false_and, Bool.false_and]
    go_enter Tryz.func31, Tryz.ntmps31
    go_wp2_with fail
    go_ret
    exact ⟨rfl, Grew.refl _⟩

theorem l26Is_c (v : Value) (xs : List Tn) (w : World) (h : Tms w v xs) (hfit : FitsT xs) (hn : xs.length ≤ 1048576) :
    Calls Tryz.prog 28 #[v] w fun e w' => e = .returned (.bool (tmB xs)) ∧ Grew w w' := by
  unfold tmB
  rcases h.open_ with ⟨rfl, rfl⟩ | ⟨b, o, c, rfl, hc, hm, hb, hcell⟩
  · clear h hfit
    go_enter Tryz.func28, Tryz.ntmps28
    go_wp2_with fail
    go_ret
    exact ⟨rfl, Grew.refl _⟩
  by_cases hr : 1 ≤ xs.length ∧ xs.length ≤ 60
  · rw [decide_eq_true hr, Bool.true_and]
    obtain ⟨R, hR⟩ : ∃ R, R = anyT noTn xs := ⟨_, rfl⟩
    rw [← hR]
    have HA := Lib.hid (fun k hk h => hR.trans (@anyT_at noTn xs k hk h))
    have HZ := Lib.hid (fun h => hR.trans (@anyT_no noTn xs h))
    have HP := Lib.hid (fun W (hW : Grew w W) => l26End_c _ xs xs.length 0 W (by omega) (h.grew hW) hn (by omega))
    have HC := Lib.hid hcell
    unfold FitsT at hfit
    have HT := Lib.hid hfit
    clear hcell h hR hfit
    generalize Tr.pend xs 0 1 = p at *
    generalize hN : xs.length = n at *
    clear hN
    have hcond : ((n : Int) == 0 || decide (60 < (n : Int))) = false := by simp; omega
    have hcond0 : ((n : Int) == 0) = false := by simp; omega
    have hcond6 : decide (60 < (n : Int)) = false := by simp; omega
    go_enter Tryz.func28, Tryz.ntmps28
    go_wp2_with fail
    go_loopw [3] (fun i wr => ∃ j : Nat, j ≤ n ∧ i = .int .i64 j ∧ Grew w wr ∧ Hid (NoneT noTn xs j)) (fun i _ => n - (intOf i).toNat)
    case atStart => exact ⟨0, Nat.zero_le _, rfl, Grew.refl _, NoneT.zero _ _⟩
    case round =>
      obtain ⟨j, hj, rfl, hB, HJ⟩ := hrel
      by_cases hlt : j < n
      · have k1 := (HC.out j hlt _ hB).1
        have k2 := (HC.out j hlt _ hB).2.1
        have k3 := (HC.out j hlt _ hB).2.2
        have hz := HT.out j hlt
        have hA : Hid (tnB (tk xs j) (tn xs j) (tt xs j) = false → R = true) := Lib.hid (fun h => HA.out j hlt (by rw [noTn, h]; rfl))
        have hS : Hid (tnB (tk xs j) (tn xs j) (tt xs j) = true → NoneT noTn xs (j + 1)) := Lib.hid (fun h => HJ.out.succ (k := j) (by rw [noTn, h]; rfl))
        generalize tk xs j = x at *
        generalize tn xs j = y at *
        generalize tt xs j = z at *
        have HNd := Lib.hid (fun w => l26Node_c x y z w (by omega))
        cases hq : tnB x y z with
        | false =>
          have hv := Lib.hid (hA.out hq)
          rw [hq] at HNd
          go_wp2_with fail
          refine (HNd.out _).mono ?_
          rintro e w1 ⟨rfl, hg1⟩
          go_wp2_with fail
          go_ret
          rw [hv.out]
          exact ⟨by simp, hB.trans hg1⟩
        | true =>
          have hs := Lib.hid (hS.out hq)
          rw [hq] at HNd
          go_wp2_with fail
          refine (HNd.out _).mono ?_
          rintro e w1 ⟨rfl, hg1⟩
          go_wp2_with fail
          go_roundw
          case rel => exact ⟨j + 1, by omega, by go_num, hB.trans hg1, hs⟩
          case measure => simp [intOf]; omega
      · obtain rfl : j = n := by omega
        have hv := Lib.hid (HZ.out HJ.out)
        go_wp2_with fail
        refine (HP.out _ hB).mono ?_
        rintro e w1 ⟨rfl, hg1⟩
        go_wp2_with fail
        go_ret
        rw [hv.out]
        exact ⟨by simp, hB.trans hg1⟩
  · rw [decide_eq_false hr, Bool.false_and, Bool.false_and]
    clear hcell h hfit
    generalize xs.length = n at *
    rcases Nat.eq_zero_or_pos n with h0 | h0
    · subst h0
      go_enter Tryz.func28, Tryz.ntmps28
      go_wp2_with fail
      go_ret
      exact ⟨rfl, Grew.refl _⟩
    · have h60 : 60 < n := by omega
      have hcond0 : ((n : Int) == 0) = false := by simp; omega
      have hcond6 : decide (60 < (n : Int)) = true := by simp; omega
      clear hr
      go_enter Tryz.func28, Tryz.ntmps28
      go_wp2_with fail
      go_ret
      exact ⟨rfl, Grew.refl _⟩
end Go.Proofs.YtfpkfgimhanekaaGreat

/- Copies of terms with greater numbers: raised and limitedTerm of the program, l26Shift and l26Made of the reference. -/
namespace Go.Proofs.YtfpkfgimhanekaaGreat
open Go.RowKit

theorem own_emptyT (w : World) : OwnT (w.alloc (.cells #[] 45)) w.heap.size (.slice (some ⟨w.heap.size, 0, none⟩) 0 0) [] :=
  World.ownsRow_lit (e := 45) (size := 3) w #[] 0 (Nat.le_refl _) (by omega) rfl

/-- slices.Clone: the same nodes in a row of the call's own; nil where it was nil. -/
theorem cloneT_c (v : Value) (xs : List Tn) (w : World) (h : Tms w v xs) (hn : xs.length ≤ 1048576) :
    Calls Tryz.prog 63 #[v] w (GivesT w xs) := by
  have q : ∀ (w : World) (a : Option Addr) (n c n' c' : Nat), (binOp .eql 27 (.slice a n c) (.slice none n' c')).run Tryz.prog w = .ok (.bool a.isNone) w := fun w a n c n' c' => Lib.run_eql_slice_nil w _ _ a n c n' c' Tryz.underlying27
  have he := own_emptyT w
  rcases h.open_ with ⟨rfl, rfl⟩ | ⟨b, o, c, rfl, hc, hm, hb, hf⟩
  · clear he h
    go_enter Tryz.func63, Tryz.ntmps63
    go_wp2_with fail
    go_ret
    exact ⟨_, rfl, OwnT.nil_ _ _, Grew.refl _⟩
  · clear hf
    go_enter Tryz.func63, Tryz.ntmps63
    go_wp2_with (first
      | (at_builtin; refine wpList_appT (w0 := w) _ _ rfl rfl _ [] rfl he ((Grew.refl w).alloc _) _ xs rfl (h.grew ((Grew.refl w).alloc _)) (by simp; omega) ?_; intro v1 w1 hown1 hg1 _))
    go_ret
    exact ⟨_, rfl, by simpa using hown1, hg1⟩

/-- A node with a number of at least k greater by d. -/
def raiseN (k d : Int) (x : Tn) : Tn := if x.1 = 0 ∧ k ≤ x.2.1 then (x.1, x.2.1 + d, x.2.2) else x
def raiseL (k d : Int) (xs : List Tn) : List Tn := xs.map (raiseN k d)
theorem raiseL_length (k d : Int) (xs : List Tn) : (raiseL k d xs).length = xs.length := by simp [raiseL]
theorem raise_tk {k d : Int} {xs : List Tn} {i : Nat} (h : i < xs.length) : tk (raiseL k d xs) i = tk xs i := by
  simp only [raiseL, tk, List.getD, List.getElem?_map, List.getElem?_eq_getElem h, Option.map_some, Option.getD_some, raiseN]
  split <;> rfl
theorem raise_tt {k d : Int} {xs : List Tn} {i : Nat} (h : i < xs.length) : tt (raiseL k d xs) i = tt xs i := by
  simp only [raiseL, tt, List.getD, List.getElem?_map, List.getElem?_eq_getElem h, Option.map_some, Option.getD_some, raiseN]
  split <;> rfl
theorem raise_tn {k d : Int} {xs : List Tn} {i : Nat} (h : i < xs.length) : tn (raiseL k d xs) i = if tk xs i = 0 ∧ k ≤ tn xs i then tn xs i + d else tn xs i := by
  simp only [raiseL, tn, tk, List.getD, List.getElem?_map, List.getElem?_eq_getElem h, Option.map_some, Option.getD_some, raiseN]
  split <;> rfl
/-- The numbers are small. -/
def NumOk (xs : List Tn) : Prop := ∀ i, i < xs.length → 0 ≤ tn xs i ∧ tn xs i ≤ 1000000
/-- The numbers behind the first j rounds. -/
def mixN (k d : Int) (xs : List Tn) (j i : Nat) : Int := if i < j then tn (raiseL k d xs) i else tn xs i
theorem mix_zero (k d : Int) (xs : List Tn) (i : Nat) : mixN k d xs 0 i = tn xs i := by simp [mixN]
theorem mix_end {k d : Int} {xs : List Tn} {j i : Nat} (h : i < j) : mixN k d xs j i = tn (raiseL k d xs) i := by simp [mixN, h]
theorem mix_at (k d : Int) (xs : List Tn) (j : Nat) : mixN k d xs j j = tn xs j := by simp [mixN]
theorem mix_other {k d : Int} {xs : List Tn} {j i : Nat} (h : i ≠ j) : mixN k d xs (j + 1) i = mixN k d xs j i := by
  unfold mixN
  by_cases h1 : i < j
  · rw [if_pos h1, if_pos (by omega)]
  · rw [if_neg h1, if_neg (by omega)]
theorem mix_same {k d : Int} {xs : List Tn} {j : Nat} (h : tn (raiseL k d xs) j = tn xs j) (i : Nat) : mixN k d xs (j + 1) i = mixN k d xs j i := by
  by_cases hij : i = j
  · subst hij
    rw [mix_at, mix_end (by omega), h]
  · exact mix_other hij
/-- The block's cells behind j rounds. -/
def Mix (cur : Array Value) (k d : Int) (xs : List Tn) (j : Nat) : Prop := ∀ i, i < xs.length → cur[i * 3]? = some (.int .i64 (tk xs i)) ∧ cur[i * 3 + 1]? = some (.int .i64 (mixN k d xs j i)) ∧ cur[i * 3 + 2]? = some (.string (tt xs i))
theorem Mix.keep {cur : Array Value} {k d : Int} {xs : List Tn} {j : Nat} (h : Mix cur k d xs j) (he : tn (raiseL k d xs) j = tn xs j) : Mix cur k d xs (j + 1) := fun i hi => by
  rw [mix_same he]; exact h i hi
theorem Mix.set {cur : Array Value} {k d : Int} {xs : List Tn} {j : Nat} (h : Mix cur k d xs j) (hs : xs.length * 3 ≤ cur.size) (hj : j < xs.length) : Mix (cur.setIfInBounds (j * 3 + 1) (.int .i64 (tn (raiseL k d xs) j))) k d xs (j + 1) := fun i hi => by
  obtain ⟨h1, h2, h3⟩ := h i hi
  refine ⟨?_, ?_, ?_⟩
  · rw [Array.getElem?_setIfInBounds, if_neg (by omega)]; exact h1
  · rw [Array.getElem?_setIfInBounds]
    by_cases hij : i = j
    · subst hij
      rw [if_pos rfl, if_pos (by omega), mix_end (by omega)]
    · rw [if_neg (by omega), mix_other hij]
      exact h2
  · rw [Array.getElem?_setIfInBounds, if_neg (by omega)]; exact h3
theorem Mix.fin {w : World} {B g c : Nat} {cur : Array Value} {k d : Int} {xs : List Tn} (h : Mix cur k d xs xs.length) (hB : B ≤ g) (hg : w.heap[g]? = some (.cells cur 45 (0, 0))) (hnc : xs.length ≤ c) (hcm : c ≤ 9223372036854775807) (hcs : cur.size = c * 3) : OwnT w B (.slice (some ⟨g, 0, none⟩) xs.length c) (raiseL k d xs) := by
  have := OwnT.mk_ (w := w) (B := B) (xs := raiseL k d xs) (g := g) (c := c) (cur := cur) hB hg (by rw [raiseL_length]; exact hnc) hcm hcs (fun i hi => by
    rw [raiseL_length] at hi
    rw [raise_tk hi, raise_tt hi]
    have := h i hi
    rw [mix_end hi] at this
    exact this)
  rw [raiseL_length] at this
  exact this

theorem raised_c (v : Value) (xs : List Tn) (k d : Int) (w : World) (h : Tms w v xs) (hn : xs.length ≤ 1048576) (hok : NumOk xs) (hd0 : 0 ≤ d) (hd1 : d ≤ 1000000) :
    Calls Tryz.prog 138 #[v, .int .i64 k, .int .i64 d] w (GivesT w (raiseL k d xs)) := by
  have HOK := Lib.hid hok
  have HCL := Lib.hid (cloneT_c v xs w h hn)
  clear h hok
  go_enter Tryz.func138, Tryz.ntmps138
  go_wp2_with fail
  refine HCL.out.mono ?_
  rintro e w1 ⟨u, rfl, ho, hg1⟩
  rcases ho.open_ with ⟨rfl, rfl⟩ | ⟨g, c, cur0, rfl, hgB, hgl, hh0, hnc, hcm, hcs0, hc0⟩
  · clear ho
    go_wp2_with fail
    refine wp_loop_rounds 1 ?_; rw [rounds_succ]
    go_wp2_with fail
    go_ret
    exact ⟨_, rfl, OwnT.nil_ _ _, hg1⟩
  have HFIN := Lib.hid (fun W cur hm (hh : W.heap[g]? = some (.cells cur 45 (0, 0))) hs => Mix.fin (w := W) (B := w.heap.size) (g := g) (c := c) (cur := cur) (k := k) (d := d) (xs := xs) hm hgB hh hnc hcm hs)
  clear ho
  generalize hN : xs.length = n at *
  go_wp2_with fail
  go_loopw [8, 14] (fun _ i wr => ∃ (j : Nat) (cur : Array Value), j ≤ n ∧ i = .int .i64 j ∧ wr.heap[g]? = some (.cells cur 45 (0, 0)) ∧ cur.size = c * 3 ∧ Grew w wr ∧ Hid (Mix cur k d xs j)) (fun _ i _ => n - (intOf i).toNat)
  case atStart => exact ⟨0, cur0, Nat.zero_le _, rfl, hh0, hcs0, hg1, fun i hi => by rw [mix_zero]; exact hc0 i (by omega)⟩
  case round =>
    clear hh0 hcs0 hc0
    obtain ⟨j, cur, hj, rfl, hh, hcs, hB, HM⟩ := hrel
    by_cases hlt : j < n
    · obtain ⟨m1, m2, m3⟩ := HM.out j (by omega)
      rw [mix_at] at m2
      have hr := Lib.hid (raise_tn (k := k) (d := d) (show j < xs.length by omega))
      obtain ⟨ho1, ho2⟩ := HOK.out j (by omega)
      have k1 : ∀ W, Grew wr W → W.cell? ⟨g, j * 3, none⟩ = some (.int .i64 (tk xs j)) := fun W hW => (hW.cell (p := ⟨g, j * 3, none⟩) (blk_lt hh)).trans ((blk_cell hh _).trans m1)
      have k2 : ∀ W, Grew wr W → W.cell? ⟨g, j * 3 + 1, none⟩ = some (.int .i64 (tn xs j)) := fun W hW => (hW.cell (p := ⟨g, j * 3 + 1, none⟩) (blk_lt hh)).trans ((blk_cell hh _).trans m2)
      have k3 : ∀ W, Grew wr W → W.cell? ⟨g, j * 3 + 2, none⟩ = some (.string (tt xs j)) := fun W hW => (hW.cell (p := ⟨g, j * 3 + 2, none⟩) (blk_lt hh)).trans ((blk_cell hh _).trans m3)
      have hrr := Grew.refl wr
      have f1 : ∀ W, Grew wr W → W.frozen? ⟨g, j * 3 + 1, none⟩ = false := fun W hW => blk_frozen ((hW.block (blk_lt hh)).trans hh) _
      have HH := Lib.hid hh
      clear m1 m2 m3 hh
      by_cases hk0 : tk xs j = 0
      · by_cases hkn : k ≤ tn xs j
        · have hv := Lib.hid (hr.out.trans (if_pos ⟨hk0, hkn⟩))
          have HS := Lib.hid (HM.out.set (by omega) (show j < xs.length by omega))
          rw [hk0] at k1
          clear hk0 hr HM
          generalize tn xs j = a at *
          generalize tt xs j = z at *
          have hra := hrr.alloc (.cells #[.int .i64 0, .int .i64 a, .string z] 45)
          go_wp2_with fail
          go_roundw
          case rel => exact ⟨j + 1, _, by omega, by go_num, by rw [hv.out] at HS; exact blk_set (((hrr.alloc _).block (blk_lt HH.out)).trans HH.out) _ _, by simp [hcs], (hB.alloc _).setCell hgB _, by rw [hv.out] at HS; exact HS.out⟩
          case measure => simp [intOf]; omega
        · have hv := Lib.hid (hr.out.trans (if_neg (fun h => hkn h.2)))
          have HS := Lib.hid (HM.out.keep hv.out)
          rw [hk0] at k1
          clear hk0 hr HM
          generalize tn xs j = a at *
          generalize tt xs j = z at *
          go_wp2_with fail
          go_roundw
          case rel => exact ⟨j + 1, cur, by omega, by go_num, ((hrr.alloc _).block (blk_lt HH.out)).trans HH.out, hcs, hB.alloc _, HS.out⟩
          case measure => simp [intOf]; omega
      · have hv := Lib.hid (hr.out.trans (if_neg (fun h => hk0 h.1)))
        have HS := Lib.hid (HM.out.keep hv.out)
        have hk0' : (tk xs j == 0) = false := by simpa using hk0
        clear hk0 hr HM
        generalize tk xs j = kk at *
        generalize tn xs j = a at *
        generalize tt xs j = z at *
        go_wp2_with fail
        go_roundw
        case rel => exact ⟨j + 1, cur, by omega, by go_num, ((hrr.alloc _).block (blk_lt HH.out)).trans HH.out, hcs, hB.alloc _, HS.out⟩
        case measure => simp [intOf]; omega
    · obtain rfl : j = n := by omega
      have hf := Lib.hid (HFIN.out _ _ HM.out hh hcs)
      go_wp2_with fail
      go_ret
      exact ⟨_, rfl, hf.out, hB⟩

theorem l26Shift_c (v : Value) (xs : List Tn) (k d : Int) (w : World) (h : Tms w v xs) (hn : xs.length ≤ 1048576) (hok : NumOk xs) (hd0 : 0 ≤ d) (hd1 : d ≤ 1000000) :
    Calls Tryz.prog 130 #[v, .int .i64 k, .int .i64 d] w (GivesT w (raiseL k d xs)) := by
  have HOK := Lib.hid hok
  have he := own_emptyT w
  go_enter Tryz.func130, Tryz.ntmps130
  go_wp2_with (first
    | (at_builtin; refine wpList_appT (w0 := w) _ _ rfl rfl _ [] rfl he ((Grew.refl w).alloc _) _ xs rfl (h.grew ((Grew.refl w).alloc _)) (by simp; omega) ?_; intro u w1 ho hg1 _))
  rw [List.nil_append] at ho
  clear he h hok
  rcases ho.open_ with ⟨rfl, rfl⟩ | ⟨g, c, cur0, rfl, hgB, hgl, hh0, hnc, hcm, hcs0, hc0⟩
  · clear ho
    go_wp2_with fail
    refine wp_loop_rounds 1 ?_; rw [rounds_succ]
    go_wp2_with fail
    go_ret
    exact ⟨_, rfl, OwnT.nil_ _ _, hg1⟩
  have HFIN := Lib.hid (fun W cur hm (hh : W.heap[g]? = some (.cells cur 45 (0, 0))) hs => Mix.fin (w := W) (B := w.heap.size) (g := g) (c := c) (cur := cur) (k := k) (d := d) (xs := xs) hm hgB hh hnc hcm hs)
  clear ho
  generalize hN : xs.length = n at *
  go_wp2_with fail
  go_loopw [8] (fun i wr => ∃ (j : Nat) (cur : Array Value), j ≤ n ∧ i = .int .i64 j ∧ wr.heap[g]? = some (.cells cur 45 (0, 0)) ∧ cur.size = c * 3 ∧ Grew w wr ∧ Hid (Mix cur k d xs j)) (fun i _ => n - (intOf i).toNat)
  case atStart => exact ⟨0, cur0, Nat.zero_le _, rfl, hh0, hcs0, hg1, fun i hi => by rw [mix_zero]; exact hc0 i (by omega)⟩
  case round =>
    clear hh0 hcs0 hc0
    obtain ⟨j, cur, hj, rfl, hh, hcs, hB, HM⟩ := hrel
    by_cases hlt : j < n
    · obtain ⟨m1, m2, m3⟩ := HM.out j (by omega)
      rw [mix_at] at m2
      have hr := Lib.hid (raise_tn (k := k) (d := d) (show j < xs.length by omega))
      obtain ⟨ho1, ho2⟩ := HOK.out j (by omega)
      have k1 : ∀ W, Grew wr W → W.cell? ⟨g, j * 3, none⟩ = some (.int .i64 (tk xs j)) := fun W hW => (hW.cell (p := ⟨g, j * 3, none⟩) (blk_lt hh)).trans ((blk_cell hh _).trans m1)
      have k2 : ∀ W, Grew wr W → W.cell? ⟨g, j * 3 + 1, none⟩ = some (.int .i64 (tn xs j)) := fun W hW => (hW.cell (p := ⟨g, j * 3 + 1, none⟩) (blk_lt hh)).trans ((blk_cell hh _).trans m2)
      have k3 : ∀ W, Grew wr W → W.cell? ⟨g, j * 3 + 2, none⟩ = some (.string (tt xs j)) := fun W hW => (hW.cell (p := ⟨g, j * 3 + 2, none⟩) (blk_lt hh)).trans ((blk_cell hh _).trans m3)
      have hrr := Grew.refl wr
      have f1 : ∀ W, Grew wr W → W.frozen? ⟨g, j * 3 + 1, none⟩ = false := fun W hW => blk_frozen ((hW.block (blk_lt hh)).trans hh) _
      have HH := Lib.hid hh
      clear m1 m2 m3 hh
      by_cases hk0 : tk xs j = 0
      · by_cases hkn : k ≤ tn xs j
        · have hv := Lib.hid (hr.out.trans (if_pos ⟨hk0, hkn⟩))
          have HS := Lib.hid (HM.out.set (by omega) (show j < xs.length by omega))
          rw [hk0] at k1
          clear hk0 hr HM
          generalize tn xs j = a at *
          generalize tt xs j = z at *
          go_wp2_with fail
          go_roundw
          case rel => exact ⟨j + 1, _, by omega, by go_num, blk_set HH.out _ _, by simp [hcs], hB.setCell hgB _, by rw [hv.out] at HS; exact HS.out⟩
          case measure => simp [intOf]; omega
        · have hv := Lib.hid (hr.out.trans (if_neg (fun h => hkn h.2)))
          have HS := Lib.hid (HM.out.keep hv.out)
          rw [hk0] at k1
          clear hk0 hr HM
          generalize tn xs j = a at *
          generalize tt xs j = z at *
          go_wp2_with fail
          go_roundw
          case rel => exact ⟨j + 1, cur, by omega, by go_num, HH.out, hcs, hB, HS.out⟩
          case measure => simp [intOf]; omega
      · have hv := Lib.hid (hr.out.trans (if_neg (fun h => hk0 h.1)))
        have HS := Lib.hid (HM.out.keep hv.out)
        have hk0' : (tk xs j == 0) = false := by simpa using hk0
        clear hk0 hr HM
        generalize tk xs j = kk at *
        generalize tn xs j = a at *
        generalize tt xs j = z at *
        go_wp2_with fail
        go_roundw
        case rel => exact ⟨j + 1, cur, by omega, by go_num, HH.out, hcs, hB, HS.out⟩
        case measure => simp [intOf]; omega
    · obtain rfl : j = n := by omega
      have hf := Lib.hid (HFIN.out _ _ HM.out hh hcs)
      go_wp2_with fail
      go_ret
      exact ⟨_, rfl, hf.out, hB⟩
end Go.Proofs.YtfpkfgimhanekaaGreat

/- The parts of a term, and what holds of all its numbers. No program is in sight. -/
namespace Go.Proofs.YtfpkfgimhanekaaGreat
open Go.RowKit
namespace Tr

def kids : Tm → List Tm
  | .t0 _ => []
  | .t1 _ a => [a]
  | .t2 _ a b => [a, b]
  | .t3 _ a b c => [a, b, c]
theorem enc_kids (t : Tm) : enc t = hd t :: (kids t).flatMap enc := by cases t <;> simp [enc, kids, hd]
theorem kids_len {p : Tn → Prop} {t : Tm} (h : wf p t) : (kids t).length = ar (hd t).1 := by
  cases t <;> simp only [wf] at h
  · simp [kids, hd, h.1]
  · simp [kids, hd, h.1.1]
  · simp [kids, hd, h.1.1]
  · simp [kids, hd, h.1.1]
theorem kids_wf {p : Tn → Prop} {t : Tm} (h : wf p t) : ∀ s ∈ kids t, wf p s := by
  cases t <;> simp only [wf] at h <;> intro s hs <;> simp [kids] at hs
  · subst hs; exact h.2
  · rcases hs with rfl | rfl
    · exact h.2.1
    · exact h.2.2
  · rcases hs with rfl | rfl | rfl
    · exact h.2.1
    · exact h.2.2.1
    · exact h.2.2.2
theorem hd_wf {p : Tn → Prop} {t : Tm} (h : wf p t) : p (hd t) := by
  cases t <;> simp only [wf] at h
  · exact h.2
  · exact h.1.2
  · exact h.1.2
  · exact h.1.2
/-- Induction along the parts. -/
theorem ind {P : Tm → Prop} (h : ∀ t, (∀ s ∈ kids t, P s) → P t) : ∀ t, P t := by
  intro t
  induction t with
  | t0 x => exact h _ (fun s hs => by simp [kids] at hs)
  | t1 x a ha => exact h _ (fun s hs => by simp [kids] at hs; subst hs; exact ha)
  | t2 x a b ha hb => exact h _ (fun s hs => by simp [kids] at hs; rcases hs with rfl | rfl <;> assumption)
  | t3 x a b c ha hb hc => exact h _ (fun s hs => by simp [kids] at hs; rcases hs with rfl | rfl | rfl <;> assumption)

/-- Where part i begins. -/
def off (t : Tm) (i : Nat) : Nat := 1 + (((kids t).take i).flatMap enc).length
theorem off_zero (t : Tm) : off t 0 = 1 := by simp [off]
theorem off_succ {t : Tm} {i : Nat} (h : i < (kids t).length) : off t (i + 1) = off t i + (enc (kids t)[i]).length := by
  unfold off
  rw [List.take_succ_eq_append_getElem h, List.flatMap_append, List.length_append]
  simp
  omega
theorem drop_off (t : Tm) (i : Nat) : (enc t).drop (off t i) = ((kids t).drop i).flatMap enc := by
  rw [enc_kids, off, Nat.add_comm, List.drop_succ_cons]
  have h : (kids t).flatMap enc = ((kids t).take i).flatMap enc ++ ((kids t).drop i).flatMap enc := by
    rw [← List.flatMap_append, List.take_append_drop]
  rw [h, List.drop_left']
  rfl
theorem drop_part {t : Tm} {i : Nat} (h : i < (kids t).length) : (enc t).drop (off t i) = enc (kids t)[i] ++ ((kids t).drop (i + 1)).flatMap enc := by
  rw [drop_off, List.drop_eq_getElem_cons h, List.flatMap_cons]
theorem off_le {t : Tm} {i : Nat} (h : i < (kids t).length) : off t i + (enc (kids t)[i]).length ≤ (enc t).length := by
  have h1 := congrArg List.length (drop_part h)
  simp only [List.length_drop, List.length_append] at h1
  have := enc_pos (kids t)[i]
  omega
theorem pend_part_at {p : Tn → Prop} {t : Tm} {i : Nat} (hw : wf p t) (h : i < (kids t).length) : pend (enc t) (off t i) 1 = ((off t i + (enc (kids t)[i]).length : Nat) : Int) := by
  unfold pend
  rw [drop_part h, scan_one (kids_wf hw _ (List.getElem_mem h))]
  simp [pval]
theorem take_part {t : Tm} {i : Nat} (h : i < (kids t).length) : ((enc t).drop (off t i)).take (enc (kids t)[i]).length = enc (kids t)[i] := by
  rw [drop_part h, List.take_left']; rfl
theorem kid_lt {t : Tm} {i : Nat} (h : i < (kids t).length) : (enc (kids t)[i]).length < (enc t).length := by
  have h1 := off_le h
  have : 1 ≤ off t i := by unfold off; omega
  omega

/-- Part i. -/
def kid (t : Tm) (i : Nat) : Tm := (kids t).getD i (.t0 (0, 0, ByteArray.empty))
theorem kid_eq {t : Tm} {i : Nat} (h : i < (kids t).length) : (kids t)[i] = kid t i := by simp [kid, List.getD, h]
theorem kid_mem {t : Tm} {i : Nat} (h : i < (kids t).length) : kid t i ∈ kids t := by rw [← kid_eq h]; exact List.getElem_mem h
theorem off_next {t : Tm} {i : Nat} (h : i < (kids t).length) : off t (i + 1) = off t i + (enc (kid t i)).length := by rw [off_succ h, kid_eq h]
theorem off_end {t : Tm} {i : Nat} (h : i < (kids t).length) : off t i + (enc (kid t i)).length ≤ (enc t).length := by rw [← kid_eq h]; exact off_le h
theorem pend_kid {p : Tn → Prop} {t : Tm} {i : Nat} (hw : wf p t) (h : i < (kids t).length) : pend (enc t) (off t i) 1 = ((off t i + (enc (kid t i)).length : Nat) : Int) := by rw [← kid_eq h]; exact pend_part_at hw h
theorem take_kid {t : Tm} {i : Nat} (h : i < (kids t).length) : ((enc t).drop (off t i)).take (enc (kid t i)).length = enc (kid t i) := by rw [← kid_eq h]; exact take_part h
theorem kid_small {t : Tm} {i : Nat} (h : i < (kids t).length) : (enc (kid t i)).length < (enc t).length := by rw [← kid_eq h]; exact kid_lt h

/-- How many more variables a part is read with. -/
def bd (k : Int) (i : Nat) : Int := if k = 1 ∨ (k = 8 ∧ 0 < i) then 1 else 0
/-- Does p hold of all numbers and what each is read with? -/
def evN (p : Int → Int → Bool) : Tm → Int → Bool
  | .t0 x, n => p x.2.1 n
  | .t1 x a, n => evN p a (n + bd x.1 0)
  | .t2 x a b, n => evN p a (n + bd x.1 0) && evN p b (n + bd x.1 1)
  | .t3 x a b c, n => evN p a (n + bd x.1 0) && (evN p b (n + bd x.1 1) && evN p c (n + bd x.1 2))
def evL (p : Int → Int → Bool) (k : Int) : List Tm → Nat → Int → Bool
  | [], _, _ => true
  | s :: ts, i, n => evN p s (n + bd k i) && evL p k ts (i + 1) n
theorem evN_kids {p : Int → Int → Bool} {t : Tm} {n : Int} (h : kids t ≠ []) : evN p t n = evL p (hd t).1 (kids t) 0 n := by
  cases t with
  | t0 x => exact absurd rfl h
  | t1 x a => simp [evN, evL, kids, hd]
  | t2 x a b => simp [evN, evL, kids, hd]
  | t3 x a b c => simp [evN, evL, kids, hd]
theorem evN_leaf {p : Int → Int → Bool} {t : Tm} {n : Int} (h : kids t = []) : evN p t n = p (hd t).2.1 n := by
  cases t with
  | t0 x => rfl
  | t1 x a => cases h
  | t2 x a b => cases h
  | t3 x a b c => cases h
theorem evL_step {p : Int → Int → Bool} {k : Int} {ts : List Tm} {i : Nat} {n : Int} (h : i < ts.length) : evL p k (ts.drop i) i n = (evN p (ts[i]'h) (n + bd k i) && evL p k (ts.drop (i + 1)) (i + 1) n) := by
  rw [List.drop_eq_getElem_cons h, evL]
theorem evL_kid {p : Int → Int → Bool} {k : Int} {t : Tm} {i : Nat} {n : Int} (h : i < (kids t).length) : evL p k ((kids t).drop i) i n = (evN p (kid t i) (n + bd k i) && evL p k ((kids t).drop (i + 1)) (i + 1) n) := by rw [evL_step h, kid_eq h]
theorem evL_end {p : Int → Int → Bool} {k : Int} {ts : List Tm} {i : Nat} {n : Int} (h : ts.length ≤ i) : evL p k (ts.drop i) i n = true := by
  rw [List.drop_eq_nil_of_le h, evL]
end Tr
end Go.Proofs.YtfpkfgimhanekaaGreat

/- Rows of slices of nodes of the call's own: an append of one slice. -/
namespace Go.Proofs.YtfpkfgimhanekaaGreat
open Go.RowKit
open Fm (Nd)

/-- A row of slices of the call's own. -/
def OwnV (w : World) (B : Nat) (v : Value) (us : List Value) : Prop := w.ownsRow B 66 1 v us.length us

theorem own_app {w w' : World} {B B' : Nat} {u v : Value} {xs : List Nd} {us : List Value} (h : Own w B u xs) (hv : OwnV w B' v us) (hg : w.grownBy w' v.ownBlock) : Own w' B u xs := by
  rcases hv.2 with ⟨rfl, _⟩ | ⟨g, cap, cur, rfl, _, hh, _⟩
  · exact own_grew h (by
      have hg' : w.grownBy w' none := hg
      exact ⟨hg'.os, hg'.tape, hg'.output, hg'.size, fun i hi => hg'.block i hi (by simp)⟩)
  · exact own_only h (show Only g w w' from hg) (own_ne h hh (by decide))

theorem infoSl : (Tryz.prog.info? 66).map (fun i => (i.zero, i.size, i.bytes)) = some (some (.slice none 0 0), 1, 24) := by kernel_rfl

theorem wpList_appV {ops : Array Oper} {rest : List Oper} {o : Oper} {a : Act} {Q : Exit → Act → World → Prop} {w w0 : World} (s x : Operand) (hgd : o.guard = none)
    (ho : o.op = .call { callee := .builtin .append, args := #[s, x], argTypes := #[149, 149] })
    (v : Value) (us : List Value) (hs : a.eval s = v) (hown : OwnV w w0.heap.size v us) (hg : Grew w0 w) (vx u : Value) (hx : a.eval x = vx) (hr : Rd w 1 vx 1 [u]) (h1 : u.oneCell' = true) (hn : us.length ≤ 1048576)
    (h : ∀ v' w', OwnV w' w0.heap.size v' (us ++ [u]) → Grew w0 w' → w.grownBy w' v.ownBlock → wpList Tryz.prog ops Q rest (a.put o.dst v') w') : wpList Tryz.prog ops Q (o :: rest) a w := by
  obtain ⟨i0, hi0, hz0, hz1, hz2⟩ := info_parts infoSl
  refine wpList_append_rd w hgd s x _ ho w0.heap.size 66 i0 _ 1 24 Tryz.underlying149 hi0 hz0 hz1 hz2 rfl (by omega) v us.length us hs hown vx 1 [u] hx hr (by simpa using h1) (by unfold maxLen; omega) (by omega) hg.size ?_
  intro v' w' h1 h2 h3
  refine h v' w' ?_ (hg.grown h2 fun k hk => (hown.lt k hk).1) h2
  unfold OwnV
  rw [List.length_append]
  exact h1

theorem own_one {w : World} {B : Nat} {u : Value} {xs : List Nd} (h : Own w B u xs) : u.oneCell' = true := by
  obtain ⟨A, c, rfl⟩ := nodes_slice h.nodes
  rfl
theorem rd_lit (w : World) (u : Value) (t : TypeId) : Rd (w.alloc (.cells #[u] t)) 1 (.slice (some ⟨w.heap.size, 0, none⟩) 1 1) 1 [u] := by
  refine ⟨rfl, by omega, .inr ⟨w.heap.size, 0, 1, rfl, by omega, by omega, by simp, fun j x hx => ?_⟩⟩
  have hj : j = 0 := by
    have := (List.getElem?_eq_some_iff.1 hx).1
    simp at this
    omega
  subst hj
  simp at hx
  subst hx
  simp

theorem own_empty (w : World) : OwnV (w.alloc (.cells #[] 66)) w.heap.size (.slice (some ⟨w.heap.size, 0, none⟩) 0 0) [] :=
  World.ownsRow_lit (e := 66) (size := 1) w #[] 0 (Nat.le_refl _) (by omega) rfl
end Go.Proofs.YtfpkfgimhanekaaGreat

/- The parts of a term in memory: inner of the program, l26Part of the reference. -/
namespace Go.Proofs.YtfpkfgimhanekaaGreat
open Go.RowKit
open Tr (Tm)

/-- A node of a term. -/
def GoodN (x : Tn) : Prop := tnB x.1 x.2.1 x.2.2 = true
/-- A term whose nodes are all good. -/
def Good (t : Tm) : Prop := Tr.wf GoodN t

theorem enc_at0 (t : Tm) : tk (Tr.enc t) 0 = (Tr.hd t).1 ∧ tn (Tr.enc t) 0 = (Tr.hd t).2.1 ∧ tt (Tr.enc t) 0 = (Tr.hd t).2.2 := by
  rw [Tr.enc_kids]; exact ⟨rfl, rfl, rfl⟩
theorem tms_head {w : World} {v : Value} {t : Tm} (h : Tms w v (Tr.enc t)) : ∃ b o c, v = .slice (some ⟨b, o, none⟩) (Tr.enc t).length c ∧ (Tr.enc t).length ≤ c ∧ c ≤ 9223372036854775807 ∧ b < w.heap.size ∧
    ∀ W, Grew w W → W.cell? ⟨b, o, none⟩ = some (.int .i64 (Tr.hd t).1) ∧ W.cell? ⟨b, o + 1, none⟩ = some (.int .i64 (Tr.hd t).2.1) ∧ W.cell? ⟨b, o + 2, none⟩ = some (.string (Tr.hd t).2.2) := by
  have hpos := Tr.enc_pos t
  rcases h.open_ with ⟨_, h0⟩ | ⟨b, o, c, rfl, hc, hm, hb, hf⟩
  · rw [h0] at hpos; simp at hpos
  · obtain ⟨e0, e1, e2⟩ := enc_at0 t
    refine ⟨b, o, c, rfl, hc, hm, hb, fun W hW => ?_⟩
    have h0 := hf 0 (by omega) W hW
    rw [e0, e1, e2] at h0
    simpa using h0

/-- The parts of a term, as a slice of slices. -/
def PartsT (w : World) (v : Value) (t : Tm) : Prop :=
  (v = .slice none 0 0 ∧ Tr.kids t = []) ∨ ∃ b o c, v = .slice (some ⟨b, o, none⟩) (Tr.kids t).length c ∧ (Tr.kids t).length ≤ c ∧ c ≤ 9223372036854775807 ∧ b < w.heap.size ∧
    ∀ i, i < (Tr.kids t).length → ∃ u, w.cell? ⟨b, o + i, none⟩ = some u ∧ Tms w u (Tr.enc (Tr.kid t i))
theorem PartsT.grew {w w' : World} {v : Value} {t : Tm} (h : PartsT w v t) (hg : Grew w w') : PartsT w' v t := by
  rcases h with h | ⟨b, o, c, h1, h2, h3, h4, h5⟩
  · exact .inl h
  · exact .inr ⟨b, o, c, h1, h2, h3, Nat.lt_of_lt_of_le h4 hg.size, fun i hi => by
      obtain ⟨u, h6, h7⟩ := h5 i hi
      exact ⟨u, (hg.cell (p := ⟨b, o + i, none⟩) h4).trans h6, h7.grew hg⟩⟩

/-- A row of slices of the call's own. -/
def OwnVT (w : World) (B : Nat) (v : Value) (us : List Value) : Prop := w.ownsRow B 27 1 v us.length us
theorem infoSlT : (Tryz.prog.info? 27).map (fun i => (i.zero, i.size, i.bytes)) = some (some (.slice none 0 0), 1, 24) := by kernel_rfl
theorem wpList_appVT {ops : Array Oper} {rest : List Oper} {o : Oper} {a : Act} {Q : Exit → Act → World → Prop} {w w0 : World} (s x : Operand) (hgd : o.guard = none)
    (ho : o.op = .call { callee := .builtin .append, args := #[s, x], argTypes := #[80, 80] })
    (v : Value) (us : List Value) (hs : a.eval s = v) (hown : OwnVT w w0.heap.size v us) (hg : Grew w0 w) (vx u : Value) (hx : a.eval x = vx) (hr : Rd w 1 vx 1 [u]) (h1 : u.oneCell' = true) (hn : us.length ≤ 1048576)
    (h : ∀ v' w', OwnVT w' w0.heap.size v' (us ++ [u]) → Grew w0 w' → w.grownBy w' v.ownBlock → wpList Tryz.prog ops Q rest (a.put o.dst v') w') : wpList Tryz.prog ops Q (o :: rest) a w := by
  obtain ⟨i0, hi0, hz0, hz1, hz2⟩ := info_parts infoSlT
  refine wpList_append_rd w hgd s x _ ho w0.heap.size 27 i0 _ 1 24 Tryz.underlying80 hi0 hz0 hz1 hz2 rfl (by omega) v us.length us hs hown vx 1 [u] hx hr (by simpa using h1) (by unfold maxLen; omega) (by omega) hg.size ?_
  intro v' w' h1 h2 h3
  refine h v' w' ?_ (hg.grown h2 fun k hk => (hown.lt k hk).1) h2
  unfold OwnVT
  rw [List.length_append]
  exact h1

/-- The first slices of the parts, each read in the world of the entry. -/
def HoldT (w : World) (t : Tm) (us : List Value) : Prop := ∀ i u, us[i]? = some u → Tms w u (Tr.enc (Tr.kid t i))
theorem HoldT.snoc {w : World} {t : Tm} {us : List Value} {u : Value} (h : HoldT w t us) (hu : Tms w u (Tr.enc (Tr.kid t us.length))) : HoldT w t (us ++ [u]) := by
  intro i x hx
  rcases Nat.lt_or_ge i us.length with hk | hk
  · rw [List.getElem?_append_left hk] at hx
    exact h i x hx
  · rw [List.getElem?_append_right hk] at hx
    have hi : i - us.length = 0 := by
      have := (List.getElem?_eq_some_iff.1 hx).1
      simp at this
      omega
    obtain rfl : i = us.length := by omega
    rw [hi] at hx
    simp at hx
    subst hx
    exact hu
theorem parts_of {w w' : World} {B : Nat} {v : Value} {t : Tm} {us : List Value} (hv : OwnVT w' B v us) (hl : us.length = (Tr.kids t).length) (h : HoldT w t us) (hg : Grew w w') : PartsT w' v t := by
  obtain ⟨_, _, h3⟩ := Rd.of_own hv
  rcases h3 with ⟨h4, h5⟩ | ⟨b, o, c, h4, h5, h6, h7, h8⟩
  · exact .inl ⟨h4, List.eq_nil_of_length_eq_zero (by omega)⟩
  · refine .inr ⟨b, o, c, by rw [← hl]; exact h4, by omega, h6, h7, fun i hi => ?_⟩
    have hi' : i < us.length := by omega
    have hx := List.getElem?_eq_getElem hi'
    exact ⟨us[i], h8 i _ hx, (h i _ hx).grew hg⟩
theorem tms_one {w : World} {u : Value} {xs : List Tn} (h : Tms w u xs) : u.oneCell' = true := by
  obtain ⟨A, c, rfl⟩ := tms_slice h
  rfl

theorem inner_o (v : Value) (t : Tm) (w0 w : World) (h0 : Tms w0 v (Tr.enc t)) (hw0 : Grew w0 w) (hg : Good t) (hn : (Tr.enc t).length ≤ 1048576) :
    Calls Tryz.prog 59 #[v] w fun e w' => ∃ u us, e = .returned u ∧ OwnVT w' w.heap.size u us ∧ us.length = (Tr.kids t).length ∧ HoldT w0 t us ∧ Grew w w' := by
  have h := h0.grew hw0
  obtain ⟨b, o, c, rfl, hc, hm, hb, hf⟩ := tms_head h
  have hkl := Tr.kids_len hg
  have k1 := (hf _ (Grew.refl w)).1
  have hpos := Tr.enc_pos t
  have HE := Lib.hid (fun i (hi : i < (Tr.kids t).length) W (hW : Grew w W) => by
    have h1 := termEnd_c _ (Tr.enc t) (Tr.off t i) W (h.grew hW) hn (by have := Tr.off_end hi; omega)
    rw [Tr.pend_kid hg hi, Int.natCast_add] at h1
    exact h1)
  have HL := Lib.hid (fun i (hi : i < (Tr.kids t).length) => (⟨Tr.off_end hi, Tr.off_next hi, Tr.enc_pos (Tr.kid t i)⟩ : Tr.off t i + (Tr.enc (Tr.kid t i)).length ≤ (Tr.enc t).length ∧ Tr.off t (i + 1) = Tr.off t i + (Tr.enc (Tr.kid t i)).length ∧ 1 ≤ (Tr.enc (Tr.kid t i)).length))
  have HS := Lib.hid (fun i (hi : i < (Tr.kids t).length) (c' : Nat) (hc1 : (Tr.enc (Tr.kid t i)).length ≤ c') (hc2 : c' ≤ 9223372036854775807) => by
    have h1 := h0.sub (Tr.off t i) (Tr.enc (Tr.kid t i)).length c' (Tr.off_end hi) hc1 hc2
    rw [Tr.take_kid hi] at h1
    exact h1)
  have har := Tr.ar_le (Tr.hd t).1
  have hz := Tr.off_zero t
  clear hf h hg h0 hw0
  generalize hN : (Tr.enc t).length = n at *
  clear hN
  generalize hM : (Tr.kids t).length = m at *
  have HTP := Lib.hid (fun w => termParts_c (Tr.hd t).1 w)
  generalize Tr.ar (Tr.hd t).1 = ar at *
  subst hkl
  go_enter Tryz.func59, Tryz.ntmps59
  go_wp2_with fail
  refine (HTP.out _).mono ?_
  rintro e w1 ⟨rfl, hg1⟩
  go_wp2_with fail
  go_loopw [3, 4, 5, 11] (fun vv x _ i wr => ∃ (j : Nat) (us : List Value), j ≤ m ∧ us.length = j ∧ i = .int .i64 j ∧ x = .int .i64 (Tr.off t j) ∧ OwnVT wr w.heap.size vv us ∧ Grew w wr ∧ Hid (HoldT w0 t us)) (fun _ _ _ i _ => m - (intOf i).toNat)
  case atStart => exact ⟨0, [], Nat.zero_le _, rfl, rfl, by rw [hz]; rfl, World.ownsRow_nil w1 _ _ 1, hg1, fun i u hi => absurd hi (by simp)⟩
  case round =>
    obtain ⟨j, us, hj, hu, rfl, rfl, hO, hB, HH⟩ := hrel
    by_cases hlt : j < m
    · obtain ⟨hl1, hl2, hl3⟩ := HL.out j (by omega)
      have hE := Lib.hid (HE.out j (by omega))
      have hS := Lib.hid (HS.out j (by omega))
      have hsnoc := Lib.hid (fun u (hu' : Tms w0 u (Tr.enc (Tr.kid t j))) => HH.out.snoc (u := u) (by rw [hu]; exact hu'))
      have HL2 := Lib.hid hl2
      clear hl2
      generalize Tr.enc (Tr.kid t j) = X at *
      generalize Tr.off t j = oj at *
      have hq0 : (0 : Int) ≤ (oj : Int) := by omega
      have hq1 : (oj : Int) ≤ (oj : Int) + (X.length : Int) := by omega
      have hq2 : (oj : Int) + (X.length : Int) ≤ (c : Int) := by omega
      go_wp2_with fail
      refine (hE.out _ hB).mono ?_
      rintro e w2 ⟨rfl, hg2⟩
      have hB2 := hB.trans hg2
      have hO1 : OwnVT (w2.alloc (.cells #[.slice (some ⟨b, o + oj * 3, none⟩) X.length (c - oj)] 27)) w.heap.size u3 us := own_grew hO (hg2.trans ((Grew.refl w2).alloc _))
      have hT := Lib.hid (hS.out (c - oj) (by omega) (by omega))
      go_wp2_with (first | (at_builtin; refine wpList_appVT (w0 := w) _ _ rfl rfl _ us rfl hO1 (hB2.alloc _) _ _ rfl (rd_lit _ _ _) rfl (by omega) ?_; intro v2 w3 hown2 hg3 hgr3))
      go_roundw
      case rel => exact ⟨j + 1, _, by omega, by rw [List.length_append, hu]; rfl, by go_num, by rw [HL2.out]; go_num, hown2, hg3, hsnoc.out _ hT.out⟩
      case measure => simp [intOf]; omega
    · obtain rfl : j = m := by omega
      go_wp2_with fail
      go_ret
      exact ⟨_, _, rfl, hO, by omega, HH.out, hB⟩
theorem inner_c (v : Value) (t : Tm) (w : World) (h : Tms w v (Tr.enc t)) (hg : Good t) (hn : (Tr.enc t).length ≤ 1048576) :
    Calls Tryz.prog 59 #[v] w fun e w' => ∃ u, e = .returned u ∧ PartsT w' u t ∧ Grew w w' :=
  (inner_o v t w w h (Grew.refl w) hg hn).mono fun _ _ ⟨u, _, h1, h2, h3, h4, h5⟩ => ⟨u, h1, parts_of h2 h3 h4 h5, h5⟩
theorem OwnVT.cell {w : World} {B g n c : Nat} {us : List Value} (h : OwnVT w B (.slice (some ⟨g, 0, none⟩) n c) us) {i : Nat} {x : Value} (hx : us[i]? = some x) : w.cell? ⟨g, i, none⟩ = some x := by
  obtain ⟨_, _, h3⟩ := Rd.of_own h
  rcases h3 with ⟨h4, _⟩ | ⟨b, o, c', h4, _, _, _, h8⟩
  · cases h4
  · obtain ⟨⟨rfl, rfl⟩, _⟩ : (g = b ∧ 0 = o) ∧ _ := by simpa using h4
    have := h8 i x hx
    rwa [Nat.zero_add] at this
theorem OwnVT.open_ {w : World} {B : Nat} {v : Value} {us : List Value} (h : OwnVT w B v us) (h0 : 0 < us.length) : ∃ g c, v = .slice (some ⟨g, 0, none⟩) us.length c ∧ us.length ≤ c ∧ c ≤ 9223372036854775807 ∧ B ≤ g ∧ g < w.heap.size := by
  rcases h.2 with ⟨_, h5⟩ | ⟨g, cap, cur, rfl, hb, hg, hnc, hcm, _, _⟩
  · omega
  · exact ⟨g, cap, rfl, hnc, hcm, hb, (Array.getElem?_eq_some_iff.1 hg).1⟩
/-- An append onto a row of nodes leaves the row of slices. -/
theorem ownVT_app {w w' : World} {B B' : Nat} {u v : Value} {us : List Value} {xs : List Tn} (h : OwnVT w B u us) (hv : OwnT w B' v xs) (hg : w.grownBy w' v.ownBlock) : OwnVT w' B u us := by
  rcases hv.2 with ⟨rfl, _⟩ | ⟨g, cap, cur, rfl, _, hh, _⟩
  · exact own_grew h (by
      have hg' : w.grownBy w' none := hg
      exact ⟨hg'.os, hg'.tape, hg'.output, hg'.size, fun i hi => hg'.block i hi (by simp)⟩)
  · exact own_only h (show Only g w w' from hg) (own_ne h hh (by decide))
end Go.Proofs.YtfpkfgimhanekaaGreat

/- FitsContext of both. -/
namespace Go.Proofs.YtfpkfgimhanekaaGreat
open Go.RowKit
open Tr (Tm)

theorem good_kind {t : Tm} (h : Good t) : 0 ≤ (Tr.hd t).1 ∧ (Tr.hd t).1 ≤ 9 := by
  by_cases hk : 0 ≤ (Tr.hd t).1 ∧ (Tr.hd t).1 ≤ 9
  · exact hk
  · have h1 := Tr.hd_wf h
    unfold GoodN at h1
    rw [tnB_kind hk] at h1
    cases h1
theorem good_leaf {t : Tm} (h : Good t) : Tr.kids t = [] ↔ (Tr.hd t).1 = 0 := by
  have h1 := Tr.kids_len h
  have h2 := good_kind h
  constructor
  · intro h3
    rw [h3] at h1
    unfold Tr.ar at h1
    simp only [List.length_nil] at h1
    split at h1
    · omega
    · split at h1
      · omega
      · split at h1 <;> omega
  · intro h3
    rw [h3] at h1
    exact List.eq_nil_of_length_eq_zero (by rw [h1]; rfl)

theorem one_c (b : Bool) (w : World) : Calls Tryz.prog 124 #[.bool b] w fun e w' => e = .returned (.int .i64 (if b then 1 else 0)) ∧ Grew w w' := by
  cases b
  all_goals
    go_enter Tryz.func124, Tryz.ntmps124
    go_wp2_with fail
    go_ret
    exact ⟨rfl, Grew.refl _⟩
theorem bindsIn_c (k : Int) (i : Nat) (w : World) (hi : i ≤ 1048576) : Calls Tryz.prog 102 #[.int .i64 k, .int .i64 i] w fun e w' => e = .returned (.int .i64 (Tr.bd k i)) ∧ Grew w w' := by
  cases h1 : (k == 1) with
  | true =>
    have hv : Tr.bd k i = 1 := by unfold Tr.bd; rw [if_pos (.inl (by simpa using h1))]
    rw [hv]
    have HO := Lib.hid (fun w => one_c true w)
    go_enter Tryz.func102, Tryz.ntmps102
    go_wp2_with fail
    refine (HO.out _).mono ?_
    rintro e w1 ⟨rfl, hg1⟩
    go_wp2_with fail
    go_ret
    exact ⟨rfl, hg1⟩
  | false =>
    have n1 : k ≠ 1 := by simpa using h1
    cases h8 : (k == 8) with
    | true =>
      have e8 : k = 8 := by simpa using h8
      by_cases hp : 0 < i
      · have hv : Tr.bd k i = 1 := by unfold Tr.bd; rw [if_pos (.inr ⟨e8, hp⟩)]
        rw [hv]
        have HO := Lib.hid (fun w => one_c true w)
        have hp' : decide ((0 : Int) < (i : Int)) = true := by simp; omega
        go_enter Tryz.func102, Tryz.ntmps102
        go_wp2_with fail
        refine (HO.out _).mono ?_
        rintro e w1 ⟨rfl, hg1⟩
        go_wp2_with fail
        go_ret
        exact ⟨rfl, hg1⟩
      · have hv : Tr.bd k i = 0 := by unfold Tr.bd; rw [if_neg (by omega)]
        rw [hv]
        have HO := Lib.hid (fun w => one_c false w)
        obtain rfl : i = 0 := by omega
        go_enter Tryz.func102, Tryz.ntmps102
        go_wp2_with fail
        refine (HO.out _).mono ?_
        rintro e w1 ⟨rfl, hg1⟩
        go_wp2_with fail
        go_ret
        exact ⟨rfl, hg1⟩
    | false =>
      have n8 : k ≠ 8 := by simpa using h8
      have hv : Tr.bd k i = 0 := by unfold Tr.bd; rw [if_neg (by omega)]
      rw [hv]
      have HO := Lib.hid (fun w => one_c false w)
      go_enter Tryz.func102, Tryz.ntmps102
      go_wp2_with fail
      refine (HO.out _).mono ?_
      rintro e w1 ⟨rfl, hg1⟩
      go_wp2_with fail
      go_ret
      exact ⟨rfl, hg1⟩

theorem l26Part_c (v : Value) (t : Tm) (k : Nat) (w : World) (h : Tms w v (Tr.enc t)) (hg : Good t) (hn : (Tr.enc t).length ≤ 1048576) (hk : k < (Tr.kids t).length) :
    Calls Tryz.prog 51 #[v, .int .i64 k] w fun e w' => ∃ u, e = .returned u ∧ Tms w' u (Tr.enc (Tr.kid t k)) ∧ Grew w w' := by
  obtain ⟨b, o, c, rfl, hc, hm, hb, hf⟩ := tms_head h
  have HE := Lib.hid (fun i (hi : i < (Tr.kids t).length) W (hW : Grew w W) => by
    have h1 := l26End_c _ (Tr.enc t) (Tr.enc t).length (Tr.off t i) W (by omega) (h.grew hW) hn (by have := Tr.off_end hi; omega)
    rw [Tr.pend_kid hg hi, Int.natCast_add] at h1
    exact h1)
  have HL := Lib.hid (fun i (hi : i < (Tr.kids t).length) => (⟨Tr.off_end hi, Tr.off_next hi, Tr.enc_pos (Tr.kid t i)⟩ : Tr.off t i + (Tr.enc (Tr.kid t i)).length ≤ (Tr.enc t).length ∧ Tr.off t (i + 1) = Tr.off t i + (Tr.enc (Tr.kid t i)).length ∧ 1 ≤ (Tr.enc (Tr.kid t i)).length))
  have HS := Lib.hid (fun i (hi : i < (Tr.kids t).length) (c' : Nat) (hc1 : (Tr.enc (Tr.kid t i)).length ≤ c') (hc2 : c' ≤ 9223372036854775807) => by
    have h1 := h.sub (Tr.off t i) (Tr.enc (Tr.kid t i)).length c' (Tr.off_end hi) hc1 hc2
    rw [Tr.take_kid hi] at h1
    exact h1)
  have hz := Tr.off_zero t
  have hk3 : k ≤ 3 := by have := Tr.kids_len hg; have := Tr.ar_le (Tr.hd t).1; omega
  clear hf h hg
  generalize hN : (Tr.enc t).length = n at *
  clear hN
  generalize hM : (Tr.kids t).length = m at *
  clear hM
  go_enter Tryz.func51, Tryz.ntmps51
  go_wp2_with fail
  go_loopw [1, 5] (fun x y wr => ∃ j : Nat, j ≤ k ∧ x = .int .i64 ((k - j : Nat) : Int) ∧ y = .int .i64 (Tr.off t j) ∧ Grew w wr) (fun x _ _ => (intOf x).toNat)
  case atStart => exact ⟨0, Nat.zero_le _, rfl, by rw [hz]; rfl, Grew.refl _⟩
  case round =>
    obtain ⟨j, hj, rfl, rfl, hB⟩ := hrel
    obtain ⟨hl1, hl2, hl3⟩ := HL.out j (by omega)
    have hE := Lib.hid (HE.out j (by omega))
    have hS := Lib.hid (HS.out j (by omega))
    have HL2 := Lib.hid hl2
    clear hl2
    by_cases hlt : j < k
    · obtain ⟨r, hr⟩ : ∃ r, k - j = r + 1 := ⟨k - j - 1, by omega⟩
      have hr3 : r ≤ 3 := by omega
      rw [hr]
      generalize Tr.enc (Tr.kid t j) = X at *
      generalize Tr.off t j = oj at *
      have hr0 : (0 : Int) < ((r + 1 : Nat) : Int) := by omega
      go_wp2_with fail
      refine (hE.out _ hB).mono ?_
      rintro e w2 ⟨rfl, hg2⟩
      have hB2 := hB.trans hg2
      go_wp2_with fail
      go_roundw
      case rel => exact ⟨j + 1, by omega, by rw [show k - (j + 1) = r by omega]; try go_num, by rw [HL2.out]; try go_num, hB2⟩
      case measure => (simp [intOf]; try omega)
    · obtain rfl : j = k := by omega
      rw [Nat.sub_self]
      generalize hX : Tr.enc (Tr.kid t j) = X at *
      generalize Tr.off t j = oj at *
      have hq0 : (0 : Int) ≤ (oj : Int) := by omega
      have hq1 : (oj : Int) ≤ (oj : Int) + (X.length : Int) := by omega
      have hq2 : (oj : Int) + (X.length : Int) ≤ (c : Int) := by omega
      have hT := Lib.hid (hS.out (c - oj) (by omega) (by omega))
      go_wp2_with fail
      refine (hE.out _ hB).mono ?_
      rintro e w2 ⟨rfl, hg2⟩
      have hB2 := hB.trans hg2
      go_wp2_with fail
      go_ret
      exact ⟨_, rfl, by
        rw [hX]
        show Tms w2 (.slice (some ⟨b, o + oj * 3, none⟩) (oj + X.length - oj) (c - oj)) X
        rw [Nat.add_sub_cancel_left]
        exact hT.out.grew hB2, hB2⟩

/-- What the function value gives at a number and what it is read with. -/
def HoldsOk (f : Nat) (p : Int → Int → Bool) : Prop := ∀ a b W, Calls Tryz.prog f #[.int .i64 a, .int .i64 b] W fun e w' => e = .returned (.bool (p a b)) ∧ Grew W w'

theorem everyNumber_c (f : Nat) (p : Int → Int → Bool) (hf : HoldsOk f p) (eg : ∀ args w, (callFunc f args).run Tryz.prog w = .ok (.enter f args) w) :
    ∀ t : Tm, Good t → ∀ (v : Value) (n : Int) (w : World), Tms w v (Tr.enc t) → (Tr.enc t).length ≤ 100000 → 0 ≤ n → n + (Tr.enc t).length ≤ 1000000 →
    Calls Tryz.prog 67 #[v, .int .i64 n, .func (.func f) #[] #[]] w fun e w' => e = .returned (.bool (Tr.evN p t n)) ∧ Grew w w' := by
  intro t
  refine Tr.ind (P := fun t => Good t → ∀ (v : Value) (n : Int) (w : World), Tms w v (Tr.enc t) → (Tr.enc t).length ≤ 100000 → 0 ≤ n → n + (Tr.enc t).length ≤ 1000000 →
    Calls Tryz.prog 67 #[v, .int .i64 n, .func (.func f) #[] #[]] w fun e w' => e = .returned (.bool (Tr.evN p t n)) ∧ Grew w w') ?_ t
  intro t ih hg v n w h hlen hn0 hn1
  obtain ⟨b, o, c, rfl, hc, hm, hb, hcl⟩ := tms_head h
  have hpos := Tr.enc_pos t
  obtain ⟨k1, k2, _⟩ := hcl _ (Grew.refl w)
  by_cases hleaf : Tr.kids t = []
  · have hk := (good_leaf hg).1 hleaf
    rw [Tr.evN_leaf hleaf]
    rw [hk] at k1
    generalize (Tr.hd t).2.1 = a at *
    have HF := Lib.hid (hf a n)
    clear hcl ih hg h hf hk hleaf
    generalize (Tr.enc t).length = nn at *
    generalize p a n = R at *
    go_enter Tryz.func67, Tryz.ntmps67
    go_wp2_with fail
    go_at_fn f
    refine (HF.out _).mono ?_
    rintro e w1 ⟨rfl, hg1⟩
    go_wp2_with fail
    go_ret
    exact ⟨rfl, hg1⟩
  · have hk : ((Tr.hd t).1 == 0) = false := by
      have := mt (good_leaf hg).2 hleaf
      simpa using this
    have hm1 : 0 < (Tr.kids t).length := List.length_pos_iff.2 hleaf
    have hkl := Tr.kids_len hg
    have har := Tr.ar_le (Tr.hd t).1
    rw [Tr.evN_kids hleaf]
    obtain ⟨R, hR⟩ : ∃ R, R = Tr.evL p (Tr.hd t).1 (Tr.kids t) 0 n := ⟨_, rfl⟩
    rw [← hR]
    have HI := Lib.hid (fun W (hW : Grew w W) => inner_c _ t W (h.grew hW) hg (by omega))
    have HK := Lib.hid (fun W (hW : Grew w W) => (hcl W hW).1)
    have HR : Hid (R = Tr.evL p (Tr.hd t).1 ((Tr.kids t).drop 0) 0 n) := hR
    have HS := Lib.hid (fun i (hi : i < (Tr.kids t).length) => @Tr.evL_kid p (Tr.hd t).1 t i n hi)
    have HZ := Lib.hid (fun i (hi : (Tr.kids t).length ≤ i) => @Tr.evL_end p (Tr.hd t).1 (Tr.kids t) i n hi)
    have HIH := Lib.hid (fun i (hi : i < (Tr.kids t).length) u d W (hd0 : 0 ≤ d) (hd1 : d ≤ 1) hu => ih _ (Tr.kid_mem hi) (Tr.kids_wf hg _ (Tr.kid_mem hi)) u (n + d) W hu (by have := Tr.kid_small hi; omega) (by omega) (by have := Tr.kid_small hi; omega))
    have HBD := Lib.hid (fun i (hi : i < (Tr.kids t).length) w => bindsIn_c (Tr.hd t).1 i w (by omega))
    have HB2 := Lib.hid (fun i => (by unfold Tr.bd; split <;> omega : 0 ≤ Tr.bd (Tr.hd t).1 i ∧ Tr.bd (Tr.hd t).1 i ≤ 1))
    clear hcl ih hg h hf hR hleaf
    generalize (Tr.hd t).1 = kk at *
    generalize (Tr.enc t).length = nn at *
    generalize hM : (Tr.kids t).length = m at *
    go_enter Tryz.func67, Tryz.ntmps67
    go_wp2_with fail
    refine (HI.out _ (Grew.refl w)).mono ?_
    rintro e w1 ⟨u, rfl, hp1, hg1⟩
    rcases hp1 with ⟨rfl, h0⟩ | ⟨b2, o2, c2, rfl, hc2, hm2, hb2, hcell⟩
    · rw [h0] at hM; simp at hM; omega
    rw [hM] at hc2 hcell ⊢
    have HC := Lib.hid hcell
    clear hcell
    go_wp2_with fail
    go_loopw [7, 8, 24] (fun _ _ i wr => ∃ j : Nat, j ≤ m ∧ i = .int .i64 j ∧ Grew w1 wr ∧ Hid (R = Tr.evL p kk ((Tr.kids t).drop j) j n)) (fun _ _ i _ => m - (intOf i).toNat)
    case atStart => exact ⟨0, Nat.zero_le _, rfl, Grew.refl _, HR.out⟩
    case round =>
      obtain ⟨j, hj, rfl, hB, HJ⟩ := hrel
      clear HR
      by_cases hlt : j < m
      · obtain ⟨x, hx1, hx2⟩ := HC.out j hlt
        have e1 : wr.cell? ⟨b2, o2 + j, none⟩ = some x := (hB.cell (p := ⟨b2, o2 + j, none⟩) hb2).trans hx1
        have e2 : wr.cell? ⟨b, o, none⟩ = some (.int .i64 kk) := HK.out _ (hg1.trans hB)
        obtain ⟨A3, c3, rfl⟩ := tms_slice hx2
        have hs := HS.out j hlt
        rw [← HJ.out] at hs
        have HSS := Lib.hid hs
        have hih := Lib.hid (fun W (hW : Grew w1 W) => HIH.out j hlt _ (Tr.bd kk j) W (HB2.out j).1 (HB2.out j).2 (hx2.grew hW))
        have hbd := Lib.hid (HBD.out j hlt)
        have hb01 := HB2.out j
        clear hs hx1 hx2 HJ
        generalize Tr.bd kk j = d at *
        generalize (Tr.enc (Tr.kid t j)).length = ln at *
        generalize Tr.evN p (Tr.kid t j) (n + d) = q at *
        obtain ⟨hb0, hb1⟩ := hb01
        go_wp2_with fail
        refine (hbd.out _).mono ?_
        rintro e w2 ⟨rfl, hg2⟩
        go_wp2_with fail
        refine (hih.out _ (hB.trans hg2)).mono ?_
        rintro e w3 ⟨rfl, hg3⟩
        have hB3 := (hB.trans hg2).trans hg3
        cases q with
        | true =>
          have hv : Hid (R = Tr.evL p kk ((Tr.kids t).drop (j + 1)) (j + 1) n) := Lib.hid (by rw [HSS.out, Bool.true_and])
          go_wp2_with fail
          go_roundw
          case rel => exact ⟨j + 1, by omega, by go_num, hB3, hv⟩
          case measure => simp [intOf]; omega
        | false =>
          have hv : Hid (R = false) := Lib.hid (by rw [HSS.out, Bool.false_and])
          go_wp2_with fail
          go_ret
          rw [hv.out]
          exact ⟨rfl, hg1.trans hB3⟩
      · obtain rfl : j = m := by omega
        have hv : Hid (R = true) := Lib.hid (by rw [HJ.out, HZ.out]; omega)
        go_wp2_with fail
        go_ret
        rw [hv.out]
        exact ⟨rfl, hg1.trans hB⟩
end Go.Proofs.YtfpkfgimhanekaaGreat

/- Does a term fit: fitsContext, contextCode, FitsContext of the program; l26Fits, FitsContext of the reference. -/
namespace Go.Proofs.YtfpkfgimhanekaaGreat
open Go.RowKit
open Tr (Tm)

theorem tmB_tree {xs : List Tn} (h : tmB xs = true) : ∃ t, Good t ∧ Tr.enc t = xs ∧ xs.length ≤ 60 := by
  unfold tmB at h
  simp only [Bool.and_eq_true, decide_eq_true_eq, Bool.not_eq_true', beq_iff_eq] at h
  obtain ⟨⟨⟨h1, h2⟩, h3⟩, h4⟩ := h
  have hall : ∀ x ∈ xs, GoodN x := by
    intro x hx
    obtain ⟨i, hi, rfl⟩ := List.getElem_of_mem hx
    have := anyT_none h3 hi
    unfold GoodN
    rw [tk_lt hi]
    simpa [noTn] using this
  have hs : Tr.scan xs 1 = some xs.length := by
    unfold Tr.pend at h4
    rw [List.drop_zero] at h4
    cases hz : Tr.scan xs 1 with
    | none => rw [hz] at h4; simp only [Tr.pval] at h4; omega
    | some n => rw [hz] at h4; simp only [Tr.pval] at h4; congr 1; omega
  obtain ⟨t, ht, he⟩ := Tr.tree_of hs hall
  exact ⟨t, ht, he, h2⟩
/-- The tree of a list that is a term's. -/
noncomputable def tmT (xs : List Tn) : Tm := @dite _ (tmB xs = true) (Classical.propDecidable _) (fun h => Classical.choose (tmB_tree h)) (fun _ => .t0 (0, 0, ByteArray.empty))
theorem tmT_ok {xs : List Tn} (h : tmB xs = true) : Good (tmT xs) ∧ Tr.enc (tmT xs) = xs ∧ xs.length ≤ 60 := by
  unfold tmT
  rw [dif_pos h]
  exact Classical.choose_spec (tmB_tree h)

def ltP (a b : Int) : Bool := decide (a < b)
theorem fitsContext1_ok : HoldsOk 68 ltP := by
  intro a b w
  unfold ltP
  go_enter Tryz.func68, Tryz.ntmps68
  go_wp2_with fail
  go_ret
  exact ⟨rfl, Grew.refl _⟩
theorem fitsContext_c (v : Value) (t : Tm) (n : Int) (w : World) (h : Tms w v (Tr.enc t)) (hg : Good t) (hn : (Tr.enc t).length ≤ 100000) (h0 : 0 ≤ n) (h1 : n + (Tr.enc t).length ≤ 1000000) :
    Calls Tryz.prog 40 #[v, .int .i64 n] w fun e w' => e = .returned (.bool (Tr.evN ltP t n)) ∧ Grew w w' := by
  have HE := Lib.hid (everyNumber_c _ _ fitsContext1_ok (enters_of Tryz.func68 (by kernel_rfl) rfl) t hg v n w h hn h0 h1)
  clear h hg
  generalize Tr.evN ltP t n = R at *
  go_enter Tryz.func40, Tryz.ntmps40
  go_wp2_with fail
  refine HE.out.mono ?_
  rintro e w1 ⟨rfl, hg1⟩
  go_wp2_with fail
  go_ret
  exact ⟨rfl, hg1⟩

/-- The rest of a term with one part. -/
theorem sub_one {w : World} {b o c : Nat} {x : Tn} {a : Tm} (h : Tms w (.slice (some ⟨b, o, none⟩) ((Tr.enc a).length + 1) c) (x :: Tr.enc a)) (hc : (Tr.enc a).length + 1 ≤ c) (hc2 : c ≤ 9223372036854775807) : Tms w (.slice (some ⟨b, o + 3, none⟩) (Tr.enc a).length (c - 1)) (Tr.enc a) := by
  have := h.sub 1 (Tr.enc a).length (c - 1) (by simp; omega) (by omega) (by omega)
  simpa using this
theorem ar_one {k : Int} (h : Tr.ar k = 1) : k = 1 ∨ k = 4 ∨ k = 5 ∨ k = 6 ∨ k = 7 ∨ k = 9 := by
  unfold Tr.ar at h
  split at h
  · assumption
  · split at h
    · omega
    · split at h <;> omega
theorem ar_two {k : Int} (h : Tr.ar k = 2) : k = 2 ∨ k = 3 := by
  unfold Tr.ar at h
  split at h
  · omega
  · split at h
    · assumption
    · split at h <;> omega
theorem ar_three {k : Int} (h : Tr.ar k = 3) : k = 8 := by
  unfold Tr.ar at h
  split at h
  · omega
  · split at h
    · omega
    · split at h
      · assumption
      · omega
theorem l26Fits_c : ∀ t : Tm, Good t → ∀ (v : Value) (n : Int) (w : World), Tms w v (Tr.enc t) → (Tr.enc t).length ≤ 100000 → 0 ≤ n → n + (Tr.enc t).length ≤ 1000000 →
    Calls Tryz.prog 38 #[v, .int .i64 n] w fun e w' => e = .returned (.bool (Tr.evN ltP t n)) ∧ Grew w w' := by
  intro t
  refine Tr.ind (P := fun t => Good t → ∀ (v : Value) (n : Int) (w : World), Tms w v (Tr.enc t) → (Tr.enc t).length ≤ 100000 → 0 ≤ n → n + (Tr.enc t).length ≤ 1000000 →
    Calls Tryz.prog 38 #[v, .int .i64 n] w fun e w' => e = .returned (.bool (Tr.evN ltP t n)) ∧ Grew w w') ?_ t
  intro t ih hg v n w h hlen hn0 hn1
  have HP := fun k (hk : k < (Tr.kids t).length) W (hW : Grew w W) => l26Part_c v t k W (h.grew hW) hg (by omega) hk
  have IH := fun k (hk : k < (Tr.kids t).length) u d W (hd0 : 0 ≤ d) (hd1 : d ≤ 1) hu => ih _ (Tr.kid_mem hk) (Tr.kids_wf hg _ (Tr.kid_mem hk)) u (n + d) W hu (by have := Tr.kid_small hk; omega) (by omega) (by have := Tr.kid_small hk; omega)
  have hgk := good_leaf hg
  obtain ⟨b, o, c, rfl, hc, hm, hb, hcl⟩ := tms_head h
  have k0 := (hcl _ (Grew.refl w)).1
  cases t with
  | t0 x =>
    have hx : x.1 = 0 := hgk.1 rfl
    have k1 := (hcl _ (Grew.refl w)).2.1
    simp only [Tr.hd, hx] at k0 k1
    show Calls _ _ _ _ (fun e w' => e = .returned (.bool (ltP x.2.1 n)) ∧ Grew w w')
    unfold ltP
    generalize x.2.1 = a at *
    clear hcl HP IH h hgk hg ih
    simp only [Tr.enc, List.length_singleton] at *
    go_enter Tryz.func38, Tryz.ntmps38
    go_wp2_with fail
    go_ret
    exact ⟨rfl, Grew.refl _⟩
  | t1 x a =>
    have hx := ar_one (show Tr.ar x.1 = 1 from hg.1.1)
    have hpos := Tr.enc_pos a
    simp only [Tr.hd] at k0
    have hsub := sub_one (x := x) (a := a) (by simpa [Tr.enc] using h) (by simpa [Tr.enc] using hc) hm
    have I := Lib.hid (fun d W hd0 hd1 hu => IH 0 (by simp [Tr.kids]) (.slice (some ⟨b, o + 3, none⟩) (Tr.enc a).length (c - 1)) d W hd0 hd1 hu)
    simp only [Tr.kid, Tr.kids, List.getD_cons_zero] at I
    show Calls _ _ _ _ (fun e w' => e = .returned (.bool (Tr.evN ltP a (n + Tr.bd x.1 0))) ∧ Grew w w')
    have hlc : (Tr.enc (.t1 x a)).length = (Tr.enc a).length + 1 := by simp [Tr.enc]
    rw [hlc] at hc hlen hn1 ⊢
    have HS := Lib.hid hsub
    clear hsub hcl HP IH h hgk hg ih hlc
    generalize x.1 = k at *
    have hc1 : ¬ c = 1 := by omega
    rcases hx with rfl | rfl | rfl | rfl | rfl | rfl
    · have II := Lib.hid (I.out 1 w (by omega) (by omega) HS.out)
      rw [show Tr.bd 1 0 = 1 from rfl]
      clear I HS
      generalize Tr.evN ltP a (n + 1) = R at *
      generalize (Tr.enc a).length = la at *
      go_enter Tryz.func38, Tryz.ntmps38
      go_wp2_with fail
      refine II.out.mono ?_
      rintro e w1 ⟨rfl, hg1⟩
      go_wp2_with fail
      go_ret
      exact ⟨rfl, hg1⟩
    all_goals
      have II := I.out 0 w (by omega) (by omega) HS.out
      rw [Int.add_zero] at II
      replace II := Lib.hid II
      rw [show n + Tr.bd _ 0 = n from by rw [show Tr.bd _ 0 = 0 from rfl, Int.add_zero]]
      clear I HS
      generalize Tr.evN ltP a n = R at *
      generalize (Tr.enc a).length = la at *
      go_enter Tryz.func38, Tryz.ntmps38
      go_wp2_with fail
      refine II.out.mono ?_
      rintro e w1 ⟨rfl, hg1⟩
      go_wp2_with fail
      go_ret
      exact ⟨rfl, hg1⟩
  | t2 x a b' =>
    have hx := ar_two (show Tr.ar x.1 = 2 from hg.1.1)
    simp only [Tr.hd] at k0
    have P0 := Lib.hid (HP 0 (by simp [Tr.kids]))
    have P1 := Lib.hid (HP 1 (by simp [Tr.kids]))
    have I0 := Lib.hid (fun u W hu => IH 0 (by simp [Tr.kids]) u 0 W (by omega) (by omega) hu)
    have I1 := Lib.hid (fun u W hu => IH 1 (by simp [Tr.kids]) u 0 W (by omega) (by omega) hu)
    simp only [Tr.kid, Tr.kids, List.getD_cons_zero, List.getD_cons_succ, Int.add_zero] at I0 I1 P0 P1
    show Calls _ _ _ _ (fun e w' => e = .returned (.bool (Tr.evN ltP a (n + Tr.bd x.1 0) && Tr.evN ltP b' (n + Tr.bd x.1 1))) ∧ Grew w w')
    have hpos := Tr.enc_pos (.t2 x a b')
    clear hcl HP IH h hgk hg ih
    generalize (Tr.enc (.t2 x a b')).length = ll at *
    generalize x.1 = k at *
    rcases hx with rfl | rfl
    all_goals
      rw [show n + Tr.bd _ 0 = n from by rw [show Tr.bd _ 0 = 0 from rfl, Int.add_zero], show n + Tr.bd _ 1 = n from by rw [show Tr.bd _ 1 = 0 from rfl, Int.add_zero]]
      generalize Tr.evN ltP a n = R0 at *
      generalize Tr.evN ltP b' n = R1 at *
      cases R0 with
      | true =>
        go_enter Tryz.func38, Tryz.ntmps38
        go_wp2_with fail
        refine (P0.out _ (Grew.refl w)).mono ?_
        rintro e w1 ⟨u0, rfl, hu0, hg1⟩
        go_wp2_with fail
        refine (I0.out _ _ hu0).mono ?_
        rintro e w2 ⟨rfl, hg2⟩
        go_wp2_with fail
        refine (P1.out _ (hg1.trans hg2)).mono ?_
        rintro e w3 ⟨u1, rfl, hu1, hg3⟩
        go_wp2_with fail
        refine (I1.out _ _ hu1).mono ?_
        rintro e w4 ⟨rfl, hg4⟩
        go_wp2_with fail
        go_ret
        exact ⟨by simp, ((hg1.trans hg2).trans hg3).trans hg4⟩
      | false =>
        go_enter Tryz.func38, Tryz.ntmps38
        go_wp2_with fail
        refine (P0.out _ (Grew.refl w)).mono ?_
        rintro e w1 ⟨u0, rfl, hu0, hg1⟩
        go_wp2_with fail
        refine (I0.out _ _ hu0).mono ?_
        rintro e w2 ⟨rfl, hg2⟩
        go_wp2_with fail
        go_ret
        exact ⟨by simp, hg1.trans hg2⟩
  | t3 x a b' c' =>
    have hx := ar_three (show Tr.ar x.1 = 3 from hg.1.1)
    simp only [Tr.hd] at k0
    have P0 := Lib.hid (HP 0 (by simp [Tr.kids]))
    have P1 := Lib.hid (HP 1 (by simp [Tr.kids]))
    have P2 := Lib.hid (HP 2 (by simp [Tr.kids]))
    have I0 := Lib.hid (fun u W hu => IH 0 (by simp [Tr.kids]) u 0 W (by omega) (by omega) hu)
    have I1 := Lib.hid (fun u W hu => IH 1 (by simp [Tr.kids]) u 1 W (by omega) (by omega) hu)
    have I2 := Lib.hid (fun u W hu => IH 2 (by simp [Tr.kids]) u 1 W (by omega) (by omega) hu)
    simp only [Tr.kid, Tr.kids, List.getD_cons_zero, List.getD_cons_succ, Int.add_zero] at I0 I1 I2 P0 P1 P2
    show Calls _ _ _ _ (fun e w' => e = .returned (.bool (Tr.evN ltP a (n + Tr.bd x.1 0) && (Tr.evN ltP b' (n + Tr.bd x.1 1) && Tr.evN ltP c' (n + Tr.bd x.1 2)))) ∧ Grew w w')
    have hpos := Tr.enc_pos (.t3 x a b' c')
    clear hcl HP IH h hgk hg ih
    generalize (Tr.enc (.t3 x a b' c')).length = ll at *
    generalize x.1 = k at *
    subst hx
    rw [show n + Tr.bd _ 0 = n from by rw [show Tr.bd _ 0 = 0 from rfl, Int.add_zero], show Tr.bd 8 1 = 1 from rfl, show Tr.bd 8 2 = 1 from rfl]
    generalize Tr.evN ltP a n = R0 at *
    generalize Tr.evN ltP b' (n + 1) = R1 at *
    generalize Tr.evN ltP c' (n + 1) = R2 at *
    cases R0 with
    | true =>
      cases R1 with
      | true =>
        go_enter Tryz.func38, Tryz.ntmps38
        go_wp2_with fail
        refine (P0.out _ (Grew.refl w)).mono ?_
        rintro e w1 ⟨u0, rfl, hu0, hg1⟩
        go_wp2_with fail
        refine (I0.out _ _ hu0).mono ?_
        rintro e w2 ⟨rfl, hg2⟩
        go_wp2_with fail
        refine (P1.out _ (hg1.trans hg2)).mono ?_
        rintro e w3 ⟨u1, rfl, hu1, hg3⟩
        go_wp2_with fail
        refine (I1.out _ _ hu1).mono ?_
        rintro e w4 ⟨rfl, hg4⟩
        have hk4 := ((hg1.trans hg2).trans hg3).trans hg4
        go_wp2_with fail
        refine (P2.out _ hk4).mono ?_
        rintro e w5 ⟨u2, rfl, hu2, hg5⟩
        go_wp2_with fail
        refine (I2.out _ _ hu2).mono ?_
        rintro e w6 ⟨rfl, hg6⟩
        go_wp2_with fail
        go_ret
        exact ⟨by simp, (hk4.trans hg5).trans hg6⟩
      | false =>
        go_enter Tryz.func38, Tryz.ntmps38
        go_wp2_with fail
        refine (P0.out _ (Grew.refl w)).mono ?_
        rintro e w1 ⟨u0, rfl, hu0, hg1⟩
        go_wp2_with fail
        refine (I0.out _ _ hu0).mono ?_
        rintro e w2 ⟨rfl, hg2⟩
        go_wp2_with fail
        refine (P1.out _ (hg1.trans hg2)).mono ?_
        rintro e w3 ⟨u1, rfl, hu1, hg3⟩
        go_wp2_with fail
        refine (I1.out _ _ hu1).mono ?_
        rintro e w4 ⟨rfl, hg4⟩
        go_wp2_with fail
        go_ret
        exact ⟨by simp, ((hg1.trans hg2).trans hg3).trans hg4⟩
    | false =>
      go_enter Tryz.func38, Tryz.ntmps38
      go_wp2_with fail
      refine (P0.out _ (Grew.refl w)).mono ?_
      rintro e w1 ⟨u0, rfl, hu0, hg1⟩
      go_wp2_with fail
      refine (I0.out _ _ hu0).mono ?_
      rintro e w2 ⟨rfl, hg2⟩
      go_wp2_with fail
      go_ret
      exact ⟨by simp, hg1.trans hg2⟩
end Go.Proofs.YtfpkfgimhanekaaGreat

/- Small lemmas on the numbers and types of terms. -/
namespace Go.Proofs.YtfpkfgimhanekaaGreat
open Go.RowKit

theorem tnB_num0 {k n : Int} {s : ByteArray} (h : tnB k n s = true) : 0 ≤ n ∧ n ≤ 99 := by
  by_cases hn : 0 ≤ n ∧ n ≤ 99
  · exact hn
  · rw [tnB_range hn] at h; cases h
theorem tm_nodes {xs : List Tn} (h : tmB xs = true) (i : Nat) (hi : i < xs.length) : tnB (tk xs i) (tn xs i) (tt xs i) = true := by
  unfold tmB at h
  simp only [Bool.and_eq_true, Bool.not_eq_true'] at h
  have := anyT_none h.1.2 hi
  simpa [noTn] using this
theorem tm_numOk {xs : List Tn} (h : tmB xs = true) : NumOk xs := fun i hi => by
  have := tnB_num0 (tm_nodes h i hi)
  omega
theorem raise_fits {k d : Int} {xs : List Tn} (h : FitsT xs) : FitsT (raiseL k d xs) := fun i hi => by
  rw [raiseL_length] at hi
  rw [raise_tt hi]
  exact h i hi
def GivesT2 (w : World) (r : List Tn × Int) (e : Ending) (w' : World) : Prop := ∃ v, e = .returned (.tuple #[v, .int .i64 r.2]) ∧ OwnT w' w.heap.size v r.1 ∧ Grew w w'
end Go.Proofs.YtfpkfgimhanekaaGreat

/- contextCode of the program. -/
namespace Go.Proofs.YtfpkfgimhanekaaGreat
open Go.RowKit
open Tr (Tm)

/-- The error of a term that has to fit n. -/
noncomputable def ctxC (xs : List Tn) (n : Int) : Int := if tmB xs then (if 0 ≤ n ∧ n ≤ 12 then (if Tr.evN ltP (tmT xs) n then 0 else 5) else 2) else 1
theorem ctx_bad {xs : List Tn} {n : Int} (h : tmB xs = false) : ctxC xs n = 1 := by unfold ctxC; rw [h]; rfl
theorem ctx_range {xs : List Tn} {n : Int} (h : tmB xs = true) (hn : ¬ (0 ≤ n ∧ n ≤ 12)) : ctxC xs n = 2 := by unfold ctxC; rw [h, if_pos rfl, if_neg hn]
theorem ctx_in {xs : List Tn} {n : Int} (h : tmB xs = true) (hn : 0 ≤ n ∧ n ≤ 12) : ctxC xs n = if Tr.evN ltP (tmT xs) n then 0 else 5 := by unfold ctxC; rw [h, if_pos rfl, if_pos hn]
theorem ctx_any (xs : List Tn) (n : Int) : ctxC xs n = 0 ∨ ctxC xs n = 1 ∨ ctxC xs n = 2 ∨ ctxC xs n = 5 := by
  unfold ctxC
  split
  · split
    · split
      · exact .inl rfl
      · exact .inr (.inr (.inr rfl))
    · exact .inr (.inr (.inl rfl))
  · exact .inr (.inl rfl)

theorem contextCode_c (v : Value) (xs : List Tn) (n : Int) (w : World) (h : Tms w v xs) (hfit : FitsT xs) (hn : xs.length ≤ 1048576) :
    Calls Tryz.prog 22 #[v, .int .i64 n] w fun e w' => e = .returned (.int .i64 (ctxC xs n)) ∧ Grew w w' := by
  have HI := fun W (hW : Grew w W) => isTerm_c v xs W (h.grew hW) hfit hn
  cases hb : tmB xs with
  | false =>
    rw [hb] at HI
    rw [ctx_bad hb]
    replace HI := Lib.hid HI
    clear h hfit hb
    go_enter Tryz.func22, Tryz.ntmps22
    go_wp2_with fail
    refine (HI.out _ (Grew.refl _)).mono ?_
    rintro e w1 ⟨rfl, hg1⟩
    go_wp2_with fail
    go_ret
    exact ⟨rfl, hg1⟩
  | true =>
    rw [hb] at HI
    replace HI := Lib.hid HI
    have HR := fun w => inRange_c n 0 12 w
    by_cases hr : 0 ≤ n ∧ n ≤ 12
    · rw [decide_eq_true hr] at HR
      replace HR := Lib.hid HR
      rw [ctx_in hb hr]
      obtain ⟨t1, t2, t3⟩ := tmT_ok hb
      have HF := fun W (hW : Grew w W) => fitsContext_c v (tmT xs) n W (by rw [t2]; exact h.grew hW) t1 (by rw [t2]; omega) hr.1 (by rw [t2]; omega)
      generalize Tr.evN ltP (tmT xs) n = q at *
      replace HF := Lib.hid HF
      clear h hfit hb t1 t2 t3
      cases q with
      | true =>
        go_enter Tryz.func22, Tryz.ntmps22
        go_wp2_with fail
        refine (HI.out _ (Grew.refl _)).mono ?_
        rintro e w1 ⟨rfl, hg1⟩
        go_wp2_with fail
        refine (HR.out _).mono ?_
        rintro e w2 ⟨rfl, hg2⟩
        go_wp2_with fail
        refine (HF.out _ (hg1.trans hg2)).mono ?_
        rintro e w3 ⟨rfl, hg3⟩
        go_wp2_with fail
        go_ret
        exact ⟨rfl, (hg1.trans hg2).trans hg3⟩
      | false =>
        go_enter Tryz.func22, Tryz.ntmps22
        go_wp2_with fail
        refine (HI.out _ (Grew.refl _)).mono ?_
        rintro e w1 ⟨rfl, hg1⟩
        go_wp2_with fail
        refine (HR.out _).mono ?_
        rintro e w2 ⟨rfl, hg2⟩
        go_wp2_with fail
        refine (HF.out _ (hg1.trans hg2)).mono ?_
        rintro e w3 ⟨rfl, hg3⟩
        go_wp2_with fail
        go_ret
        exact ⟨rfl, (hg1.trans hg2).trans hg3⟩
    · rw [decide_eq_false hr] at HR
      replace HR := Lib.hid HR
      rw [ctx_range hb hr]
      clear h hfit hb hr
      go_enter Tryz.func22, Tryz.ntmps22
      go_wp2_with fail
      refine (HI.out _ (Grew.refl _)).mono ?_
      rintro e w1 ⟨rfl, hg1⟩
      go_wp2_with fail
      refine (HR.out _).mono ?_
      rintro e w2 ⟨rfl, hg2⟩
      go_wp2_with fail
      go_ret
      exact ⟨rfl, hg1.trans hg2⟩
end Go.Proofs.YtfpkfgimhanekaaGreat

/- The laws' text of a mark: one text for each number. -/
namespace Go.Proofs.YtfpkfgimhanekaaGreat
open Go.RowKit

theorem conv_one (Y : Int) (w : World) (t : TypeId) : (convert 65 9 (.slice (some ⟨w.heap.size, 0, none⟩) 1 1)).run Tryz.prog (w.alloc (.cells #[.int .u8 Y] t)) = .ok (.string (strOfNums [Y])) (w.alloc (.cells #[.int .u8 Y] t)) :=
  run_convert_bytes_arg (P := Tryz.prog) (w := w.alloc (.cells #[.int .u8 Y] t)) 65 5 Tryz.underlying65 Tryz.underlying5 w.heap.size 0 1 1 [Y] rfl (fun i hi => by
    obtain rfl : i = 0 := by omega
    simp) 9 Tryz.underlying9

/-- The digits of m ahead of z. -/
def digs : Nat → Nat → ByteArray → ByteArray
  | 0, _, z => z
  | f + 1, m, z => if m = 0 then z else digs f (m / 10) (strOfNums [((48 + m % 10 : Nat) : Int)] ++ z)
theorem digs_zero (f : Nat) (z : ByteArray) : digs f 0 z = z := by cases f <;> simp [digs]
theorem digs_step {f m : Nat} (h : 0 < m) (z : ByteArray) : digs (f + 1) m z = digs f (m / 10) (strOfNums [((48 + m % 10 : Nat) : Int)] ++ z) := by rw [digs, if_neg (by omega)]
/-- The text of a mark. -/
def mtx (k : Int) : ByteArray := if k ≤ 0 then ⟨#[109, 48]⟩ else ⟨#[109]⟩ ++ digs k.toNat k.toNat ⟨#[]⟩

theorem markTextD_c (k : Int) (w : World) (h0 : 0 ≤ k) (h1 : k ≤ 4611686018427387904) :
    Calls Tryz.prog 26 #[.int .i64 k] w fun e w' => e = .returned (.string (mtx k)) ∧ Grew w w' := by
  unfold mtx
  by_cases hk : k ≤ 0
  · rw [if_pos hk]
    go_enter Tryz.func26, Tryz.ntmps26
    go_wp2_with fail
    go_ret
    exact ⟨rfl, Grew.refl _⟩
  · rw [if_neg hk]
    obtain ⟨M, hM⟩ : ∃ M, M = (⟨#[109]⟩ : ByteArray) ++ digs k.toNat k.toNat ⟨#[]⟩ := ⟨_, rfl⟩
    rw [← hM]
    obtain ⟨n, rfl⟩ : ∃ n : Nat, k = (n : Int) := ⟨k.toNat, by omega⟩
    rw [Int.toNat_natCast] at hM
    have HM := Lib.hid hM
    have HST := Lib.hid (fun f m (h : 0 < m) z => @digs_step f m h z)
    have HZ := Lib.hid (fun f z => digs_zero f z)
    clear hM
    go_enter Tryz.func26, Tryz.ntmps26
    go_wp2_with fail
    go_loopw [0, 3] (fun kk s wr => ∃ (m f : Nat) (z : ByteArray), m ≤ f ∧ (z.size : Int) + m ≤ 4611686018427387904 ∧ kk = .int .i64 m ∧ s = .string z ∧ Grew w wr ∧ Hid (M = (⟨#[109]⟩ : ByteArray) ++ digs f m z)) (fun kk _ _ => (intOf kk).toNat)
    case atStart => exact ⟨n, n, ⟨#[]⟩, Nat.le_refl _, by show ((0 : Nat) : Int) + n ≤ _; omega, rfl, rfl, Grew.refl _, HM.out⟩
    case round =>
      obtain ⟨m, f, z, hm0, hm1, rfl, rfl, hB, HJ⟩ := hrel
      by_cases hp : 0 < m
      · obtain ⟨g, rfl⟩ : ∃ g, f = g + 1 := ⟨f - 1, by omega⟩
        have hcv := conv_one
        have hs1 : ∀ Y, (strOfNums [Y]).size = 1 := fun Y => by rw [strOfNums_size]; rfl
        have hne : ∀ o, Grew w (wr.alloc o) := fun o => hB.alloc o
        have hv : Hid (M = (⟨#[109]⟩ : ByteArray) ++ digs g (m / 10) (strOfNums [((48 + m % 10 : Nat) : Int)] ++ z)) := Lib.hid (by rw [HJ.out, HST.out g m hp])
        clear HM HJ
        go_wp2_with fail
        go_roundw
        case rel => exact ⟨m / 10, g, _, by omega, by rw [ByteArray.size_append, hs1]; omega, by go_num, rfl, hne _, hv.out⟩
        case measure => simp [intOf]; omega
      · obtain rfl : m = 0 := by omega
        have hv : Hid (M = (⟨#[109]⟩ : ByteArray) ++ z) := Lib.hid (by rw [HJ.out, HZ.out])
        go_wp2_with fail
        go_ret
        exact ⟨by rw [hv.out]; rfl, hB⟩
end Go.Proofs.YtfpkfgimhanekaaGreat

/- A row that is written: other rows stay, older worlds have not changed. -/
namespace Go.Proofs.YtfpkfgimhanekaaGreat
open Go.RowKit

theorem own_row {w w' : World} {B : Nat} {e : TypeId} {k n : Nat} {v : Value} {xs : List Value} {row : Option Nat} (h : w.ownsRow B e k v n xs) (hg : w.grownBy w' row) (hne : ∀ g, row = some g → v.ownBlock ≠ some g) : w'.ownsRow B e k v n xs := by
  cases row with
  | none => exact own_grew h ⟨hg.os, hg.tape, hg.output, hg.size, fun i hi => hg.block i hi (by simp)⟩
  | some g => exact own_only h (show Only g w w' from hg) (hne g rfl)
theorem grew_row {W w w' : World} {row : Option Nat} (h : Grew W w) (hg : w.grownBy w' row) (hne : ∀ g, row = some g → W.heap.size ≤ g) : Grew W w' := h.grown hg hne
theorem row_of {w w' : World} {v : Value} (h1 : ∀ g, v.ownBlock = some g → Only g w w') (h2 : v.ownBlock = none → Grew w w') : w.grownBy w' v.ownBlock := by
  cases hv : v.ownBlock with
  | none => exact (h2 hv).by_ _
  | some g => exact h1 g hv
end Go.Proofs.YtfpkfgimhanekaaGreat

/- The laws' marks on slices of the nodes of terms. -/
namespace Go.Proofs.YtfpkfgimhanekaaGreat
open Go.RowKit

def tmarks (k : Int) (n : Nat) : List Tn := (List.range n).map fun i : Nat => ((k + (i : Int) * 3, k + (i : Int) * 3 + 1, mtx (k + (i : Int) * 3 + 1 + 1)) : Tn)
theorem tmarks_length (k : Int) (n : Nat) : (tmarks k n).length = n := by simp [tmarks]
theorem tmarks_tk {k : Int} {n i : Nat} (h : i < n) : tk (tmarks k n) i = k + i * 3 := by simp [tmarks, tk, List.getD, h]
theorem tmarks_tn {k : Int} {n i : Nat} (h : i < n) : tn (tmarks k n) i = k + i * 3 + 1 := by simp [tmarks, tn, List.getD, h]
theorem tmarks_tt {k : Int} {n i : Nat} (h : i < n) : tt (tmarks k n) i = mtx (k + i * 3 + 1 + 1) := by simp [tmarks, tt, List.getD, h]

theorem markTermNodeS_m (v : Value) (xs : List Tn) (B : Nat) (k : Int) (w : World) (h : OwnT w B v xs) (hk0 : 0 ≤ k) (hk : k ≤ 1099511627776) (hn : xs.length ≤ 1048576) :
    Calls Tryz.prog 11 #[v, .int .i64 k] w fun e w' => e = .returned (.int .i64 (k + xs.length * 3)) ∧ OwnT w' B v (tmarks k xs.length) ∧ w.grownBy w' v.ownBlock := by
  rcases h.open_ with ⟨rfl, rfl⟩ | ⟨g, c, cur0, rfl, hB, hg, hh0, hnc, hcm, hcs0, hc0⟩
  · go_enter Tryz.func11, Tryz.ntmps11
    go_wp2_with fail
    refine wp_loop_rounds 1 ?_; rw [rounds_succ]
    go_wp2_with fail
    go_ret
    exact ⟨by simp, by simpa [tmarks] using OwnT.nil_ _ _, World.grownBy.refl _ _⟩
  · have hend : ∀ cur w', w'.heap[g]? = some (.cells cur 45 (0, 0)) → cur.size = c * 3 → (∀ i, i < xs.length → cur[i * 3]? = some (.int .i64 (k + (i : Int) * 3)) ∧ cur[i * 3 + 1]? = some (.int .i64 (k + (i : Int) * 3 + 1)) ∧ cur[i * 3 + 2]? = some (.string (mtx (k + (i : Int) * 3 + 1 + 1)))) → OwnT w' B (.slice (some ⟨g, 0, none⟩) xs.length c) (tmarks k xs.length) := by
      intro cur w' h1 h2 h3
      have := OwnT.mk_ (w := w') (B := B) (xs := tmarks k xs.length) (g := g) (c := c) (cur := cur) hB h1 (by rw [tmarks_length]; exact hnc) hcm h2 (fun i hi => by
        rw [tmarks_length] at hi
        rw [tmarks_tk hi, tmarks_tn hi, tmarks_tt hi]
        exact h3 i hi)
      rw [tmarks_length] at this
      exact this
    generalize hN : xs.length = n at *
    clear hN hc0 h
    have HE := Lib.hid hend
    clear hend
    go_enter Tryz.func11, Tryz.ntmps11
    go_wp2_with fail
    go_loopw [1, 5] (fun kk i wr => ∃ (j : Nat) (cur : Array Value), j ≤ n ∧ i = .int .i64 j ∧ kk = .int .i64 (k + (j : Int) * 3) ∧ wr.heap[g]? = some (.cells cur 45 (0, 0)) ∧ cur.size = c * 3 ∧ Only g w wr ∧ Hid (∀ i, i < j → cur[i * 3]? = some (.int .i64 (k + (i : Int) * 3)) ∧ cur[i * 3 + 1]? = some (.int .i64 (k + (i : Int) * 3 + 1)) ∧ cur[i * 3 + 2]? = some (.string (mtx (k + (i : Int) * 3 + 1 + 1))))) (fun _ i _ => n - (intOf i).toNat)
    case atStart => exact ⟨0, cur0, Nat.zero_le _, rfl, by simp, hh0, hcs0, Only.refl _ _, fun i hi => absurd hi (by omega)⟩
    case round =>
      obtain ⟨j, cur, hj, rfl, rfl, hh, hcs, ho, HC⟩ := hrel
      by_cases hlt : j < n
      · have f1 : ∀ i, wr.frozen? ⟨g, i, none⟩ = false := fun i => blk_frozen hh i
        have f2 : ∀ i u, (wr.setCell ⟨g, i, none⟩ u).frozen? ⟨g, i + 1, none⟩ = false := fun i u => blk_frozen (blk_set hh i u) _
        obtain ⟨u1, hu1⟩ : ∃ u, wr.cell? ⟨g, j * 3, none⟩ = some u := by
          rw [blk_cell hh]
          exact ⟨_, Array.getElem?_eq_getElem (by omega)⟩
        obtain ⟨u2, hu2⟩ : ∃ u, wr.cell? ⟨g, j * 3 + 1, none⟩ = some u := by
          rw [blk_cell hh]
          exact ⟨_, Array.getElem?_eq_getElem (by omega)⟩
        have HH1 := Lib.hid (blk_set (blk_set hh (j * 3) (.int .i64 (k + (j : Int) * 3))) (j * 3 + 1) (.int .i64 (k + (j : Int) * 3 + 1)))
        have HS := Lib.hid (trip_step (F := fun i => .int .i64 (k + (i : Int) * 3)) (G := fun i => .int .i64 (k + (i : Int) * 3 + 1)) (H := fun i => .string (mtx (k + (i : Int) * 3 + 1 + 1))) (j := j) (by omega) HC.out)
        have hO1 : Only g w ((wr.setCell ⟨g, j * 3, none⟩ (.int .i64 (k + (j : Int) * 3))).setCell ⟨g, j * 3 + 1, none⟩ (.int .i64 (k + (j : Int) * 3 + 1))) := (ho.setCell _).setCell _
        clear hh
        go_wp2_with fail
        refine (markTextD_c (k + (j : Int) * 3 + 1 + 1) _ (by omega) (by omega)).mono ?_
        rintro e w1 ⟨rfl, hg1⟩
        have hh1 := (hg1.block (blk_lt HH1.out)).trans HH1.out
        have f3 : w1.frozen? ⟨g, j * 3 + 2, none⟩ = false := blk_frozen hh1 _
        obtain ⟨u3, hu3⟩ : ∃ u, w1.cell? ⟨g, j * 3 + 2, none⟩ = some u := by
          rw [blk_cell hh1]
          exact ⟨_, Array.getElem?_eq_getElem (by simp; omega)⟩
        have HH2 := Lib.hid hh1
        clear hh1
        go_wp2_with fail
        go_roundw
        case rel => exact ⟨j + 1, _, by omega, by go_num, by go_num, blk_set HH2.out _ _, by simp [hcs], (hO1.grew hg1).setCell _, HS.out⟩
        case measure => simp [intOf]; omega
      · obtain rfl : j = n := by omega
        have HH := Lib.hid hh
        clear hh
        go_wp2_with fail
        go_ret
        exact ⟨rfl, HE.out _ _ HH.out hcs HC.out, ho⟩
theorem markTermNodeS_w (v : Value) (xs : List Tn) (B : Nat) (k : Int) (w : World) (h : OwnT w B v xs) (hk0 : 0 ≤ k) (hk : k ≤ 1099511627776) (hn : xs.length ≤ 1048576) :
    Calls Tryz.prog 11 #[v, .int .i64 k] w fun e w' => e = .returned (.int .i64 (k + xs.length * 3)) ∧ w.grownBy w' v.ownBlock :=
  (markTermNodeS_m v xs B k w h hk0 hk hn).mono fun _ _ ⟨h1, _, h3⟩ => ⟨h1, h3⟩
end Go.Proofs.YtfpkfgimhanekaaGreat

/- Slices of int64 in memory, and the laws' own helpers on them. -/
namespace Go.Proofs.YtfpkfgimhanekaaGreat
open Go.RowKit

def it (L : List Int) (i : Nat) : Int := L.getD i 0
def icells (L : List Int) : List Value := L.map (Value.int .i64)
theorem icells_length (L : List Int) : (icells L).length = L.length * 1 := by simp [icells]
theorem icells_one (L : List Int) : ∀ u ∈ icells L, u.oneCell' = true := by
  intro u hu
  simp only [icells, List.mem_map] at hu
  obtain ⟨s, _, rfl⟩ := hu
  rfl
theorem icells_at {L : List Int} {i : Nat} (h : i < L.length) : (icells L)[i]? = some (.int .i64 (it L i)) := by simp [icells, it, List.getD, h]
theorem icells_append (K L : List Int) : icells (K ++ L) = icells K ++ icells L := by simp [icells]
theorem it_get {L : List Int} {i : Nat} (h : i < L.length) : L[i] = it L i := by simp [it, List.getD, h]
theorem it_ext {K L : List Int} (hl : K.length = L.length) (h : ∀ i, i < K.length → it K i = it L i) : K = L := by
  apply List.ext_getElem hl
  intro i h1 h2
  rw [it_get h1, it_get h2]
  exact h i h1

/-- v reads as the list. -/
def Ints (w : World) (v : Value) (L : List Int) : Prop := Rd w 1 v L.length (icells L)
/-- v is a row of the call's own. -/
def OwnI (w : World) (B : Nat) (v : Value) (L : List Int) : Prop := w.ownsRow B 2 1 v L.length (icells L)
theorem Ints.grew {w w' : World} {v : Value} {L : List Int} (h : Ints w v L) (hb : Grew w w') : Ints w' v L := Rd.grew h hb
theorem Ints.nil_ (w : World) : Ints w (.slice none 0 0) [] := Rd.nil_ w 1
theorem OwnI.ints {w : World} {B : Nat} {v : Value} {L : List Int} (h : OwnI w B v L) : Ints w v L := Rd.of_own h
theorem OwnI.nil_ (w : World) (B : Nat) : OwnI w B (.slice none 0 0) [] := World.ownsRow_nil w B _ 1
theorem OwnI.grew {w w' : World} {B : Nat} {v : Value} {L : List Int} (h : OwnI w B v L) (hb : Grew w w') : OwnI w' B v L := own_grew h hb
theorem OwnI.base {w : World} {B B' : Nat} {v : Value} {L : List Int} (h : OwnI w B v L) (hb : B' ≤ B) : OwnI w B' v L := own_base h hb
theorem Ints.open_ {w : World} {v : Value} {L : List Int} (h : Ints w v L) :
    (v = .slice none 0 0 ∧ L = []) ∨ ∃ b o c, v = .slice (some ⟨b, o, none⟩) L.length c ∧ L.length ≤ c ∧ c ≤ 9223372036854775807 ∧ b < w.heap.size ∧
      ∀ i, i < L.length → ∀ W, Grew w W → W.cell? ⟨b, o + i, none⟩ = some (.int .i64 (it L i)) := by
  obtain ⟨_, _, h3⟩ := h
  rcases h3 with ⟨h4, h5⟩ | ⟨b, o, c, h4, h5, h6, h7, h8⟩
  · exact .inl ⟨h4, List.eq_nil_of_length_eq_zero h5⟩
  · exact .inr ⟨b, o, c, h4, h5, h6, h7, fun i hi W hW => (hW.cell (p := ⟨b, o + i, none⟩) h7).trans (h8 _ _ (icells_at hi))⟩
theorem ints_slice {w : World} {v : Value} {L : List Int} (h : Ints w v L) : ∃ A c, v = .slice A L.length c := by
  rcases h.open_ with ⟨rfl, rfl⟩ | ⟨b, o, c, rfl, _⟩
  · exact ⟨_, _, rfl⟩
  · exact ⟨_, _, rfl⟩
theorem OwnI.mk_ {w : World} {B : Nat} {L : List Int} {g c : Nat} {cur : Array Value} (hB : B ≤ g) (hg : w.heap[g]? = some (.cells cur 2 (0, 0))) (hnc : L.length ≤ c) (hcm : c ≤ 9223372036854775807) (hcs : cur.size = c)
    (hc : ∀ i, i < L.length → cur[i]? = some (.int .i64 (it L i))) : OwnI w B (.slice (some ⟨g, 0, none⟩) L.length c) L := by
  refine ⟨icells_length L, .inr ⟨g, c, cur, rfl, hB, hg, hnc, hcm, by omega, ?_⟩⟩
  apply List.ext_getElem?
  intro j
  rw [List.getElem?_take]
  by_cases hj : j < L.length
  · rw [if_pos (by omega), icells_at hj]
    simpa using hc j hj
  · rw [if_neg (by omega), List.getElem?_eq_none (by rw [icells_length]; omega)]
theorem Tryz.infoI : (Tryz.prog.info? 2).map (fun i => (i.zero, i.size, i.bytes)) = some (some (.int .i64 0), 1, 8) := by kernel_rfl
/-- The call returns a new list of numbers. -/
def GivesI (w : World) (L : List Int) (e : Ending) (w' : World) : Prop := ∃ v, e = .returned v ∧ OwnI w' w.heap.size v L ∧ Grew w w'

theorem one_stepI {cur : Array Value} {F : Nat → Value} {j : Nat} (hs : j < cur.size) (h : ∀ i, i < j → cur[i]? = some (F i)) :
    ∀ i, i < j + 1 → (cur.setIfInBounds j (F j))[i]? = some (F i) := by
  intro i hi
  simp only [Array.getElem?_setIfInBounds]
  rcases Nat.lt_or_ge i j with hk | hk
  · rw [if_neg (by omega)]
    exact h i hk
  · obtain rfl : i = j := by omega
    rw [if_pos rfl, if_pos hs]
end Go.Proofs.YtfpkfgimhanekaaGreat

/- Appends of numbers. -/
namespace Go.Proofs.YtfpkfgimhanekaaGreat
open Go.RowKit

/-- 'out = append(out, x)' onto a row of numbers of the call's own. -/
theorem wpList_appI {ops : Array Oper} {rest : List Oper} {o : Oper} {a : Act} {Q : Exit → Act → World → Prop} {w w0 : World} (s x : Operand) (hgd : o.guard = none)
    (ho : o.op = .call { callee := .builtin .append, args := #[s, x], argTypes := #[24, 24] })
    (v : Value) (L : List Int) (hs : a.eval s = v) (hown : OwnI w w0.heap.size v L) (hg : Grew w0 w) (vx : Value) (k : Int) (hx : a.eval x = vx) (hr : Rd w 1 vx 1 [.int .i64 k]) (hn : L.length ≤ 1048576)
    (h : ∀ v' w', OwnI w' w0.heap.size v' (L ++ [k]) → Grew w0 w' → w.grownBy w' v.ownBlock → wpList Tryz.prog ops Q rest (a.put o.dst v') w') : wpList Tryz.prog ops Q (o :: rest) a w := by
  obtain ⟨i0, hi0, hz0, hz1, hz2⟩ := info_parts Tryz.infoI
  refine wpList_append_rd w hgd s x _ ho w0.heap.size 2 i0 _ 1 8 Tryz.underlying24 hi0 hz0 hz1 hz2 rfl (by omega) v L.length (icells L) hs hown vx 1 [.int .i64 k] hx hr (by simp [Value.oneCell']) (by unfold maxLen; omega) (by omega) hg.size ?_
  intro v' w' h1 h2 h3
  refine h v' w' ?_ (hg.grown h2 fun k hk => (hown.lt k hk).1) h2
  unfold OwnI
  rw [List.length_append, icells_append]
  exact h1
theorem rd_litI (w : World) (k : Int) (t : TypeId) : Rd (w.alloc (.cells #[.int .i64 k] t)) 1 (.slice (some ⟨w.heap.size, 0, none⟩) 1 1) 1 [.int .i64 k] := by
  refine ⟨rfl, by omega, .inr ⟨w.heap.size, 0, 1, rfl, by omega, by omega, by simp, fun j x hx => ?_⟩⟩
  have hj : j = 0 := by
    have := (List.getElem?_eq_some_iff.1 hx).1
    simp at this
    omega
  subst hj
  simp at hx
  subst hx
  simp
theorem own_emptyI (w : World) : OwnI (w.alloc (.cells #[] 2)) w.heap.size (.slice (some ⟨w.heap.size, 0, none⟩) 0 0) [] :=
  World.ownsRow_lit (e := 2) (size := 1) w #[] 0 (Nat.le_refl _) (by omega) rfl
end Go.Proofs.YtfpkfgimhanekaaGreat

/- Sorting numbers and dropping repeats: the ascending list of them. No program is in sight. -/
namespace Go.Proofs.YtfpkfgimhanekaaGreat
open Go.RowKit Go.Sort

theorem upTo_lt (d : Array Int) (hs : ∀ i j, i ≤ j → j < d.size → d[i]! ≤ d[j]!) : ∀ m, m ≤ d.size → (Lib.compactUpTo d m).Pairwise (· < ·) ∧ (∀ x ∈ Lib.compactUpTo d m, ∃ i, i < m ∧ x = d[i]!) ∧ (∀ i, i < m → d[i]! ∈ Lib.compactUpTo d m)
  | 0, _ => ⟨by simp [Lib.compactUpTo], fun x hx => by simp [Lib.compactUpTo] at hx, fun i hi => by omega⟩
  | m + 1, hm => by
    obtain ⟨h1, h2, h3⟩ := upTo_lt d hs m (by omega)
    rw [Lib.compactUpTo_succ]
    by_cases hk : Lib.keeps d m = true
    · rw [if_pos hk]
      have hlt : ∀ i, i < m → d[i]! < d[m]! := fun i hi => by
        have h4 := hs i (m - 1) (by omega) (by omega)
        have h5 := hs (m - 1) m (by omega) (by omega)
        have h6 : ¬ d[m]! = d[m - 1]! := fun e => by
          rw [Lib.keeps_neg (by omega) e] at hk
          cases hk
        omega
      refine ⟨?_, fun x hx => ?_, fun i hi => ?_⟩
      · rw [List.pairwise_append]
        refine ⟨h1, List.pairwise_singleton _ _, fun x hx y hy => ?_⟩
        obtain ⟨i, hi, rfl⟩ := h2 x hx
        obtain rfl : y = d[m]! := by simpa using hy
        exact hlt i hi
      · rcases List.mem_append.1 hx with hx | hx
        · obtain ⟨i, hi, rfl⟩ := h2 x hx
          exact ⟨i, by omega, rfl⟩
        · exact ⟨m, by omega, by simpa using hx⟩
      · by_cases hi2 : i < m
        · exact List.mem_append_left _ (h3 i hi2)
        · obtain rfl : i = m := by omega
          simp
    · rw [if_neg hk, List.append_nil]
      refine ⟨h1, fun x hx => ?_, fun i hi => ?_⟩
      · obtain ⟨i, hi, rfl⟩ := h2 x hx
        exact ⟨i, by omega, rfl⟩
      · by_cases hi2 : i < m
        · exact h3 i hi2
        · obtain rfl : i = m := by omega
          by_cases h0 : i = 0
          · subst h0
            exact absurd (Lib.keeps_lt_one d 0 (by omega)) hk
          · have : d[i]! = d[i - 1]! := by
              by_cases e : d[i]! = d[i - 1]!
              · exact e
              · exact absurd (Lib.keeps_pos e) hk
            rw [this]
            exact h3 (i - 1) (by omega)

theorem arr_get {L : List Int} {i : Nat} (h : i < L.length) : L.toArray[i]! = L[i] := by
  rw [getElem!_pos L.toArray i (by simpa using h)]
  simp
/-- Numbers in ascending order, each once. -/
def srt (L : List Int) : List Int := Lib.compact (L.mergeSort fun x y => decide (x ≤ y))
theorem sorted_at {L : List Int} (h : L.Pairwise (· ≤ ·)) {i j : Nat} (hij : i ≤ j) (hj : j < L.toArray.size) : L.toArray[i]! ≤ L.toArray[j]! := by
  have hj2 : j < L.length := by simpa using hj
  by_cases e : i = j
  · subst e; omega
  · have := List.pairwise_iff_getElem.1 h i j (by omega) hj2 (by omega)
    have h1 : L.toArray[i]! = L[i]'(by omega) := arr_get (by omega)
    have h2 : L.toArray[j]! = L[j]'(by omega) := arr_get hj2
    rw [h1, h2]
    exact this
theorem merge_sorted (L : List Int) : (L.mergeSort fun x y => decide (x ≤ y)).Pairwise (· ≤ ·) := by
  have h := List.pairwise_mergeSort (le := fun x y : Int => decide (x ≤ y)) (fun a b c h1 h2 => by simp at h1 h2 ⊢; omega) (fun a b => by simp; omega) L
  exact h.imp (fun h => by simpa using h)
theorem srt_lt (L : List Int) : (srt L).Pairwise (· < ·) :=
  (upTo_lt _ (fun _ _ h1 h2 => sorted_at (merge_sorted L) h1 h2) _ (by simp)).1
theorem srt_mem (L : List Int) (x : Int) : x ∈ srt L ↔ x ∈ L := by
  obtain ⟨_, h2, h3⟩ := upTo_lt (L.mergeSort fun x y => decide (x ≤ y)).toArray (fun _ _ h1 h2 => sorted_at (merge_sorted L) h1 h2) (L.mergeSort fun x y => decide (x ≤ y)).length (by simp)
  have hp := (List.mergeSort_perm L fun x y => decide (x ≤ y)).mem_iff (a := x)
  rw [← hp]
  constructor
  · intro h
    obtain ⟨i, hi, rfl⟩ := h2 x h
    have : (L.mergeSort fun x y => decide (x ≤ y)).toArray[i]! = (L.mergeSort fun x y => decide (x ≤ y))[i] := arr_get hi
    rw [this]
    exact List.getElem_mem _
  · intro h
    obtain ⟨i, hi, he⟩ := List.getElem_of_mem h
    have := h3 i hi
    have e : (L.mergeSort fun x y => decide (x ≤ y)).toArray[i]! = (L.mergeSort fun x y => decide (x ≤ y))[i] := arr_get hi
    rw [e, he] at this
    exact this
theorem srt_nil : srt [] = [] := by simp [srt, Lib.compact, Lib.compactUpTo]
theorem srt_len (L : List Int) : (srt L).length ≤ L.length := by
  unfold srt
  have := Lib.compact_length_le (L.mergeSort fun x y => decide (x ≤ y))
  rwa [List.length_mergeSort] at this
/-- Ascending lists with the same members are the same. -/
theorem asc_ext : ∀ {L M : List Int}, L.Pairwise (· < ·) → M.Pairwise (· < ·) → (∀ x, x ∈ L ↔ x ∈ M) → L = M
  | [], [], _, _, _ => rfl
  | [], b :: M, _, _, h => absurd ((h b).2 (by simp)) (by simp)
  | a :: L, [], _, _, h => absurd ((h a).1 (by simp)) (by simp)
  | a :: L, b :: M, h1, h2, h => by
    obtain ⟨h3, h4⟩ := List.pairwise_cons.1 h1
    obtain ⟨h5, h6⟩ := List.pairwise_cons.1 h2
    have hab : a = b := by
      have ha := (h a).1 (by simp)
      have hb := (h b).2 (by simp)
      rcases List.mem_cons.1 ha with e | ha
      · exact e
      rcases List.mem_cons.1 hb with e | hb
      · exact e.symm
      have := h5 a ha
      have := h3 b hb
      omega
    subst hab
    congr 1
    refine asc_ext h4 h6 fun x => ⟨fun hx => ?_, fun hx => ?_⟩
    · rcases List.mem_cons.1 ((h x).1 (List.mem_cons_of_mem _ hx)) with e | hx2
      · have := h3 x hx; omega
      · exact hx2
    · rcases List.mem_cons.1 ((h x).2 (List.mem_cons_of_mem _ hx)) with e | hx2
      · have := h5 x hx; omega
      · exact hx2
/-- The numbers below n of a kind. -/
def below (n : Nat) (p : Nat → Bool) : List Int := ((List.range n).filter p).map fun i : Nat => (i : Int)
theorem below_zero (p : Nat → Bool) : below 0 p = [] := rfl
theorem below_yes {n : Nat} {p : Nat → Bool} (h : p n = true) : below (n + 1) p = below n p ++ [(n : Int)] := by
  unfold below
  rw [List.range_succ, List.filter_append, List.map_append, List.filter_cons, h]
  rfl
theorem below_no {n : Nat} {p : Nat → Bool} (h : p n = false) : below (n + 1) p = below n p := by
  unfold below
  rw [List.range_succ, List.filter_append, List.map_append, List.filter_cons, h]
  simp
theorem below_len (n : Nat) (p : Nat → Bool) : (below n p).length ≤ n := by
  unfold below
  rw [List.length_map]
  have := List.length_filter_le p (List.range n)
  rwa [List.length_range] at this
theorem below_lt (n : Nat) (p : Nat → Bool) : (below n p).Pairwise (· < ·) := by
  unfold below
  rw [List.pairwise_map]
  exact ((List.pairwise_lt_range (n := n)).filter p).imp (fun h => by omega)
theorem below_mem (n : Nat) (p : Nat → Bool) (x : Int) : x ∈ below n p ↔ ∃ i : Nat, i < n ∧ p i = true ∧ x = (i : Int) := by
  unfold below
  simp only [List.mem_map, List.mem_filter, List.mem_range]
  constructor
  · rintro ⟨i, ⟨h1, h2⟩, rfl⟩; exact ⟨i, h1, h2, rfl⟩
  · rintro ⟨i, h1, h2, rfl⟩; exact ⟨i, ⟨h1, h2⟩, rfl⟩
theorem srt_below {L : List Int} {n : Nat} {p : Nat → Bool} (h1 : ∀ x ∈ L, 0 ≤ x ∧ x < (n : Int)) (h2 : ∀ i, i < n → (p i = true ↔ (i : Int) ∈ L)) : srt L = below n p := by
  refine asc_ext (srt_lt L) (below_lt n p) fun x => ?_
  rw [srt_mem, below_mem]
  constructor
  · intro hx
    have := h1 x hx
    have e : ((x.toNat : Nat) : Int) = x := by omega
    exact ⟨x.toNat, by omega, (h2 _ (by omega)).2 (by rw [e]; exact hx), e.symm⟩
  · rintro ⟨i, hi, hp, rfl⟩
    exact (h2 i hi).1 hp

end Go.Proofs.YtfpkfgimhanekaaGreat

/- Contracts of the library (sorting, compacting strings), laid at this program. -/
namespace Go.Proofs
open Go.Shelf
def Tryz.laysCmpI_ren : Go.Shelf.Ren := ⟨fun | 43 => 24 | n => n, fun | 22 => 24 | 23 => 2 | 3 => 3 | 4 => 4 | 0 => 0 | n => n, fun | n => n⟩
theorem Tryz.laysCmpI : Go.Proofs.SlLaysN.n43 Tryz.prog Tryz.laysCmpI_ren := {
  mixed := by kernel_rfl
  f43 := ⟨Tryz.f24.name, by decide, Tryz.func24.trans (congrArg some (by kernel_rfl))⟩
  t0 := Tryz.underlying0
  a0 := Tryz.isAgg0
  z0 := Tryz.sizeOf0
  v0 := Tryz.zeroValue0
  t3 := Tryz.underlying3
  a3 := Tryz.isAgg3
  z3 := Tryz.sizeOf3
  v3 := Tryz.zeroValue3
  t4 := Tryz.underlying4
  a4 := Tryz.isAgg4
  z4 := Tryz.sizeOf4
  v4 := Tryz.zeroValue4
  t22 := Tryz.underlying24
  a22 := Tryz.isAgg24
  z22 := Tryz.sizeOf24
  v22 := Tryz.zeroValue24
  t23 := Tryz.underlying2
  a23 := Tryz.isAgg2
  z23 := Tryz.sizeOf2
  v23 := Tryz.zeroValue2
  i23 := by kernel_rfl }
open Go.RowKit Go.Lib Go.Sort in
theorem Tryz.slices_Compact_int_arr (blk off cap : Nat) (d : Array Int) (w : World) (hH : Holds encI w blk off d) (hsz : d.size ≤ 9223372036854775807) (hcap : d.size ≤ cap) :
    Calls Tryz.prog 24 #[.slice (some ⟨blk, off, none⟩) d.size cap] w fun e w' => e = .returned (.slice (some ⟨blk, off, none⟩) (compactUpTo d d.size).length cap) ∧ ∃ q, w' = putRow encI (Sort.ahead w q) blk off (compactUpTo d d.size ++ List.replicate (d.size - (compactUpTo d d.size).length) 0).toArray := AnyG.slices_Compact_int_arr Tryz.laysCmpI blk off cap d w hH hsz hcap
open Go.RowKit Go.Lib Go.Sort in
theorem Tryz.slices_Compact_int (blk off cap : Nat) (zs : List Int) (w : World) (hH : Holds (Value.int .i64) w blk off zs.toArray) (hsz : zs.length ≤ 9223372036854775807) (hcap : zs.length ≤ cap) :
    Calls Tryz.prog 24 #[.slice (some ⟨blk, off, none⟩) zs.length cap] w fun e w' => e = .returned (.slice (some ⟨blk, off, none⟩) (Lib.compact zs).length cap) ∧ ∃ q, w' = putRow (Value.int .i64) (Sort.ahead w q) blk off (Lib.compact zs ++ List.replicate (zs.length - (Lib.compact zs).length) 0).toArray := AnyG.slices_Compact_int Tryz.laysCmpI blk off cap zs w hH hsz hcap
open Go.RowKit Go.Lib Go.Sort in
theorem Tryz.slices_Compact_int_empty (a : Option Addr) (cap : Nat) (w : World) :
    Calls Tryz.prog 24 #[.slice a 0 cap] w fun e w' => e = .returned (.slice a 0 cap) ∧ w' = w := AnyG.slices_Compact_int_empty Tryz.laysCmpI a cap w
def Tryz.laysSortI_ren : Go.Shelf.Ren := ⟨fun | 5 => 23 | 8 => 42 | 7 => 41 | 19 => 78 | 20 => 79 | 10 => 69 | 11 => 70 | 12 => 71 | 13 => 72 | 14 => 73 | 15 => 74 | 16 => 75 | 17 => 76 | 18 => 77 | 30 => 103 | 31 => 104 | 32 => 105 | 33 => 106 | 34 => 107 | 35 => 108 | 40 => 125 | n => n, fun | 23 => 24 | 25 => 2 | 3 => 3 | 32 => 64 | 22 => 24 | 0 => 0 | 44 => 97 | 46 => 99 | 4 => 4 | 36 => 90 | 35 => 89 | 41 => 94 | 5 => 5 | 9 => 9 | 53 => 116 | 57 => 120 | 63 => 136 | 64 => 137 | n => n, fun | n => n⟩
theorem Tryz.laysSortI : Go.Proofs.SlLaysM.n5 Tryz.prog Tryz.laysSortI_ren := {
  mixed := by kernel_rfl
  f5 := ⟨Tryz.f23.name, by decide, Tryz.func23.trans (congrArg some (by kernel_rfl))⟩
  f7 := ⟨Tryz.f41.name, by decide, Tryz.func41.trans (congrArg some (by kernel_rfl))⟩
  f8 := Tryz.func42.trans (congrArg some (by kernel_rfl))
  f10 := ⟨Tryz.f69.name, by decide, Tryz.func69.trans (congrArg some (by kernel_rfl))⟩
  f11 := ⟨Tryz.f70.name, by decide, Tryz.func70.trans (congrArg some (by kernel_rfl))⟩
  f12 := ⟨Tryz.f71.name, by decide, Tryz.func71.trans (congrArg some (by kernel_rfl))⟩
  f13 := ⟨Tryz.f72.name, by decide, Tryz.func72.trans (congrArg some (by kernel_rfl))⟩
  f14 := ⟨Tryz.f73.name, by decide, Tryz.func73.trans (congrArg some (by kernel_rfl))⟩
  f15 := ⟨Tryz.f74.name, by decide, Tryz.func74.trans (congrArg some (by kernel_rfl))⟩
  f16 := ⟨Tryz.f75.name, by decide, Tryz.func75.trans (congrArg some (by kernel_rfl))⟩
  f17 := ⟨Tryz.f76.name, by decide, Tryz.func76.trans (congrArg some (by kernel_rfl))⟩
  f18 := ⟨Tryz.f77.name, by decide, Tryz.func77.trans (congrArg some (by kernel_rfl))⟩
  f19 := Tryz.func78.trans (congrArg some (by kernel_rfl))
  f20 := Tryz.func79.trans (congrArg some (by kernel_rfl))
  f30 := ⟨Tryz.f103.name, by decide, Tryz.func103.trans (congrArg some (by kernel_rfl))⟩
  f31 := Tryz.func104.trans (congrArg some (by kernel_rfl))
  f32 := Tryz.func105.trans (congrArg some (by kernel_rfl))
  f33 := ⟨Tryz.f106.name, by decide, Tryz.func106.trans (congrArg some (by kernel_rfl))⟩
  f34 := ⟨Tryz.f107.name, by decide, Tryz.func107.trans (congrArg some (by kernel_rfl))⟩
  f35 := ⟨Tryz.f108.name, by decide, Tryz.func108.trans (congrArg some (by kernel_rfl))⟩
  f40 := ⟨Tryz.f125.name, by decide, Tryz.func125.trans (congrArg some (by kernel_rfl))⟩
  t0 := Tryz.underlying0
  a0 := Tryz.isAgg0
  z0 := Tryz.sizeOf0
  v0 := Tryz.zeroValue0
  t3 := Tryz.underlying3
  a3 := Tryz.isAgg3
  z3 := Tryz.sizeOf3
  v3 := Tryz.zeroValue3
  t4 := Tryz.underlying4
  a4 := Tryz.isAgg4
  z4 := Tryz.sizeOf4
  v4 := Tryz.zeroValue4
  t5 := Tryz.underlying5
  a5 := Tryz.isAgg5
  z5 := Tryz.sizeOf5
  v5 := Tryz.zeroValue5
  t9 := Tryz.underlying9
  a9 := Tryz.isAgg9
  z9 := Tryz.sizeOf9
  v9 := Tryz.zeroValue9
  t22 := Tryz.underlying24
  a22 := Tryz.isAgg24
  z22 := Tryz.sizeOf24
  v22 := Tryz.zeroValue24
  t23 := Tryz.underlying24
  a23 := Tryz.isAgg24
  z23 := Tryz.sizeOf24
  v23 := Tryz.zeroValue24
  t25 := Tryz.underlying2
  a25 := Tryz.isAgg2
  z25 := Tryz.sizeOf2
  v25 := Tryz.zeroValue2
  t32 := Tryz.underlying64
  a32 := Tryz.isAgg64
  z32 := Tryz.sizeOf64
  v32 := Tryz.zeroValue64
  t35 := Tryz.underlying89
  a35 := Tryz.isAgg89
  z35 := Tryz.sizeOf89
  v35 := Tryz.zeroValue89
  t36 := Tryz.underlying90
  a36 := Tryz.isAgg90
  z36 := Tryz.sizeOf90
  v36 := Tryz.zeroValue90
  t41 := Tryz.underlying94
  a41 := Tryz.isAgg94
  z41 := Tryz.sizeOf94
  v41 := Tryz.zeroValue94
  t44 := Tryz.underlying97
  a44 := Tryz.isAgg97
  z44 := Tryz.sizeOf97
  v44 := Tryz.zeroValue97
  t46 := Tryz.underlying99
  a46 := Tryz.isAgg99
  z46 := Tryz.sizeOf99
  v46 := Tryz.zeroValue99
  t53 := Tryz.underlying116
  a53 := Tryz.isAgg116
  z53 := Tryz.sizeOf116
  v53 := Tryz.zeroValue116
  t57 := Tryz.underlying120
  a57 := Tryz.isAgg120
  z57 := Tryz.sizeOf120
  v57 := Tryz.zeroValue120
  t63 := Tryz.underlying136
  a63 := Tryz.isAgg136
  z63 := Tryz.sizeOf136
  v63 := Tryz.zeroValue136
  t64 := Tryz.underlying137
  a64 := Tryz.isAgg137
  z64 := Tryz.sizeOf137
  v64 := Tryz.zeroValue137 }
open Go.Sort Go.RowKit in
theorem Tryz.slices_Sort_int (blk off cap : Nat) (zs : List Int) (w : World) (hH : Holds (Value.int .i64) w blk off zs.toArray) (hblk : blk < w.heap.size) (hsz : zs.length < 4611686018427387904) :
    Calls Tryz.prog 23 #[.slice (some ⟨blk, off, none⟩) zs.length cap] w fun e w' =>
      e = .returned (.tuple #[]) ∧ ∃ n os, w' = grow (putRow (Value.int .i64) (Sort.ahead w n) blk off (zs.mergeSort fun x y => decide (x ≤ y)).toArray) os := AnyM.slices_Sort_int Tryz.laysSortI blk off cap zs w hH hblk hsz
open Go.RowKit Go.Sort in
theorem Tryz.slices_Sort_int_none (p : Option Addr) (cap : Nat) (w : World) :
    Calls Tryz.prog 23 #[.slice p 0 cap] w fun e w' => e = .returned (.tuple #[]) ∧ w' = w := AnyM.slices_Sort_int_none Tryz.laysSortI p cap w
end Go.Proofs

/- slices.Sort and slices.Compact of numbers, on a row of the call's own. -/
namespace Go.Proofs.YtfpkfgimhanekaaGreat
open Go.RowKit Go.Sort

theorem sortI_c (w0 W : World) (v : Value) (L : List Int) (hg : Grew w0 W) (h : OwnI W w0.heap.size v L) (hn : L.length ≤ 1099511627776) :
    Calls Tryz.prog 23 #[v] W fun e W1 => e = .returned (.tuple #[]) ∧ OwnI W1 w0.heap.size v (L.mergeSort fun x y => decide (x ≤ y)) ∧ Grew w0 W1 := by
  rcases h.2 with ⟨rfl, h0⟩ | ⟨g, cap, cur, rfl, hbase, hb, h1, h2, h3, h4⟩
  · obtain rfl := List.eq_nil_of_length_eq_zero h0
    refine (Tryz.slices_Sort_int_none none 0 W).mono fun e W1 hh => ?_
    obtain ⟨h5, h6⟩ := hh
    subst h6
    refine ⟨h5, ?_, hg⟩
    simpa using h
  · have hH := holds_of_blockI hb (by simpa [icells] using h4)
    refine (Tryz.slices_Sort_int g 0 cap L W hH (blk_lt hb) (by omega)).mono fun e W1 hh => ?_
    obtain ⟨h5, n, os, h6⟩ := hh
    subst h6
    have hl2 : (L.mergeSort fun x y => decide (x ≤ y)).length = L.length := List.length_mergeSort L
    refine ⟨h5, ?_, Below.grown hg (grownBy_sortedI _) hg.size (fun j hj => by cases hj; exact hbase)⟩
    have hs := ownsRow_sortedI (n := n) (os := os) (ts := L.mergeSort fun x y => decide (x ≤ y)) hl2 hbase hb h1 h2 h3
    unfold OwnI icells
    rw [hl2]
    exact hs
theorem compactI_c (w0 W : World) (v : Value) (L : List Int) (hg : Grew w0 W) (h : OwnI W w0.heap.size v L) (hn : L.length ≤ 1099511627776) :
    Calls Tryz.prog 24 #[v] W fun e W1 => ∃ u, e = .returned u ∧ OwnI W1 w0.heap.size u (Lib.compact L) ∧ Grew w0 W1 := by
  rcases h.2 with ⟨rfl, h0⟩ | ⟨g, cap, cur, rfl, hbase, hb, h1, h2, h3, h4⟩
  · obtain rfl := List.eq_nil_of_length_eq_zero h0
    refine (Tryz.slices_Compact_int_empty none 0 W).mono fun e W1 hh => ?_
    obtain ⟨h5, h6⟩ := hh
    subst h6
    refine ⟨_, h5, ?_, hg⟩
    simpa [Lib.compact, Lib.compactUpTo] using h
  · have hH := holds_of_blockI hb (by simpa [icells] using h4)
    refine (Tryz.slices_Compact_int g 0 cap L W hH (by omega) h1).mono fun e W1 hh => ?_
    obtain ⟨h5, q, h6⟩ := hh
    subst h6
    have hle := Lib.compact_length_le L
    have ho : W.ownsRow w0.heap.size 2 1 (.slice (some ⟨g, 0, none⟩) L.length cap) L.length (L.map (Value.int .i64)) := h
    have hc := Lib.ownsRow_putRow (q := q) (k := (Lib.compact L).length) (ys := Lib.compact L ++ List.replicate (L.length - (Lib.compact L).length) 0) ho (by simp; omega) (by omega)
    rw [List.take_left] at hc
    exact ⟨_, h5, hc, Lib.below_putRow hg hbase⟩
end Go.Proofs.YtfpkfgimhanekaaGreat

/- A term in which each variable is replaced. No program is in sight. -/
namespace Go.Proofs.YtfpkfgimhanekaaGreat
open Go.RowKit
namespace Tr

def mapN (f : Tn → Int → List Tn) : Tm → Int → List Tn
  | .t0 x, n => f x n
  | .t1 x a, n => x :: mapN f a (n + bd x.1 0)
  | .t2 x a b, n => x :: (mapN f a (n + bd x.1 0) ++ mapN f b (n + bd x.1 1))
  | .t3 x a b c, n => x :: (mapN f a (n + bd x.1 0) ++ (mapN f b (n + bd x.1 1) ++ mapN f c (n + bd x.1 2)))
/-- The first j parts, replaced. -/
def mapL (f : Tn → Int → List Tn) (t : Tm) (n : Int) : Nat → List Tn
  | 0 => [hd t]
  | j + 1 => mapL f t n j ++ mapN f (kid t j) (n + bd (hd t).1 j)
theorem mapN_kids {f : Tn → Int → List Tn} {t : Tm} {n : Int} (h : kids t ≠ []) : mapN f t n = mapL f t n (kids t).length := by
  cases t with
  | t0 x => exact absurd rfl h
  | t1 x a => simp [mapN, mapL, kids, hd, kid]
  | t2 x a b => simp [mapN, mapL, kids, hd, kid]
  | t3 x a b c => simp [mapN, mapL, kids, hd, kid]
theorem mapN_leaf {f : Tn → Int → List Tn} {t : Tm} {n : Int} (h : kids t = []) : mapN f t n = f (hd t) n := by
  cases t with
  | t0 x => rfl
  | t1 x a => cases h
  | t2 x a b => cases h
  | t3 x a b c => cases h
theorem mapN_len {f : Tn → Int → List Tn} {M : Nat} (hM : 1 ≤ M) (hf : ∀ x n, (f x n).length ≤ M) : ∀ t n, (mapN f t n).length ≤ (enc t).length * M := by
  intro t
  induction t with
  | t0 x => intro n; simp [mapN, enc]; exact hf x n
  | t1 x a ha =>
    intro n
    have := ha (n + bd x.1 0)
    simp only [mapN, enc, List.length_cons, Nat.add_mul, Nat.one_mul] at *
    omega
  | t2 x a b ha hb =>
    intro n
    have h1 := ha (n + bd x.1 0)
    have h2 := hb (n + bd x.1 1)
    simp only [mapN, enc, List.length_cons, List.length_append, Nat.add_mul, Nat.one_mul] at *
    omega
  | t3 x a b c ha hb hc =>
    intro n
    have h1 := ha (n + bd x.1 0)
    have h2 := hb (n + bd x.1 1)
    have h3 := hc (n + bd x.1 2)
    simp only [mapN, enc, List.length_cons, List.length_append, Nat.add_mul, Nat.one_mul] at *
    omega
theorem mapL_len {f : Tn → Int → List Tn} {M : Nat} (hM : 1 ≤ M) (hf : ∀ x n, (f x n).length ≤ M) {t : Tm} {n : Int} : ∀ j, j ≤ (kids t).length → (mapL f t n j).length ≤ off t j * M := by
  intro j
  induction j with
  | zero => intro _; rw [off_zero]; simp [mapL]; omega
  | succ j ih =>
    intro hj
    have h1 := ih (by omega)
    have h2 := mapN_len hM hf (kid t j) (n + bd (hd t).1 j)
    rw [mapL, List.length_append, off_next (by omega), Nat.add_mul]
    omega
theorem mapN_mem {P : Tn → Prop} {f : Tn → Int → List Tn} (hf : ∀ x n, P x → ∀ y ∈ f x n, P y) : ∀ t n, (∀ x ∈ enc t, P x) → ∀ y ∈ mapN f t n, P y := by
  intro t
  induction t with
  | t0 x => intro n h y hy; exact hf x n (h x (by simp [enc])) y hy
  | t1 x a ha =>
    intro n h y hy
    simp only [mapN, List.mem_cons] at hy
    rcases hy with rfl | hy
    · exact h _ (by simp [enc])
    · exact ha _ (fun z hz => h z (by simp [enc, hz])) y hy
  | t2 x a b ha hb =>
    intro n h y hy
    simp only [mapN, List.mem_cons, List.mem_append] at hy
    rcases hy with rfl | hy | hy
    · exact h _ (by simp [enc])
    · exact ha _ (fun z hz => h z (by simp [enc, hz])) y hy
    · exact hb _ (fun z hz => h z (by simp [enc, hz])) y hy
  | t3 x a b c ha hb hc =>
    intro n h y hy
    simp only [mapN, List.mem_cons, List.mem_append] at hy
    rcases hy with rfl | hy | hy | hy
    · exact h _ (by simp [enc])
    · exact ha _ (fun z hz => h z (by simp [enc, hz])) y hy
    · exact hb _ (fun z hz => h z (by simp [enc, hz])) y hy
    · exact hc _ (fun z hz => h z (by simp [enc, hz])) y hy
end Tr
theorem fits_mem {xs : List Tn} : FitsT xs ↔ ∀ x ∈ xs, x.2.2.size ≤ 1048576 := by
  constructor
  · intro h x hx
    obtain ⟨i, hi, rfl⟩ := List.getElem_of_mem hx
    have := h i hi
    rw [tk_lt hi]
    exact this
  · intro h i hi
    have := h xs[i] (List.getElem_mem hi)
    rw [tk_lt hi] at this
    exact this
theorem put_fits {n : Int} {u : List Tn} {t : Tr.Tm} {m : Int} (hu : FitsT u) (ht : FitsT (Tr.enc t)) : FitsT (Tr.mapN (fun x now => if x.2.1 = n then raiseL n (now - n - 1) u else if n < x.2.1 then [(x.1, x.2.1 - 1, x.2.2)] else [x]) t m) := by
  rw [fits_mem] at *
  refine Tr.mapN_mem (P := fun x => x.2.2.size ≤ 1048576) ?_ t m ht
  intro x now hx y hy
  split at hy
  · simp only [raiseL, List.mem_map] at hy
    obtain ⟨z, hz, rfl⟩ := hy
    have := hu z hz
    unfold raiseN
    split <;> exact this
  · split at hy
    · simp at hy; subst hy; exact hx
    · simp at hy; subst hy; exact hx
/-- What a variable is replaced by when u is put for n. -/
def putN (n : Int) (u : List Tn) (x : Tn) (now : Int) : List Tn := if x.2.1 = n then raiseL n (now - n - 1) u else if n < x.2.1 then [(x.1, x.2.1 - 1, x.2.2)] else [x]
theorem putN_len (n : Int) (u : List Tn) (x : Tn) (now : Int) : (putN n u x now).length ≤ u.length + 1 := by
  unfold putN
  split
  · rw [raiseL_length]; omega
  · split <;> simp
end Go.Proofs.YtfpkfgimhanekaaGreat

/- The redexes of a term: redexes of the program, l26Redexes of the reference. -/
namespace Go.Proofs.YtfpkfgimhanekaaGreat
open Go.RowKit

/-- Is a node of the one kind with a first part of the other a redex? -/
def rdx (a b : Int) : Bool := if a == 2 then b == 1 else if a == 4 || a == 5 then b == 3 else if a == 8 then (b == 6 || b == 7) else false
def rdxAt (xs : List Tn) (i : Nat) : Bool := decide (i + 1 < xs.length) && rdx (tk xs i) (tk xs (i + 1))
def redL (xs : List Tn) : Nat → List Int
  | 0 => []
  | j + 1 => if rdxAt xs j then redL xs j ++ [(j : Int)] else redL xs j
theorem redL_len (xs : List Tn) (j : Nat) : (redL xs j).length ≤ j := by
  induction j with
  | zero => simp [redL]
  | succ j ih =>
    rw [redL]
    split
    · rw [List.length_append, List.length_singleton]; omega
    · omega

theorem rdx_kinds (a : Int) : a = 2 ∨ a = 4 ∨ a = 5 ∨ a = 8 ∨ ((a == 2) = false ∧ (a == 4) = false ∧ (a == 5) = false ∧ (a == 8) = false) := by
  by_cases h2 : a = 2
  · exact .inl h2
  by_cases h4 : a = 4
  · exact .inr (.inl h4)
  by_cases h5 : a = 5
  · exact .inr (.inr (.inl h5))
  by_cases h8 : a = 8
  · exact .inr (.inr (.inr (.inl h8)))
  · exact .inr (.inr (.inr (.inr ⟨by simpa using h2, by simpa using h4, by simpa using h5, by simpa using h8⟩)))

theorem isRedex_c (v : Value) (xs : List Tn) (i : Nat) (w : World) (h : Tms w v xs) (hi : i < xs.length) (hn : xs.length ≤ 1048576) :
    Calls Tryz.prog 99 #[v, .int .i64 i] w fun e w' => e = .returned (.bool (rdxAt xs i)) ∧ Grew w w' := by
  rcases h.open_ with ⟨_, rfl⟩ | ⟨b, o, c, rfl, hc, hm, hb, hf⟩
  · simp at hi
  unfold rdxAt
  by_cases hl : i + 1 < xs.length
  · rw [decide_eq_true hl, Bool.true_and]
    have k1 : w.cell? ⟨b, o + i * 3, none⟩ = some (.int .i64 (tk xs i)) := (hf i hi _ (Grew.refl w)).1
    have k2 : w.cell? ⟨b, o + (i + 1) * 3, none⟩ = some (.int .i64 (tk xs (i + 1))) := (hf (i + 1) hl _ (Grew.refl w)).1
    clear hf h
    generalize tk xs i = x at *
    generalize tk xs (i + 1) = y at *
    generalize xs.length = n at *
    rcases rdx_kinds x with rfl | rfl | rfl | rfl | ⟨n2, n4, n5, n8⟩
    · go_enter Tryz.func99, Tryz.ntmps99
      go_wp2_with fail
      go_ret
      exact ⟨rfl, Grew.refl _⟩
    · go_enter Tryz.func99, Tryz.ntmps99
      go_wp2_with fail
      go_ret
      exact ⟨rfl, Grew.refl _⟩
    · go_enter Tryz.func99, Tryz.ntmps99
      go_wp2_with fail
      go_ret
      exact ⟨rfl, Grew.refl _⟩
    · cases h6 : (y == 6) with
      | true =>
        have hr : rdx 8 y = true := by simp [rdx, h6]
        rw [hr]
        go_enter Tryz.func99, Tryz.ntmps99
        go_wp2_with fail
        go_ret
        exact ⟨rfl, Grew.refl _⟩
      | false =>
        have hr : rdx 8 y = (y == 7) := by simp [rdx, h6]
        rw [hr]
        go_enter Tryz.func99, Tryz.ntmps99
        go_wp2_with fail
        go_ret
        exact ⟨by simp, Grew.refl _⟩
    · have hr : rdx x y = false := by simp [rdx, n2, n4, n5, n8]
      rw [hr]
      go_enter Tryz.func99, Tryz.ntmps99
      go_wp2_with fail
      go_ret
      exact ⟨rfl, Grew.refl _⟩
  · rw [decide_eq_false hl, Bool.false_and]
    have hge : xs.length ≤ i + 1 := by omega
    clear hf h
    generalize xs.length = n at *
    go_enter Tryz.func99, Tryz.ntmps99
    go_wp2_with fail
    go_ret
    exact ⟨rfl, Grew.refl _⟩

theorem redexes_c (v : Value) (xs : List Tn) (w : World) (h : Tms w v xs) (hn : xs.length ≤ 1048576) :
    Calls Tryz.prog 64 #[v] w (GivesI w (redL xs xs.length)) := by
  have HR := Lib.hid (fun i (hi : i < xs.length) W (hW : Grew w W) => isRedex_c v xs i W (h.grew hW) hi hn)
  have HL := Lib.hid (redL_len xs)
  obtain ⟨A, c, rfl⟩ := tms_slice h
  clear h
  generalize hN : xs.length = n at *
  go_enter Tryz.func64, Tryz.ntmps64
  go_wp2_with fail
  go_loopw [3, 4, 7] (fun vv _ i wr => ∃ j : Nat, j ≤ n ∧ i = .int .i64 j ∧ OwnI wr w.heap.size vv (redL xs j) ∧ Grew w wr) (fun _ _ i _ => n - (intOf i).toNat)
  case atStart => exact ⟨0, Nat.zero_le _, rfl, OwnI.nil_ _ _, Grew.refl _⟩
  case round =>
    obtain ⟨j, hj, rfl, hO, hB⟩ := hrel
    by_cases hlt : j < n
    · have hR := Lib.hid (HR.out j hlt)
      have hl := HL.out j
      have hstep : redL xs (j + 1) = if rdxAt xs j then redL xs j ++ [(j : Int)] else redL xs j := rfl
      have HSt := Lib.hid hstep
      clear hstep
      generalize redL xs j = L at *
      cases hq : rdxAt xs j with
      | true =>
        rw [hq] at hR
        have hv := Lib.hid (HSt.out.trans (by rw [hq]; rfl : (if rdxAt xs j then L ++ [(j : Int)] else L) = L ++ [(j : Int)]))
        go_wp2_with fail
        refine (hR.out _ hB).mono ?_
        rintro e w1 ⟨rfl, hg1⟩
        have hB1 := hB.trans hg1
        have hO1 := hO.grew (hg1.trans ((Grew.refl w1).alloc (.cells #[.int .i64 (j : Int)] 2)))
        go_wp2_with (first | (at_builtin; refine wpList_appI (w0 := w) _ _ rfl rfl _ L rfl hO1 (hB1.alloc _) _ (j : Int) rfl (rd_litI _ _ _) (by omega) ?_; intro v2 w2 hown2 hg2 _))
        go_roundw
        case rel => exact ⟨j + 1, by omega, by go_num, by rw [hv.out]; exact hown2, hg2⟩
        case measure => simp [intOf]; omega
      | false =>
        rw [hq] at hR
        have hv := Lib.hid (HSt.out.trans (by rw [hq]; rfl : (if rdxAt xs j then L ++ [(j : Int)] else L) = L))
        go_wp2_with fail
        refine (hR.out _ hB).mono ?_
        rintro e w1 ⟨rfl, hg1⟩
        go_wp2_with fail
        go_roundw
        case rel => exact ⟨j + 1, by omega, by go_num, by rw [hv.out]; exact hO.grew hg1, hB.trans hg1⟩
        case measure => simp [intOf]; omega
    · obtain rfl : j = n := by omega
      go_wp2_with fail
      go_ret
      exact ⟨_, rfl, hO, hB⟩

theorem l26Redex_c (v : Value) (xs : List Tn) (i : Nat) (b o c : Nat) (w : World) (h : Tms w (.slice (some ⟨b, o, none⟩) xs.length c) xs) (hc : xs.length ≤ c) (hm : c ≤ 9223372036854775807) (hi : i < xs.length) (hn : xs.length ≤ 1048576)
    (hv : v = .slice (some ⟨b, o + i * 3, none⟩) (xs.length - i) (c - i)) :
    Calls Tryz.prog 87 #[v] w fun e w' => e = .returned (.bool (rdxAt xs i)) ∧ Grew w w' := by
  subst hv
  have hsub := h.sub i (xs.length - i) (c - i) (by omega) (by omega) (by omega)
  have hlen : ((xs.drop i).take (xs.length - i)).length = xs.length - i := by simp
  rcases h.open_ with ⟨h0, _⟩ | ⟨b', o', c', hv, hc', hm', hb, hf⟩
  · cases h0
  obtain ⟨⟨rfl, rfl⟩, _⟩ : (b = b' ∧ o = o') ∧ c = c' := by simpa using hv
  unfold rdxAt
  by_cases hl : i + 1 < xs.length
  · rw [decide_eq_true hl, Bool.true_and]
    have k1 : w.cell? ⟨b, o + i * 3, none⟩ = some (.int .i64 (tk xs i)) := (hf i hi _ (Grew.refl w)).1
    have k2 : w.cell? ⟨b, o + i * 3 + 3, none⟩ = some (.int .i64 (tk xs (i + 1))) := by
      have := (hf (i + 1) hl _ (Grew.refl w)).1
      rwa [show o + (i + 1) * 3 = o + i * 3 + 3 by omega] at this
    clear hf h hsub hlen hv hc'
    generalize tk xs i = x at *
    generalize tk xs (i + 1) = y at *
    generalize o + i * 3 = oo at *
    obtain ⟨m, hm2⟩ : ∃ m, xs.length - i = m + 2 := ⟨xs.length - i - 2, by omega⟩
    rw [hm2]
    have hmb : m ≤ 1048576 := by omega
    have hcm : m + 2 ≤ c - i := by omega
    have hcm2 : c - i ≤ 9223372036854775807 := by omega
    generalize c - i = cc at *
    clear hm2 hl hi hc hm
    rcases rdx_kinds x with rfl | rfl | rfl | rfl | ⟨n2, n4, n5, n8⟩
    · go_enter Tryz.func87, Tryz.ntmps87
      go_wp2_with fail
      go_ret
      exact ⟨rfl, Grew.refl _⟩
    · go_enter Tryz.func87, Tryz.ntmps87
      go_wp2_with fail
      go_ret
      exact ⟨rfl, Grew.refl _⟩
    · go_enter Tryz.func87, Tryz.ntmps87
      go_wp2_with fail
      go_ret
      exact ⟨rfl, Grew.refl _⟩
    · cases h6 : (y == 6) with
      | true =>
        have hr : rdx 8 y = true := by simp [rdx, h6]
        rw [hr]
        go_enter Tryz.func87, Tryz.ntmps87
        go_wp2_with fail
        go_ret
        exact ⟨rfl, Grew.refl _⟩
      | false =>
        have hr : rdx 8 y = (y == 7) := by simp [rdx, h6]
        rw [hr]
        go_enter Tryz.func87, Tryz.ntmps87
        go_wp2_with fail
        go_ret
        exact ⟨by simp, Grew.refl _⟩
    · have hr : rdx x y = false := by simp [rdx, n2, n4, n5, n8]
      rw [hr]
      go_enter Tryz.func87, Tryz.ntmps87
      go_wp2_with fail
      go_ret
      exact ⟨rfl, Grew.refl _⟩
  · rw [decide_eq_false hl, Bool.false_and]
    have h1 : xs.length - i = 1 := by omega
    rw [h1]
    clear hf h hsub hlen hv
    generalize o + i * 3 = oo at *
    generalize c - i = cc at *
    go_enter Tryz.func87, Tryz.ntmps87
    go_wp2_with fail
    go_ret
    exact ⟨rfl, Grew.refl _⟩

theorem l26Redexes_c (v : Value) (xs : List Tn) (w : World) (h : Tms w v xs) (hn : xs.length ≤ 1048576) :
    Calls Tryz.prog 47 #[v] w (GivesI w (redL xs xs.length)) := by
  have HL := Lib.hid (redL_len xs)
  rcases h.open_ with ⟨rfl, rfl⟩ | ⟨b, o, c, rfl, hc, hm, hb, hf⟩
  · clear h
    go_enter Tryz.func47, Tryz.ntmps47
    go_wp2_with fail
    refine wp_loop_rounds 1 ?_; rw [rounds_succ]
    go_wp2_with fail
    go_ret
    exact ⟨_, rfl, own_emptyI w, (Grew.refl w).alloc _⟩
  have HR := Lib.hid (fun i (hi : i < xs.length) u W (hW : Grew w W) hu => l26Redex_c u xs i b o c W (h.grew hW) hc hm hi hn hu)
  clear h hf
  generalize hN : xs.length = n at *
  go_enter Tryz.func47, Tryz.ntmps47
  go_wp2_with fail
  go_loopw [3, 4] (fun vv i wr => ∃ j : Nat, j ≤ n ∧ i = .int .i64 j ∧ OwnI wr w.heap.size vv (redL xs j) ∧ Grew w wr) (fun _ i _ => n - (intOf i).toNat)
  case atStart => exact ⟨0, Nat.zero_le _, rfl, own_emptyI w, (Grew.refl w).alloc _⟩
  case round =>
    obtain ⟨j, hj, rfl, hO, hB⟩ := hrel
    by_cases hlt : j < n
    · have hR := Lib.hid (HR.out j hlt)
      have hl := HL.out j
      have hstep : redL xs (j + 1) = if rdxAt xs j then redL xs j ++ [(j : Int)] else redL xs j := rfl
      have HSt := Lib.hid hstep
      clear hstep
      have hcj : ¬ c = j := by omega
      generalize redL xs j = L at *
      cases hq : rdxAt xs j with
      | true =>
        rw [hq] at hR
        have hv := Lib.hid (HSt.out.trans (by rw [hq]; rfl : (if rdxAt xs j then L ++ [(j : Int)] else L) = L ++ [(j : Int)]))
        go_wp2_with fail
        refine (hR.out _ _ hB rfl).mono ?_
        rintro e w1 ⟨rfl, hg1⟩
        have hB1 := hB.trans hg1
        have hO1 := hO.grew (hg1.trans ((Grew.refl w1).alloc (.cells #[.int .i64 (j : Int)] 2)))
        go_wp2_with (first | (at_builtin; refine wpList_appI (w0 := w) _ _ rfl rfl _ L rfl hO1 (hB1.alloc _) _ (j : Int) rfl (rd_litI _ _ _) (by omega) ?_; intro v2 w2 hown2 hg2 _))
        go_roundw
        case rel => exact ⟨j + 1, by omega, by go_num, by rw [hv.out]; exact hown2, hg2⟩
        case measure => simp [intOf]; omega
      | false =>
        rw [hq] at hR
        have hv := Lib.hid (HSt.out.trans (by rw [hq]; rfl : (if rdxAt xs j then L ++ [(j : Int)] else L) = L))
        go_wp2_with fail
        refine (hR.out _ _ hB rfl).mono ?_
        rintro e w1 ⟨rfl, hg1⟩
        go_wp2_with fail
        go_roundw
        case rel => exact ⟨j + 1, by omega, by go_num, by rw [hv.out]; exact hO.grew hg1, hB.trans hg1⟩
        case measure => simp [intOf]; omega
    · obtain rfl : j = n := by omega
      go_wp2_with fail
      go_ret
      exact ⟨_, rfl, hO, hB⟩
end Go.Proofs.YtfpkfgimhanekaaGreat

/- A redex of a term contracted. No program is in sight. -/
namespace Go.Proofs.YtfpkfgimhanekaaGreat
open Go.RowKit
open Tr (Tm)

/-- What a redex that is read with n variables is contracted to. -/
def ctr (t : Tm) (n : Int) : List Tn :=
  match t with
  | .t2 _ f u => Tr.mapN (putN n (Tr.enc u)) (Tr.kid f 0) (n + 1)
  | .t3 _ f a b => Tr.mapN (putN n (Tr.enc (Tr.kid f 0))) (if (Tr.hd f).1 = 6 then a else b) (n + 1)
  | .t1 x f => Tr.enc (Tr.kid f (if x.1 = 4 then 0 else 1))
  | .t0 x => [x]
/-- One part, contracted where the index lies in it. -/
def ctAt : Tm → Int → Nat → List Tn
  | t, n, 0 => ctr t n
  | .t0 x, _, _ + 1 => [x]
  | .t1 x a, n, i + 1 => x :: (if i < (Tr.enc a).length then ctAt a (n + Tr.bd x.1 0) i else Tr.enc a)
  | .t2 x a b, n, i + 1 => x :: ((if i < (Tr.enc a).length then ctAt a (n + Tr.bd x.1 0) i else Tr.enc a) ++ (if (Tr.enc a).length ≤ i ∧ i < (Tr.enc a).length + (Tr.enc b).length then ctAt b (n + Tr.bd x.1 1) (i - (Tr.enc a).length) else Tr.enc b))
  | .t3 x a b c, n, i + 1 => x :: ((if i < (Tr.enc a).length then ctAt a (n + Tr.bd x.1 0) i else Tr.enc a) ++ ((if (Tr.enc a).length ≤ i ∧ i < (Tr.enc a).length + (Tr.enc b).length then ctAt b (n + Tr.bd x.1 1) (i - (Tr.enc a).length) else Tr.enc b) ++ (if (Tr.enc a).length + (Tr.enc b).length ≤ i ∧ i < (Tr.enc a).length + (Tr.enc b).length + (Tr.enc c).length then ctAt c (n + Tr.bd x.1 2) (i - ((Tr.enc a).length + (Tr.enc b).length)) else Tr.enc c)))
/-- Part j, contracted if the index lies in it. -/
def ctP (t : Tm) (n : Int) (i j : Nat) : List Tn := if Tr.off t j ≤ i ∧ i < Tr.off t j + (Tr.enc (Tr.kid t j)).length then ctAt (Tr.kid t j) (n + Tr.bd (Tr.hd t).1 j) (i - Tr.off t j) else Tr.enc (Tr.kid t j)
/-- The first j parts of a term. -/
def ctL (t : Tm) (n : Int) (i : Nat) : Nat → List Tn
  | 0 => [Tr.hd t]
  | j + 1 => ctL t n i j ++ ctP t n i j
theorem ctAt_zero (t : Tm) (n : Int) : ctAt t n 0 = ctr t n := by cases t <;> rfl
theorem selEq {P Q : Prop} [Decidable P] [Decidable Q] {f : Nat → List Tn} {i j : Nat} {e : List Tn} (h : Q ↔ P) (hij : P → j = i) : (if Q then f j else e) = (if P then f i else e) := by
  by_cases hP : P
  · rw [if_pos hP, if_pos (h.mpr hP), hij hP]
  · rw [if_neg hP, if_neg (fun q => hP (h.mp q))]
theorem ctAt_kids {t : Tm} {n : Int} {i : Nat} (hi : 0 < i) : ctAt t n i = ctL t n i (Tr.kids t).length := by
  obtain ⟨k, rfl⟩ : ∃ k, i = k + 1 := ⟨i - 1, by omega⟩
  cases t with
  | t0 x => rfl
  | t1 x a =>
    have e0 : Tr.off (.t1 x a) 0 = 1 := Tr.off_zero _
    have p0 : ctP (.t1 x a) n (k + 1) 0 = (if k < (Tr.enc a).length then ctAt a (n + Tr.bd x.1 0) k else Tr.enc a) := by
      refine selEq (f := ctAt a (n + Tr.bd x.1 0)) ?_ ?_
      · rw [e0]; show _ ∧ _ < 1 + (Tr.enc a).length ↔ _; omega
      · intro _; rw [e0]; omega
    have hL : ctL (.t1 x a) n (k + 1) (Tr.kids (.t1 x a)).length = [x] ++ ctP (.t1 x a) n (k + 1) 0 := rfl
    rw [hL, p0]; rfl
  | t2 x a b =>
    have e0 : Tr.off (.t2 x a b) 0 = 1 := Tr.off_zero _
    have e1 : Tr.off (.t2 x a b) 1 = 1 + (Tr.enc a).length := by simp [Tr.off, Tr.kids]
    have p0 : ctP (.t2 x a b) n (k + 1) 0 = (if k < (Tr.enc a).length then ctAt a (n + Tr.bd x.1 0) k else Tr.enc a) := by
      refine selEq (f := ctAt a (n + Tr.bd x.1 0)) ?_ ?_
      · rw [e0]; show _ ∧ _ < 1 + (Tr.enc a).length ↔ _; omega
      · intro _; rw [e0]; omega
    have p1 : ctP (.t2 x a b) n (k + 1) 1 = (if (Tr.enc a).length ≤ k ∧ k < (Tr.enc a).length + (Tr.enc b).length then ctAt b (n + Tr.bd x.1 1) (k - (Tr.enc a).length) else Tr.enc b) := by
      refine selEq (f := ctAt b (n + Tr.bd x.1 1)) ?_ ?_
      · rw [e1]; show _ ∧ _ < 1 + (Tr.enc a).length + (Tr.enc b).length ↔ _; omega
      · intro _; rw [e1]; omega
    have hL : ctL (.t2 x a b) n (k + 1) (Tr.kids (.t2 x a b)).length = ([x] ++ ctP (.t2 x a b) n (k + 1) 0) ++ ctP (.t2 x a b) n (k + 1) 1 := rfl
    rw [hL, p0, p1, List.append_assoc]; rfl
  | t3 x a b c =>
    have e0 : Tr.off (.t3 x a b c) 0 = 1 := Tr.off_zero _
    have e1 : Tr.off (.t3 x a b c) 1 = 1 + (Tr.enc a).length := by simp [Tr.off, Tr.kids]
    have e2 : Tr.off (.t3 x a b c) 2 = 1 + ((Tr.enc a).length + (Tr.enc b).length) := by simp [Tr.off, Tr.kids]
    have p0 : ctP (.t3 x a b c) n (k + 1) 0 = (if k < (Tr.enc a).length then ctAt a (n + Tr.bd x.1 0) k else Tr.enc a) := by
      refine selEq (f := ctAt a (n + Tr.bd x.1 0)) ?_ ?_
      · rw [e0]; show _ ∧ _ < 1 + (Tr.enc a).length ↔ _; omega
      · intro _; rw [e0]; omega
    have p1 : ctP (.t3 x a b c) n (k + 1) 1 = (if (Tr.enc a).length ≤ k ∧ k < (Tr.enc a).length + (Tr.enc b).length then ctAt b (n + Tr.bd x.1 1) (k - (Tr.enc a).length) else Tr.enc b) := by
      refine selEq (f := ctAt b (n + Tr.bd x.1 1)) ?_ ?_
      · rw [e1]; show _ ∧ _ < 1 + (Tr.enc a).length + (Tr.enc b).length ↔ _; omega
      · intro _; rw [e1]; omega
    have p2 : ctP (.t3 x a b c) n (k + 1) 2 = (if (Tr.enc a).length + (Tr.enc b).length ≤ k ∧ k < (Tr.enc a).length + (Tr.enc b).length + (Tr.enc c).length then ctAt c (n + Tr.bd x.1 2) (k - ((Tr.enc a).length + (Tr.enc b).length)) else Tr.enc c) := by
      refine selEq (f := ctAt c (n + Tr.bd x.1 2)) ?_ ?_
      · rw [e2]; show _ ∧ _ < 1 + ((Tr.enc a).length + (Tr.enc b).length) + (Tr.enc c).length ↔ _; omega
      · intro _; rw [e2]; omega
    have hL : ctL (.t3 x a b c) n (k + 1) (Tr.kids (.t3 x a b c)).length = (([x] ++ ctP (.t3 x a b c) n (k + 1) 0) ++ ctP (.t3 x a b c) n (k + 1) 1) ++ ctP (.t3 x a b c) n (k + 1) 2 := rfl
    rw [hL, p0, p1, p2, List.append_assoc, List.append_assoc]; rfl

theorem hd_at (f : Tm) : tk (Tr.enc f) 0 = (Tr.hd f).1 := (enc_at0 f).1
/-- The last node of a term has no parts. -/
theorem last_leaf {p : Tn → Prop} : ∀ t : Tm, Tr.wf p t → Tr.ar (tk (Tr.enc t) ((Tr.enc t).length - 1)) = 0 := by
  have happ : ∀ (xs ys : List Tn), 1 ≤ ys.length → tk (xs ++ ys) ((xs ++ ys).length - 1) = tk ys (ys.length - 1) := by
    intro xs ys h
    simp only [tk, List.getD, List.length_append]
    rw [List.getElem?_append_right (by omega), show xs.length + ys.length - 1 - xs.length = ys.length - 1 by omega]
  intro t
  induction t with
  | t0 x => intro h; exact h.1
  | t1 x a ha =>
    intro h
    have := happ [x] (Tr.enc a) (Tr.enc_pos a)
    simp only [List.singleton_append] at this
    simp only [Tr.enc]
    rw [this]
    exact ha h.2
  | t2 x a b ha hb =>
    intro h
    have := happ (x :: Tr.enc a) (Tr.enc b) (Tr.enc_pos b)
    simp only [List.cons_append] at this
    simp only [Tr.enc]
    rw [this]
    exact hb h.2.2
  | t3 x a b c ha hb hc =>
    intro h
    have := happ (x :: (Tr.enc a ++ Tr.enc b)) (Tr.enc c) (Tr.enc_pos c)
    simp only [List.cons_append, List.append_assoc] at this
    simp only [Tr.enc]
    rw [this]
    exact hc h.2.2.2
theorem rdx_ar {a b : Int} (h : rdx a b = true) : Tr.ar a ≠ 0 := by
  unfold rdx at h
  split at h
  · rename_i h2
    have : a = 2 := by simpa using h2
    subst this; decide
  · split at h
    · rename_i h4
      have : a = 4 ∨ a = 5 := by simpa using h4
      rcases this with rfl | rfl <;> decide
    · split at h
      · rename_i h8
        have : a = 8 := by simpa using h8
        subst this; decide
      · cases h
theorem tk_part {t : Tm} {j i : Nat} (hj : j < (Tr.kids t).length) (hi : i < (Tr.enc (Tr.kid t j)).length) : tk (Tr.enc t) (Tr.off t j + i) = tk (Tr.enc (Tr.kid t j)) i := by
  have h := Tr.drop_part hj
  rw [Tr.kid_eq hj] at h
  have h1 : (Tr.enc t)[Tr.off t j + i]? = (Tr.enc (Tr.kid t j))[i]? := by
    rw [← List.getElem?_drop, h, List.getElem?_append_left hi]
  simp only [tk, List.getD, h1]
/-- A redex that begins in a part lies in it. -/
theorem rdx_part {p : Tn → Prop} {t : Tm} {i j : Nat} (hw : Tr.wf p t) (hr : rdxAt (Tr.enc t) i = true) (hj : j < (Tr.kids t).length) (h1 : Tr.off t j ≤ i) (h2 : i < Tr.off t j + (Tr.enc (Tr.kid t j)).length) : rdxAt (Tr.enc (Tr.kid t j)) (i - Tr.off t j) = true := by
  unfold rdxAt at hr ⊢
  simp only [Bool.and_eq_true, decide_eq_true_eq] at hr ⊢
  obtain ⟨hr1, hr2⟩ := hr
  obtain ⟨k, rfl⟩ : ∃ k, i = Tr.off t j + k := ⟨i - Tr.off t j, by omega⟩
  rw [Nat.add_sub_cancel_left]
  have hk : k < (Tr.enc (Tr.kid t j)).length := by omega
  have hwk := Tr.kids_wf hw _ (Tr.kid_mem hj)
  have hlt : k + 1 < (Tr.enc (Tr.kid t j)).length := by
    rcases Nat.lt_or_ge (k + 1) (Tr.enc (Tr.kid t j)).length with h | h
    · exact h
    · have e : k = (Tr.enc (Tr.kid t j)).length - 1 := by omega
      have := last_leaf _ hwk
      rw [← e] at this
      rw [tk_part hj hk] at hr2
      exact absurd this (rdx_ar hr2)
  refine ⟨hlt, ?_⟩
  rw [tk_part hj hk, Nat.add_assoc, tk_part hj hlt] at hr2
  exact hr2
/-- The shape of a term that is a redex. -/
theorem rdx_shape {t : Tm} (hg : Good t) (hr : rdxAt (Tr.enc t) 0 = true) :
    (∃ x y b u, t = .t2 x (.t1 y b) u ∧ x.1 = 2 ∧ y.1 = 1) ∨ (∃ x y a b, t = .t1 x (.t2 y a b) ∧ (x.1 = 4 ∨ x.1 = 5) ∧ y.1 = 3) ∨ (∃ x y s a b, t = .t3 x (.t1 y s) a b ∧ x.1 = 8 ∧ (y.1 = 6 ∨ y.1 = 7)) := by
  unfold rdxAt at hr
  simp only [Bool.and_eq_true, decide_eq_true_eq] at hr
  obtain ⟨h1, h2⟩ := hr
  have hkinds : ∀ (a b : Int), rdx a b = true → (a = 2 ∧ b = 1) ∨ ((a = 4 ∨ a = 5) ∧ b = 3) ∨ (a = 8 ∧ (b = 6 ∨ b = 7)) := by
    intro a b h
    unfold rdx at h
    split at h
    · rename_i h0; exact .inl ⟨by simpa using h0, by simpa using h⟩
    · split at h
      · rename_i h0; exact .inr (.inl ⟨by simpa using h0, by simpa using h⟩)
      · split at h
        · rename_i h0; exact .inr (.inr ⟨by simpa using h0, by simpa using h⟩)
        · cases h
  cases t with
  | t0 x => simp [Tr.enc] at h1
  | t1 x f =>
    have hf := hd_at f
    have e1 : tk (Tr.enc (.t1 x f)) 0 = x.1 := rfl
    have e2 : tk (Tr.enc (.t1 x f)) (0 + 1) = tk (Tr.enc f) 0 := rfl
    rw [e1, e2, hf] at h2
    have ha : Tr.ar x.1 = 1 := hg.1.1
    have hgf : Good f := hg.2
    rcases hkinds _ _ h2 with ⟨a1, a2⟩ | ⟨a1, a2⟩ | ⟨a1, a2⟩
    · rw [a1] at ha; exact absurd ha (by decide)
    · cases f with
      | t0 y => have hy : Tr.ar y.1 = 0 := hgf.1; simp only [Tr.hd] at a2; rw [a2] at hy; exact absurd hy (by decide)
      | t1 y _ => have hy : Tr.ar y.1 = 1 := hgf.1.1; simp only [Tr.hd] at a2; rw [a2] at hy; exact absurd hy (by decide)
      | t2 y a b => exact .inr (.inl ⟨x, y, a, b, rfl, a1, a2⟩)
      | t3 y _ _ _ => have hy : Tr.ar y.1 = 3 := hgf.1.1; simp only [Tr.hd] at a2; rw [a2] at hy; exact absurd hy (by decide)
    · rw [a1] at ha; exact absurd ha (by decide)
  | t2 x f u =>
    have hf := hd_at f
    have e1 : tk (Tr.enc (.t2 x f u)) 0 = x.1 := rfl
    have e2 : tk (Tr.enc (.t2 x f u)) (0 + 1) = tk (Tr.enc f) 0 := by
      obtain ⟨r, hr⟩ := Tr.enc_hd f
      simp only [Tr.enc, hr]; rfl
    rw [e1, e2, hf] at h2
    have ha : Tr.ar x.1 = 2 := hg.1.1
    have hgf : Good f := hg.2.1
    rcases hkinds _ _ h2 with ⟨a1, a2⟩ | ⟨a1, a2⟩ | ⟨a1, a2⟩
    · cases f with
      | t0 y => have hy : Tr.ar y.1 = 0 := hgf.1; simp only [Tr.hd] at a2; rw [a2] at hy; exact absurd hy (by decide)
      | t1 y b => exact .inl ⟨x, y, b, u, rfl, a1, a2⟩
      | t2 y _ _ => have hy : Tr.ar y.1 = 2 := hgf.1.1; simp only [Tr.hd] at a2; rw [a2] at hy; exact absurd hy (by decide)
      | t3 y _ _ _ => have hy : Tr.ar y.1 = 3 := hgf.1.1; simp only [Tr.hd] at a2; rw [a2] at hy; exact absurd hy (by decide)
    · rcases a1 with a1 | a1 <;> rw [a1] at ha <;> exact absurd ha (by decide)
    · rw [a1] at ha; exact absurd ha (by decide)
  | t3 x f a b =>
    have hf := hd_at f
    have e1 : tk (Tr.enc (.t3 x f a b)) 0 = x.1 := rfl
    have e2 : tk (Tr.enc (.t3 x f a b)) (0 + 1) = tk (Tr.enc f) 0 := by
      obtain ⟨r, hr⟩ := Tr.enc_hd f
      simp only [Tr.enc, hr]; rfl
    rw [e1, e2, hf] at h2
    have ha : Tr.ar x.1 = 3 := hg.1.1
    have hgf : Good f := hg.2.1
    rcases hkinds _ _ h2 with ⟨a1, a2⟩ | ⟨a1, a2⟩ | ⟨a1, a2⟩
    · rw [a1] at ha; exact absurd ha (by decide)
    · rcases a1 with a1 | a1 <;> rw [a1] at ha <;> exact absurd ha (by decide)
    · cases f with
      | t0 y => have hy : Tr.ar y.1 = 0 := hgf.1; simp only [Tr.hd] at a2; rcases a2 with a2 | a2 <;> rw [a2] at hy <;> exact absurd hy (by decide)
      | t1 y s => exact .inr (.inr ⟨x, y, s, a, b, rfl, a1, a2⟩)
      | t2 y _ _ => have hy : Tr.ar y.1 = 2 := hgf.1.1; simp only [Tr.hd] at a2; rcases a2 with a2 | a2 <;> rw [a2] at hy <;> exact absurd hy (by decide)
      | t3 y _ _ _ => have hy : Tr.ar y.1 = 3 := hgf.1.1; simp only [Tr.hd] at a2; rcases a2 with a2 | a2 <;> rw [a2] at hy <;> exact absurd hy (by decide)
end Go.Proofs.YtfpkfgimhanekaaGreat

/- Lengths and nodes of contracted terms. No program is in sight. -/
namespace Go.Proofs.YtfpkfgimhanekaaGreat
open Go.RowKit
open Tr (Tm)

theorem wf_all {p : Tn → Prop} : ∀ t : Tm, Tr.wf p t → ∀ x ∈ Tr.enc t, p x := by
  intro t
  induction t with
  | t0 x => intro h y hy; simp [Tr.enc] at hy; subst hy; exact h.2
  | t1 x a ha =>
    intro h y hy
    simp only [Tr.enc, List.mem_cons] at hy
    rcases hy with rfl | hy
    · exact h.1.2
    · exact ha h.2 y hy
  | t2 x a b ha hb =>
    intro h y hy
    simp only [Tr.enc, List.mem_cons, List.mem_append] at hy
    rcases hy with rfl | hy | hy
    · exact h.1.2
    · exact ha h.2.1 y hy
    · exact hb h.2.2 y hy
  | t3 x a b c ha hb hc =>
    intro h y hy
    simp only [Tr.enc, List.mem_cons, List.mem_append] at hy
    rcases hy with rfl | hy | hy | hy
    · exact h.1.2
    · exact ha h.2.1 y hy
    · exact hb h.2.2.1 y hy
    · exact hc h.2.2.2 y hy
theorem good_numOk {t : Tm} (h : Good t) : NumOk (Tr.enc t) := fun i hi => by
  have h1 := wf_all t h _ (List.getElem_mem hi)
  rw [tk_lt hi] at h1
  have := tnB_num0 h1
  simp only at this
  omega

theorem putN_mem {P : Tn → Prop} (hP : ∀ k d x, P x → P (raiseN k d x)) (hD : ∀ x : Tn, P x → P (x.1, x.2.1 - 1, x.2.2)) {n : Int} {us : List Tn} (hu : ∀ y ∈ us, P y) (x : Tn) (m : Int) (hx : P x) : ∀ y ∈ putN n us x m, P y := by
  intro y hy
  unfold putN at hy
  split at hy
  · simp only [raiseL, List.mem_map] at hy
    obtain ⟨z, hz, rfl⟩ := hy
    exact hP _ _ _ (hu z hz)
  · split at hy
    · simp at hy; subst hy; exact hD _ hx
    · simp at hy; subst hy; exact hx
theorem ctr_mem {P : Tn → Prop} (hP : ∀ k d x, P x → P (raiseN k d x)) (hD : ∀ x : Tn, P x → P (x.1, x.2.1 - 1, x.2.2)) {t : Tm} {n : Int} (hg : Good t) (hr : rdxAt (Tr.enc t) 0 = true) (h : ∀ x ∈ Tr.enc t, P x) : ∀ y ∈ ctr t n, P y := by
  rcases rdx_shape hg hr with ⟨x, y, b, u, rfl, hx, hy⟩ | ⟨x, y, a, b, rfl, hx, hy⟩ | ⟨x, y, s, a, b, rfl, hx, hy⟩
  · exact Tr.mapN_mem (P := P) (fun z m hz => putN_mem hP hD (fun q hq => h q (by simp [Tr.enc, hq])) z m hz) b _ (fun q hq => h q (by simp [Tr.enc, hq]))
  · intro z hz
    rcases hx with hx | hx
    · have e : ctr (.t1 x (.t2 y a b)) n = Tr.enc a := by simp [ctr, hx, Tr.kid, Tr.kids]
      rw [e] at hz; exact h z (by simp [Tr.enc, hz])
    · have e : ctr (.t1 x (.t2 y a b)) n = Tr.enc b := by simp [ctr, hx, Tr.kid, Tr.kids]
      rw [e] at hz; exact h z (by simp [Tr.enc, hz])
  · refine Tr.mapN_mem (P := P) (fun z m hz => putN_mem hP hD (fun q hq => h q (by simp only [Tr.kid, Tr.kids, List.getD_cons_zero] at hq; simp [Tr.enc, hq])) z m hz) _ _ (fun q hq => h q ?_)
    split at hq <;> simp [Tr.enc, hq]
theorem ctr_len {t : Tm} {n : Int} {M : Nat} (hg : Good t) (hr : rdxAt (Tr.enc t) 0 = true) (hM : (Tr.enc t).length ≤ M) : (ctr t n).length ≤ (Tr.enc t).length * (M + 1) := by
  rcases rdx_shape hg hr with ⟨x, y, b, u, rfl, hx, hy⟩ | ⟨x, y, a, b, rfl, hx, hy⟩ | ⟨x, y, s, a, b, rfl, hx, hy⟩
  · have h1 := Tr.mapN_len (f := putN n (Tr.enc u)) (M := (Tr.enc u).length + 1) (by omega) (fun x m => putN_len n _ x m) b (n + 1)
    refine Nat.le_trans h1 (Nat.mul_le_mul ?_ ?_)
    · simp [Tr.enc]; omega
    · simp [Tr.enc] at hM; omega
  · have h1 : (ctr (.t1 x (.t2 y a b)) n).length ≤ (Tr.enc (.t1 x (.t2 y a b))).length := by
      rcases hx with hx | hx
      · have e : ctr (.t1 x (.t2 y a b)) n = Tr.enc a := by simp [ctr, hx, Tr.kid, Tr.kids]
        rw [e]; simp [Tr.enc]; omega
      · have e : ctr (.t1 x (.t2 y a b)) n = Tr.enc b := by simp [ctr, hx, Tr.kid, Tr.kids]
        rw [e]; simp [Tr.enc]; omega
    exact Nat.le_trans h1 (Nat.le_mul_of_pos_right _ (by omega))
  · have h1 := Tr.mapN_len (f := putN n (Tr.enc s)) (M := (Tr.enc s).length + 1) (by omega) (fun x m => putN_len n _ x m) (if (Tr.hd (.t1 y s)).1 = 6 then a else b) (n + 1)
    refine Nat.le_trans h1 (Nat.mul_le_mul ?_ ?_)
    · split <;> (simp [Tr.enc]; omega)
    · simp [Tr.enc] at hM; omega

/-- The part in which an index lies. -/
theorem rdx_kid {t : Tm} {i j : Nat} (hg : Good t) (hr : rdxAt (Tr.enc t) i = true) (hj : j < (Tr.kids t).length) (h : Tr.off t j ≤ i ∧ i < Tr.off t j + (Tr.enc (Tr.kid t j)).length) : rdxAt (Tr.enc (Tr.kid t j)) (i - Tr.off t j) = true := rdx_part hg hr hj h.1 h.2
theorem ctAt_len {M : Nat} : ∀ t : Tm, Good t → ∀ (n : Int) (i : Nat), rdxAt (Tr.enc t) i = true → (Tr.enc t).length ≤ M → (ctAt t n i).length ≤ (Tr.enc t).length * (M + 1) := by
  intro t
  refine Tr.ind (P := fun t => Good t → ∀ (n : Int) (i : Nat), rdxAt (Tr.enc t) i = true → (Tr.enc t).length ≤ M → (ctAt t n i).length ≤ (Tr.enc t).length * (M + 1)) ?_ t
  intro t ih hg n i hr hM
  by_cases hi : i = 0
  · subst hi
    rw [ctAt_zero]
    exact ctr_len hg hr hM
  rw [ctAt_kids (by omega)]
  have hL : ∀ j, j ≤ (Tr.kids t).length → (ctL t n i j).length ≤ Tr.off t j * (M + 1) := by
    intro j
    induction j with
    | zero => intro _; rw [Tr.off_zero]; simp [ctL]
    | succ j ihj =>
      intro hj
      have h1 := ihj (by omega)
      have h2 : (ctP t n i j).length ≤ (Tr.enc (Tr.kid t j)).length * (M + 1) := by
        unfold ctP
        split
        · rename_i hc
          exact ih _ (Tr.kid_mem (by omega)) (Tr.kids_wf hg _ (Tr.kid_mem (by omega))) _ _ (rdx_kid hg hr (by omega) hc) (by have := Tr.kid_small (t := t) (i := j) (by omega); omega)
        · exact Nat.le_mul_of_pos_right _ (by omega)
      rw [ctL, List.length_append, Tr.off_next (by omega), Nat.add_mul]
      omega
  refine Nat.le_trans (hL _ (Nat.le_refl _)) (Nat.mul_le_mul_right _ ?_)
  have h1 : (Tr.enc t).length = 1 + ((Tr.kids t).flatMap Tr.enc).length := by rw [Tr.enc_kids]; simp; omega
  unfold Tr.off
  rw [List.take_length]
  omega
theorem ctL_len {M : Nat} {t : Tm} {n : Int} {i : Nat} (hg : Good t) (hr : rdxAt (Tr.enc t) i = true) (hM : (Tr.enc t).length ≤ M) : ∀ j, j ≤ (Tr.kids t).length → (ctL t n i j).length ≤ Tr.off t j * (M + 1) := by
  intro j
  induction j with
  | zero => intro _; rw [Tr.off_zero]; simp [ctL]
  | succ j ihj =>
    intro hj
    have h1 := ihj (by omega)
    have h2 : (ctP t n i j).length ≤ (Tr.enc (Tr.kid t j)).length * (M + 1) := by
      unfold ctP
      split
      · rename_i hc
        exact ctAt_len _ (Tr.kids_wf hg _ (Tr.kid_mem (by omega))) _ _ (rdx_kid hg hr (by omega) hc) (by have := Tr.kid_small (t := t) (i := j) (by omega); omega)
      · exact Nat.le_mul_of_pos_right _ (by omega)
    rw [ctL, List.length_append, Tr.off_next (by omega), Nat.add_mul]
    omega
theorem ctAt_mem {P : Tn → Prop} (hP : ∀ k d x, P x → P (raiseN k d x)) (hD : ∀ x : Tn, P x → P (x.1, x.2.1 - 1, x.2.2)) : ∀ t : Tm, Good t → ∀ (n : Int) (i : Nat), rdxAt (Tr.enc t) i = true → (∀ x ∈ Tr.enc t, P x) → ∀ y ∈ ctAt t n i, P y := by
  intro t
  refine Tr.ind (P := fun t => Good t → ∀ (n : Int) (i : Nat), rdxAt (Tr.enc t) i = true → (∀ x ∈ Tr.enc t, P x) → ∀ y ∈ ctAt t n i, P y) ?_ t
  intro t ih hg n i hr h
  by_cases hi : i = 0
  · subst hi
    rw [ctAt_zero]
    exact ctr_mem hP hD hg hr h
  rw [ctAt_kids (by omega)]
  have hk : ∀ j, j < (Tr.kids t).length → ∀ x ∈ Tr.enc (Tr.kid t j), P x := by
    intro j hj x hx
    refine h x ?_
    rw [Tr.enc_kids]
    exact List.mem_cons_of_mem _ (List.mem_flatMap.2 ⟨_, Tr.kid_mem hj, hx⟩)
  have hL : ∀ j, j ≤ (Tr.kids t).length → ∀ y ∈ ctL t n i j, P y := by
    intro j
    induction j with
    | zero => intro _ y hy; simp [ctL] at hy; subst hy; exact h _ (by rw [Tr.enc_kids]; exact List.mem_cons_self)
    | succ j ihj =>
      intro hj y hy
      rw [ctL, List.mem_append] at hy
      rcases hy with hy | hy
      · exact ihj (by omega) y hy
      · unfold ctP at hy
        split at hy
        · rename_i hc
          exact ih _ (Tr.kid_mem (by omega)) (Tr.kids_wf hg _ (Tr.kid_mem (by omega))) _ _ (rdx_kid hg hr (by omega) hc) (hk j (by omega)) y hy
        · exact hk j (by omega) y hy
  exact hL _ (Nat.le_refl _)
theorem ctAt_fits {t : Tm} {n : Int} {i : Nat} (hg : Good t) (hr : rdxAt (Tr.enc t) i = true) (h : FitsT (Tr.enc t)) : FitsT (ctAt t n i) := by
  rw [fits_mem] at *
  refine ctAt_mem (P := fun x => x.2.2.size ≤ 1048576) (fun k d x hx => ?_) (fun x hx => hx) t hg n i hr h
  unfold raiseN
  split <;> exact hx
end Go.Proofs.YtfpkfgimhanekaaGreat
